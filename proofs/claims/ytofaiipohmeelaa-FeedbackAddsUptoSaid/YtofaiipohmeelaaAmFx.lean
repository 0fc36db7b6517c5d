/-
  Exact numbers by their steps: 'Fx u b n': the word b stands for n steps of 2 ^ -u. No program in sight but for the abstract machine's operations on numbers.
-/
import Derived.Test.YtofaiipohmeelaaAmWalk
import Derived.Test.YtofaiipohmeelaaAmFlt2
set_option exponentiation.threshold 3000
set_option linter.all false
namespace Go.Proofs.Ytofaiipohmeelaa.Am
open Ieee

def Fx (u b : Nat) (n : Int) : Prop := fv b = some (n * 2 ^ (1074 - u))

theorem ipow_pos (k : Nat) : (0 : Int) < 2 ^ k := Int.pow_pos (by omega)

theorem fits_pow {n : Int} {k : Nat} (h : n.natAbs < 2 ^ 53) (hk : k ≤ 1074) : Fits (n * 2 ^ k).natAbs := by
  refine ⟨n.natAbs, k, ?_, h, by omega⟩
  rw [Int.natAbs_mul, Int.natAbs_pow]
  rfl

theorem Fx.add {u a b : Nat} {x y : Int} (hx : Fx u a x) (hy : Fx u b y) (h : (x + y).natAbs < 2 ^ 53) : ∃ r, double.add a b = some r ∧ Fx u r (x + y) := by
  obtain ⟨r, e, hr⟩ := fv_add hx hy (by rw [← Int.add_mul]; exact fits_pow h (by omega))
  exact ⟨r, e, by rw [← Int.add_mul] at hr; exact hr⟩

theorem Fx.sub {u a b : Nat} {x y : Int} (hx : Fx u a x) (hy : Fx u b y) (h : (x - y).natAbs < 2 ^ 53) : ∃ r, double.sub a b = some r ∧ Fx u r (x - y) := by
  obtain ⟨r, e, hr⟩ := fv_sub hx hy (by rw [← Int.sub_mul]; exact fits_pow h (by omega))
  exact ⟨r, e, by rw [← Int.sub_mul] at hr; exact hr⟩

theorem Fx.mul {u v a b : Nat} {x y : Int} (hx : Fx u a x) (hy : Fx v b y) (huv : u + v ≤ 1074) (h : (x * y).natAbs < 2 ^ 53) : ∃ r, double.mul a b = some r ∧ Fx (u + v) r (x * y) := by
  refine fv_mul hx hy ?_ (fits_pow h (by omega))
  have e : (2 : Int) ^ (1074 - u) * 2 ^ (1074 - v) = 2 ^ (1074 - (u + v)) * 2 ^ 1074 := by
    rw [← Int.pow_add, ← Int.pow_add]
    congr 1
    omega
  generalize (2 : Int) ^ (1074 - u) = A at e ⊢
  generalize (2 : Int) ^ (1074 - v) = B at e ⊢
  generalize (2 : Int) ^ (1074 - (u + v)) = C at e ⊢
  generalize (2 : Int) ^ 1074 = D at e ⊢
  rw [Int.mul_assoc (x * y), ← e]
  simp only [Int.mul_comm, Int.mul_left_comm]

theorem Fx.finer {u b : Nat} {n : Int} (hx : Fx u b n) (k : Nat) (h : u + k ≤ 1074) : Fx (u + k) b (n * 2 ^ k) := by
  unfold Fx at hx ⊢
  rw [hx, Int.mul_assoc, ← Int.pow_add]
  congr 3
  omega

theorem Fx.coarser {u b : Nat} {n : Int} {k : Nat} (h : u + k ≤ 1074) (hx : Fx (u + k) b (n * 2 ^ k)) : Fx u b n := by
  unfold Fx at hx ⊢
  rw [hx, Int.mul_assoc, ← Int.pow_add]
  congr 3
  omega

theorem Fx.cast {u b : Nat} {n m : Int} (hx : Fx u b n) (e : n = m) : Fx u b m := e ▸ hx

theorem Fx.inj {u b : Nat} {n m : Int} (hx : Fx u b n) (hy : Fx u b m) : n = m := by
  unfold Fx at hx hy
  rw [hx] at hy
  simp only [Option.some.injEq] at hy
  exact Int.eq_of_mul_eq_mul_right (Int.ne_of_gt (ipow_pos _)) hy

theorem Fx.neg {u b : Nat} {n : Int} (hx : Fx u b n) : Fx u (negF b) (-n) := by
  have := fv_flip hx
  unfold Fx
  rw [Int.neg_mul]
  exact this

theorem Fx.abs {u b : Nat} {n : Int} (hx : Fx u b n) : Fx u (b % 2 ^ 63) n.natAbs := by
  have := fv_low hx
  unfold Fx
  rw [this, Int.natAbs_mul, Int.natCast_mul, Int.natAbs_pow]
  rfl

theorem nearest_eq (n : Int) : FloatKind.f64.nearest n = Ieee.double.write (.number (decide (n < 0)) n.natAbs 0) := rfl

theorem Fx.ofInt {n : Int} (h : n.natAbs < 2 ^ 53) : Fx 0 (FloatKind.f64.nearest n) n := by
  unfold Fx
  rw [nearest_eq]
  exact fv_int h

theorem fCmp_of {a b : Nat} {x y : Int} (hx : fv a = some x) (hy : fv b = some y) :
    fCmp .lss a b = some (decide (x < y)) ∧ fCmp .leq a b = some (decide (x ≤ y)) ∧ fCmp .gtr a b = some (decide (y < x)) ∧ fCmp .geq a b = some (decide (y ≤ x)) ∧ fCmp .eql a b = some (decide (x = y)) ∧ fCmp .neq a b = some (!decide (x = y)) := by
  simp only [fCmp, fv_order hx hy]
  rcases Int.lt_trichotomy x y with h | h | h
  · have e : compare x y = .lt := by simp [compare, compareOfLessAndEq, h]
    rw [e]
    have h1 : x ≤ y := by omega
    have h2 : ¬ y < x := by omega
    have h3 : ¬ y ≤ x := by omega
    have h4 : x ≠ y := by omega
    simp only [h, h1, h2, h3, h4, decide_true, decide_false]
    exact ⟨rfl, rfl, rfl, rfl, rfl, rfl⟩
  · subst h
    have h0 : ¬ x < x := by omega
    have h1 : x ≤ x := by omega
    simp only [h0, h1, decide_true, decide_false]
    simp
  · have h0 : ¬ x < y := by omega
    have h4 : x ≠ y := by omega
    have e : compare x y = .gt := by simp [compare, compareOfLessAndEq, h0, h4]
    rw [e]
    have h1 : ¬ x ≤ y := by omega
    have h3 : y ≤ x := by omega
    simp only [h, h0, h1, h3, h4, decide_true, decide_false]
    exact ⟨rfl, rfl, rfl, rfl, rfl, rfl⟩

theorem scale_lt {x y : Int} (k : Nat) : (x * 2 ^ k < y * 2 ^ k) ↔ x < y := Int.mul_lt_mul_right (ipow_pos k)
theorem scale_le {x y : Int} (k : Nat) : (x * 2 ^ k ≤ y * 2 ^ k) ↔ x ≤ y := by
  have := scale_lt (x := y) (y := x) k
  omega
theorem scale_eq {x y : Int} (k : Nat) : (x * 2 ^ k = y * 2 ^ k) ↔ x = y := by
  have h1 := scale_lt (x := y) (y := x) k
  have h2 := scale_lt (x := x) (y := y) k
  omega

theorem Fx.lss {u a b : Nat} {x y : Int} (hx : Fx u a x) (hy : Fx u b y) : fCmp .lss a b = some (decide (x < y)) := by
  rw [(fCmp_of hx hy).1]; simp only [scale_lt]
theorem Fx.leq {u a b : Nat} {x y : Int} (hx : Fx u a x) (hy : Fx u b y) : fCmp .leq a b = some (decide (x ≤ y)) := by
  rw [(fCmp_of hx hy).2.1]; simp only [scale_le]
theorem Fx.gtr {u a b : Nat} {x y : Int} (hx : Fx u a x) (hy : Fx u b y) : fCmp .gtr a b = some (decide (y < x)) := by
  rw [(fCmp_of hx hy).2.2.1]; simp only [scale_lt]
theorem Fx.geq {u a b : Nat} {x y : Int} (hx : Fx u a x) (hy : Fx u b y) : fCmp .geq a b = some (decide (y ≤ x)) := by
  rw [(fCmp_of hx hy).2.2.2.1]; simp only [scale_le]
theorem Fx.eql {u a b : Nat} {x y : Int} (hx : Fx u a x) (hy : Fx u b y) : fCmp .eql a b = some (decide (x = y)) := by
  rw [(fCmp_of hx hy).2.2.2.2.1]; simp only [scale_eq]
theorem Fx.neq {u a b : Nat} {x y : Int} (hx : Fx u a x) (hy : Fx u b y) : fCmp .neq a b = some (!decide (x = y)) := by
  rw [(fCmp_of hx hy).2.2.2.2.2]; simp only [scale_eq]

theorem Fx.order {u a b : Nat} {x y : Int} (hx : Fx u a x) (hy : Fx u b y) : (double.order a b == some .eq) = decide (x = y) := by
  have := hx.eql hy
  simp only [fCmp, Option.some.injEq] at this
  exact this

/-- Complex numbers, held against each other. -/
theorem Fx.ceql {u a b c d : Nat} {x y z w : Int} (h1 : Fx u a x) (h2 : Fx u b y) (h3 : Fx u c z) (h4 : Fx u d w) : binA .eql (.cpx a b) (.cpx c d) = some (.bool (decide (x = z) && decide (y = w))) := by
  show some (AV.bool (double.order a c == some .eq && double.order b d == some .eq)) = _
  rw [h1.order h3, h2.order h4]
theorem Fx.cneq {u a b c d : Nat} {x y z w : Int} (h1 : Fx u a x) (h2 : Fx u b y) (h3 : Fx u c z) (h4 : Fx u d w) : binA .neq (.cpx a b) (.cpx c d) = some (.bool (!(decide (x = z) && decide (y = w)))) := by
  show some (AV.bool (!(double.order a c == some .eq && double.order b d == some .eq))) = _
  rw [h1.order h3, h2.order h4]

theorem fx_0 : fv 0 = some 0 := by decide +kernel
theorem Fx.zero (u : Nat) : Fx u 0 0 := by unfold Fx; rw [fx_0, Int.zero_mul]

/-- Divided by 2 ^ s. -/
theorem Fx.div {u b c : Nat} {n : Int} (hx : Fx u b n) (s : Nat) (hc : double.read c = .number false (2 ^ 52) ((s : Int) - 52)) (hs : s ≤ 100) (hu : u + s ≤ 1074) (h : n.natAbs < 2 ^ 53) : ∃ r, double.div b c = some r ∧ Fx (u + s) r n := by
  refine quot_core hx hc (by omega) (by omega) (z := n * 2 ^ (1074 - (u + s))) (A := s) (B := 0) (by omega) ?_ (fits_pow h (by omega))
  rw [Int.mul_assoc, ← Int.pow_add, Int.pow_zero, Int.mul_one]
  congr 2
  omega

/-- Divided by 2 ^ -s. -/
theorem Fx.div' {u b c : Nat} {n : Int} (hx : Fx u b n) (s : Nat) (hc : double.read c = .number false (2 ^ 52) (-(s : Int) - 52)) (hs : s ≤ 40) (h : (n * 2 ^ s).natAbs < 2 ^ 53) : ∃ r, double.div b c = some r ∧ Fx u r (n * 2 ^ s) := by
  refine quot_core hx hc (by omega) (by omega) (z := n * 2 ^ s * 2 ^ (1074 - u)) (A := 0) (B := s) (by omega) ?_ (fits_pow h (by omega))
  rw [Int.pow_zero, Int.mul_one, Int.mul_assoc, Int.mul_assoc, Int.mul_comm (2 ^ s)]

theorem Fx.whole {b : Nat} {n : Int} (hx : Fx 0 b n) (h : n.natAbs < 2 ^ 53) (way : Ieee.Toward) : ∃ r, evalExt.whole way b = some (.flt r) ∧ Fx 0 r n := by
  obtain ⟨d, h1, h2, h3⟩ := fv_integral way hx (fits_pow h (by omega))
  obtain ⟨s, m, e, k1, _, _⟩ := fv_spec hx
  refine ⟨_, ?_, h3⟩
  rw [← h1, k1]
  unfold evalExt.whole
  rw [k1]

theorem Fx.toInt {b : Nat} {n : Int} (hx : Fx 0 b n) (h : n.natAbs < 2 ^ 53) : fltToInt b .i64 = some (.int .i64 n) := by
  unfold fltToInt
  rw [fv_toInt .zero hx]
  simp only
  rw [if_pos (by constructor <;> (simp [IntKind.min, IntKind.max, IntKind.signed, IntKind.bits]; omega))]

theorem fx_1 : Fx 0 4607182418800017408 1 := by unfold Fx; decide +kernel
theorem fx_64 : Fx 0 4634204016564240384 64 := by unfold Fx; decide +kernel
theorem fx_4096 : Fx 0 4661225614328463360 4096 := by unfold Fx; decide +kernel
theorem fx_1024 : Fx 0 4652218415073722368 1024 := by unfold Fx; decide +kernel
theorem fx_m1024 : Fx 0 13875590451928498176 (-1024) := by unfold Fx; decide +kernel
theorem fx_4 : Fx 0 4616189618054758400 4 := by unfold Fx; decide +kernel
theorem fx_m1 : Fx 0 13830554455654793216 (-1) := by unfold Fx; decide +kernel
theorem fx_half : Fx 2 4602678819172646912 2 := by unfold Fx; decide +kernel
theorem fx_quarter : Fx 2 4598175219545276416 1 := by unfold Fx; decide +kernel
theorem rd_64 : double.read 4634204016564240384 = .number false (2 ^ 52) (((6 : Nat) : Int) - 52) := by decide +kernel
theorem rd_4096 : double.read 4661225614328463360 = .number false (2 ^ 52) (((12 : Nat) : Int) - 52) := by decide +kernel
theorem rd_1 : double.read 4607182418800017408 = .number false (2 ^ 52) (((0 : Nat) : Int) - 52) := by decide +kernel
theorem rd_half : double.read 4602678819172646912 = .number false (2 ^ 52) (-((1 : Nat) : Int) - 52) := by decide +kernel
theorem rd_quarter : double.read 4598175219545276416 = .number false (2 ^ 52) (-((2 : Nat) : Int) - 52) := by decide +kernel

/-! ### Whole numbers of the machine -/
theorem wrap_i64 {n : Int} (h0 : -9223372036854775808 ≤ n) (h1 : n < 9223372036854775808) : wrapK .i64 n = n := by
  simp only [wrapK]
  by_cases hn : 0 ≤ n
  · rw [Int.emod_eq_of_lt hn (by omega)]
    have : (Int.decLt n 9223372036854775808).decide = true := by simp [h1]
    rw [this]; rfl
  · have e : n % 18446744073709551616 = n + 18446744073709551616 := by omega
    rw [e]
    have : (Int.decLt (n + 18446744073709551616) 9223372036854775808).decide = false := by simp; omega
    rw [this]
    simp only [cond_false]
    omega
theorem wrap_i32 {n : Int} (h0 : -2147483648 ≤ n) (h1 : n < 2147483648) : wrapK .i32 n = n := by
  simp only [wrapK]
  by_cases hn : 0 ≤ n
  · rw [Int.emod_eq_of_lt hn (by omega)]
    have : (Int.decLt n 2147483648).decide = true := by simp [h1]
    rw [this]; rfl
  · have e : n % 4294967296 = n + 4294967296 := by omega
    rw [e]
    have : (Int.decLt (n + 4294967296) 2147483648).decide = false := by simp; omega
    rw [this]
    simp only [cond_false]
    omega
theorem abs_add {a b : Int} {A B C : Nat} (ha : a.natAbs ≤ A) (hb : b.natAbs ≤ B) (h : A + B < C) : (a + b).natAbs < C := by omega
theorem abs_sub {a b : Int} {A B C : Nat} (ha : a.natAbs ≤ A) (hb : b.natAbs ≤ B) (h : A + B < C) : (a - b).natAbs < C := by omega
theorem abs_lt {a : Int} {A C : Nat} (ha : a.natAbs ≤ A) (h : A < C) : a.natAbs < C := by omega
theorem lt_yes {a b : Int} (h : a < b) : decide (a < b) = true := decide_eq_true h
theorem lt_no {a b : Int} (h : b ≤ a) : decide (a < b) = false := decide_eq_false (by omega)
theorem le_yes {a b : Int} (h : a ≤ b) : decide (a ≤ b) = true := decide_eq_true h
theorem le_no {a b : Int} (h : b < a) : decide (a ≤ b) = false := decide_eq_false (by omega)
theorem eq_yes {a b : Int} (h : a = b) : decide (a = b) = true := decide_eq_true h
theorem eq_no {a b : Int} (h : a ≠ b) : decide (a = b) = false := decide_eq_false h

end Go.Proofs.Ytofaiipohmeelaa.Am
