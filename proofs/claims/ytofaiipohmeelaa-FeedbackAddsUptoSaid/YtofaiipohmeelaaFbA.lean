/-
  Contracts of small functions: grid.On, steps of taps, sizes, products, turns; the program's and the document's. Each says what a call gives for every argument that it names.
-/
import Derived.Test.YtofaiipohmeelaaFbCode
import Derived.Test.YtofaiipohmeelaaAmFx2
import Derived.Test.YtofaiipohmeelaaAmRow
import Derived.KernelRfl
set_option linter.all false
set_option exponentiation.threshold 3000
namespace Go.Proofs.Ytofaiipohmeelaa.Am
open Ieee
variable {F : Tab}

/-- A call that gives this value and leaves memory as it is. -/
def Tells (F : Tab) (f : FuncId) (args : List AV) (v : AV) : Prop := ∀ (h : Heap) (K : AV → Heap → Prop), CQ F f args h K ↔ K v h

theorem Tells.of {f : FuncId} {args : List AV} {v : AV} (w : ∀ h, CQ F f args h fun u k => u = v ∧ k = h) : Tells F f args v := fun h K => CQ.is (w h) K

theorem floor_ok (c : Cs F) {b r : Nat} (hr : evalExt.whole .down b = some (.flt r)) : Tells F f_math_Floor [.flt b] (.flt r) := by
  have h1 := fun h K => ext_call (F := F) c.math_archFloor (args := [.flt b]) (v := .flt r) (h := h) hr K
  refine .of fun h => ?_
  refine wp_call c.math_Floor rfl (by simp) ?_
  simp [b_math_Floor, h1]

theorem within_ok (c : Cs F) {b : Nat} {p q : Bool} (h1 : fCmp .geq b 13875590451928498176 = some p) (h2 : fCmp .leq b 4652218415073722368 = some q) : Tells F f_grid_within [.flt b] (.bool (p && q)) := by
  refine .of fun h => ?_
  refine wp_call c.grid_within rfl (by simp) ?_
  cases p <;> simp [b_grid_within, h1, h2]

noncomputable def onG (b : Nat) : Bool := @decide (Grid 12 4194304 b) (Classical.propDecidable _)
noncomputable def stpG (b : Nat) : Bool := @decide (Grid 6 64 b) (Classical.propDecidable _)
theorem onG_iff {b : Nat} : onG b = true ↔ Grid 12 4194304 b := by unfold onG; exact @decide_eq_true_iff _ (Classical.propDecidable _)
theorem stpG_iff {b : Nat} : stpG b = true ↔ Grid 6 64 b := by unfold stpG; exact @decide_eq_true_iff _ (Classical.propDecidable _)

theorem big_1024 : (1024 : Nat) * 2 ^ 1074 ≤ 2 ^ 1145 := by decide +kernel
theorem big_1 : (1 : Nat) * 2 ^ 1074 ≤ 2 ^ 1145 := by decide +kernel

/-- Bounds of a number that stands between -B and B. -/
theorem nat_bound {X : Int} {B : Nat} (h1 : -(B : Int) * 2 ^ (1074 - 0) ≤ X) (h2 : X ≤ (B : Int) * 2 ^ (1074 - 0)) : X.natAbs ≤ B * 2 ^ 1074 := by
  have e : ((B * 2 ^ 1074 : Nat) : Int) = (B : Int) * 2 ^ (1074 - 0) := by simp only [Int.natCast_mul, Int.natCast_pow, Nat.sub_zero]; rfl
  rw [Int.neg_mul] at h1
  generalize (B : Int) * 2 ^ (1074 - 0) = Y at h1 h2 e
  generalize B * 2 ^ 1074 = Z at e ⊢
  omega

theorem grid_bound {u B b : Nat} {n : Int} {X : Int} (hu : u ≤ 1074) (hx : fv b = some X) (hn : Fx u b n) (hB : n.natAbs ≤ B * 2 ^ u) : X.natAbs ≤ B * 2 ^ 1074 := by
  unfold Fx at hn
  rw [hx] at hn
  simp only [Option.some.injEq] at hn
  have e' : (2 : Nat) ^ 1074 = 2 ^ u * 2 ^ (1074 - u) := by rw [← Nat.pow_add]; congr 1; omega
  have e2 : ((2 : Int).natAbs : Nat) = 2 := rfl
  rw [hn, Int.natAbs_mul, Int.natAbs_pow, e2, e', ← Nat.mul_assoc]
  exact Nat.mul_le_mul_right _ hB

theorem bound_int {X : Int} {B : Nat} (h : X.natAbs ≤ B * 2 ^ 1074) : -(B : Int) * 2 ^ (1074 - 0) ≤ X ∧ X ≤ (B : Int) * 2 ^ (1074 - 0) := by
  have e : ((B * 2 ^ 1074 : Nat) : Int) = (B : Int) * 2 ^ (1074 - 0) := by simp only [Int.natCast_mul, Int.natCast_pow, Nat.sub_zero]; rfl
  rw [Int.neg_mul]
  generalize (B : Int) * 2 ^ (1074 - 0) = Y at e ⊢
  generalize B * 2 ^ 1074 = Z at e h
  omega

/-- The test 'floor (x * 2^u) = x * 2^u', of a number that is not too great. -/
theorem floor_test {u B b c : Nat} {X : Int} (hu : u ≤ 20) (hx : fv b = some X) (hB : X.natAbs ≤ B * 2 ^ 1074) (hb : B * 2 ^ 1074 ≤ 2 ^ 1145) (hB2 : B * 2 ^ u < 2 ^ 52) (hc : Fx 0 c (2 ^ u)) :
    ∃ y r p, double.mul b c = some y ∧ evalExt.whole .down y = some (.flt r) ∧ fCmp .eql r y = some p ∧ (p = true ↔ Grid u (B * 2 ^ u) b) := by
  obtain ⟨y, hm, hy⟩ := scaled (by omega) hx (Nat.le_trans hB hb) hc
  have hyB : (X * 2 ^ u).natAbs ≤ B * 2 ^ u * 2 ^ 1074 := by
    have e2 : ((2 : Int).natAbs : Nat) = 2 := rfl
    rw [Int.natAbs_mul, Int.natAbs_pow, e2, Nat.mul_right_comm]
    exact Nat.mul_le_mul_right _ hB
  obtain ⟨r, N, hw, hN, _⟩ := whole_int .down hy hyB hB2
  refine ⟨y, r, _, hm, hw, (fCmp_of hN hy).2.2.2.2.1, ?_⟩
  rw [decide_eq_true_eq, ← grid_iff (by omega) hx hB hy]
  constructor
  · intro e; exact ⟨N, by rw [← e]⟩
  · rintro ⟨n, hn⟩
    rw [hn] at hy
    have hf : Fx 0 y n := hy
    have hsm : n.natAbs < 2 ^ 53 := by
      rw [hn, Int.natAbs_mul, Int.natAbs_pow] at hyB
      have := Nat.le_of_mul_le_mul_right hyB (Nat.two_pow_pos 1074)
      have e53 : (2 : Nat) ^ 53 = 2 ^ 52 * 2 := rfl
      omega
    obtain ⟨r', hw', hf'⟩ := hf.whole hsm .down
    rw [hw] at hw'
    simp only [Option.some.injEq, AV.flt.injEq] at hw'
    subst hw'
    rw [hN.inj hf', hn, Nat.sub_zero]

theorem on_ok (c : Cs F) (b : Nat) : Tells F f_grid_On [.flt b] (.bool (onG b)) := by
  obtain ⟨p, q, hp, hq, hpq⟩ := between b fx_m1024 fx_1024
  have hw := within_ok c hp hq
  refine .of fun h => ?_
  refine wp_call c.grid_On rfl (by simp) ?_
  cases hb : (p && q) with
  | false =>
    have : onG b = false := by
      cases ho : onG b with
      | false => rfl
      | true =>
        obtain ⟨n, hn, hf⟩ := onG_iff.1 ho
        have hx : fv b = some (n * 2 ^ (1074 - 12)) := hf
        have := bound_int (grid_bound (u := 12) (B := 1024) (by omega) hx hf (by omega))
        rw [hpq.2 ⟨_, hx, this⟩] at hb
        exact hb
    rw [hb] at hw
    simp [b_grid_On, hw h, this]
  | true =>
    obtain ⟨X, hx, h1, h2⟩ := hpq.1 hb
    have hB := nat_bound (B := 1024) h1 h2
    obtain ⟨y, r, t, e1, e2, e3, e4⟩ := floor_test (u := 12) (B := 1024) (by omega) hx hB big_1024 (by omega) fx_4096
    have hfl := floor_ok c e2
    have : onG b = t := by
      cases t with
      | true => exact onG_iff.2 (e4.1 rfl)
      | false =>
        cases ho : onG b with
        | false => rfl
        | true => exact (e4.2 (onG_iff.1 ho)).symm
    rw [hb] at hw
    simp [b_grid_On, hw h, hfl h, e1, e3, this]

theorem andNot_top (b : Nat) : ((BitVec.ofInt 64 (b : Int)) &&& ~~~(BitVec.ofInt 64 9223372036854775808)).toNat = b % 2 ^ 63 := by
  rw [BitVec.toNat_and, show (~~~(BitVec.ofInt 64 9223372036854775808)).toNat = 2 ^ 63 - 1 from rfl, Nat.and_two_pow_sub_one_eq_mod, BitVec.ofInt_natCast, BitVec.toNat_ofNat, Nat.mod_mod_of_dvd _ (by decide)]

theorem abs_word (b : Nat) : intBin .andNot .u64 (b : Int) 9223372036854775808 = some (.int .u64 ((b % 2 ^ 63 : Nat) : Int)) := by
  simp only [intBin]
  rw [show IntKind.u64.bits = 64 from rfl, andNot_top]
  simp only [wrapK]
  rw [Int.emod_eq_of_lt (by omega) (by omega)]

theorem abs_ok (c : Cs F) (b : Nat) : Tells F f_math_Abs [.flt b] (.flt (b % 2 ^ 63)) := by
  have h1 := fun h K => ext_call (F := F) c.math_Float64bits (args := [.flt b]) (v := .int .u64 b) (h := h) rfl K
  have h2 := fun h K => ext_call (F := F) c.math_Float64frombits (args := [.int .u64 ((b % 2 ^ 63 : Nat) : Int)]) (v := .flt (b % 2 ^ 63)) (h := h) (by simp only [evalExt, Int.toNat_natCast]) K
  have ha := abs_word b
  generalize b % 2 ^ 63 = r at h2 ha ⊢
  refine .of fun h => ?_
  refine wp_call c.math_Abs rfl (by simp) ?_
  simp [b_math_Abs, h1, h2, ha]

theorem stp_of {b : Nat} {t : Bool} (h : t = true ↔ Grid 6 64 b) : stpG b = t := by
  cases t with
  | true => exact stpG_iff.2 (h.1 rfl)
  | false =>
    cases ho : stpG b with
    | false => rfl
    | true => exact (h.2 (stpG_iff.1 ho)).symm
theorem on_of {b : Nat} {t : Bool} (h : t = true ↔ Grid 12 4194304 b) : onG b = t := by
  cases t with
  | true => exact onG_iff.2 (h.1 rfl)
  | false =>
    cases ho : onG b with
    | false => rfl
    | true => exact (h.2 (onG_iff.1 ho)).symm

theorem step_ok (c : Cs F) (b : Nat) : Tells F f_feedback_step [.flt b] (.bool (stpG b)) := by
  obtain ⟨p, hp, hpq⟩ := abs_leq b fx_1
  have ha := abs_ok c b
  generalize b % 2 ^ 63 = w at ha hp
  refine .of fun h => ?_
  refine wp_call c.feedback_step rfl (by simp) ?_
  cases p with
  | false =>
    have : stpG b = false := by
      refine stp_of ⟨fun h => by simp at h, fun ⟨n, hn, hf⟩ => ?_⟩
      have hx : fv b = some (n * 2 ^ (1074 - 6)) := hf
      have := (bound_int (grid_bound (u := 6) (B := 1) (by omega) hx hf (by omega))).2
      have hb := bound_int (grid_bound (u := 6) (B := 1) (by omega) hx hf (by omega))
      refine hpq.2 ⟨_, hx, ?_⟩
      simp only [Int.natCast_one] at hb
      have h0 := ipow_pos (1074 - 0)
      rw [Int.neg_mul] at hb
      generalize n * 2 ^ (1074 - 6) = A at hb ⊢
      omega
    simp [b_feedback_step, ha h, hp, this]
  | true =>
    obtain ⟨X, hx, h1⟩ := hpq.1 rfl
    have hB := nat_bound (X := X) (B := 1) (by simp only [Int.natCast_one]; rw [Int.neg_mul]; omega) (by simp only [Int.natCast_one]; omega)
    obtain ⟨y, r, t, e1, e2, e3, e4⟩ := floor_test (u := 6) (B := 1) (by omega) hx hB big_1 (by omega) fx_64
    have hfl := floor_ok c e2
    have := stp_of e4
    simp [b_feedback_step, ha h, hp, hfl h, e1, e3, this]

/-- The test 'float64(int64(x * 2^u)) = x * 2^u', of a number that is not too great. -/
theorem int_test {u B b c : Nat} {X : Int} (hu : u ≤ 20) (hx : fv b = some X) (hB : X.natAbs ≤ B * 2 ^ 1074) (hb : B * 2 ^ 1074 ≤ 2 ^ 1145) (hB2 : B * 2 ^ u < 2 ^ 52) (hc : Fx 0 c (2 ^ u)) :
    ∃ y n p, double.mul b c = some y ∧ fltToInt y .i64 = some (.int .i64 n) ∧ fCmp .eql (FloatKind.f64.nearest n) y = some p ∧ (p = true ↔ Grid u (B * 2 ^ u) b) := by
  obtain ⟨y, hm, hy⟩ := scaled (by omega) hx (Nat.le_trans hB hb) hc
  have hyB : (X * 2 ^ u).natAbs ≤ B * 2 ^ u * 2 ^ 1074 := by
    have e2 : ((2 : Int).natAbs : Nat) = 2 := rfl
    rw [Int.natAbs_mul, Int.natAbs_pow, e2, Nat.mul_right_comm]
    exact Nat.mul_le_mul_right _ hB
  obtain ⟨N, hw, hN, hN2⟩ := toInt_int hy hyB hB2
  have hf := Fx.ofInt hN
  refine ⟨y, N, _, hm, hw, (fCmp_of hf hy).2.2.2.2.1, ?_⟩
  rw [decide_eq_true_eq, ← grid_iff (by omega) hx hB hy]
  constructor
  · intro e; exact ⟨N, by rw [← e]⟩
  · rintro ⟨n, hn⟩
    rw [hN2 n hn, hn, Nat.sub_zero]

theorem rstep_ok (c : Cs F) (b : Nat) : Tells F f_ref11_step [.flt b] (.bool (stpG b)) := by
  obtain ⟨p, q, hp, hq, hpq⟩ := between b fx_m1 fx_1
  refine .of fun h => ?_
  refine wp_call c.ref11_step rfl (by simp) ?_
  cases hb : (p && q) with
  | false =>
    have : stpG b = false := by
      refine stp_of ⟨fun h => by simp at h, fun ⟨n, hn, hf⟩ => ?_⟩
      have hx : fv b = some (n * 2 ^ (1074 - 6)) := hf
      have := bound_int (grid_bound (u := 6) (B := 1) (by omega) hx hf (by omega))
      rw [← hb]
      exact hpq.2 ⟨_, hx, this⟩
    cases p <;> simp at hb <;> simp [b_ref11_step, hp, hq, this, hb]
  | true =>
    obtain ⟨X, hx, h1, h2⟩ := hpq.1 hb
    have hB := nat_bound (B := 1) h1 h2
    obtain ⟨y, n, t, e1, e2, e3, e4⟩ := int_test (u := 6) (B := 1) (by omega) hx hB big_1 (by omega) fx_64
    have := stp_of e4
    simp only [Bool.and_eq_true] at hb
    obtain ⟨rfl, rfl⟩ := hb
    simp [b_ref11_step, hp, hq, e1, e2, e3, this]

theorem ron_ok (c : Cs F) (b : Nat) : Tells F f_ref02_On [.flt b] (.bool (onG b)) := by
  obtain ⟨p, q, hp, hq, hpq⟩ := between b fx_m1024 fx_1024
  refine .of fun h => ?_
  refine wp_call c.ref02_On rfl (by simp) ?_
  cases hb : (p && q) with
  | false =>
    have : onG b = false := by
      refine on_of ⟨fun h => by simp at h, fun ⟨n, hn, hf⟩ => ?_⟩
      have hx : fv b = some (n * 2 ^ (1074 - 12)) := hf
      have := bound_int (grid_bound (u := 12) (B := 1024) (by omega) hx hf (by omega))
      rw [← hb]
      exact hpq.2 ⟨_, hx, this⟩
    cases p <;> simp at hb <;> simp [b_ref02_On, hp, hq, this, hb]
  | true =>
    obtain ⟨X, hx, h1, h2⟩ := hpq.1 hb
    have hB := nat_bound (B := 1024) h1 h2
    obtain ⟨y, n, t, e1, e2, e3, e4⟩ := int_test (u := 12) (B := 1024) (by omega) hx hB big_1024 (by omega) fx_4096
    have := on_of e4
    simp only [Bool.and_eq_true] at hb
    obtain ⟨rfl, rfl⟩ := hb
    simp [b_ref02_On, hp, hq, e1, e2, e3, this]

/-- How large a number is, the document's way. -/
theorem size_ok (c : Cs F) {u b : Nat} {x : Int} (hx : Fx u b x) : ∃ r, Tells F f_ref11_size [.flt b] (.flt r) ∧ Fx u r x.natAbs := by
  have h1 := hx.lss (Fx.zero u)
  by_cases hneg : x < 0
  · refine ⟨negF b, .of fun h => wp_call c.ref11_size rfl (by simp) ?_, hx.neg.cast (by omega)⟩
    rw [decide_eq_true hneg] at h1
    simp [b_ref11_size, h1]
  · refine ⟨b, .of fun h => wp_call c.ref11_size rfl (by simp) ?_, hx.cast (by omega)⟩
    rw [decide_eq_false hneg] at h1
    simp [b_ref11_size, h1]

/-- The product of two numbers, by parts. -/
theorem times_ok (c : Cs F) {u w a b p q : Nat} {x y z v : Int} (h1 : Fx u a x) (h2 : Fx u b y) (h3 : Fx w p z) (h4 : Fx w q v) (huw : u + w ≤ 1074)
    (f1 : (x * z).natAbs < 2 ^ 50) (f2 : (y * v).natAbs < 2 ^ 50) (f3 : (x * v).natAbs < 2 ^ 50) (f4 : (y * z).natAbs < 2 ^ 50) :
    ∃ r s, Tells F f_feedback_times [.cpx a b, .cpx p q] (.tup [.flt r, .flt s]) ∧ Fx (u + w) r (x * z - y * v) ∧ Fx (u + w) s (x * v + y * z) := by
  obtain ⟨r1, m1, v1⟩ := h1.mul h3 huw (by omega)
  obtain ⟨r2, m2, v2⟩ := h2.mul h4 huw (by omega)
  obtain ⟨r3, m3, v3⟩ := h1.mul h4 huw (by omega)
  obtain ⟨r4, m4, v4⟩ := h2.mul h3 huw (by omega)
  obtain ⟨r, m5, v5⟩ := v1.sub v2 (by omega)
  obtain ⟨s, m6, v6⟩ := v3.add v4 (by omega)
  refine ⟨r, s, .of fun h => wp_call c.feedback_times rfl (by simp) ?_, v5, v6⟩
  simp [b_feedback_times, m1, m2, m3, m4, m5, m6]

theorem mul_ok (c : Cs F) {u w a b p q : Nat} {x y z v : Int} (h1 : Fx u a x) (h2 : Fx u b y) (h3 : Fx w p z) (h4 : Fx w q v) (huw : u + w ≤ 1074)
    (f1 : (x * z).natAbs < 2 ^ 50) (f2 : (y * v).natAbs < 2 ^ 50) (f3 : (x * v).natAbs < 2 ^ 50) (f4 : (y * z).natAbs < 2 ^ 50) :
    ∃ r s, Tells F f_ref11_mul [.cpx a b, .cpx p q] (.cpx r s) ∧ Fx (u + w) r (x * z - y * v) ∧ Fx (u + w) s (x * v + y * z) := by
  obtain ⟨r1, m1, v1⟩ := h1.mul h3 huw (by omega)
  obtain ⟨r2, m2, v2⟩ := h2.mul h4 huw (by omega)
  obtain ⟨r3, m3, v3⟩ := h1.mul h4 huw (by omega)
  obtain ⟨r4, m4, v4⟩ := h2.mul h3 huw (by omega)
  obtain ⟨r, m5, v5⟩ := v1.sub v2 (by omega)
  obtain ⟨s, m6, v6⟩ := v3.add v4 (by omega)
  refine ⟨r, s, .of fun h => wp_call c.ref11_mul rfl (by simp) ?_, v5, v6⟩
  simp [b_ref11_mul, m1, m2, m3, m4, m5, m6]

end Go.Proofs.Ytofaiipohmeelaa.Am
