/-
  Numbers of double width whatever they are: finite or not, on a grid or not. No program in sight.
-/
import Derived.Test.YtofaiipohmeelaaAmFx
set_option linter.all false
set_option exponentiation.threshold 3000
namespace Go.Proofs.Ytofaiipohmeelaa.Am
open Ieee

theorem read_number {b : Nat} {s : Bool} {m : Nat} {e : Int} (h : double.read b = .number s m e) : m < 2 ^ 53 ∧ -1074 ≤ e ∧ e ≤ 971 := by
  refine ⟨read_lt h, ?_⟩
  unfold Format.read at h
  dsimp only at h
  split at h
  · simp only [Datum.number.injEq] at h
    rw [double_least] at h
    omega
  · split at h
    · rename_i h1 h2
      simp only [Datum.number.injEq] at h
      rw [double_least, double_binade] at h
      rw [double_inf] at h2
      have h3 := h.2.2
      have h4 : b % double.signWeight / 2 ^ 52 < 2047 := by
        rw [Nat.div_lt_iff_lt_mul (Nat.two_pow_pos 52)]; exact h2
      omega
    · split at h <;> simp at h

theorem fv_number {b : Nat} {s : Bool} {m : Nat} {e : Int} (h : double.read b = .number s m e) : fv b = some (signed s m (e + 1074).toNat) := by
  unfold fv
  rw [h]
  simp only [dv]
  rw [if_pos (read_number h).2.1]

theorem fits_fv {b : Nat} {X : Int} (h : fv b = some X) : Fits X.natAbs := by
  obtain ⟨s, m, e, h1, h2, h3⟩ := fv_spec h
  have := read_number h1
  exact ⟨m, (e + 1074).toNat, by rw [h3, natAbs_signed], this.1, by omega⟩

theorem fits_scale {X : Int} (h : Fits X.natAbs) (j : Nat) (hj : j ≤ 900) (hb : X.natAbs ≤ 2 ^ 1145) : Fits (X * 2 ^ j).natAbs := by
  obtain ⟨q, k, h1, h2, h3⟩ := h
  have e2 : ((2 : Int).natAbs : Nat) = 2 := rfl
  rw [Int.natAbs_mul, Int.natAbs_pow, e2, h1]
  rcases Nat.eq_zero_or_pos q with rfl | hq
  · exact ⟨0, 0, by simp, by omega, by omega⟩
  · refine ⟨q, k + j, by rw [Nat.mul_assoc, ← Nat.pow_add], h2, ?_⟩
    have h4 : 2 ^ k ≤ q * 2 ^ k := Nat.le_mul_of_pos_left _ hq
    have h5 : 2 ^ k < 2 ^ 1146 := by
      have h6 : 2 ^ 1145 < 2 ^ 1146 := Nat.pow_lt_pow_right (by omega) (by omega)
      rw [h1] at hb
      generalize 2 ^ 1146 = A at h6 ⊢
      generalize 2 ^ 1145 = B at h6 hb
      omega
    have := pow_le_of h5
    omega

theorem fin_or (b : Nat) : (∃ X, fv b = some X) ∨ ((∃ s, double.read b = .infinity s) ∨ ∃ s t, double.read b = .nan s t) := by
  cases h : double.read b with
  | number s m e => exact .inl ⟨_, fv_number h⟩
  | infinity s => exact .inr (.inl ⟨s, rfl⟩)
  | nan s t => exact .inr (.inr ⟨s, t, rfl⟩)

theorem fv_none_inf {b : Nat} {s : Bool} (h : double.read b = .infinity s) : fv b = none := by unfold fv; rw [h]; rfl
theorem fv_none_nan {b : Nat} {s : Bool} {t : Nat} (h : double.read b = .nan s t) : fv b = none := by unfold fv; rw [h]; rfl

/-- Between two numbers? -/
theorem between (b : Nat) {lo hi : Nat} {L H : Int} (hl : fv lo = some L) (hh : fv hi = some H) : ∃ p q, fCmp .geq b lo = some p ∧ fCmp .leq b hi = some q ∧ ((p && q) = true ↔ ∃ X, fv b = some X ∧ L ≤ X ∧ X ≤ H) := by
  rcases fin_or b with ⟨X, hX⟩ | ⟨s, hs⟩ | ⟨s, t, hn⟩
  · refine ⟨_, _, (fCmp_of hX hl).2.2.2.1, (fCmp_of hX hh).2.1, ?_⟩
    rw [Bool.and_eq_true, decide_eq_true_eq, decide_eq_true_eq]
    constructor
    · intro h; exact ⟨X, hX, h⟩
    · rintro ⟨Y, hY, h⟩
      rw [hX] at hY
      simp only [Option.some.injEq] at hY
      subst hY; exact h
  · obtain ⟨s1, m1, e1, r1, _, _⟩ := fv_spec hl
    obtain ⟨s2, m2, e2, r2, _, _⟩ := fv_spec hh
    simp only [fCmp, Format.order, hs, r1, r2, Datum.order, fv_none_inf hs]
    cases s
    · exact ⟨_, _, rfl, rfl, by simp⟩
    · exact ⟨_, _, rfl, rfl, by simp⟩
  · obtain ⟨s1, m1, e1, r1, _, _⟩ := fv_spec hl
    obtain ⟨s2, m2, e2, r2, _, _⟩ := fv_spec hh
    simp only [fCmp, Format.order, hn, r1, r2, Datum.order, fv_none_nan hn]
    exact ⟨_, _, rfl, rfl, by simp⟩

theorem low_inf {b : Nat} {s : Bool} (h : double.read b = .infinity s) : double.read (b % 2 ^ 63) = .infinity false := by
  have h1 : b % 2 ^ 63 % double.signWeight = b % double.signWeight := Nat.mod_mod _ _
  have h2 : (b % 2 ^ 63 / double.signWeight % 2 == 1) = false := by
    have : b % 2 ^ 63 / 2 ^ 63 = 0 := Nat.div_eq_of_lt (Nat.mod_lt _ (Nat.two_pow_pos 63))
    rw [double_weight, this]; rfl
  unfold Format.read at h ⊢
  dsimp only at h ⊢
  rw [h1, h2]
  split at h
  · simp at h
  · rename_i h3
    rw [if_neg h3]
    split at h
    · simp at h
    · rename_i h4
      rw [if_neg h4]
      split at h
      · rename_i h5; rw [if_pos h5]
      · simp at h

theorem low_nan {b : Nat} {s : Bool} {t : Nat} (h : double.read b = .nan s t) : double.read (b % 2 ^ 63) = .nan false t := by
  have h1 : b % 2 ^ 63 % double.signWeight = b % double.signWeight := Nat.mod_mod _ _
  have h2 : (b % 2 ^ 63 / double.signWeight % 2 == 1) = false := by
    have : b % 2 ^ 63 / 2 ^ 63 = 0 := Nat.div_eq_of_lt (Nat.mod_lt _ (Nat.two_pow_pos 63))
    rw [double_weight, this]; rfl
  unfold Format.read at h ⊢
  dsimp only at h ⊢
  rw [h1, h2]
  split at h
  · simp at h
  · rename_i h3
    rw [if_neg h3]
    split at h
    · simp at h
    · rename_i h4
      rw [if_neg h4]
      split at h
      · simp at h
      · rename_i h5
        rw [if_neg h5]
        simp only [Datum.nan.injEq] at h
        rw [h.2]

/-- The size of a number, held against a number. -/
theorem abs_leq (b : Nat) {c : Nat} {C : Int} (hc : fv c = some C) : ∃ p, fCmp .leq (b % 2 ^ 63) c = some p ∧ (p = true ↔ ∃ X, fv b = some X ∧ (X.natAbs : Int) ≤ C) := by
  rcases fin_or b with ⟨X, hX⟩ | ⟨s, hs⟩ | ⟨s, t, hn⟩
  · refine ⟨_, (fCmp_of (fv_low hX) hc).2.1, ?_⟩
    rw [decide_eq_true_eq]
    constructor
    · intro h; exact ⟨X, hX, h⟩
    · rintro ⟨Y, hY, h⟩
      rw [hX] at hY
      simp only [Option.some.injEq] at hY
      subst hY; exact h
  · obtain ⟨s1, m1, e1, r1, _, _⟩ := fv_spec hc
    simp only [fCmp, Format.order, low_inf hs, r1, Datum.order, fv_none_inf hs]
    exact ⟨_, rfl, by simp⟩
  · obtain ⟨s1, m1, e1, r1, _, _⟩ := fv_spec hc
    simp only [fCmp, Format.order, low_nan hn, r1, Datum.order, fv_none_nan hn]
    exact ⟨_, rfl, by simp⟩

theorem cut_le (way : Toward) (neg : Bool) (n d : Nat) : way.cut neg n d ≤ n / 2 ^ d + 1 := by
  have hg : ∀ k, 1 <<< k = 2 ^ k := fun k => by rw [Nat.shiftLeft_eq, Nat.one_mul]
  have hb : ∀ c : Bool, c.toNat ≤ 1 := fun c => by cases c <;> simp
  have h1 : n / 2 ^ (min d (n.log2 + 2)) ≤ n / 2 ^ d := by
    rcases Nat.le_total d (n.log2 + 2) with h | h
    · rw [Nat.min_eq_left h]; exact Nat.le_refl _
    · rw [Nat.min_eq_right h]
      rcases Nat.eq_zero_or_pos n with rfl | hn
      · simp
      · have : n < 2 ^ (n.log2 + 2) := Nat.lt_of_lt_of_le Nat.lt_log2_self (Nat.pow_le_pow_right (by omega) (by omega))
        rw [Nat.div_eq_of_lt this]
        exact Nat.zero_le _
  simp only [Toward.cut, hg]
  exact Nat.add_le_add h1 (hb _)

theorem cut_small (way : Toward) {X : Int} {s : Bool} {m : Nat} {e : Int} (h2 : -1074 ≤ e) (h3 : X = signed s m (e + 1074).toNat) {B : Nat} (hB : X.natAbs ≤ B * 2 ^ 1074) (hB2 : B < 2 ^ 52) : way.cut s (m <<< e.toNat) (-e).toNat < 2 ^ 53 := by
  have hc := cut_le way s (m <<< e.toNat) (-e).toNat
  have hq : (m <<< e.toNat) / 2 ^ (-e).toNat ≤ B := by
    rw [h3, natAbs_signed] at hB
    obtain ⟨K, hK⟩ : ∃ K : Nat, K = 1074 := ⟨_, rfl⟩
    rw [← hK] at hB
    rw [Nat.shiftLeft_eq]
    rcases Int.le_total 0 e with he | he
    · have k1 : (-e).toNat = 0 := by omega
      have k2 : (e + 1074).toNat = e.toNat + K := by omega
      rw [k2, Nat.pow_add, ← Nat.mul_assoc] at hB
      rw [k1, Nat.pow_zero, Nat.div_one]
      exact Nat.le_of_mul_le_mul_right hB (Nat.two_pow_pos K)
    · obtain ⟨d, hd⟩ : ∃ d : Nat, (d : Int) = -e := ⟨(-e).toNat, by omega⟩
      have k1 : (-e).toNat = d := by omega
      have k2 : e.toNat = 0 := by omega
      have k4 : K = d + (e + 1074).toNat := by omega
      rw [k4, Nat.pow_add, ← Nat.mul_assoc] at hB
      rw [k1, k2, Nat.pow_zero, Nat.mul_one]
      have := Nat.le_of_mul_le_mul_right hB (Nat.two_pow_pos _)
      exact Nat.div_le_of_le_mul (by rw [Nat.mul_comm]; exact this)
  omega

theorem fx_of_cut {s : Bool} {c : Nat} (hc : c < 2 ^ 53) : Fx 0 (double.write (.number s c 0)) (signed s c 0) := by
  unfold Fx
  rw [fv_write s (x := c * 2 ^ 1074) (by omega) ?_ ⟨c, 1074, rfl, hc, by omega⟩]
  · refine congrArg some ?_
    rw [signed_eq, signed_eq]
    simp only [Int.pow_zero, Int.mul_one, Nat.sub_zero, Int.natCast_mul, Int.natCast_pow, Int.mul_assoc]
    rfl
  · have : ((0 : Int) + 2148).toNat = 1074 + 1074 := rfl
    rw [this, Nat.pow_add, ← Nat.mul_assoc]

/-- A number made whole is whole. -/
theorem whole_int (way : Toward) {b : Nat} {X : Int} (hx : fv b = some X) {B : Nat} (hB : X.natAbs ≤ B * 2 ^ 1074) (hB2 : B < 2 ^ 52) : ∃ r N, evalExt.whole way b = some (.flt r) ∧ Fx 0 r N ∧ N.natAbs < 2 ^ 53 := by
  obtain ⟨s, m, e, h1, h2, h3⟩ := fv_spec hx
  have hcut := cut_small way h2 h3 hB hB2
  have hr : (double.read b).integral way = .number s (way.cut s (m <<< e.toNat) (-e).toNat) 0 := by rw [h1]; rfl
  refine ⟨double.write (.number s (way.cut s (m <<< e.toNat) (-e).toNat) 0), signed s (way.cut s (m <<< e.toNat) (-e).toNat) 0, ?_, fx_of_cut hcut, ?_⟩
  · rw [← hr, h1]
    unfold evalExt.whole
    rw [h1]
  · rw [natAbs_signed, Nat.pow_zero, Nat.mul_one]
    exact hcut

theorem toInt_int {b : Nat} {X : Int} (hx : fv b = some X) {B : Nat} (hB : X.natAbs ≤ B * 2 ^ 1074) (hB2 : B < 2 ^ 52) : ∃ N, fltToInt b .i64 = some (.int .i64 N) ∧ N.natAbs < 2 ^ 53 ∧ ∀ n : Int, X = n * 2 ^ 1074 → N = n := by
  obtain ⟨s, m, e, k1, k2, k3⟩ := fv_spec hx
  have hcut := cut_small .zero k2 k3 hB hB2
  have hr : (double.read b).integral .zero = .number s (Toward.zero.cut s (m <<< e.toNat) (-e).toNat) 0 := by rw [k1]; rfl
  generalize Toward.zero.cut s (m <<< e.toNat) (-e).toNat = c at hcut hr
  have hN : (signed s c 0).natAbs < 2 ^ 53 := by rw [natAbs_signed, Nat.pow_zero, Nat.mul_one]; exact hcut
  refine ⟨signed s c 0, ?_, hN, fun n hn => ?_⟩
  · unfold fltToInt Datum.toInt
    rw [hr]
    simp only
    rw [if_pos (by constructor <;> (simp [IntKind.min, IntKind.max, IntKind.signed, IntKind.bits]; omega))]
  · subst hn
    have := fv_toInt .zero hx
    unfold Datum.toInt at this
    rw [hr] at this
    simp only [Option.some.injEq] at this
    exact this

/-! ### On a grid -/
/-- Is it at most so many steps of 2 ^ -u? -/
def Grid (u M b : Nat) : Prop := ∃ n : Int, n.natAbs ≤ M ∧ Fx u b n

/-- A number times 2 ^ u is whole just where it is on the grid. -/
theorem grid_iff {u B b y : Nat} {X : Int} (hu : u ≤ 1074) (hx : fv b = some X) (hB : X.natAbs ≤ B * 2 ^ 1074) (hy : fv y = some (X * 2 ^ u)) : (∃ n : Int, X * 2 ^ u = n * 2 ^ 1074) ↔ Grid u (B * 2 ^ u) b := by
  have e : (2 : Int) ^ 1074 = 2 ^ (1074 - u) * 2 ^ u := by rw [← Int.pow_add]; congr 1; omega
  have e' : (2 : Nat) ^ 1074 = 2 ^ (1074 - u) * 2 ^ u := by rw [← Nat.pow_add]; congr 1; omega
  constructor
  · rintro ⟨n, hn⟩
    rw [e, ← Int.mul_assoc] at hn
    have hX : X = n * 2 ^ (1074 - u) := Int.eq_of_mul_eq_mul_right (Int.ne_of_gt (ipow_pos u)) hn
    refine ⟨n, ?_, by unfold Fx; rw [hx, hX]⟩
    rw [hX, Int.natAbs_mul, Int.natAbs_pow, e', ← Nat.mul_assoc, Nat.mul_right_comm] at hB
    exact Nat.le_of_mul_le_mul_right hB (Nat.two_pow_pos _)
  · rintro ⟨n, _, hn⟩
    unfold Fx at hn
    rw [hx] at hn
    simp only [Option.some.injEq] at hn
    exact ⟨n, by rw [hn, e, Int.mul_assoc]⟩

/-- Of a number that is not too great: what its 2 ^ u-fold is. -/
theorem scaled {u b c : Nat} {X : Int} (hu : u ≤ 900) (hx : fv b = some X) (hb : X.natAbs ≤ 2 ^ 1145) (hc : Fx 0 c (2 ^ u)) : ∃ y, double.mul b c = some y ∧ fv y = some (X * 2 ^ u) := by
  refine fv_mul hx hc ?_ (fits_scale (fits_fv hx) u hu hb)
  rw [Nat.sub_zero, Int.mul_assoc]

end Go.Proofs.Ytofaiipohmeelaa.Am
