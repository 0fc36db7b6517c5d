/-
  Exact numbers of double width, more: whole parts, numbers of integers, quotients by powers of two.
-/
import Derived.Test.YtofaiipohmeelaaAmFlt
import Derived.Test.YtofaiipohmeelaaAmDef
set_option linter.all false
set_option exponentiation.threshold 3000
namespace Go.Proofs.Ytofaiipohmeelaa.Am
open Ieee

theorem cut_any (way : Toward) (neg : Bool) {n d : Nat} (hd : 2 ^ d ∣ n) : way.cut neg n d = n / 2 ^ d := by
  rcases Nat.eq_zero_or_pos n with rfl | hn
  · have hpos : ∀ k, 1 <<< k = 2 ^ k := fun k => by rw [Nat.shiftLeft_eq, Nat.one_mul]
    have h2 := Nat.two_pow_pos (min d ((0 : Nat).log2 + 2))
    simp only [Toward.cut, hpos, Nat.zero_div, Nat.zero_mod]
    cases way
    · simp
    · simp
    · simp
    · simp
  · have hle : 2 ^ d ≤ n := Nat.le_of_dvd hn hd
    have hlog : d ≤ n.log2 := (Nat.le_log2 (by omega)).2 hle
    have hgap : 1 <<< min d (n.log2 + 2) = 2 ^ d := by
      rw [Nat.min_eq_left (by omega), Nat.shiftLeft_eq, Nat.one_mul]
    have hrest : n % 2 ^ d = 0 := Nat.mod_eq_zero_of_dvd hd
    simp only [Toward.cut, hgap, hrest]
    cases way
    · have h2 : (2 ^ d == 2 * 0) = false := by
        have := Nat.two_pow_pos d
        simp
      simp [h2]
    · simp
    · simp
    · simp

/-- A number without a fraction is its own whole part. -/
theorem fv_integral (way : Toward) {b : Nat} {n : Int} (hx : fv b = some (n * 2 ^ 1074)) (hf : Fits (n * 2 ^ 1074).natAbs) : ∃ d, (double.read b).integral way = d ∧ (∀ s t, d ≠ .nan s t) ∧ fv (double.write d) = some (n * 2 ^ 1074) := by
  obtain ⟨s, m, e, h1, h2, h3⟩ := fv_spec hx
  refine ⟨_, rfl, fun _ _ => by rw [h1]; simp [Datum.integral], ?_⟩
  rw [h1]
  simp only [Datum.integral]
  obtain ⟨K, hK⟩ : ∃ K : Nat, K = 1074 := ⟨_, rfl⟩
  have habs : n.natAbs * 2 ^ K = m * 2 ^ (e + 1074).toNat := by
    have := congrArg Int.natAbs h3
    rw [← hK] at this
    rw [Int.natAbs_mul, Int.natAbs_pow, natAbs_signed] at this
    exact this
  have hcut : way.cut s (m <<< e.toNat) (-e).toNat = n.natAbs := by
    rcases Int.le_total 0 e with he | he
    · have k1 : (-e).toNat = 0 := by omega
      have k2 : (e + 1074).toNat = e.toNat + K := by omega
      rw [k2, Nat.pow_add, ← Nat.mul_assoc] at habs
      have := Nat.mul_right_cancel (Nat.two_pow_pos K) habs
      rw [k1, cut_any way s (by rw [Nat.pow_zero]; exact Nat.one_dvd _), Nat.shiftLeft_eq, ← this, Nat.pow_zero, Nat.div_one]
    · obtain ⟨d, hd⟩ : ∃ d : Nat, (d : Int) = -e := ⟨(-e).toNat, by omega⟩
      have k1 : (-e).toNat = d := by omega
      have k2 : e.toNat = 0 := by omega
      have k3 : K = (e + 1074).toNat + d := by omega
      rw [k3, Nat.pow_add, Nat.mul_comm (2 ^ (e + 1074).toNat), ← Nat.mul_assoc] at habs
      have hm := Nat.mul_right_cancel (Nat.two_pow_pos _) habs
      rw [k1, k2, Nat.shiftLeft_eq, Nat.pow_zero, Nat.mul_one, cut_any way s ⟨n.natAbs, by rw [← hm, Nat.mul_comm]⟩, ← hm, Nat.mul_div_cancel _ (Nat.two_pow_pos d)]
  rw [hcut, fv_write s (x := (n * 2 ^ 1074).natAbs) (by omega) ?_ hf]
  · refine congrArg some ?_
    rw [← hK] at h3 ⊢
    rw [signed_eq]
    rw [signed_eq] at h3
    simp only [Int.pow_zero, Int.mul_one]
    generalize (e + 1074).toNat = z at h3
    have hpos : (0 : Int) < 2 ^ z := by exact_mod_cast Nat.two_pow_pos z
    cases s
    · simp only [Bool.false_eq_true, if_false, Int.one_mul] at h3 ⊢
      have : 0 ≤ n * 2 ^ K := by rw [h3]; exact Int.mul_nonneg (by omega) (by omega)
      omega
    · simp only [if_true] at h3 ⊢
      have : n * 2 ^ K ≤ 0 := by
        rw [h3, Int.neg_mul, Int.one_mul, Int.neg_mul]
        have := Int.mul_nonneg (show (0 : Int) ≤ (m : Int) by omega) (show (0 : Int) ≤ 2 ^ z by omega)
        omega
      omega
  · have e2 : ((2 : Int).natAbs : Nat) = 2 := rfl
    rw [← hK, Int.natAbs_mul, Int.natAbs_pow, e2]
    have : ((0 : Int) + 2148).toNat = K + K := by omega
    rw [this, Nat.pow_add, ← Nat.mul_assoc]

theorem integral_eq (way : Toward) {b : Nat} {n : Int} (hx : fv b = some (n * 2 ^ 1074)) : ∃ s, (double.read b).integral way = .number s n.natAbs 0 ∧ signed s n.natAbs 0 = n := by
  obtain ⟨s, m, e, h1, h2, h3⟩ := fv_spec hx
  rw [h1]
  simp only [Datum.integral]
  obtain ⟨K, hK⟩ : ∃ K : Nat, K = 1074 := ⟨_, rfl⟩
  rw [← hK] at h3
  have habs : n.natAbs * 2 ^ K = m * 2 ^ (e + 1074).toNat := by
    have := congrArg Int.natAbs h3
    rw [Int.natAbs_mul, Int.natAbs_pow, natAbs_signed] at this
    exact this
  have hcut : way.cut s (m <<< e.toNat) (-e).toNat = n.natAbs := by
    rcases Int.le_total 0 e with he | he
    · have k1 : (-e).toNat = 0 := by omega
      have k2 : (e + 1074).toNat = e.toNat + K := by omega
      rw [k2, Nat.pow_add, ← Nat.mul_assoc] at habs
      have := Nat.mul_right_cancel (Nat.two_pow_pos K) habs
      rw [k1, cut_any way s (by rw [Nat.pow_zero]; exact Nat.one_dvd _), Nat.shiftLeft_eq, ← this, Nat.pow_zero, Nat.div_one]
    · obtain ⟨d, hd⟩ : ∃ d : Nat, (d : Int) = -e := ⟨(-e).toNat, by omega⟩
      have k1 : (-e).toNat = d := by omega
      have k2 : e.toNat = 0 := by omega
      have k3 : K = (e + 1074).toNat + d := by omega
      rw [k3, Nat.pow_add, Nat.mul_comm (2 ^ (e + 1074).toNat), ← Nat.mul_assoc] at habs
      have hm := Nat.mul_right_cancel (Nat.two_pow_pos _) habs
      rw [k1, k2, Nat.shiftLeft_eq, Nat.pow_zero, Nat.mul_one, cut_any way s ⟨n.natAbs, by rw [← hm, Nat.mul_comm]⟩, ← hm, Nat.mul_div_cancel _ (Nat.two_pow_pos d)]
  refine ⟨s, by rw [hcut], ?_⟩
  rw [signed_eq] at h3 ⊢
  generalize (e + 1074).toNat = z at h3
  have hpz : (0 : Int) ≤ 2 ^ z := by exact_mod_cast Nat.le_of_lt (Nat.two_pow_pos z)
  have hpK : (0 : Int) < 2 ^ K := by exact_mod_cast Nat.two_pow_pos K
  have hmz := Int.mul_nonneg (show (0 : Int) ≤ (m : Int) by omega) hpz
  simp only [Int.pow_zero, Int.mul_one]
  cases s
  · simp only [Bool.false_eq_true, if_false, Int.one_mul] at h3 ⊢
    rcases Int.lt_or_le n 0 with h | h
    · have := Int.mul_neg_of_neg_of_pos h hpK; omega
    · omega
  · simp only [if_true, Int.neg_mul, Int.one_mul] at h3 ⊢
    rcases Int.lt_or_le 0 n with h | h
    · have := Int.mul_pos h hpK; omega
    · omega

theorem fv_toInt (way : Toward) {b : Nat} {n : Int} (hx : fv b = some (n * 2 ^ 1074)) : (double.read b).toInt way = some n := by
  obtain ⟨s, h1, h2⟩ := integral_eq way hx
  unfold Datum.toInt
  rw [h1]
  simp only [h2]

/-- The number of an integer. -/
theorem fv_int {n : Int} (h : n.natAbs < 2 ^ 53) : fv (double.write (.number (decide (n < 0)) n.natAbs 0)) = some (n * 2 ^ 1074) := by
  obtain ⟨K, hK⟩ : ∃ K : Nat, K = 1074 := ⟨_, rfl⟩
  rw [fv_write _ (x := n.natAbs * 2 ^ 1074) (by omega) ?_ ⟨n.natAbs, 1074, rfl, h, by omega⟩]
  · refine congrArg some ?_
    rw [← hK, signed_eq]
    simp only [Int.pow_zero, Int.mul_one]
    have hc : ((n.natAbs * 2 ^ K : Nat) : Int) = (n.natAbs : Int) * 2 ^ K := by rw [Int.natCast_mul, Int.natCast_pow]; rfl
    rw [hc]
    by_cases hn : n < 0
    · simp only [hn, decide_true, if_true]
      rw [← Int.mul_assoc]
      congr 1; omega
    · simp only [hn, decide_false, Bool.false_eq_true, if_false, Int.one_mul]
      congr 1; omega
  · rw [← hK]
    have : ((0 : Int) + 2148).toNat = K + K := by omega
    rw [this, Nat.pow_add, ← Nat.mul_assoc]

theorem read_lt {b : Nat} {s : Bool} {m : Nat} {e : Int} (h : double.read b = .number s m e) : m < 2 ^ 53 := by
  unfold Format.read at h
  dsimp only at h
  split at h
  · rename_i h1
    simp only [Datum.number.injEq] at h
    rw [double_binade] at h1
    omega
  · split at h
    · simp only [Datum.number.injEq] at h
      have hr := Nat.mod_lt (b % double.signWeight) (Nat.two_pow_pos 52)
      have h2 := h.2.1
      rw [double_binade] at h2
      omega
    · split at h <;> simp at h

theorem quot_core {b c : Nat} {x : Int} {j : Int} (hx : fv b = some x) (hc : double.read c = .number false (2 ^ 52) j) (hj : -100 ≤ j) (hj2 : j ≤ 900) {z : Int} {A B : Nat} (hA : (A : Int) = B + (j + 52)) (hz : z * 2 ^ A = x * 2 ^ B) (hf : Fits z.natAbs) :
    ∃ r, double.div b c = some r ∧ fv r = some z := by
  obtain ⟨s, m, i, h1, h2, h3⟩ := fv_spec hx
  have hm := read_lt h1
  have hlog : m.log2 ≤ 52 := by
    rcases Nat.eq_zero_or_pos m with rfl | hp
    · simp
    · have := (Nat.log2_lt (by omega)).2 hm; omega
  have hl2 : (2 ^ 52 : Nat).log2 = 52 := by rw [Nat.log2_two_pow]
  have hn0 : (2 ^ 52 : Nat) ≠ 0 := by omega
  have hq : (double.read b).quotient (52 + 2) (double.read c) = some (.number s (m * 2 ^ (55 - m.log2 + 0 )) (i - j - ((106 - m.log2 : Nat) : Int) - 1)) := by
    rw [h1, hc]
    simp only [Datum.quotient]
    rw [if_neg hn0, hl2]
    have hmore : 52 + 2 + 52 - m.log2 = 106 - m.log2 := by omega
    rw [hmore, Nat.shiftLeft_eq]
    have hsp : 2 ^ (106 - m.log2) = 2 ^ (54 - m.log2) * 2 ^ 52 := by rw [← Nat.pow_add]; congr 1; omega
    rw [hsp, ← Nat.mul_assoc, Nat.mul_div_cancel _ (Nat.two_pow_pos 52), Nat.mul_mod_left]
    have h55 : 2 ^ (55 - m.log2 + 0) = 2 * 2 ^ (54 - m.log2) := by
      rw [show 55 - m.log2 + 0 = (54 - m.log2) + 1 from by omega, Nat.pow_succ, Nat.mul_comm]
    rw [h55]
    simp [Nat.mul_left_comm]
  refine ⟨_, by unfold Format.div; rw [double_frac, hq]; rfl, ?_⟩
  obtain ⟨K, hK⟩ : ∃ K : Nat, K = 1074 := ⟨_, rfl⟩
  have e2 : ((2 : Int).natAbs : Nat) = 2 := rfl
  have habs : z.natAbs * 2 ^ A = m * 2 ^ (i + 1074).toNat * 2 ^ B := by
    have := congrArg Int.natAbs hz
    rw [h3, Int.natAbs_mul, Int.natAbs_mul, natAbs_signed, Int.natAbs_pow, Int.natAbs_pow, e2] at this
    exact this
  rw [fv_write s (x := z.natAbs) (by omega) ?_ hf]
  · refine congrArg some ?_
    rw [signed_eq]
    rw [h3, signed_eq] at hz
    simp only [Int.pow_zero, Int.mul_one]
    generalize (i + 1074).toNat = y at hz
    have hpA : (0 : Int) < 2 ^ A := by exact_mod_cast Nat.two_pow_pos A
    have hpy : (0 : Int) ≤ (m : Int) * 2 ^ y * 2 ^ B := Int.mul_nonneg (Int.mul_nonneg (by omega) (by exact_mod_cast Nat.le_of_lt (Nat.two_pow_pos y))) (by exact_mod_cast Nat.le_of_lt (Nat.two_pow_pos B))
    cases s
    · simp only [Bool.false_eq_true, if_false, Int.one_mul] at hz ⊢
      have : 0 ≤ z := by
        rcases Int.lt_or_le z 0 with h | h
        · have := Int.mul_neg_of_neg_of_pos h hpA; omega
        · exact h
      omega
    · simp only [if_true, Int.neg_mul, Int.one_mul] at hz ⊢
      have : z ≤ 0 := by
        rcases Int.lt_or_le 0 z with h | h
        · have := Int.mul_pos h hpA; omega
        · exact h
      omega
  · apply Nat.mul_right_cancel (Nat.two_pow_pos A)
    have hE : (i - j - ((106 - m.log2 : Nat) : Int) - 1 + 2148).toNat + (55 - m.log2 + 0) + A = (i + 1074).toNat + B + 1074 := by omega
    rw [← hK] at hE ⊢
    generalize (i + 1074).toNat = y at hE habs
    generalize (i - j - ((106 - m.log2 : Nat) : Int) - 1 + 2148).toNat = w at hE
    generalize 55 - m.log2 + 0 = u at hE
    rw [Nat.mul_right_comm z.natAbs, habs, Nat.mul_assoc m, Nat.mul_assoc m, ← Nat.pow_add, ← Nat.pow_add, Nat.mul_assoc m (2 ^ y), ← Nat.pow_add, Nat.mul_assoc m, ← Nat.pow_add]
    congr 2
    omega

/-! ### The sign -/
theorem read_low {b : Nat} {s : Bool} {m : Nat} {e : Int} (h : double.read b = .number s m e) : double.read (b % 2 ^ 63) = .number false m e := by
  have h1 : b % 2 ^ 63 % double.signWeight = b % double.signWeight := Nat.mod_mod _ _
  have h2 : (b % 2 ^ 63 / double.signWeight % 2 == 1) = false := by
    have : b % 2 ^ 63 / 2 ^ 63 = 0 := Nat.div_eq_of_lt (Nat.mod_lt _ (Nat.two_pow_pos 63))
    rw [double_weight, this]; rfl
  unfold Format.read at h ⊢
  dsimp only at h ⊢
  rw [h1, h2]
  split at h
  · rename_i h3
    simp only [Datum.number.injEq] at h
    rw [if_pos h3, h.2.1, h.2.2]
  · rename_i h3
    rw [if_neg h3]
    split at h
    · rename_i h4
      simp only [Datum.number.injEq] at h
      rw [if_pos h4, h.2.1, h.2.2]
    · split at h <;> simp at h

theorem read_flip {b : Nat} {s : Bool} {m : Nat} {e : Int} (h : double.read b = .number s m e) : double.read (b ^^^ 2 ^ 63) = .number (!s) m e := by
  have h1 : (b ^^^ 2 ^ 63) % double.signWeight = b % double.signWeight := by
    rw [double_weight, Nat.xor_mod_two_pow, Nat.mod_self, Nat.xor_zero]
  have h2 : ((b ^^^ 2 ^ 63) / double.signWeight % 2 == 1) = !(b / double.signWeight % 2 == 1) := by
    rw [double_weight, Nat.xor_div_two_pow, Nat.div_self (Nat.two_pow_pos 63)]
    generalize b / 2 ^ 63 = y
    have : (y ^^^ 1).testBit 0 = !(y.testBit 0) := by rw [Nat.testBit_xor]; simp
    rw [Nat.testBit_zero, Nat.testBit_zero] at this
    rcases Nat.mod_two_eq_zero_or_one y with h3 | h3 <;> rcases Nat.mod_two_eq_zero_or_one (y ^^^ 1) with h4 | h4 <;> rw [h3, h4] at this ⊢ <;> simp at this ⊢
  unfold Format.read at h ⊢
  dsimp only at h ⊢
  rw [h1, h2]
  split at h
  · rename_i h3
    simp only [Datum.number.injEq] at h
    rw [if_pos h3, h.1, h.2.1, h.2.2]
  · rename_i h3
    rw [if_neg h3]
    split at h
    · rename_i h4
      simp only [Datum.number.injEq] at h
      rw [if_pos h4, h.1, h.2.1, h.2.2]
    · split at h <;> simp at h

theorem fv_low {b : Nat} {x : Int} (h : fv b = some x) : fv (b % 2 ^ 63) = some (x.natAbs : Int) := by
  obtain ⟨s, m, e, h1, h2, h3⟩ := fv_spec h
  unfold fv
  rw [read_low h1]
  simp only [dv, if_pos h2]
  refine congrArg some ?_
  rw [h3, natAbs_signed]
  unfold signed
  rw [Nat.shiftLeft_eq]; rfl

theorem fv_flip {b : Nat} {x : Int} (h : fv b = some x) : fv (b ^^^ 2 ^ 63) = some (-x) := by
  obtain ⟨s, m, e, h1, h2, h3⟩ := fv_spec h
  unfold fv
  rw [read_flip h1]
  simp only [dv, if_pos h2]
  refine congrArg some ?_
  rw [h3, signed_not]

end Go.Proofs.Ytofaiipohmeelaa.Am
