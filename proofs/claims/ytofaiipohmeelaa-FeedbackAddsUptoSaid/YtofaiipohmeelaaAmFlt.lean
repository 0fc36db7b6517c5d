/-
  Exact numbers of double width: no program in sight.
-/
import Ieee.Arith
namespace Go.Proofs.Ytofaiipohmeelaa.Am
open Ieee

/-- What a number stands for, in units of 2 ^ -1074. -/
def dv : Datum → Option Int
  | .number s m e => if -1074 ≤ e then some (signed s m (e + 1074).toNat) else none
  | _ => none

/-- What a word stands for, in units of 2 ^ -1074. -/
def fv (b : Nat) : Option Int := dv (double.read b)

theorem signed_eq (s : Bool) (m k : Nat) : signed s m k = (if s then -1 else 1) * (m : Int) * 2 ^ k := by
  unfold signed
  rw [Nat.shiftLeft_eq]
  cases s <;> simp [Int.neg_mul]

theorem cut_zero (neg : Bool) (n : Nat) : Toward.even.cut neg n 0 = n := by
  simp [Toward.cut, Nat.mod_one]

theorem cut_exact (neg : Bool) {n d : Nat} (hn : 0 < n) (hd : 2 ^ d ∣ n) : Toward.even.cut neg n d = n / 2 ^ d := by
  have hle : 2 ^ d ≤ n := Nat.le_of_dvd hn hd
  have hlog : d ≤ n.log2 := (Nat.le_log2 (by omega)).2 hle
  have hgap : 1 <<< min d (n.log2 + 2) = 2 ^ d := by
    rw [Nat.min_eq_left (by omega), Nat.shiftLeft_eq, Nat.one_mul]
  have hrest : n % 2 ^ d = 0 := Nat.mod_eq_zero_of_dvd hd
  have hpos : 0 < 2 ^ d := Nat.two_pow_pos d
  simp only [Toward.cut, hgap, hrest]
  have h1 : decide (2 ^ d < 2 * 0) = false := by simp
  have h2 : (2 ^ d == 2 * 0) = false := by simp
  simp [h2]

theorem double_binade : double.binade = 2 ^ 52 := rfl
theorem double_weight : double.signWeight = 2 ^ 63 := rfl
theorem double_inf : double.infRung = 2047 * 2 ^ 52 := rfl
theorem double_least : double.leastPlace = -1074 := rfl
theorem double_frac : double.fractionBits = 52 := rfl

theorem read_word (neg : Bool) {q : Nat} {l : Int} (hl : -1074 ≤ l) (hl2 : l ≤ 971) (hq : q < 2 ^ 53) (hlow : -1074 < l → 2 ^ 52 ≤ q) :
    double.read (double.word neg ((l + 1074).toNat * 2 ^ 52 + q)) = .number neg q l := by
  obtain ⟨k, rfl⟩ : ∃ k : Nat, l = (k : Int) - 1074 := ⟨(l + 1074).toNat, by omega⟩
  have hk : ((k : Int) - 1074 + 1074).toNat = k := by omega
  rw [hk]
  have hr : k * 2 ^ 52 + q < 2 ^ 63 := by omega
  have hsign : double.word neg (k * 2 ^ 52 + q) / 2 ^ 63 % 2 = neg.toNat ∧ double.word neg (k * 2 ^ 52 + q) % 2 ^ 63 = k * 2 ^ 52 + q := by
    unfold Format.word
    rw [double_weight]
    cases neg
    · simp only [Bool.false_eq_true, if_false, Bool.toNat_false]; omega
    · simp only [if_true, Bool.toNat_true]; omega
  unfold Format.read
  simp only [double_weight, double_binade, double_inf, double_least, hsign.1, hsign.2]
  have hneg : (neg.toNat == 1) = neg := by cases neg <;> rfl
  rw [hneg]
  by_cases h0 : k * 2 ^ 52 + q < 2 ^ 52
  · have : k = 0 := by omega
    subst this
    rw [if_pos h0]
    simp
  · rw [if_neg h0, if_pos (by omega)]
    have hq2 : 2 ^ 52 ≤ q := by
      by_cases h : k = 0
      · subst h; omega
      · exact hlow (by omega)
    have h1 : (k * 2 ^ 52 + q) % 2 ^ 52 = q - 2 ^ 52 := by omega
    have h2 : (k * 2 ^ 52 + q) / 2 ^ 52 = k + 1 := by omega
    have e1 : 2 ^ 52 + (q - 2 ^ 52) = q := by omega
    have e2 : (-1074 : Int) + ((k + 1 - 1 : Nat) : Int) = (k : Int) - 1074 := by omega
    rw [h1, h2, e1, e2]

/-- A number that double width has is written as itself. -/
theorem read_nearest (neg : Bool) {m : Nat} {e : Int} (hm : 0 < m) (hsmall : e + m.log2 ≤ 1023) (hdiv : ∀ d : Nat, (d : Int) = max (e + m.log2 - 52) (-1074) - e → 2 ^ d ∣ m) :
    ∃ q l, double.read (double.nearest neg m e) = .number neg q l ∧ -1074 ≤ l ∧ (∀ B : Int, -B ≤ e → -B ≤ l → q * 2 ^ (l + B).toNat = m * 2 ^ (e + B).toNat) := by
  have hlogl := Nat.log2_self_le (n := m) (by omega)
  have hlogu := Nat.lt_log2_self (n := m)
  generalize hlast : max (e + m.log2 - 52) (-1074) = last at hdiv
  have hfin : ∀ q, Toward.even.cut neg (m <<< (e - last).toNat) (last - e).toNat = q → q < 2 ^ 53 → (-1074 < last → 2 ^ 52 ≤ q) → double.read (double.nearest neg m e) = .number neg q last := by
    intro q hq h53 h52
    unfold Format.nearest
    rw [if_neg (by omega)]
    simp only [double_frac, double_least, double_binade, double_inf]
    have : max (e + (m.log2 : Int) - ((52 : Nat) : Int)) (-1074) = last := by rw [← hlast]; rfl
    simp only [this, hq]
    have hl2 : last ≤ 971 := by omega
    rw [show last - -1074 = last + 1074 from by omega]
    have hmin : min ((last + 1074).toNat * 2 ^ 52 + q) (2047 * 2 ^ 52) = (last + 1074).toNat * 2 ^ 52 + q := by
      refine Nat.min_eq_left ?_
      have h3 : (last + 1074).toNat ≤ 2045 := by omega
      generalize (last + 1074).toNat = z at h3
      omega
    rw [hmin]
    exact read_word neg (by omega) hl2 h53 h52
  by_cases hc : last ≤ e
  · -- the digits are laid higher
    obtain ⟨d, hd⟩ : ∃ d : Nat, (d : Int) = e - last := ⟨(e - last).toNat, by omega⟩
    have h1 : (e - last).toNat = d := by omega
    have h2 : (last - e).toNat = 0 := by omega
    have hb : m * 2 ^ d < 2 ^ 53 ∧ (-1074 < last → 2 ^ 52 ≤ m * 2 ^ d) := by
      have hsum : m.log2 + d ≤ 52 := by omega
      constructor
      · calc m * 2 ^ d < 2 ^ (m.log2 + 1) * 2 ^ d := Nat.mul_lt_mul_of_pos_right hlogu (Nat.two_pow_pos d)
          _ = 2 ^ (m.log2 + 1 + d) := (Nat.pow_add _ _ _).symm
          _ ≤ 2 ^ 53 := Nat.pow_le_pow_right (by omega) (by omega)
      · intro h
        have : m.log2 + d = 52 := by omega
        calc 2 ^ 52 = 2 ^ m.log2 * 2 ^ d := by rw [← Nat.pow_add, this]
          _ ≤ m * 2 ^ d := Nat.mul_le_mul_right _ hlogl
    refine ⟨m * 2 ^ d, last, hfin _ ?_ hb.1 hb.2, by omega, fun B hB hB2 => ?_⟩
    · rw [h1, h2, cut_zero, Nat.shiftLeft_eq]
    · rw [Nat.mul_assoc, ← Nat.pow_add]
      congr 2; omega
  · obtain ⟨d, hd⟩ : ∃ d : Nat, (d : Int) = last - e := ⟨(last - e).toNat, by omega⟩
    have h1 : (e - last).toNat = 0 := by omega
    have h2 : (last - e).toNat = d := by omega
    have hdv := hdiv d hd
    obtain ⟨q, hq⟩ := hdv
    have hqpos : 0 < 2 ^ d := Nat.two_pow_pos d
    have hcut : Toward.even.cut neg (m <<< (e - last).toNat) (last - e).toNat = q := by
      rw [h1, h2, Nat.shiftLeft_eq, Nat.pow_zero, Nat.mul_one, cut_exact neg hm ⟨q, hq⟩, hq, Nat.mul_div_cancel_left _ hqpos]
    have hb : q < 2 ^ 53 ∧ (-1074 < last → 2 ^ 52 ≤ q) := by
      have hge : m.log2 ≤ 52 + d := by omega
      constructor
      · have : 2 ^ d * q < 2 ^ d * 2 ^ 53 := by
          rw [← hq]
          calc m < 2 ^ (m.log2 + 1) := hlogu
            _ ≤ 2 ^ (d + 53) := Nat.pow_le_pow_right (by omega) (by omega)
            _ = 2 ^ d * 2 ^ 53 := by rw [Nat.pow_add]
        exact Nat.lt_of_mul_lt_mul_left this
      · intro h
        have he : m.log2 = 52 + d := by omega
        have : 2 ^ d * 2 ^ 52 ≤ 2 ^ d * q := by
          rw [← hq]
          calc 2 ^ d * 2 ^ 52 = 2 ^ m.log2 := by rw [← Nat.pow_add, he, Nat.add_comm]
            _ ≤ m := hlogl
        exact Nat.le_of_mul_le_mul_left this hqpos
    refine ⟨q, last, hfin q hcut hb.1 hb.2, by omega, fun B hB hB2 => ?_⟩
    have : (last + B).toNat = d + (e + B).toNat := by omega
    rw [this, Nat.pow_add, hq]
    rw [← Nat.mul_assoc, Nat.mul_comm q]

/-- Double width has this many units of 2 ^ -1074. -/
def Fits (x : Nat) : Prop := ∃ q k : Nat, x = q * 2 ^ k ∧ q < 2 ^ 53 ∧ k ≤ 2045

theorem pow_le_of {a b : Nat} (h : 2 ^ a < 2 ^ b) : a < b := (Nat.pow_lt_pow_iff_right (by omega)).1 h

theorem fv_write (s : Bool) {m : Nat} {e : Int} {x : Nat} (he : -2148 ≤ e) (hx : m * 2 ^ (e + 2148).toNat = x * 2 ^ 1074) (hf : Fits x) : fv (double.write (.number s m e)) = some (signed s x 0) := by
  rcases Nat.eq_zero_or_pos m with rfl | hm
  · have hx0 : x = 0 := by
      rw [Nat.zero_mul] at hx
      rcases Nat.mul_eq_zero.1 hx.symm with h | h
      · exact h
      · exact absurd h (Nat.ne_of_gt (Nat.two_pow_pos 1074))
    subst hx0
    have : double.write (.number s 0 e) = double.word s (((-1074 : Int) + 1074).toNat * 2 ^ 52 + 0) := by
      show double.nearest s 0 e = _
      unfold Format.nearest
      rw [if_pos rfl]
      rfl
    rw [this]
    unfold fv
    rw [read_word s (by omega) (by omega) (by omega) (by omega)]
    simp only [dv]
    rw [if_pos (by omega)]
    simp [signed]
  · obtain ⟨q, k, hq, hq53, hk⟩ := hf
    obtain ⟨E, hE⟩ : ∃ E : Nat, (E : Int) = e + 2148 := ⟨(e + 2148).toNat, by omega⟩
    have hE2 : (e + 2148).toNat = E := by omega
    rw [hE2] at hx
    have hxq : m * 2 ^ E = q * 2 ^ (k + 1074) := by rw [hx, hq, Nat.pow_add, Nat.mul_assoc]
    have hlogl := Nat.log2_self_le (n := m) (by omega)
    have hub : m.log2 + E < 53 + (k + 1074) := by
      apply pow_le_of
      calc 2 ^ (m.log2 + E) = 2 ^ m.log2 * 2 ^ E := Nat.pow_add _ _ _
        _ ≤ m * 2 ^ E := Nat.mul_le_mul_right _ hlogl
        _ = q * 2 ^ (k + 1074) := hxq
        _ < 2 ^ 53 * 2 ^ (k + 1074) := Nat.mul_lt_mul_of_pos_right hq53 (Nat.two_pow_pos _)
        _ = 2 ^ (53 + (k + 1074)) := (Nat.pow_add _ _ _).symm
    have hdiv : ∀ d : Nat, (d : Int) = max (e + m.log2 - 52) (-1074) - e → 2 ^ d ∣ m := by
      intro d hd
      by_cases hc : e + m.log2 - 52 ≤ -1074
      · have hd2 : d + E = 1074 := by omega
        have : m * 2 ^ E = (x * 2 ^ d) * 2 ^ E := by rw [hx, Nat.mul_assoc, ← Nat.pow_add, hd2]
        have := Nat.mul_right_cancel (Nat.two_pow_pos E) this
        exact ⟨x, by rw [this, Nat.mul_comm]⟩
      · have hd2 : d + 52 = m.log2 := by omega
        obtain ⟨c, hc2⟩ : ∃ c : Nat, k + 1074 = c + d + E := ⟨k + 1074 - d - E, by omega⟩
        have : m * 2 ^ E = (2 ^ d * (q * 2 ^ c)) * 2 ^ E := by
          rw [hxq, hc2, Nat.pow_add, Nat.pow_add]
          rw [Nat.mul_comm (2 ^ d), ← Nat.mul_assoc, ← Nat.mul_assoc]
        exact ⟨q * 2 ^ c, Nat.mul_right_cancel (Nat.two_pow_pos E) this⟩
    obtain ⟨q', l, h1, h2, h3⟩ := read_nearest s hm (by omega) hdiv
    have h4 := h3 2148 (by omega) (by omega)
    rw [hE2, hx] at h4
    have h5 : (l + 2148).toNat = (l + 1074).toNat + 1074 := by omega
    rw [h5, Nat.pow_add, ← Nat.mul_assoc] at h4
    have h6 := Nat.mul_right_cancel (Nat.two_pow_pos 1074) h4
    show dv (double.read (double.nearest s m e)) = _
    rw [h1]
    simp only [dv, if_pos h2]
    unfold signed
    rw [Nat.shiftLeft_eq, h6]
    simp

/-- What a word that is a number stands for. -/
theorem fv_spec {b : Nat} {x : Int} (h : fv b = some x) : ∃ s m e, double.read b = .number s m e ∧ -1074 ≤ e ∧ x = signed s m (e + 1074).toNat := by
  unfold fv at h
  cases hd : double.read b with
  | number s m e =>
    rw [hd] at h
    simp only [dv] at h
    split at h
    · simp only [Option.some.injEq] at h; exact ⟨s, m, e, rfl, by assumption, h.symm⟩
    · simp at h
  | infinity s => rw [hd] at h; simp [dv] at h
  | nan s t => rw [hd] at h; simp [dv] at h

theorem signed_shift (s : Bool) (m a b : Nat) : signed s m (a + b) = signed s m a * 2 ^ b := by
  rw [signed_eq, signed_eq, Int.mul_assoc ((if s then -1 else 1) * (m : Int)), Int.pow_add]

theorem natAbs_signed (s : Bool) (m a : Nat) : (signed s m a).natAbs = m * 2 ^ a := by
  unfold signed
  rw [Nat.shiftLeft_eq]
  cases s
  · simp only [Bool.false_eq_true, if_false]; exact Int.natAbs_natCast _
  · simp only [if_true]; rw [Int.natAbs_neg]; exact Int.natAbs_natCast _

theorem sum_core {s t : Bool} {m n : Nat} {i j : Int} {x y : Int} (hi : -1074 ≤ i) (hj : -1074 ≤ j) (hx : x = signed s m (i + 1074).toNat) (hy : y = signed t n (j + 1074).toNat) (hf : Fits (x + y).natAbs) :
    ∃ d, (Datum.number s m i).sum (.number t n j) = some d ∧ fv (double.write d) = some (x + y) := by
  simp only [Datum.sum]
  generalize hb : min i j = base
  obtain ⟨B, hB⟩ : ∃ B : Nat, (B : Int) = base + 1074 := ⟨(base + 1074).toNat, by omega⟩
  obtain ⟨p, hp⟩ : ∃ p : Nat, (p : Int) = i - base := ⟨(i - base).toNat, by omega⟩
  obtain ⟨r, hr⟩ : ∃ r : Nat, (r : Int) = j - base := ⟨(j - base).toNat, by omega⟩
  have h1 : (i - base).toNat = p := by omega
  have h2 : (j - base).toNat = r := by omega
  have h3 : (i + 1074).toNat = p + B := by omega
  have h4 : (j + 1074).toNat = r + B := by omega
  rw [h3, signed_shift] at hx
  rw [h4, signed_shift] at hy
  rw [h1, h2]
  generalize ht : signed s m p + signed t n r = total
  have hxy : x + y = total * 2 ^ B := by rw [hx, hy, ← ht, Int.add_mul]
  have habs : (x + y).natAbs = total.natAbs * 2 ^ B := by
    rw [hxy, Int.natAbs_mul, Int.natAbs_pow]
    rfl
  refine ⟨_, rfl, ?_⟩
  rw [fv_write _ (x := (x + y).natAbs) (by omega) ?_ hf]
  · refine congrArg some ?_
    rw [signed_eq]
    simp only [Int.pow_zero, Int.mul_one]
    by_cases h0 : total = 0
    · subst h0; rw [hxy]; simp
    · rw [if_neg h0]
      by_cases hneg : total < 0
      · have : x + y < 0 := by rw [hxy]; exact Int.mul_neg_of_neg_of_pos hneg (by exact_mod_cast Nat.two_pow_pos B)
        simp only [hneg, decide_true, if_true]
        omega
      · have : 0 ≤ x + y := by rw [hxy]; exact Int.mul_nonneg (by omega) (by exact_mod_cast Nat.le_of_lt (Nat.two_pow_pos B))
        simp only [hneg, decide_false, Bool.false_eq_true, if_false]
        omega
  · have : (base + 2148).toNat = B + 1074 := by omega
    rw [this, habs, Nat.pow_add, Nat.mul_assoc]

theorem fv_add {a b : Nat} {x y : Int} (hx : fv a = some x) (hy : fv b = some y) (hf : Fits (x + y).natAbs) : ∃ r, double.add a b = some r ∧ fv r = some (x + y) := by
  obtain ⟨s, m, i, h1, h2, h3⟩ := fv_spec hx
  obtain ⟨t, n, j, h4, h5, h6⟩ := fv_spec hy
  obtain ⟨d, h7, h8⟩ := sum_core h2 h5 h3 h6 hf
  exact ⟨_, by unfold Format.add; rw [h1, h4, h7]; rfl, h8⟩

theorem signed_not (s : Bool) (m k : Nat) : signed (!s) m k = -signed s m k := by
  unfold signed; cases s <;> simp

theorem fv_sub {a b : Nat} {x y : Int} (hx : fv a = some x) (hy : fv b = some y) (hf : Fits (x - y).natAbs) : ∃ r, double.sub a b = some r ∧ fv r = some (x - y) := by
  obtain ⟨s, m, i, h1, h2, h3⟩ := fv_spec hx
  obtain ⟨t, n, j, h4, h5, h6⟩ := fv_spec hy
  obtain ⟨d, h7, h8⟩ := sum_core (y := -y) h2 h5 h3 (by rw [signed_not, ← h6]) (by rw [← Int.sub_eq_add_neg]; exact hf)
  exact ⟨_, by unfold Format.sub; rw [h1, h4]; simp only [Datum.opposite]; rw [h7]; rfl, by rw [h8, Int.sub_eq_add_neg]⟩

theorem fv_mul {a b : Nat} {x y z : Int} (hx : fv a = some x) (hy : fv b = some y) (hz : z * 2 ^ 1074 = x * y) (hf : Fits z.natAbs) : ∃ r, double.mul a b = some r ∧ fv r = some z := by
  obtain ⟨s, m, i, h1, h2, h3⟩ := fv_spec hx
  obtain ⟨t, n, j, h4, h5, h6⟩ := fv_spec hy
  refine ⟨_, by unfold Format.mul; rw [h1, h4]; rfl, ?_⟩
  have habs : z.natAbs * 2 ^ 1074 = (m * 2 ^ (i + 1074).toNat) * (n * 2 ^ (j + 1074).toNat) := by
    have e2 : ((2 : Int).natAbs : Nat) = 2 := rfl
    obtain ⟨K, hK⟩ : ∃ K : Nat, K = 1074 := ⟨_, rfl⟩
    rw [← hK] at hz ⊢
    have := congrArg Int.natAbs hz
    rw [Int.natAbs_mul, Int.natAbs_mul, h3, h6, natAbs_signed, natAbs_signed, Int.natAbs_pow, e2] at this
    exact this
  rw [fv_write _ (x := z.natAbs) (by omega) ?_ hf]
  · refine congrArg some ?_
    obtain ⟨K, hK⟩ : ∃ K : Nat, K = 1074 := ⟨_, rfl⟩
    rw [← hK] at hz habs
    have hpos : (0 : Int) < 2 ^ K := by exact_mod_cast Nat.two_pow_pos K
    have hzz : z * 2 ^ K = (if (s ^^ t) then -1 else 1) * (((m * 2 ^ (i + 1074).toNat) * (n * 2 ^ (j + 1074).toNat) : Nat) : Int) := by
      rw [hz, h3, h6, signed_eq, signed_eq]
      cases s <;> cases t <;> simp [Int.neg_mul, Int.mul_neg]
    rw [← habs] at hzz
    have hz2 : z = (if (s ^^ t) then -1 else 1) * (z.natAbs : Int) := by
      apply Int.eq_of_mul_eq_mul_right (a := 2 ^ K) (by omega)
      rw [hzz]
      push_cast
      rw [Int.mul_assoc]
    rw [signed_eq]
    simp only [Int.pow_zero, Int.mul_one]
    exact hz2.symm
  · have : (i + j + 2148).toNat = (i + 1074).toNat + (j + 1074).toNat := by omega
    rw [this, habs, Nat.pow_add]
    rw [Nat.mul_mul_mul_comm]

theorem compare_mul {a b c : Int} (hc : 0 < c) : compare (a * c) (b * c) = compare a b := by
  simp only [compare, compareOfLessAndEq]
  have h1 : (a * c < b * c) = (a < b) := propext (Int.mul_lt_mul_right hc)
  have h2 : (a * c = b * c) = (a = b) := propext ⟨fun h => Int.eq_of_mul_eq_mul_right (by omega) h, fun h => by rw [h]⟩
  simp only [h1, h2]

theorem fv_order {a b : Nat} {x y : Int} (hx : fv a = some x) (hy : fv b = some y) : double.order a b = some (compare x y) := by
  obtain ⟨s, m, i, h1, h2, h3⟩ := fv_spec hx
  obtain ⟨t, n, j, h4, h5, h6⟩ := fv_spec hy
  unfold Format.order
  rw [h1, h4]
  simp only [Datum.order]
  generalize hb : min i j = base
  obtain ⟨B, hB⟩ : ∃ B : Nat, (B : Int) = base + 1074 := ⟨(base + 1074).toNat, by omega⟩
  obtain ⟨p, hp⟩ : ∃ p : Nat, (p : Int) = i - base := ⟨(i - base).toNat, by omega⟩
  obtain ⟨r, hr⟩ : ∃ r : Nat, (r : Int) = j - base := ⟨(j - base).toNat, by omega⟩
  have k1 : (i - base).toNat = p := by omega
  have k2 : (j - base).toNat = r := by omega
  have k3 : (i + 1074).toNat = p + B := by omega
  have k4 : (j + 1074).toNat = r + B := by omega
  rw [k1, k2, h3, h6, k3, k4, signed_shift, signed_shift, compare_mul (by exact_mod_cast Nat.two_pow_pos B)]

end Go.Proofs.Ytofaiipohmeelaa.Am
