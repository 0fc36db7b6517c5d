/-
  Contracts: quarter turns, taps (the program's and the document's), what a first tap is. For every argument that each names.
-/
import Derived.Test.YtofaiipohmeelaaFbA
set_option linter.all false
namespace Go.Proofs.Ytofaiipohmeelaa.Am
open Ieee
variable {F : Tab}

/-! ### Turns -/
/-- Turned to the left by so many quarters: the words. -/
def turnW : Nat → Nat × Nat → Nat × Nat
  | 0, z => z
  | n + 1, z => (negF (turnW n z).2, (turnW n z).1)
/-- To the right. -/
def turnR : Nat → Nat × Nat → Nat × Nat
  | 0, z => z
  | n + 1, z => ((turnR n z).2, negF (turnR n z).1)
def turnI : Nat → Int × Int → Int × Int
  | 0, z => z
  | n + 1, z => (-(turnI n z).2, (turnI n z).1)
def turnJ : Nat → Int × Int → Int × Int
  | 0, z => z
  | n + 1, z => ((turnJ n z).2, -(turnJ n z).1)

theorem turnW_fx {u : Nat} {z : Nat × Nat} {w : Int × Int} (h1 : Fx u z.1 w.1) (h2 : Fx u z.2 w.2) : ∀ n, Fx u (turnW n z).1 (turnI n w).1 ∧ Fx u (turnW n z).2 (turnI n w).2
  | 0 => ⟨h1, h2⟩
  | n + 1 => ⟨(turnW_fx h1 h2 n).2.neg, (turnW_fx h1 h2 n).1⟩
theorem turnR_fx {u : Nat} {z : Nat × Nat} {w : Int × Int} (h1 : Fx u z.1 w.1) (h2 : Fx u z.2 w.2) : ∀ n, Fx u (turnR n z).1 (turnJ n w).1 ∧ Fx u (turnR n z).2 (turnJ n w).2
  | 0 => ⟨h1, h2⟩
  | n + 1 => ⟨(turnR_fx h1 h2 n).2, (turnR_fx h1 h2 n).1.neg⟩

theorem turn_ok (c : Cs F) (z : Nat × Nat) (n : Nat) (hn : n < 4294967296) : Tells F f_ref11_Turn [.cpx z.1 z.2, .int .i64 n] (.cpx (turnW n z).1 (turnW n z).2) := by
  refine .of fun h => ?_
  refine wp_call c.ref11_Turn rfl (by simp) ?_
  simp [b_ref11_Turn]
  refine wp_for n (fun i t h' => h' = h ∧ t.get 0 = some (.cpx (turnW i z).1 (turnW i z).2) ∧ t.get 1 = some (.int .i64 n) ∧ t.get 5 = some (.int .i64 i)) (by simp [turnW]) ?_ ?_
  · rintro i t h' hi ⟨rfl, g0, g1, g5⟩
    have hw := wrap_i64 (n := i + 1) (by omega) (by omega)
    simp [c_ref11_Turn_L0, g0, g1, g5, hi, hw, turnW]
  · rintro t h' ⟨rfl, g0, g1, g5⟩
    simp [c_ref11_Turn_L0, c_ref11_Turn_R1, g0, g1, g5]

theorem turned_ok (c : Cs F) (z : Nat × Nat) (n : Nat) (hn : n < 4294967296) : Tells F f_feedback_turned [.cpx z.1 z.2, .int .i64 n] (.cpx (turnR n z).1 (turnR n z).2) := by
  refine .of fun h => ?_
  refine wp_call c.feedback_turned rfl (by simp) ?_
  simp [b_feedback_turned]
  refine wp_for n (fun i t h' => h' = h ∧ t.get 0 = some (.cpx (turnR i z).1 (turnR i z).2) ∧ t.get 5 = some (.int .i64 n) ∧ t.get 6 = some (.int .i64 i)) (by simp [turnR]) ?_ ?_
  · rintro i t h' hi ⟨rfl, g0, g1, g5⟩
    have hw := wrap_i64 (n := i + 1) (by omega) (by omega)
    simp [c_feedback_turned_L0, g0, g1, g5, hi, hw, turnR]
  · rintro t h' ⟨rfl, g0, g1, g5⟩
    simp [c_feedback_turned_L0, c_feedback_turned_R1, g0, g1, g5]

/-! ### Rows of complex numbers -/
def CRow (h : Heap) (v : AV) (len : Nat) (re im : Nat → Nat) : Prop := RowP h v 1 len fun i c => c = [.cpx (re i) (im i)]

theorem CRow.ld {h : Heap} {v : AV} {len : Nat} {re im : Nat → Nat} (r : CRow h v len re im) {i : Nat} (hi : i < len) : ldV h (elemP v i 1) 1 false = some (.cpx (re i) (im i)) := by
  obtain ⟨c, h1, rfl⟩ := r.get i hi
  exact ld_one h1

/-- The steps of a part of a tap. -/
noncomputable def stps (b : Nat) : Int := @dite _ (Grid 6 64 b) (Classical.propDecidable _) (fun h => h.choose) (fun _ => 0)
theorem stps_fx {b : Nat} (h : Grid 6 64 b) : Fx 6 b (stps b) ∧ (stps b).natAbs ≤ 64 := by
  have e : stps b = h.choose := by unfold stps; exact dif_pos h
  rw [e]
  exact ⟨h.choose_spec.2, h.choose_spec.1⟩
theorem stps_of {b : Nat} {n : Int} (h : Fx 6 b n) (hn : n.natAbs ≤ 64) : stps b = n := (stps_fx ⟨n, hn, h⟩).1.inj h

/-- The sizes of so many taps' parts together. -/
noncomputable def tsum (re im : Nat → Nat) : Nat → Int
  | 0 => 0
  | k + 1 => tsum re im k + ((stps (re k)).natAbs + (stps (im k)).natAbs)

def Steps (len : Nat) (re im : Nat → Nat) : Prop := ∀ i, i < len → stpG (re i) = true ∧ stpG (im i) = true

theorem tsum_le {re im : Nat → Nat} {len : Nat} (hs : Steps len re im) : ∀ k, k ≤ len → 0 ≤ tsum re im k ∧ tsum re im k ≤ 128 * k
  | 0, _ => by simp [tsum]
  | k + 1, hk => by
    have h1 := tsum_le hs k (by omega)
    have h2 := hs k (by omega)
    have h3 := (stps_fx (stpG_iff.1 h2.1)).2
    have h4 := (stps_fx (stpG_iff.1 h2.2)).2
    simp only [tsum]
    omega

/-- Are these taps? -/
def TapsOK (len : Nat) (re im : Nat → Nat) : Prop := 0 < len ∧ len ≤ 64 ∧ Steps len re im ∧ tsum re im len ≤ 256
noncomputable def tapsB (len : Nat) (re im : Nat → Nat) : Bool := @decide (TapsOK len re im) (Classical.propDecidable _)
theorem tapsB_iff {len : Nat} {re im : Nat → Nat} : tapsB len re im = true ↔ TapsOK len re im := by unfold tapsB; exact @decide_eq_true_iff _ (Classical.propDecidable _)
theorem tapsB_of {len : Nat} {re im : Nat → Nat} {t : Bool} (h : t = true ↔ TapsOK len re im) : tapsB len re im = t := by
  cases t with
  | true => exact tapsB_iff.2 (h.1 rfl)
  | false =>
    cases ho : tapsB len re im with
    | false => rfl
    | true => exact (h.2 (tapsB_iff.1 ho)).symm

theorem fx_4at6 : Fx 6 4616189618054758400 256 := fx_4.finer 6 (by omega)

theorem taps_ok (c : Cs F) {h : Heap} {v : AV} {len : Nat} {re im : Nat → Nat} (hr : CRow h v len re im) (hl : len < 4294967296) (K : AV → Heap → Prop) : CQ F f_feedback_taps [v] h K ↔ K (.bool (tapsB len re im)) h := by
  refine CQ.is ?_ K
  refine wp_call c.feedback_taps rfl (by simp) ?_
  simp [b_feedback_taps, hr.len]
  refine wp_for len (fun i t h' => h' = h ∧ Steps i re im ∧ t.get 0 = some v ∧ t.get 6 = some v ∧ t.get 7 = some (.int .i64 len) ∧ t.get 8 = some (.int .i64 i) ∧ ∃ f, t.get 3 = some (.flt f) ∧ Fx 6 f (tsum re im i)) ?_ ?_ ?_
  · simp [tsum, Fx.zero, Steps]
  · rintro i t h' hi ⟨rfl, hst, g0, g6, g7, g8, f, g3, hf⟩
    have hw := wrap_i64 (n := i + 1) (by omega) (by omega)
    have e1 := hr.idx (k := .i64) (i := i) (by omega) (by omega)
    have e2 := hr.ld hi
    rw [Int.toNat_natCast] at e1
    have s1 := step_ok c (re i) h'
    have s2 := step_ok c (im i) h'
    cases k1 : stpG (re i) with
    | false =>
      have hno : tapsB len re im = false := tapsB_of ⟨fun h => by simp at h, fun ⟨_, _, h3, _⟩ => by rw [← k1, (h3 i hi).1]⟩
      simp [c_feedback_taps_L0, g0, g6, g7, g8, g3, hi, e1, e2, s1, k1, hno]
    | true =>
      cases k2 : stpG (im i) with
      | false =>
        have hno : tapsB len re im = false := tapsB_of ⟨fun h => by simp at h, fun ⟨_, _, h3, _⟩ => by rw [← k2, (h3 i hi).2]⟩
        simp [c_feedback_taps_L0, g0, g6, g7, g8, g3, hi, e1, e2, s1, s2, k1, k2, hno]
      | true =>
        have hst' : Steps (i + 1) re im := fun j hj => by
          rcases Nat.lt_or_ge j i with h1 | h1
          · exact hst j h1
          · obtain rfl : j = i := by omega
            exact ⟨k1, k2⟩
        have f1 := (stps_fx (stpG_iff.1 k1))
        have f2 := (stps_fx (stpG_iff.1 k2))
        have hb := tsum_le hst i (Nat.le_refl _)
        obtain ⟨w, m1, w1⟩ := f1.1.abs.add f2.1.abs (by omega)
        obtain ⟨z, m2, w2⟩ := hf.add w1 (by omega)
        have a1 := abs_ok c (re i) h'
        have a2 := abs_ok c (im i) h'
        generalize re i % 2 ^ 63 = p at a1 m1
        generalize im i % 2 ^ 63 = q at a2 m1
        simp [c_feedback_taps_L0, g0, g6, g7, g8, g3, hi, e1, e2, s1, s2, k1, k2, a1, a2, m1, m2, hw, hst']
        exact w2
  · rintro t h' ⟨rfl, hst, g0, g6, g7, g8, f, g3, hf⟩
    have e3 := hf.leq fx_4at6
    simp [c_feedback_taps_L0, c_feedback_taps_R1, g0, g6, g7, g8, g3, hr.len]
    by_cases h1 : 0 < len
    · by_cases h2 : len ≤ 64
      · have hno : tapsB len re im = decide (tsum re im len ≤ 256) := tapsB_of (by rw [decide_eq_true_eq]; exact ⟨fun h => ⟨h1, h2, hst, h⟩, fun h => h.2.2.2⟩)
        have h2' : (len : Int) ≤ 64 := by omega
        simp [h1, h2', e3, hno, g0, g3, hr.len]
      · have hno : tapsB len re im = false := tapsB_of ⟨fun h => by simp at h, fun ⟨_, h3, _⟩ => absurd h3 h2⟩
        have h2' : ¬ (len : Int) ≤ 64 := by omega
        simp [h1, h2', hno, g0, g3, hr.len]
    · have hno : tapsB len re im = false := tapsB_of ⟨fun h => by simp at h, fun ⟨h3, _⟩ => absurd h3 h1⟩
      simp [h1, hno, g0, g3, hr.len]

theorem Taps_ok (c : Cs F) {h : Heap} {v : AV} {len : Nat} {re im : Nat → Nat} (hr : CRow h v len re im) (hl : len < 4294967296) (K : AV → Heap → Prop) : CQ F f_ref11_Taps [v] h K ↔ K (.bool (tapsB len re im)) h := by
  refine CQ.is ?_ K
  refine wp_call c.ref11_Taps rfl (by simp) ?_
  by_cases h1 : len < 1
  · have hno : tapsB len re im = false := tapsB_of ⟨fun h => by simp at h, fun ⟨h3, _⟩ => absurd h3 (by omega)⟩
    have h1' : (len : Int) < 1 := by omega
    simp [b_ref11_Taps, hr.len, h1, h1', hno]
  have h1' : ¬ (len : Int) < 1 := by omega
  by_cases h2 : 64 < len
  · have hno : tapsB len re im = false := tapsB_of ⟨fun h => by simp at h, fun ⟨_, h3, _⟩ => absurd h3 (by omega)⟩
    have h2' : (64 : Int) < len := by omega
    simp [b_ref11_Taps, hr.len, h1, h1', h2, h2', hno]
  have h2' : ¬ (64 : Int) < len := by omega
  simp [b_ref11_Taps, hr.len, h1, h1', h2, h2']
  refine wp_for len (fun i t h' => h' = h ∧ Steps i re im ∧ t.get 0 = some v ∧ t.get 4 = some (.int .i64 i) ∧ ∃ f, t.get 3 = some (.flt f) ∧ Fx 6 f (tsum re im i)) ?_ ?_ ?_
  · simp [tsum, Fx.zero, Steps]
  · rintro i t h' hi ⟨rfl, hst, g0, g4, f, g3, hf⟩
    have hw := wrap_i64 (n := i + 1) (by omega) (by omega)
    have e1 := hr.idx (k := .i64) (i := i) (by omega) (by omega)
    have e2 := hr.ld hi
    rw [Int.toNat_natCast] at e1
    have s1 := rstep_ok c (re i) h'
    have s2 := rstep_ok c (im i) h'
    cases k1 : stpG (re i) with
    | false =>
      have hno : tapsB len re im = false := tapsB_of ⟨fun h => by simp at h, fun ⟨_, _, h3, _⟩ => by rw [← k1, (h3 i hi).1]⟩
      simp [c_ref11_Taps_L0, g0, g4, g3, hi, e1, e2, s1, k1, hno, hr.len]
    | true =>
      cases k2 : stpG (im i) with
      | false =>
        have hno : tapsB len re im = false := tapsB_of ⟨fun h => by simp at h, fun ⟨_, _, h3, _⟩ => by rw [← k2, (h3 i hi).2]⟩
        simp [c_ref11_Taps_L0, g0, g4, g3, hi, e1, e2, s1, s2, k1, k2, hno, hr.len]
      | true =>
        have hst' : Steps (i + 1) re im := fun j hj => by
          rcases Nat.lt_or_ge j i with h1 | h1
          · exact hst j h1
          · obtain rfl : j = i := by omega
            exact ⟨k1, k2⟩
        have f1 := (stps_fx (stpG_iff.1 k1))
        have f2 := (stps_fx (stpG_iff.1 k2))
        have hb := tsum_le hst i (Nat.le_refl _)
        obtain ⟨p, a1, p1⟩ := size_ok c f1.1
        obtain ⟨q, a2, q1⟩ := size_ok c f2.1
        obtain ⟨w, m1, w1⟩ := hf.add p1 (by omega)
        obtain ⟨z, m2, w2⟩ := w1.add q1 (by omega)
        obtain ⟨y, hy⟩ := hr.quiet hi
        simp [c_ref11_Taps_L0, g0, g4, g3, hi, e1, e2, s1, s2, k1, k2, a1 _, a2 _, m1, m2, hw, hst', hr.len, hy]
        refine w2.cast ?_
        simp only [tsum]
        omega
  · rintro t h' ⟨rfl, hst, g0, g4, f, g3, hf⟩
    have e3 := hf.leq fx_4at6
    have hno : tapsB len re im = decide (tsum re im len ≤ 256) := tapsB_of (by rw [decide_eq_true_eq]; exact ⟨fun h => ⟨by omega, by omega, hst, h⟩, fun h => h.2.2.2⟩)
    simp [c_ref11_Taps_L0, c_ref11_Taps_R1, g0, g4, g3, hr.len, e3, hno]

/-! ### First taps -/
/-- How large a first tap is, and how many quarters it is turned; none: it may not be one. (In steps of 2 ^ -6.) -/
def firstI (x y : Int) : Option (Int × Nat) :=
  if y = 0 ∧ (x = 64 ∨ x = 32 ∨ x = 16) then some (x, 0)
  else if x = 0 ∧ (y = 64 ∨ y = 32 ∨ y = 16) then some (y, 1)
  else if y = 0 ∧ (-x = 64 ∨ -x = 32 ∨ -x = 16) then some (-x, 2)
  else if x = 0 ∧ (-y = 64 ∨ -y = 32 ∨ -y = 16) then some (-y, 3)
  else none

def FirstIs (x y : Int) (r n : Nat) : Prop :=
  match firstI x y with
  | some (s, k) => Fx 6 r s ∧ n = k
  | none => r = 0 ∧ n = 0

/-- The test of the program at so many quarters. -/
def firstT (x y : Int) (j : Nat) : Bool := decide ((turnJ j (x, y)).2 = 0) && (decide ((turnJ j (x, y)).1 = 64) || decide ((turnJ j (x, y)).1 = 32) || decide ((turnJ j (x, y)).1 = 16))

theorem firstT_hit {x y : Int} {i : Nat} (hi : i < 4) (h1 : ∀ j, j < i → firstT x y j = false) (h2 : firstT x y i = true) : firstI x y = some ((turnJ i (x, y)).1, i) := by
  have e : i = 0 ∨ i = 1 ∨ i = 2 ∨ i = 3 := by omega
  simp only [firstT, Bool.and_eq_true, Bool.or_eq_true, decide_eq_true_eq, or_assoc] at h2
  have hf : ∀ j, j < i → ¬ ((turnJ j (x, y)).2 = 0 ∧ ((turnJ j (x, y)).1 = 64 ∨ (turnJ j (x, y)).1 = 32 ∨ (turnJ j (x, y)).1 = 16)) := fun j hj h3 => by
    have := h1 j hj
    simp only [firstT, h3.1, decide_true, Bool.true_and] at this
    simp only [Bool.or_eq_false_iff, decide_eq_false_iff_not] at this
    rcases h3.2 with h4 | h4 | h4
    · exact this.1.1 h4
    · exact this.1.2 h4
    · exact this.2 h4
  rcases e with rfl | rfl | rfl | rfl
  · simp only [turnJ] at h2 ⊢
    unfold firstI
    rw [if_pos h2]
  · have k0 := hf 0 (by omega)
    simp only [turnJ] at h2 k0 ⊢
    unfold firstI
    rw [if_neg k0, if_pos ⟨by omega, h2.2⟩]
  · have k0 := hf 0 (by omega)
    have k1 := hf 1 (by omega)
    simp only [turnJ] at h2 k0 k1 ⊢
    unfold firstI
    rw [if_neg k0, if_neg (by omega), if_pos ⟨by omega, by omega⟩]
  · have k0 := hf 0 (by omega)
    have k1 := hf 1 (by omega)
    have k2 := hf 2 (by omega)
    simp only [turnJ] at h2 k0 k1 k2 ⊢
    unfold firstI
    rw [if_neg k0, if_neg (by omega), if_neg (by omega), if_pos ⟨by omega, by omega⟩]

theorem firstT_miss {x y : Int} (h1 : ∀ j, j < 4 → firstT x y j = false) : firstI x y = none := by
  have hf : ∀ j, j < 4 → ¬ ((turnJ j (x, y)).2 = 0 ∧ ((turnJ j (x, y)).1 = 64 ∨ (turnJ j (x, y)).1 = 32 ∨ (turnJ j (x, y)).1 = 16)) := fun j hj h3 => by
    have := h1 j hj
    simp only [firstT, h3.1, decide_true, Bool.true_and] at this
    simp only [Bool.or_eq_false_iff, decide_eq_false_iff_not] at this
    rcases h3.2 with h4 | h4 | h4
    · exact this.1.1 h4
    · exact this.1.2 h4
    · exact this.2 h4
  have k0 := hf 0 (by omega)
  have k1 := hf 1 (by omega)
  have k2 := hf 2 (by omega)
  have k3 := hf 3 (by omega)
  simp only [turnJ] at k0 k1 k2 k3
  unfold firstI
  rw [if_neg k0, if_neg (by omega), if_neg (by omega), if_neg (by omega)]

theorem fx6_1 : Fx 6 4607182418800017408 64 := fx_1.finer 6 (by omega)
theorem fx6_half : Fx 6 4602678819172646912 32 := fx_half.finer 4 (by omega)
theorem fx6_quarter : Fx 6 4598175219545276416 16 := fx_quarter.finer 4 (by omega)

theorem first_ok (c : Cs F) {a b : Nat} {x y : Int} (hx : Fx 6 a x) (hy : Fx 6 b y) : ∃ r n, FirstIs x y r n ∧ n < 4 ∧ Tells F f_feedback_first [.cpx a b] (.tup [.flt r, .int .i64 n, .bool (firstI x y).isSome]) := by
  have hz := turnR_fx (z := (a, b)) (w := (x, y)) hx hy
  by_cases hex : ∃ i, i < 4 ∧ (∀ j, j < i → firstT x y j = false) ∧ firstT x y i = true
  · obtain ⟨n, hn, hno, hyes⟩ := hex
    have hit := firstT_hit hn hno hyes
    refine ⟨(turnR n (a, b)).1, n, by simp only [FirstIs, hit]; exact ⟨(hz n).1, trivial⟩, hn, .of fun h => ?_⟩
    refine wp_call c.feedback_first rfl (by simp) ?_
    simp [b_feedback_first]
    refine wp_for 4 (fun i t h' => h' = h ∧ i ≤ n ∧ t.get 0 = some (.cpx a b) ∧ t.get 7 = some (.int .i64 i)) (by simp) ?_ ?_
    · rintro i t h' hi ⟨rfl, hin, g0, g7⟩
      have hw := wrap_i64 (n := i + 1) (by omega) (by omega)
      have t1 := turned_ok c (a, b) i (by omega) h'
      have i4 : (i : Int) < 4 := by omega
      have q0 := (hz i).2.eql (Fx.zero 6)
      have q1 := (hz i).1.eql fx6_1
      have q2 := (hz i).1.eql fx6_half
      have q3 := (hz i).1.eql fx6_quarter
      by_cases he : i = n
      · subst he
        have hy2 := hyes
        simp only [firstT] at hy2
        cases d0 : decide ((turnJ i (x, y)).2 = 0) <;> cases d1 : decide ((turnJ i (x, y)).1 = 64) <;> cases d2 : decide ((turnJ i (x, y)).1 = 32) <;> cases d3 : decide ((turnJ i (x, y)).1 = 16) <;> rw [d0, d1, d2, d3] at hy2 <;> simp at hy2 <;>
          rw [d0] at q0 <;> rw [d1] at q1 <;> rw [d2] at q2 <;> rw [d3] at q3 <;> simp [c_feedback_first_L0, g0, g7, i4, t1, q0, q1, q2, q3, hit]
      · have hy2 := hno i (by omega)
        simp only [firstT] at hy2
        cases d0 : decide ((turnJ i (x, y)).2 = 0) <;> cases d1 : decide ((turnJ i (x, y)).1 = 64) <;> cases d2 : decide ((turnJ i (x, y)).1 = 32) <;> cases d3 : decide ((turnJ i (x, y)).1 = 16) <;> rw [d0, d1, d2, d3] at hy2 <;> simp at hy2 <;>
          rw [d0] at q0 <;> rw [d1] at q1 <;> rw [d2] at q2 <;> rw [d3] at q3 <;> simp [c_feedback_first_L0, g0, g7, i4, t1, q0, q1, q2, q3, hw] <;> omega
    · rintro t h' ⟨rfl, hin, g0, g7⟩
      omega
  · have hall : ∀ j, j < 4 → firstT x y j = false := by
      intro j
      induction j using Nat.strongRecOn with
      | _ j ih =>
        intro hj
        cases hb : firstT x y j with
        | false => rfl
        | true => exact absurd ⟨j, hj, fun k hk => ih k hk (by omega), hb⟩ hex
    have miss := firstT_miss hall
    refine ⟨0, 0, by simp only [FirstIs, miss, and_self], by omega, .of fun h => ?_⟩
    refine wp_call c.feedback_first rfl (by simp) ?_
    simp [b_feedback_first]
    refine wp_for 4 (fun i t h' => h' = h ∧ t.get 0 = some (.cpx a b) ∧ t.get 7 = some (.int .i64 i)) (by simp) ?_ ?_
    · rintro i t h' hi ⟨rfl, g0, g7⟩
      have hw := wrap_i64 (n := i + 1) (by omega) (by omega)
      have t1 := turned_ok c (a, b) i (by omega) h'
      have i4 : (i : Int) < 4 := by omega
      have q0 := (hz i).2.eql (Fx.zero 6)
      have q1 := (hz i).1.eql fx6_1
      have q2 := (hz i).1.eql fx6_half
      have q3 := (hz i).1.eql fx6_quarter
      have hy2 := hall i hi
      simp only [firstT] at hy2
      cases d0 : decide ((turnJ i (x, y)).2 = 0) <;> cases d1 : decide ((turnJ i (x, y)).1 = 64) <;> cases d2 : decide ((turnJ i (x, y)).1 = 32) <;> cases d3 : decide ((turnJ i (x, y)).1 = 16) <;> rw [d0, d1, d2, d3] at hy2 <;> simp at hy2 <;>
        rw [d0] at q0 <;> rw [d1] at q1 <;> rw [d2] at q2 <;> rw [d3] at q3 <;> simp [c_feedback_first_L0, g0, g7, i4, t1, q0, q1, q2, q3, hw]
    · rintro t h' ⟨rfl, g0, g7⟩
      simp [c_feedback_first_L0, c_feedback_first_R1, g0, g7, miss]

end Go.Proofs.Ytofaiipohmeelaa.Am
