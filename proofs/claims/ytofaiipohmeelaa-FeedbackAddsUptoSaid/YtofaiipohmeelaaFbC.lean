/-
  Contracts: what a first tap is (the document's), whether taps may be (both).
-/
import Derived.Test.YtofaiipohmeelaaFbB
set_option linter.all false
namespace Go.Proofs.Ytofaiipohmeelaa.Am
open Ieee
variable {F : Tab}

theorem turnI_four (z : Int × Int) : turnI 0 z = z ∧ turnI 1 z = (-z.2, z.1) ∧ turnI 2 z = (-z.1, -z.2) ∧ turnI 3 z = (z.2, -z.1) := by
  refine ⟨rfl, rfl, rfl, ?_⟩
  simp [turnI]

theorem firstI_turn {x y s : Int} {n : Nat} (h : firstI x y = some (s, n)) : turnI n (s, 0) = (x, y) ∧ (s = 64 ∨ s = 32 ∨ s = 16) ∧ n < 4 := by
  obtain ⟨t0, t1, t2, t3⟩ := turnI_four (s, 0)
  unfold firstI at h
  split at h
  · simp only [Option.some.injEq, Prod.mk.injEq] at h
    obtain ⟨rfl, rfl⟩ := h
    rw [t0]
    exact ⟨by simp; omega, by omega, by omega⟩
  split at h
  · simp only [Option.some.injEq, Prod.mk.injEq] at h
    obtain ⟨rfl, rfl⟩ := h
    rw [t1]
    exact ⟨by simp; omega, by omega, by omega⟩
  split at h
  · simp only [Option.some.injEq, Prod.mk.injEq] at h
    obtain ⟨rfl, rfl⟩ := h
    rw [t2]
    exact ⟨by simp; omega, by omega, by omega⟩
  split at h
  · simp only [Option.some.injEq, Prod.mk.injEq] at h
    obtain ⟨rfl, rfl⟩ := h
    rw [t3]
    exact ⟨by simp; omega, by omega, by omega⟩
  · simp at h

theorem firstI_of {x y s : Int} {n : Nat} (h : turnI n (s, 0) = (x, y)) (hs : s = 64 ∨ s = 32 ∨ s = 16) (hn : n < 4) : firstI x y = some (s, n) := by
  obtain ⟨t0, t1, t2, t3⟩ := turnI_four (s, 0)
  have e : n = 0 ∨ n = 1 ∨ n = 2 ∨ n = 3 := by omega
  rcases e with rfl | rfl | rfl | rfl
  · rw [t0] at h; cases h
    rcases hs with rfl | rfl | rfl <;> rfl
  · rw [t1] at h; cases h
    rcases hs with rfl | rfl | rfl <;> rfl
  · rw [t2] at h; cases h
    rcases hs with rfl | rfl | rfl <;> rfl
  · rw [t3] at h; cases h
    rcases hs with rfl | rfl | rfl <;> rfl

def fsW (k : Nat) : Nat := if k = 0 then 4607182418800017408 else if k = 1 then 4602678819172646912 else 4598175219545276416
def fsI (k : Nat) : Int := if k = 0 then 64 else if k = 1 then 32 else 16
theorem fs_fx (k : Nat) : Fx 6 (fsW k) (fsI k) := by
  unfold fsW fsI
  split
  · exact fx6_1
  split
  · exact fx6_half
  · exact fx6_quarter
theorem fs_in (k : Nat) : fsI k = 64 ∨ fsI k = 32 ∨ fsI k = 16 := by
  unfold fsI
  split
  · simp
  split <;> simp
theorem fs_all {s : Int} (h : s = 64 ∨ s = 32 ∨ s = 16) : ∃ k, k < 3 ∧ fsI k = s := by
  rcases h with rfl | rfl | rfl
  · exact ⟨0, by omega, rfl⟩
  · exact ⟨1, by omega, rfl⟩
  · exact ⟨2, by omega, rfl⟩

theorem First_ok (c : Cs F) {a b : Nat} {x y : Int} (hx : Fx 6 a x) (hy : Fx 6 b y) (h : Heap) :
    CQ F f_ref11_First [.cpx a b] h fun v h' => Grow h h' ∧ ∃ r n, FirstIs x y r n ∧ n < 4 ∧ v = .tup [.flt r, .int .i64 n] := by
  refine wp_call c.ref11_First rfl (by simp) ?_
  have hrow := (made_row h (cells := [.flt 4607182418800017408, .flt 4602678819172646912, .flt 4598175219545276416]) (n := 1) (len := 3) (ty := 76) (P := fun i c => c = [.flt (fsW i)]) rfl (by
    intro i hi
    have e : i = 0 ∨ i = 1 ∨ i = 2 := by omega
    rcases e with rfl | rfl | rfl <;> rfl)).row
  have hg := made_ext h [.flt 4607182418800017408, .flt 4602678819172646912, .flt 4598175219545276416] 1 76
  simp [b_ref11_First]
  generalize made h [.flt 4607182418800017408, .flt 4602678819172646912, .flt 4598175219545276416] 1 76 = h1 at hrow hg ⊢
  generalize AV.sl h.next 0 3 3 = v at hrow ⊢
  refine wp_for 3 (fun k t h' => h' = h1 ∧ (∀ k' n, k' < k → n < 4 → turnI n (fsI k', 0) ≠ (x, y)) ∧ t.get 0 = some (.cpx a b) ∧ t.get 7 = some v ∧ t.get 8 = some (.int .i64 3) ∧ t.get 9 = some (.int .i64 k)) (by simp) ?_ ?_
  · rintro k t h' hk ⟨rfl, hno, g0, g7, g8, g9⟩
    have hw := wrap_i64 (n := k + 1) (by omega) (by omega)
    have e1 := hrow.idx (k := .i64) (i := k) (by omega) (by omega)
    rw [Int.toNat_natCast] at e1
    have e2 : ldV h' (elemP v k 1) 1 false = some (.flt (fsW k)) := by
      obtain ⟨c, h1, rfl⟩ := hrow.get k hk
      exact ld_one h1
    have k3 : (k : Int) < 3 := by omega
    simp [c_ref11_First_L0, g0, g7, g8, g9, e1, e2, k3]
    refine wp_for 4 (fun n t h'' => h'' = h' ∧ (∀ n', n' < n → turnI n' (fsI k, 0) ≠ (x, y)) ∧ t.get 0 = some (.cpx a b) ∧ t.get 5 = some (.flt (fsW k)) ∧ t.get 6 = some (.int .i64 n) ∧ t.get 7 = some v ∧ t.get 8 = some (.int .i64 3) ∧ t.get 9 = some (.int .i64 k)) (by simp [g0, g7, g8, g9]) ?_ ?_
    · rintro n t h'' hn ⟨rfl, hno2, g0, g5, g6, g7, g8, g9⟩
      have hwn := wrap_i64 (n := n + 1) (by omega) (by omega)
      have t1 := turn_ok c (fsW k, 0) n (by omega) h''
      obtain ⟨z1, z2⟩ := turnW_fx (z := (fsW k, 0)) (w := (fsI k, 0)) (fs_fx k) (Fx.zero 6) n
      have q := z1.ceql z2 hx hy
      have n4 : (n : Int) < 4 := by omega
      simp only at t1 q
      by_cases he : turnI n (fsI k, 0) = (x, y)
      · rw [he] at q
        simp only [decide_true, Bool.and_true] at q
        have hit := firstI_of he (fs_in k) hn
        simp [c_ref11_First_L1, g0, g5, g6, g7, g8, g9, n4, t1, q]
        exact ⟨hg, _, _, by simp only [FirstIs, hit]; exact ⟨fs_fx k, trivial⟩, hn, rfl, rfl⟩
      · have q' : (decide ((turnI n (fsI k, 0)).1 = x) && decide ((turnI n (fsI k, 0)).2 = y)) = false := by
          cases hb : (decide ((turnI n (fsI k, 0)).1 = x) && decide ((turnI n (fsI k, 0)).2 = y)) with
          | false => rfl
          | true =>
            simp only [Bool.and_eq_true, decide_eq_true_eq] at hb
            exact absurd (Prod.ext hb.1 hb.2) he
        rw [q'] at q
        simp [c_ref11_First_L1, g0, g5, g6, g7, g8, g9, n4, t1, q, hwn]
        intro n' hn'
        rcases Nat.lt_or_ge n' n with h1 | h1
        · exact hno2 n' h1
        · obtain rfl : n' = n := by omega
          exact he
    · rintro t h'' ⟨rfl, hno2, g0, g5, g6, g7, g8, g9⟩
      simp [c_ref11_First_L1, c_ref11_First_R2, g0, g5, g6, g7, g8, g9, hw]
      intro k' n hk' hn
      rcases Nat.lt_or_ge k' k with h1 | h1
      · exact hno k' n h1 hn
      · obtain rfl : k' = k := by omega
        exact hno2 n hn
  · rintro t h' ⟨rfl, hno, g0, g7, g8, g9⟩
    have miss : firstI x y = none := by
      cases hf : firstI x y with
      | none => rfl
      | some p =>
        obtain ⟨s, n⟩ := p
        obtain ⟨h1, h2, h3⟩ := firstI_turn hf
        obtain ⟨k, hk, rfl⟩ := fs_all h2
        exact absurd h1 (hno k n hk h3)
    simp [c_ref11_First_L0, c_ref11_First_R3, g0, g7, g8, g9]
    exact ⟨hg, 0, 0, by simp only [FirstIs, miss, and_self], by omega, rfl, rfl⟩

/-- What is wrong with taps: the number. -/
noncomputable def tapsE (len : Nat) (re im : Nat → Nat) : Int := if tapsB len re im = false then 8 else if (firstI (stps (re 0)) (stps (im 0))).isSome then 0 else 110

theorem Check_ok (c : Cs F) {h : Heap} {v : AV} {len : Nat} {re im : Nat → Nat} (hr : CRow h v len re im) (hl : len < 4294967296) :
    CQ F f_ref11_Check [v] h fun u h' => Grow h h' ∧ u = .int .i64 (tapsE len re im) := by
  refine wp_call c.ref11_Check rfl (by simp) ?_
  have k1 := Taps_ok c hr hl
  cases hb : tapsB len re im with
  | false =>
    simp [b_ref11_Check, k1, hb, tapsE]
    exact Grow.refl h
  | true =>
    obtain ⟨h0, h64, hst, _⟩ := tapsB_iff.1 hb
    have e1 := hr.idx (k := .i64) (i := 0) (by omega) (by omega)
    have e2 := hr.ld h0
    simp at e1
    have f1 := (stps_fx (stpG_iff.1 (hst 0 h0).1)).1
    have f2 := (stps_fx (stpG_iff.1 (hst 0 h0).2)).1
    simp [b_ref11_Check, k1, hb, e1, e2]
    refine (First_ok c f1 f2 h).mono ?_
    rintro u h' ⟨hg, r, n, hi, hn, rfl⟩
    cases hf : firstI (stps (re 0)) (stps (im 0)) with
    | none =>
      simp only [FirstIs, hf] at hi
      obtain ⟨rfl, rfl⟩ := hi
      have q := (Fx.zero 6).eql (Fx.zero 6)
      simp [q, tapsE, hb, hf]
      exact hg
    | some p =>
      obtain ⟨s, k⟩ := p
      simp only [FirstIs, hf] at hi
      have q := hi.1.eql (Fx.zero 6)
      have hs := (firstI_turn hf).2.1
      have hs0 : decide (s = 0) = false := by simp; omega
      rw [hs0] at q
      simp [q, tapsE, hb, hf]
      exact hg

theorem check_ok (c : Cs F) {h : Heap} {v : AV} {len : Nat} {re im : Nat → Nat} (hr : CRow h v len re im) (hl : len < 4294967296) (K : AV → Heap → Prop) :
    CQ F f_feedback_Check [v] h K ↔ K (.int .i64 (tapsE len re im)) h := by
  refine CQ.is ?_ K
  refine wp_call c.feedback_Check rfl (by simp) ?_
  have k1 := taps_ok c hr hl
  cases hb : tapsB len re im with
  | false => simp [b_feedback_Check, k1, hb, tapsE]
  | true =>
    obtain ⟨h0, h64, hst, _⟩ := tapsB_iff.1 hb
    have e1 := hr.idx (k := .i64) (i := 0) (by omega) (by omega)
    have e2 := hr.ld h0
    simp at e1
    have f1 := (stps_fx (stpG_iff.1 (hst 0 h0).1)).1
    have f2 := (stps_fx (stpG_iff.1 (hst 0 h0).2)).1
    obtain ⟨r, n, hi, hn, ht⟩ := first_ok c f1 f2
    cases hf : (firstI (stps (re 0)) (stps (im 0))).isSome <;> rw [hf] at ht <;> simp [b_feedback_Check, k1, hb, e1, e2, ht h, tapsE, hf]

end Go.Proofs.Ytofaiipohmeelaa.Am
