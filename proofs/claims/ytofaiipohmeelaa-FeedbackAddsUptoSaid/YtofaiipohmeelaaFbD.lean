/-
  Contract: feedback.Echo, where the taps may be and the numbers lie on the grid.
-/
import Derived.Test.YtofaiipohmeelaaFbC
set_option linter.all false
namespace Go.Proofs.Ytofaiipohmeelaa.Am
open Ieee
variable {F : Tab}

def emul (a b : Int × Int) : Int × Int := (a.1 * b.1 - a.2 * b.2, a.1 * b.2 + a.2 * b.1)
/-- What so many taps make of a row at n. -/
def esum (tp xs : Nat → Int × Int) (n : Nat) : Nat → Int × Int
  | 0 => (0, 0)
  | k + 1 => ((esum tp xs n k).1 + (emul (tp k) (xs (n - k))).1, (esum tp xs n k).2 + (emul (tp k) (xs (n - k))).2)
def echoI (tn : Nat) (tp xs : Nat → Int × Int) (n : Nat) : Int × Int := esum tp xs n (min tn (n + 1))

theorem mul_le {a b : Int} {A B : Nat} (ha : a.natAbs ≤ A) (hb : b.natAbs ≤ B) : (a * b).natAbs ≤ A * B := by
  rw [Int.natAbs_mul]; exact Nat.mul_le_mul ha hb

theorem emul_le {a b : Int × Int} {A B : Nat} (h1 : a.1.natAbs ≤ A) (h2 : a.2.natAbs ≤ A) (h3 : b.1.natAbs ≤ B) (h4 : b.2.natAbs ≤ B) : (emul a b).1.natAbs ≤ 2 * (A * B) ∧ (emul a b).2.natAbs ≤ 2 * (A * B) := by
  have k1 := mul_le h1 h3
  have k2 := mul_le h2 h4
  have k3 := mul_le h1 h4
  have k4 := mul_le h2 h3
  simp only [emul]
  generalize A * B = C at *
  omega

theorem esum_le {tp xs : Nat → Int × Int} {A B : Nat} (n : Nat) : ∀ k, (∀ i, i < k → (tp i).1.natAbs ≤ A ∧ (tp i).2.natAbs ≤ A ∧ (xs (n - i)).1.natAbs ≤ B ∧ (xs (n - i)).2.natAbs ≤ B) → (esum tp xs n k).1.natAbs ≤ k * (2 * (A * B)) ∧ (esum tp xs n k).2.natAbs ≤ k * (2 * (A * B))
  | 0, _ => by simp [esum]
  | k + 1, h => by
    have h1 := esum_le n k (fun i hi => h i (by omega))
    obtain ⟨a1, a2, a3, a4⟩ := h k (by omega)
    have h2 := emul_le a1 a2 a3 a4
    simp only [esum, Nat.add_mul, Nat.one_mul]
    generalize 2 * (A * B) = C at *
    generalize k * C = D at *
    omega

/-- A row of complex numbers of these steps. -/
def IRow (h : Heap) (v : AV) (len u : Nat) (xs : Nat → Int × Int) : Prop := RowP h v 1 len fun i c => ∃ p q, c = [.cpx p q] ∧ Fx u p (xs i).1 ∧ Fx u q (xs i).2

theorem IRow.ld {h : Heap} {v : AV} {len u : Nat} {xs : Nat → Int × Int} (r : IRow h v len u xs) {i : Nat} (hi : i < len) : ∃ p q, ldV h (elemP v i 1) 1 false = some (.cpx p q) ∧ Fx u p (xs i).1 ∧ Fx u q (xs i).2 := by
  obtain ⟨c, h1, p, q, rfl, h2, h3⟩ := r.get i hi
  exact ⟨p, q, ld_one h1, h2, h3⟩

/-- The words of a row. -/
theorem IRow.words {h : Heap} {v : AV} {len u : Nat} {xs : Nat → Int × Int} (r : IRow h v len u xs) : ∃ re im : Nat → Nat, CRow h v len re im ∧ ∀ i, i < len → Fx u (re i) (xs i).1 ∧ Fx u (im i) (xs i).2 := by
  have : ∀ i, ∃ p q, i < len → (ldc h (elemP v i 1) 1 = some [.cpx p q] ∧ Fx u p (xs i).1 ∧ Fx u q (xs i).2) := by
    intro i
    by_cases hi : i < len
    · obtain ⟨c, h1, p, q, rfl, h2, h3⟩ := r.get i hi
      exact ⟨p, q, fun _ => ⟨h1, h2, h3⟩⟩
    · exact ⟨0, 0, fun h => absurd h hi⟩
  refine ⟨fun i => (this i).choose, fun i => (this i).choose_spec.choose, ⟨r.shape, fun i hi => ⟨_, ((this i).choose_spec.choose_spec hi).1, rfl⟩⟩, fun i hi => ((this i).choose_spec.choose_spec hi).2⟩

/-- Of taps by their steps. -/
def tsumI (tp : Nat → Int × Int) : Nat → Int
  | 0 => 0
  | k + 1 => tsumI tp k + ((tp k).1.natAbs + (tp k).2.natAbs)

structure TapsI (tn : Nat) (tp : Nat → Int × Int) : Prop where
  pos : 0 < tn
  most : tn ≤ 64
  part : ∀ i, i < tn → (tp i).1.natAbs ≤ 64 ∧ (tp i).2.natAbs ≤ 64
  sum : tsumI tp tn ≤ 256

theorem tsum_eq {tn : Nat} {tp : Nat → Int × Int} {re im : Nat → Nat} (h : ∀ i, i < tn → (tp i).1.natAbs ≤ 64 ∧ (tp i).2.natAbs ≤ 64) (hw : ∀ i, i < tn → Fx 6 (re i) (tp i).1 ∧ Fx 6 (im i) (tp i).2) : ∀ k, k ≤ tn → tsum re im k = tsumI tp k
  | 0, _ => rfl
  | k + 1, hk => by
    simp only [tsum, tsumI]
    rw [tsum_eq h hw k (by omega), stps_of (hw k (by omega)).1 (h k (by omega)).1, stps_of (hw k (by omega)).2 (h k (by omega)).2]

theorem TapsI.ok {tn : Nat} {tp : Nat → Int × Int} (T : TapsI tn tp) {re im : Nat → Nat} (hw : ∀ i, i < tn → Fx 6 (re i) (tp i).1 ∧ Fx 6 (im i) (tp i).2) : TapsOK tn re im :=
  ⟨T.pos, T.most, fun i hi => ⟨stpG_iff.2 ⟨_, (T.part i hi).1, (hw i hi).1⟩, stpG_iff.2 ⟨_, (T.part i hi).2, (hw i hi).2⟩⟩, by rw [tsum_eq T.part hw tn (Nat.le_refl _)]; exact T.sum⟩

theorem echo_part {tn xn : Nat} {tp xs : Nat → Int × Int} (T : TapsI tn tp) (hg : ∀ i, i < xn → (xs i).1.natAbs ≤ 4194304 ∧ (xs i).2.natAbs ≤ 4194304) {n : Nat} (hn : n < xn) (k : Nat) (hk : k ≤ tn) : (esum tp xs n k).1.natAbs ≤ 34359738368 ∧ (esum tp xs n k).2.natAbs ≤ 34359738368 := by
  have h1 := esum_le (tp := tp) (xs := xs) (A := 64) (B := 4194304) n k (fun i hi => by
    have h2 := T.part i (by omega)
    have h3 := hg (n - i) (by omega)
    exact ⟨h2.1, h2.2, h3.1, h3.2⟩)
  have h64 : k ≤ 64 := Nat.le_trans hk T.most
  have d1 : k * (2 * (64 * 4194304)) ≤ 64 * (2 * (64 * 4194304)) := Nat.mul_le_mul_right _ h64
  exact ⟨Nat.le_trans h1.1 d1, Nat.le_trans h1.2 d1⟩

theorem echo_ok (c : Cs F) {h : Heap} {t x : AV} {tn xn : Nat} {tp xs : Nat → Int × Int} (ht : IRow h t tn 6 tp) (hx : IRow h x xn 12 xs) (T : TapsI tn tp) (hxn : xn ≤ 65536) (hg : ∀ i, i < xn → (xs i).1.natAbs ≤ 4194304 ∧ (xs i).2.natAbs ≤ 4194304) :
    CQ F f_feedback_Echo [t, x] h fun v h' => ∃ out, v = .tup [out, .int .i64 0] ∧ Acc h h' out 1 xn fun n c => ∃ p q, c = [.cpx p q] ∧ Fx 18 p (echoI tn tp xs n).1 ∧ Fx 18 q (echoI tn tp xs n).2 := by
  refine wp_call c.feedback_Echo rfl (by simp) ?_
  obtain ⟨tre, tim, htc, htw⟩ := ht.words
  have k1 := taps_ok c htc (by have := T.most; omega)
  rw [tapsB_iff.2 (T.ok htw)] at k1
  have x1 : ¬ (65536 : Int) < xn := by omega
  simp [b_feedback_Echo, k1, hx.len, x1]
  refine wp_for xn (fun i tt h' => h' = h ∧ tt.get 0 = some t ∧ tt.get 1 = some x ∧ tt.get 24 = some x ∧ tt.get 25 = some (.int .i64 xn) ∧ tt.get 26 = some (.int .i64 i)) (by simp) ?_ ?_
  · rintro i tt h' hi ⟨rfl, g0, g1, g24, g25, g26⟩
    have hw := wrap_i64 (n := i + 1) (by omega) (by omega)
    have e1 := hx.idx (k := .i64) (i := i) (by omega) (by omega)
    rw [Int.toNat_natCast] at e1
    obtain ⟨p, q, e2, f1, f2⟩ := hx.ld hi
    have s1 := on_ok c p h'
    have s2 := on_ok c q h'
    rw [onG_iff.2 ⟨_, (hg i hi).1, f1⟩] at s1
    rw [onG_iff.2 ⟨_, (hg i hi).2, f2⟩] at s2
    simp [c_feedback_Echo_L0, g0, g1, g24, g25, g26, hi, e1, e2, s1, s2, hw]
  rintro tt h' ⟨rfl, g0, g1, g24, g25, g26⟩
  obtain ⟨out0, h1, m1, a1, _⟩ := mkV_ok h' (l := 0) (c := xn) (zero := [.cpx 0 0]) (n := 1) (bytes := 16) (ty := 33) (k := .i64) (k' := .i64) (by omega) (by omega) (P := fun n c => ∃ p q, c = [.cpx p q] ∧ Fx 18 p (echoI tn tp xs n).1 ∧ Fx 18 q (echoI tn tp xs n).2) (by intro i hi; omega) rfl (by omega)
  simp only [Int.natCast_zero] at m1
  simp [c_feedback_Echo_L0, c_feedback_Echo_R1, g0, g1, g24, g25, g26, hx.len, m1]
  refine wp_for xn (fun n tt h2 => tt.get 0 = some t ∧ tt.get 1 = some x ∧ tt.get 45 = some (.int .i64 xn) ∧ tt.get 46 = some (.int .i64 n) ∧ ∃ out, tt.get 8 = some out ∧ Acc h' h2 out 1 n fun n c => ∃ p q, c = [.cpx p q] ∧ Fx 18 p (echoI tn tp xs n).1 ∧ Fx 18 q (echoI tn tp xs n).2) (by simp [g0, g1, a1]) ?_ ?_
  · rintro n tt h2 hn ⟨g0, g1, g45, g46, out, g8, acc⟩
    have hw := wrap_i64 (n := n + 1) (by omega) (by omega)
    have hm : (if ((n : Int) + 1) < tn then ((n : Int) + 1) else tn) = ((min tn (n + 1) : Nat) : Int) := by split <;> omega
    have ht2 := ht.ext acc.ext
    have hx2 := hx.ext acc.ext
    have hcut := ht2.cut (k := .i64) (i := ((min tn (n + 1) : Nat) : Int)) (by omega) (by omega)
    rw [Int.toNat_natCast] at hcut
    have htr := ht2.cut_row (k := min tn (n + 1)) (by omega)
    generalize hmm : min tn (n + 1) = m at hm hcut htr
    simp [c_feedback_Echo_L2, g0, g1, g8, g45, g46, hn, ht2.len, hw, hm, hcut, htr.len]
    generalize cutTo t m = tv at htr
    refine wp_for m (fun k tt h3 => h3 = h2 ∧ tt.get 0 = some t ∧ tt.get 1 = some x ∧ tt.get 8 = some out ∧ tt.get 9 = some (.int .i64 n) ∧ tt.get 45 = some (.int .i64 xn) ∧ tt.get 46 = some (.int .i64 n) ∧ tt.get 55 = some tv ∧ tt.get 56 = some (.int .i64 m) ∧ tt.get 57 = some (.int .i64 k) ∧ ∃ a b, tt.get 10 = some (.flt a) ∧ tt.get 11 = some (.flt b) ∧ Fx 18 a (esum tp xs n k).1 ∧ Fx 18 b (esum tp xs n k).2) (by simp [g0, g1, g8, g45, g46, esum, Fx.zero]) ?_ ?_
    · rintro k tt h3 hk ⟨rfl, g0, g1, g8, g9, g45, g46, g55, g56, g57, a, b, g10, g11, fa, fb⟩
      have hkt : k < tn := by omega
      have hnk : n - k < xn := by omega
      have hmt : k ≤ tn := by omega
      have hw2 := wrap_i64 (n := k + 1) (by omega) (by omega)
      have hw3 := wrap_i64 (n := n - k) (by omega) (by omega)
      have e1 := htr.idx (k := .i64) (i := k) (by omega) (by omega)
      rw [Int.toNat_natCast] at e1
      obtain ⟨p, q, e2, f1, f2⟩ := IRow.ld htr hk
      have e3 := hx2.idx (k := .i64) (i := (n : Int) - k) (by omega) (by omega)
      have e4 : ((n : Int) - k).toNat = n - k := by omega
      rw [e4] at e3
      obtain ⟨p', q', e5, f3, f4⟩ := IRow.ld hx2 (i := n - k) (by omega)
      have b1 := T.part k hkt
      have b2 := hg (n - k) hnk
      obtain ⟨r, s, t1, v1, v2⟩ := times_ok c f1 f2 f3 f4 (by decide) (abs_lt (mul_le b1.1 b2.1) (by decide)) (abs_lt (mul_le b1.2 b2.2) (by decide)) (abs_lt (mul_le b1.1 b2.2) (by decide)) (abs_lt (mul_le b1.2 b2.1) (by decide))
      have hbm := emul_le b1.1 b1.2 b2.1 b2.2
      have hbs := echo_part T hg hn k hmt
      obtain ⟨r', m3, v3⟩ := fa.add v1 (abs_add hbs.1 hbm.1 (by decide))
      obtain ⟨s', m4, v4⟩ := fb.add v2 (abs_add hbs.2 hbm.2 (by decide))
      simp [c_feedback_Echo_L3, g0, g1, g8, g9, g10, g11, g45, g46, g55, g56, g57, hk, e1, e2, hw2, hw3, e3, e5, t1 h3, m3, m4]
      exact ⟨v3, v4⟩
    · rintro tt h3 ⟨rfl, g0, g1, g8, g9, g45, g46, g55, g56, g57, a, b, g10, g11, fa, fb⟩
      obtain ⟨v', h4, e5, acc', _⟩ := acc.push (cells := [.cpx a b]) rfl (by omega) rfl ⟨a, b, rfl, by unfold echoI; rw [hmm]; exact ⟨fa, fb⟩⟩ (bytes := 16) (by omega) 33 33
      simp [c_feedback_Echo_L3, c_feedback_Echo_R4, c_feedback_Echo_R5, g0, g1, g8, g9, g10, g11, g45, g46, g55, g56, g57, hw, e5]
      exact acc'
  · rintro tt h2 ⟨g0, g1, g45, g46, out, g8, acc⟩
    have hne : out ≠ .undef := by rcases acc.own with rfl | ⟨b, l, cap, cells, size, ty, rfl, _⟩ <;> simp
    simp [c_feedback_Echo_L2, c_feedback_Echo_R6, g8, g45, g46, resOne_some hne]
    exact acc

end Go.Proofs.Ytofaiipohmeelaa.Am
