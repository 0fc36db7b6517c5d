/-
  Contracts: the statements' own samples, near, may (chapter 11).
-/
import Derived.Test.YtofaiipohmeelaaFbD
set_option linter.all false
namespace Go.Proofs.Ytofaiipohmeelaa.Am
open Ieee
variable {F : Tab}

/-- A row of sets: two parts, whether it is lost. -/
structure SetRow (h : Heap) (v : AV) (n : Nat) (re im : Nat → Int) (lost : Nat → Bool) : Prop where
  row : RowP h v 3 n fun i c => c = [.int .i32 (re i), .int .i32 (im i), .bool (lost i)]
  small : ∀ i, i < n → (re i).natAbs ≤ 2147483648 ∧ (im i).natAbs ≤ 2147483648

theorem SetRow.ext {h h' : Heap} {v : AV} {n : Nat} {re im : Nat → Int} {lost : Nat → Bool} (r : SetRow h v n re im lost) (e : Grow h h') : SetRow h' v n re im lost := ⟨r.row.ext e, r.small⟩

theorem SetRow.ld {h : Heap} {v : AV} {n : Nat} {re im : Nat → Int} {lost : Nat → Bool} (r : SetRow h v n re im lost) {i : Nat} (hi : i < n) :
    idxV v (.int .i64 i) 3 = some (elemP v i 3) ∧ (∀ k, padV (elemP v i 3) k = some (paddP (elemP v i 3) k)) ∧ ldV h (paddP (elemP v i 3) 0) 1 false = some (.int .i32 (re i)) ∧ ldV h (paddP (elemP v i 3) 1) 1 false = some (.int .i32 (im i)) ∧ ldV h (paddP (elemP v i 3) 2) 1 false = some (.bool (lost i)) := by
  have e1 := r.row.idx (k := .i64) (i := i) (by omega) (by omega)
  rw [Int.toNat_natCast] at e1
  obtain ⟨c, h1, rfl⟩ := r.row.get i hi
  exact ⟨e1, r.row.pad hi, ld_part h1 (by omega) rfl, ld_part h1 (by omega) rfl, ld_part h1 (by omega) rfl⟩

/-- A whole number by 4096. -/
theorem by_4096 {n : Int} (h : n.natAbs ≤ 2147483648) : ∃ r, double.div (FloatKind.f64.nearest n) 4661225614328463360 = some r ∧ Fx 12 r n := by
  have h53 : n.natAbs < 2 ^ 53 := Nat.lt_of_le_of_lt h (by decide)
  exact (Fx.ofInt h53).div 12 rd_4096 (by decide) (by decide) h53

theorem by_64 {n : Int} (h : n.natAbs ≤ 2147483648) : ∃ r, double.div (FloatKind.f64.nearest n) 4634204016564240384 = some r ∧ Fx 6 r n := by
  have h53 : n.natAbs < 2 ^ 53 := Nat.lt_of_le_of_lt h (by decide)
  exact (Fx.ofInt h53).div 6 rd_64 (by decide) (by decide) h53

/-- Samples of these steps of the grid. -/
def SP (re im : Nat → Int) (lost : Nat → Bool) : Nat → List AV → Prop := fun i c => ∃ p q, c = [.cpx p q, .bool (lost i)] ∧ Fx 12 p (re i) ∧ Fx 12 q (im i)

theorem acc_def {h0 h : Heap} {v : AV} {n len : Nat} {P : Nat → List AV → Prop} (a : Acc h0 h v n len P) : v ≠ .undef := by
  rcases a.own with rfl | ⟨b, l, cap, cells, size, ty, rfl, _⟩ <;> simp

theorem samples_ok (c : Cs F) {h : Heap} {v : AV} {n : Nat} {re im : Nat → Int} {lost : Nat → Bool} (r : SetRow h v n re im lost) (hn : n ≤ 4294967296) :
    CQ F f_law11_samples [v] h fun u h' => Acc h h' u 2 n (SP re im lost) := by
  refine wp_call c.law11_samples rfl (by simp) ?_
  simp [b_law11_samples]
  refine wp_for n (fun i t h' => t.get 0 = some v ∧ t.get 4 = some (.int .i64 i) ∧ ∃ out, t.get 3 = some out ∧ Acc h h' out 2 i (SP re im lost)) (by simp; exact Acc.nil (Grow.refl h) _ _) ?_ ?_
  · rintro i t h' hi ⟨g0, g4, out, g3, acc⟩
    have hw := wrap_i64 (n := i + 1) (by omega) (by omega)
    have r' := r.ext acc.ext
    obtain ⟨e1, e2, e3, e4, e5⟩ := r'.ld hi
    obtain ⟨p, d1, f1⟩ := by_4096 (r.small i hi).1
    obtain ⟨q, d2, f2⟩ := by_4096 (r.small i hi).2
    obtain ⟨v', h4, e6, acc', _⟩ := acc.push (cells := [.cpx p q, .bool (lost i)]) rfl (by omega) rfl ⟨p, q, rfl, f1, f2⟩ (bytes := 24) (by omega) 39 39
    simp [c_law11_samples_L0, g0, g3, g4, hi, r'.row.len, e1, e2, e3, e4, e5, d1, d2, e6, hw]
    exact acc'
  · rintro t h' ⟨g0, g4, out, g3, acc⟩
    have r' := r.ext acc.ext
    have acc2 : Acc h h' out 2 n (fun i c => i < n → SP re im lost i c) := acc.mono fun i c _ hP _ => hP
    obtain ⟨v', h4, e6, acc', _⟩ := acc2.push (cells := [.cpx 4651892959631900672 0, .bool false]) rfl (by omega) rfl (fun h => absurd h (by omega)) (bytes := 24) (by omega) 39 39
    have hcut := acc'.row.cut (k := .i64) (i := n) (by omega) (by omega)
    rw [Int.toNat_natCast] at hcut
    have acc3 := (acc'.cut (k := n) (by omega)).mono (Q := SP re im lost) fun i c hi hP => hP hi
    simp [c_law11_samples_L0, c_law11_samples_R1, g0, g3, g4, r'.row.len, acc.row.len, e6, hcut, resOne_some (acc_def acc3)]
    exact acc3

theorem rem_small (n : Int) : (n.tmod 1048576).natAbs ≤ 1048575 := by
  rw [Int.natAbs_tmod]
  have := Nat.mod_lt n.natAbs (show 0 < (1048576 : Int).natAbs by decide)
  have e : (1048576 : Int).natAbs = 1048576 := rfl
  rw [e] at this ⊢
  omega

theorem near_ok (c : Cs F) {h : Heap} {v : AV} {n : Nat} {re im : Nat → Int} {lost : Nat → Bool} (r : SetRow h v n re im lost) (hn : n ≤ 4294967296) :
    CQ F f_law11_near [v] h fun u h' => Acc h h' u 2 n (SP (fun i => (re i).tmod 1048576) (fun i => (im i).tmod 1048576) fun _ => false) := by
  refine wp_call c.law11_near rfl (by simp) ?_
  simp [b_law11_near]
  refine (samples_ok c r hn).mono ?_
  intro u h1 a1
  simp
  refine wp_for n (fun i t h' => t.get 0 = some v ∧ t.get 3 = some u ∧ t.get 4 = some (.int .i64 i) ∧ Acc h h' u 2 n (fun j c => j < i → SP (fun i => (re i).tmod 1048576) (fun i => (im i).tmod 1048576) (fun _ => false) j c)) (by simp; exact a1.mono fun _ _ _ _ => trivial) ?_ ?_
  · rintro i t h' hi ⟨g0, g3, g4, acc⟩
    have hw := wrap_i64 (n := i + 1) (by omega) (by omega)
    have r' := r.ext acc.ext
    obtain ⟨e1, e2, e3, e4, e5⟩ := r'.ld hi
    obtain ⟨p, d1, f1⟩ := by_4096 (n := (re i).tmod 1048576) (Nat.le_trans (rem_small _) (by decide))
    obtain ⟨q, d2, f2⟩ := by_4096 (n := (im i).tmod 1048576) (Nat.le_trans (rem_small _) (by decide))
    have e6 := acc.row.idx (k := .i64) (i := i) (by omega) (by omega)
    rw [Int.toNat_natCast] at e6
    obtain ⟨h2, e7, acc', _⟩ := acc.set hi (x := .agg [.cpx p q, .bool false]) rfl rfl (Q := fun j c => j < i + 1 → SP (fun i => (re i).tmod 1048576) (fun i => (im i).tmod 1048576) (fun _ => false) j c) (fun _ => ⟨p, q, rfl, f1, f2⟩) (fun j c hj hne hP hlt => hP (by omega))
    simp [c_law11_near_L0, g0, g3, g4, hi, r'.row.len, acc.row.len, e1, e2, e3, e4, bi_rem, d1, d2, e6, e7, hw]
    exact acc'
  · rintro t h' ⟨g0, g3, g4, acc⟩
    simp [c_law11_near_L0, c_law11_near_R1, g0, g3, g4, acc.row.len, resOne_some (acc_def acc)]
    exact acc.mono fun i c hi hP => hP hi

end Go.Proofs.Ytofaiipohmeelaa.Am
