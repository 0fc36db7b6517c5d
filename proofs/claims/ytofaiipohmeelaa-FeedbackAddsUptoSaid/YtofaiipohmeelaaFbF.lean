/-
  Contract: the statements' own taps that may be (chapter 11).
-/
import Derived.Test.YtofaiipohmeelaaFbE
set_option linter.all false
namespace Go.Proofs.Ytofaiipohmeelaa.Am
open Ieee
variable {F : Tab}

def IP (u : Nat) (xs : Nat → Int × Int) : Nat → List AV → Prop := fun i c => ∃ p q, c = [.cpx p q] ∧ Fx u p (xs i).1 ∧ Fx u q (xs i).2

def upd {α : Type} (xs : Nat → α) (n : Nat) (z : α) : Nat → α := fun j => if j = n then z else xs j
theorem upd_same {α : Type} {xs : Nat → α} {n : Nat} {z : α} : upd xs n z n = z := if_pos rfl
theorem upd_ne {α : Type} {xs : Nat → α} {n j : Nat} {z : α} (h : j ≠ n) : upd xs n z j = xs j := if_neg h
theorem IP.upd {u : Nat} {xs : Nat → Int × Int} {n j : Nat} {z : Int × Int} {c : List AV} (h : j ≠ n) : IP u (Go.Proofs.Ytofaiipohmeelaa.Am.upd xs n z) j c ↔ IP u xs j c := by
  unfold IP; rw [upd_ne h]

/-- A row of taps by steps: two parts, whether it is odd. -/
structure TapRow (h : Heap) (v : AV) (n : Nat) (re im : Nat → Int) (odd : Nat → Bool) : Prop where
  row : RowP h v 3 n fun i c => c = [.int .i64 (re i), .int .i64 (im i), .bool (odd i)]
  small : ∀ i, i < n → (-9223372036854775808 ≤ re i ∧ re i < 9223372036854775808) ∧ (-9223372036854775808 ≤ im i ∧ im i < 9223372036854775808)

theorem TapRow.ext {h h' : Heap} {v : AV} {n : Nat} {re im : Nat → Int} {odd : Nat → Bool} (r : TapRow h v n re im odd) (e : Grow h h') : TapRow h' v n re im odd := ⟨r.row.ext e, r.small⟩

theorem TapRow.ld {h : Heap} {v : AV} {n : Nat} {re im : Nat → Int} {odd : Nat → Bool} (r : TapRow h v n re im odd) {i : Nat} (hi : i < n) :
    idxV v (.int .i64 i) 3 = some (elemP v i 3) ∧ (∀ k, padV (elemP v i 3) k = some (paddP (elemP v i 3) k)) ∧ ldV h (paddP (elemP v i 3) 0) 1 false = some (.int .i64 (re i)) ∧ ldV h (paddP (elemP v i 3) 1) 1 false = some (.int .i64 (im i)) ∧ ldV h (paddP (elemP v i 3) 2) 1 false = some (.bool (odd i)) := by
  have e1 := r.row.idx (k := .i64) (i := i) (by omega) (by omega)
  rw [Int.toNat_natCast] at e1
  obtain ⟨c, h1, rfl⟩ := r.row.get i hi
  exact ⟨e1, r.row.pad hi, ld_part h1 (by omega) rfl, ld_part h1 (by omega) rfl, ld_part h1 (by omega) rfl⟩

theorem rem_le (n : Int) (m : Nat) (hm : 0 < m) : (n.tmod (m : Int)).natAbs ≤ m - 1 := by
  rw [Int.natAbs_tmod, Int.natAbs_natCast]
  have := Nat.mod_lt n.natAbs hm
  omega

/-- n % m + m) % m, where n may be below nought. -/
theorem rem_pos (n : Int) (m : Nat) (hm : 0 < m) (hm2 : m < 4294967296) : ∃ k : Nat, k < m ∧ wrapK .i64 (n.tmod (m : Int) + m) = n.tmod (m : Int) + m ∧ (n.tmod (m : Int) + m).tmod (m : Int) = k := by
  have h1 := rem_le n m hm
  generalize n.tmod (m : Int) = r at h1 ⊢
  refine ⟨((r + m).toNat) % m, Nat.mod_lt _ hm, wrap_i64 (by omega) (by omega), ?_⟩
  have h2 : r + (m : Int) = (((r + m).toNat : Nat) : Int) := by omega
  rw [h2, Int.toNat_natCast]
  rfl

structure MayI (tn : Nat) (tp : Nat → Int × Int) : Prop where
  taps : TapsI tn tp
  first : (firstI (tp 0).1 (tp 0).2).isSome = true

theorem TapsI.of {tn : Nat} {tp : Nat → Int × Int} {re im : Nat → Nat} (T : TapsOK tn re im) (hw : ∀ i, i < tn → Fx 6 (re i) (tp i).1 ∧ Fx 6 (im i) (tp i).2) : TapsI tn tp := by
  obtain ⟨h1, h2, h3, h4⟩ := T
  have hp : ∀ i, i < tn → (tp i).1.natAbs ≤ 64 ∧ (tp i).2.natAbs ≤ 64 := by
    intro i hi
    obtain ⟨n, hn, hf⟩ := stpG_iff.1 (h3 i hi).1
    obtain ⟨m, hm, hg⟩ := stpG_iff.1 (h3 i hi).2
    rw [← hf.inj (hw i hi).1, ← hg.inj (hw i hi).2]
    exact ⟨hn, hm⟩
  exact ⟨h1, h2, hp, by rw [← tsum_eq hp hw tn (Nat.le_refl _)]; exact h4⟩

theorem MayI.of {tn : Nat} {tp : Nat → Int × Int} {re im : Nat → Nat} (hE : tapsE tn re im = 0) (hw : ∀ i, i < tn → Fx 6 (re i) (tp i).1 ∧ Fx 6 (im i) (tp i).2) : MayI tn tp := by
  unfold tapsE at hE
  split at hE
  · omega
  rename_i hb
  split at hE
  · rename_i hs
    have hb' : tapsB tn re im = true := by simpa using hb
    have T := tapsB_iff.1 hb'
    have TI := TapsI.of T hw
    have e1 := stps_of (hw 0 TI.pos).1 (TI.part 0 TI.pos).1
    have e2 := stps_of (hw 0 TI.pos).2 (TI.part 0 TI.pos).2
    rw [e1, e2] at hs
    exact ⟨TI, hs⟩
  · omega

theorem turnI_le {s : Int} (hs : s = 64 ∨ s = 32 ∨ s = 16) {n : Nat} (hn : n < 4) : (turnI n (s, 0)).1.natAbs ≤ 64 ∧ (turnI n (s, 0)).2.natAbs ≤ 64 ∧ (turnI n (s, 0)).1.natAbs + (turnI n (s, 0)).2.natAbs ≤ 64 := by
  obtain ⟨t0, t1, t2, t3⟩ := turnI_four (s, 0)
  have e : n = 0 ∨ n = 1 ∨ n = 2 ∨ n = 3 := by omega
  rcases e with rfl | rfl | rfl | rfl
  · rw [t0]; rcases hs with rfl | rfl | rfl <;> decide
  · rw [t1]; rcases hs with rfl | rfl | rfl <;> decide
  · rw [t2]; rcases hs with rfl | rfl | rfl <;> decide
  · rw [t3]; rcases hs with rfl | rfl | rfl <;> decide

theorem may_begin {s : Int} (hs : s = 64 ∨ s = 32 ∨ s = 16) {n : Nat} (hn : n < 4) : MayI 1 fun _ => turnI n (s, 0) := by
  obtain ⟨h1, h2, h3⟩ := turnI_le hs hn
  refine ⟨⟨by omega, by omega, fun i _ => ⟨h1, h2⟩, by simp only [tsumI]; omega⟩, ?_⟩
  rw [firstI_of rfl hs hn]
  rfl

theorem may_loop (c : Cs F) {h : Heap} {v : AV} {n : Nat} {re im : Nat → Int} {odd : Nat → Bool} (r : TapRow h v n re im odd) (hn : n ≤ 4294967296) {t : Tr AV} {h' : Heap} {out0 : AV} {tp0 : Nat → Int × Int}
    (g2 : t.get 2 = some v) (g9 : t.get 9 = some (.int .i64 ((0 : Nat) : Int))) (g8 : t.get 8 = some out0) (acc0 : Acc h h' out0 1 1 (IP 6 tp0)) (hM0 : MayI 1 tp0) :
    wp F (.loop c_law11_may_L0) (KBlock 0 (KSeq (wp F c_law11_may_R1) (KRet [.tmp 6] fun u h' => ∃ tn tp, Acc h h' u 1 tn (IP 6 tp) ∧ MayI tn tp))) (t, h') := by
  refine wp_for (min n 63) (fun i t h' => t.get 2 = some v ∧ t.get 9 = some (.int .i64 i) ∧ ∃ out tp, t.get 8 = some out ∧ Acc h h' out 1 (i + 1) (IP 6 tp) ∧ MayI (i + 1) tp) ⟨g2, g9, out0, tp0, g8, acc0, hM0⟩ ?_ ?_
  · rintro i t h' hi ⟨g2, g9, out, tp, g8, acc, hM⟩
    have hw := wrap_i64 (n := i + 1) (by omega) (by omega)
    have r' := r.ext acc.ext
    have hin : i < n := by omega
    have hi64 : ((i : Int) + 1) < 64 := by omega
    obtain ⟨e1, e2, e3, e4, _⟩ := r'.ld hin
    have b1 := rem_le (re i) 65 (by omega)
    have b2 := rem_le (im i) 65 (by omega)
    have c65 : ((65 : Nat) : Int) = 65 := rfl
    rw [c65] at b1 b2
    obtain ⟨p, d1, f1⟩ := by_64 (Nat.le_trans b1 (by decide))
    obtain ⟨q, d2, f2⟩ := by_64 (Nat.le_trans b2 (by decide))
    generalize hx : (re i).tmod 65 = x at d1 f1
    generalize hy : (im i).tmod 65 = y at d2 f2
    have acc2 : Acc h h' out 1 (i + 1) (IP 6 (upd tp (i + 1) (x, y))) := acc.mono fun j c hj hP => (IP.upd (by omega)).2 hP
    obtain ⟨out', h2, e6, acc3, _⟩ := acc2.push (cells := [.cpx p q]) rfl (by omega) rfl ⟨p, q, rfl, by rw [upd_same]; exact f1, by rw [upd_same]; exact f2⟩ (bytes := 16) (by omega) 33 33
    obtain ⟨wre, wim, hcr, hcw⟩ := IRow.words acc3.row
    simp [c_law11_may_L0, g2, g8, g9, hin, r'.row.len, acc.row.len, hi64, e1, e2, e3, e4, bi_rem, hx, hy, d1, d2, e6]
    have hE := Classical.em (tapsE (i + 1 + 1) wre wim = 0)
    have hM2 : tapsE (i + 1 + 1) wre wim = 0 → MayI (i + 1 + 1) (upd tp (i + 1) (x, y)) := fun hE => MayI.of hE hcw
    have hC := Check_ok c hcr (by omega)
    generalize tapsE (i + 1 + 1) wre wim = e at hE hM2 hC
    refine hC.mono ?_
    intro u h3 hu
    obtain ⟨hg3, hu⟩ := hu
    subst hu
    have acc4 := acc3.step hg3
    rcases hE with hE | hE
    · have hM' := hM2 hE
      simp [hE, g2, g8, g9, hw]
      exact ⟨_, acc4, hM'⟩
    · have hcut := acc4.row.cut (k := .i64) (i := (i : Int) + 1) (by omega) (by omega)
      have e8 : ((i : Int) + 1).toNat = i + 1 := by omega
      rw [e8] at hcut
      have acc5 := acc4.cut (k := i + 1) (by omega)
      have acc6 : Acc h h3 (cutTo out' (i + 1)) 1 (i + 1) (IP 6 tp) := acc5.mono fun j c hj hP => (IP.upd (by omega)).1 hP
      simp [hE, g2, g8, g9, acc4.row.len, hw, hcut, resOne_some (acc_def acc6)]
      exact ⟨_, _, acc6, hM⟩
  · rintro t h' ⟨g2, g9, out, tp, g8, acc, hM⟩
    have r' := r.ext acc.ext
    by_cases hlt : n ≤ 63
    · have hm : min n 63 = n := by omega
      rw [hm] at g9 acc hM
      simp [c_law11_may_L0, c_law11_may_R1, g2, g8, g9, r'.row.len, resOne_some (acc_def acc)]
      exact ⟨_, _, acc, hM⟩
    · have hm : min n 63 = 63 := by omega
      rw [hm] at g9 acc hM
      have h63 : (63 : Int) < n := by omega
      simp at g9
      simp [c_law11_may_L0, c_law11_may_R1, g2, g8, g9, r'.row.len, acc.row.len, h63, resOne_some (acc_def acc)]
      exact ⟨_, _, acc, hM⟩

theorem may_ok (c : Cs F) {h : Heap} {v : AV} {n : Nat} {re im : Nat → Int} {odd : Nat → Bool} (r : TapRow h v n re im odd) (hn : n ≤ 4294967296) (f q : Int) :
    CQ F f_law11_may [.int .i64 f, .int .i64 q, v] h fun u h' => ∃ tn tp, Acc h h' u 1 tn (IP 6 tp) ∧ MayI tn tp := by
  refine wp_call c.law11_may rfl (by simp) ?_
  obtain ⟨k, hk, w1, w2⟩ := rem_pos f 3 (by omega) (by omega)
  obtain ⟨j, hj, w3, w4⟩ := rem_pos q 4 (by omega) (by omega)
  have hrow := (made_row h (cells := [.flt 4607182418800017408, .flt 4602678819172646912, .flt 4598175219545276416]) (n := 1) (len := 3) (ty := 76) (P := fun i c => c = [.flt (fsW i)]) rfl (by
    intro i hi
    have e : i = 0 ∨ i = 1 ∨ i = 2 := by omega
    rcases e with rfl | rfl | rfl <;> rfl)).row
  have hg := made_ext h [.flt 4607182418800017408, .flt 4602678819172646912, .flt 4598175219545276416] 1 76
  have e1 := hrow.idx (k := .i64) (i := k) (by omega) (by omega)
  rw [Int.toNat_natCast] at e1
  have e2 : ldV (made h [.flt 4607182418800017408, .flt 4602678819172646912, .flt 4598175219545276416] 1 76) (elemP (.sl h.next 0 3 3) k 1) 1 false = some (.flt (fsW k)) := by
    obtain ⟨c, h1, rfl⟩ := hrow.get k hk
    exact ld_one h1
  have c3 : ((3 : Nat) : Int) = 3 := rfl
  have c4 : ((4 : Nat) : Int) = 4 := rfl
  rw [c3] at w1 w2
  rw [c4] at w3 w4
  generalize hh1 : made h [.flt 4607182418800017408, .flt 4602678819172646912, .flt 4598175219545276416] 1 76 = h1 at hg e2
  have t1 := turn_ok c (fsW k, 0) j (by omega) h1
  obtain ⟨z1, z2⟩ := turnW_fx (z := (fsW k, 0)) (w := (fsI k, 0)) (fs_fx k) (Fx.zero 6) j
  have hM := may_begin (fs_in k) hj
  have acc0 := (made_row h1 (cells := [.cpx (turnW j (fsW k, 0)).1 (turnW j (fsW k, 0)).2]) (n := 1) (len := 1) (ty := 33) (P := IP 6 fun _ => turnI j (fsI k, 0)) rfl (by
    intro i hi
    obtain rfl : i = 0 := by omega
    exact ⟨_, _, rfl, z1, z2⟩)).later hg
  simp only at t1
  simp [b_law11_may, bi_rem, w1, w2, w3, w4, e1, hh1, e2, t1]
  generalize AV.sl h1.next 0 1 1 = out0 at acc0
  exact may_loop c r hn (by simp) (by simp) (by simp) acc0 hM

end Go.Proofs.Ytofaiipohmeelaa.Am
