/-
  FeedbackAdds: sums of rows, noughts ahead: what taps make of them, in plain numbers; and the statement's own function gives true.
-/
import Derived.Test.YtofaiipohmeelaaFbF
set_option linter.all false
namespace Go.Proofs.Ytofaiipohmeelaa.Am
open Ieee
variable {F : Tab}

/-! ### Plain numbers -/
def padd (a b : Int × Int) : Int × Int := (a.1 + b.1, a.2 + b.2)

theorem esum_add (tp xs ys : Nat → Int × Int) (n : Nat) : ∀ k, esum tp (fun i => padd (xs i) (ys i)) n k = padd (esum tp xs n k) (esum tp ys n k)
  | 0 => by simp [esum, padd]
  | k + 1 => by
    have ih := esum_add tp xs ys n k
    have e : esum tp (fun i => padd (xs i) (ys i)) n (k + 1) = ((esum tp (fun i => padd (xs i) (ys i)) n k).1 + (emul (tp k) (padd (xs (n - k)) (ys (n - k)))).1, (esum tp (fun i => padd (xs i) (ys i)) n k).2 + (emul (tp k) (padd (xs (n - k)) (ys (n - k)))).2) := rfl
    rw [e, ih]
    simp only [esum, padd, emul, Int.mul_add]
    refine Prod.ext ?_ ?_ <;> simp only <;> omega

theorem echo_add (tn : Nat) (tp xs ys : Nat → Int × Int) (n : Nat) : echoI tn tp (fun i => padd (xs i) (ys i)) n = padd (echoI tn tp xs n) (echoI tn tp ys n) := esum_add tp xs ys n _

/-- Noughts ahead. -/
def late (d : Nat) (xs : Nat → Int × Int) : Nat → Int × Int := fun i => if i < d then (0, 0) else xs (i - d)

theorem emul_zero (a : Int × Int) : emul a (0, 0) = (0, 0) := by simp [emul]

theorem esum_late (tp xs : Nat → Int × Int) (d k : Nat) : ∀ j, j ≤ k + d + 1 → esum tp (late d xs) (k + d) j = esum tp xs k (min j (k + 1))
  | 0, _ => by simp [esum]
  | j + 1, hj1 => by
    have ih := esum_late tp xs d k j (by omega)
    by_cases hj : j ≤ k
    · have e1 : min (j + 1) (k + 1) = j + 1 := by omega
      have e2 : min j (k + 1) = j := by omega
      rw [e2] at ih
      rw [e1]
      simp only [esum, ih]
      have : late d xs (k + d - j) = xs (k - j) := by
        unfold late
        rw [if_neg (by omega)]
        congr 1
        omega
      rw [this]
    · have e1 : min (j + 1) (k + 1) = min j (k + 1) := by omega
      rw [e1, ← ih]
      simp only [esum]
      have : late d xs (k + d - j) = (0, 0) := by
        unfold late
        rcases Nat.lt_or_ge (k + d - j) d with h | h
        · rw [if_pos h]
        · omega
      rw [this, emul_zero]
      simp

theorem echo_late (tn : Nat) (tp xs : Nat → Int × Int) (d k : Nat) : echoI tn tp (late d xs) (k + d) = echoI tn tp xs k := by
  unfold echoI
  rw [esum_late _ _ _ _ _ (by omega)]
  congr 1
  omega

theorem esum_nought (tp xs : Nat → Int × Int) (d n : Nat) (hn : n < d) : ∀ j, esum tp (late d xs) n j = (0, 0)
  | 0 => rfl
  | j + 1 => by
    simp only [esum, esum_nought tp xs d n hn j]
    have : late d xs (n - j) = (0, 0) := by unfold late; rw [if_pos (by omega)]
    rw [this, emul_zero]
    rfl

/-! ### The first loop -/
def sxs (re im : Nat → Int) : Nat → Int × Int := fun i => ((re i).tmod 1048576, (im i).tmod 1048576)
/-- Noughts behind. -/
def upto (n : Nat) (xs : Nat → Int × Int) : Nat → Int × Int := fun i => if i < n then xs i else (0, 0)

structure Four (h0 h : Heap) (a b c l : AV) (i d : Nat) (xs zs : Nat → Int × Int) : Prop where
  fa : Acc h0 h a 1 i (IP 12 xs)
  fb : Acc h0 h b 1 i (IP 12 zs)
  fc : Acc h0 h c 1 i (IP 12 fun i => padd (xs i) (zs i))
  fl : Acc h0 h l 1 (d + i) (IP 12 (late d xs))
  ab : Apart a b
  ac : Apart a c
  al : Apart a l
  bc : Apart b c
  bl : Apart b l
  cl : Apart c l

theorem Four.step {h0 h : Heap} {a b cc l : AV} {i d : Nat} {xs zs : Nat → Int × Int} (f : Four h0 h a b cc l i d xs zs) (hd : d < 32) (hi : i < 4294967296) {p q p2 q2 p3 q3 : Nat} (f1 : Fx 12 p (xs i).1) (f2 : Fx 12 q (xs i).2) (f3 : Fx 12 p2 (zs i).1) (f4 : Fx 12 q2 (zs i).2)
    (f5 : Fx 12 p3 (padd (xs i) (zs i)).1) (f6 : Fx 12 q3 (padd (xs i) (zs i)).2) :
    ∃ a' h1 b' h2 c' h3 l' h4, appendA (made h [.cpx p q] 1 33) a (srcCells (made h [.cpx p q] 1 33) 1 (.sl h.next 0 1 1)) 1 16 33 = some (a', h1) ∧ Grow h0 h1 ∧
      appendA (made h1 [.cpx p2 q2] 1 33) b (srcCells (made h1 [.cpx p2 q2] 1 33) 1 (.sl h1.next 0 1 1)) 1 16 33 = some (b', h2) ∧ Grow h0 h2 ∧
      appendA (made h2 [.cpx p3 q3] 1 33) cc (srcCells (made h2 [.cpx p3 q3] 1 33) 1 (.sl h2.next 0 1 1)) 1 16 33 = some (c', h3) ∧ Grow h0 h3 ∧
      appendA (made h3 [.cpx p q] 1 33) l (srcCells (made h3 [.cpx p q] 1 33) 1 (.sl h3.next 0 1 1)) 1 16 33 = some (l', h4) ∧ Four h0 h4 a' b' c' l' (i + 1) d xs zs := by
  obtain ⟨a', h1, e1, a1, t1⟩ := f.fa.push (cells := [.cpx p q]) rfl (by omega) rfl ⟨p, q, rfl, f1, f2⟩ (bytes := 16) (by omega) 33 33
  have b1 := f.fb.other t1 f.ab a1.ext
  have c1 := f.fc.other t1 f.ac a1.ext
  have l1 := f.fl.other t1 f.al a1.ext
  have ab1 := t1.apart f.fb.row f.ab
  have ac1 := t1.apart f.fc.row f.ac
  have al1 := t1.apart f.fl.row f.al
  obtain ⟨b', h2, e2, b2, t2⟩ := b1.push (cells := [.cpx p2 q2]) rfl (by omega) rfl ⟨p2, q2, rfl, f3, f4⟩ (bytes := 16) (by omega) 33 33
  have a2 := a1.other t2 ab1.symm b2.ext
  have c2 := c1.other t2 f.bc b2.ext
  have l2 := l1.other t2 f.bl b2.ext
  have ab2 := (t2.apart a1.row ab1.symm).symm
  have bc2 := t2.apart c1.row f.bc
  have bl2 := t2.apart l1.row f.bl
  obtain ⟨c', h3, e3, c3, t3⟩ := c2.push (cells := [.cpx p3 q3]) rfl (by omega) rfl ⟨p3, q3, rfl, f5, f6⟩ (bytes := 16) (by omega) 33 33
  have a3 := a2.other t3 ac1.symm c3.ext
  have b3 := b2.other t3 bc2.symm c3.ext
  have l3 := l2.other t3 f.cl c3.ext
  have ac3 := (t3.apart a2.row ac1.symm).symm
  have bc3 := (t3.apart b2.row bc2.symm).symm
  have cl3 := t3.apart l2.row f.cl
  have hl : late d xs (d + i) = xs i := by
    unfold late
    rw [if_neg (by omega)]
    congr 1
    omega
  obtain ⟨l', h4, e4, l4, t4⟩ := l3.push (cells := [.cpx p q]) rfl (by omega) rfl ⟨p, q, rfl, by rw [hl]; exact f1, by rw [hl]; exact f2⟩ (bytes := 16) (by omega) 33 33
  exact ⟨a', h1, b', h2, c', h3, l', h4, e1, a1.ext, e2, b2.ext, e3, c3.ext, e4, a3.other t4 al1.symm l4.ext, b3.other t4 bl2.symm l4.ext, c3.other t4 cl3.symm l4.ext, l4, ab2, ac3, (t4.apart a3.row al1.symm).symm, bc3, (t4.apart b3.row bl2.symm).symm, (t4.apart c3.row cl3.symm).symm⟩

theorem adds_loop (c : Cs F) {h : Heap} {x y tv : AV} {n m d : Nat} {re im re2 im2 : Nat → Int} (hx : RowP h x 2 n (SP (fun i => (re i).tmod 1048576) (fun i => (im i).tmod 1048576) fun _ => false)) (hy : RowP h y 2 m (SP (fun i => (re2 i).tmod 1048576) (fun i => (im2 i).tmod 1048576) fun _ => false))
    (hn : n ≤ 300) (hm : m < 4294967296) (hd : d < 20) {t : Tr AV} {a0 b0 c0 l0 : AV} (g13 : t.get 13 = some tv) (g14 : t.get 14 = some x) (g15 : t.get 15 = some y) (g16 : t.get 16 = some a0) (g17 : t.get 17 = some b0) (g18 : t.get 18 = some c0) (g19 : t.get 19 = some l0) (g20 : t.get 20 = some (.int .i64 ((0 : Nat) : Int)))
    {h0 : Heap} (e0 : Grow h h0) (f0 : Four h h0 a0 b0 c0 l0 0 d (sxs re im) (upto m (sxs re2 im2))) (R : (AExit → St → Prop) → St → Prop) (Q : AExit → St → Prop)
    (hR : ∀ t' h' a b cc l, Four h h' a b cc l n d (sxs re im) (upto m (sxs re2 im2)) → t'.get 13 = some tv → t'.get 16 = some a → t'.get 17 = some b → t'.get 18 = some cc → t'.get 19 = some l → R Q (t', h')) :
    wp F (.loop c_law11_FeedbackAdds_L0) (KBlock 0 (KSeq R Q)) (t, h0) := by
  refine wp_for n (fun i t h' => ∃ a b cc l, Four h h' a b cc l i d (sxs re im) (upto m (sxs re2 im2)) ∧ t.get 13 = some tv ∧ t.get 14 = some x ∧ t.get 15 = some y ∧ t.get 16 = some a ∧ t.get 17 = some b ∧ t.get 18 = some cc ∧ t.get 19 = some l ∧ t.get 20 = some (.int .i64 i)) ⟨a0, b0, c0, l0, f0, g13, g14, g15, g16, g17, g18, g19, g20⟩ ?_ ?_
  · rintro i t h' hi ⟨a, b, cc, l, f, g13, g14, g15, g16, g17, g18, g19, g20⟩
    have hw := wrap_i64 (n := i + 1) (by omega) (by omega)
    have hx' := hx.ext f.fa.ext
    have hy' := hy.ext f.fa.ext
    have e1 := hx.idx (k := .i64) (i := i) (by omega) (by omega)
    rw [Int.toNat_natCast] at e1
    have e2 := hx.pad hi 0
    obtain ⟨_, w1, p, q, rfl, f1, f2⟩ := hx.get i hi
    have ldx : ∀ h2, Grow h h2 → ldV h2 (paddP (elemP x i 2) 0) 1 false = some (.cpx p q) := fun h2 g2 => ld_part (hx.keep g2 hi w1) (by omega) rfl
    have s1 := rem_small (re i)
    have s2 := rem_small (im i)
    have key : ∃ p2 q2, Fx 12 p2 (upto m (sxs re2 im2) i).1 ∧ Fx 12 q2 (upto m (sxs re2 im2) i).2 ∧ (upto m (sxs re2 im2) i).1.natAbs ≤ 1048575 ∧ (upto m (sxs re2 im2) i).2.natAbs ≤ 1048575 ∧ ((i < m ∧ idxV y (.int .i64 i) 2 = some (elemP y i 2) ∧ padV (elemP y i 2) 0 = some (paddP (elemP y i 2) 0) ∧ ldV h' (paddP (elemP y i 2) 0) 1 false = some (.cpx p2 q2)) ∨ (¬ i < m ∧ p2 = 0 ∧ q2 = 0)) := by
      by_cases him : i < m
      · have e3 := hy.idx (k := .i64) (i := i) (by omega) (by omega)
        rw [Int.toNat_natCast] at e3
        obtain ⟨_, w2, p2, q2, rfl, f3, f4⟩ := hy.get i him
        refine ⟨p2, q2, ?_, ?_, ?_, ?_, .inl ⟨him, e3, hy.pad him 0, ld_part (hy.keep f.fa.ext him w2) (by omega) rfl⟩⟩ <;> simp only [upto, him, if_true, sxs]
        · exact f3
        · exact f4
        · exact rem_small _
        · exact rem_small _
      · refine ⟨0, 0, ?_, ?_, ?_, ?_, .inr ⟨him, rfl, rfl⟩⟩ <;> simp only [upto, him, if_false]
        · exact Fx.zero 12
        · exact Fx.zero 12
        · decide
        · decide
    obtain ⟨p2, q2, f3, f4, s3, s4, key⟩ := key
    obtain ⟨p3, m3, f5⟩ := f1.add f3 (abs_add s1 s3 (by decide))
    obtain ⟨q3, m4, f6⟩ := f2.add f4 (abs_add s2 s4 (by decide))
    obtain ⟨a', h1, b', h2, c', h3, l', h4, k1, ge1, k2, ge2, k3, ge3, k4, f'⟩ := f.step (by omega) (by omega) f1 f2 f3 f4 f5 f6
    have d0 := ldx h' f.fa.ext
    have d1 := ldx h1 ge1
    have d2 := ldx h2 ge2
    have d3 := ldx h3 ge3
    rcases key with ⟨him, e3, e4, e5⟩ | ⟨him, rfl, rfl⟩
    · simp [c_law11_FeedbackAdds_L0, g13, g14, g15, g16, g17, g18, g19, g20, hi, him, hx'.len, hy'.len, e1, e2, e3, e4, e5, d0, d1, d2, d3, k1, k2, k3, k4, m3, m4, hw]
      exact ⟨_, _, _, _, f', rfl, rfl, rfl, rfl⟩
    · simp [c_law11_FeedbackAdds_L0, g13, g14, g15, g16, g17, g18, g19, g20, hi, him, hx'.len, hy'.len, e1, e2, d0, d1, d2, d3, k1, k2, k3, k4, m3, m4, hw]
      exact ⟨_, _, _, _, f', rfl, rfl, rfl, rfl⟩
  · rintro t h' ⟨a, b, cc, l, f, g13, g14, g15, g16, g17, g18, g19, g20⟩
    have hx' := hx.ext f.fa.ext
    simp [c_law11_FeedbackAdds_L0, g13, g14, g15, g16, g17, g18, g19, g20, hx'.len]
    exact hR _ _ a b cc l f (by simp [g13]) (by simp [g16]) (by simp [g17]) (by simp [g18]) (by simp [g19])

/-! ### What is compared -/
theorem adds_last (c : Cs F) {h : Heap} {a la p q r w : AV} {n d tn : Nat} {tp xs zs : Nat → Int × Int} (T : TapsI tn tp) (hn : n ≤ 300) (hd : d < 20) (hxs : ∀ i, i < n → (xs i).1.natAbs ≤ 1048575 ∧ (xs i).2.natAbs ≤ 1048575) (hzs : ∀ i, i < n → (zs i).1.natAbs ≤ 1048575 ∧ (zs i).2.natAbs ≤ 1048575)
    (la1 : lenV a = some (.int .i64 n)) (la2 : lenV la = some (.int .i64 ((d + n : Nat) : Int)))
    (rp : IRow h p n 18 (echoI tn tp xs)) (rq : IRow h q n 18 (echoI tn tp zs)) (rr : IRow h r n 18 (echoI tn tp fun i => padd (xs i) (zs i))) (rw' : IRow h w (d + n) 18 (echoI tn tp (late d xs)))
    {t : Tr AV} (g16 : t.get 16 = some a) (g19 : t.get 19 = some la) (g22 : t.get 22 = some p) (g24 : t.get 24 = some q) (g26 : t.get 26 = some r) (g28 : t.get 28 = some w) (g30 : t.get 30 = some (.int .i64 ((0 : Nat) : Int))) (K : AV → Heap → Prop) (hK : K (.bool true) h) :
    wp F (.loop c_law11_FeedbackAdds_L2) (KBlock 2 (KSeq (wp F c_law11_FeedbackAdds_R3) (KRet [.tmp 12] K))) (t, h) := by
  refine wp_for n (fun i t h' => h' = h ∧ t.get 16 = some a ∧ t.get 19 = some la ∧ t.get 22 = some p ∧ t.get 24 = some q ∧ t.get 26 = some r ∧ t.get 28 = some w ∧ t.get 30 = some (.int .i64 i)) ⟨rfl, g16, g19, g22, g24, g26, g28, g30⟩ ?_ ?_
  · rintro i t h' hi ⟨rfl, g16, g19, g22, g24, g26, g28, g30⟩
    have hw := wrap_i64 (n := i + 1) (by omega) (by omega)
    have hw1 := wrap_i64 (n := i + (d + n)) (by omega) (by omega)
    have hw2 := wrap_i64 (n := i + (d + n) - n) (by omega) (by omega)
    have e0 := rp.idx (k := .i64) (i := i) (by omega) (by omega)
    have e1 := rq.idx (k := .i64) (i := i) (by omega) (by omega)
    have e2 := rr.idx (k := .i64) (i := i) (by omega) (by omega)
    have e3 := rw'.idx (k := .i64) (i := (i : Int) + (d + n) - n) (by omega) (by omega)
    have e4 : ((i : Int) + (d + n) - n).toNat = i + d := by omega
    rw [e4] at e3
    rw [Int.toNat_natCast] at e0 e1 e2
    obtain ⟨p1, p2, d0, f0, f1⟩ := rp.ld hi
    obtain ⟨q1, q2, d1, f2, f3⟩ := rq.ld hi
    obtain ⟨r1, r2, d2, f4, f5⟩ := rr.ld hi
    obtain ⟨w1, w2, d3, f6, f7⟩ := rw'.ld (i := i + d) (by omega)
    have b1 := echo_part (xn := n) T (fun i hi => ⟨Nat.le_trans (hxs i hi).1 (by decide), Nat.le_trans (hxs i hi).2 (by decide)⟩) hi (min tn (i + 1)) (by omega)
    have b2 := echo_part (xn := n) T (fun i hi => ⟨Nat.le_trans (hzs i hi).1 (by decide), Nat.le_trans (hzs i hi).2 (by decide)⟩) hi (min tn (i + 1)) (by omega)
    obtain ⟨s1, m1, v1⟩ := f0.add f2 (abs_add b1.1 b2.1 (by decide))
    obtain ⟨s2, m2, v2⟩ := f1.add f3 (abs_add b1.2 b2.2 (by decide))
    have q1' := f4.cneq f5 v1 v2
    have q2' := f6.cneq f7 f0 f1
    rw [echo_add] at q1'
    rw [echo_late] at q2'
    simp only [padd, decide_true, Bool.and_self, Bool.not_true] at q1' q2'
    simp [c_law11_FeedbackAdds_L2, g16, g19, g22, g24, g26, g28, g30, hi, la1, la2, e0, e1, e2, d0, d1, d2, m1, m2, q1', hw, hw1, hw2, e3, d3, q2']
  · rintro t h' ⟨rfl, g16, g19, g22, g24, g26, g28, g30⟩
    simp [c_law11_FeedbackAdds_L2, c_law11_FeedbackAdds_R3, g16, g30, la1]
    refine wp_for d (fun i t h'' => h'' = h' ∧ t.get 16 = some a ∧ t.get 19 = some la ∧ t.get 28 = some w ∧ t.get 31 = some (.int .i64 i)) (by simp [g16, g19, g28]) ?_ ?_
    · rintro i t h'' hi ⟨rfl, g16, g19, g28, g31⟩
      have hw := wrap_i64 (n := i + 1) (by omega) (by omega)
      have hw1 := wrap_i64 (n := (d : Int) + n - n) (by omega) (by omega)
      have hid : (i : Int) < d := by omega
      have e3 := rw'.idx (k := .i64) (i := i) (by omega) (by omega)
      rw [Int.toNat_natCast] at e3
      obtain ⟨w1, w2, d3, f6, f7⟩ := rw'.ld (i := i) (by omega)
      have hz : echoI tn tp (late d xs) i = (0, 0) := esum_nought tp xs d i hi _
      rw [hz] at f6 f7
      have q2' := f6.cneq f7 (Fx.zero 18) (Fx.zero 18)
      simp only [decide_true, Bool.and_self, Bool.not_true] at q2'
      simp at hw1
      simp [c_law11_FeedbackAdds_L4, g16, g19, g28, g31, la1, la2, hw1, hid, hi, e3, d3, q2', hw]
    · rintro t h'' ⟨rfl, g16, g19, g28, g31⟩
      have hw1 := wrap_i64 (n := (d : Int) + n - n) (by omega) (by omega)
      simp at hw1
      simp [c_law11_FeedbackAdds_L4, c_law11_FeedbackAdds_R5, g16, g19, g28, g31, la1, la2, hw1]
      exact hK

end Go.Proofs.Ytofaiipohmeelaa.Am
