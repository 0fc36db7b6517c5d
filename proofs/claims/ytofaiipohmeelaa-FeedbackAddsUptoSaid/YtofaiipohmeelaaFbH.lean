/-
  FeedbackAdds: the statement's own function gives true, wherever its first call ('awake') does.
-/
import Derived.Test.YtofaiipohmeelaaFbG
set_option linter.all false
namespace Go.Proofs.Ytofaiipohmeelaa.Am
open Ieee
variable {F : Tab}

theorem SetRow.cut {h : Heap} {v : AV} {n : Nat} {re im : Nat → Int} {lost : Nat → Bool} (r : SetRow h v n re im lost) {k : Nat} (hk : k ≤ n) : SetRow h (cutTo v k) k re im lost := ⟨r.row.cut_row hk, fun i hi => r.small i (by omega)⟩

/-- What is behind the first loop. -/
theorem adds_behind (c : Cs F) {h h' : Heap} {tv a b cc l : AV} {n m d tn : Nat} {tp : Nat → Int × Int} {re im re2 im2 : Nat → Int} (hn : n ≤ 300) (hd : d < 20) (ht : IRow h' tv tn 6 tp) (T : TapsI tn tp) (f : Four h h' a b cc l n d (sxs re im) (upto m (sxs re2 im2)))
    {t : Tr AV} (g13 : t.get 13 = some tv) (g16 : t.get 16 = some a) (g17 : t.get 17 = some b) (g18 : t.get 18 = some cc) (g19 : t.get 19 = some l) (K : AV → Heap → Prop) (hK : ∀ h2, Grow h' h2 → K (.bool true) h2) :
    wp F c_law11_FeedbackAdds_R1 (KRet [.tmp 12] K) (t, h') := by
  have hxs : ∀ i, i < n → (sxs re im i).1.natAbs ≤ 1048575 ∧ (sxs re im i).2.natAbs ≤ 1048575 := fun i _ => ⟨rem_small _, rem_small _⟩
  have hzs : ∀ i, i < n → (upto m (sxs re2 im2) i).1.natAbs ≤ 1048575 ∧ (upto m (sxs re2 im2) i).2.natAbs ≤ 1048575 := fun i _ => by
    unfold upto
    split
    · exact ⟨rem_small _, rem_small _⟩
    · exact ⟨by decide, by decide⟩
  have up : ∀ {x : Nat}, x ≤ 1048575 → x ≤ 4194304 := fun h => Nat.le_trans h (by decide)
  have n1 : n ≤ 65536 := by omega
  have n2 : d + n ≤ 65536 := by omega
  have hsum : ∀ i, i < n → (padd (sxs re im i) (upto m (sxs re2 im2) i)).1.natAbs ≤ 4194304 ∧ (padd (sxs re im i) (upto m (sxs re2 im2) i)).2.natAbs ≤ 4194304 := fun i hi => by
    have h1 := hxs i hi
    have h2 := hzs i hi
    simp only [padd]
    omega
  have hlate : ∀ i, i < d + n → (late d (sxs re im) i).1.natAbs ≤ 4194304 ∧ (late d (sxs re im) i).2.natAbs ≤ 4194304 := fun i hi => by
    unfold late
    split
    · exact ⟨by decide, by decide⟩
    · exact ⟨up (rem_small _), up (rem_small _)⟩
  simp [c_law11_FeedbackAdds_R1, g13, g16]
  refine (echo_ok c ht f.fa.row T n1 fun i hi => ⟨up (hxs i hi).1, up (hxs i hi).2⟩).mono ?_
  intro v1 h1 hv
  obtain ⟨p, rfl, a1⟩ := hv
  simp [g13, g17]
  refine (echo_ok c (ht.ext a1.ext) (f.fb.row.ext a1.ext) T n1 fun i hi => ⟨up (hzs i hi).1, up (hzs i hi).2⟩).mono ?_
  intro v2 h2 hv
  obtain ⟨q, rfl, a2⟩ := hv
  have e2 := a1.ext.trans a2.ext
  simp [g13, g18]
  refine (echo_ok c (ht.ext e2) (f.fc.row.ext e2) T n1 hsum).mono ?_
  intro v3 h3 hv
  obtain ⟨r, rfl, a3⟩ := hv
  have e3 := e2.trans a3.ext
  simp [g13, g19]
  refine (echo_ok c (ht.ext e3) (f.fl.row.ext e3) T n2 hlate).mono ?_
  intro v4 h4 hv
  obtain ⟨w, rfl, a4⟩ := hv
  have e4 := e3.trans a4.ext
  have rp := a1.row.ext (a2.ext.trans (a3.ext.trans a4.ext))
  have rq := a2.row.ext (a3.ext.trans a4.ext)
  have rr := a3.row.ext a4.ext
  have rw' := a4.row
  have la1 := f.fa.row.len
  have la2 := f.fl.row.len
  have l1 := rp.len
  have l2 := rq.len
  have l3 := rr.len
  have l4 := rw'.len
  simp [g13, g16, g17, g18, g19, la1, la2, l1, l2, l3, l4]
  exact adds_last c T hn hd hxs hzs la1 la2 rp rq rr rw' (by simp [g16]) (by simp [g19]) (by simp) (by simp) (by simp) (by simp) (by simp) K (hK h4 e4)

def adds_rest : AC := (.seq (.reg [⟨(some 43), .mv (.t 3), none⟩, ⟨(some 44), .call f_law11_near [(.t 43)], none⟩, ⟨(some 14), .mv (.t 44), none⟩])
 (.seq (.reg [⟨(some 45), .mv (.t 4), none⟩, ⟨(some 46), .call f_law11_near [(.t 45)], none⟩, ⟨(some 15), .mv (.t 46), none⟩])
 (.seq (.reg [⟨(some 16), .mv (.c .nilSl), none⟩, ⟨(some 17), .mv (.c .nilSl), none⟩, ⟨(some 18), .mv (.c .nilSl), none⟩, ⟨(some 19), .mv (.c .nilSl), none⟩])
 (.seq (.reg [⟨(some 47), .mv (.t 19), none⟩, ⟨(some 48), .mv (.t 5), none⟩, ⟨(some 49), .bin .rem (.t 48) (.c (.int .i64 (20))), none⟩, ⟨(some 50), .bin .add (.t 49) (.c (.int .i64 (20))), none⟩, ⟨(some 51), .bin .rem (.t 50) (.c (.int .i64 (20))), none⟩, ⟨(some 52), .appz (.t 47) (.t 51) [(.cpx 0 0)] 1 16 33, none⟩, ⟨(some 19), .mv (.t 52), none⟩])
 (.seq (.seq (.reg [⟨(some 20), .mv (.c (.int .i64 (0))), none⟩])
 (.block 0 (.loop c_law11_FeedbackAdds_L0)))
 c_law11_FeedbackAdds_R1)))))
theorem adds_body : b_law11_FeedbackAdds = (.seq (.reg [⟨(some 12), .mv (.c (.bool false)), none⟩])
 (.seq (.seq (.reg [⟨(some 32), .call f_law11_awake [], none⟩, ⟨(some 33), .un .not (.t 32), none⟩])
 (.cond (.t 33) (.seq (.reg [⟨(some 12), .mv (.c (.bool false)), none⟩])
 .ret)
 .skip))
 (.seq (.reg [⟨(some 34), .mv (.t 0), none⟩, ⟨(some 35), .mv (.t 1), none⟩, ⟨(some 36), .mv (.t 2), none⟩, ⟨(some 37), .call f_law11_may [(.t 34), (.t 35), (.t 36)], none⟩, ⟨(some 13), .mv (.t 37), none⟩])
 (.seq (.seq (.reg [⟨(some 38), .mv (.t 3), none⟩, ⟨(some 39), .lenSl (.t 38), none⟩, ⟨(some 40), .bin .gtr (.t 39) (.c (.int .i64 (300))), none⟩])
 (.cond (.t 40) (.reg [⟨(some 41), .mv (.t 3), none⟩, ⟨(some 42), .slSl (.t 41) none (some (.c (.int .i64 (300)))) none 3, none⟩, ⟨(some 3), .mv (.t 42), none⟩])
 .skip))
 adds_rest)))) := rfl

theorem adds_ok (c : Cs F) (haw : Tells F f_law11_awake [] (.bool true)) {h : Heap} {tv l m : AV} {tn ln mn : Nat} {tre tim re im re2 im2 : Nat → Int} {odd lost lost2 : Nat → Bool}
    (rt : TapRow h tv tn tre tim odd) (rl : SetRow h l ln re im lost) (rm : SetRow h m mn re2 im2 lost2) (htn : tn ≤ 1048576) (hln : ln ≤ 1048576) (hmn : mn ≤ 1048576) (f q ahead : Int) :
    CQ F f_law11_FeedbackAdds [.int .i64 f, .int .i64 q, tv, l, m, .int .i64 ahead] h fun v h' => v = .bool true ∧ Grow h h' := by
  refine wp_call c.law11_FeedbackAdds rfl (by simp) ?_
  simp [adds_body, haw h]
  refine (may_ok c rt (by omega) f q).mono ?_
  intro u h1 hu
  obtain ⟨kn, tp, aT, hM⟩ := hu
  have rl1 := rl.ext aT.ext
  have rm1 := rm.ext aT.ext
  obtain ⟨d, hd, w1, w2⟩ := rem_pos ahead 20 (by omega) (by omega)
  have c20 : ((20 : Nat) : Int) = 20 := rfl
  rw [c20] at w1 w2
  -- the row of at most 300
  have tail : ∀ (l' : AV) (n : Nat) (t : Tr AV), n ≤ 300 → SetRow h1 l' n re im lost → t.get 3 = some l' → t.get 4 = some m → t.get 5 = some (.int .i64 ahead) → t.get 13 = some u →
      wp F adds_rest (KRet [.tmp 12] fun v h' => v = .bool true ∧ Grow h h') (t, h1) := by
    intro l' n t hn rl' g3 g4 g5 g13
    simp [adds_rest, g3]
    refine (near_ok c rl' (by omega)).mono ?_
    intro x h2 ax
    simp [g4]
    refine (near_ok c (rm1.ext ax.ext) (by omega)).mono ?_
    intro y h3 ay
    have hble : Nat.ble (d * 16) 70368744177664 = true := Nat.ble_eq_true_of_le (by omega)
    obtain ⟨z, h4, ez, az, tz⟩ := appz_nil h3 (k := d) (zero := [.cpx 0 0]) (n := 1) (bytes := 16) (ty := 33) rfl (by omega) rfl (by omega) (P := IP 12 (late d (sxs re im))) (fun i hi => ⟨0, 0, rfl, by unfold late; rw [if_pos hi]; exact Fx.zero 12, by unfold late; rw [if_pos hi]; exact Fx.zero 12⟩)
    simp [g5, bi_rem, w1, w2, appzV, hble]
    simp at ez
    rw [ez]
    simp
    have four : Four h3 h4 .nilSl .nilSl .nilSl z 0 d (sxs re im) (upto mn (sxs re2 im2)) :=
      ⟨Acc.nil az.ext _ _, Acc.nil az.ext _ _, Acc.nil az.ext _ _, az, Apart.nil_left _, Apart.nil_left _, Apart.nil_left _, Apart.nil_left _, Apart.nil_left _, Apart.nil_left _⟩
    have e13 := ax.ext.trans ay.ext
    refine adds_loop c (tv := u) (ax.row.ext ay.ext) ay.row hn (by omega) hd (by simp [g13]) (by simp) (by simp) (by simp) (by simp) (by simp) (by simp) (by simp) az.ext four _ _ ?_
    intro t' h5 a b cc l5 f5 k13 k16 k17 k18 k19
    have e15 := e13.trans f5.fa.ext
    exact adds_behind c hn hd (aT.row.ext e15) hM.taps f5 k13 k16 k17 k18 k19 _ fun h6 e6 => ⟨rfl, (aT.ext.trans e15).trans e6⟩
  by_cases hl : 300 < ln
  · have hl' : (300 : Int) < ln := by omega
    have hcut := rl1.row.cut (k := .i64) (i := 300) (by omega) (by omega)
    have e300 : (300 : Int).toNat = 300 := rfl
    rw [e300] at hcut
    simp [rl1.row.len, hl, hl', hcut]
    exact tail (cutTo l 300) 300 _ (by omega) (rl1.cut (by omega)) (by simp) (by simp) (by simp) (by simp)
  · have hl' : ¬ (300 : Int) < ln := by omega
    simp [rl1.row.len, hl, hl']
    exact tail l ln _ (by omega) rl1 (by simp) (by simp) (by simp) (by simp)

theorem RowP.pick {α : Type} {h : Heap} {v : AV} {n len : Nat} {Q : α → List AV → Prop} [Inhabited α] (r : RowP h v n len fun _ c => ∃ x, Q x c) : ∃ f : Nat → α, RowP h v n len fun i c => Q (f i) c := by
  have : ∀ i, ∃ x : α, i < len → ∃ c, ldc h (elemP v i n) n = some c ∧ Q x c := by
    intro i
    by_cases hi : i < len
    · obtain ⟨c, h1, x, h2⟩ := r.get i hi
      exact ⟨x, fun _ => ⟨c, h1, h2⟩⟩
    · exact ⟨default, fun h => absurd h hi⟩
  exact ⟨fun i => (this i).choose, r.shape, fun i hi => (this i).choose_spec hi⟩

def TapQ (c : List AV) : Prop := ∃ x : Int × Int × Bool, c = [.int .i64 x.1, .int .i64 x.2.1, .bool x.2.2] ∧ (-9223372036854775808 ≤ x.1 ∧ x.1 < 9223372036854775808) ∧ (-9223372036854775808 ≤ x.2.1 ∧ x.2.1 < 9223372036854775808)
def SetQ (c : List AV) : Prop := ∃ x : Int × Int × Bool, c = [.int .i32 x.1, .int .i32 x.2.1, .bool x.2.2] ∧ x.1.natAbs ≤ 2147483648 ∧ x.2.1.natAbs ≤ 2147483648

theorem TapRow.of {h : Heap} {v : AV} {n : Nat} (r : RowP h v 3 n fun _ => TapQ) : ∃ re im odd, TapRow h v n re im odd := by
  obtain ⟨f, hf⟩ := RowP.pick r
  refine ⟨fun i => (f i).1, fun i => (f i).2.1, fun i => (f i).2.2, hf.mono fun i c _ hc => hc.1, fun i hi => ?_⟩
  obtain ⟨c, _, _, h2⟩ := hf.get i hi
  exact h2

theorem SetRow.of {h : Heap} {v : AV} {n : Nat} (r : RowP h v 3 n fun _ => SetQ) : ∃ re im lost, SetRow h v n re im lost := by
  obtain ⟨f, hf⟩ := RowP.pick r
  refine ⟨fun i => (f i).1, fun i => (f i).2.1, fun i => (f i).2.2, hf.mono fun i c _ hc => hc.1, fun i hi => ?_⟩
  obtain ⟨c, _, _, h2⟩ := hf.get i hi
  exact h2

end Go.Proofs.Ytofaiipohmeelaa.Am
