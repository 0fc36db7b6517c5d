/-
  The abstract machine: one gentle operation more; and the whole region.
-/
import Derived.Test.YtofaiipohmeelaaAmBar
namespace Go.Proofs.Ytofaiipohmeelaa.Am
variable {P : Program} {base : Nat} {m Z N : Nat} {ops : Array Oper} {dl : List (AOper × Md)} {ρ0 : Mp} {S : Nat → St} {W0 : World} {ds : List Deferred} {L : Nat → Bool} {a : Act} {W : World} {ρ : Mp} {top : Nat}

theorem dinv_gentle {E : Ev} (hE : SoundE P E) (hd : DCut P m ops dl) (T : Text base ops.size m Z ops dl ρ0 S) (hS : ∀ (k : Nat) ao f, dl[k]? = some (ao, f) → evalDraw E N Z ao f (S k) = some (S (k + 1)))
    (I : DInv base m ops dl ρ0 S W0 ds L a W ρ top) {i : Nat} {o : Oper} (hr : Ready ops L i o) (hnf : nonFree dl i) (hnb : ¬ isBar dl i) {Q : Exit → Act → World → Prop} :
    wpOp P ops Q i (fun a' W' => ∃ ρ' top', DInv base m ops dl ρ0 S W0 ds (fun k => L k || k == i) a' W' ρ' top') a W := by
  have hi : i < ops.size := (Array.getElem?_eq_some_iff.1 hr.op).1
  have hlt : i < dl.length := by rw [hd.len]; exact hi
  have hk : dl[i]? = some (dl[i].1, dl[i].2) := List.getElem?_eq_getElem hlt
  obtain ⟨o', ho', hc⟩ := hd.cut i _ _ hk
  rw [hr.op] at ho'; simp at ho'; subst ho'
  have hit : i < top := by
    rcases Nat.lt_trichotomy i top with h1 | h1 | h1
    · exact h1
    · subst h1; exact absurd (I.t3 hi).1 hnb
    · have h2 := I.t3 (by omega)
      have := hr.ahead I.cl top (by
        obtain ⟨p, k1, k2⟩ := h2.1
        obtain ⟨p', k3, k4⟩ := hnf
        exact (hd.bar top i p p' k1 k2 k3 k4).2 h1)
      rw [h2.2] at this; simp at this
  have hno : ∀ k, i ≤ k → k < top → ¬ isBar dl k := by
    intro k h1 h2 h3
    rcases Nat.lt_or_ge i k with h4 | h4
    · have := (bar_order hd I.cl h3 hnf).1 h4 (I.t2 k h2 h3)
      rw [hr.not] at this; simp at this
    · have : k = i := by omega
      subst this; exact hnb h3
  have hexti := ext_of hd T (by omega) I.t1 hno
  have hextn := ext_of hd T (i := i + 1) (by omega) I.t1 fun k h1 h2 => hno k (by omega) h2
  have n01 := T.next i (i + 1) (by omega) (by omega)
  have n1t := T.next (i + 1) top (by omega) I.t1
  have n0i := T.next 0 i (by omega) (by omega)
  have ntn := T.next top ops.size I.t1 (Nat.le_refl _)
  have known : ∀ b g, ρ b = some g → (∃ g, ρ0 b = some g) ∨ (S 0).2.next ≤ b := fun b g hb => (I.dom b g hb).imp (fun h => ⟨g, h⟩) id
  have atTop : ∀ b g, b < (S i).2.next → ρ b = some g → ρ.below (S top).2.next b = some g := fun b g h1 h2 => by rw [Mp.below_lt (by omega)]; exact h2
  have ri : Rel base (ρ.below (S i).2.next) (S i).2 W := by
    refine ⟨I.rel.room, fun b g hb => ?_, fun b x hx => T.live i b x (by omega) hx, fun b x g hx hg => ?_, fun b b' x x' g g' hx hx' hg hg' hne ho => ?_, fun b x g hx hg ho => ?_⟩
    · obtain ⟨h1, h2⟩ := Mp.below_some hb; exact ⟨h1, (I.bnd b g h2).2⟩
    · obtain ⟨h1, h2⟩ := Mp.below_some hg
      obtain ⟨σ, g', W', h3, h4⟩ := T.closed i b x (by omega) hx (known b g h2)
      exact BR.below h3 (BR.mono below_le' (I.rel.blk b x g (by rw [hexti b h1]; exact hx) (atTop b g h1 h2)) rfl) h4
    · obtain ⟨h1, h2⟩ := Mp.below_some hg
      obtain ⟨h3, h4⟩ := Mp.below_some hg'
      exact I.rel.inj b b' x x' g g' (by rw [hexti b h1]; exact hx) (by rw [hexti b' h3]; exact hx') (atTop b g h1 h2) (atTop b' g' h3 h4) hne ho
    · obtain ⟨h1, h2⟩ := Mp.below_some hg
      exact I.rel.base b x g (by rw [hexti b h1]; exact hx) (atTop b g h1 h2) ho
  have hiti : ∀ c, Hit (ρ.below (S i).2.next) (S i).2 c → Hit (ρ.below (S top).2.next) (S top).2 c := by
    rintro c ⟨b, x, g, hx, hg, ho, rfl⟩
    obtain ⟨h1, h2⟩ := Mp.below_some hg
    exact ⟨b, x, g, by rw [hexti b h1]; exact hx, atTop b g h1 h2, ho, rfl⟩
  refine draw_step hE hc hr.op (fun h => hd.quiet i _ (by rw [← h]; exact hk)) (hS i _ _ hk) ri (a := a) (fun sl hsl v hv => ?_) fun v v' ρ1 W' h1 h2 st _ _ => ?_
  · obtain ⟨v', w1, w2⟩ := I.tmp sl v (look_cur hd T I.cl hr.op hr.not (hr.ahead I.cl) hsl hv)
    obtain ⟨σ, u, w3, w4⟩ := T.sclosed i sl v (by omega) hv
    exact ⟨v', w1, VR.below w3 v _ _ w2 w4⟩
  -- the two maps laid together
  have inΔ : ∀ b g, ρ b = some g → ¬ ((S i).2.next ≤ b ∧ b < (S (i + 1)).2.next) := fun b g hb => I.ex b g i hb hi hr.not
  have le' : ρ.le (ρ.mix ρ1 (S i).2.next (S (i + 1)).2.next) := fun b g hb => by rw [mix_out (inΔ b g hb)]; exact hb
  have le1 : ρ1.le (ρ.mix ρ1 (S i).2.next (S (i + 1)).2.next) := by
    intro b g hb
    rcases st.dom b g hb with h3 | h3
    · exact le' b g (Mp.below_some h3).2
    · rw [mix_in ⟨h3, (st.rel.dom b g hb).1⟩]; exact hb
  have old : ∀ b g, (ρ.mix ρ1 (S i).2.next (S (i + 1)).2.next) b = some g → (b < (S (i + 1)).2.next → ρ1 b = some g) ∧ ((S (i + 1)).2.next ≤ b → ρ b = some g) ∧ (b < (S i).2.next → ρ b = some g) := by
    intro b g hb
    refine ⟨fun hlt => ?_, fun hge => ?_, fun hlt => ?_⟩
    · by_cases h3 : (S i).2.next ≤ b
      · rw [mix_in ⟨h3, hlt⟩] at hb; exact hb
      · rw [mix_out (by omega)] at hb
        exact st.le b g (by rw [Mp.below_lt (by omega)]; exact hb)
    · rw [mix_out (by omega)] at hb; exact hb
    · rw [mix_out (by omega)] at hb; exact hb
  have notHit : ∀ b g, (S (i + 1)).2.next ≤ b → ρ b = some g → ((∃ x, (S top).2.get b = some x) ∨ (S top).2.next ≤ b) → ¬ Hit (ρ.below (S i).2.next) (S i).2 g.blk := by
    rintro b g hb hg hh ⟨b2, x2, g2, hx2, hg2, ho2, heq⟩
    obtain ⟨h3, h4⟩ := Mp.below_some hg2
    have hx2t : (S top).2.get b2 = some x2 := by rw [hexti b2 h3]; exact hx2
    by_cases h5 : (S top).2.next ≤ b
    · obtain ⟨j, k1, k2, k3, _, k4, k5⟩ := I.wher hd hS hg h5
      obtain ⟨g3, _, k6, _, _, _, _, k7⟩ := I.pend j b k1 k2 k3 k4 k5
      rw [hg] at k6; simp at k6; subst k6
      exact k7 b2 g2 h4 (by omega) (.inl ⟨x2, hx2t⟩) heq
    · obtain ⟨x, hx⟩ := hh.resolve_right h5
      exact I.rel.inj b2 b x2 x g2 g hx2t hx (atTop b2 g2 h3 h4) (by rw [Mp.below_lt (by omega)]; exact hg) (by omega) ho2 heq
  have cross : ∀ b b' x x' g g', b < (S (i + 1)).2.next → (S (i + 1)).2.next ≤ b' → (S (i + 1)).2.get b = some x → (S top).2.get b' = some x' → (ρ.mix ρ1 (S i).2.next (S (i + 1)).2.next) b = some g → ρ b' = some g' →
      (ownB x = true ∨ ownB x' = true) → g.blk ≠ g'.blk := by
    intro b b' x x' g g' hb hb' hx hx' hg hg' ho heq
    have hb't := T.live top b' x' I.t1 hx'
    by_cases h3 : b < (S i).2.next
    · have hgb := (old b g hg).2.2 h3
      have hxt : (S top).2.get b = some x := by rw [hextn b hb]; exact hx
      rcases ho with ho | ho
      · exact I.rel.inj b b' x x' g g' hxt hx' (atTop b g h3 hgb) (by rw [Mp.below_lt hb't]; exact hg') (by omega) ho heq
      · exact I.rel.inj b' b x' x g' g hx' hxt (by rw [Mp.below_lt hb't]; exact hg') (atTop b g h3 hgb) (by omega) ho heq.symm
    · have hown := T.own (i + 1) b x (by omega) hx (by omega)
      rcases st.fresh b x g hx ((old b g hg).1 hb) (by omega) hown with h4 | h4
      · have := (I.bnd b' g' hg').2; omega
      · rw [heq] at h4; exact notHit b' g' hb' hg' (.inl ⟨x', hx'⟩) h4
  have rel' : Rel base ((ρ.mix ρ1 (S i).2.next (S (i + 1)).2.next).below (S top).2.next) (S top).2 W' := by
    refine ⟨st.rel.room, fun b g hb => ?_, fun b x hx => T.live top b x I.t1 hx, fun b x g hx hg => ?_, fun b b' x x' g g' hx hx' hg hg' hne ho => ?_, fun b x g hx hg ho => ?_⟩
    · obtain ⟨hbt, hb⟩ := Mp.below_some hb
      rcases Nat.lt_or_ge b (S (i + 1)).2.next with h3 | h3
      · exact ⟨by omega, (st.rel.dom b g ((old b g hb).1 h3)).2⟩
      · have := I.bnd b g ((old b g hb).2.1 h3)
        exact ⟨hbt, Nat.lt_of_lt_of_le this.2 st.size⟩
    · obtain ⟨hbt, hg⟩ := Mp.below_some hg
      have hkn : (∃ g, ρ0 b = some g) ∨ (S 0).2.next ≤ b := by
        rcases Nat.lt_or_ge b (S i).2.next with h3 | h3
        · exact known b g ((old b g hg).2.2 h3)
        · exact .inr (by omega)
      obtain ⟨σ, g', W2, h7, h8⟩ := T.closed top b x I.t1 hx hkn
      refine BR.below h7 ?_ h8
      rcases Nat.lt_or_ge b (S (i + 1)).2.next with h3 | h3
      · rw [hextn b h3] at hx
        exact BR.mono le1 (st.rel.blk b x g hx ((old b g hg).1 h3)) rfl
      · have hgb := (old b g hg).2.1 h3
        refine BR.mono (Mp.le_trans below_le' le') (I.rel.blk b x g hx (by rw [Mp.below_lt hbt]; exact hgb)) (st.frame _ (I.bnd b g hgb).2 (notHit b g h3 hgb (.inl ⟨x, hx⟩)))
    · obtain ⟨hbt, hg⟩ := Mp.below_some hg
      obtain ⟨hbt', hg'⟩ := Mp.below_some hg'
      rcases Nat.lt_or_ge b (S (i + 1)).2.next with h3 | h3
      · rcases Nat.lt_or_ge b' (S (i + 1)).2.next with h4 | h4
        · rw [hextn b h3] at hx; rw [hextn b' h4] at hx'
          exact st.rel.inj b b' x x' g g' hx hx' ((old b g hg).1 h3) ((old b' g' hg').1 h4) hne ho
        · rw [hextn b h3] at hx
          exact cross b b' x x' g g' h3 h4 hx hx' hg ((old b' g' hg').2.1 h4) (.inl ho)
      · rcases Nat.lt_or_ge b' (S (i + 1)).2.next with h4 | h4
        · rw [hextn b' h4] at hx'
          exact (cross b' b x' x g' g h4 h3 hx' hx hg' ((old b g hg).2.1 h3) (.inr ho)).symm
        · exact I.rel.inj b b' x x' g g' hx hx' (by rw [Mp.below_lt hbt]; exact (old b g hg).2.1 h3) (by rw [Mp.below_lt hbt']; exact (old b' g' hg').2.1 h4) hne ho
    · obtain ⟨hbt, hg⟩ := Mp.below_some hg
      rcases Nat.lt_or_ge b (S (i + 1)).2.next with h3 | h3
      · rw [hextn b h3] at hx
        exact st.rel.base b x g hx ((old b g hg).1 h3) ho
      · exact I.rel.base b x g hx (by rw [Mp.below_lt hbt]; exact (old b g hg).2.1 h3) ho
  refine ⟨_, top, cl_more I.cl hr, I.t1, fun k h3 h4 => by simp [I.t2 k h3 h4], fun h3 => ⟨(I.t3 h3).1, ?_⟩, rel', fun b g hb => ?_, fun b g k hb hk' hL hh => ?_, fun b x k hk' hL h3 h4 hx => ?_, fun j b h3 h4 hL h5 h6 => ?_, by rw [put_size]; exact I.tsz,
    cur_put hd T hr.op le' hc.lt I.tsz I.tmp h1 (VR.mono le1 _ _ h2), by rw [put_defers']; exact I.dfr, Mp.le_trans I.le le', fun b g hb => ?_, Nat.le_trans I.size st.size,
    ⟨st.same.1.trans I.same.1, st.same.2.1.trans I.same.2.1, st.same.2.2.trans I.same.2.2⟩, fun c hc' hn => ?_, fun b x g hx hg hb => ?_⟩
  · have h5 := I.t3 h3
    have hne : top ≠ i := by omega
    simp [h5.2, hne]
  · rcases Nat.lt_or_ge b (S (i + 1)).2.next with h3 | h3
    · exact ⟨by omega, (st.rel.dom b g ((old b g hb).1 h3)).2⟩
    · have := I.bnd b g ((old b g hb).2.1 h3)
      exact ⟨this.1, Nat.lt_of_lt_of_le this.2 st.size⟩
  · obtain ⟨hL1, hne⟩ := or_eq hL
    by_cases h5 : (S i).2.next ≤ b ∧ b < (S (i + 1)).2.next
    · rcases Nat.lt_or_ge k i with h7 | h7
      · have := T.next (k + 1) i (by omega) (by omega); omega
      · have := T.next (i + 1) k (by omega) (by omega); omega
    · have : ρ b = some g := by rw [mix_out h5] at hb; exact hb
      exact I.ex b g k this hk' hL1 hh
  · simp only [Bool.or_eq_true, beq_iff_eq] at hL
    rcases hL with hL | rfl
    · obtain ⟨g, hg⟩ := I.md b x k hk' hL h3 h4 hx
      exact ⟨g, le' b g hg⟩
    · rw [hextn b h4] at hx
      obtain ⟨g, hg⟩ := (st.mapd b x hx h3).2
      exact ⟨g, le1 b g hg⟩
  · simp only [Bool.or_eq_true, beq_iff_eq] at hL
    rcases hL with hL | rfl
    · obtain ⟨g, x, k1, k2, k3, k4, k5, k6⟩ := I.pend j b h3 h4 hL h5 h6
      have htj := T.next top j h3 (by omega)
      refine ⟨g, x, le' b g k1, k2, BR.mono le' k3 (st.frame _ (I.bnd b g k1).2 (notHit b g (by omega) k1 (.inr (by omega)))), k4, k5, fun b' g' hb' hne hh => ?_⟩
      by_cases h7 : (S i).2.next ≤ b' ∧ b' < (S (i + 1)).2.next
      · rcases hh with ⟨y, hy⟩ | hh
        · rw [hextn b' h7.2] at hy
          have hown := T.own (i + 1) b' y (by omega) hy (by omega)
          rcases st.fresh b' y g' hy ((old b' g' hb').1 h7.2) h7.1 hown with h8 | h8
          · have := (I.bnd b g k1).2; omega
          · intro e
            rw [e] at h8
            exact notHit b g (by omega) k1 (.inr (by omega)) h8
        · omega
      · rw [mix_out h7] at hb'
        exact k6 b' g' hb' hne hh
    · omega
  · by_cases h5 : (S i).2.next ≤ b ∧ b < (S (i + 1)).2.next
    · exact .inr (by omega)
    · have : ρ b = some g := by rw [mix_out h5] at hb; exact hb
      exact I.dom b g this
  · rw [st.frame c (Nat.lt_of_lt_of_le hc' I.size) fun hh => ?_]
    · exact I.frame c hc' hn
    · rcases I.hit0 T (hiti c hh) with h3 | h3
      · omega
      · exact hn h3
  · by_cases h5 : (S i).2.next ≤ b ∧ b < (S (i + 1)).2.next
    · rw [hextn b h5.2] at hx
      have hown := T.own (i + 1) b x (by omega) hx (by omega)
      rcases st.fresh b x g hx ((old b g hg).1 h5.2) h5.1 hown with h6 | h6
      · exact .inl (Nat.le_trans I.size h6)
      · exact I.hit0 T (hiti _ h6)
    · have : ρ b = some g := by rw [mix_out h5] at hg; exact hg
      exact I.fresh b x g hx this hb

theorem dinv_step {E : Ev} (hE : SoundE P E) (hd : DCut P m ops dl) (T : Text base ops.size m Z ops dl ρ0 S) (hS : ∀ (k : Nat) ao f, dl[k]? = some (ao, f) → evalDraw E N Z ao f (S k) = some (S (k + 1)))
    (hN : N ≤ (S 0).2.next) (I : DInv base m ops dl ρ0 S W0 ds L a W ρ top) {i : Nat} {o : Oper} (hr : Ready ops L i o) {Q : Exit → Act → World → Prop} :
    wpOp P ops Q i (fun a' W' => ∃ ρ' top', DInv base m ops dl ρ0 S W0 ds (fun k => L k || k == i) a' W' ρ' top') a W := by
  by_cases h1 : nonFree dl i
  · by_cases h2 : isBar dl i
    · exact dinv_bar hE hd T hS I hr h2
    · exact dinv_gentle hE hd T hS I hr h1 h2
  · by_cases hq : isQ dl i
    · exact dinv_quiet hE hd T hS hN I hr hq
    · exact dinv_free hE hd T hS I hr h1 hq

/-- What an array of Bools lists. -/
def lst (l : Array Bool) (k : Nat) : Bool := l.getD k false

/-- All have run: both sides stand at the text's end. -/
theorem dinv_end (T : Text base ops.size m Z ops dl ρ0 S) (I : DInv base m ops dl ρ0 S W0 ds L a W ρ top) (hall : ∀ k, k < ops.size → L k = true) :
    TR m ρ (S ops.size).1 a.tmps ∧ Step base ρ0 (S 0).2 W0 ρ (S ops.size).2 W ∧ a.defers = ds := by
  have htop : top = ops.size := by
    rcases Nat.lt_or_ge top ops.size with h | h
    · have := (I.t3 h).2; rw [hall top h] at this; simp at this
    · have := I.t1; omega
  subst htop
  have hrel : Rel base ρ (S ops.size).2 W := by
    have := I.rel
    rw [below_self (fun b g h => (I.bnd b g h).1)] at this; exact this
  refine ⟨⟨I.tsz, fun sl v hv => I.tmp sl v ?_⟩, ⟨I.le, hrel, I.dom, T.next 0 _ (Nat.zero_le _) (Nat.le_refl _), I.size, fun b x hb hx => T.keep 0 _ b x (Nat.zero_le _) (Nat.le_refl _) hb hx, I.frame, fun b x g hx hg hb _ => I.fresh b x g hx hg hb, I.same, T.low, T.lows, fun b x hx hb => ?_⟩, I.dfr⟩
  · by_cases hw : ∃ (w : Nat) (ow : Oper), ops[w]? = some ow ∧ ow.dst = some sl
    · obtain ⟨w, ow, h1, h2⟩ := hw
      exact .inl ⟨w, ow, h1, h2, hall w (Array.getElem?_eq_some_iff.1 h1).1, hv⟩
    · refine .inr ⟨fun w ow h1 h2 => absurd ⟨w, ow, h1, h2⟩ hw, ?_⟩
      rw [T.stays rfl 0 ops.size (by omega) (Nat.le_refl _) fun k ok _ _ h3 h4 => hw ⟨k, ok, h3, h4⟩] at hv
      exact hv
  · refine ⟨T.own _ b x (Nat.le_refl _) hx hb, ?_⟩
    obtain ⟨k, _, h1, h2, h3⟩ := maker_of (T.live _ b x (Nat.le_refl _) hx) _ 0 rfl (Nat.zero_le _) hb
    exact I.md b x k h1 (hall k h1) h2 h3 hx

theorem count_less {L : Nat → Bool} {i : Nat} (hL : L i = false) : ∀ (l : List Nat), (l.countP fun k => !(L k || k == i)) ≤ (l.countP fun k => !L k) ∧ (i ∈ l → (l.countP fun k => !(L k || k == i)) < (l.countP fun k => !L k))
  | [] => ⟨Nat.le_refl _, fun h => by simp at h⟩
  | x :: xs => by
    obtain ⟨h1, h2⟩ := count_less hL xs
    simp only [List.countP_cons]
    by_cases hx : x = i
    · subst hx
      simp only [hL, Bool.false_or, beq_self_eq_true, Bool.not_true, Bool.false_eq_true, if_false, Bool.not_false, if_true]
      exact ⟨by omega, fun _ => by omega⟩
    · have : (x == i) = false := by simpa using hx
      simp only [this, Bool.or_false]
      refine ⟨by omega, fun hm => ?_⟩
      have := h2 (by simpa [Ne.symm hx] using hm)
      omega

theorem lst_set {l : Array Bool} {i : Nat} (hi : i < l.size) : lst (l.setIfInBounds i true) = fun k => lst l k || k == i := by
  funext k
  unfold lst
  simp only [Array.getD_eq_getD_getElem?]
  by_cases h : k = i
  · subst h; rw [Array.getElem?_setIfInBounds_self_of_lt hi]; simp
  · rw [Array.getElem?_setIfInBounds_ne (Ne.symm h)]
    have : (k == i) = false := by simpa using h
    simp [this]

theorem ready_spec {listed : Array Bool} (hsz : listed.size = ops.size) {i : Nat} (hi : i ∈ Region.ready .any ops listed) : ∃ o, Ready ops (lst listed) i o := by
  unfold Region.ready at hi
  simp only [List.mem_filter, List.mem_range, Bool.and_eq_true, Bool.not_eq_true'] at hi
  obtain ⟨h1, h2, h3⟩ := hi
  refine ⟨ops[i], Array.getElem?_eq_getElem h1, ?_, fun e he hb => ?_⟩
  · unfold lst
    rw [Array.getD_eq_getD_getElem?, Array.getElem?_eq_getElem (by omega)] at h2 ⊢
    exact h2
  · rw [Array.getElem?_eq_getElem h1] at h3
    simp only [Option.map_some, Option.getD_some] at h3
    have := Array.all_eq_true_iff_forall_mem.1 h3 e (Array.mem_toList_iff.1 he)
    simpa [hb, lst] using this

theorem ready_none {P : Program} (hd : DCut P m ops dl) {listed : Array Bool} (hsz : listed.size = ops.size) (hn : Region.ready .any ops listed = []) : ∀ k, k < ops.size → lst listed k = true := by
  intro k
  induction k using Nat.strongRecOn with
  | _ k ih =>
    intro hk
    cases hL : lst listed k with
    | true => rfl
    | false =>
      have hmem : k ∈ Region.ready .any ops listed := by
        unfold Region.ready
        simp only [List.mem_filter, List.mem_range, Bool.and_eq_true, Bool.not_eq_true']
        refine ⟨hk, ?_, ?_⟩
        · unfold lst at hL
          rw [Array.getD_eq_getD_getElem?, Array.getElem?_eq_getElem (by omega)] at hL ⊢
          exact hL
        · rw [Array.getElem?_eq_getElem hk]
          simp only [Option.map_some, Option.getD_some]
          refine Array.all_eq_true_iff_forall_mem.2 fun e he => ?_
          cases hb : Region.binds .any e with
          | false => simp
          | true =>
            have hlt := hd.edge k _ e (Array.getElem?_eq_getElem hk) (Array.mem_toList_iff.2 he) hb
            have := ih e.on hlt (by omega)
            simpa [lst] using this
      rw [hn] at hmem
      simp at hmem

theorem any_wp {E : Ev} (hE : SoundE P E) (hd : DCut P m ops dl) (T : Text base ops.size m Z ops dl ρ0 S) (hS : ∀ (k : Nat) ao f, dl[k]? = some (ao, f) → evalDraw E N Z ao f (S k) = some (S (k + 1))) (hN : N ≤ (S 0).2.next) {Q : Exit → Act → World → Prop}
    (hQ : ∀ a' W' ρ', TR m ρ' (S ops.size).1 a'.tmps → Step base ρ0 (S 0).2 W0 ρ' (S ops.size).2 W' → a'.defers = ds → Q .normal a' W') : ∀ (fuel : Nat) (listed : Array Bool) (a : Act) (W : World) (ρ : Mp) (top : Nat),
    listed.size = ops.size → ((List.range ops.size).countP fun k => !lst listed k) ≤ fuel → DInv base m ops dl ρ0 S W0 ds (lst listed) a W ρ top → wpAny P .any ops Q fuel listed a W := by
  have fin : ∀ (listed : Array Bool) (a : Act) (W : World) (ρ : Mp) (top : Nat), DInv base m ops dl ρ0 S W0 ds (lst listed) a W ρ top → (∀ k, k < ops.size → lst listed k = true) → Q .normal a W := by
    intro listed a W ρ top I hall
    obtain ⟨h1, h2, h3⟩ := dinv_end T I hall
    exact hQ a W ρ h1 h2 h3
  intro fuel
  induction fuel with
  | zero =>
    intro listed a W ρ top hsz hc I
    have hall : ∀ k, k < ops.size → lst listed k = true := by
      intro k hk
      have h0 : ((List.range ops.size).countP fun k => !lst listed k) = 0 := by omega
      have := List.countP_eq_zero.1 h0 k (List.mem_range.2 hk)
      simpa using this
    refine ⟨?_, fin listed a W ρ top I hall⟩
    cases hrd : Region.ready .any ops listed with
    | nil => rfl
    | cons i rest =>
      obtain ⟨o, hr⟩ := ready_spec hsz (i := i) (by rw [hrd]; simp)
      have := hall i (Array.getElem?_eq_some_iff.1 hr.op).1
      rw [hr.not] at this; simp at this
  | succ fuel ih =>
    intro listed a W ρ top hsz hc I
    refine ⟨fun hn => fin listed a W ρ top I (ready_none hd hsz hn), fun i hi => ?_⟩
    obtain ⟨o, hr⟩ := ready_spec hsz hi
    have hlt : i < ops.size := (Array.getElem?_eq_some_iff.1 hr.op).1
    refine wpOp_mono (fun a' W' ⟨ρ', top', I'⟩ => ?_) (dinv_step hE hd T hS hN I hr)
    rw [← lst_set (by omega)] at I'
    refine ih _ a' W' ρ' top' (by simpa using hsz) ?_ I'
    rw [lst_set (by omega)]
    have := (count_less hr.not (List.range ops.size)).2 (List.mem_range.2 hlt)
    exact Nat.le_of_lt_succ (Nat.lt_of_lt_of_le this hc)

/-- ████ A REGION WHOSE ORDER IS OPEN ████ -/
theorem region_draw_wp (hm : P.follows .mixedOrders = true) {E : Ev} (hE : SoundE P E) (hd : DCut P m ops dl) {id : Nat} {Q : Exit → Act → World → Prop} {s s' : St} (r : Rel base ρ s.2 W) (t : TR m ρ s.1 a.tmps)
    (e : evalDraws E s.2.next dl 0 0 s = some s') (hQ : ∀ a' W' ρ', TR m ρ' s'.1 a'.tmps → Step base ρ s.2 W ρ' s'.2 W' → a'.defers = a.defers → Q .normal a' W') : (Code.region id ops true).wp P Q a W := by
  obtain ⟨Z, S, h1, h2, _, _, h3⟩ := draws_run dl 0 0 s s' e
  rw [hd.len] at h2
  subst h1 h2
  have st0 := Step.draw r (W.drawn + 1)
  have T := text_facts hE hd h3 st0.rel t
  obtain ⟨top, k1, k2, k3, k4⟩ := next_top (dl := dl) (fun _ => false) ops.size ops.size 0 rfl (Nat.zero_le _)
  have hno : ∀ k, 0 ≤ k → k < top → ¬ isBar dl k := fun k h4 h5 h6 => by have := k3 k h4 h5 h6; simp at this
  have hext := ext_of hd T k1 k2 hno
  have hb0 : ∀ b g, ρ b = some g → b < (S 0).2.next := fun b g h => (st0.rel.dom b g h).1
  have hrel : Rel base (ρ.below (S top).2.next) (S top).2 { W with drawn := W.drawn + 1 } :=
    Rel.extend T k1 k2 (by rw [below_self hb0]; exact st0.rel) hext (fun b g x hg hge _ _ => by have := hb0 b g hg; omega) (fun b g hg => (st0.rel.dom b g hg).2)
  have hl0 : lst (Array.replicate ops.size false) = fun _ => false := by
    funext k
    unfold lst
    rw [Array.getD_eq_getD_getElem?, Array.getElem?_replicate]
    split <;> rfl
  refine wp_region_any hm (any_wp hE hd T h3 (Nat.le_refl _) (W0 := { W with drawn := W.drawn + 1 }) (ds := a.defers) (fun a' W' ρ' ht hs hdf => hQ a' W' ρ' ht (st0.trans hs) hdf) ops.size _ a _ ρ top (by simp) ?_ ?_)
  · exact Nat.le_trans (List.countP_le_length) (by simp)
  · rw [hl0]
    refine ⟨fun _ _ _ h => by simp at h, k2, fun k h => k3 k (Nat.zero_le _) h, k4, hrel, fun b g hb => ⟨Nat.lt_of_lt_of_le (hb0 b g hb) (T.next 0 _ (Nat.zero_le _) (Nat.le_refl _)), (st0.rel.dom b g hb).2⟩, fun b g k hb _ _ hh => ?_, fun _ _ _ _ h => by simp at h, fun _ _ _ _ h => by simp at h, t.size, fun sl v hv => ?_, rfl, Mp.le_refl ρ, fun b g hb => .inl hb, Nat.le_refl _, ⟨rfl, rfl, rfl⟩, fun _ _ _ => rfl, fun b x g hx hg hb => ?_⟩
    · have := hb0 b g hb
      have := T.next 0 k (Nat.zero_le _) (by omega)
      omega
    · rcases hv with ⟨_, _, _, _, h, _⟩ | ⟨_, hv⟩
      · simp at h
      · exact t.val sl v hv
    · have := hb0 b g hg; omega

end Go.Proofs.Ytofaiipohmeelaa.Am
