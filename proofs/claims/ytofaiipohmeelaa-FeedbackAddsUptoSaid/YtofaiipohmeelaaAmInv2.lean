/-
  The abstract machine: one operation more, in any order.
-/
import Derived.Test.YtofaiipohmeelaaAmInv
namespace Go.Proofs.Ytofaiipohmeelaa.Am
variable {P : Program} {base : Nat} {m Z N : Nat} {ops : Array Oper} {dl : List (AOper × Md)} {ρ0 : Mp} {S : Nat → St} {W0 : World} {ds : List Deferred} {L : Nat → Bool} {a : Act} {W : World} {ρ : Mp} {top : Nat}

theorem DInv.hit0 (T : Text base ops.size m Z ops dl ρ0 S) (I : DInv base m ops dl ρ0 S W0 ds L a W ρ top) {c : Nat} (hh : Hit (ρ.below (S top).2.next) (S top).2 c) : W0.heap.size ≤ c ∨ Hit ρ0 (S 0).2 c := by
  obtain ⟨b, x, g, hx, hg, ho, rfl⟩ := hh
  obtain ⟨_, hg⟩ := Mp.below_some hg
  by_cases hb : (S 0).2.next ≤ b
  · exact I.fresh b x g hx hg hb
  · rcases I.dom b g hg with h1 | h1
    · obtain ⟨y, h2, h3⟩ := T.keep 0 top b x (Nat.zero_le _) I.t1 (by omega) hx
      exact .inr ⟨b, y, g, h2, h1, by rw [h3, ho], rfl⟩
    · exact absurd h1 hb

theorem put_defers' (a : Act) (d : Option Tmp) (v : Value) : (a.put d v).defers = a.defers := by cases d <;> rfl

theorem put_size (a : Act) (d : Option Tmp) (v : Value) : (a.put d v).tmps.size = a.tmps.size := by cases d <;> simp [Act.put]

theorem or_eq {L : Nat → Bool} {i k : Nat} (h : (L k || k == i) = false) : L k = false ∧ k ≠ i := by
  simp only [Bool.or_eq_false_iff, beq_eq_false_iff_ne] at h; exact h

theorem free_gap {E : Ev} (hd : DCut P m ops dl) (hS : ∀ (k : Nat) ao f, dl[k]? = some (ao, f) → evalDraw E N Z ao f (S k) = some (S (k + 1))) {k : Nat} (hlt : k < dl.length) (hf : ¬ nonFree dl k) (hq : ¬ isQ dl k) : (S (k + 1)).2 = (S k).2 := by
  have hk := List.getElem?_eq_getElem hlt
  have hfree : dl[k].1.op.free = true := by
    cases h : dl[k].1.op.free with
    | true => rfl
    | false => exact absurd ⟨dl[k], hk, h, fun e => hq ⟨dl[k].1, by rw [← e]; exact hk⟩⟩ hf
  have hp := hd.fre k dl[k].1 dl[k].2 hk hfree
  have hk' : dl[k]? = some (dl[k].1, Md.plain) := by rw [hk, ← hp]
  have := hS k _ _ hk'
  exact (draw_free hfree this (S k).2).1

/-- What a ready operation finds. -/
structure Ready (ops : Array Oper) (L : Nat → Bool) (i : Nat) (o : Oper) : Prop where
  op : ops[i]? = some o
  not : L i = false
  edges : ∀ e ∈ o.after.toList, Region.binds .any e = true → L e.on = true

theorem Ready.ahead (I : ∀ j o e, L j = true → ops[j]? = some o → e ∈ o.after.toList → Region.binds .any e = true → L e.on = true) {i : Nat} {o : Oper} (hr : Ready ops L i o) : ∀ j, ahead (Region.before ops) j i = true → L j = true := by
  intro j hj
  unfold Go.Proofs.Ytofaiipohmeelaa.Am.ahead at hj
  rw [before_eq] at hj
  obtain ⟨o', e, h1, h2, h3, h4⟩ := bL_inv _ ops.toList rfl i j hj
  rw [Array.getElem?_toList, hr.op] at h1
  simp at h1; subst h1
  have h5 := hr.edges e h2 h3
  rcases h4 with rfl | ⟨h6, h7⟩
  · exact h5
  · exact ahead_listed I e.on j h5 (by unfold Go.Proofs.Ytofaiipohmeelaa.Am.ahead; rw [before_eq]; exact h7)

theorem cl_more (hcl : ∀ j o e, L j = true → ops[j]? = some o → e ∈ o.after.toList → Region.binds .any e = true → L e.on = true) {i : Nat} {o : Oper} (hr : Ready ops L i o) :
    ∀ j o e, (L j || j == i) = true → ops[j]? = some o → e ∈ o.after.toList → Region.binds .any e = true → (L e.on || e.on == i) = true := by
  intro j o' e hj ho he hb
  simp only [Bool.or_eq_true, beq_iff_eq] at hj ⊢
  rcases hj with hj | rfl
  · exact .inl (hcl j o' e hj ho he hb)
  · rw [hr.op] at ho; simp at ho; subst ho; exact .inl (hr.edges e he hb)

/-- A block that is known, and stands behind `top`'s memory: a quiet operation made it that has run. -/
theorem DInv.wher {E : Ev} (hd : DCut P m ops dl) (hS : ∀ (k : Nat) ao f, dl[k]? = some (ao, f) → evalDraw E N Z ao f (S k) = some (S (k + 1))) (I : DInv base m ops dl ρ0 S W0 ds L a W ρ top) {b : Nat} {g : G} (hb : ρ b = some g) (h : (S top).2.next ≤ b) :
    ∃ i, top ≤ i ∧ i < ops.size ∧ L i = true ∧ isQ dl i ∧ (S i).2.next ≤ b ∧ b < (S (i + 1)).2.next := by
  obtain ⟨i, h1, h2, h3, h4⟩ := maker_of (I.bnd b g hb).1 _ top rfl I.t1 h
  have hL : L i = true := by
    cases hL : L i with
    | true => rfl
    | false => exact absurd ⟨h3, h4⟩ (I.ex b g i hb h2 hL)
  refine ⟨i, h1, h2, hL, ?_, h3, h4⟩
  have ht := I.t3 (by omega)
  have hne : i ≠ top := fun e => by subst e; rw [ht.2] at hL; simp at hL
  by_cases hq : isQ dl i
  · exact hq
  · by_cases hn : nonFree dl i
    · have := (bar_order hd I.cl ht.1 hn).2 (by omega) hL
      rw [ht.2] at this; simp at this
    · rw [free_gap hd hS (by rw [hd.len]; exact h2) hn hq] at h4; omega

/-- An operation that makes nothing. -/
theorem dinv_same (hd : DCut P m ops dl) (T : Text base ops.size m Z ops dl ρ0 S) (I : DInv base m ops dl ρ0 S W0 ds L a W ρ top) {i : Nat} {o : Oper} (hr : Ready ops L i o) (hnb : ¬ isBar dl i) (hgap : (S (i + 1)).2.next = (S i).2.next)
    {v : AV} {v' : Value} (hput : (S (i + 1)).1 = putDst (S i).1 o.dst v) (hv : VR ρ v v') (hlt : ∀ d, o.dst = some d → d < m) {W' : World} (hrel : Rel base (ρ.below (S top).2.next) (S top).2 W')
    (hp : ∀ b g, ρ b = some g → (S top).2.next ≤ b → W'.heap[g.blk]? = W.heap[g.blk]?) (hfr : ∀ c, c < W0.heap.size → ¬ Hit ρ0 (S 0).2 c → W'.heap[c]? = W.heap[c]?) (hsz : W.heap.size ≤ W'.heap.size)
    (hsm : W'.tape = W.tape ∧ W'.os = W.os ∧ W'.output = W.output) : DInv base m ops dl ρ0 S W0 ds (fun k => L k || k == i) (a.put o.dst v') W' ρ top := by
  refine ⟨cl_more I.cl hr, I.t1, fun k h3 h4 => by simp [I.t2 k h3 h4], fun h3 => ⟨(I.t3 h3).1, ?_⟩, hrel, fun b g hb => ⟨(I.bnd b g hb).1, Nat.lt_of_lt_of_le (I.bnd b g hb).2 hsz⟩, fun b g k hb hk hL => I.ex b g k hb hk (or_eq hL).1, fun b x k hk hL h3 h4 hx => ?_,
    fun i' b h1 h2 hL h3 h4 => ?_, by rw [put_size]; exact I.tsz, cur_put hd T hr.op (Mp.le_refl ρ) hlt I.tsz I.tmp hput hv, by rw [put_defers']; exact I.dfr, I.le, I.dom, Nat.le_trans I.size hsz,
    ⟨hsm.1.trans I.same.1, hsm.2.1.trans I.same.2.1, hsm.2.2.trans I.same.2.2⟩, fun c hc hn => (hfr c hc hn).trans (I.frame c hc hn), I.fresh⟩
  · have h5 := I.t3 h3
    have hne : top ≠ i := fun e => hnb (by rw [← e]; exact h5.1)
    simp [h5.2, hne]
  · simp only [Bool.or_eq_true, beq_iff_eq] at hL
    rcases hL with hL | rfl
    · exact I.md b x k hk hL h3 h4 hx
    · omega
  · simp only [Bool.or_eq_true, beq_iff_eq] at hL
    rcases hL with hL | rfl
    · obtain ⟨g, x, k1, k2, k3, k4, k5, k6⟩ := I.pend i' b h1 h2 hL h3 h4
      have := T.next top i' h1 (by omega)
      exact ⟨g, x, k1, k2, BR.mono (Mp.le_refl ρ) k3 (hp b g k1 (by omega)), k4, k5, k6⟩
    · omega

/-- A memory of which all that it knows is so at `top`. -/
structure Sub (S : Nat → St) (n top : Nat) (H : Heap) : Prop where
  next : H.next = (S n).2.next
  get : ∀ c x, H.get c = some x → (S top).2.get c = some x

theorem Sub.rel (T : Text base ops.size m Z ops dl ρ0 S) (I : DInv base m ops dl ρ0 S W0 ds L a W ρ top) {H : Heap} (hs : Sub S ops.size top H) : Rel base ρ H W := by
  have hb : ∀ c x, H.get c = some x → c < (S top).2.next := fun c x h => T.live top c x I.t1 (hs.get c x h)
  refine ⟨I.rel.room, fun b g h => by rw [hs.next]; exact I.bnd b g h, fun b x hx => ?_, fun b x g hx hg => ?_, fun b b' x x' g g' hx hx' hg hg' => ?_, fun b x g hx hg => ?_⟩
  · have := hb b x hx; have := T.next top ops.size I.t1 (Nat.le_refl _); rw [hs.next]; omega
  · exact BR.mono below_le' (I.rel.blk b x g (hs.get b x hx) (by rw [Mp.below_lt (hb b x hx)]; exact hg)) rfl
  · exact I.rel.inj b b' x x' g g' (hs.get b x hx) (hs.get b' x' hx') (by rw [Mp.below_lt (hb b x hx)]; exact hg) (by rw [Mp.below_lt (hb b' x' hx')]; exact hg')
  · exact I.rel.base b x g (hs.get b x hx) (by rw [Mp.below_lt (hb b x hx)]; exact hg)

theorem same_map {H : Heap} {W' : World} {ρ' : Mp} (st : Step base ρ H W ρ' H W') : ρ' = ρ := by
  funext b
  cases hb : ρ' b with
  | none =>
    cases h : ρ b with
    | none => rfl
    | some g => rw [st.le b g h] at hb; simp at hb
  | some g =>
    rcases st.dom b g hb with h1 | h1
    · exact h1.symm
    · have := (st.rel.dom b g hb).1; omega

theorem Sub.back {E : Ev} (hd : DCut P m ops dl) (hS : ∀ (k : Nat) ao f, dl[k]? = some (ao, f) → evalDraw E N Z ao f (S k) = some (S (k + 1))) (T : Text base ops.size m Z ops dl ρ0 S) (I : DInv base m ops dl ρ0 S W0 ds L a W ρ top) {H : Heap} (hs : Sub S ops.size top H) {W' : World} (st : Step base ρ H W ρ H W') :
    Rel base (ρ.below (S top).2.next) (S top).2 W' ∧ (∀ b g, ρ b = some g → (S top).2.next ≤ b → W'.heap[g.blk]? = W.heap[g.blk]?) ∧ (∀ c, c < W0.heap.size → ¬ Hit ρ0 (S 0).2 c → W'.heap[c]? = W.heap[c]?) := by
  have hb : ∀ c x, H.get c = some x → c < (S top).2.next := fun c x h => T.live top c x I.t1 (hs.get c x h)
  refine ⟨⟨st.rel.room, fun b g h => ⟨(Mp.below_some h).1, Nat.lt_of_lt_of_le (I.rel.dom b g h).2 st.size⟩, I.rel.live, fun b x g hx hg => ?_, I.rel.inj, I.rel.base⟩, fun b g hg hge => ?_, fun c hc hn => ?_⟩
  · obtain ⟨h1, h2⟩ := Mp.below_some hg
    cases hH : H.get b with
    | some x' =>
      have := hs.get b x' hH
      rw [hx] at this; simp at this; subst this
      have hk : (∃ g, ρ0 b = some g) ∨ (S 0).2.next ≤ b := (I.dom b g h2).imp (fun h => ⟨g, h⟩) id
      obtain ⟨σ, g', W2, h4, h5⟩ := T.closed top b x I.t1 hx hk
      exact BR.below h4 (st.rel.blk b x g hH h2) h5
    | none =>
      refine BR.mono (Mp.le_refl _) (I.rel.blk b x g hx hg) (st.frame _ (I.bnd b g h2).2 ?_)
      rintro ⟨c, y, g', hy, hg', ho, e⟩
      have hne : c ≠ b := fun e' => by subst e'; rw [hH] at hy; simp at hy
      exact I.rel.inj c b y x g' g (hs.get c y hy) hx (by rw [Mp.below_lt (hb c y hy)]; exact hg') hg hne ho e
  · refine st.frame _ (I.bnd b g hg).2 ?_
    rintro ⟨c, y, g', hy, hg', ho, e⟩
    obtain ⟨i, k1, k2, k3, _, k4, k5⟩ := I.wher hd hS hg hge
    obtain ⟨g2, _, k6, _, _, _, _, k7⟩ := I.pend i b k1 k2 k3 k4 k5
    rw [hg] at k6; simp at k6; subst k6
    have := hb c y hy
    exact k7 c g' hg' (by omega) (.inl ⟨y, hs.get c y hy⟩) e
  · refine st.frame c (Nat.lt_of_lt_of_le hc I.size) ?_
    rintro ⟨c', y, g', hy, hg', ho, e⟩
    rcases I.hit0 T ⟨c', y, g', hs.get c' y hy, by rw [Mp.below_lt (hb c' y hy)]; exact hg', ho, e⟩ with h3 | h3
    · omega
    · exact hn h3

/-- An operation that turns nothing and makes nothing, seen in such a memory. -/
theorem dinv_sub {E : Ev} (hE : SoundE P E) (hd : DCut P m ops dl) (T : Text base ops.size m Z ops dl ρ0 S) (hS : ∀ (k : Nat) ao f, dl[k]? = some (ao, f) → evalDraw E N Z ao f (S k) = some (S (k + 1)))
    (I : DInv base m ops dl ρ0 S W0 ds L a W ρ top) {i : Nat} {o : Oper} (hr : Ready ops L i o) (hnb : ¬ isBar dl i) (hgap : (S (i + 1)).2 = (S i).2) {ao : AOper} {f : Md} (hk : dl[i]? = some (ao, f)) {H : Heap} (hs : Sub S ops.size top H)
    (he : evalDraw E N Z ao f ((S i).1, H) = some ((S (i + 1)).1, H)) {Q : Exit → Act → World → Prop} :
    wpOp P ops Q i (fun a' W' => ∃ ρ' top', DInv base m ops dl ρ0 S W0 ds (fun k => L k || k == i) a' W' ρ' top') a W := by
  obtain ⟨o', ho', hc⟩ := hd.cut i _ _ hk
  rw [hr.op] at ho'; simp at ho'; subst ho'
  refine draw_step hE hc hr.op (fun h => hd.quiet i ao (by rw [← h]; exact hk)) he (hs.rel T I) (a := a) (fun sl hsl v hv => I.tmp sl v (look_cur hd T I.cl hr.op hr.not (hr.ahead I.cl) hsl hv)) fun v v' ρ' W' h1 h2 st _ _ => ⟨ρ, top, ?_⟩
  have hρ := same_map st
  subst hρ
  obtain ⟨b1, b2, b3⟩ := hs.back hd hS T I st
  exact dinv_same hd T I hr hnb (by rw [hgap]) h1 h2 hc.lt b1 b2 b3 st.size st.same

/-- A free operation. -/
theorem dinv_free {E : Ev} (hE : SoundE P E) (hd : DCut P m ops dl) (T : Text base ops.size m Z ops dl ρ0 S) (hS : ∀ (k : Nat) ao f, dl[k]? = some (ao, f) → evalDraw E N Z ao f (S k) = some (S (k + 1)))
    (I : DInv base m ops dl ρ0 S W0 ds L a W ρ top) {i : Nat} {o : Oper} (hr : Ready ops L i o) (hf : ¬ nonFree dl i) (hq : ¬ isQ dl i) {Q : Exit → Act → World → Prop} :
    wpOp P ops Q i (fun a' W' => ∃ ρ' top', DInv base m ops dl ρ0 S W0 ds (fun k => L k || k == i) a' W' ρ' top') a W := by
  have hi : i < ops.size := (Array.getElem?_eq_some_iff.1 hr.op).1
  have hlt : i < dl.length := by rw [hd.len]; exact hi
  have hk := List.getElem?_eq_getElem hlt
  have hfree : dl[i].1.op.free = true := by
    cases h : dl[i].1.op.free with
    | true => rfl
    | false => exact absurd ⟨dl[i], hk, h, fun e => hq ⟨dl[i].1, by rw [← e]; exact hk⟩⟩ hf
  have hp := hd.fre i dl[i].1 dl[i].2 hk hfree
  have hk' : dl[i]? = some (dl[i].1, Md.plain) := by rw [hk, ← hp]
  obtain ⟨hgap, he⟩ := draw_free hfree (hS i _ _ hk') ⟨(S ops.size).2.next, .nil, 0⟩
  exact dinv_sub hE hd T hS I hr (fun h => hf (bar_nonFree h)) hgap hk' (H := ⟨(S ops.size).2.next, .nil, 0⟩) ⟨rfl, fun c x h => by simp [Heap.get, Tr.get] at h⟩ he

/-- What stands in no fixed order to a quiet operation is marked. -/
theorem quiet_marks (hd : DCut P m ops dl) (I : DInv base m ops dl ρ0 S W0 ds L a W ρ top) {i : Nat} {o : Oper} (hr : Ready ops L i o) {ao : AOper} (hq : dl[i]? = some (ao, .quiet)) :
    ∀ (k : Nat) p, ((top ≤ k ∧ k < i) ∨ (i ≤ k ∧ k < top)) → dl[k]? = some p → isB p → p.2 = .mark := by
  intro k p hki hk hB
  by_cases hne : k = i
  · subst hne; rw [hq] at hk; simp at hk; subst hk; rcases hB.2 with e | e <;> simp at e
  rcases hd.mark k i p ao hk hB hq with h | ⟨h1, h2⟩
  · exact h
  · exfalso
    rcases hki with ⟨h3, h4⟩ | ⟨h3, h4⟩
    · have hL := hr.ahead I.cl k (h2 h4)
      have hi : i < ops.size := (Array.getElem?_eq_some_iff.1 hr.op).1
      have ht := I.t3 (by omega)
      by_cases e : k = top
      · subst e; rw [ht.2] at hL; simp at hL
      · have := (bar_order hd I.cl ⟨p, hk, hB⟩ (bar_nonFree ht.1)).1 (by omega) hL
        rw [ht.2] at this; simp at this
    · have hL := I.t2 k h4 ⟨p, hk, hB⟩
      have := ahead_listed I.cl k i hL (h1 (by omega))
      rw [hr.not] at this; simp at this

theorem quiet_stay (hd : DCut P m ops dl) (T : Text base ops.size m Z ops dl ρ0 S) (I : DInv base m ops dl ρ0 S W0 ds L a W ρ top) {i : Nat} {o : Oper} (hr : Ready ops L i o) {ao : AOper} (hq : dl[i]? = some (ao, .quiet))
    {b : Nat} {x : ABlk} (hz : Z.testBit b = true) (hb0 : b < (S 0).2.next) (hx : (S i).2.get b = some x) : (S top).2.get b = some x := by
  have hi : i < ops.size := (Array.getElem?_eq_some_iff.1 hr.op).1
  have hM := quiet_marks hd I hr hq
  rcases Nat.lt_or_ge top i with h | h
  · -- behind the barrier
    have := T.next 0 top (Nat.zero_le _) I.t1
    rw [← T.stay hd.len.symm top i (by omega) (by omega) (fun k p h1 h2 => hM k p (.inl ⟨h1, h2⟩)) b hz (by omega)]; exact hx
  · rw [T.stay hd.len.symm i top h I.t1 (fun k p h1 h2 => hM k p (.inr ⟨h1, h2⟩)) b hz (T.live i b x (by omega) hx)]; exact hx

end Go.Proofs.Ytofaiipohmeelaa.Am
