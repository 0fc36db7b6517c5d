/-
  The abstract machine: quiet operations, in any order.
-/
import Derived.Test.YtofaiipohmeelaaAmInv2
namespace Go.Proofs.Ytofaiipohmeelaa.Am
variable {P : Program} {base : Nat} {m Z N : Nat} {ops : Array Oper} {dl : List (AOper × Md)} {ρ0 : Mp} {S : Nat → St} {W0 : World} {ds : List Deferred} {L : Nat → Bool} {a : Act} {W : World} {ρ : Mp} {top : Nat}

theorem load_draw {E : Ev} {ao : AOper} {x : AX} {n : Nat} {agg : Bool} (hop : ao.op = .load x n agg) {s s1 : St} (e : evalDraw E N Z ao .quiet s = some s1) :
    s1.2 = s.2 ∧ ((∀ H, evalDraw E N Z ao .quiet (s.1, H) = some (s1.1, H)) ∨ ∃ b y, s.2.get b = some y ∧ Z.testBit b = true ∧ b < N ∧ ∀ H : Heap, H.get b = some y → evalDraw E N Z ao .quiet (s.1, H) = some (s1.1, H)) := by
  obtain ⟨dst, op, guard⟩ := ao
  simp only at hop; subst hop
  simp only [evalDraw, quietZ, evalOper] at e ⊢
  cases hg : guardOk s.1 guard with
  | none => simp [hg] at e
  | some w =>
    cases w with
    | false =>
      simp only [hg] at e ⊢
      obtain ⟨hz, e⟩ := cond_some e
      simp only [Option.some.injEq] at e; subst e
      exact ⟨rfl, .inl fun H => by rw [hz]; rfl⟩
    | true =>
      simp only [hg] at e ⊢
      split at e
      · rename_i z hz
        split at hz
        · rename_i b off hp
          obtain ⟨hlt, hz⟩ := cond_some hz
          simp only [Option.some.injEq] at hz; subst hz
          obtain ⟨hsub, e⟩ := cond_some e
          simp only [evalOp, AOp.acts, cond_false, evalR, hp, Heap.load] at e ⊢
          split at e
          · rename_i v h1 hv
            simp only [Option.some.injEq] at e; subst e
            cases hb : s.2.get b with
            | none => simp [hb] at hv
            | some y =>
              rw [hb] at hv
              simp only [Option.map_eq_some_iff, Prod.mk.injEq] at hv
              obtain ⟨u, hu, rfl, rfl⟩ := hv
              refine ⟨rfl, .inr ⟨b, y, hb, lor_sub hsub b ?_, ?_, fun H hH => ?_⟩⟩
              · show (2 ^ b).testBit b = true
                rw [Nat.testBit_two_pow]; simp
              · exact Nat.le_of_ble_eq_true hlt
              · rw [hsub, hH, hu]
                rfl
          · simp at e
        · simp at hz
      · simp at e

theorem alloc_draw {E : Ev} {ao : AOper} {cells : List AV} {ty : TypeId} (hop : ao.op = .alloc cells ty) {s s1 : St} (e : evalDraw E N Z ao .quiet s = some s1) :
    (s1.2 = s.2 ∧ ∀ H, evalDraw E N Z ao .quiet (s.1, H) = some (s1.1, H)) ∨
    (∃ x, s1.2 = s.2.new x ∧ ownB x = true ∧ Z.testBit s.2.next = true ∧ ∀ H : Heap, H.next = s.2.next → evalDraw E N Z ao .quiet (s.1, H) = some (s1.1, H.new x)) := by
  obtain ⟨dst, op, guard⟩ := ao
  simp only at hop; subst hop
  simp only [evalDraw, quietZ, evalOper] at e ⊢
  cases hg : guardOk s.1 guard with
  | none => simp [hg] at e
  | some w =>
    cases w with
    | false =>
      simp only [hg] at e ⊢
      obtain ⟨hz, e⟩ := cond_some e
      simp only [Option.some.injEq] at e; subst e
      exact .inl ⟨rfl, fun H => by rw [hz]; rfl⟩
    | true =>
      simp only [hg] at e ⊢
      obtain ⟨hz, e⟩ := cond_some e
      split at e
      · rename_i v h1 hv
        simp only [Option.some.injEq] at e; subst e
        obtain ⟨x, rfl, rfl, ho, hall⟩ := alloc_old hv
        refine .inr ⟨x, rfl, ho, lor_sub hz _ ?_, fun H hH => ?_⟩
        · show (2 ^ s.2.next).testBit s.2.next = true
          rw [Nat.testBit_two_pow]; simp
        · rw [hH, hz, hall H]
          simp only [cond_true, hH]
      · simp at e

theorem below_put_ge {b n : Nat} {g : G} (h : n ≤ b) : (ρ.put b g).below n = ρ.below n := by
  funext c
  unfold Mp.below Mp.put
  split
  · rw [if_neg (by omega)]
  · rfl

theorem Rel.world {h : Heap} {W' : World} (r : Rel base ρ h W) (hw : ∀ c, c < W.heap.size → W'.heap[c]? = W.heap[c]?) (hsz : W.heap.size ≤ W'.heap.size) : Rel base ρ h W' :=
  ⟨Nat.le_trans r.room hsz, fun b g hb => ⟨(r.dom b g hb).1, Nat.lt_of_lt_of_le (r.dom b g hb).2 hsz⟩, r.live, fun b x g hx hg => BR.mono (Mp.le_refl ρ) (r.blk b x g hx hg) (hw _ (r.dom b g hg).2), r.inj, r.base⟩

theorem not_bar_quiet {i : Nat} {ao : AOper} (hq : dl[i]? = some (ao, .quiet)) : ¬ isBar dl i := by
  rintro ⟨p, h1, h2⟩
  rw [hq] at h1; simp at h1; subst h1
  rcases h2.2 with e | e <;> simp at e

/-- A new variable. -/
theorem dinv_make {E : Ev} (hE : SoundE P E) (hd : DCut P m ops dl) (T : Text base ops.size m Z ops dl ρ0 S)
    (I : DInv base m ops dl ρ0 S W0 ds L a W ρ top) {i : Nat} {o : Oper} (hr : Ready ops L i o) {ao : AOper} (hq : dl[i]? = some (ao, .quiet)) {x : ABlk} (hmade : (S (i + 1)).2 = (S i).2.new x) (hox : ownB x = true) (hz : Z.testBit (S i).2.next = true)
    (he : ∀ H : Heap, H.next = (S i).2.next → evalDraw E N Z ao .quiet ((S i).1, H) = some ((S (i + 1)).1, H.new x)) {Q : Exit → Act → World → Prop} :
    wpOp P ops Q i (fun a' W' => ∃ ρ' top', DInv base m ops dl ρ0 S W0 ds (fun k => L k || k == i) a' W' ρ' top') a W := by
  have hi : i < ops.size := (Array.getElem?_eq_some_iff.1 hr.op).1
  obtain ⟨o', ho', hc⟩ := hd.cut i _ _ hq
  rw [hr.op] at ho'; simp at ho'; subst ho'
  have hn1 : (S (i + 1)).2.next = (S i).2.next + 1 := by rw [hmade]; rfl
  have hx1 : (S (i + 1)).2.get (S i).2.next = some x := by rw [hmade, Heap.get_new, if_pos rfl]
  have n0i := T.next 0 i (Nat.zero_le _) (by omega)
  have n1n := T.next (i + 1) ops.size (by omega) (Nat.le_refl _)
  have hnone : ∀ g, ρ (S i).2.next ≠ some g := fun g hg => I.ex _ g i hg hi hr.not ⟨Nat.le_refl _, by omega⟩
  have r0 : Rel base (ρ.below (S i).2.next) ⟨(S i).2.next, .nil, 0⟩ W :=
    ⟨I.rel.room, fun b g hb => ⟨(Mp.below_some hb).1, (I.bnd b g (Mp.below_some hb).2).2⟩, fun b y hy => by simp [Heap.get, Tr.get] at hy, fun b y g hy => by simp [Heap.get, Tr.get] at hy, fun b b' y y' g g' hy => by simp [Heap.get, Tr.get] at hy, fun b y g hy => by simp [Heap.get, Tr.get] at hy⟩
  have noHit : ∀ c, ¬ Hit (ρ.below (S i).2.next) ⟨(S i).2.next, .nil, 0⟩ c := by
    rintro c ⟨b, y, g, hy, _⟩; simp [Heap.get, Tr.get] at hy
  refine draw_step hE hc hr.op (fun _ => hd.quiet i ao hq) (he ⟨(S i).2.next, .nil, 0⟩ rfl) r0 (a := a) (fun sl hsl v hv => ?_) fun v v' ρ1 W' h1 h2 st _ _ => ?_
  · obtain ⟨v', w1, w2⟩ := I.tmp sl v (look_cur hd T I.cl hr.op hr.not (hr.ahead I.cl) hsl hv)
    obtain ⟨σ, u, w3, w4⟩ := T.sclosed i sl v (by omega) hv
    exact ⟨v', w1, VR.below w3 v _ _ w2 w4⟩
  have hxH : ((⟨(S i).2.next, .nil, 0⟩ : Heap).new x).get (S i).2.next = some x := by rw [Heap.get_new, if_pos rfl]
  obtain ⟨_, g1, hg1⟩ := st.mapd _ x hxH (Nat.le_refl _)
  have hbr1 := st.rel.blk _ x g1 hxH hg1
  have hbase1 := st.rel.base _ x g1 hxH hg1 hox
  have hdom1 := (st.rel.dom _ g1 hg1).2
  have hfr1 : W.heap.size ≤ g1.blk := (st.fresh _ x g1 hxH hg1 (Nat.le_refl _) hox).resolve_right (noHit _)
  have hw : ∀ c, c < W.heap.size → W'.heap[c]? = W.heap[c]? := fun c hc' => st.frame c hc' (noHit c)
  have le' : ρ.le (ρ.put (S i).2.next g1) := by
    intro b g hb
    rw [put_old _ _ (fun e => by subst e; exact hnone g hb)]; exact hb
  have le1 : ρ1.le (ρ.put (S i).2.next g1) := by
    intro b g hb
    rcases st.dom b g hb with h3 | h3
    · exact le' b g (Mp.below_some h3).2
    · have h4 := (st.rel.dom b g hb).1
      have : b = (S i).2.next := by simp only [Heap.new] at h3 h4; omega
      subst this
      rw [hg1] at hb; simp at hb; subst hb
      exact Mp.put_self _ _ _
  have old : ∀ b g, (ρ.put (S i).2.next g1) b = some g → (b = (S i).2.next ∧ g = g1) ∨ (b ≠ (S i).2.next ∧ ρ b = some g) := by
    intro b g hb
    by_cases e : b = (S i).2.next
    · subst e; rw [Mp.put_self] at hb; simp at hb; exact .inl ⟨rfl, hb.symm⟩
    · rw [put_old _ _ e] at hb; exact .inr ⟨e, hb⟩
  have rel' : Rel base ((ρ.put (S i).2.next g1).below (S top).2.next) (S top).2 W' := by
    rcases Nat.lt_or_ge i top with h3 | h3
    · have hxt : (S top).2.get (S i).2.next = some x := by
        rw [T.stay hd.len.symm (i + 1) top h3 I.t1 (fun k p h4 h5 => quiet_marks hd I hr hq k p (.inr ⟨by omega, h5⟩)) _ hz (by omega)]; exact hx1
      have rw' := I.rel.world hw st.size
      refine ⟨rw'.room, fun b g hb => ?_, rw'.live, fun b y g hy hg => ?_, fun b b' y y' g g' hy hy' hg hg' hne ho => ?_, fun b y g hy hg ho => ?_⟩
      · obtain ⟨h4, h5⟩ := Mp.below_some hb
        rcases old b g h5 with ⟨_, rfl⟩ | ⟨_, h6⟩
        · exact ⟨h4, hdom1⟩
        · exact ⟨h4, Nat.lt_of_lt_of_le (I.bnd b g h6).2 st.size⟩
      · obtain ⟨h4, h5⟩ := Mp.below_some hg
        rcases old b g h5 with ⟨rfl, rfl⟩ | ⟨_, h6⟩
        · rw [hxt] at hy; simp at hy; subst hy
          obtain ⟨σ, g', W2, h7, h8⟩ := T.closed top _ x I.t1 hxt (.inr (by omega))
          exact BR.below h7 (BR.mono le1 hbr1 rfl) h8
        · refine BR.mono (fun c g2 hc2 => ?_) (rw'.blk b y g hy (by rw [Mp.below_lt h4]; exact h6)) rfl
          obtain ⟨h9, h10⟩ := Mp.below_some hc2
          rw [Mp.below_lt h9]; exact le' c g2 h10
      · obtain ⟨h4, h5⟩ := Mp.below_some hg
        obtain ⟨h6, h7⟩ := Mp.below_some hg'
        rcases old b g h5 with ⟨rfl, rfl⟩ | ⟨_, h8⟩
        · rcases old b' g' h7 with ⟨rfl, rfl⟩ | ⟨_, h9⟩
          · exact absurd rfl hne
          · have := (I.bnd b' g' h9).2; omega
        · rcases old b' g' h7 with ⟨rfl, rfl⟩ | ⟨_, h9⟩
          · have := (I.bnd b g h8).2; omega
          · exact rw'.inj b b' y y' g g' hy hy' (by rw [Mp.below_lt h4]; exact h8) (by rw [Mp.below_lt h6]; exact h9) hne ho
      · obtain ⟨h4, h5⟩ := Mp.below_some hg
        rcases old b g h5 with ⟨rfl, rfl⟩ | ⟨_, h8⟩
        · exact hbase1
        · exact rw'.base b y g hy (by rw [Mp.below_lt h4]; exact h8) ho
    · have := T.next top i h3 (by omega)
      rw [below_put_ge this]
      exact I.rel.world hw st.size
  refine ⟨_, top, cl_more I.cl hr, I.t1, fun k h3 h4 => by simp [I.t2 k h3 h4], fun h3 => ⟨(I.t3 h3).1, ?_⟩, rel', fun b g hb => ?_, fun b g k hb hk hL hh => ?_, fun b y k hk hL h3 h4 hx => ?_,
    fun i' b h3 h4 hL h5 h6 => ?_, by rw [put_size]; exact I.tsz, cur_put hd T hr.op le' hc.lt I.tsz I.tmp h1 (VR.mono le1 _ _ h2), by rw [put_defers']; exact I.dfr, Mp.le_trans I.le le', fun b g hb => ?_, Nat.le_trans I.size st.size,
    ⟨st.same.1.trans I.same.1, st.same.2.1.trans I.same.2.1, st.same.2.2.trans I.same.2.2⟩, fun c hc' hn => (hw c (Nat.lt_of_lt_of_le hc' I.size)).trans (I.frame c hc' hn), fun b y g hy hg hb => ?_⟩
  · have h5 := I.t3 h3
    have hne : top ≠ i := fun e => not_bar_quiet hq (by rw [← e]; exact h5.1)
    simp [h5.2, hne]
  · rcases old b g hb with ⟨rfl, rfl⟩ | ⟨_, h3⟩
    · exact ⟨by omega, hdom1⟩
    · exact ⟨(I.bnd b g h3).1, Nat.lt_of_lt_of_le (I.bnd b g h3).2 st.size⟩
  · obtain ⟨hL1, hne⟩ := or_eq hL
    rcases old b g hb with ⟨rfl, rfl⟩ | ⟨_, h3⟩
    · rcases Nat.lt_or_ge k i with h7 | h7
      · have := T.next (k + 1) i (by omega) (by omega); omega
      · have := T.next (i + 1) k (by omega) (by omega); omega
    · exact I.ex b g k h3 hk hL1 hh
  · simp only [Bool.or_eq_true, beq_iff_eq] at hL
    rcases hL with hL | rfl
    · obtain ⟨g, hg⟩ := I.md b y k hk hL h3 h4 hx
      exact ⟨g, le' b g hg⟩
    · have : b = (S k).2.next := by omega
      subst this; exact ⟨g1, Mp.put_self _ _ _⟩
  · simp only [Bool.or_eq_true, beq_iff_eq] at hL
    rcases hL with hL | rfl
    · obtain ⟨g, y, k1, k2, k3, k4, k5, k6⟩ := I.pend i' b h3 h4 hL h5 h6
      have hgs := (I.bnd b g k1).2
      refine ⟨g, y, le' b g k1, k2, BR.mono le' k3 (hw _ hgs), k4, k5, fun b' g' hb' hne hh => ?_⟩
      rcases old b' g' hb' with ⟨rfl, rfl⟩ | ⟨_, h7⟩
      · omega
      · exact k6 b' g' h7 hne hh
    · have : b = (S i').2.next := by omega
      subst this
      refine ⟨g1, x, Mp.put_self _ _ _, hx1, BR.mono le1 hbr1 rfl, hbase1, Nat.le_trans I.size hfr1, fun b' g' hb' hne _ => ?_⟩
      rcases old b' g' hb' with ⟨rfl, _⟩ | ⟨_, h7⟩
      · exact absurd rfl hne
      · have := (I.bnd b' g' h7).2; omega
  · rcases old b g hb with ⟨rfl, _⟩ | ⟨_, h3⟩
    · exact .inr n0i
    · exact I.dom b g h3
  · rcases old b g hg with ⟨rfl, rfl⟩ | ⟨_, h3⟩
    · exact .inl (Nat.le_trans I.size hfr1)
    · exact I.fresh b y g hy h3 hb

theorem get_one (n b : Nat) (x : ABlk) (c : Nat) : (⟨n, Tr.nil.put b (some x), 0⟩ : Heap).get c = if b = c then some x else none := by
  unfold Heap.get
  rw [Tr.get_put]
  split
  · rfl
  · rfl

/-- A quiet operation. -/
theorem dinv_quiet {E : Ev} (hE : SoundE P E) (hd : DCut P m ops dl) (T : Text base ops.size m Z ops dl ρ0 S) (hS : ∀ (k : Nat) ao f, dl[k]? = some (ao, f) → evalDraw E N Z ao f (S k) = some (S (k + 1))) (hN : N ≤ (S 0).2.next)
    (I : DInv base m ops dl ρ0 S W0 ds L a W ρ top) {i : Nat} {o : Oper} (hr : Ready ops L i o) (hq : isQ dl i) {Q : Exit → Act → World → Prop} :
    wpOp P ops Q i (fun a' W' => ∃ ρ' top', DInv base m ops dl ρ0 S W0 ds (fun k => L k || k == i) a' W' ρ' top') a W := by
  obtain ⟨ao, hq⟩ := hq
  have hopq := hd.quiet i ao hq
  have he := hS i ao _ hq
  have empty : ∀ (_ : (S (i + 1)).2 = (S i).2) (_ : ∀ H, evalDraw E N Z ao .quiet ((S i).1, H) = some ((S (i + 1)).1, H)),
      wpOp P ops Q i (fun a' W' => ∃ ρ' top', DInv base m ops dl ρ0 S W0 ds (fun k => L k || k == i) a' W' ρ' top') a W := fun h1 h2 =>
    dinv_sub hE hd T hS I hr (not_bar_quiet hq) h1 hq (H := ⟨(S ops.size).2.next, .nil, 0⟩) ⟨rfl, fun c x h => by simp [Heap.get, Tr.get] at h⟩ (h2 _)
  cases hop : ao.op with
  | load x n agg =>
    obtain ⟨h1, h2⟩ := load_draw hop he
    rcases h2 with h2 | ⟨b, y, h3, h4, h5, h6⟩
    · exact empty h1 h2
    · refine dinv_sub hE hd T hS I hr (not_bar_quiet hq) h1 hq (H := ⟨(S ops.size).2.next, Tr.nil.put b (some y), 0⟩) ⟨rfl, fun c x' h => ?_⟩ (h6 _ (by rw [get_one, if_pos rfl]))
      rw [get_one] at h
      split at h
      · rename_i e; subst e; simp at h; subst h; exact quiet_stay hd T I hr hq h4 (by omega) h3
      · simp at h
  | alloc cells ty =>
    rcases alloc_draw hop he with ⟨h1, h2⟩ | ⟨x, h1, h2, h3, h4⟩
    · exact empty h1 h2
    · exact dinv_make hE hd T I hr hq h1 h2 h3 h4
  | _ => rw [hop] at hopq; simp [AOp.isQuiet] at hopq

end Go.Proofs.Ytofaiipohmeelaa.Am
