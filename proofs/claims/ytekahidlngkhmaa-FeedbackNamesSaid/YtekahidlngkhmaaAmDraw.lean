/-
  The abstract machine: the text's run of a region whose order is open.
-/
import Derived.Test.YtekahidlngkhmaaAmAhead
namespace Go.Proofs.Ytekahidlngkhmaa.Am
variable {P : Program} {base : Nat} {ρ : Mp} {h : Heap} {W : World}

def Same (h h' : Heap) : Prop := h.next = h'.next ∧ h.blks = h'.blks

theorem Same.get {h h' : Heap} (s : Same h h') (b : Nat) : h.get b = h'.get b := by unfold Heap.get; rw [s.2]

theorem Rel.congr {h' : Heap} (r : Rel base ρ h W) (e : Same h h') : Rel base ρ h' W :=
  ⟨r.room, fun b g hb => by rw [← e.1]; exact r.dom b g hb, fun b x hb => by rw [← e.1]; rw [← e.get] at hb; exact r.live b x hb, fun b x g hb hg => by rw [← e.get] at hb; exact r.blk b x g hb hg,
    fun b b' x x' g g' hb hb' => by rw [← e.get] at hb hb'; exact r.inj b b' x x' g g' hb hb', fun b x g hb => by rw [← e.get] at hb; exact r.base b x g hb⟩

theorem Hit.congr {h' : Heap} (e : Same h h') {c : Nat} (hh : Hit ρ h c) : Hit ρ h' c := by
  obtain ⟨b, x, g, h1, h2⟩ := hh
  exact ⟨b, x, g, by rw [← e.get]; exact h1, h2⟩

theorem Same.symm {h h' : Heap} (e : Same h h') : Same h' h := ⟨e.1.symm, e.2.symm⟩

/-- A step whose low mark was laid anew, and is laid back. -/
theorem Step.relaid {ρ' : Mp} {h0 h1 h0' h1' : Heap} {W' : World} (s : Step base ρ h0 W ρ' h1 W') (e0 : Same h0 h0') (e1 : Same h1 h1') (hlo : h0.next ≤ h1.lo) (hl : h1'.lo = h0'.lo) : Step base ρ h0' W ρ' h1' W' where
  le := s.le
  rel := s.rel.congr e1
  dom := fun b g hb => by rw [← e0.1]; exact s.dom b g hb
  next := by rw [← e0.1, ← e1.1]; exact s.next
  size := s.size
  keep := fun b x hb hx => by rw [← e1.get] at hx; rw [← e0.1] at hb; obtain ⟨y, h2, h3⟩ := s.keep b x hb hx; exact ⟨y, by rw [← e0.get]; exact h2, h3⟩
  frame := fun c hc hn => s.frame c hc fun hh => hn (hh.congr e0)
  fresh := fun b x g hx hg hb ho => by rw [← e1.get] at hx; rw [← e0.1] at hb; exact (s.fresh b x g hx hg hb ho).imp id (Hit.congr e0)
  same := s.same
  low := fun b _ hb => by rw [← e0.1] at hb; rw [← e1.get, ← e0.get]; exact s.low b (by omega) hb
  lows := by omega
  mapd := fun b x hx hb => by rw [← e1.get] at hx; rw [← e0.1] at hb; exact s.mapd b x hx hb

theorem evalDraw_spec {E : Ev} {ao : AOper} {f : Bool} {s s1 : St} (e : evalDraw E ao f s = some s1) :
    ∃ v, s1.1 = putDst s.1 ao.dst v ∧ ((guardOk s.1 ao.guard = some false ∧ v = .tup [] ∧ Same s.2 s1.2 ∧ s1.2.lo = s.2.lo) ∨
      (guardOk s.1 ao.guard = some true ∧ ∃ hk h1, Same s.2 hk ∧ Same h1 s1.2 ∧ evalOp E hk (evalX s.1) ao.op = some (v, h1) ∧
        ((hk = s.2 ∧ h1 = s1.2 ∧ (f && ao.op.acts) = false) ∨ (hk.next ≤ h1.lo ∧ s1.2.lo = s.2.lo)))) := by
  have plain : ∀ (s s1 : St), evalOper E ao s = some s1 → ∃ v, s1.1 = putDst s.1 ao.dst v ∧ ((guardOk s.1 ao.guard = some false ∧ v = .tup [] ∧ s1.2 = s.2) ∨
      (guardOk s.1 ao.guard = some true ∧ evalOp E s.2 (evalX s.1) ao.op = some (v, s1.2))) := by
    intro s s1 e
    simp only [evalOper] at e
    cases hg : guardOk s.1 ao.guard with
    | none => simp [hg] at e
    | some b =>
      cases b with
      | true =>
        simp only [hg] at e
        split at e
        · rename_i v h1 hv
          simp only [Option.some.injEq] at e; subst e
          exact ⟨v, rfl, .inr ⟨rfl, hv⟩⟩
        · simp at e
      | false =>
        simp only [hg, Option.some.injEq] at e; subst e
        exact ⟨_, rfl, .inl ⟨rfl, rfl, rfl⟩⟩
  unfold evalDraw at e
  cases hf : (f && ao.op.acts) with
  | false =>
    rw [hf] at e; simp only [cond_false] at e
    obtain ⟨v, h1, h2⟩ := plain s s1 e
    refine ⟨v, h1, h2.imp (fun ⟨a, b, c⟩ => ⟨a, b, by rw [c]; exact ⟨rfl, rfl⟩, by rw [c]⟩) fun ⟨a, b⟩ => ⟨a, s.2, s1.2, ⟨rfl, rfl⟩, ⟨rfl, rfl⟩, b, .inl ⟨rfl, rfl, rfl⟩⟩⟩
  | true =>
    rw [hf] at e; simp only [cond_true] at e
    split at e
    · rename_i t1 h1 he
      cases hlo : Nat.ble s.2.next h1.lo with
      | false => simp [hlo] at e
      | true =>
        simp only [hlo, cond_true, Option.some.injEq] at e; subst e
        have hlo := Nat.le_of_ble_eq_true hlo
        obtain ⟨v, h2, h3⟩ := plain _ _ he
        refine ⟨v, h2, h3.imp (fun ⟨a, b, c⟩ => ⟨a, b, by simp only at c; subst c; exact ⟨rfl, rfl⟩, rfl⟩) fun ⟨a, b⟩ => ⟨a, ⟨s.2.next, s.2.blks, s.2.next⟩, h1, ⟨rfl, rfl⟩, ⟨rfl, rfl⟩, b, .inr ⟨hlo, rfl⟩⟩⟩
    · simp at e

/-- An operation of such a region, on both sides, out of its own state in the text's run. -/
theorem draw_step {E : Ev} (hE : SoundE P E) {m k : Nat} {ops : Array Oper} {o : Oper} {ao : AOper} {f : Bool} (hc : OperCut P m ops o ao) (ho : ops[k]? = some o) {s s1 : St} (e : evalDraw E ao f s = some s1)
    (r : Rel base ρ s.2 W) {a : Act} (henv : ∀ sl ∈ looks ops o, ∀ v, s.1.get sl = some v → ∃ v', a.tmps[sl]? = some v' ∧ VR ρ v v') {K : Act → World → Prop} {Q : Exit → Act → World → Prop}
    (hK : ∀ v v' ρ' W', s1.1 = putDst s.1 o.dst v → VR ρ' v v' → Step base ρ s.2 W ρ' s1.2 W' → ((f = true ∨ ao.op.acts = false) → ∀ b, b < s.2.next → s1.2.get b = s.2.get b) → K (a.put o.dst v') W') : wpOp P ops Q k K a W := by
  obtain ⟨v, h1, h2⟩ := evalDraw_spec e
  have hg0 : ∀ s0 want v, ao.guard = some (s0, want) → s.1.get s0 = some v → ∃ v', a.tmps[s0]? = some v' ∧ VR ρ v v' := by
    intro s0 want v hgd hv
    refine henv s0 ?_ v hv
    have hcg := hc.guard
    rw [hgd] at hcg
    unfold cGuard at hcg
    split at hcg
    · simp at hcg
    · rename_i j want' hog
      split at hcg
      · rename_i s1 hs1
        simp only [Option.some.injEq, Prod.mk.injEq] at hcg
        obtain ⟨rfl, rfl⟩ := hcg
        unfold looks
        rw [hog]
        exact List.mem_append_right _ (by simp [hs1])
      · simp at hcg
  unfold wpOp
  rw [ho]
  rcases h2 with ⟨hg, rfl, hsm, hlo⟩ | ⟨hg, hk, h1', e0, e1, hv, hlo⟩
  · have hw := guard_sound (P := P) (ρ := ρ) hc hg0 hg
    simp only [hw, Bool.false_eq_true, if_false]
    have st : Step base ρ s.2 W ρ s1.2 W := by
      have r1 := r.congr hsm
      refine ⟨Mp.le_refl ρ, r1, fun _ _ h => .inl h, by rw [← hsm.1]; exact Nat.le_refl _, Nat.le_refl _, fun b x hb hx => ⟨x, by rw [hsm.get]; exact hx, rfl⟩, fun _ _ _ => rfl, fun b x g hx hg hb _ => ?_, ⟨rfl, rfl, rfl⟩, fun b _ _ => (hsm.get b).symm, by rw [hlo]; exact Nat.le_refl _, fun b x hx hb => ?_⟩
      · have := r1.live b x hx; rw [← hsm.1] at this; omega
      · have := r1.live b x hx; rw [← hsm.1] at this; omega
    exact hK (.tup []) undef ρ W (by rw [h1, hc.dst]) ⟨#[], rfl, rfl⟩ st (fun _ b _ => (hsm.get b).symm)
  · have hw := guard_sound (P := P) (ρ := ρ) hc hg0 hg
    simp only [hw, if_true]
    refine .inl (oper_wp hE (r.congr e0) hc.op (fun x hx ax hax => ?_) (fun _ => rfl) hv fun v' ρ' W' hv' st => ?_)
    · cases x with
      | tmp i =>
        simp only [cX, Option.some.injEq] at hax; subst hax
        simp only [evalX, Act.eval]
        cases hgt : s.1.get i with
        | none => simp [VR]
        | some u =>
          have hlk : i ∈ looks ops o := by
            unfold looks
            exact List.mem_append_left _ (List.mem_filterMap.2 ⟨.tmp i, hx, rfl⟩)
          obtain ⟨u', w1, w2⟩ := henv i hlk u hgt
          simp only [Option.getD_some, Array.getD_eq_getD_getElem?, w1]; exact w2
      | const z =>
        simp only [cX, Option.map_eq_some_iff] at hax
        obtain ⟨z', hz, rfl⟩ := hax
        exact av_sound ρ _ _ _ hz
      | global g => simp [cX] at hax
      | func f => simp only [cX, Option.some.injEq] at hax; subst hax; exact ⟨_, _, rfl, rfl, rfl⟩
    · rcases hlo with ⟨rfl, rfl, hfa⟩ | ⟨hlo, hl⟩
      · refine hK v v' ρ' W' (by rw [h1, hc.dst]) hv' st fun hh => ?_
        have hact : ao.op.acts = false := by
          rcases hh with rfl | hh
          · simpa using hfa
          · exact hh
        unfold evalOp at hv
        rw [hact] at hv
        simp only [cond_false, Option.map_eq_some_iff, Prod.mk.injEq] at hv
        obtain ⟨_, _, _, h5⟩ := hv
        intro b _; rw [← h5]
      · refine hK v v' ρ' W' (by rw [h1, hc.dst]) hv' (st.relaid e0.symm e1 hlo hl) fun _ b hb => ?_
        rw [← e1.get, e0.get]
        exact st.low b (by rw [e0.1] at hb; omega) (by rw [← e0.1]; exact hb)

/-- What a walk comes to, where it may end in no other way. -/
theorem wpOp_ex {ops : Array Oper} {i : Nat} {K : Act → World → Prop} {a : Act} {W : World} (hw : wpOp P ops (fun _ _ _ => False) i K a W) : ∃ a' W', K a' W' := by
  unfold wpOp at hw
  split at hw
  · exact ⟨_, _, hw⟩
  · split at hw
    · rcases hw with hw | ⟨_, _, _, hf⟩
      · unfold Oper.wp at hw
        rename_i o _ _
        generalize (execOp a.eval o).run P W = res at hw
        unfold Oper.upon at hw
        split at hw
        · exact ⟨_, _, hw⟩
        · exact ⟨_, _, hw⟩
        · exact ⟨_, _, hw⟩
        · obtain ⟨e, w', fr, hR, _⟩ := hw []
          cases e with
          | returned v => exact ⟨_, _, hR⟩
          | panicked c => exact hR.elim
          | outgrown => obtain ⟨_, _, hf⟩ := hR; exact hf.elim
        · obtain ⟨v, w', hR, _⟩ := hw default []
          exact ⟨_, _, hR⟩
        · exact hw.elim
        · exact hw.elim
      · exact hf.elim
    · exact ⟨_, _, hw⟩

theorem draws_run {E : Ev} : ∀ (dl : List (AOper × Bool)) (s s' : St), evalDraws E dl s = some s' → ∃ S : Nat → St, S 0 = s ∧ S dl.length = s' ∧ ∀ (k : Nat) ao f, dl[k]? = some (ao, f) → evalDraw E ao f (S k) = some (S (k + 1))
  | [], s, s', e => by
    simp only [evalDraws, Option.some.injEq] at e; subst e
    exact ⟨fun _ => s, rfl, rfl, fun k ao f hk => by simp at hk⟩
  | (ao, f) :: dl, s, s', e => by
    simp only [evalDraws] at e
    cases he : evalDraw E ao f s with
    | none => simp [he] at e
    | some s1 =>
      simp only [he] at e
      obtain ⟨S, h1, h2, h3⟩ := draws_run dl s1 s' e
      refine ⟨fun k => match k with | 0 => s | k + 1 => S k, rfl, h2, fun k ao' f' hk => ?_⟩
      cases k with
      | zero => simp only [List.getElem?_cons_zero, Option.some.injEq, Prod.mk.injEq] at hk; obtain ⟨rfl, rfl⟩ := hk; simp only [h1]; exact he
      | succ k => exact h3 k ao' f' (by simpa using hk)

/-- A free operation's value hangs on the slots alone. -/
theorem free_indep {ao : AOp} (hf : ao.free = true) (h h2 : Heap) (env : AX → AV) : evalR h env ao = evalR h2 env ao := by
  cases ao <;> first
    | rfl
    | (simp [AOp.free, AOp.acts] at hf; done)
    | (rename_i c x; cases c <;> first | rfl | (simp [AOp.free] at hf; done))

theorem free_acts {ao : AOp} (hf : ao.free = true) : ao.acts = false := by
  cases ao <;> first
    | rfl
    | (simp [AOp.free, AOp.acts] at hf; done)
    | (rename_i c x; cases c <;> first | rfl | (simp [AOp.free, AOp.acts] at hf; done))

theorem draw_free {E : Ev} {ao : AOper} {f : Bool} {s s1 : St} (hf : ao.op.free = true) (e : evalDraw E ao f s = some s1) (H : Heap) : s1.2 = s.2 ∧ evalDraw E ao f (s.1, H) = some (s1.1, H) := by
  have hact := free_acts hf
  unfold evalDraw at e ⊢
  rw [hact, Bool.and_false] at e ⊢
  simp only [cond_false] at e ⊢
  simp only [evalOper] at e ⊢
  cases hg : guardOk s.1 ao.guard with
  | none => simp [hg] at e
  | some b =>
    cases b with
    | true =>
      simp only [hg] at e ⊢
      unfold evalOp at e ⊢
      rw [hact] at e ⊢
      simp only [cond_false] at e ⊢
      rw [free_indep hf H s.2]
      cases hv : evalR s.2 (evalX s.1) ao.op with
      | none => simp [hv] at e
      | some v => simp only [hv, Option.map_some, Option.some.injEq] at e ⊢; subst e; exact ⟨rfl, rfl⟩
    | false => simp only [hg, Option.some.injEq] at e ⊢; subst e; exact ⟨rfl, rfl⟩

end Go.Proofs.Ytekahidlngkhmaa.Am
