/-
  The abstract machine: the text's run of a region whose order is open.
-/
import Derived.Test.YtofaiipohmeelaaAmAhead
namespace Go.Proofs.Ytofaiipohmeelaa.Am
variable {P : Program} {base : Nat} {ρ : Mp} {h : Heap} {W : World}

def Same (h h' : Heap) : Prop := h.next = h'.next ∧ h.blks = h'.blks

theorem Same.get {h h' : Heap} (s : Same h h') (b : Nat) : h.get b = h'.get b := by unfold Heap.get; rw [s.2]

theorem Rel.congr {h' : Heap} (r : Rel base ρ h W) (e : Same h h') : Rel base ρ h' W :=
  ⟨r.room, fun b g hb => by rw [← e.1]; exact r.dom b g hb, fun b x hb => by rw [← e.1]; rw [← e.get] at hb; exact r.live b x hb, fun b x g hb hg => by rw [← e.get] at hb; exact r.blk b x g hb hg,
    fun b b' x x' g g' hb hb' => by rw [← e.get] at hb hb'; exact r.inj b b' x x' g g' hb hb', fun b x g hb => by rw [← e.get] at hb; exact r.base b x g hb⟩

theorem Hit.congr {h' : Heap} (e : Same h h') {c : Nat} (hh : Hit ρ h c) : Hit ρ h' c := by
  obtain ⟨b, x, g, h1, h2⟩ := hh
  exact ⟨b, x, g, by rw [← e.get]; exact h1, h2⟩

theorem Same.symm {h h' : Heap} (e : Same h h') : Same h' h := ⟨e.1.symm, e.2.symm⟩

/-- A step whose log was laid anew, and is laid back. -/
theorem Step.relaid {ρ' : Mp} {h0 h1 h0' h1' : Heap} {W' : World} (s : Step base ρ h0 W ρ' h1 W') (e0 : Same h0 h0') (e1 : Same h1 h1') (hlo : ∀ b, h1'.log.testBit b = false → b < h0.next → h1.get b = h0.get b) (hl : ∀ b, h1'.log.testBit b = false → h0'.log.testBit b = false) : Step base ρ h0' W ρ' h1' W' where
  le := s.le
  rel := s.rel.congr e1
  dom := fun b g hb => by rw [← e0.1]; exact s.dom b g hb
  next := by rw [← e0.1, ← e1.1]; exact s.next
  size := s.size
  keep := fun b x hb hx => by rw [← e1.get] at hx; rw [← e0.1] at hb; obtain ⟨y, h2, h3⟩ := s.keep b x hb hx; exact ⟨y, by rw [← e0.get]; exact h2, h3⟩
  frame := fun c hc hn => s.frame c hc fun hh => hn (hh.congr e0)
  fresh := fun b x g hx hg hb ho => by rw [← e1.get] at hx; rw [← e0.1] at hb; exact (s.fresh b x g hx hg hb ho).imp id (Hit.congr e0)
  same := s.same
  low := fun b hlog hb => by rw [← e0.1] at hb; rw [← e1.get, ← e0.get]; exact hlo b hlog hb
  lows := hl
  mapd := fun b x hx hb => by rw [← e1.get] at hx; rw [← e0.1] at hb; exact s.mapd b x hx hb

/-- One operation of a region whose order is open. `Z`: what quiet ones read or make. -/
def evalDraw (E : Ev) (N Z : Nat) (o : AOper) (md : Md) (s : St) : Option St :=
  match md with
  | .plain => evalOper E o s
  | .alone => evalAlone E o s
  | .mark => match evalOper E o (s.1, s.2.relaid) with
    | some (t, h) => cond (Nat.beq (Z &&& h.log) 0) (some (t, ⟨h.next, h.blks, s.2.log ||| h.log⟩)) none
    | none => none
  | .quiet => match quietZ N o s with
    | some b => cond (Nat.beq (Z ||| b) Z) (evalOper E o s) none
    | none => none

theorem cond_some {α : Type} {c : Bool} {x : Option α} {y : α} (e : cond c x none = some y) : c = true ∧ x = some y := by
  cases c with
  | false => simp at e
  | true => exact ⟨rfl, e⟩

theorem oper_spec {E : Ev} {ao : AOper} {s s1 : St} (e : evalOper E ao s = some s1) : ∃ v, s1.1 = putDst s.1 ao.dst v ∧ ((guardOk s.1 ao.guard = some false ∧ v = .tup [] ∧ s1.2 = s.2) ∨
      (guardOk s.1 ao.guard = some true ∧ evalOp E s.2 (evalX s.1) ao.op = some (v, s1.2))) := by
  simp only [evalOper] at e
  cases hg : guardOk s.1 ao.guard with
  | none => simp [hg] at e
  | some b =>
    cases b with
    | true =>
      simp only [hg] at e
      split at e
      · rename_i v h1 hv
        simp only [Option.some.injEq] at e; subst e
        exact ⟨v, rfl, .inr ⟨rfl, hv⟩⟩
      · simp at e
    | false =>
      simp only [hg, Option.some.injEq] at e; subst e
      exact ⟨_, rfl, .inl ⟨rfl, rfl, rfl⟩⟩

theorem bits_zero {x n : Nat} (h : Nat.beq (Nat.mod x (2 ^ n)) 0 = true) : ∀ b, b < n → x.testBit b = false := by
  intro b hb
  have h1 : x % 2 ^ n = 0 := Nat.eq_of_beq_eq_true h
  have h2 := Nat.testBit_mod_two_pow x n b
  rw [h1] at h2
  simpa [hb] using h2.symm

theorem land_zero {x y : Nat} (h : Nat.beq (x &&& y) 0 = true) : ∀ b, x.testBit b = true → y.testBit b = false := by
  intro b hb
  have h1 : x &&& y = 0 := Nat.eq_of_beq_eq_true h
  have h2 := Nat.testBit_and x y b
  rw [h1, hb] at h2
  simpa using h2.symm

theorem lor_sub {x y : Nat} (h : Nat.beq (x ||| y) x = true) : ∀ b, y.testBit b = true → x.testBit b = true := by
  intro b hb
  have h1 : x ||| y = x := Nat.eq_of_beq_eq_true h
  have h2 := Nat.testBit_or x y b
  rw [h1, hb] at h2
  simpa using h2

theorem lor_false {x y b : Nat} (h : (x ||| y).testBit b = false) : x.testBit b = false ∧ y.testBit b = false := by
  have h2 : (x ||| y).testBit b = false := h
  rw [Nat.testBit_or, Bool.or_eq_false_iff] at h2
  exact h2

theorem evalDraw_spec {E : Ev} {N Z : Nat} {ao : AOper} {md : Md} {s s1 : St} (e : evalDraw E N Z ao md s = some s1) :
    ∃ v, s1.1 = putDst s.1 ao.dst v ∧ ((guardOk s.1 ao.guard = some false ∧ v = .tup [] ∧ Same s.2 s1.2 ∧ (∀ b, s1.2.log.testBit b = false → s.2.log.testBit b = false)) ∨
      (guardOk s.1 ao.guard = some true ∧ ∃ hk h1, Same s.2 hk ∧ Same h1 s1.2 ∧ evalOp E hk (evalX s.1) ao.op = some (v, h1) ∧
        ((hk = s.2 ∧ h1 = s1.2 ∧ (md = .alone → ao.op.acts = false) ∧ md ≠ .mark) ∨ (md = .alone ∧ (∀ b, b < s.2.next → h1.log.testBit b = false) ∧ s1.2.log = s.2.log) ∨
          (md = .mark ∧ (∀ b, Z.testBit b = true → h1.log.testBit b = false) ∧ s1.2.log = s.2.log ||| h1.log)))) := by
  have plain : ∀ (s s1 : St), evalOper E ao s = some s1 → (md = .alone → ao.op.acts = false) → md ≠ .mark → ∃ v, s1.1 = putDst s.1 ao.dst v ∧ ((guardOk s.1 ao.guard = some false ∧ v = .tup [] ∧ Same s.2 s1.2 ∧ (∀ b, s1.2.log.testBit b = false → s.2.log.testBit b = false)) ∨
      (guardOk s.1 ao.guard = some true ∧ ∃ hk h1, Same s.2 hk ∧ Same h1 s1.2 ∧ evalOp E hk (evalX s.1) ao.op = some (v, h1) ∧
        ((hk = s.2 ∧ h1 = s1.2 ∧ (md = .alone → ao.op.acts = false) ∧ md ≠ .mark) ∨ (md = .alone ∧ (∀ b, b < s.2.next → h1.log.testBit b = false) ∧ s1.2.log = s.2.log) ∨
          (md = .mark ∧ (∀ b, Z.testBit b = true → h1.log.testBit b = false) ∧ s1.2.log = s.2.log ||| h1.log)))) := by
    intro s s1 e ha hm
    obtain ⟨v, h1, h2⟩ := oper_spec e
    exact ⟨v, h1, h2.imp (fun ⟨a, b, c⟩ => ⟨a, b, by rw [c]; exact ⟨rfl, rfl⟩, by rw [c]; exact fun _ h => h⟩) fun ⟨a, b⟩ => ⟨a, s.2, s1.2, ⟨rfl, rfl⟩, ⟨rfl, rfl⟩, b, .inl ⟨rfl, rfl, ha, hm⟩⟩⟩
  cases md with
  | plain => exact plain s s1 e (fun h => by simp at h) (by simp)
  | quiet =>
    simp only [evalDraw] at e
    split at e
    · rename_i b _
      cases hb : Nat.beq (Z ||| b) Z with
      | false => simp [hb] at e
      | true => simp only [hb, cond_true] at e; exact plain s s1 e (fun h => by simp at h) (by simp)
    · simp at e
  | mark =>
    simp only [evalDraw] at e
    split at e
    · rename_i t h he
      cases hb : Nat.beq (Z &&& h.log) 0 with
      | false => simp [hb] at e
      | true =>
        simp only [hb, cond_true, Option.some.injEq] at e; subst e
        obtain ⟨v, h1, h2⟩ := oper_spec he
        refine ⟨v, h1, h2.imp (fun ⟨a, b, c⟩ => ?_) fun ⟨a, b⟩ => ?_⟩
        · simp only at c; subst c
          exact ⟨a, b, ⟨rfl, rfl⟩, fun _ h => (lor_false h).1⟩
        · exact ⟨a, s.2.relaid, h, ⟨rfl, rfl⟩, ⟨rfl, rfl⟩, b, .inr (.inr ⟨rfl, land_zero hb, rfl⟩)⟩
    · simp at e
  | alone =>
    simp only [evalDraw, evalAlone] at e
    cases hact : ao.op.acts with
    | false => rw [hact] at e; simp only [cond_false] at e; rw [hact] at plain; exact plain s s1 e (fun _ => rfl) (by simp)
    | true =>
      rw [hact] at e; simp only [cond_true] at e
      split at e
      · rename_i t h he
        obtain ⟨hb, e⟩ := cond_some e
        simp only [Option.some.injEq] at e; subst e
        obtain ⟨v, h1, h2⟩ := oper_spec he
        refine ⟨v, h1, h2.imp (fun ⟨a, b, c⟩ => ?_) fun ⟨a, b⟩ => ?_⟩
        · simp only at c; subst c
          exact ⟨a, b, ⟨rfl, rfl⟩, fun _ h => h⟩
        · exact ⟨a, s.2.relaid, h, ⟨rfl, rfl⟩, ⟨rfl, rfl⟩, b, .inr (.inl ⟨rfl, bits_zero hb, rfl⟩)⟩
      · simp at e

theorem alloc_old {E : Ev} {h h1 : Heap} {env : AX → AV} {cells : List AV} {ty : TypeId} {v : AV} (e : evalOp E h env (.alloc cells ty) = some (v, h1)) : ∃ x, h1 = h.new x ∧ v = .ptr h.next 0 ∧ ownB x = true ∧ ∀ H : Heap, evalOp E H env (.alloc cells ty) = some (.ptr H.next 0, H.new x) := by
  simp only [evalOp, AOp.acts, cond_true, evalA, Heap.row] at e ⊢
  cases hc : allOne cells with
  | false => simp [hc] at e
  | true =>
    simp only [hc, cond_true, Option.map_some, Option.some.injEq, Prod.mk.injEq] at e ⊢
    exact ⟨_, e.2.symm, e.1.symm, rfl, fun H => ⟨trivial, rfl⟩⟩

/-- An operation of such a region, on both sides, out of its own state in the text's run. -/
theorem draw_step {E : Ev} (hE : SoundE P E) {m k : Nat} {ops : Array Oper} {o : Oper} {ao : AOper} {f : Md} {N Z : Nat} (hc : OperCut P m ops o ao) (ho : ops[k]? = some o) (hq : f = .quiet → ao.op.isQuiet = true) {s s1 : St} (e : evalDraw E N Z ao f s = some s1)
    (r : Rel base ρ s.2 W) {a : Act} (henv : ∀ sl ∈ looks ops o, ∀ v, s.1.get sl = some v → ∃ v', a.tmps[sl]? = some v' ∧ VR ρ v v') {K : Act → World → Prop} {Q : Exit → Act → World → Prop}
    (hK : ∀ v v' ρ' W', s1.1 = putDst s.1 o.dst v → VR ρ' v v' → Step base ρ s.2 W ρ' s1.2 W' → ((f = .alone ∨ f = .quiet ∨ ao.op.acts = false) → ∀ b, b < s.2.next → s1.2.get b = s.2.get b) → (f = .mark → ∀ b, Z.testBit b = true → b < s.2.next → s1.2.get b = s.2.get b) → K (a.put o.dst v') W') : wpOp P ops Q k K a W := by
  obtain ⟨v, h1, h2⟩ := evalDraw_spec e
  have hg0 : ∀ s0 want v, ao.guard = some (s0, want) → s.1.get s0 = some v → ∃ v', a.tmps[s0]? = some v' ∧ VR ρ v v' := by
    intro s0 want v hgd hv
    refine henv s0 ?_ v hv
    have hcg := hc.guard
    rw [hgd] at hcg
    unfold cGuard at hcg
    split at hcg
    · simp at hcg
    · rename_i j want' hog
      split at hcg
      · rename_i s1 hs1
        simp only [Option.some.injEq, Prod.mk.injEq] at hcg
        obtain ⟨rfl, rfl⟩ := hcg
        unfold looks
        rw [hog]
        exact List.mem_append_right _ (by simp [hs1])
      · simp at hcg
  unfold wpOp
  rw [ho]
  rcases h2 with ⟨hg, rfl, hsm, hlo⟩ | ⟨hg, hk, h1', e0, e1, hv, hlo⟩
  · have hw := guard_sound (P := P) (ρ := ρ) hc hg0 hg
    simp only [hw, Bool.false_eq_true, if_false]
    have st : Step base ρ s.2 W ρ s1.2 W := (Step.refl r).relaid ⟨rfl, rfl⟩ hsm (fun _ _ _ => rfl) hlo
    exact hK (.tup []) undef ρ W (by rw [h1, hc.dst]) ⟨#[], rfl, rfl⟩ st (fun _ b _ => (hsm.get b).symm) (fun _ b _ _ => (hsm.get b).symm)
  · have hw := guard_sound (P := P) (ρ := ρ) hc hg0 hg
    simp only [hw, if_true]
    refine .inl (oper_wp hE (r.congr e0) hc.op (fun x hx ax hax => ?_) (fun _ => rfl) hv fun v' ρ' W' hv' st => ?_)
    · cases x with
      | tmp i =>
        simp only [cX, Option.some.injEq] at hax; subst hax
        simp only [evalX, Act.eval]
        cases hgt : s.1.get i with
        | none => simp [VR]
        | some u =>
          have hlk : i ∈ looks ops o := by
            unfold looks
            exact List.mem_append_left _ (List.mem_filterMap.2 ⟨.tmp i, hx, rfl⟩)
          obtain ⟨u', w1, w2⟩ := henv i hlk u hgt
          simp only [Option.getD_some, Array.getD_eq_getD_getElem?, w1]; exact w2
      | const z =>
        simp only [cX, Option.map_eq_some_iff] at hax
        obtain ⟨z', hz, rfl⟩ := hax
        exact av_sound ρ _ _ _ hz
      | global g => simp [cX] at hax
      | func f => simp only [cX, Option.some.injEq] at hax; subst hax; exact ⟨_, _, rfl, rfl, rfl⟩
    · rcases hlo with ⟨rfl, rfl, hfa, hfm⟩ | ⟨rfl, hlo, hl⟩ | ⟨rfl, hlo, hl⟩
      · refine hK v v' ρ' W' (by rw [h1, hc.dst]) hv' st (fun hh => ?_) (fun hm => absurd hm hfm)
        have noact : ao.op.acts = false → ∀ b, b < s.2.next → s1.2.get b = s.2.get b := by
          intro hact
          unfold evalOp at hv
          rw [hact] at hv
          simp only [cond_false, Option.map_eq_some_iff, Prod.mk.injEq] at hv
          obtain ⟨_, _, _, h5⟩ := hv
          intro b _; rw [← h5]
        rcases hh with rfl | rfl | hh
        · exact noact (hfa rfl)
        · have hqq := hq rfl
          cases hop : ao.op with
          | alloc cells ty =>
            rw [hop] at hv
            obtain ⟨x, h5, _, _, _⟩ := alloc_old hv
            intro b hb
            rw [h5, Heap.get_new, if_neg (by omega)]
          | load _ _ _ => exact noact (by rw [hop]; rfl)
          | _ => rw [hop] at hqq; simp [AOp.isQuiet] at hqq
        · exact noact hh
      · have hold : ∀ b, b < s.2.next → s1.2.get b = s.2.get b := fun b hb => by
          rw [← e1.get, e0.get]; exact st.low b (hlo b hb) (by rw [← e0.1]; exact hb)
        refine hK v v' ρ' W' (by rw [h1, hc.dst]) hv' (st.relaid e0.symm e1 (fun b _ hb => ?_) (fun b hb => by rw [← hl]; exact hb)) (fun _ => hold) (fun hm => by simp at hm)
        exact st.low b (hlo b (by rw [e0.1]; exact hb)) hb
      · refine hK v v' ρ' W' (by rw [h1, hc.dst]) hv' (st.relaid e0.symm e1 (fun b hb hbn => st.low b (lor_false (by rw [← hl]; exact hb)).2 hbn) (fun b hb => (lor_false (by rw [← hl]; exact hb)).1)) (fun hh => ?_) (fun _ b hz hb => ?_)
        · have hact : ao.op.acts = false := by
            rcases hh with hh | hh | hh
            · simp at hh
            · simp at hh
            · exact hh
          unfold evalOp at hv
          rw [hact] at hv
          simp only [cond_false, Option.map_eq_some_iff, Prod.mk.injEq] at hv
          obtain ⟨_, _, _, h5⟩ := hv
          intro b _; rw [← e1.get, e0.get, ← h5]
        · rw [← e1.get, e0.get]; exact st.low b (hlo b hz) (by rw [← e0.1]; exact hb)

/-- What a walk comes to, where it may end in no other way. -/
theorem wpOp_ex {ops : Array Oper} {i : Nat} {K : Act → World → Prop} {a : Act} {W : World} (hw : wpOp P ops (fun _ _ _ => False) i K a W) : ∃ a' W', K a' W' := by
  unfold wpOp at hw
  split at hw
  · exact ⟨_, _, hw⟩
  · split at hw
    · rcases hw with hw | ⟨_, _, _, hf⟩
      · unfold Oper.wp at hw
        rename_i o _ _
        generalize (execOp a.eval o).run P W = res at hw
        unfold Oper.upon at hw
        split at hw
        · exact ⟨_, _, hw⟩
        · exact ⟨_, _, hw⟩
        · exact ⟨_, _, hw⟩
        · obtain ⟨e, w', fr, hR, _⟩ := hw []
          cases e with
          | returned v => exact ⟨_, _, hR⟩
          | panicked c => exact hR.elim
          | outgrown => obtain ⟨_, _, hf⟩ := hR; exact hf.elim
        · obtain ⟨v, w', hR, _⟩ := hw default []
          exact ⟨_, _, hR⟩
        · exact hw.elim
        · exact hw.elim
      · exact hf.elim
    · exact ⟨_, _, hw⟩

theorem lor_self_of {x y : Nat} (h : ∀ b, y.testBit b = true → x.testBit b = true) : Nat.beq (x ||| y) x = true := by
  have : x ||| y = x := by
    apply Nat.eq_of_testBit_eq
    intro b
    rw [Nat.testBit_or]
    cases hy : y.testBit b with
    | false => simp
    | true => simp [h b hy]
  show Nat.beq (x ||| y) x = true
  rw [this]; exact Nat.beq_refl x

theorem land_of {x y : Nat} (h : ∀ b, x.testBit b = true → y.testBit b = false) : Nat.beq (x &&& y) 0 = true := by
  have : x &&& y = 0 := by
    apply Nat.eq_of_testBit_eq
    intro b
    rw [Nat.testBit_and]
    cases hx : x.testBit b with
    | false => simp
    | true => simp [h b hx]
  show Nat.beq (x &&& y) 0 = true
  rw [this]; rfl

theorem draws_run {E : Ev} {N : Nat} : ∀ (dl : List (AOper × Md)) (z m : Nat) (s s' : St), evalDraws E N dl z m s = some s' → ∃ (Z : Nat) (S : Nat → St), S 0 = s ∧ S dl.length = s' ∧ (∀ b, z.testBit b = true → Z.testBit b = true) ∧ (∀ b, Z.testBit b = true → m.testBit b = false) ∧
    ∀ (k : Nat) ao f, dl[k]? = some (ao, f) → evalDraw E N Z ao f (S k) = some (S (k + 1))
  | [], z, m, s, s', e => by
    simp only [evalDraws] at e
    obtain ⟨hb, e⟩ := cond_some e
    · simp only [Option.some.injEq] at e; subst e
      exact ⟨z, fun _ => s, rfl, rfl, fun _ h => h, land_zero hb, fun k ao f hk => by simp at hk⟩
  | (ao, f) :: dl, z, m, s, s', e => by
    have go : ∀ (s1 : St) (z' m' : Nat), evalDraws E N dl z' m' s1 = some s' → (∀ b, z.testBit b = true → z'.testBit b = true) → (∀ b, m'.testBit b = false → m.testBit b = false) →
        (∀ Z, (∀ b, z'.testBit b = true → Z.testBit b = true) → (∀ b, Z.testBit b = true → m'.testBit b = false) → evalDraw E N Z ao f s = some s1) →
        ∃ (Z : Nat) (S : Nat → St), S 0 = s ∧ S (dl.length + 1) = s' ∧ (∀ b, z.testBit b = true → Z.testBit b = true) ∧ (∀ b, Z.testBit b = true → m.testBit b = false) ∧
          ∀ (k : Nat) ao' f', ((ao, f) :: dl)[k]? = some (ao', f') → evalDraw E N Z ao' f' (S k) = some (S (k + 1)) := by
      intro s1 z' m' e1 hz hm he
      obtain ⟨Z, S, h1, h2, h3, h4, h5⟩ := draws_run dl z' m' s1 s' e1
      refine ⟨Z, fun k => match k with | 0 => s | k + 1 => S k, rfl, h2, fun b hb => h3 b (hz b hb), fun b hb => hm b (h4 b hb), fun k ao' f' hk => ?_⟩
      cases k with
      | zero => simp only [List.getElem?_cons_zero, Option.some.injEq, Prod.mk.injEq] at hk; obtain ⟨rfl, rfl⟩ := hk; simp only [h1]; exact he Z h3 h4
      | succ k => exact h5 k ao' f' (by simpa using hk)
    cases f with
    | plain =>
      simp only [evalDraws] at e
      split at e
      · rename_i s1 he; exact go s1 z m e (fun _ h => h) (fun _ h => h) (fun Z _ _ => he)
      · simp at e
    | alone =>
      simp only [evalDraws] at e
      split at e
      · rename_i s1 he; exact go s1 z m e (fun _ h => h) (fun _ h => h) (fun Z _ _ => he)
      · simp at e
    | mark =>
      simp only [evalDraws] at e
      split at e
      · rename_i t h he
        refine go _ z _ e (fun _ h => h) (fun _ h => (lor_false h).1) (fun Z _ hZ => ?_)
        simp only [evalDraw, he]
        rw [land_of fun b hb => (lor_false (hZ b hb)).2]; rfl
      · simp at e
    | quiet =>
      simp only [evalDraws] at e
      split at e
      · rename_i b0 hb0
        split at e
        · rename_i s1 he
          refine go s1 _ m e (fun b hb => ?_) (fun _ h => h) (fun Z hZ _ => ?_)
          · show (z ||| b0).testBit b = true
            rw [Nat.testBit_or, hb]; rfl
          · simp only [evalDraw, hb0]
            rw [lor_self_of fun b hb => hZ b (by show (z ||| b0).testBit b = true; rw [Nat.testBit_or, hb, Bool.or_true])]
            exact he
        · simp at e
      · simp at e

/-- A free operation's value hangs on the slots alone. -/
theorem free_indep {ao : AOp} (hf : ao.free = true) (h h2 : Heap) (env : AX → AV) : evalR h env ao = evalR h2 env ao := by
  cases ao <;> first
    | rfl
    | (simp [AOp.free, AOp.acts] at hf; done)
    | (rename_i c x; cases c <;> first | rfl | (simp [AOp.free] at hf; done))

theorem free_acts {ao : AOp} (hf : ao.free = true) : ao.acts = false := by
  cases ao <;> first
    | rfl
    | (simp [AOp.free, AOp.acts] at hf; done)
    | (rename_i c x; cases c <;> first | rfl | (simp [AOp.free, AOp.acts] at hf; done))

theorem draw_free {E : Ev} {N Z : Nat} {ao : AOper} {s s1 : St} (hf : ao.op.free = true) (e : evalDraw E N Z ao .plain s = some s1) (H : Heap) : s1.2 = s.2 ∧ evalDraw E N Z ao .plain (s.1, H) = some (s1.1, H) := by
  have hact := free_acts hf
  simp only [evalDraw] at e ⊢
  simp only [evalOper] at e ⊢
  cases hg : guardOk s.1 ao.guard with
  | none => simp [hg] at e
  | some b =>
    cases b with
    | true =>
      simp only [hg] at e ⊢
      unfold evalOp at e ⊢
      rw [hact] at e ⊢
      simp only [cond_false] at e ⊢
      rw [free_indep hf H s.2]
      cases hv : evalR s.2 (evalX s.1) ao.op with
      | none => simp [hv] at e
      | some v => simp only [hv, Option.map_some, Option.some.injEq] at e ⊢; subst e; exact ⟨rfl, rfl⟩
    | false => simp only [hg, Option.some.injEq] at e ⊢; subst e; exact ⟨rfl, rfl⟩

end Go.Proofs.Ytofaiipohmeelaa.Am
