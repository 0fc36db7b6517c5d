/-
  The abstract machine: slots, guards, regions in the text's order.
-/
import Derived.Test.YtofaiipohmeelaaAmOpC
import Derived.Orders
namespace Go.Proofs.Ytofaiipohmeelaa.Am
variable {P : Program} {base : Nat} {ρ : Mp} {h : Heap} {W : World}

abbrev Ev := FuncId → List AV → Heap → Option (AV × Heap)

/-- A call goes as the abstract one does. -/
def CallGoes (P : Program) (base : Nat) (ρ : Mp) (h : Heap) (W : World) (f : FuncId) (args' : Array Value) (v : AV) (h' : Heap) : Prop :=
  (∃ v', (callFunc f args').run P W = .ok (.value v') W ∧ VR ρ v v' ∧ h' = h) ∨
  ((callFunc f args').run P W = .ok (.enter f args') W ∧ Calls P f args' W fun e w' => ∃ v' ρ', e = .returned v' ∧ VR ρ' v v' ∧ Step base ρ h W ρ' h' w')

def SoundE (P : Program) (E : Ev) : Prop :=
  ∀ f args h v h', E f args h = some (v, h') → ∀ base ρ W args', VRs ρ args args'.toList → Rel base ρ h W → CallGoes P base ρ h W f args' v h'

/-- The slots. -/
structure TR (m : Nat) (ρ : Mp) (t : Tr AV) (tmps : Array Value) : Prop where
  size : tmps.size = m
  val : ∀ i v, t.get i = some v → ∃ v', tmps[i]? = some v' ∧ VR ρ v v'

theorem TR.mono {m : Nat} {ρ ρ' : Mp} {t : Tr AV} {tmps : Array Value} (h : TR m ρ t tmps) (hle : ρ.le ρ') : TR m ρ' t tmps :=
  ⟨h.size, fun i v hv => let ⟨v', a, b⟩ := h.val i v hv; ⟨v', a, VR.mono hle _ _ b⟩⟩

theorem TR.put {m : Nat} {ρ : Mp} {t : Tr AV} {a : Act} {d : Option Nat} {v : AV} {v' : Value} (h : TR m ρ t a.tmps) (hd : ∀ i, d = some i → i < m) (hv : VR ρ v v') : TR m ρ (putDst t d v) (a.put d v').tmps := by
  cases d with
  | none => exact h
  | some i =>
    have hi := hd i rfl
    refine ⟨by simp [Act.put, h.size], fun j u hu => ?_⟩
    simp only [putDst, Tr.get_put] at hu
    simp only [Act.put]
    by_cases hij : i = j
    · subst hij
      rw [if_pos rfl] at hu; simp at hu; subst hu
      exact ⟨v', Array.getElem?_setIfInBounds_self_of_lt (by rw [h.size]; exact hi), hv⟩
    · rw [if_neg hij] at hu
      obtain ⟨u', h1, h2⟩ := h.val j u hu
      exact ⟨u', by rw [Array.getElem?_setIfInBounds_ne hij]; exact h1, h2⟩

theorem cX_env {m : Nat} {t : Tr AV} {a : Act} (h : TR m ρ t a.tmps) (x : Operand) (ax : AX) (e : cX x = some ax) : VR ρ (evalX t ax) (a.eval x) := by
  cases x with
  | tmp i =>
    simp only [cX, Option.some.injEq] at e; subst e
    simp only [evalX, Act.eval]
    cases hg : t.get i with
    | none => simp [VR]
    | some v =>
      obtain ⟨v', h1, h2⟩ := h.val i v hg
      simp only [Option.getD_some, Array.getD_eq_getD_getElem?, h1]; exact h2
  | const v =>
    simp only [cX, Option.map_eq_some_iff] at e
    obtain ⟨z, hz, rfl⟩ := e
    exact av_sound ρ _ _ _ hz
  | global g => simp [cX] at e
  | func f =>
    simp only [cX, Option.some.injEq] at e; subst e
    exact ⟨_, _, rfl, rfl, rfl⟩

/-- An operation, with what comes behind. -/
theorem oper_wp {E : Ev} (hE : SoundE P E) (r : Rel base ρ h W) {o : Oper} {ao : AOp} (hc : cOp P o = some ao) {a : Act} {env : AX → AV} (he : Env ρ o.op.operands.toList env a.eval) (hcst : ∀ v, env (.c v) = v)
    {v : AV} {h' : Heap} (hv : evalOp E h env ao = some (v, h')) {K : Act → World → Prop} {Q : Exit → Act → World → Prop}
    (hK : ∀ v' ρ' W', VR ρ' v v' → Step base ρ h W ρ' h' W' → K (a.put o.dst v') W') : o.wp P a W K Q := by
  unfold Oper.wp
  rcases evalOp_sound r E o ao hc env a.eval he hcst v h' hv with ⟨nx, v', W', ρ', h1, h2, h3, h4⟩ | ⟨f, args, args', h1, h2, h3⟩
  · rw [h1]
    rcases h2 with rfl | ⟨rfl, rfl⟩
    · exact hK v' ρ' W' h3 h4
    · exact hK undef ρ' W' h3 h4
  · rw [h3]
    rcases hE f args h v h' h1 base ρ W args' h2 r with ⟨v', h4, h5, rfl⟩ | ⟨h4, h5⟩
    · rw [h4]; exact hK v' ρ W h5 (Step.refl r)
    · rw [h4]
      exact h5.mono fun e w' ⟨v', ρ', he', hv', hs⟩ => by subst he'; exact hK v' ρ' w' hv' hs

/-- What the cut says of an operation in a region. -/
structure OperCut (P : Program) (m : Nat) (ops : Array Oper) (o : Oper) (ao : AOper) : Prop where
  op : cOp P o = some ao.op
  dst : ao.dst = o.dst
  lt : ∀ i, o.dst = some i → i < m
  guard : cGuard ops o.guard = some ao.guard

theorem cOper_spec {m : Nat} {ops : Array Oper} {o : Oper} {ao : AOper} (e : cOper P m ops o = some ao) : OperCut P m ops o ao := by
  simp only [cOper, Option.bind_eq_bind, Option.bind_eq_some_iff] at e
  obtain ⟨op, h1, g, h2, e⟩ := e
  split at e
  · rename_i d hd
    split at e
    · rename_i hlt
      simp only [Option.pure_def, Option.some.injEq] at e; subst e
      exact ⟨h1, hd.symm, fun i hi => by rw [hd] at hi; simp at hi; subst hi; exact hlt, h2⟩
    · simp at e
  · rename_i hd
    simp only [Option.pure_def, Option.some.injEq] at e; subst e
    exact ⟨h1, hd.symm, fun i hi => by rw [hd] at hi; simp at hi, h2⟩

theorem guard_sound {m : Nat} {ops : Array Oper} {o : Oper} {ao : AOper} (hc : OperCut P m ops o ao) {t : Tr AV} {tmps : Array Value} (hg0 : ∀ s want v, ao.guard = some (s, want) → t.get s = some v → ∃ v', tmps[s]? = some v' ∧ VR ρ v v')
    {b : Bool} (hg : guardOk t ao.guard = some b) : Region.wanted o (yielded ops tmps) = b := by
  have hcg := hc.guard
  cases hog : o.guard with
  | none =>
    rw [hog] at hcg; simp only [cGuard, Option.some.injEq] at hcg
    rw [← hcg] at hg; simp only [guardOk, Option.some.injEq] at hg; subst hg
    simp [Region.wanted, hog]
  | some jw =>
    obtain ⟨j, want⟩ := jw
    rw [hog] at hcg
    simp only [cGuard] at hcg
    split at hcg
    · rename_i s hs
      simp only [Option.some.injEq] at hcg
      rw [← hcg] at hg hg0
      simp only [guardOk] at hg
      simp only [Region.wanted, hog, yielded, hs, Option.bind_some]
      split at hg
      · rename_i b0 hb0
        obtain ⟨v', h1, h2⟩ := hg0 s want _ rfl hb0
        simp only [VR] at h2; subst h2
        simp only [Option.some.injEq] at hg; subst hg
        rw [h1]; simp
      · rename_i hb0
        obtain ⟨v', h1, h2⟩ := hg0 s want _ rfl hb0
        simp only [VR, VRs] at h2
        obtain ⟨cs, rfl, _⟩ := h2
        simp only [Option.some.injEq] at hg; subst hg
        rw [h1]; simp
      · simp at hg
    · simp at hcg

/-- The operations of a region in the text's order. -/
theorem opers_wp {E : Ev} (hE : SoundE P E) {m : Nat} {ops : Array Oper} {Q : Exit → Act → World → Prop} : ∀ (l : List AOper) (i : Nat) (s s' : St) (base : Nat) (ρ : Mp) (a : Act) (W : World), i + l.length = ops.size →
    (∀ k ao, l[k]? = some ao → ∃ o, ops[i + k]? = some o ∧ OperCut P m ops o ao) → Rel base ρ s.2 W → TR m ρ s.1 a.tmps → evalOpers E l s = some s' →
    (∀ a' W' ρ', TR m ρ' s'.1 a'.tmps → Step base ρ s.2 W ρ' s'.2 W' → a'.defers = a.defers → Q .normal a' W') → wpOps P ops Q (List.range' i l.length) a W := by
  intro l
  induction l with
  | nil =>
    intro i s s' base ρ a W _ _ r t e hQ
    simp only [evalOpers, Option.some.injEq] at e; subst e
    exact hQ a W ρ t (Step.refl r) rfl
  | cons ao l ih =>
    intro i s s' base ρ a W hlen hcut r t e hQ
    obtain ⟨o, ho, hc⟩ := hcut 0 ao rfl
    simp only [Nat.add_zero] at ho
    simp only [List.length_cons] at hlen
    simp only [List.length_cons, List.range'_succ, wpOps, ho]
    simp only [evalOpers] at e
    have next : ∀ (s1 : St) (a1 : Act) (W1 : World) (ρ1 : Mp), evalOpers E l s1 = some s' → TR m ρ1 s1.1 a1.tmps → Step base ρ s.2 W ρ1 s1.2 W1 → a1.defers = a.defers → wpOps P ops Q (List.range' (i + 1) l.length) a1 W1 := by
      intro s1 a1 W1 ρ1 e1 t1 st d1
      refine ih (i + 1) s1 s' base ρ1 a1 W1 (by omega) (fun k ao' hk => ?_) st.rel t1 e1 (fun a' W' ρ' t' st' d' => hQ a' W' ρ' t' (st.trans st') (d'.trans d1))
      obtain ⟨o', h1, h2⟩ := hcut (k + 1) ao' (by simpa using hk)
      exact ⟨o', by rw [show i + 1 + k = i + (k + 1) from by omega]; exact h1, h2⟩
    have hput : ∀ v' , (a.put o.dst v').defers = a.defers := by intro v'; cases o.dst <;> rfl
    cases he : evalOper E ao s with
    | none => simp [he] at e
    | some s1 =>
      simp only [he] at e
      simp only [evalOper] at he
      cases hg : guardOk s.1 ao.guard with
      | none => simp [hg] at he
      | some b =>
        have hw := guard_sound (P := P) (ρ := ρ) hc (fun s0 want v _ hv => t.val s0 v hv) hg
        rw [hw]
        cases b with
        | true =>
          simp only [hg] at he
          split at he
          · rename_i v h1 hv
            simp only [Option.some.injEq] at he; subst he
            refine .inl (oper_wp hE r hc.op (fun x _ ax e => cX_env t x ax e) (fun _ => rfl) hv fun v' ρ' W' hv' st => ?_)
            refine next _ _ _ ρ' e ?_ st (hput v')
            rw [hc.dst]; exact (t.mono st.le).put hc.lt hv'
          · simp at he
        | false =>
          simp only [hg, Option.some.injEq] at he; subst he
          refine next _ _ _ ρ e ?_ (Step.refl r) (hput undef)
          rw [hc.dst]; exact t.put hc.lt ⟨#[], rfl, rfl⟩

theorem mapM_get {α β : Type} {f : α → Option β} : ∀ {l : List α} {l' : List β}, l.mapM f = some l' → l'.length = l.length ∧ ∀ (k : Nat) (y : β), l'[k]? = some y → ∃ x, l[k]? = some x ∧ f x = some y
  | [], l', e => by simp at e; subst e; simp
  | x :: xs, l', e => by
    simp only [List.mapM_cons, Option.bind_eq_bind, Option.bind_eq_some_iff, Option.pure_def, Option.some.injEq] at e
    obtain ⟨y, hy, ys, hys, rfl⟩ := e
    obtain ⟨h1, h2⟩ := mapM_get hys
    refine ⟨by simp [h1], fun k z hz => ?_⟩
    cases k with
    | zero => simp at hz; subst hz; exact ⟨x, rfl, hy⟩
    | succ k => obtain ⟨u, h3, h4⟩ := h2 k z (by simpa using hz); exact ⟨u, by simpa using h3, h4⟩

/-- ████ A REGION IN THE TEXT's ORDER ████ -/
theorem region_wp {E : Ev} (hE : SoundE P E) {m id : Nat} {ops : Array Oper} {l : List AOper} (hl : ops.toList.mapM (cOper P m ops) = some l) {Q : Exit → Act → World → Prop} {s s' : St} {a : Act} (r : Rel base ρ s.2 W) (t : TR m ρ s.1 a.tmps)
    (e : evalOpers E l s = some s') (hQ : ∀ a' W' ρ', TR m ρ' s'.1 a'.tmps → Step base ρ s.2 W ρ' s'.2 W' → a'.defers = a.defers → Q .normal a' W') : (Code.region id ops false).wp P Q a W := by
  obtain ⟨h1, h2⟩ := mapM_get hl
  refine wp_region ?_
  have := opers_wp hE (m := m) (ops := ops) (Q := Q) l 0 s s' base ρ a W (by simpa using h1) (fun k ao hk => ?_) r t e hQ
  · rw [show l.length = ops.size from by simpa using h1] at this
    rw [List.range_eq_range']; exact this
  · obtain ⟨o, h3, h4⟩ := h2 k ao hk
    exact ⟨o, by rw [Nat.zero_add, ← Array.getElem?_toList]; exact h3, cOper_spec h4⟩

end Go.Proofs.Ytofaiipohmeelaa.Am
