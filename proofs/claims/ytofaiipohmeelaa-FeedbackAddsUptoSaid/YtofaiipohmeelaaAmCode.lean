/-
  The abstract machine: code.
-/
import Derived.Test.YtofaiipohmeelaaAmInv3
import Derived.LoopN
import Derived.Scope
namespace Go.Proofs.Ytofaiipohmeelaa.Am
variable {P : Program} {base : Nat} {ρ : Mp} {h : Heap} {W : World}

def cx : AExit → Exit
  | .normal => .normal
  | .exit id => .exit id
  | .ret => .ret

/-- What comes behind a piece of code. -/
def After (base m : Nat) (ρ : Mp) (s : St) (W : World) (a : Act) (s' : St) (G : Act → World → Prop) : Prop :=
  ∀ a' W' ρ', TR m ρ' s'.1 a'.tmps → Step base ρ s.2 W ρ' s'.2 W' → a'.defers = a.defers → G a' W'

/-- Code that goes as the abstract code does. -/
def Goes (P : Program) (m : Nat) (c : Code) (f : St → Option (AExit × St)) : Prop :=
  ∀ (base : Nat) (ρ : Mp) (s s' : St) (x : AExit) (a : Act) (W : World) (Q : Exit → Act → World → Prop), Rel base ρ s.2 W → TR m ρ s.1 a.tmps → f s = some (x, s') →
    After base m ρ s W a s' (Q (cx x)) → c.wp P Q a W

theorem After.step {m : Nat} {s s1 s' : St} {a a1 : Act} {W1 : World} {ρ1 : Mp} {G : Act → World → Prop} (hA : After base m ρ s W a s' G) (st : Step base ρ s.2 W ρ1 s1.2 W1) (hd : a1.defers = a.defers) : After base m ρ1 s1 W1 a1 s' G :=
  fun a' W' ρ' t' st' d' => hA a' W' ρ' t' (st.trans st') (d'.trans hd)

theorem goes_loop {m : Nat} {c : Code} {f : St → Option (AExit × St)} (hg : Goes P m c f) (k : Nat) : Goes P m (.loop c) (iter f k) := by
  intro base ρ s s' x a W Q r t e hA
  refine wp_loop_rounds k ?_
  induction k generalizing base ρ s a W with
  | zero => simp [iter] at e
  | succ k ih =>
    rw [rounds_succ]
    simp only [iter] at e
    cases hf : f s with
    | none => simp [hf] at e
    | some q =>
      obtain ⟨y, s1⟩ := q
      rw [hf] at e
      refine hg base ρ s s1 y a W _ r t hf fun a' W' ρ' t' st' d' => ?_
      cases y with
      | normal => exact ih base ρ' s1 a' W' st'.rel t' e (hA.step st' d')
      | exit id =>
        simp only [Option.some.injEq, Prod.mk.injEq] at e
        obtain ⟨rfl, rfl⟩ := e
        exact hA a' W' ρ' t' st' d'
      | ret =>
        simp only [Option.some.injEq, Prod.mk.injEq] at e
        obtain ⟨rfl, rfl⟩ := e
        exact hA a' W' ρ' t' st' d'

/-- ████ CODE GOES AS THE ABSTRACT CODE DOES ████ -/
theorem code_goes (hm : P.follows .mixedOrders = true) {E : Ev} (hE : SoundE P E) (m k : Nat) (c : Code) : ∀ ac, cCode P m c = some ac → Goes P m c (evalC E k ac) := by
  induction c with
  | skip =>
    intro ac e
    simp only [cCode, Option.some.injEq] at e; subst e
    intro base ρ s s' x a W Q r t e hA
    simp only [evalC, Option.some.injEq, Prod.mk.injEq] at e
    obtain ⟨rfl, rfl⟩ := e
    exact wp_skip (hA a W ρ t (Step.refl r) rfl)
  | label l =>
    intro ac e
    simp only [cCode, Option.some.injEq] at e; subst e
    intro base ρ s s' x a W Q r t e hA
    simp only [evalC, Option.some.injEq, Prod.mk.injEq] at e
    obtain ⟨rfl, rfl⟩ := e
    exact wp_label (hA a W ρ t (Step.refl r) rfl)
  | exit id =>
    intro ac e
    simp only [cCode, Option.some.injEq] at e; subst e
    intro base ρ s s' x a W Q r t e hA
    simp only [evalC, Option.some.injEq, Prod.mk.injEq] at e
    obtain ⟨rfl, rfl⟩ := e
    exact wp_exit (hA a W ρ t (Step.refl r) rfl)
  | ret =>
    intro ac e
    simp only [cCode, Option.some.injEq] at e; subst e
    intro base ρ s s' x a W Q r t e hA
    simp only [evalC, Option.some.injEq, Prod.mk.injEq] at e
    obtain ⟨rfl, rfl⟩ := e
    exact wp_ret (hA a W ρ t (Step.refl r) rfl)
  | goto l => intro ac e; simp [cCode] at e
  | refuse w => intro ac e; simp [cCode] at e
  | rangeFunc f ps x y _ _ => intro ac e; simp [cCode] at e
  | region id ops draw =>
    intro ac e
    cases draw with
    | false =>
      simp only [cCode, Option.map_eq_some_iff] at e
      obtain ⟨l, hl, rfl⟩ := e
      intro base ρ s s' x a W Q r t e hA
      simp only [evalC, Option.map_eq_some_iff, Prod.mk.injEq] at e
      obtain ⟨s1, e, rfl, rfl⟩ := e
      exact region_wp hE hl r t e hA
    | true =>
      simp only [cCode] at e
      obtain ⟨dl, dl', rfl, hd, hd'⟩ := cDraw_spec e
      intro base ρ s s' x a W Q r t e hA
      simp only [evalC] at e
      split at e
      · rename_i s1 he
        simp only [Option.some.injEq, Prod.mk.injEq] at e
        obtain ⟨rfl, rfl⟩ := e
        exact region_draw_wp hm hE hd r t he hA
      · simp only [Option.map_eq_some_iff, Prod.mk.injEq] at e
        obtain ⟨s1, he, rfl, rfl⟩ := e
        exact region_draw_wp hm hE hd' r t he hA
  | seq c1 c2 ih1 ih2 =>
    intro ac e
    simp only [cCode, Option.bind_eq_bind, Option.bind_eq_some_iff, Option.pure_def, Option.some.injEq] at e
    obtain ⟨a1, h1, a2, h2, rfl⟩ := e
    intro base ρ s s' x a W Q r t e hA
    simp only [evalC] at e
    cases hf : evalC E k a1 s with
    | none => simp [hf] at e
    | some q =>
      obtain ⟨y, s1⟩ := q
      rw [hf] at e
      refine wp_seq (ih1 a1 h1 base ρ s s1 y a W _ r t hf fun a' W' ρ' t' st' d' => ?_)
      cases y with
      | normal => exact ih2 a2 h2 base ρ' s1 s' x a' W' Q st'.rel t' e (hA.step st' d')
      | exit id =>
        simp only [Option.some.injEq, Prod.mk.injEq] at e
        obtain ⟨rfl, rfl⟩ := e
        exact hA a' W' ρ' t' st' d'
      | ret =>
        simp only [Option.some.injEq, Prod.mk.injEq] at e
        obtain ⟨rfl, rfl⟩ := e
        exact hA a' W' ρ' t' st' d'
  | cond o c1 c2 ih1 ih2 =>
    intro ac e
    simp only [cCode, Option.bind_eq_bind, Option.bind_eq_some_iff, Option.pure_def, Option.some.injEq] at e
    obtain ⟨ao, ho, a1, h1, a2, h2, rfl⟩ := e
    intro base ρ s s' x a W Q r t e hA
    simp only [evalC] at e
    have hv := cX_env t o ao ho
    split at e
    · rename_i hb
      rw [hb] at hv; simp only [VR] at hv
      exact wp_cond_true hv (ih1 a1 h1 base ρ s s' x a W Q r t e hA)
    · rename_i hb
      rw [hb] at hv; simp only [VR] at hv
      exact wp_cond_false hv (ih2 a2 h2 base ρ s s' x a W Q r t e hA)
    · simp at e
  | block id c ih =>
    intro ac e
    simp only [cCode, Option.bind_eq_bind, Option.bind_eq_some_iff, Option.pure_def, Option.some.injEq] at e
    obtain ⟨a1, h1, rfl⟩ := e
    intro base ρ s s' x a W Q r t e hA
    simp only [evalC] at e
    cases hf : evalC E k a1 s with
    | none => simp [hf] at e
    | some q =>
      obtain ⟨y, s1⟩ := q
      rw [hf] at e
      refine wp_block (ih a1 h1 base ρ s s1 y a W _ r t hf fun a' W' ρ' t' st' d' => ?_)
      cases y with
      | normal =>
        simp only [Option.some.injEq, Prod.mk.injEq] at e
        obtain ⟨rfl, rfl⟩ := e
        exact hA a' W' ρ' t' st' d'
      | exit i =>
        simp only at e
        simp only [cx, Exit.inBlock]
        by_cases hi : i = id
        · subst hi
          simp only [Nat.beq_refl, cond_true, Option.some.injEq, Prod.mk.injEq] at e
          obtain ⟨rfl, rfl⟩ := e
          rw [if_pos rfl]; exact hA a' W' ρ' t' st' d'
        · have : Nat.beq i id = false := by
            cases hb : Nat.beq i id with
            | false => rfl
            | true => exact absurd (Nat.eq_of_beq_eq_true hb) hi
          simp only [this, cond_false, Option.some.injEq, Prod.mk.injEq] at e
          obtain ⟨rfl, rfl⟩ := e
          rw [if_neg hi]; exact hA a' W' ρ' t' st' d'
      | ret =>
        simp only [Option.some.injEq, Prod.mk.injEq] at e
        obtain ⟨rfl, rfl⟩ := e
        exact hA a' W' ρ' t' st' d'
  | loop c ih =>
    intro ac e
    simp only [cCode, Option.bind_eq_bind, Option.bind_eq_some_iff, Option.pure_def, Option.some.injEq] at e
    obtain ⟨a1, h1, rfl⟩ := e
    exact goes_loop (ih a1 h1) k
  | scope c ih =>
    intro ac e
    simp only [cCode, Option.bind_eq_bind, Option.bind_eq_some_iff, Option.pure_def, Option.some.injEq] at e
    obtain ⟨a1, h1, rfl⟩ := e
    intro base ρ s s' x a W Q r t e hA
    refine wp_scope_straight (ih a1 h1 base ρ s s' x a W _ r t e ?_)
    cases x <;> exact hA

end Go.Proofs.Ytofaiipohmeelaa.Am
