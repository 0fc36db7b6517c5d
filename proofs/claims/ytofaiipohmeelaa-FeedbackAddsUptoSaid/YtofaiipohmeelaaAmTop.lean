/-
  The abstract machine: a call of a function without arguments.
-/
import Derived.Test.YtofaiipohmeelaaAmFun
import GoSem.ClaimChange
namespace Go.Proofs.Ytofaiipohmeelaa.Am
variable {P : Program}

def h0 : Heap := ⟨0, .nil, 0⟩

theorem Rel.start (W : World) : Rel W.heap.size (fun _ => none) h0 W where
  room := Nat.le_refl _
  dom := fun _ _ h => by simp at h
  live := fun b x h => by simp [Heap.get, h0, Tr.get] at h
  blk := fun b x g h => by simp [Heap.get, h0, Tr.get] at h
  inj := fun b b' x x' g g' h => by simp [Heap.get, h0, Tr.get] at h
  base := fun b x g h => by simp [Heap.get, h0, Tr.get] at h

theorem kept_of_same {W W' : World} (hs : W'.os = W.os ∧ W'.output = W.output) (h : ∀ c, c < W.heap.size → W'.heap[c]? = W.heap[c]?) : W.keptBut W' (fun _ => False) := by
  refine ⟨hs.1, hs.2, fun i hi => ?_⟩
  rw [h i hi]
  split
  · rename_i h1 h2
    rw [h1] at h2
    simp only [Option.some.injEq, Obj.cells.injEq] at h2
    obtain ⟨rfl, rfl, rfl⟩ := h2
    exact ⟨rfl, rfl, rfl, fun _ _ => rfl⟩
  · rename_i h1 h2
    rw [h1] at h2
    simp only [Option.some.injEq, Obj.map.injEq] at h2
    obtain ⟨rfl, rfl⟩ := h2
    exact .inr ⟨rfl, rfl⟩
  · rfl

/-- ████ A FUNCTION WITHOUT ARGUMENTS GIVES WHAT A SOUND EVALUATOR GIVES ████ -/
theorem sound_calls {E : Ev} (hE : SoundE P E) {f : FuncId} {fn : Func} (hfn : P.funcs[f]? = some fn) (hb : fn.body.isSome = true)
    (hname : (fn.name == "runtime.NumGoroutine") = false) {b : Bool} (he : ((E f [] h0).map fun p => match p.1 with | .bool c => c == b | _ => false) = some true) (W : World) :
    Calls P f #[] W fun e w' => e = .returned (.bool b) ∧ W.keptBut w' (fun _ => False) := by
  simp only [Option.map_eq_some_iff] at he
  obtain ⟨⟨v, h'⟩, he, hv⟩ := he
  have hv' : v = .bool b := by
    cases v <;> simp at hv
    subst hv; rfl
  subst hv'
  rcases hE f [] h0 _ h' he W.heap.size (fun _ => none) W #[] rfl (Rel.start W) with ⟨v', h1, _, _⟩ | ⟨h1, h2⟩
  · obtain ⟨body, hbody⟩ := Option.isSome_iff_exists.1 hb
    have h3 : fn.name ≠ "runtime.NumGoroutine" := by simpa using hname
    simp [callFunc, hfn, hbody, h3] at h1
  · refine h2.mono fun e w' ⟨v', ρ', he', hv, st⟩ => ?_
    simp only [VR] at hv
    subst hv
    refine ⟨he', kept_of_same st.same.2 fun c hc => st.frame c hc fun ⟨b, x, g, _, hg, _⟩ => by simp at hg⟩

theorem closed_calls (hm : P.follows .mixedOrders = true) {F : FuncId → Option AFun} (hF : ∀ f af, F f = some af → cFun P f = some af) {n : Nat} {f : FuncId} {fn : Func} (hfn : P.funcs[f]? = some fn) (hb : fn.body.isSome = true)
    (hname : (fn.name == "runtime.NumGoroutine") = false) {b : Bool} (he : ((evalF F n f [] h0).map fun p => match p.1 with | .bool c => c == b | _ => false) = some true) (W : World) :
    Calls P f #[] W fun e w' => e = .returned (.bool b) ∧ W.keptBut w' (fun _ => False) := sound_calls (evalF_sound hm hF n) hfn hb hname he W

/-! ### What was shown of some calls, used in the run of others -/
def evalO (F : FuncId → Option AFun) (ov : Ev) (n : Nat) : Ev :=
  Nat.rec (fun _ _ _ => none) (fun m E f args h => match ov f args h with
    | some r => some r
    | none => match F f with
      | some af => runFun E m af args h
      | none => none) n

theorem evalO_sound (hm : P.follows .mixedOrders = true) {F : FuncId → Option AFun} (hF : ∀ f af, F f = some af → cFun P f = some af) {ov : Ev} (hov : SoundE P ov) : ∀ n, SoundE P (evalO F ov n)
  | 0 => fun f args h v h' e => by simp [evalO] at e
  | n + 1 => fun f args h v h' e base ρ W args' ha r => by
    have e' : (match ov f args h with
      | some r => some r
      | none => match F f with
        | some af => runFun (evalO F ov n) n af args h
        | none => none) = some (v, h') := e
    cases ho : ov f args h with
    | some q =>
      rw [ho] at e'
      simp only [Option.some.injEq] at e'; subst e'
      exact hov f args h v h' ho base ρ W args' ha r
    | none =>
      rw [ho] at e'
      cases hf : F f with
      | none => simp [hf] at e'
      | some af =>
        rw [hf] at e'
        exact runFun_sound hm (evalO_sound hm hF hov n) n (hF f af hf) args h v h' e' base ρ W args' ha r

theorem evalF_succ (F : FuncId → Option AFun) (m : Nat) (f : FuncId) (args : List AV) (h : Heap) : evalF F (m + 1) f args h = (match F f with
    | some af => runFun (evalF F m) m af args h
    | none => none) := rfl

/-- What a piece of code comes to. -/
def Res (Q : AExit → St → Prop) : Option (AExit × St) → Prop
  | some (e, s) => Q e s
  | none => False

theorem Res.get {Q : AExit → St → Prop} {x : Option (AExit × St)} (h : Res Q x) : ∃ e s, x = some (e, s) ∧ Q e s := by
  cases x with
  | none => exact h.elim
  | some p => exact ⟨p.1, p.2, rfl, h⟩

theorem Res.mono {Q R : AExit → St → Prop} {x : Option (AExit × St)} (h : Res Q x) (hq : ∀ e s, Q e s → R e s) : Res R x := by
  obtain ⟨e, s, rfl, h1⟩ := h.get
  exact hq e s h1

end Go.Proofs.Ytofaiipohmeelaa.Am
