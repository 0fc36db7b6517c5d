/-
  The abstract machine: a call of a function without arguments.
-/
import Derived.Test.YtdjdoielkabmlaaGreatAmFun
import GoSem.ClaimChange
namespace Go.Proofs.YtdjdoielkabmlaaGreat.Am
variable {P : Program}

def h0 : Heap := ⟨0, .nil, 0⟩

theorem Rel.start (W : World) : Rel W.heap.size (fun _ => none) h0 W where
  room := Nat.le_refl _
  dom := fun _ _ h => by simp at h
  live := fun b x h => by simp [Heap.get, h0, Tr.get] at h
  blk := fun b x g h => by simp [Heap.get, h0, Tr.get] at h
  inj := fun b b' x x' g g' h => by simp [Heap.get, h0, Tr.get] at h
  base := fun b x g h => by simp [Heap.get, h0, Tr.get] at h

theorem kept_of_same {W W' : World} (hs : W'.os = W.os ∧ W'.output = W.output) (h : ∀ c, c < W.heap.size → W'.heap[c]? = W.heap[c]?) : W.keptBut W' (fun _ => False) := by
  refine ⟨hs.1, hs.2, fun i hi => ?_⟩
  rw [h i hi]
  split
  · rename_i h1 h2
    rw [h1] at h2
    simp only [Option.some.injEq, Obj.cells.injEq] at h2
    obtain ⟨rfl, rfl, rfl⟩ := h2
    exact ⟨rfl, rfl, rfl, fun _ _ => rfl⟩
  · rename_i h1 h2
    rw [h1] at h2
    simp only [Option.some.injEq, Obj.map.injEq] at h2
    obtain ⟨rfl, rfl⟩ := h2
    exact .inr ⟨rfl, rfl⟩
  · rfl

/-- ████ A FUNCTION WITHOUT ARGUMENTS GIVES WHAT THE EVALUATOR GIVES ████ -/
theorem closed_calls (hm : P.follows .mixedOrders = true) {F : FuncId → Option AFun} (hF : ∀ f af, F f = some af → cFun P f = some af) {n : Nat} {f : FuncId} {fn : Func} (hfn : P.funcs[f]? = some fn) (hb : fn.body.isSome = true)
    (hname : (fn.name == "runtime.NumGoroutine") = false) {b : Bool} (he : ((evalF F n f [] h0).map fun p => match p.1 with | .bool c => c == b | _ => false) = some true) (W : World) :
    Calls P f #[] W fun e w' => e = .returned (.bool b) ∧ W.keptBut w' (fun _ => False) := by
  simp only [Option.map_eq_some_iff] at he
  obtain ⟨⟨v, h'⟩, he, hv⟩ := he
  have hv' : v = .bool b := by
    cases v <;> simp at hv
    subst hv; rfl
  subst hv'
  rcases evalF_sound hm hF n f [] h0 _ h' he W.heap.size (fun _ => none) W #[] rfl (Rel.start W) with ⟨v', h1, _, _⟩ | ⟨h1, h2⟩
  · obtain ⟨body, hbody⟩ := Option.isSome_iff_exists.1 hb
    have h3 : fn.name ≠ "runtime.NumGoroutine" := by simpa using hname
    simp [callFunc, hfn, hbody, h3] at h1
  · refine h2.mono fun e w' ⟨v', ρ', he', hv, st⟩ => ?_
    simp only [VR] at hv
    subst hv
    refine ⟨he', kept_of_same st.same.2 fun c hc => st.frame c hc fun ⟨b, x, g, _, hg, _⟩ => by simp at hg⟩

end Go.Proofs.YtdjdoielkabmlaaGreat.Am
