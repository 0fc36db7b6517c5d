/-
  The abstract machine: a function with arguments, from the model's side: what the arguments hold, what a call comes to; and calls that are evaluated by themselves, in an empty memory.
-/
import Derived.Test.YtofaiipohmeelaaAmRow
import Derived.Carry
import Derived.ChangeArms
import Derived.OpenShut
import GoSem.ClaimChange
set_option linter.all false
namespace Go.Proofs.Ytofaiipohmeelaa.Am
open Go.RowKit
variable {P : Program}

/-! ### Calls that are evaluated by themselves -/
def scalarV : AV → Bool
  | .bool _ | .int _ _ | .flt _ | .cpx _ _ | .str _ => true
  | _ => false

def flatV : AV → Bool
  | .tup l => l.all scalarV
  | .agg l => l.all scalarV
  | v => scalarV v

theorem scalar_VR {v : AV} {w : Value} (hv : scalarV v = true) (ρ ρ' : Mp) (h : VR ρ v w) : VR ρ' v w := by
  cases v <;> simp [scalarV] at hv <;> exact h

theorem scalars_VR {ρ ρ' : Mp} : ∀ {l : List AV} {l' : List Value}, l.all scalarV = true → VRs ρ l l' → VRs ρ' l l'
  | [], _, _, h => h
  | v :: l, _, hv, ⟨w, ws, e, h1, h2⟩ => by
    simp only [List.all_cons, Bool.and_eq_true] at hv
    exact ⟨w, ws, e, scalar_VR hv.1 ρ ρ' h1, scalars_VR hv.2 h2⟩

theorem flat_VR {v : AV} {w : Value} (hv : flatV v = true) (ρ ρ' : Mp) (h : VR ρ v w) : VR ρ' v w := by
  cases v with
  | tup l => obtain ⟨cs, e, h⟩ := h; exact ⟨cs, e, scalars_VR hv h⟩
  | agg l => obtain ⟨cs, e, h⟩ := h; exact ⟨cs, e, scalars_VR hv h⟩
  | bool _ => exact scalar_VR (v := .bool _) hv ρ ρ' h
  | int _ _ => exact scalar_VR (v := .int _ _) hv ρ ρ' h
  | flt _ => exact scalar_VR (v := .flt _) hv ρ ρ' h
  | cpx _ _ => exact scalar_VR (v := .cpx _ _) hv ρ ρ' h
  | str _ => exact scalar_VR (v := .str _) hv ρ ρ' h
  | _ => simp [flatV, scalarV] at hv

def shutOv (F0 : FuncId → Option AFun) (fuel : FuncId → Option Nat) : Ev := fun f args h =>
  match fuel f with
  | none => none
  | some n => cond (args.all scalarV) (match evalF F0 n f args h0 with
    | some (v, _) => cond (flatV v) (some (v, h)) none
    | none => none) none

theorem shut_sound {F0 : FuncId → Option AFun} (hE : ∀ n, SoundE P (evalF F0 n)) (fuel : FuncId → Option Nat) : SoundE P (shutOv F0 fuel) := by
  intro f args h v h' e base ρ W args' ha r
  unfold shutOv at e
  split at e
  · simp at e
  rename_i n hn
  cases hs : args.all scalarV with
  | false => rw [hs] at e; simp at e
  | true =>
    rw [hs] at e
    simp only [cond_true] at e
    split at e
    · rename_i u h1 he
      cases hu : flatV u with
      | false => rw [hu] at e; simp at e
      | true =>
        rw [hu] at e
        simp only [cond_true, Option.some.injEq, Prod.mk.injEq] at e
        obtain ⟨rfl, rfl⟩ := e
        rcases hE n f args h0 u h1 he W.heap.size (fun _ => none) W args' (scalars_VR hs ha) (Rel.start W) with ⟨v', g1, g2, _⟩ | ⟨g1, g2⟩
        · exact .inl ⟨v', g1, flat_VR hu _ _ g2, rfl⟩
        · refine .inr ⟨g1, g2.mono fun e w' ⟨v', ρ', he', hv, st⟩ => ⟨v', ρ, he', flat_VR hu _ _ hv, ?_⟩⟩
          have hfr : ∀ c, c < W.heap.size → w'.heap[c]? = W.heap[c]? := fun c hc => st.frame c hc fun ⟨b, x, g, _, hg, _⟩ => by simp at hg
          exact
            { le := Mp.le_refl ρ
              rel := ⟨Nat.le_trans r.room st.size, fun b g hg => ⟨(r.dom b g hg).1, Nat.lt_of_lt_of_le (r.dom b g hg).2 st.size⟩, r.live, fun b x g hx hg => BR.mono (Mp.le_refl ρ) (r.blk b x g hx hg) (hfr _ (r.dom b g hg).2), r.inj, r.base⟩
              dom := fun _ _ h => .inl h
              next := Nat.le_refl _
              size := st.size
              keep := fun _ x' _ h => ⟨x', h, rfl⟩
              frame := fun c hc _ => hfr c hc
              fresh := fun b x g hx hg hb ho => absurd (r.live b x hx) (by omega)
              same := st.same
              low := fun _ _ _ => rfl
              lows := fun _ h => h
              mapd := fun b x hx hb => absurd (r.live b x hx) (by omega) }
    · simp at e

theorem shut_tells {F : FuncId → Option AFun} {F0 : FuncId → Option AFun} {fuel : FuncId → Option Nat} {f : FuncId} {args : List AV} {v : AV} (e : ∀ h, shutOv F0 fuel f args h = some (v, h)) (h : Heap) (K : AV → Heap → Prop) : CQ ⟨F, shutOv F0 fuel⟩ f args h K ↔ K v h := by
  refine CQ.is (h' := h) (v := v) (CQ.intro (v := v) (h' := h) ⟨1, fun m hm => ?_⟩ ⟨rfl, rfl⟩) K
  obtain ⟨j, rfl⟩ : ∃ j, m = j + 1 := ⟨m - 1, by omega⟩
  show (match shutOv F0 fuel f args h with
      | some r => some r
      | none => match F f with
        | some af => runFun (evalO F (shutOv F0 fuel) j) j af args h
        | none => none) = _
  rw [e]

/-- A program's table: its own functions, and those that are evaluated by themselves. -/
def tabOf (P : Program) (fuel : FuncId → Option Nat) : Tab := ⟨fun f => (cFun P f).map AFun.left, shutOv (cFun P) fuel⟩

theorem tabOf_sound (hm : P.follows .mixedOrders = true) (fuel : FuncId → Option Nat) : ∀ n, SoundE P ((tabOf P fuel).ev n) := by
  refine evalO_table hm (F := fun f => (cFun P f).map AFun.left) (fun f af e => ?_) (shut_sound (evalF_sound hm fun _ _ h => h) fuel)
  obtain ⟨af0, h1, h2⟩ := Option.map_eq_some_iff.1 e
  exact ⟨af0, h1, h2.symm⟩

theorem has_of {fuel : FuncId → Option Nat} {f : FuncId} {af : AFun} (h : (cFun P f).map AFun.left = some af) (hf : fuel f = none) : Has (tabOf P fuel) f af := ⟨h, fun args k => by
  show shutOv (cFun P) fuel f args k = none
  unfold shutOv
  rw [hf]⟩

/-! ### A call, from the model's side -/
theorem enter {T : Tab} (hE : ∀ n, SoundE P (T.ev n)) {f : FuncId} {fn : Func} (hfn : P.funcs[f]? = some fn) (hb : fn.body.isSome = true) (hname : (fn.name == "runtime.NumGoroutine") = false) {args : List AV} {h : Heap} {K : AV → Heap → Prop} (c : CQ T f args h K)
    {ρ : Mp} {W : World} {args' : Array Value} (ha : VRs ρ args args'.toList) (r : Rel W.heap.size ρ h W) (hown : ∀ b x, h.get b = some x → ownB x = false) :
    Calls P f args' W fun e w' => ∃ v h' v' ρ', K v h' ∧ e = .returned v' ∧ VR ρ' v v' ∧ Below W.heap.size W w' := by
  obtain ⟨v, h', ⟨n, hn⟩, hk⟩ := c.out
  rcases hE n f args h v h' (hn n (Nat.le_refl _)) W.heap.size ρ W args' ha r with ⟨v', h1, _, _⟩ | ⟨h1, h2⟩
  · obtain ⟨body, hbody⟩ := Option.isSome_iff_exists.1 hb
    have h3 : fn.name ≠ "runtime.NumGoroutine" := by simpa using hname
    simp [callFunc, hfn, hbody, h3] at h1
  · refine h2.mono fun e w' ⟨v', ρ', he, hv, st⟩ => ⟨v, h', v', ρ', hk, he, hv, st.same.2.1, st.same.1, st.same.2.2, st.size, fun c hc => st.frame c hc fun ⟨b, x, g, hx, hg, ho, _⟩ => ?_⟩
    rw [hown b x hx] at ho
    cases ho

/-! ### Arguments -/
def absV : Value → AV
  | .bool b => .bool b
  | .int k n => .int k n
  | .float .f64 b => .flt b
  | .complex .f64 a b => .cpx a b
  | .string s => .str (s.data.toList.map (·.toNat))
  | _ => .undef

theorem absV_VR (ρ : Mp) (v : Value) : VR ρ (absV v) v := by
  unfold absV
  split
  · rfl
  · rfl
  · rfl
  · rfl
  · exact ⟨_, rfl, rfl⟩
  · trivial

/-- One argument's block: the memory's, as it is; and where it lies. -/
def argB (W : World) (n : Nat) : Value → ABlk × Option G
  | .slice (some a) _ _ => match W.heap[a.block]? with
    | some (.cells arr _ _) => (.row (Tr.tab arr.size fun i => absV (arr.getD i .nilFunc)) arr.size n false 0, some ⟨a.block, 0, false, n, arr.size⟩)
    | _ => (.row .nil 0 n false 0, none)
  | _ => (.row .nil 0 n false 0, none)

/-- The argument itself, at block b. -/
def argV (b : Nat) : Value → AV
  | .slice (some a) len _ => .sl b a.off len len
  | .slice none 0 0 => .nilSl
  | v => absV v

def startH (l : List (ABlk × Option G)) : Heap := ⟨l.length, Tr.putList .nil 0 (l.map (·.1)), 0⟩
def startM (l : List (ABlk × Option G)) : Mp := fun b => (l[b]?).bind (·.2)

theorem startH_get (l : List (ABlk × Option G)) (b : Nat) : (startH l).get b = (l[b]?).map (·.1) := by
  show (Tr.putList .nil 0 (l.map (·.1))).get b = _
  rw [Tr.get_putList]
  by_cases hb : b < l.length
  · rw [if_pos (by simp; omega), Nat.sub_zero, List.getElem?_map]
  · rw [if_neg (by simp; omega), List.getElem?_eq_none (by omega)]
    rfl

theorem argB_own (W : World) (n : Nat) (v : Value) : ownB (argB W n v).1 = false := by
  unfold argB
  split
  · split <;> rfl
  · rfl

theorem argB_ok (W : World) (n : Nat) (v : Value) (g : G) (hg : (argB W n v).2 = some g) (ρ : Mp) : g.blk < W.heap.size ∧ BR ρ (argB W n v).1 g W := by
  unfold argB at hg ⊢
  split at hg
  · rename_i a len cap
    split at hg
    · rename_i arr el fr hW
      simp only [Option.some.injEq] at hg
      subst hg
      have hlt : a.block < W.heap.size := by
        rcases Nat.lt_or_ge a.block W.heap.size with h1 | h1
        · exact h1
        · rw [Array.getElem?_eq_none (by omega)] at hW; simp at hW
      refine ⟨hlt, rfl, rfl, arr, el, fr, hW, rfl, by simp, (fun h => by cases h), fun i v hi hv => ?_⟩
      rw [Tr.get_tab, if_pos hi] at hv
      simp only [Option.some.injEq] at hv
      subst hv
      refine ⟨arr.getD i .nilFunc, ?_, absV_VR _ _⟩
      simp only [Nat.zero_add, Array.getD_eq_getD_getElem?, Array.getElem?_eq_getElem hi, Option.getD_some]
    · cases hg
  · cases hg

theorem start_rel (W : World) (l : List (ABlk × Option G)) (hl : ∀ x ∈ l, ∃ n v, x = argB W n v) : Rel W.heap.size (startM l) (startH l) W := by
  have get : ∀ b x, (startH l).get b = some x → ∃ y, l[b]? = some y ∧ y.1 = x := fun b x hx => by
    rw [startH_get] at hx
    simp only [Option.map_eq_some_iff] at hx
    exact hx
  have own : ∀ b x, (startH l).get b = some x → ownB x = false := fun b x hx => by
    obtain ⟨y, h1, rfl⟩ := get b x hx
    obtain ⟨n, v, rfl⟩ := hl y (List.mem_of_getElem? h1)
    exact argB_own W n v
  have lt : ∀ b y, l[b]? = some y → b < l.length := fun b y hy => by
    rcases Nat.lt_or_ge b l.length with h1 | h1
    · exact h1
    · rw [List.getElem?_eq_none h1] at hy; simp at hy
  have mp : ∀ b g, startM l b = some g → ∃ y, l[b]? = some y ∧ y.2 = some g := fun b g hg => by
    simp only [startM, Option.bind_eq_some_iff] at hg
    exact hg
  refine ⟨Nat.le_refl _, fun b g hg => ?_, fun b x hx => ?_, fun b x g hx hg => ?_, fun b b' x x' g g' hx _ _ _ _ ho => ?_, fun b x g hx _ ho => ?_⟩
  · obtain ⟨y, h1, h2⟩ := mp b g hg
    obtain ⟨n, v, rfl⟩ := hl y (List.mem_of_getElem? h1)
    exact ⟨lt b _ h1, (argB_ok W n v g h2 (startM l)).1⟩
  · obtain ⟨y, h1, _⟩ := get b x hx
    exact lt b y h1
  · obtain ⟨y, h1, rfl⟩ := get b x hx
    obtain ⟨y', h2, h3⟩ := mp b g hg
    rw [h1] at h2
    cases h2
    obtain ⟨n, v, rfl⟩ := hl y (List.mem_of_getElem? h1)
    exact (argB_ok W n v g h3 (startM l)).2
  · rw [own b x hx] at ho; cases ho
  · rw [own b x hx] at ho; cases ho

theorem start_own (W : World) (l : List (ABlk × Option G)) (hl : ∀ x ∈ l, ∃ n v, x = argB W n v) (b : Nat) (x : ABlk) (hx : (startH l).get b = some x) : ownB x = false := by
  rw [startH_get] at hx
  simp only [Option.map_eq_some_iff] at hx
  obtain ⟨y, h1, rfl⟩ := hx
  obtain ⟨n, v, rfl⟩ := hl y (List.mem_of_getElem? h1)
  exact argB_own W n v

/-- A slice that can be an argument: nil, or it lies in a block of cells. -/
def SliceIn (W : World) (v : Value) : Prop := v = .slice none 0 0 ∨ ∃ a len cap arr el fr, v = .slice (some a) len cap ∧ len ≤ cap ∧ a.spot = none ∧ W.heap[a.block]? = some (.cells arr el fr)

theorem sliceIn_of {W : World} {base : Nat} {t e : TypeId} {v : Value} (ht : P.underlying t = some (.slice e)) (h : Value.okWide P W .any base t v) : SliceIn W v := by
  have h2 : Cell.okWide P W .any base t v := by
    unfold Value.okWide at h
    rw [ht] at h
    exact h
  have h3 : Cell.ok P W .any base t v := by
    unfold Cell.okWide at h2
    rw [ht] at h2
    split at h2 <;> first | exact h2 | simp_all
  unfold Cell.ok at h3
  rw [ht] at h3
  cases v with
  | slice a len cap =>
    cases a with
    | none =>
      left
      cases len <;> cases cap <;> simp_all
    | some a =>
      right
      obtain ⟨h4, h5, _, h6, row, cells, h7, _⟩ := h3
      unfold World.shape? at h7
      split at h7
      · rename_i arr el fr hW
        exact ⟨a, len, cap, arr, el, fr, rfl, h4, h6, hW⟩
      · cases h7
  | _ => simp_all

theorem argV_VR {W : World} {v : Value} (h : SliceIn W v) (l : List (ABlk × Option G)) (b n : Nat) (hb : l[b]? = some (argB W n v)) : VR (startM l) (argV b v) v := by
  rcases h with rfl | ⟨a, len, cap, arr, el, fr, rfl, h1, h2, h3⟩
  · rfl
  · have hg : (argB W n (.slice (some a) len cap)).2 = some ⟨a.block, 0, false, n, arr.size⟩ := by simp only [argB, h3]
    refine ⟨a, cap, rfl, .inl ⟨⟨a.block, 0, false, n, arr.size⟩, ?_, ?_, h1, fun h => by cases h⟩⟩
    · simp only [startM, hb, Option.bind_some, hg]
    · obtain ⟨x, y, z⟩ := a
      simp only at h2
      subst h2
      simp

/-- What the slice holds, by the memory's cells. -/
theorem argV_row {W : World} {v : Value} (h : SliceIn W v) (l : List (ABlk × Option G)) (b n : Nat) (hb : l[b]? = some (argB W n v)) (hn : 0 < n) (len : Nat) (P : Nat → List AV → Prop)
    (hlen : (v = .slice none 0 0 ∧ len = 0) ∨ ∃ a cap, v = .slice (some a) len cap ∧ ∀ i, i < len → ∃ cs : List Value, W.cells? 0 (a.add (i * n)) n = some cs ∧ P i (cs.map absV)) : RowP (startH l) (argV b v) n len P := by
  have hlt : b < l.length := by
    rcases Nat.lt_or_ge b l.length with h1 | h1
    · exact h1
    · rw [List.getElem?_eq_none h1] at hb; simp at hb
  rcases hlen with ⟨rfl, rfl⟩ | ⟨a, cap, rfl, hc⟩
  · exact RowP.nil _ _ _
  · rcases h with h | ⟨a', len', cap', arr, el, fr, h, h1, h2, h3⟩
    · simp at h
    · simp only [Value.slice.injEq, Option.some.injEq] at h
      obtain ⟨rfl, rfl, rfl⟩ := h
      have hget : (startH l).get b = some (.row (Tr.tab arr.size fun i => absV (arr.getD i .nilFunc)) arr.size n false 0) := by
        rw [startH_get, hb]
        simp only [argB, h3, Option.map_some]
      refine ⟨.inr ⟨b, a.off, len, rfl, hlt, Nat.le_refl _, ?_⟩, fun i hi => ?_⟩
      · unfold Heap.rowsOf
        rw [hget]
        simp
      · obtain ⟨cs, k1, k2⟩ := hc i hi
        refine ⟨cs.map absV, ?_, k2⟩
        obtain ⟨_, k3, k4⟩ := World.cells?_some k1
        have cell : ∀ j, j < n → arr[a.off + i * n + j]? = cs[j]? := by
          intro j hj
          have := k4 j hj
          obtain ⟨x, y, z⟩ := a
          simp only at h2 h3
          subst h2
          simp only [add_spotless, World.cell?, h3] at this
          simpa using this
        have hsz : ∀ j, j < n → a.off + i * n + j < arr.size := by
          intro j hj
          have := cell j hj
          rw [List.getElem?_eq_getElem (by omega)] at this
          exact (Array.getElem?_eq_some_iff.1 this).1
        simp only [ldc, argV, elemP]
        have hl : (cs.map absV).length = n := by simp [k3]
        have := Heap.load_of (h := startH l) (b := b) (off := a.off + i * n) (l := cs.map absV) hget (by
          rw [hl]
          have := hsz (n - 1) (by omega)
          omega) (fun j hj => by
          rw [hl] at hj
          rw [Tr.get_tab, if_pos (hsz j hj), List.getElem?_map, ← cell j hj, Array.getD_eq_getD_getElem?, Array.getElem?_eq_getElem (hsz j hj)]
          rfl)
        rw [hl] at this
        exact this

/-! ### Opening -/
section
variable {H : Type} {enc : TypeId × Value → H} {W : World} {sp : Nat → Bool}

theorem open_row {t e : TypeId} {n : Nat} (ht : P.underlying t = some (.slice e)) (hn : P.cellsOf e = n) {v : Value} {d : DataW H} {p : List MemPlace} (h : DataW.Trod enc P W 0 sp true t v d p) (hv : SliceIn W v) (Q : List AV → Prop)
    (hQ : ∀ fuel cs x, DataW.trod enc P W 0 sp true fuel e cs = some x → Q (cs.map absV)) :
    ∃ len, ((v = .slice none 0 0 ∧ len = 0) ∨ ∃ a cap, v = .slice (some a) len cap ∧ ∀ i, i < len → ∃ cs : List Value, W.cells? 0 (a.add (i * n)) n = some cs ∧ Q (cs.map absV)) ∧
      ((d = .nil ∧ len = 0) ∨ ∃ elems spare, d = .slice elems spare ∧ elems.length = len) := by
  obtain ⟨fuel, h⟩ := h
  have hcells : v.cells.toList = [v] := by rcases hv with rfl | ⟨a, len, cap, arr, el, fr, rfl, _⟩ <;> rfl
  rw [hcells] at h
  rcases DataW.trod_slice ht h with ⟨h1, h2⟩ | ⟨a, len, cap, elems, rest, m, _, h1, h2, _, _, _, h3, h4, _, _⟩
  · simp only [List.cons.injEq, and_true] at h1
    simp only [Prod.mk.injEq] at h2
    exact ⟨0, .inl ⟨h1, rfl⟩, .inl ⟨h2.1, rfl⟩⟩
  · simp only [List.cons.injEq, and_true] at h1
    simp only [Prod.mk.injEq] at h2
    refine ⟨len, .inr ⟨a, cap, h1, fun i hi => ?_⟩, .inr ⟨_, _, h2.1, by simp [h3]⟩⟩
    have h5 := h4 i hi
    rw [List.getElem?_eq_getElem (by omega), Option.bind_eq_some_iff] at h5
    obtain ⟨cs, h6, h7⟩ := h5
    rw [hn] at h6
    exact ⟨cs, h6, hQ _ _ _ h7⟩

/-- A struct of three parts of one cell each. -/
theorem flat3 {t : TypeId} {f0 f1 f2 : Field} (ht : P.underlying t = some (.struct #[f0, f1, f2])) (hc : P.cellsOf t = 3) (o0 : f0.offset = 0) (o1 : f1.offset = 1) (o2 : f2.offset = 2) (c0 : P.cellsOf f0.type = 1) (c1 : P.cellsOf f1.type = 1) (c2 : P.cellsOf f2.type = 1)
    {fuel : Nat} {cs : List Value} {x : DataW H × List MemPlace} (h : DataW.trod enc P W 0 sp true fuel t cs = some x) :
    ∃ a b c m y0 y1 y2, cs = [a, b, c] ∧ DataW.trod enc P W 0 sp true m f0.type [a] = some y0 ∧ DataW.trod enc P W 0 sp true m f1.type [b] = some y1 ∧ DataW.trod enc P W 0 sp true m f2.type [c] = some y2 := by
  obtain ⟨xs, m, _, _, h1, h2, h3⟩ := DataW.trod_struct ht h
  rw [hc] at h1
  have h2' : xs.length = 3 := h2
  match cs, h1 with
  | [a, b, c], _ =>
    have g0 := h3 0 f0 rfl
    have g1 := h3 1 f1 rfl
    have g2 := h3 2 f2 rfl
    rw [o0, c0, List.getElem?_eq_getElem (by omega)] at g0
    rw [o1, c1, List.getElem?_eq_getElem (by omega)] at g1
    rw [o2, c2, List.getElem?_eq_getElem (by omega)] at g2
    exact ⟨a, b, c, m, _, _, _, rfl, g0, g1, g2⟩
end

theorem bound_i64 {n : Int} (h : (Lit.int .i64 n).wf = true) : -9223372036854775808 ≤ n ∧ n < 9223372036854775808 := by
  have := bounds_i64 h
  omega
theorem bound_i32 {n : Int} (h : (Lit.int .i32 n).wf = true) : -2147483648 ≤ n ∧ n < 2147483648 := by
  have := bounds_i32 h
  omega

end Go.Proofs.Ytofaiipohmeelaa.Am
