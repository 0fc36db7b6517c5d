/-
  The abstract machine: literals' parts, bounds, slices, conversions, maps' keys.
-/
import Derived.Test.YtofaiipohmeelaaAmEq
import Derived.Laws.BytesString
namespace Go.Proofs.Ytofaiipohmeelaa.Am
variable {P : Program} {base : Nat} {ρ : Mp} {h : Heap} {W : World}

/-! ### Literals -/
theorem splice_get {α : Type} : ∀ (vs : List α) (k : Nat) (cells : Array α) (off j : Nat), off + k + vs.length ≤ cells.size →
    ((vs.zipIdx k).foldl (fun cs (p : α × Nat) => cs.setIfInBounds (off + p.2) p.1) cells)[j]? = if off + k ≤ j ∧ j < off + k + vs.length then vs[j - (off + k)]? else cells[j]? := by
  intro vs
  induction vs with
  | nil => intro k cells off j _; have : ¬ (off + k ≤ j ∧ j < off + k + ([] : List α).length) := by simp only [List.length_nil]; omega
           rw [if_neg this]; rfl
  | cons v vs ih =>
    intro k cells off j hs
    simp only [List.length_cons] at hs
    simp only [List.zipIdx_cons, List.foldl_cons]
    rw [ih (k + 1) _ off j (by simp; omega)]
    simp only [List.length_cons]
    by_cases h1 : j = off + k
    · subst h1
      rw [if_neg (by omega), if_pos (by omega), Array.getElem?_setIfInBounds_self_of_lt (by omega)]
      simp
    · by_cases h2 : off + (k + 1) ≤ j ∧ j < off + (k + 1) + vs.length
      · rw [if_pos h2, if_pos (by omega)]
        rw [show j - (off + k) = (j - (off + (k + 1))) + 1 from by omega]; simp
      · rw [if_neg h2, if_neg (by omega)]
        rw [Array.getElem?_setIfInBounds_ne (by omega)]

theorem splice_size {α : Type} : ∀ (vs : List α) (k : Nat) (cells : Array α) (off : Nat),
    ((vs.zipIdx k).foldl (fun cs (p : α × Nat) => cs.setIfInBounds (off + p.2) p.1) cells).size = cells.size := by
  intro vs
  induction vs with
  | nil => intro k cells off; rfl
  | cons v vs ih => intro k cells off; simp only [List.zipIdx_cons, List.foldl_cons, ih]; simp

theorem splice_toList {α : Type} (vs : List α) (cells : Array α) (off : Nat) (hs : off + vs.length ≤ cells.size) :
    ((vs.zipIdx).foldl (fun cs (p : α × Nat) => cs.setIfInBounds (off + p.2) p.1) cells).toList = cells.toList.take off ++ vs ++ cells.toList.drop (off + vs.length) := by
  apply List.ext_getElem?
  intro j
  rw [Array.getElem?_toList, splice_get vs 0 cells off j (by omega)]
  simp only [Nat.add_zero]
  by_cases h1 : j < off
  · rw [if_neg (by omega), List.append_assoc, List.getElem?_append_left (by simp; omega), List.getElem?_take_of_lt h1, Array.getElem?_toList]
  · by_cases h2 : j < off + vs.length
    · rw [if_pos (by omega), List.getElem?_append_left (by simp; omega), List.getElem?_append_right (by simp; omega)]
      congr 1; simp; omega
    · rw [if_neg (by omega), List.getElem?_append_right (by simp; omega), List.getElem?_drop, Array.getElem?_toList]
      congr 1; simp; omega

theorem fill_sound {env : AX → AV} {a : Operand → Value} {place : Nat → Option (Nat × Nat)} : ∀ (parts : List (Nat × Operand)) (ps : List (Nat × Nat × AX)) (zero cells : List AV) (zero' : Array Value),
    ps.length = parts.length → (∀ (k i off n : Nat) (x : Operand) (ax : AX), parts[k]? = some (i, x) → ps[k]? = some (off, n, ax) → place i = some (off, n) ∧ VR ρ (env ax) (a x)) →
    VRs ρ zero zero'.toList → fillA zero (fillEnv env ps) = some cells →
    ∃ cells', Instr.fill place zero' (parts.map fun p => (p.1, a p.2)) = some cells' ∧ VRs ρ cells cells'.toList := by
  intro parts
  induction parts with
  | nil =>
    intro ps zero cells zero' hl _ hz e
    have : ps = [] := List.eq_nil_of_length_eq_zero hl
    subst this
    simp [fillEnv, fillA] at e; subst e
    exact ⟨zero', rfl, hz⟩
  | cons p parts ih =>
    intro ps zero cells zero' hl hp hz e
    cases ps with
    | nil => simp at hl
    | cons q ps =>
      obtain ⟨i, x⟩ := p
      obtain ⟨off, n, ax⟩ := q
      obtain ⟨h1, h2⟩ := hp 0 i off n x ax (by simp) (by simp)
      simp only [fillEnv, List.map_cons, fillA] at e
      cases hc : (Nat.beq (env ax).cells.length n && Nat.ble (off + n) zero.length && allOne (env ax).cells) with
      | false => simp [hc] at e
      | true =>
        simp only [hc, cond_true] at e
        simp only [Bool.and_eq_true] at hc
        have hn := Nat.eq_of_beq_eq_true hc.1.1
        have hle := Nat.le_of_ble_eq_true hc.1.2
        have hcs := VR.cells h2 hc.2
        have hlen := hcs.length
        have hzl := hz.length
        simp only [Array.length_toList] at hlen hzl
        simp only [List.map_cons, Instr.fill, h1]
        have hcond : ((decide ((a x).cells.size ≠ n) || decide (off + (a x).cells.size > zero'.size)) = false) := by
          simp; omega
        simp only [hcond, Bool.false_eq_true, if_false]
        refine ih ps _ cells _ (by simpa using hl) (fun k i' off' n' x' ax' hk hk' => hp (k + 1) i' off' n' x' ax' (by simpa using hk) (by simpa using hk')) ?_ e
        have heq : (Array.foldl (fun cs (p : Value × Nat) => cs.setIfInBounds (off + p.2) p.1) zero' (a x).cells.zipIdx) = ((a x).cells.toList.zipIdx.foldl (fun cs (p : Value × Nat) => cs.setIfInBounds (off + p.2) p.1) zero') := by
          rw [← Array.foldl_toList]; simp
        have : (Array.foldl (fun (cs : Array Value) (x : Value × Nat) => match x with | (c, j) => cs.setIfInBounds (off + j) c) zero' (a x).cells.zipIdx) = ((a x).cells.toList.zipIdx.foldl (fun cs (p : Value × Nat) => cs.setIfInBounds (off + p.2) p.1) zero') := heq
        rw [this, splice_toList _ _ _ (by simp; omega)]
        refine VRs.append (VRs.append (hz.take off) hcs) ?_
        rw [show off + (a x).cells.toList.length = off + n from by simp; omega]
        exact hz.drop _

theorem zeros_sound {z : List AV} {z' : Array Value} (hz : VRs ρ z z'.toList) (i : Nat) : VR ρ (zerosOf z i) (z'[i % z'.size]!) := by
  have hl := hz.length
  simp only [Array.length_toList] at hl
  have gen : VR ρ ((z[i % z.length]?).getD .undef) (z'[i % z'.size]!) := by
    cases hg : z[i % z.length]? with
    | none => simp [VR]
    | some v =>
      obtain ⟨v', h1, h2⟩ := hz.get _ _ hg
      rw [Array.getElem?_toList, hl] at h1
      simp only [Option.getD_some]
      rw [getElem!_def, h1]; exact h2
  match z, hz, hl, gen with
  | [], _, _, g => exact g
  | [x], _, _, g => simpa [zerosOf, Nat.mod_one] using g
  | _ :: _ :: _, _, _, g => exact g

theorem manyZeros_sound {z : List AV} {z' : Array Value} (hz : VRs ρ z z'.toList) (n : Nat) : VRs ρ (manyZeros z n) ((Array.range n).map (z'[· % z'.size]!)).toList := by
  unfold manyZeros
  rw [Array.toList_map, Array.toList_range]
  exact VRs.map fun i _ => zeros_sound hz i

/-! ### Bounds -/
theorem asNat_run {x : AV} {x' : Value} {n : Nat} (hx : VR ρ x x') (e : asNat x = some n) (W : World) : ∃ k, (asIntOf x').run P W = .ok (k, (n : Int)) W := by
  unfold asNat at e
  split at e
  · rename_i k i
    split at e
    · rename_i m
      simp only [Option.some.injEq] at e; subst e
      simp only [VR] at hx; subst hx
      exact ⟨k, rfl⟩
    · simp at e
  · simp at e

theorem run_sliceBound {x : AV} {x' : Value} {n y : Nat} (hx : VR ρ x x') (e : asNat x = some n) (hle : n ≤ y) (code : BoundsCode) (W : World) :
    (Instr.sliceBound x' y code).run P W = .ok n W := by
  obtain ⟨k, hk⟩ := asNat_run (P := P) hx e W
  simp [Instr.sliceBound, hk, hle]

theorem run_sliceBounds {env : AX → AV} {a : Operand → Value} {lo hi mx : Option Operand} {lo' hi' mx' : Option AX} {len cap cap' l hh m : Nat} (isSlice : Bool)
    (hlo : ∀ x, lo = some x → ∃ ax, lo' = some ax ∧ VR ρ (env ax) (a x)) (hlo' : lo = none → lo' = none)
    (hhi : ∀ x, hi = some x → ∃ ax, hi' = some ax ∧ VR ρ (env ax) (a x)) (hhi' : hi = none → hi' = none)
    (hmx : ∀ x, mx = some x → ∃ ax, mx' = some ax ∧ VR ρ (env ax) (a x)) (hmx' : mx = none → mx' = none)
    (hcap : cap ≤ cap') (e : bounds env lo' hi' mx' len cap = some (l, hh, m)) (W : World) :
    l ≤ hh ∧ hh ≤ m ∧ m ≤ cap ∧ ∃ m', (Instr.sliceBounds isSlice len cap' (lo.map a) (hi.map a) (mx.map a)).run P W = .ok (l, hh, m') W ∧ ((mx = none ∧ m' = cap' ∧ m = cap) ∨ (m' = m)) := by
  unfold bounds at e
  simp only [] at e
  split at e
  · rename_i l0 h0 m0 el eh em
    cases hc : (Nat.ble l0 h0 && Nat.ble h0 m0 && Nat.ble m0 cap) with
    | false => simp [hc] at e
    | true =>
      simp only [hc, cond_true, Option.some.injEq, Prod.mk.injEq] at e
      obtain ⟨rfl, rfl, rfl⟩ := e
      simp only [Bool.and_eq_true] at hc
      have i1 := Nat.le_of_ble_eq_true hc.1.1
      have i2 := Nat.le_of_ble_eq_true hc.1.2
      have i3 := Nat.le_of_ble_eq_true hc.2
      refine ⟨i1, i2, i3, ?_⟩
      -- the lower bound
      have low : ∀ (code : BoundsCode), (match lo.map a with | some v => Instr.sliceBound v h0 code | none => pure 0 : Sem Nat).run P W = .ok l0 W := by
        intro code
        cases lo with
        | none => rw [hlo' rfl] at el; simp at el; subst el; simp
        | some x =>
          obtain ⟨ax, h1, h2⟩ := hlo x rfl
          rw [h1] at el
          simp only [Option.map_some]
          exact run_sliceBound h2 el i1 code W
      cases mx with
      | some xm =>
        obtain ⟨am, h1, h2⟩ := hmx xm rfl
        rw [h1] at em
        cases hi with
        | none => rw [hhi' rfl, h1] at eh; simp at eh
        | some xh =>
          obtain ⟨ah, h3, h4⟩ := hhi xh rfl
          rw [h3] at eh
          refine ⟨m0, ?_, .inr rfl⟩
          have r1 := fun code => run_sliceBound (P := P) h2 em (Nat.le_trans i3 hcap) code W
          have r2 := fun code => run_sliceBound (P := P) h4 eh i2 code W
          simp only [Instr.sliceBounds, Option.map_some, Sem.run_bind, r1, r2, Result.andThen_ok, Option.isSome_some, if_true]
          cases lo with
          | none => rw [hlo' rfl] at el; simp at el; subst el; simp
          | some x =>
            have := low .slice3C
            simp only [Option.map_some] at this
            simp [this]
      | none =>
        rw [hmx' rfl] at em eh
        simp only [Option.some.injEq] at em; subst em
        refine ⟨cap', ?_, .inl ⟨rfl, rfl, rfl⟩⟩
        cases hi with
        | none =>
          rw [hhi' rfl] at eh
          simp only [Option.some.injEq] at eh; subst eh
          simp only [Instr.sliceBounds, Option.map_none, Sem.run_bind, Sem.run_pure, Result.andThen_ok, Option.isSome_none]
          cases lo with
          | none => rw [hlo' rfl] at el; simp at el; subst el; simp
          | some x =>
            have := low .sliceB
            simp only [Option.map_some] at this
            simp [this]
        | some xh =>
          obtain ⟨ah, h3, h4⟩ := hhi xh rfl
          rw [h3] at eh
          have r2 := fun code => run_sliceBound (P := P) h4 eh (Nat.le_trans i2 hcap) code W
          simp only [Instr.sliceBounds, Option.map_none, Option.map_some, Sem.run_bind, Sem.run_pure, Result.andThen_ok, Option.isSome_none, r2]
          cases lo with
          | none => rw [hlo' rfl] at el; simp at el; subst el; simp
          | some x =>
            have := low .sliceB
            simp only [Option.map_some] at this
            simp [this]
  · simp at e

end Go.Proofs.Ytofaiipohmeelaa.Am
