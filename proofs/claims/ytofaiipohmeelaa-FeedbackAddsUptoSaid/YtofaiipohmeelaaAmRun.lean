/-
  The abstract machine: the model's small steps, where the abstract memory says what there is.
-/
import Derived.Test.YtofaiipohmeelaaAmRel
import Derived.Test.YtofaiipohmeelaaAmCut
import Derived.Laws.Tables
namespace Go.Proofs.Ytofaiipohmeelaa.Am
variable {P : Program} {base : Nat} {ρ : Mp} {h : Heap} {W : World}

theorem run_sizeOf {t : TypeId} {n : Nat} (e : tSize P t = some n) (W : World) : (sizeOf t).run P W = .ok n W := by
  unfold tSize at e
  cases hi : P.info? t with
  | none => simp [hi] at e
  | some i => simp [hi] at e; simp [sizeOf, typeInfo, hi, e]

theorem run_isAgg {t : TypeId} {b : Bool} (e : tAgg P t = some b) (W : World) : (isAgg t).run P W = .ok b W := by
  unfold tAgg at e
  cases hu : P.underlying t with
  | none => simp [hu] at e
  | some d => cases d <;> simp [hu] at e <;> simp [isAgg, run_underlying hu, e]

theorem run_bytes {t : TypeId} {n : Nat} (e : tBytes P t = some n) (W : World) : ∃ i, (typeInfo t).run P W = .ok i W ∧ i.bytes = n := by
  unfold tBytes at e
  cases hi : P.info? t with
  | none => simp [hi] at e
  | some i => simp [hi] at e; exact ⟨i, by simp [typeInfo, hi], e⟩

/-- A constant stands for itself. -/
theorem av_sound (ρ : Mp) : ∀ (n : Nat) (v : Value) (z : AV), av n v = some z → VR ρ z v := by
  intro n
  induction n with
  | zero => intro v z e; simp [av] at e
  | succ n ih =>
    have many : ∀ (l : List Value) (r : List AV), l.mapM (av n) = some r → VRs ρ r l := by
      intro l
      induction l with
      | nil => intro r e; simp at e; subst e; exact rfl
      | cons x xs ihl =>
        intro r e
        simp only [List.mapM_cons, Option.bind_eq_bind, Option.pure_def, Option.bind_eq_some_iff] at e
        obtain ⟨y, hy, ys, hys, e⟩ := e
        simp at e; subst e
        exact ⟨x, xs, rfl, ih _ _ hy, ihl _ hys⟩
    intro v z e
    cases v with
    | bool b => simp only [av, Option.some.injEq] at e; subst e; simp [VR]
    | int k m => simp only [av, Option.some.injEq] at e; subst e; simp [VR]
    | float k b => cases k <;> simp [av] at e; subst e; simp [VR]
    | complex k a b => cases k <;> simp [av] at e; subst e; simp [VR]
    | string s => simp only [av, Option.some.injEq] at e; subst e; exact ⟨s, rfl, rfl⟩
    | pointer a => cases a <;> simp [av] at e; subst e; simp [VR]
    | slice a l c =>
      cases a with
      | some a => simp [av] at e
      | none =>
        cases l <;> cases c <;> simp [av] at e
        subst e; simp [VR]
    | map r => cases r <;> simp [av] at e; subst e; simp [VR]
    | chan r => simp [av] at e
    | func fn a b =>
      cases fn <;> simp only [av, reduceCtorEq] at e
      cases h1 : (a.size.beq 0 && b.size.beq 0) with
      | false => simp [h1] at e
      | true =>
        simp [h1] at e; subst e
        simp only [Bool.and_eq_true] at h1
        have ha : a = #[] := Array.eq_empty_of_size_eq_zero (Nat.eq_of_beq_eq_true h1.1)
        have hb : b = #[] := Array.eq_empty_of_size_eq_zero (Nat.eq_of_beq_eq_true h1.2)
        subst ha; subst hb
        exact ⟨_, _, rfl, rfl, rfl⟩
    | nilFunc => simp only [av, Option.some.injEq] at e; subst e; simp [VR]
    | nilIface => simp only [av, Option.some.injEq] at e; subst e; simp [VR]
    | iface t v =>
      simp only [av, Option.map_eq_some_iff] at e
      obtain ⟨x, hx, rfl⟩ := e
      exact ⟨_, rfl, ih _ _ hx⟩
    | agg cs =>
      simp only [av, Option.map_eq_some_iff] at e
      obtain ⟨x, hx, rfl⟩ := e
      exact ⟨_, rfl, many _ _ hx⟩
    | tuple cs =>
      simp only [av, Option.map_eq_some_iff] at e
      obtain ⟨x, hx, rfl⟩ := e
      exact ⟨_, rfl, many _ _ hx⟩

theorem run_zeroV {t : TypeId} {z : AV} (e : tZeroV P t = some z) (ρ : Mp) (W : World) : ∃ v, (zeroValue t).run P W = .ok v W ∧ VR ρ z v := by
  unfold tZeroV at e
  cases hi : P.info? t with
  | none => simp [hi] at e
  | some i =>
    cases hz : i.zero with
    | none => simp [hi, hz] at e
    | some v =>
      simp [hi, hz] at e
      exact ⟨v, by simp [zeroValue, typeInfo, hi, hz], av_sound ρ _ _ _ e⟩

/-- The address behind an abstract one. -/
theorem add_spotless (b o n : Nat) : (⟨b, o, none⟩ : Addr).add n = ⟨b, o + n, none⟩ := by
  unfold Addr.add; split
  · next e => subst e; rfl
  · rfl

theorem Heap.load_spec {b off n : Nat} {l : List AV} (e : h.load b off n = some l) :
    ∃ cells size k own ty, h.get b = some (.row cells size k own ty) ∧ off + n ≤ size ∧ l.length = n ∧ ∀ i, i < n → cells.get (off + i) = l[i]? := by
  unfold Heap.load at e
  cases hb : h.get b with
  | none => simp [hb] at e
  | some x =>
    cases x with
    | map es => simp [hb] at e
    | row cells size k own ty =>
      simp only [hb] at e
      cases hle : Nat.ble (off + n) size with
      | false => simp [hle] at e
      | true =>
        simp only [hle, cond_true] at e
        obtain ⟨h1, h2⟩ := readCells_spec _ _ _ _ e
        exact ⟨cells, size, k, own, ty, rfl, Nat.le_of_ble_eq_true hle, h1, h2⟩

theorem Heap.load_of {b off : Nat} {l : List AV} {cells : Tr AV} {size k : Nat} {own : Bool} {ty : TypeId} (hb : h.get b = some (.row cells size k own ty))
    (hs : off + l.length ≤ size) (hc : ∀ i, i < l.length → cells.get (off + i) = l[i]?) : h.load b off l.length = some l := by
  simp only [Heap.load, hb, Nat.ble_eq_true_of_le hs, cond_true]
  exact readCells_of _ _ _ hc

/-- What is loaded stands in the model's memory, too. -/
theorem load_cells (r : Rel base ρ h W) {b off n : Nat} {g : G} {l : List AV} (hg : ρ b = some g) (e : h.load b off n = some l) :
    ∃ l' : List Value, l'.length = n ∧ VRs ρ l l' ∧ ∀ i, i < n → W.cell? ⟨g.blk, g.off + off + i, none⟩ = l'[i]? := by
  obtain ⟨cells, size, k, own, ty, hb, hs, hl, hc⟩ := Heap.load_spec e
  obtain ⟨_, _, arr, el, fr, hW, hsz, hfit, _, hcell⟩ := r.blk b _ g hb hg
  have hbig : g.off + off + n ≤ arr.size := by omega
  refine ⟨(arr.toList.drop (g.off + off)).take n, ?_, ?_, ?_⟩
  · simp; omega
  · refine VRs.of_get (by simp; omega) fun i v v' hv hv' => ?_
    have hi : i < n := by
      rcases Nat.lt_or_ge i n with h1 | h1
      · exact h1
      · rw [List.getElem?_eq_none (by omega)] at hv; simp at hv
    have h1 := hc i hi
    rw [hv] at h1
    obtain ⟨u, hu, hr⟩ := hcell (off + i) v (by omega) h1
    rw [List.getElem?_take_of_lt hi, List.getElem?_drop] at hv'
    have : arr.toList[g.off + off + i]? = some u := by
      rw [Array.getElem?_toList]; rw [← hu]; congr 1; omega
    rw [this] at hv'; simp at hv'; subst hv'; exact hr
  · intro i hi
    rw [List.getElem?_take_of_lt hi, List.getElem?_drop, Array.getElem?_toList]
    simp [World.cell?, hW]

theorem run_loadCellsFrom {P : Program} {W : World} {blk off : Nat} : ∀ (n i : Nat) (l : List Value) (acc : Array Value), l.length = n →
    (∀ j, j < n → W.cell? ⟨blk, off + i + j, none⟩ = l[j]?) → (loadCellsFrom ⟨blk, off, none⟩ i n acc).run P W = .ok (acc ++ l.toArray) W := by
  intro n
  induction n with
  | zero => intro i l acc hl _; have : l = [] := List.eq_nil_of_length_eq_zero hl; subst this; simp [loadCellsFrom]
  | succ n ih =>
    intro i l acc hl hc
    cases l with
    | nil => simp at hl
    | cons x xs =>
      have h0 := hc 0 (by omega)
      simp only [Nat.add_zero, List.getElem?_cons_zero] at h0
      have h1 := ih (i + 1) xs (acc.push x) (by simpa using hl) (fun j hj => by
        have := hc (j + 1) (by omega)
        rw [show off + (i + 1) + j = off + i + (j + 1) from by omega, this]; simp)
      simp only [loadCellsFrom, add_spotless, Sem.run_bind, run_load, h0, Result.andThen_ok, h1]
      simp

theorem run_loadCells (r : Rel base ρ h W) {b off n : Nat} {g : G} {l : List AV} (hg : ρ b = some g) (e : h.load b off n = some l) :
    ∃ l' : Array Value, (loadCells ⟨g.blk, g.off + off, none⟩ n).run P W = .ok l' W ∧ VRs ρ l l'.toList := by
  obtain ⟨l', h1, h2, h3⟩ := load_cells r hg e
  refine ⟨l'.toArray, ?_, by simpa using h2⟩
  unfold loadCells
  have := run_loadCellsFrom (P := P) (W := W) (blk := g.blk) (off := g.off + off) n 0 l' #[] h1 (fun j hj => by simpa using h3 j hj)
  simpa using this

theorem run_loadVar (r : Rel base ρ h W) {t : TypeId} {b off n : Nat} {g : G} {agg : Bool} {l : List AV} {v : AV} (hg : ρ b = some g) (e : h.load b off n = some l)
    (hv : asVal agg l = some v) (hs : tSize P t = some n) (ha : tAgg P t = some agg) :
    ∃ v', (loadVar t ⟨g.blk, g.off + off, none⟩).run P W = .ok v' W ∧ VR ρ v v' := by
  cases agg with
  | true =>
    obtain ⟨l', h1, h2⟩ := run_loadCells (P := P) r hg e
    simp [asVal] at hv; subst hv
    exact ⟨.agg l', by simp [loadVar, run_isAgg ha, run_sizeOf hs, h1], ⟨l', rfl, h2⟩⟩
  | false =>
    obtain ⟨l', h1, h2, h3⟩ := load_cells r hg e
    match l, hv with
    | [x], hv =>
      simp [asVal] at hv; subst hv
      simp only [VRs] at h2
      obtain ⟨w, ws, rfl, hw, rfl⟩ := h2
      have h0 := h3 0 (by simp at h1; omega)
      simp only [Nat.add_zero, List.getElem?_cons_zero] at h0
      exact ⟨w, by simp [loadVar, run_isAgg ha, h0], hw⟩

theorem run_part {t : TypeId} {n off : Nat} {agg : Bool} {cs : List AV} {cs' : Array Value} {v : AV} (hc : VRs ρ cs cs'.toList)
    (hv : partOf agg cs off n = some v) (hs : tSize P t = some n) (ha : tAgg P t = some agg) (W : World) :
    ∃ v', (part t cs' off).run P W = .ok v' W ∧ VR ρ v v' := by
  cases agg with
  | true =>
    simp [partOf] at hv; subst hv
    refine ⟨.agg (cs'.extract off (off + n)), by simp [part, run_isAgg ha, run_sizeOf hs], ⟨_, rfl, ?_⟩⟩
    have := (hc.drop off).take n
    rw [Array.toList_extract, List.extract_eq_take_drop]
    simpa using this
  | false =>
    simp only [partOf, cond_false] at hv
    cases hd : cs.drop off with
    | nil => simp [hd] at hv
    | cons x xs =>
      simp [hd] at hv; subst hv
      have h0 : cs[off]? = some x := by
        have := List.getElem?_drop (xs := cs) (i := off) (j := 0)
        rw [hd] at this; simpa using this.symm
      obtain ⟨v', e, hr⟩ := hc.get off x h0
      rw [Array.getElem?_toList] at e
      exact ⟨v', by simp [part, run_isAgg ha, e], hr⟩

end Go.Proofs.Ytofaiipohmeelaa.Am
