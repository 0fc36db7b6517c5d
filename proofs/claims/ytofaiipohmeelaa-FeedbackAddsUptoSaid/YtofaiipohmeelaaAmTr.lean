/-
  The abstract machine: laws of its trees.
-/
import Derived.Test.YtofaiipohmeelaaAmDef
namespace Go.Proofs.Ytofaiipohmeelaa.Am

theorem nbeq (a b : Nat) : Nat.beq a b = decide (a = b) := by
  by_cases h : a = b
  · subst h; simp [Nat.beq_refl]
  · rw [decide_eq_false h]
    cases hb : Nat.beq a b
    · rfl
    · exact absurd (Nat.eq_of_beq_eq_true hb) h

theorem Tr.get_nil {α : Type} (i : Nat) : (Tr.nil : Tr α).get i = none := rfl

theorem Tr.get_putF {α : Type} : ∀ (n : Nat) (t : Tr α) (i j : Nat) (x : Option α), i < n → (t.putF n i x).get j = if i = j then x else t.get j := by
  intro n
  induction n with
  | zero => intro t i j x h; omega
  | succ n ih =>
    intro t i j x h
    cases t with
    | nil =>
      cases i with
      | zero =>
        cases j with
        | zero => simp [Tr.putF, Tr.get]
        | succ j => simp only [Tr.putF, Tr.get]; cases (j % 2).beq 0 <;> simp
      | succ i =>
        have hi : i / 2 < n := by omega
        simp only [Tr.putF]
        cases j with
        | zero => cases h1 : (i % 2).beq 0 <;> simp [Tr.get]
        | succ j =>
          cases h1 : (i % 2).beq 0 <;> cases h2 : (j % 2).beq 0 <;> simp only [cond_true, cond_false, Tr.get, h2, ih _ _ _ _ hi] <;>
            simp only [nbeq, decide_eq_true_eq, decide_eq_false_iff_not] at h1 h2 <;> by_cases h3 : i = j <;> by_cases h4 : i / 2 = j / 2 <;> simp [h3, h4] <;> omega
    | node v l r =>
      cases i with
      | zero =>
        cases j with
        | zero => simp [Tr.putF, Tr.get]
        | succ j => simp only [Tr.putF, Tr.get]; cases (j % 2).beq 0 <;> simp
      | succ i =>
        have hi : i / 2 < n := by omega
        simp only [Tr.putF]
        cases j with
        | zero => cases h1 : (i % 2).beq 0 <;> simp [Tr.get]
        | succ j =>
          cases h1 : (i % 2).beq 0 <;> cases h2 : (j % 2).beq 0 <;> simp only [cond_true, cond_false, Tr.get, h2, ih _ _ _ _ hi] <;>
            simp only [nbeq, decide_eq_true_eq, decide_eq_false_iff_not] at h1 h2 <;> by_cases h3 : i = j <;> by_cases h4 : i / 2 = j / 2 <;> simp [h3, h4] <;> omega

theorem Tr.get_put {α : Type} (t : Tr α) (i j : Nat) (x : Option α) : (t.put i x).get j = if i = j then x else t.get j :=
  Tr.get_putF _ _ _ _ _ (Nat.lt_succ_self i)

theorem Tr.get_put_self {α : Type} (t : Tr α) (i : Nat) (x : Option α) : (t.put i x).get i = x := by simp [Tr.get_put]

theorem Tr.get_put_ne {α : Type} (t : Tr α) (i j : Nat) (x : Option α) (h : i ≠ j) : (t.put i x).get j = t.get j := by simp [Tr.get_put, h]

theorem Tr.get_tabF {α : Type} : ∀ (k n : Nat) (f : Nat → α) (i : Nat), n ≤ k → (Tr.tabF k n f).get i = if i < n then some (f i) else none := by
  intro k
  induction k with
  | zero => intro n f i h; have : n = 0 := by omega
            subst this; simp [Tr.tabF, Tr.get]
  | succ k ih =>
    intro n f i h
    cases n with
    | zero => simp [Tr.tabF, Tr.get]
    | succ n =>
      simp only [Tr.tabF]
      cases i with
      | zero => simp [Tr.get]
      | succ i =>
        cases h1 : (i % 2).beq 0
        · simp only [Tr.get, h1, cond_false]
          rw [ih _ _ _ (by omega)]
          simp only [nbeq, decide_eq_false_iff_not] at h1
          by_cases h2 : i / 2 < n / 2
          · have h3 : i + 1 < n + 1 := by omega
            rw [if_pos h2, if_pos h3]
            congr 2
            omega
          · have h3 : ¬ i + 1 < n + 1 := by omega
            rw [if_neg h2, if_neg h3]
        · simp only [Tr.get, h1, cond_true]
          rw [ih _ _ _ (by omega)]
          simp only [nbeq, decide_eq_true_eq] at h1
          by_cases h2 : i / 2 < (n + 1) / 2
          · have h3 : i + 1 < n + 1 := by omega
            rw [if_pos h2, if_pos h3]
            congr 2
            omega
          · have h3 : ¬ i + 1 < n + 1 := by omega
            rw [if_neg h2, if_neg h3]

theorem Tr.get_tab {α : Type} (n : Nat) (f : Nat → α) (i : Nat) : (Tr.tab n f).get i = if i < n then some (f i) else none :=
  Tr.get_tabF n n f i (Nat.le_refl _)

theorem Tr.get_putList {α : Type} : ∀ (l : List α) (t : Tr α) (i j : Nat), (t.putList i l).get j = if i ≤ j ∧ j < i + l.length then l[j - i]? else t.get j := by
  intro l
  induction l with
  | nil =>
    intro t i j
    have h : ¬ (i ≤ j ∧ j < i + ([] : List α).length) := by simp only [List.length_nil]; omega
    rw [if_neg h]; rfl
  | cons x xs ih =>
    intro t i j
    simp only [Tr.putList, ih, Tr.get_put, List.length_cons]
    by_cases h1 : i = j
    · subst h1
      rw [if_neg (by omega), if_pos rfl, if_pos (by omega)]
      simp
    · rw [if_neg h1]
      by_cases h2 : i + 1 ≤ j ∧ j < i + 1 + xs.length
      · rw [if_pos h2, if_pos (by omega)]
        have h3 : j - i = (j - (i + 1)) + 1 := by omega
        rw [h3]; simp
      · rw [if_neg h2, if_neg (by omega)]

theorem Heap.get_new (h : Heap) (x : ABlk) (b : Nat) : (h.new x).get b = if h.next = b then some x else h.get b := by
  simp [Heap.new, Heap.get, Tr.get_put]

theorem Heap.get_turn (h : Heap) (b : Nat) (x : Option ABlk) (c : Nat) : (h.turn b x).get c = if b = c then x else h.get c := by
  simp [Heap.turn, Heap.get, Tr.get_put]

theorem Heap.next_new (h : Heap) (x : ABlk) : (h.new x).next = h.next + 1 := rfl
theorem Heap.next_turn (h : Heap) (b : Nat) (x : Option ABlk) : (h.turn b x).next = h.next := rfl

/-- What `readCells` reads. -/
theorem readCells_spec : ∀ (n : Nat) (cells : Tr AV) (off : Nat) (l : List AV), readCells cells off n = some l → l.length = n ∧ ∀ i, i < n → cells.get (off + i) = l[i]? := by
  intro n
  induction n with
  | zero => intro cells off l h; simp [readCells] at h; subst h; simp
  | succ n ih =>
    intro cells off l h
    simp only [readCells] at h
    cases hc : cells.get off with
    | none => simp [hc] at h
    | some v =>
      simp only [hc] at h
      cases hr : readCells cells (off + 1) n with
      | none => simp [hr] at h
      | some r =>
        simp only [hr, Option.map_some, Option.some.injEq] at h
        subst h
        obtain ⟨h1, h2⟩ := ih _ _ _ hr
        refine ⟨by simp [h1], fun i hi => ?_⟩
        cases i with
        | zero => simpa using hc
        | succ i => have := h2 i (by omega); rw [show off + (i + 1) = off + 1 + i from by omega, this]; simp

theorem readCells_of : ∀ (l : List AV) (cells : Tr AV) (off : Nat), (∀ i, i < l.length → cells.get (off + i) = l[i]?) → readCells cells off l.length = some l := by
  intro l
  induction l with
  | nil => intro cells off _; rfl
  | cons x xs ih =>
    intro cells off h
    have h0 := h 0 (by simp)
    simp only [Nat.add_zero, List.getElem?_cons_zero] at h0
    simp only [List.length_cons, readCells, h0]
    rw [ih cells (off + 1) (fun i hi => by
      have := h (i + 1) (by simp; omega)
      rw [show off + 1 + i = off + (i + 1) from by omega, this]; simp)]
    rfl

end Go.Proofs.Ytofaiipohmeelaa.Am
