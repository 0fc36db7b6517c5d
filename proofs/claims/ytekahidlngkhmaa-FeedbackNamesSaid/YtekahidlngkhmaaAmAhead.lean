/-
  The abstract machine: what stands ahead of what in a region whose order is open.
-/
import Derived.Test.YtekahidlngkhmaaAmReg
namespace Go.Proofs.Ytekahidlngkhmaa.Am

def bF (acc : Array Nat) (o : Oper) : Nat :=
  o.after.foldl (fun s e => if Region.binds .any e then s ||| 2 ^ e.on ||| acc.getD e.on 0 else s) 0

theorem bF_bit (acc : Array Nat) (i : Nat) : ∀ (l : List Edge) (s : Nat), (l.foldl (fun s e => if Region.binds .any e then s ||| 2 ^ e.on ||| acc.getD e.on 0 else s) s).testBit i = true →
    s.testBit i = true ∨ ∃ e ∈ l, Region.binds .any e = true ∧ (i = e.on ∨ (acc.getD e.on 0).testBit i = true)
  | [], s, h => .inl h
  | e :: l, s, h => by
    simp only [List.foldl_cons] at h
    rcases bF_bit acc i l _ h with h1 | ⟨e', he', h2⟩
    · by_cases hb : Region.binds .any e = true
      · rw [if_pos hb] at h1
        simp only [Nat.testBit_or, Bool.or_eq_true] at h1
        rcases h1 with (h1 | h1) | h1
        · exact .inl h1
        · refine .inr ⟨e, by simp, hb, .inl ?_⟩
          rw [Nat.testBit_two_pow] at h1
          simpa using (of_decide_eq_true h1).symm
        · exact .inr ⟨e, by simp, hb, .inr h1⟩
      · rw [if_neg hb] at h1; exact .inl h1
    · exact .inr ⟨e', by simp [he'], h2⟩

def bL (l : List Oper) : Array Nat := l.foldl (fun acc o => acc.push (bF acc o)) #[]

theorem bL_snoc (l : List Oper) (o : Oper) : bL (l ++ [o]) = (bL l).push (bF (bL l) o) := by simp [bL]

theorem bL_size : ∀ (n : Nat) (l : List Oper), l.length = n → (bL l).size = n := by
  intro n
  induction n with
  | zero => intro l h; have : l = [] := List.eq_nil_of_length_eq_zero h; subst this; rfl
  | succ n ih =>
    intro l h
    have hne : l ≠ [] := by intro e; subst e; simp at h
    rw [← List.dropLast_concat_getLast hne, bL_snoc, Array.size_push, ih _ (by simp [h])]

theorem bL_inv : ∀ (n : Nat) (l : List Oper), l.length = n → ∀ j i, ((bL l).getD j 0).testBit i = true →
    ∃ o e, l[j]? = some o ∧ e ∈ o.after.toList ∧ Region.binds .any e = true ∧ (i = e.on ∨ (e.on < j ∧ ((bL l).getD e.on 0).testBit i = true)) := by
  intro n
  induction n with
  | zero => intro l h j i hb; have : l = [] := List.eq_nil_of_length_eq_zero h; subst this; simp [bL] at hb
  | succ n ih =>
    intro l h j i hb
    have hne : l ≠ [] := by intro e; subst e; simp at h
    have hl := List.dropLast_concat_getLast hne
    generalize hd : l.dropLast = d at hl
    generalize ho : l.getLast hne = o at hl
    have hdl : d.length = n := by rw [← hd]; simp [h]
    have hsz := bL_size n d hdl
    rw [← hl] at hb ⊢
    rw [bL_snoc] at hb ⊢
    have hget : ∀ k, ((bL d).push (bF (bL d) o)).getD k 0 = if k < n then (bL d).getD k 0 else if k = n then bF (bL d) o else 0 := by
      intro k
      simp only [Array.getD_eq_getD_getElem?, Array.getElem?_push, hsz]
      by_cases h1 : k = n
      · subst h1; simp
      · by_cases h2 : k < n
        · simp [h1, h2]
        · rw [if_neg h1, if_neg h2, if_neg h1, Array.getElem?_eq_none (by omega)]; rfl
    rw [hget] at hb
    by_cases h1 : j < n
    · rw [if_pos h1] at hb
      obtain ⟨o', e, h2, h3, h4, h5⟩ := ih d hdl j i hb
      refine ⟨o', e, by rw [List.getElem?_append_left (by omega)]; exact h2, h3, h4, h5.imp id fun ⟨h6, h7⟩ => ⟨h6, ?_⟩⟩
      rw [hget, if_pos (by omega)]; exact h7
    · rw [if_neg h1] at hb
      by_cases h2 : j = n
      · subst h2
        rw [if_pos rfl] at hb
        unfold bF at hb
        rw [← Array.foldl_toList] at hb
        rcases bF_bit _ i _ 0 hb with h3 | ⟨e, he, hbe, h4⟩
        · simp at h3
        · refine ⟨o, e, by rw [List.getElem?_append_right (by omega)]; simp [hdl], he, hbe, h4.imp id fun h5 => ?_⟩
          have hlt : e.on < j := by
            rcases Nat.lt_or_ge e.on j with h6 | h6
            · exact h6
            · rw [Array.getD_eq_getD_getElem?, Array.getElem?_eq_none (by omega)] at h5; simp at h5
          exact ⟨hlt, by rw [hget, if_pos hlt]; exact h5⟩
      · rw [if_neg h2] at hb; simp at hb

theorem before_eq (ops : Array Oper) : Region.before ops = bL ops.toList := by
  unfold Region.before bL
  rw [← Array.foldl_toList]; rfl

/-- All that is ahead of what is listed is listed. -/
theorem ahead_listed {ops : Array Oper} {listed : Nat → Bool} (hcl : ∀ j o e, listed j = true → ops[j]? = some o → e ∈ o.after.toList → Region.binds .any e = true → listed e.on = true) :
    ∀ j i, listed j = true → ahead (Region.before ops) i j = true → listed i = true := by
  intro j
  induction j using Nat.strongRecOn with
  | _ j ih =>
    intro i hj ha
    unfold ahead at ha
    rw [before_eq] at ha
    obtain ⟨o, e, h1, h2, h3, h4⟩ := bL_inv _ ops.toList rfl j i ha
    rw [Array.getElem?_toList] at h1
    have h5 := hcl j o e hj h1 h2 h3
    rcases h4 with rfl | ⟨h6, h7⟩
    · exact h5
    · exact ih e.on h6 i h5 (by unfold ahead; rw [before_eq]; exact h7)

/-- What the cut of a region whose order is open holds. -/
structure DCut (P : Program) (m : Nat) (ops : Array Oper) (dl : List (AOper × Bool)) : Prop where
  len : dl.length = ops.size
  cut : ∀ (k : Nat) ao f, dl[k]? = some (ao, f) → ∃ o, ops[k]? = some o ∧ OperCut P m ops o ao
  bar : ∀ (k i : Nat) ao ao' f', dl[k]? = some (ao, false) → ao.op.free = false → dl[i]? = some (ao', f') → ao'.op.free = false →
    (i < k → ahead (Region.before ops) i k = true) ∧ (k < i → ahead (Region.before ops) k i = true)
  once : ∀ (i j : Nat) o o' s, ops[i]? = some o → ops[j]? = some o' → o.dst = some s → o'.dst = some s → i = j
  look : ∀ (i j : Nat) w o s, ops[i]? = some w → ops[j]? = some o → w.dst = some s → s ∈ looks ops o → i ≠ j → (i < j → ahead (Region.before ops) i j = true) ∧ (j < i → ahead (Region.before ops) j i = true)
  edge : ∀ (i : Nat) o e, ops[i]? = some o → e ∈ o.after.toList → Region.binds .any e = true → e.on < i

theorem distinct_spec : ∀ {l : List (Option Nat)} (_ : distinct (l.filterMap id) = true) (i j s : Nat), l[i]? = some (some s) → l[j]? = some (some s) → i = j
  | [], _, i, j, s, h1, _ => by simp at h1
  | x :: xs, hd, i, j, s, h1, h2 => by
    have mem : ∀ {ys : List (Option Nat)} {k : Nat}, ys[k]? = some (some s) → s ∈ ys.filterMap id := fun {ys k} h => List.mem_filterMap.2 ⟨some s, List.mem_of_getElem? h, rfl⟩
    cases x with
    | none =>
      simp only [List.filterMap_cons, id] at hd
      cases i with
      | zero => simp at h1
      | succ i =>
        cases j with
        | zero => simp at h2
        | succ j => exact congrArg (· + 1) (distinct_spec hd i j s (by simpa using h1) (by simpa using h2))
    | some y =>
      simp only [List.filterMap_cons, id, distinct, Bool.and_eq_true, Bool.not_eq_true', List.contains_eq_mem, decide_eq_false_iff_not] at hd
      cases i with
      | zero =>
        cases j with
        | zero => rfl
        | succ j => simp at h1; subst h1; exact absurd (mem (by simpa using h2)) hd.1
      | succ i =>
        cases j with
        | zero => simp at h2; subst h2; exact absurd (mem (by simpa using h1)) hd.1
        | succ j => exact congrArg (· + 1) (distinct_spec hd.2 i j s (by simpa using h1) (by simpa using h2))

theorem cDraw_spec {P : Program} {m : Nat} {ops : Array Oper} {ac : AC} (e : cDraw P m ops = some ac) : ∃ dl, ac = .dreg dl ∧ DCut P m ops dl := by
  unfold cDraw at e
  split at e
  · simp at e
  · rename_i l hl
    cases hs : slotsOk ops (Region.before ops) with
    | false => simp [hs] at e
    | true =>
      simp only [hs, cond_true, Option.some.injEq] at e
      refine ⟨_, e.symm, ?_⟩
      obtain ⟨h1, h2⟩ := mapM_get hl
      have hlen : l.length = ops.size := by simpa using h1
      have hget : ∀ (k : Nat) ao f, (l.zipIdx.map fun p => (p.1, !p.1.op.free && clash (Region.before ops) (acting l) p.2))[k]? = some (ao, f) → l[k]? = some ao ∧ f = (!ao.op.free && clash (Region.before ops) (acting l) k) := by
        intro k ao f hk
        simp only [List.getElem?_map, Option.map_eq_some_iff, Prod.mk.injEq] at hk
        obtain ⟨p, hp, rfl, rfl⟩ := hk
        rw [List.getElem?_zipIdx] at hp
        simp only [Option.map_eq_some_iff] at hp
        obtain ⟨y, hy, rfl⟩ := hp
        simp [hy]
      unfold slotsOk at hs
      simp only [Bool.and_eq_true, List.all_eq_true, List.mem_range] at hs
      refine ⟨by simp [hlen], fun k ao f hk => ?_, fun k i ao ao' f' hk hf hi hf' => ?_, fun i j o o' s hi hj hd hd' => ?_, fun i j w o s hi hj hd hlk hne => ?_, fun i o e hi he hb => ?_⟩
      · obtain ⟨o, h3, h4⟩ := h2 k ao (hget k ao f hk).1
        exact ⟨o, by rw [← Array.getElem?_toList]; exact h3, cOper_spec h4⟩
      · obtain ⟨g1, g2⟩ := hget k ao false hk
        obtain ⟨g3, g4⟩ := hget i ao' f' hi
        rw [hf] at g2
        simp only [Bool.not_false, Bool.true_and] at g2
        have hmem : i ∈ acting l := by
          unfold acting
          refine List.mem_map.2 ⟨(ao', i), List.mem_filter.2 ⟨?_, by simp [hf']⟩, rfl⟩
          exact List.mem_of_getElem? (i := i) (by rw [List.getElem?_zipIdx, g3]; simp)
        have hno := g2.symm
        unfold clash at hno
        rw [List.any_eq_false] at hno
        have := hno i hmem
        simp only [Bool.and_eq_true, bne_iff_ne, ne_eq, Bool.not_eq_true', not_and, Bool.not_eq_false] at this
        refine ⟨fun hlt => ?_, fun hlt => ?_⟩
        · have h5 := this (by omega); rw [if_pos hlt] at h5; exact h5
        · have h5 := this (by omega); rw [if_neg (by omega)] at h5; exact h5
      · have hd0 : distinct ((ops.toList.map (·.dst)).filterMap id) = true := by
          rw [List.filterMap_map]; exact hs.1
        exact distinct_spec hd0 i j s (by rw [List.getElem?_map, Array.getElem?_toList, hi]; simp [hd]) (by rw [List.getElem?_map, Array.getElem?_toList, hj]; simp [hd'])
      · have hilt := (Array.getElem?_eq_some_iff.1 hi).1
        have hjlt := (Array.getElem?_eq_some_iff.1 hj).1
        have h3 := hs.2 j hjlt
        rw [hj] at h3
        simp only [Bool.and_eq_true, List.all_eq_true, List.mem_range] at h3
        have h4 := h3.2 s hlk i hilt
        rw [hi] at h4
        simp only [hd, bne_self_eq_false, Bool.false_or, Bool.or_eq_true, beq_iff_eq, hne, false_or] at h4
        refine ⟨fun hlt => ?_, fun hlt => ?_⟩
        · rw [if_pos hlt] at h4; exact h4
        · rw [if_neg (by omega)] at h4; exact h4
      · have hilt := (Array.getElem?_eq_some_iff.1 hi).1
        have h3 := hs.2 i hilt
        rw [hi] at h3
        simp only [Bool.and_eq_true, List.all_eq_true] at h3
        have h4 := h3.1 e he
        simpa [hb] using h4

end Go.Proofs.Ytekahidlngkhmaa.Am
