/-
  The abstract machine: what stands ahead of what in a region whose order is open.
-/
import Derived.Test.YtofaiipohmeelaaAmReg
namespace Go.Proofs.Ytofaiipohmeelaa.Am

def bF (acc : Array Nat) (o : Oper) : Nat :=
  o.after.foldl (fun s e => if Region.binds .any e then s ||| 2 ^ e.on ||| acc.getD e.on 0 else s) 0

theorem bF_bit (acc : Array Nat) (i : Nat) : ∀ (l : List Edge) (s : Nat), (l.foldl (fun s e => if Region.binds .any e then s ||| 2 ^ e.on ||| acc.getD e.on 0 else s) s).testBit i = true →
    s.testBit i = true ∨ ∃ e ∈ l, Region.binds .any e = true ∧ (i = e.on ∨ (acc.getD e.on 0).testBit i = true)
  | [], s, h => .inl h
  | e :: l, s, h => by
    simp only [List.foldl_cons] at h
    rcases bF_bit acc i l _ h with h1 | ⟨e', he', h2⟩
    · by_cases hb : Region.binds .any e = true
      · rw [if_pos hb] at h1
        simp only [Nat.testBit_or, Bool.or_eq_true] at h1
        rcases h1 with (h1 | h1) | h1
        · exact .inl h1
        · refine .inr ⟨e, by simp, hb, .inl ?_⟩
          rw [Nat.testBit_two_pow] at h1
          simpa using (of_decide_eq_true h1).symm
        · exact .inr ⟨e, by simp, hb, .inr h1⟩
      · rw [if_neg hb] at h1; exact .inl h1
    · exact .inr ⟨e', by simp [he'], h2⟩

def bL (l : List Oper) : Array Nat := l.foldl (fun acc o => acc.push (bF acc o)) #[]

theorem bL_snoc (l : List Oper) (o : Oper) : bL (l ++ [o]) = (bL l).push (bF (bL l) o) := by simp [bL]

theorem bL_size : ∀ (n : Nat) (l : List Oper), l.length = n → (bL l).size = n := by
  intro n
  induction n with
  | zero => intro l h; have : l = [] := List.eq_nil_of_length_eq_zero h; subst this; rfl
  | succ n ih =>
    intro l h
    have hne : l ≠ [] := by intro e; subst e; simp at h
    rw [← List.dropLast_concat_getLast hne, bL_snoc, Array.size_push, ih _ (by simp [h])]

theorem bL_inv : ∀ (n : Nat) (l : List Oper), l.length = n → ∀ j i, ((bL l).getD j 0).testBit i = true →
    ∃ o e, l[j]? = some o ∧ e ∈ o.after.toList ∧ Region.binds .any e = true ∧ (i = e.on ∨ (e.on < j ∧ ((bL l).getD e.on 0).testBit i = true)) := by
  intro n
  induction n with
  | zero => intro l h j i hb; have : l = [] := List.eq_nil_of_length_eq_zero h; subst this; simp [bL] at hb
  | succ n ih =>
    intro l h j i hb
    have hne : l ≠ [] := by intro e; subst e; simp at h
    have hl := List.dropLast_concat_getLast hne
    generalize hd : l.dropLast = d at hl
    generalize ho : l.getLast hne = o at hl
    have hdl : d.length = n := by rw [← hd]; simp [h]
    have hsz := bL_size n d hdl
    rw [← hl] at hb ⊢
    rw [bL_snoc] at hb ⊢
    have hget : ∀ k, ((bL d).push (bF (bL d) o)).getD k 0 = if k < n then (bL d).getD k 0 else if k = n then bF (bL d) o else 0 := by
      intro k
      simp only [Array.getD_eq_getD_getElem?, Array.getElem?_push, hsz]
      by_cases h1 : k = n
      · subst h1; simp
      · by_cases h2 : k < n
        · simp [h1, h2]
        · rw [if_neg h1, if_neg h2, if_neg h1, Array.getElem?_eq_none (by omega)]; rfl
    rw [hget] at hb
    by_cases h1 : j < n
    · rw [if_pos h1] at hb
      obtain ⟨o', e, h2, h3, h4, h5⟩ := ih d hdl j i hb
      refine ⟨o', e, by rw [List.getElem?_append_left (by omega)]; exact h2, h3, h4, h5.imp id fun ⟨h6, h7⟩ => ⟨h6, ?_⟩⟩
      rw [hget, if_pos (by omega)]; exact h7
    · rw [if_neg h1] at hb
      by_cases h2 : j = n
      · subst h2
        rw [if_pos rfl] at hb
        unfold bF at hb
        rw [← Array.foldl_toList] at hb
        rcases bF_bit _ i _ 0 hb with h3 | ⟨e, he, hbe, h4⟩
        · simp at h3
        · refine ⟨o, e, by rw [List.getElem?_append_right (by omega)]; simp [hdl], he, hbe, h4.imp id fun h5 => ?_⟩
          have hlt : e.on < j := by
            rcases Nat.lt_or_ge e.on j with h6 | h6
            · exact h6
            · rw [Array.getD_eq_getD_getElem?, Array.getElem?_eq_none (by omega)] at h5; simp at h5
          exact ⟨hlt, by rw [hget, if_pos hlt]; exact h5⟩
      · rw [if_neg h2] at hb; simp at hb

theorem before_eq (ops : Array Oper) : Region.before ops = bL ops.toList := by
  unfold Region.before bL
  rw [← Array.foldl_toList]; rfl

/-- All that is ahead of what is listed is listed. -/
theorem ahead_listed {ops : Array Oper} {listed : Nat → Bool} (hcl : ∀ j o e, listed j = true → ops[j]? = some o → e ∈ o.after.toList → Region.binds .any e = true → listed e.on = true) :
    ∀ j i, listed j = true → ahead (Region.before ops) i j = true → listed i = true := by
  intro j
  induction j using Nat.strongRecOn with
  | _ j ih =>
    intro i hj ha
    unfold ahead at ha
    rw [before_eq] at ha
    obtain ⟨o, e, h1, h2, h3, h4⟩ := bL_inv _ ops.toList rfl j i ha
    rw [Array.getElem?_toList] at h1
    have h5 := hcl j o e hj h1 h2 h3
    rcases h4 with rfl | ⟨h6, h7⟩
    · exact h5
    · exact ih e.on h6 i h5 (by unfold ahead; rw [before_eq]; exact h7)

def isB (p : AOper × Md) : Prop := p.1.op.free = false ∧ (p.2 = .plain ∨ p.2 = .mark)
def isN (p : AOper × Md) : Prop := p.1.op.free = false ∧ p.2 ≠ .quiet

theorem isB.isN {p : AOper × Md} (h : isB p) : isN p := ⟨h.1, by rcases h.2 with e | e <;> rw [e] <;> simp⟩

/-- What the cut of a region whose order is open holds. -/
structure DCut (P : Program) (m : Nat) (ops : Array Oper) (dl : List (AOper × Md)) : Prop where
  len : dl.length = ops.size
  cut : ∀ (k : Nat) ao f, dl[k]? = some (ao, f) → ∃ o, ops[k]? = some o ∧ OperCut P m ops o ao
  bar : ∀ (k i : Nat) p p', dl[k]? = some p → isB p → dl[i]? = some p' → isN p' →
    (i < k → ahead (Region.before ops) i k = true) ∧ (k < i → ahead (Region.before ops) k i = true)
  mark : ∀ (k i : Nat) p ao', dl[k]? = some p → isB p → dl[i]? = some (ao', .quiet) →
    p.2 = .mark ∨ ((i < k → ahead (Region.before ops) i k = true) ∧ (k < i → ahead (Region.before ops) k i = true))
  quiet : ∀ (i : Nat) ao', dl[i]? = some (ao', .quiet) → ao'.op.isQuiet = true
  fre : ∀ (i : Nat) ao' md, dl[i]? = some (ao', md) → ao'.op.free = true → md = .plain
  once : ∀ (i j : Nat) o o' s, ops[i]? = some o → ops[j]? = some o' → o.dst = some s → o'.dst = some s → i = j
  look : ∀ (i j : Nat) w o s, ops[i]? = some w → ops[j]? = some o → w.dst = some s → s ∈ looks ops o → i ≠ j → (i < j → ahead (Region.before ops) i j = true) ∧ (j < i → ahead (Region.before ops) j i = true)
  edge : ∀ (i : Nat) o e, ops[i]? = some o → e ∈ o.after.toList → Region.binds .any e = true → e.on < i

theorem distinct_spec : ∀ {l : List (Option Nat)} (_ : distinct (l.filterMap id) = true) (i j s : Nat), l[i]? = some (some s) → l[j]? = some (some s) → i = j
  | [], _, i, j, s, h1, _ => by simp at h1
  | x :: xs, hd, i, j, s, h1, h2 => by
    have mem : ∀ {ys : List (Option Nat)} {k : Nat}, ys[k]? = some (some s) → s ∈ ys.filterMap id := fun {ys k} h => List.mem_filterMap.2 ⟨some s, List.mem_of_getElem? h, rfl⟩
    cases x with
    | none =>
      simp only [List.filterMap_cons, id] at hd
      cases i with
      | zero => simp at h1
      | succ i =>
        cases j with
        | zero => simp at h2
        | succ j => exact congrArg (· + 1) (distinct_spec hd i j s (by simpa using h1) (by simpa using h2))
    | some y =>
      simp only [List.filterMap_cons, id, distinct, Bool.and_eq_true, Bool.not_eq_true', List.contains_eq_mem, decide_eq_false_iff_not] at hd
      cases i with
      | zero =>
        cases j with
        | zero => rfl
        | succ j => simp at h1; subst h1; exact absurd (mem (by simpa using h2)) hd.1
      | succ i =>
        cases j with
        | zero => simp at h2; subst h2; exact absurd (mem (by simpa using h1)) hd.1
        | succ j => exact congrArg (· + 1) (distinct_spec hd.2 i j s (by simpa using h1) (by simpa using h2))

theorem clash_spec {b : Array Nat} {l : List Nat} {k i : Nat} (h : clash b l k = false) (hi : i ∈ l) (hne : i ≠ k) : (i < k → ahead b i k = true) ∧ (k < i → ahead b k i = true) := by
  unfold clash at h
  rw [List.any_eq_false] at h
  have := h i hi
  simp only [Bool.and_eq_true, bne_iff_ne, ne_eq, Bool.not_eq_true', not_and, Bool.not_eq_false] at this
  have h5 := this hne
  refine ⟨fun hlt => ?_, fun hlt => ?_⟩
  · rw [if_pos hlt] at h5; exact h5
  · rw [if_neg (by omega)] at h5; exact h5

theorem zip_get {l : List AOper} {g : AOper × Nat → Md} {k : Nat} {p : AOper × Md} (hk : (l.zipIdx.map fun p => (p.1, g p))[k]? = some p) : l[k]? = some p.1 ∧ p.2 = g (p.1, k) := by
  simp only [List.getElem?_map, Option.map_eq_some_iff] at hk
  obtain ⟨q, hp, rfl⟩ := hk
  rw [List.getElem?_zipIdx] at hp
  simp only [Option.map_eq_some_iff] at hp
  obtain ⟨y, hy, rfl⟩ := hp
  simp [hy]

theorem mem_acting {l : List AOper} {i : Nat} {ao : AOper} (h : l[i]? = some ao) (hf : ao.op.free = false) : i ∈ acting l := by
  unfold acting
  refine List.mem_map.2 ⟨(ao, i), List.mem_filter.2 ⟨?_, by simp [hf]⟩, rfl⟩
  exact List.mem_of_getElem? (i := i) (by rw [List.getElem?_zipIdx, h]; simp)

/-- What marks must hold. -/
structure MarksOk (b : Array Nat) (l : List AOper) (dl : List (AOper × Md)) : Prop where
  len : dl.length = l.length
  get : ∀ (k : Nat) (p : AOper × Md), dl[k]? = some p → l[k]? = some p.1
  bar : ∀ (k i : Nat) p p', dl[k]? = some p → isB p → dl[i]? = some p' → isN p' → (i < k → ahead b i k = true) ∧ (k < i → ahead b k i = true)
  mark : ∀ (k i : Nat) p ao', dl[k]? = some p → isB p → dl[i]? = some (ao', .quiet) → p.2 = .mark ∨ ((i < k → ahead b i k = true) ∧ (k < i → ahead b k i = true))
  quiet : ∀ (i : Nat) ao', dl[i]? = some (ao', .quiet) → ao'.op.isQuiet = true
  fre : ∀ (i : Nat) ao' md, dl[i]? = some (ao', md) → ao'.op.free = true → md = .plain

theorem marks1_ok (b : Array Nat) (l : List AOper) : MarksOk b l (marks1 b l) := by
  refine ⟨by simp [marks1], fun k p hk => (zip_get hk).1, fun k i p p' hk hB hi hN => ?_, fun k i p ao' hk hB hi => ?_, fun i ao' hi => ?_, fun i ao' md hi hf => ?_⟩
  · obtain ⟨g1, g2⟩ := zip_get hk
    obtain ⟨g3, g4⟩ := zip_get hi
    by_cases hne : i = k
    · subst hne; exact ⟨fun h => by omega, fun h => by omega⟩
    · refine clash_spec ?_ (mem_acting g3 hN.1) hne
      rw [hB.1] at g2
      cases hc : clash b (acting l) k with
      | false => rfl
      | true =>
        simp only [hc, Bool.not_false, Bool.and_true, cond_true] at g2
        rcases hB.2 with e | e <;> rw [e] at g2 <;> simp at g2
  · have := (zip_get hi).2
    simp only at this
    cases hc : (!ao'.op.free && clash b (acting l) i) <;> rw [hc] at this <;> simp at this
  · have := (zip_get hi).2
    simp only at this
    cases hc : (!ao'.op.free && clash b (acting l) i) <;> rw [hc] at this <;> simp at this
  · have := (zip_get hi).2
    simp only [hf, Bool.not_true, Bool.false_and, cond_false] at this; exact this

theorem mem_quiets {b : Array Nat} {l : List AOper} {i : Nat} (h : i ∈ quiets b l) : ∃ ao, l[i]? = some ao ∧ ao.op.isQuiet = true := by
  unfold quiets at h
  obtain ⟨q, h1, rfl⟩ := List.mem_map.1 h
  obtain ⟨h2, h3⟩ := List.mem_filter.1 h1
  obtain ⟨k, hk⟩ := List.getElem?_of_mem h2
  rw [List.getElem?_zipIdx] at hk
  simp only [Option.map_eq_some_iff] at hk
  obtain ⟨y, hy, rfl⟩ := hk
  simp only [Bool.and_eq_true] at h3
  exact ⟨y, by simpa using hy, h3.1⟩

theorem marks2_ok (b : Array Nat) (l : List AOper) : MarksOk b l (marks2 b l) := by
  have cases4 : ∀ (k : Nat) (p : AOper × Md), (marks2 b l)[k]? = some p → l[k]? = some p.1 ∧ ((p.1.op.free = true ∧ p.2 = .plain) ∨ (p.1.op.free = false ∧ k ∈ quiets b l ∧ p.2 = .quiet) ∨
      (p.1.op.free = false ∧ k ∉ quiets b l ∧ p.2 = .alone) ∨ (p.1.op.free = false ∧ k ∉ quiets b l ∧ clash b ((acting l).filter fun i => !(quiets b l).contains i) k = false ∧ (p.2 = .mark ∨ (clash b (quiets b l) k = false ∧ p.2 = .plain)))) := by
    intro k p hk
    obtain ⟨g1, g2⟩ := zip_get hk
    refine ⟨g1, ?_⟩
    cases hf : p.1.op.free with
    | true => rw [hf] at g2; exact .inl ⟨rfl, g2⟩
    | false =>
      rw [hf] at g2; simp only [cond_false] at g2
      by_cases hq : k ∈ quiets b l
      · have : (quiets b l).contains k = true := List.contains_iff_mem.2 hq
        rw [this] at g2; exact .inr (.inl ⟨rfl, hq, g2⟩)
      · have : (quiets b l).contains k = false := by
          cases h : (quiets b l).contains k with
          | false => rfl
          | true => exact absurd (List.contains_iff_mem.1 h) hq
        rw [this] at g2; simp only [cond_false] at g2
        cases hc : clash b ((acting l).filter fun i => !(quiets b l).contains i) k with
        | true => rw [hc] at g2; exact .inr (.inr (.inl ⟨rfl, hq, g2⟩))
        | false =>
          rw [hc] at g2; simp only [cond_false] at g2
          cases hc2 : clash b (quiets b l) k with
          | true => rw [hc2] at g2; exact .inr (.inr (.inr ⟨rfl, hq, rfl, .inl g2⟩))
          | false => rw [hc2] at g2; exact .inr (.inr (.inr ⟨rfl, hq, rfl, .inr ⟨rfl, g2⟩⟩))
  have barc : ∀ (k : Nat) (p : AOper × Md), (marks2 b l)[k]? = some p → isB p → k ∉ quiets b l ∧ clash b ((acting l).filter fun i => !(quiets b l).contains i) k = false ∧ (p.2 = .mark ∨ (clash b (quiets b l) k = false ∧ p.2 = .plain)) := by
    intro k p hk hB
    rcases (cases4 k p hk).2 with ⟨h, _⟩ | ⟨_, _, h⟩ | ⟨_, _, h⟩ | ⟨_, h1, h2, h3⟩
    · rw [hB.1] at h; simp at h
    · rcases hB.2 with e | e <;> rw [e] at h <;> simp at h
    · rcases hB.2 with e | e <;> rw [e] at h <;> simp at h
    · exact ⟨h1, h2, h3⟩
  refine ⟨by simp [marks2], fun k p hk => (cases4 k p hk).1, fun k i p p' hk hB hi hN => ?_, fun k i p ao' hk hB hi => ?_, fun i ao' hi => ?_, fun i ao' md hi hf => ?_⟩
  · obtain ⟨h1, h2, _⟩ := barc k p hk hB
    by_cases hne : i = k
    · subst hne; exact ⟨fun h => by omega, fun h => by omega⟩
    · refine clash_spec h2 (List.mem_filter.2 ⟨mem_acting (cases4 i p' hi).1 hN.1, ?_⟩) hne
      rcases (cases4 i p' hi).2 with ⟨h, _⟩ | ⟨_, _, h⟩ | ⟨_, h, _⟩ | ⟨_, h, _⟩
      · rw [hN.1] at h; simp at h
      · exact absurd h hN.2
      · simpa using h
      · simpa using h
  · obtain ⟨h1, h2, h3⟩ := barc k p hk hB
    rcases h3 with h3 | ⟨h3, _⟩
    · exact .inl h3
    · refine .inr ?_
      rcases (cases4 i _ hi).2 with ⟨_, h⟩ | ⟨_, h, _⟩ | ⟨_, _, h⟩ | ⟨_, _, _, h⟩
      · simp at h
      · exact clash_spec h3 h (fun e => h1 (e ▸ h))
      · simp at h
      · rcases h with h | ⟨_, h⟩ <;> simp at h
  · rcases (cases4 i _ hi).2 with ⟨_, h⟩ | ⟨_, h, _⟩ | ⟨_, _, h⟩ | ⟨_, _, _, h⟩
    · simp at h
    · obtain ⟨ao, h4, h5⟩ := mem_quiets h
      rw [(cases4 i _ hi).1] at h4; simp at h4; subst h4; exact h5
    · simp at h
    · rcases h with h | ⟨_, h⟩ <;> simp at h
  · rcases (cases4 i _ hi).2 with ⟨_, h⟩ | ⟨h, _⟩ | ⟨h, _⟩ | ⟨h, _⟩
    · exact h
    · simp only at h; rw [hf] at h; simp at h
    · simp only at h; rw [hf] at h; simp at h
    · simp only at h; rw [hf] at h; simp at h

theorem cut_of_marks {P : Program} {m : Nat} {ops : Array Oper} {l : List AOper} {dl : List (AOper × Md)} (hl : ops.toList.mapM (cOper P m ops) = some l) (hs : slotsOk ops (Region.before ops) = true) (M : MarksOk (Region.before ops) l dl) : DCut P m ops dl := by
  obtain ⟨h1, h2⟩ := mapM_get hl
  have hlen : l.length = ops.size := by simpa using h1
  unfold slotsOk at hs
  simp only [Bool.and_eq_true, List.all_eq_true, List.mem_range] at hs
  refine ⟨by rw [M.len, hlen], fun k ao f hk => ?_, M.bar, M.mark, M.quiet, M.fre, fun i j o o' s hi hj hd hd' => ?_, fun i j w o s hi hj hd hlk hne => ?_, fun i o e hi he hb => ?_⟩
  · obtain ⟨o, h3, h4⟩ := h2 k ao (M.get k _ hk)
    exact ⟨o, by rw [← Array.getElem?_toList]; exact h3, cOper_spec h4⟩
  · have hd0 : distinct ((ops.toList.map (·.dst)).filterMap id) = true := by
      rw [List.filterMap_map]; exact hs.1
    exact distinct_spec hd0 i j s (by rw [List.getElem?_map, Array.getElem?_toList, hi]; simp [hd]) (by rw [List.getElem?_map, Array.getElem?_toList, hj]; simp [hd'])
  · have hilt := (Array.getElem?_eq_some_iff.1 hi).1
    have hjlt := (Array.getElem?_eq_some_iff.1 hj).1
    have h3 := hs.2 j hjlt
    rw [hj] at h3
    simp only [Bool.and_eq_true, List.all_eq_true, List.mem_range] at h3
    have h4 := h3.2 s hlk i hilt
    rw [hi] at h4
    simp only [hd, bne_self_eq_false, Bool.false_or, Bool.or_eq_true, beq_iff_eq, hne, false_or] at h4
    refine ⟨fun hlt => ?_, fun hlt => ?_⟩
    · rw [if_pos hlt] at h4; exact h4
    · rw [if_neg (by omega)] at h4; exact h4
  · have hilt := (Array.getElem?_eq_some_iff.1 hi).1
    have h3 := hs.2 i hilt
    rw [hi] at h3
    simp only [Bool.and_eq_true, List.all_eq_true] at h3
    have h4 := h3.1 e he
    simpa [hb] using h4

theorem cDraw_spec {P : Program} {m : Nat} {ops : Array Oper} {ac : AC} (e : cDraw P m ops = some ac) : ∃ dl dl', ac = .dreg dl dl' ∧ DCut P m ops dl ∧ DCut P m ops dl' := by
  unfold cDraw at e
  split at e
  · simp at e
  · rename_i l hl
    simp only at e
    cases hs : slotsOk ops (Region.before ops) with
    | false => simp [hs] at e
    | true =>
      simp only [hs, cond_true] at e
      have c1 := cut_of_marks hl hs (marks1_ok (Region.before ops) l)
      have c2 := cut_of_marks hl hs (marks2_ok (Region.before ops) l)
      cases hc : (l.zipIdx.any fun p => p.1.op.isCall && clash (Region.before ops) (quiets (Region.before ops) l) p.2) with
      | true => rw [hc] at e; simp only [cond_true, Option.some.injEq] at e; exact ⟨_, _, e.symm, c2, c1⟩
      | false => rw [hc] at e; simp only [cond_false, Option.some.injEq] at e; exact ⟨_, _, e.symm, c1, c2⟩

end Go.Proofs.Ytofaiipohmeelaa.Am
