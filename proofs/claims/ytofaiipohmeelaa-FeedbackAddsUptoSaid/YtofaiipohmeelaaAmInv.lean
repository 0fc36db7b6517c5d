/-
  The abstract machine: a region whose order is open, in any order.
-/
import Derived.Test.YtofaiipohmeelaaAmText
namespace Go.Proofs.Ytofaiipohmeelaa.Am
variable {P : Program} {base : Nat}

def isBar (dl : List (AOper × Md)) (k : Nat) : Prop := ∃ p, dl[k]? = some p ∧ isB p
def nonFree (dl : List (AOper × Md)) (k : Nat) : Prop := ∃ p, dl[k]? = some p ∧ isN p
def isQ (dl : List (AOper × Md)) (k : Nat) : Prop := ∃ ao, dl[k]? = some (ao, .quiet)

/-- The value of a slot, where the operations of `L` have run. -/
def Cur (ops : Array Oper) (S : Nat → St) (L : Nat → Bool) (sl : Nat) (v : AV) : Prop :=
  (∃ w o, ops[w]? = some o ∧ o.dst = some sl ∧ L w = true ∧ (S ops.size).1.get sl = some v) ∨
  ((∀ w o, ops[w]? = some o → o.dst = some sl → L w = false) ∧ (S 0).1.get sl = some v)

structure DInv (base m : Nat) (ops : Array Oper) (dl : List (AOper × Md)) (ρ0 : Mp) (S : Nat → St) (W0 : World) (ds : List Deferred) (L : Nat → Bool) (a : Act) (W : World) (ρ : Mp) (top : Nat) : Prop where
  cl : ∀ j o e, L j = true → ops[j]? = some o → e ∈ o.after.toList → Region.binds .any e = true → L e.on = true
  t1 : top ≤ ops.size
  t2 : ∀ k, k < top → isBar dl k → L k = true
  t3 : top < ops.size → isBar dl top ∧ L top = false
  rel : Rel base (ρ.below (S top).2.next) (S top).2 W
  bnd : ∀ b g, ρ b = some g → b < (S ops.size).2.next ∧ g.blk < W.heap.size
  ex : ∀ b g k, ρ b = some g → k < ops.size → L k = false → ¬ ((S k).2.next ≤ b ∧ b < (S (k + 1)).2.next)
  md : ∀ b x k, k < top → L k = true → (S k).2.next ≤ b → b < (S (k + 1)).2.next → (S top).2.get b = some x → ∃ g, ρ b = some g
  pend : ∀ i b, top ≤ i → i < ops.size → L i = true → (S i).2.next ≤ b → b < (S (i + 1)).2.next → ∃ g x, ρ b = some g ∧ (S (i + 1)).2.get b = some x ∧ BR ρ x g W ∧ base ≤ g.blk ∧ W0.heap.size ≤ g.blk ∧ ∀ b' g', ρ b' = some g' → b' ≠ b → ((∃ y, (S top).2.get b' = some y) ∨ (S top).2.next ≤ b') → g'.blk ≠ g.blk
  tsz : a.tmps.size = m
  tmp : ∀ sl v, Cur ops S L sl v → ∃ v', a.tmps[sl]? = some v' ∧ VR ρ v v'
  dfr : a.defers = ds
  le : ρ0.le ρ
  dom : ∀ b g, ρ b = some g → ρ0 b = some g ∨ (S 0).2.next ≤ b
  size : W0.heap.size ≤ W.heap.size
  same : W.tape = W0.tape ∧ W.os = W0.os ∧ W.output = W0.output
  frame : ∀ c, c < W0.heap.size → ¬ Hit ρ0 (S 0).2 c → W.heap[c]? = W0.heap[c]?
  fresh : ∀ b x g, (S top).2.get b = some x → ρ b = some g → (S 0).2.next ≤ b → W0.heap.size ≤ g.blk ∨ Hit ρ0 (S 0).2 g.blk

/-- Barriers stand in order with all that is not free. -/
theorem bar_order {m : Nat} {ops : Array Oper} {dl : List (AOper × Md)} (hd : DCut P m ops dl) {L : Nat → Bool} (hcl : ∀ j o e, L j = true → ops[j]? = some o → e ∈ o.after.toList → Region.binds .any e = true → L e.on = true)
    {k i : Nat} (hk : isBar dl k) (hi : nonFree dl i) : (i < k → L k = true → L i = true) ∧ (k < i → L i = true → L k = true) := by
  obtain ⟨p, h1, h2⟩ := hk
  obtain ⟨p', h3, h4⟩ := hi
  have := hd.bar k i p p' h1 h2 h3 h4
  exact ⟨fun hlt hL => ahead_listed hcl k i hL (this.1 hlt), fun hlt hL => ahead_listed hcl i k hL (this.2 hlt)⟩

theorem bar_nonFree {dl : List (AOper × Md)} {k : Nat} (h : isBar dl k) : nonFree dl k := let ⟨p, a, b⟩ := h; ⟨p, a, b.isN⟩

variable {m Z : Nat} {ops : Array Oper} {dl : List (AOper × Md)} {ρ0 : Mp} {S : Nat → St} {W0 : World} {ds : List Deferred} {L : Nat → Bool} {a : Act} {W : World} {ρ : Mp} {top : Nat}

/-- From a place on, no barrier up to another: then nothing of what was there has turned. -/
theorem ext_of (hd : DCut P m ops dl) (T : Text base ops.size m Z ops dl ρ0 S) {i j : Nat} (hij : i ≤ j) (hj : j ≤ ops.size) (hno : ∀ k, i ≤ k → k < j → ¬ isBar dl k) : ∀ b, b < (S i).2.next → (S j).2.get b = (S i).2.get b :=
  T.gentle hd.len.symm i j hij hj fun _ _ _ h1 h2 hk => notB fun hB => hno _ h1 h2 ⟨_, hk, hB⟩

theorem below_le {ρ : Mp} {i j : Nat} (h : i ≤ j) : (ρ.below i).le (ρ.below j) := fun b g hb => by
  obtain ⟨h1, h2⟩ := Mp.below_some hb
  rw [Mp.below_lt (by omega)]; exact h2

theorem below_self {ρ : Mp} {n : Nat} (h : ∀ b g, ρ b = some g → b < n) : ρ.below n = ρ := by
  funext b
  unfold Mp.below
  split
  · rfl
  · cases hb : ρ b with
    | none => rfl
    | some g => exact absurd (h b g hb) (by assumption)

theorem below_le' {ρ : Mp} {n : Nat} : (ρ.below n).le ρ := fun _ _ hb => (Mp.below_some hb).2

theorem Rel.extend (T : Text base ops.size m Z ops dl ρ0 S) {i j : Nat} (hij : i ≤ j) (hj : j ≤ ops.size) (r : Rel base (ρ.below (S i).2.next) (S i).2 W) (hext : ∀ b, b < (S i).2.next → (S j).2.get b = (S i).2.get b)
    (hnew : ∀ b g x, ρ b = some g → (S i).2.next ≤ b → b < (S j).2.next → (S j).2.get b = some x → BR ρ x g W ∧ base ≤ g.blk ∧ g.blk < W.heap.size ∧ ∀ b' g' y, ρ b' = some g' → b' ≠ b → (S j).2.get b' = some y → g'.blk ≠ g.blk)
    (hbnd : ∀ b g, ρ b = some g → g.blk < W.heap.size) : Rel base (ρ.below (S j).2.next) (S j).2 W := by
  have hn := T.next i j hij hj
  have n0 := T.next 0 i (Nat.zero_le _) (by omega)
  refine ⟨r.room, fun b g hb => ?_, fun b x hx => T.live j b x hj hx, fun b x g hx hg => ?_, fun b b' x x' g g' hx hx' hg hg' hne ho => ?_, fun b x g hx hg ho => ?_⟩
  · obtain ⟨h1, h2⟩ := Mp.below_some hb; exact ⟨h1, hbnd b g h2⟩
  · obtain ⟨h1, h2⟩ := Mp.below_some hg
    rcases Nat.lt_or_ge b (S i).2.next with h3 | h3
    · rw [hext b h3] at hx
      exact BR.mono (below_le hn) (r.blk b x g hx (by rw [Mp.below_lt h3]; exact h2)) rfl
    · obtain ⟨σ, g', W', h4, h5⟩ := T.closed j b x hj hx (.inr (by omega))
      exact BR.below h4 (hnew b g x h2 h3 h1 hx).1 h5
  · obtain ⟨h1, h2⟩ := Mp.below_some hg
    obtain ⟨h3, h4⟩ := Mp.below_some hg'
    rcases Nat.lt_or_ge b (S i).2.next with h5 | h5
    · rcases Nat.lt_or_ge b' (S i).2.next with h6 | h6
      · rw [hext b h5] at hx; rw [hext b' h6] at hx'
        exact r.inj b b' x x' g g' hx hx' (by rw [Mp.below_lt h5]; exact h2) (by rw [Mp.below_lt h6]; exact h4) hne ho
      · exact (hnew b' g' x' h4 h6 h3 hx').2.2.2 b g x h2 hne hx
    · exact ((hnew b g x h2 h5 h1 hx).2.2.2 b' g' x' h4 hne.symm hx').symm
  · obtain ⟨h1, h2⟩ := Mp.below_some hg
    rcases Nat.lt_or_ge b (S i).2.next with h3 | h3
    · rw [hext b h3] at hx; exact r.base b x g hx (by rw [Mp.below_lt h3]; exact h2) ho
    · exact (hnew b g x h2 h3 h1 hx).2.1

/-- The next barrier that has not run. -/
theorem next_top (L : Nat → Bool) (n : Nat) : ∀ d i, n - i = d → i ≤ n → ∃ t, i ≤ t ∧ t ≤ n ∧ (∀ k, i ≤ k → k < t → isBar dl k → L k = true) ∧ (t < n → isBar dl t ∧ L t = false) := by
  intro d
  induction d with
  | zero => intro i h1 h2; exact ⟨i, Nat.le_refl _, h2, fun k h3 h4 => by omega, fun h => by omega⟩
  | succ d ih =>
    intro i h1 h2
    by_cases hb : isBar dl i ∧ L i = false
    · exact ⟨i, Nat.le_refl _, h2, fun k h3 h4 => by omega, fun _ => hb⟩
    · obtain ⟨t, h3, h4, h5, h6⟩ := ih (i + 1) (by omega) (by omega)
      refine ⟨t, by omega, h4, fun k hk1 hk2 hbk => ?_, h6⟩
      by_cases e : k = i
      · subst e
        cases hL : L k with
        | true => rfl
        | false => exact absurd ⟨hbk, hL⟩ hb
      · exact h5 k (by omega) hk2 hbk

/-- The slots that an operation looks at hold what they held in the text's run. -/
theorem look_cur (hd : DCut P m ops dl) (T : Text base ops.size m Z ops dl ρ0 S) (hcl : ∀ j o e, L j = true → ops[j]? = some o → e ∈ o.after.toList → Region.binds .any e = true → L e.on = true)
    {i : Nat} {o : Oper} (ho : ops[i]? = some o) (hL : L i = false) (hed : ∀ j, ahead (Region.before ops) j i = true → L j = true) {sl : Nat} (hsl : sl ∈ looks ops o) {v : AV} (hv : (S i).1.get sl = some v) : Cur ops S L sl v := by
  have hi : i < ops.size := (Array.getElem?_eq_some_iff.1 ho).1
  by_cases hw : ∃ (w : Nat) (ow : Oper), ops[w]? = some ow ∧ ow.dst = some sl
  · obtain ⟨w, ow, hw1, hw2⟩ := hw
    have uniq : ∀ k ok, ops[k]? = some ok → ok.dst = some sl → k = w := fun k ok h1 h2 => hd.once k w ok ow sl h1 hw1 h2 hw2
    have hwlt : w < ops.size := (Array.getElem?_eq_some_iff.1 hw1).1
    rcases Nat.lt_trichotomy w i with hlt | heq | hgt
    · -- written ahead
      have hLw : L w = true := hed w ((hd.look w i ow o sl hw1 ho hw2 hsl (by omega)).1 hlt)
      refine .inl ⟨w, ow, hw1, hw2, hLw, ?_⟩
      rw [T.stays rfl i ops.size (by omega) (Nat.le_refl _) fun k ok h1 _ h3 h4 => by have := uniq k ok h3 h4; omega]
      exact hv
    · subst heq
      refine .inr ⟨fun k ok h1 h2 => by rw [uniq k ok h1 h2]; exact hL, ?_⟩
      rw [T.stays rfl 0 w (by omega) (by omega) fun k ok _ h2 h3 h4 => by have := uniq k ok h3 h4; omega] at hv
      exact hv
    · have hLw : L w = false := by
        cases h : L w with
        | false => rfl
        | true =>
          have := ahead_listed hcl w i h ((hd.look w i ow o sl hw1 ho hw2 hsl (by omega)).2 hgt)
          rw [hL] at this; simp at this
      refine .inr ⟨fun k ok h1 h2 => by rw [uniq k ok h1 h2]; exact hLw, ?_⟩
      rw [T.stays rfl 0 i (by omega) (by omega) fun k ok _ h2 h3 h4 => by have := uniq k ok h3 h4; omega] at hv
      exact hv
  · refine .inr ⟨fun k ok h1 h2 => absurd ⟨k, ok, h1, h2⟩ hw, ?_⟩
    rw [T.stays rfl 0 i (by omega) (by omega) fun k ok _ _ h3 h4 => hw ⟨k, ok, h3, h4⟩] at hv
    exact hv

/-- The slots behind an operation. -/
theorem cur_put (hd : DCut P m ops dl) (T : Text base ops.size m Z ops dl ρ0 S) {i : Nat} {o : Oper} (ho : ops[i]? = some o) {ρ' : Mp} {v : AV} {v' : Value} (hle : ρ.le ρ') (hlt : ∀ d, o.dst = some d → d < m) (hsz : a.tmps.size = m)
    (htmp : ∀ sl v, Cur ops S L sl v → ∃ v', a.tmps[sl]? = some v' ∧ VR ρ v v') (hput : (S (i + 1)).1 = putDst (S i).1 o.dst v) (hv : VR ρ' v v') :
    ∀ sl u, Cur ops S (fun k => L k || k == i) sl u → ∃ u', (a.put o.dst v').tmps[sl]? = some u' ∧ VR ρ' u u' := by
  intro sl u hu
  have hi : i < ops.size := (Array.getElem?_eq_some_iff.1 ho).1
  by_cases hsl : o.dst = some sl
  · have uniq : ∀ k ok, ops[k]? = some ok → ok.dst = some sl → k = i := fun k ok h1 h2 => hd.once k i ok o sl h1 ho h2 hsl
    have hval : (S ops.size).1.get sl = some v := by
      rw [T.stays rfl (i + 1) ops.size (by omega) (Nat.le_refl _) fun k ok h1 _ h3 h4 => by have := uniq k ok h3 h4; omega, hput, hsl]
      simp [putDst, Tr.get_put_self]
    have huv : u = v := by
      rcases hu with ⟨_, _, _, _, _, h5⟩ | ⟨h1, _⟩
      · rw [hval] at h5; simpa using h5.symm
      · have := h1 i o ho hsl; simp at this
    subst huv
    refine ⟨v', ?_, hv⟩
    rw [hsl]; simp only [Act.put]
    exact Array.getElem?_setIfInBounds_self_of_lt (by rw [hsz]; exact hlt sl hsl)
  · have hold : Cur ops S L sl u := by
      rcases hu with ⟨w, ow, h1, h2, h3, h4⟩ | ⟨h1, h2⟩
      · refine .inl ⟨w, ow, h1, h2, ?_, h4⟩
        simp only [Bool.or_eq_true, beq_iff_eq] at h3
        rcases h3 with h3 | rfl
        · exact h3
        · rw [ho] at h1; simp at h1; subst h1; exact absurd h2 hsl
      · refine .inr ⟨fun w ow h3 h4 => ?_, h2⟩
        have := h1 w ow h3 h4
        simp only [Bool.or_eq_false_iff] at this
        exact this.1
    obtain ⟨u', h1, h2⟩ := htmp sl u hold
    refine ⟨u', ?_, VR.mono hle _ _ h2⟩
    cases hd0 : o.dst with
    | none => exact h1
    | some d =>
      simp only [Act.put]
      rw [Array.getElem?_setIfInBounds_ne (fun e => hsl (by rw [hd0, e]))]
      exact h1

end Go.Proofs.Ytofaiipohmeelaa.Am
