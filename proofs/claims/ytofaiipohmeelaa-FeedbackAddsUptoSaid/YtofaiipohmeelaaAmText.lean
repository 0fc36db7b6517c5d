/-
  The abstract machine: what the text's run of a region shows of its own memories.
-/
import Derived.Test.YtofaiipohmeelaaAmDraw
namespace Go.Proofs.Ytofaiipohmeelaa.Am
variable {P : Program} {base : Nat} {ρ : Mp} {h : Heap} {W : World}

def Mp.below (ρ : Mp) (n : Nat) : Mp := fun b => if b < n then ρ b else none

theorem Mp.below_lt {ρ : Mp} {n b : Nat} (h : b < n) : ρ.below n b = ρ b := by simp [Mp.below, h]

theorem Mp.below_some {ρ : Mp} {n b : Nat} {g : G} (h : ρ.below n b = some g) : b < n ∧ ρ b = some g := by
  unfold Mp.below at h
  split at h
  · exact ⟨by assumption, h⟩
  · simp at h

mutual
/-- A value that is known through places below `n` alone. -/
theorem VR.below {ρ σ : Mp} {n : Nat} (hσ : ∀ b g, σ b = some g → b < n) : ∀ (v : AV) (w u : Value), VR ρ v w → VR σ v u → VR (ρ.below n) v w
  | .undef, _, _, _, _ => trivial
  | .bool _, _, _, h, _ | .int _ _, _, _, h, _ | .flt _, _, _, h, _ | .cpx _ _, _, _, h, _ | .nilPtr, _, _, h, _ | .nilSl, _, _, h, _ | .nilMap, _, _, h, _ | .nilFunc, _, _, h, _ | .nilIface, _, _, h, _ | .str _, _, _, h, _ => h
  | .ptr b _, _, _, ⟨g, hg, e⟩, ⟨g', hg', _⟩ => ⟨g, by rw [Mp.below_lt (hσ b g' hg')]; exact hg, e⟩
  | .map b, _, _, ⟨g, hg, e⟩, ⟨g', hg', _⟩ => ⟨g, by rw [Mp.below_lt (hσ b g' hg')]; exact hg, e⟩
  | .sl b _ _ _, _, _, ⟨a, c', e, h⟩, ⟨_, _, _, h'⟩ => by
    have hb : b < n := by
      rcases h' with ⟨g', hg', _⟩ | ⟨_, _, _, g', hg'⟩ <;> exact hσ b g' hg'
    refine ⟨a, c', e, h.imp (fun ⟨g, hg, r⟩ => ⟨g, by rw [Mp.below_lt hb]; exact hg, r⟩) (fun ⟨x, y, z, g, hg⟩ => ⟨x, y, z, g, by rw [Mp.below_lt hb]; exact hg⟩)⟩
  | .func _ xs ys, _, _, ⟨xs', ys', e, h1, h2⟩, ⟨_, _, _, h3, h4⟩ => ⟨xs', ys', e, VRs.below hσ xs _ _ h1 h3, VRs.below hσ ys _ _ h2 h4⟩
  | .iface _ x, _, _, ⟨x', e, h⟩, ⟨_, _, h'⟩ => ⟨x', e, VR.below hσ x _ _ h h'⟩
  | .agg cs, _, _, ⟨cs', e, h⟩, ⟨_, _, h'⟩ => ⟨cs', e, VRs.below hσ cs _ _ h h'⟩
  | .tup cs, _, _, ⟨cs', e, h⟩, ⟨_, _, h'⟩ => ⟨cs', e, VRs.below hσ cs _ _ h h'⟩
theorem VRs.below {ρ σ : Mp} {n : Nat} (hσ : ∀ b g, σ b = some g → b < n) : ∀ (v : List AV) (w u : List Value), VRs ρ v w → VRs σ v u → VRs (ρ.below n) v w
  | [], _, _, h, _ => h
  | v :: vs, _, _, ⟨w, ws, e, h1, h2⟩, ⟨_, _, _, h3, h4⟩ => ⟨w, ws, e, VR.below hσ v _ _ h1 h3, VRs.below hσ vs _ _ h2 h4⟩
end

theorem ERs.below {ρ σ : Mp} {n : Nat} (hσ : ∀ b g, σ b = some g → b < n) : ∀ (v : List (AV × AV)) (w u : List MapEntry), ERs ρ v w → ERs σ v u → ERs (ρ.below n) v w
  | [], _, _, h, _ => h
  | _ :: vs, _, _, ⟨w, ws, e, h1, h2, h3⟩, ⟨_, _, _, h4, h5, h6⟩ => ⟨w, ws, e, VR.below hσ _ _ _ h1 h4, VR.below hσ _ _ _ h2 h5, ERs.below hσ vs _ _ h3 h6⟩

theorem BR.below {ρ σ : Mp} {n : Nat} (hσ : ∀ b g, σ b = some g → b < n) {x : ABlk} {g g' : G} {W W' : World} (h : BR ρ x g W) (h' : BR σ x g' W') : BR (ρ.below n) x g W := by
  cases x with
  | row cells size k own ty =>
    obtain ⟨h1, h2, arr, e, fr, h3, h4, h5, h6, h7⟩ := h
    obtain ⟨_, _, arr', _, _, _, _, _, _, h8⟩ := h'
    refine ⟨h1, h2, arr, e, fr, h3, h4, h5, h6, fun i v hi hv => ?_⟩
    obtain ⟨v', a, b⟩ := h7 i v hi hv
    obtain ⟨u', _, c⟩ := h8 i v hi hv
    exact ⟨v', a, VR.below hσ v _ _ b c⟩
  | map es =>
    obtain ⟨es', c, h1, h2⟩ := h
    obtain ⟨_, _, _, h3⟩ := h'
    exact ⟨es', c, h1, ERs.below hσ es _ _ h2 h3⟩

/-- The facts of the text's run. -/
structure Text (base n m Z : Nat) (ops : Array Oper) (dl : List (AOper × Md)) (ρ0 : Mp) (S : Nat → St) : Prop where
  next : ∀ i j, i ≤ j → j ≤ n → (S i).2.next ≤ (S j).2.next
  keep : ∀ i j b x', i ≤ j → j ≤ n → b < (S i).2.next → (S j).2.get b = some x' → ∃ x, (S i).2.get b = some x ∧ ownB x = ownB x'
  live : ∀ j b x, j ≤ n → (S j).2.get b = some x → b < (S j).2.next
  own : ∀ j b x, j ≤ n → (S j).2.get b = some x → (S 0).2.next ≤ b → ownB x = true
  gent : ∀ (k : Nat) ao f, dl[k]? = some (ao, f) → (f = .alone ∨ f = .quiet ∨ ao.op.acts = false) → ∀ b, b < (S k).2.next → (S (k + 1)).2.get b = (S k).2.get b
  mrk : ∀ (k : Nat) ao f, dl[k]? = some (ao, f) → f = .mark → ∀ b, Z.testBit b = true → b < (S k).2.next → (S (k + 1)).2.get b = (S k).2.get b
  closed : ∀ j b x, j ≤ n → (S j).2.get b = some x → ((∃ g, ρ0 b = some g) ∨ (S 0).2.next ≤ b) → ∃ (σ : Mp) (g : G) (W : World), (∀ c g, σ c = some g → c < (S j).2.next) ∧ BR σ x g W
  sclosed : ∀ j sl v, j ≤ n → (S j).1.get sl = some v → ∃ (σ : Mp) (u : Value), (∀ c g, σ c = some g → c < (S j).2.next) ∧ VR σ v u
  slot : ∀ k o, k < n → ops[k]? = some o → ∃ v, (S (k + 1)).1 = putDst (S k).1 o.dst v
  low : ∀ b, (S n).2.log.testBit b = false → b < (S 0).2.next → (S n).2.get b = (S 0).2.get b
  lows : ∀ b, (S n).2.log.testBit b = false → (S 0).2.log.testBit b = false

theorem text_facts {E : Ev} (hE : SoundE P E) {m Z N : Nat} {ops : Array Oper} {dl : List (AOper × Md)} (hd : DCut P m ops dl) {ρ0 : Mp} {S : Nat → St} (hS : ∀ (k : Nat) ao f, dl[k]? = some (ao, f) → evalDraw E N Z ao f (S k) = some (S (k + 1)))
    {W0 : World} {a0 : Act} (r0 : Rel base ρ0 (S 0).2 W0) (t0 : TR m ρ0 (S 0).1 a0.tmps) : Text base ops.size m Z ops dl ρ0 S := by
  have chain : ∀ k, k ≤ ops.size → ∃ (ρk : Mp) (Wk : World) (ak : Act), Step base ρ0 (S 0).2 W0 ρk (S k).2 Wk ∧ TR m ρk (S k).1 ak.tmps := by
    intro k
    induction k with
    | zero => intro _; exact ⟨ρ0, W0, a0, Step.refl r0, t0⟩
    | succ k ih =>
      intro hk
      obtain ⟨ρk, Wk, ak, st, t⟩ := ih (by omega)
      have hlt : k < dl.length := by rw [hd.len]; omega
      obtain ⟨o, ho, hc⟩ := hd.cut k dl[k].1 dl[k].2 (by rw [List.getElem?_eq_getElem hlt])
      have he := hS k dl[k].1 dl[k].2 (by rw [List.getElem?_eq_getElem hlt])
      have := draw_step hE hc ho (fun h => hd.quiet k dl[k].1 (by rw [← h, List.getElem?_eq_getElem hlt])) he st.rel (a := ak) (K := fun a' W' => ∃ ρ', Step base ρ0 (S 0).2 W0 ρ' (S (k + 1)).2 W' ∧ TR m ρ' (S (k + 1)).1 a'.tmps) (Q := fun _ _ _ => False)
        (fun sl _ v hv => t.val sl v hv) (fun v v' ρ' W' h1 h2 h3 _ _ => ⟨ρ', st.trans h3, by rw [h1]; exact (t.mono h3.le).put hc.lt h2⟩)
      obtain ⟨a', W', ρ', h1, h2⟩ := wpOp_ex this
      exact ⟨ρ', W', a', h1, h2⟩
  have step : ∀ (k : Nat) ao f, dl[k]? = some (ao, f) → ∃ ρk Wk ρ' W', Step base ρk (S k).2 Wk ρ' (S (k + 1)).2 W' ∧ ((f = .alone ∨ f = .quiet ∨ ao.op.acts = false) → ∀ b, b < (S k).2.next → (S (k + 1)).2.get b = (S k).2.get b) ∧ (f = .mark → ∀ b, Z.testBit b = true → b < (S k).2.next → (S (k + 1)).2.get b = (S k).2.get b) ∧
      ∀ o, ops[k]? = some o → ∃ v, (S (k + 1)).1 = putDst (S k).1 o.dst v := by
    intro k ao f hk
    have hlt : k < dl.length := (List.getElem?_eq_some_iff.1 hk).1
    obtain ⟨ρk, Wk, ak, st, t⟩ := chain k (by rw [← hd.len]; omega)
    obtain ⟨o, ho, hc⟩ := hd.cut k ao f hk
    have := draw_step hE hc ho (fun h => hd.quiet k ao (by rw [← h]; exact hk)) (hS k ao f hk) st.rel (a := ak) (K := fun _ W' => ∃ ρ' v, Step base ρk (S k).2 Wk ρ' (S (k + 1)).2 W' ∧ ((f = .alone ∨ f = .quiet ∨ ao.op.acts = false) → ∀ b, b < (S k).2.next → (S (k + 1)).2.get b = (S k).2.get b) ∧ (f = .mark → ∀ b, Z.testBit b = true → b < (S k).2.next → (S (k + 1)).2.get b = (S k).2.get b) ∧ (S (k + 1)).1 = putDst (S k).1 o.dst v) (Q := fun _ _ _ => False)
      (fun sl _ v hv => t.val sl v hv) (fun v v' ρ' W' h1 h2 h3 h4 h5 => ⟨ρ', v, h3, h4, h5, h1⟩)
    obtain ⟨a', W', ρ', v, h1, h2, h2', h3⟩ := wpOp_ex this
    exact ⟨ρk, Wk, ρ', W', h1, h2, h2', fun o' ho' => by rw [ho] at ho'; simp at ho'; subst ho'; exact ⟨v, h3⟩⟩
  have stepk : ∀ k, k < ops.size → ∃ ρk Wk ρ' W', Step base ρk (S k).2 Wk ρ' (S (k + 1)).2 W' := by
    intro k hk
    have hlt : k < dl.length := by rw [hd.len]; exact hk
    obtain ⟨ρk, Wk, ρ', W', h1, _⟩ := step k dl[k].1 dl[k].2 (by rw [List.getElem?_eq_getElem hlt])
    exact ⟨ρk, Wk, ρ', W', h1⟩
  have hnext : ∀ i j, i ≤ j → j ≤ ops.size → (S i).2.next ≤ (S j).2.next := by
    intro i j hij
    induction hij with
    | refl => intro _; exact Nat.le_refl _
    | step hij ih => intro hj; obtain ⟨_, _, _, _, st⟩ := stepk _ hj; exact Nat.le_trans (ih (by omega)) st.next
  refine ⟨hnext, ?_, ?_, ?_, fun k ao f hk => (step k ao f hk).choose_spec.choose_spec.choose_spec.choose_spec.2.1, fun k ao f hk => (step k ao f hk).choose_spec.choose_spec.choose_spec.choose_spec.2.2.1, ?_, ?_, ?_, ?_, ?_⟩
  · intro i j b x' hij
    induction hij generalizing x' with
    | refl => intro _ _ hx; exact ⟨x', hx, rfl⟩
    | step hij ih =>
      intro hj hb hx
      obtain ⟨_, _, _, _, st⟩ := stepk _ hj
      obtain ⟨y, h1, h2⟩ := st.keep b x' (Nat.lt_of_lt_of_le hb (hnext _ _ hij (by omega))) hx
      obtain ⟨z, h3, h4⟩ := ih y (by omega) hb h1
      exact ⟨z, h3, h4.trans h2⟩
  · intro j b x hj hx
    obtain ⟨_, _, _, st, _⟩ := chain j hj
    exact st.rel.live b x hx
  · intro j b x hj hx hb
    obtain ⟨_, _, _, st, _⟩ := chain j hj
    exact (st.mapd b x hx hb).1
  · intro j b x hj hx hb
    obtain ⟨ρj, Wj, _, st, _⟩ := chain j hj
    have : ∃ g, ρj b = some g := by
      rcases hb with ⟨g, hg⟩ | hb
      · exact ⟨g, st.le b g hg⟩
      · exact (st.mapd b x hx hb).2
    obtain ⟨g, hg⟩ := this
    exact ⟨ρj, g, Wj, fun c g' hc => (st.rel.dom c g' hc).1, st.rel.blk b x g hx hg⟩
  · intro j sl v hj hv
    obtain ⟨ρj, Wj, aj, st, t⟩ := chain j hj
    obtain ⟨u, _, hu⟩ := t.val sl v hv
    exact ⟨ρj, u, fun c g' hc => (st.rel.dom c g' hc).1, hu⟩
  · intro k o hk ho
    have hlt : k < dl.length := by rw [hd.len]; exact hk
    obtain ⟨_, _, _, _, _, _, _, h⟩ := step k dl[k].1 dl[k].2 (by rw [List.getElem?_eq_getElem hlt])
    exact h o ho
  · obtain ⟨_, _, _, st, _⟩ := chain ops.size (Nat.le_refl _); exact st.low
  · obtain ⟨_, _, _, st, _⟩ := chain ops.size (Nat.le_refl _); exact st.lows

/-- Between two places none of whose operations writes a slot, the slot stays. -/
theorem Text.stays {n m Z : Nat} {ops : Array Oper} {dl : List (AOper × Md)} {ρ0 : Mp} {S : Nat → St} (T : Text base n m Z ops dl ρ0 S) (hn : n = ops.size) {sl : Nat} : ∀ i j, i ≤ j → j ≤ n → (∀ k o, i ≤ k → k < j → ops[k]? = some o → o.dst ≠ some sl) → (S j).1.get sl = (S i).1.get sl := by
  intro i j hij
  induction hij with
  | refl => intro _ _; rfl
  | @step j hij ih =>
    intro hj hno
    have hlt : j < ops.size := by omega
    obtain ⟨v, hv⟩ := T.slot j ops[j] (by omega) (Array.getElem?_eq_getElem hlt)
    have hne := hno j ops[j] hij (by omega) (Array.getElem?_eq_getElem hlt)
    rw [hv]
    have : (putDst (S j).1 ops[j].dst v).get sl = (S j).1.get sl := by
      unfold putDst
      split
      · rename_i i' hi'
        rw [Tr.get_put_ne _ _ _ _ (fun e => hne (by rw [hi', e]))]
      · rfl
    rw [this]
    exact ih (by omega) fun k o h1 h2 => hno k o h1 (by omega)

/-- What is no barrier is gentle. -/
theorem notB {p : AOper × Md} (h : ¬ isB p) : p.2 = .alone ∨ p.2 = .quiet ∨ p.1.op.acts = false := by
  cases hm : p.2 with
  | alone => exact .inl rfl
  | quiet => exact .inr (.inl rfl)
  | plain =>
    cases hf : p.1.op.free with
    | true => exact .inr (.inr (free_acts hf))
    | false => exact absurd ⟨hf, .inl hm⟩ h
  | mark =>
    cases hf : p.1.op.free with
    | true => exact .inr (.inr (free_acts hf))
    | false => exact absurd ⟨hf, .inr hm⟩ h

/-- Where every barrier on the way is marked, what quiet operations read or make stays. -/
theorem Text.stay {n m Z : Nat} {ops : Array Oper} {dl : List (AOper × Md)} {ρ0 : Mp} {S : Nat → St} (T : Text base n m Z ops dl ρ0 S) (hn : n = dl.length) : ∀ i j, i ≤ j → j ≤ n →
    (∀ (k : Nat) p, i ≤ k → k < j → dl[k]? = some p → isB p → p.2 = .mark) → ∀ b, Z.testBit b = true → b < (S i).2.next → (S j).2.get b = (S i).2.get b := by
  intro i j hij
  induction hij with
  | refl => intro _ _ b _ _; rfl
  | @step j hij ih =>
    intro hj hg b hz hb
    have hlt : j < dl.length := by omega
    have hk := List.getElem?_eq_getElem hlt
    have hbj := Nat.lt_of_lt_of_le hb (T.next i j hij (by omega))
    have h1 : (S (j + 1)).2.get b = (S j).2.get b := by
      by_cases hB : isB dl[j]
      · exact T.mrk j dl[j].1 dl[j].2 hk (hg j _ hij (by omega) hk hB) b hz hbj
      · exact T.gent j dl[j].1 dl[j].2 hk (notB hB) b hbj
    rw [h1]
    exact ih (by omega) (fun k p h2 h3 => hg k p h2 (by omega)) b hz hb

/-- The operation that makes a block. -/
theorem maker_of {n : Nat} {S : Nat → St} {b : Nat} (hb : b < (S n).2.next) : ∀ d j, n - j = d → j ≤ n → (S j).2.next ≤ b → ∃ k, j ≤ k ∧ k < n ∧ (S k).2.next ≤ b ∧ b < (S (k + 1)).2.next := by
  intro d
  induction d with
  | zero => intro j h1 h2 h3; have : j = n := by omega
            subst this; omega
  | succ d ih =>
    intro j h1 h2 h3
    rcases Nat.lt_or_ge b (S (j + 1)).2.next with h4 | h4
    · exact ⟨j, Nat.le_refl _, by omega, h3, h4⟩
    · obtain ⟨k, h5, h6, h7, h8⟩ := ih (j + 1) (by omega) (by omega) h4
      exact ⟨k, by omega, h6, h7, h8⟩

/-- Gentle operations leave alone what was there. -/
theorem Text.gentle {n m Z : Nat} {ops : Array Oper} {dl : List (AOper × Md)} {ρ0 : Mp} {S : Nat → St} (T : Text base n m Z ops dl ρ0 S) (hn : n = dl.length) : ∀ i j, i ≤ j → j ≤ n →
    (∀ (k : Nat) ao f, i ≤ k → k < j → dl[k]? = some (ao, f) → f = .alone ∨ f = .quiet ∨ ao.op.acts = false) → ∀ b, b < (S i).2.next → (S j).2.get b = (S i).2.get b := by
  intro i j hij
  induction hij with
  | refl => intro _ _ b _; rfl
  | @step j hij ih =>
    intro hj hg b hb
    have hlt : j < dl.length := by omega
    have h1 := T.gent j dl[j].1 dl[j].2 (List.getElem?_eq_getElem hlt) (hg j _ _ hij (by omega) (List.getElem?_eq_getElem hlt)) b (Nat.lt_of_lt_of_le hb (T.next i j hij (by omega)))
    rw [h1]
    exact ih (by omega) (fun k ao f h2 h3 => hg k ao f h2 (by omega)) b hb

end Go.Proofs.Ytofaiipohmeelaa.Am
