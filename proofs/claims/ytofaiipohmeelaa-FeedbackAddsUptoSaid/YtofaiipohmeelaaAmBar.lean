/-
  The abstract machine: a barrier, in any order.
-/
import Derived.Test.YtofaiipohmeelaaAmQuiet
namespace Go.Proofs.Ytofaiipohmeelaa.Am
variable {P : Program} {base : Nat} {m Z N : Nat} {ops : Array Oper} {dl : List (AOper × Md)} {ρ0 : Mp} {S : Nat → St} {W0 : World} {ds : List Deferred} {L : Nat → Bool} {a : Act} {W : World} {ρ : Mp} {top : Nat}

/-- Two maps laid together: the one within a range, the other without. -/
def Mp.mix (ρ ρ1 : Mp) (n0 n1 : Nat) : Mp := fun b => if n0 ≤ b ∧ b < n1 then ρ1 b else ρ b

theorem mix_in {ρ ρ1 : Mp} {n0 n1 b : Nat} (h : n0 ≤ b ∧ b < n1) : ρ.mix ρ1 n0 n1 b = ρ1 b := by unfold Mp.mix; rw [if_pos h]
theorem mix_out {ρ ρ1 : Mp} {n0 n1 b : Nat} (h : ¬ (n0 ≤ b ∧ b < n1)) : ρ.mix ρ1 n0 n1 b = ρ b := by unfold Mp.mix; rw [if_neg h]

theorem dinv_bar {E : Ev} (hE : SoundE P E) (hd : DCut P m ops dl) (T : Text base ops.size m Z ops dl ρ0 S) (hS : ∀ (k : Nat) ao f, dl[k]? = some (ao, f) → evalDraw E N Z ao f (S k) = some (S (k + 1)))
    (I : DInv base m ops dl ρ0 S W0 ds L a W ρ top) {i : Nat} {o : Oper} (hr : Ready ops L i o) (hbar : isBar dl i) {Q : Exit → Act → World → Prop} :
    wpOp P ops Q i (fun a' W' => ∃ ρ' top', DInv base m ops dl ρ0 S W0 ds (fun k => L k || k == i) a' W' ρ' top') a W := by
  have hi : i < ops.size := (Array.getElem?_eq_some_iff.1 hr.op).1
  have hlt : i < dl.length := by rw [hd.len]; exact hi
  have hk : dl[i]? = some (dl[i].1, dl[i].2) := List.getElem?_eq_getElem hlt
  have hti : top = i := by
    rcases Nat.lt_trichotomy top i with h1 | h1 | h1
    · have h2 := I.t3 (by omega)
      have := hr.ahead I.cl top (by
        obtain ⟨p, k1, k2⟩ := h2.1
        obtain ⟨p', k3, k4⟩ := bar_nonFree hbar
        exact (hd.bar top i p p' k1 k2 k3 k4).2 h1)
      rw [h2.2] at this; simp at this
    · exact h1
    · have := I.t2 i h1 hbar; rw [hr.not] at this; simp at this
  subst hti
  obtain ⟨o', ho', hc⟩ := hd.cut top _ _ hk
  rw [hr.op] at ho'; simp at ho'; subst ho'
  have n0t := T.next 0 top (Nat.zero_le _) (by omega)
  have n01 := T.next top (top + 1) (by omega) (by omega)
  refine draw_step hE hc hr.op (fun h => hd.quiet top _ (by rw [← h]; exact hk)) (hS top _ _ hk) I.rel (a := a) (fun sl hsl v hv => ?_) fun v v' ρ1 W' h1 h2 st _ _ => ?_
  · obtain ⟨v', w1, w2⟩ := I.tmp sl v (look_cur hd T I.cl hr.op hr.not (hr.ahead I.cl) hsl hv)
    obtain ⟨σ, u, w3, w4⟩ := T.sclosed top sl v (by omega) hv
    exact ⟨v', w1, VR.below w3 v _ _ w2 w4⟩
  have inΔ : ∀ b g, ρ b = some g → ¬ ((S top).2.next ≤ b ∧ b < (S (top + 1)).2.next) := fun b g hb => I.ex b g top hb hi hr.not
  generalize hρ' : ρ.mix ρ1 (S top).2.next (S (top + 1)).2.next = ρ'
  have le' : ρ.le ρ' := fun b g hb => by rw [← hρ', mix_out (inΔ b g hb)]; exact hb
  have le1 : ρ1.le ρ' := by
    intro b g hb
    rcases st.dom b g hb with h3 | h3
    · exact le' b g (Mp.below_some h3).2
    · rw [← hρ', mix_in ⟨h3, (st.rel.dom b g hb).1⟩]; exact hb
  have old : ∀ b g, ρ' b = some g → ((S top).2.next ≤ b ∧ b < (S (top + 1)).2.next ∧ ρ1 b = some g) ∨ (¬ ((S top).2.next ≤ b ∧ b < (S (top + 1)).2.next) ∧ ρ b = some g) := by
    intro b g hb
    by_cases h3 : (S top).2.next ≤ b ∧ b < (S (top + 1)).2.next
    · rw [← hρ', mix_in h3] at hb; exact .inl ⟨h3.1, h3.2, hb⟩
    · rw [← hρ', mix_out h3] at hb; exact .inr ⟨h3, hb⟩
  have heq : ρ'.below (S (top + 1)).2.next = ρ1 := by
    funext b
    rcases Nat.lt_or_ge b (S (top + 1)).2.next with h3 | h3
    · rw [Mp.below_lt h3]
      by_cases h4 : (S top).2.next ≤ b
      · rw [← hρ', mix_in ⟨h4, h3⟩]
      · rw [← hρ', mix_out (fun h => h4 h.1)]
        cases hb : ρ b with
        | some g => exact (st.le b g (by rw [Mp.below_lt (by omega)]; exact hb)).symm
        | none =>
          cases hb1 : ρ1 b with
          | none => rfl
          | some g =>
            rcases st.dom b g hb1 with h5 | h5
            · rw [(Mp.below_some h5).2] at hb; simp at hb
            · exact absurd h5 h4
    · have : ρ'.below (S (top + 1)).2.next b = none := by unfold Mp.below; rw [if_neg (by omega)]
      rw [this]
      cases hb1 : ρ1 b with
      | none => rfl
      | some g => have := (st.rel.dom b g hb1).1; omega
  have r1 : Rel base (ρ'.below (S (top + 1)).2.next) (S (top + 1)).2 W' := by rw [heq]; exact st.rel
  obtain ⟨t, ht1, ht2, ht3, ht4⟩ := next_top (dl := dl) (fun k => L k || k == top) ops.size (ops.size - (top + 1)) (top + 1) rfl (by omega)
  have behind : ∀ k, top < k → nonFree dl k → L k = false := by
    intro k h3 h4
    cases hL : L k with
    | false => rfl
    | true =>
      have := (bar_order hd I.cl hbar h4).2 h3 hL
      rw [hr.not] at this; simp at this
  have hno : ∀ k, top + 1 ≤ k → k < t → ¬ isBar dl k := by
    intro k h3 h4 h5
    have h6 := ht3 k h3 h4 h5
    simp only [Bool.or_eq_true, beq_iff_eq] at h6
    rcases h6 with h6 | h6
    · rw [behind k (by omega) (bar_nonFree h5)] at h6; simp at h6
    · omega
  have hext := ext_of hd T ht1 ht2 hno
  -- what stands behind
  have pendW : ∀ b g, ρ b = some g → (S top).2.next ≤ b → W'.heap[g.blk]? = W.heap[g.blk]? := by
    intro b g hg hge
    refine st.frame _ (I.bnd b g hg).2 ?_
    rintro ⟨c, y, g', hy, hg', ho, e⟩
    obtain ⟨hc1, hc2⟩ := Mp.below_some hg'
    obtain ⟨i, k1, k2, k3, _, k4, k5⟩ := I.wher hd hS hg hge
    obtain ⟨g2, _, k6, _, _, _, _, k7⟩ := I.pend i b k1 k2 k3 k4 k5
    rw [hg] at k6; simp at k6; subst k6
    exact k7 c g' hc2 (by omega) (.inl ⟨y, hy⟩) e
  -- two blocks of which the one stands behind
  have apart : ∀ b g b' g', ρ b = some g → (S (top + 1)).2.next ≤ b → ρ' b' = some g' → b' ≠ b → ((∃ y, (S t).2.get b' = some y) ∨ (S t).2.next ≤ b') → g'.blk ≠ g.blk := by
    intro b g b' g' hg hge hg' hne hh
    obtain ⟨i, k1, k2, k3, _, k4, k5⟩ := I.wher hd hS hg (by omega)
    obtain ⟨g2, _, k6, _, _, _, _, k7⟩ := I.pend i b k1 k2 k3 k4 k5
    rw [hg] at k6; simp at k6; subst k6
    rcases old b' g' hg' with ⟨h3, h4, h5⟩ | ⟨h3, h4⟩
    · rcases hh with ⟨y, hy⟩ | hh
      · rw [hext b' h4] at hy
        have hown := T.own (top + 1) b' y (by omega) hy (by omega)
        rcases st.fresh b' y g' hy h5 h3 hown with h6 | ⟨c, z, gc, hz1, hz2, hz3, hz4⟩
        · have := (I.bnd b g hg).2; omega
        · obtain ⟨hc1, hc2⟩ := Mp.below_some hz2
          rw [← hz4]
          exact k7 c gc hc2 (by omega) (.inl ⟨z, hz1⟩)
      · have := T.next (top + 1) t ht1 ht2; omega
    · refine k7 b' g' h4 hne ?_
      rcases Nat.lt_or_ge b' (S top).2.next with h6 | h6
      · rcases hh with ⟨y, hy⟩ | hh
        · obtain ⟨z, hz, _⟩ := T.keep top t b' y (by omega) ht2 h6 hy
          exact .inl ⟨z, hz⟩
        · have := T.next top t (by omega) ht2; omega
      · exact .inr h6
  have n1t := T.next (top + 1) t ht1 ht2
  have hrel : Rel base (ρ'.below (S t).2.next) (S t).2 W' := by
    refine Rel.extend T ht1 ht2 r1 hext (fun b g x hg hge hbt hx => ?_) (fun b g hg => ?_)
    · rcases old b g hg with ⟨_, h4, _⟩ | ⟨_, h4⟩
      · omega
      · obtain ⟨i, k1, k2, k3, _, k4, k5⟩ := I.wher hd hS h4 (by omega)
        obtain ⟨g2, x2, k6, k7, k8, k9, _, _⟩ := I.pend i b k1 k2 k3 k4 k5
        rw [h4] at k6; simp at k6; subst k6
        have hit : i < t := by
          rcases Nat.lt_or_ge i t with h | h
          · exact h
          · have := T.next t i h (by omega); omega
        have hti : top + 1 ≤ i := by
          rcases Nat.lt_or_ge top i with h | h
          · exact h
          · have : i = top := by omega
            subst this; omega
        rw [ext_of hd T (i := i + 1) (by omega) ht2 (fun k h5 h6 => hno k (by omega) h6) b k5, k7] at hx
        simp at hx; subst hx
        refine ⟨BR.mono le' k8 (pendW b g h4 (by omega)), k9, Nat.lt_of_lt_of_le (I.bnd b g h4).2 st.size, fun b' g' y hb' hne hy => apart b g b' g' h4 hge hb' hne (.inl ⟨y, hy⟩)⟩
    · rcases old b g hg with ⟨_, _, h4⟩ | ⟨_, h4⟩
      · exact (st.rel.dom b g h4).2
      · exact Nat.lt_of_lt_of_le (I.bnd b g h4).2 st.size
  refine ⟨ρ', t, cl_more I.cl hr, ht2, fun k h3 h4 => ?_, ht4, hrel, fun b g hb => ?_, fun b g k hb hk' hL hh => ?_, fun b x k hk' hL h3 h4 hx => ?_, fun i' b h3 h4 hL h5 h6 => ?_, by rw [put_size]; exact I.tsz,
    cur_put hd T hr.op le' hc.lt I.tsz I.tmp h1 (VR.mono le1 _ _ h2), by rw [put_defers']; exact I.dfr, Mp.le_trans I.le le', fun b g hb => ?_, Nat.le_trans I.size st.size,
    ⟨st.same.1.trans I.same.1, st.same.2.1.trans I.same.2.1, st.same.2.2.trans I.same.2.2⟩, fun c hc' hn => ?_, fun b x g hx hg hb => ?_⟩
  · rcases Nat.lt_trichotomy k top with h5 | h5 | h5
    · simp [I.t2 k h5 h4]
    · simp [h5]
    · exact ht3 k (by omega) h3 h4
  · have n1n := T.next (top + 1) ops.size (by omega) (Nat.le_refl _)
    rcases old b g hb with ⟨_, h3, h4⟩ | ⟨_, h4⟩
    · exact ⟨by omega, (st.rel.dom b g h4).2⟩
    · exact ⟨(I.bnd b g h4).1, Nat.lt_of_lt_of_le (I.bnd b g h4).2 st.size⟩
  · obtain ⟨hL1, hne⟩ := or_eq hL
    rcases old b g hb with ⟨h5, h6, _⟩ | ⟨_, h5⟩
    · rcases Nat.lt_or_ge k top with h7 | h7
      · have := T.next (k + 1) top (by omega) I.t1; omega
      · have := T.next (top + 1) k (by omega) (by omega); omega
    · exact I.ex b g k h5 hk' hL1 hh
  · simp only [Bool.or_eq_true, beq_iff_eq] at hL
    rcases hL with hL | rfl
    · rcases Nat.lt_trichotomy k top with h5 | h5 | h5
      · have h6 := T.next (k + 1) top (by omega) I.t1
        obtain ⟨y, h7, _⟩ := T.keep top t b x (by omega) ht2 (by omega) hx
        obtain ⟨g, hg⟩ := I.md b y k h5 hL h3 h4 h7
        exact ⟨g, le' b g hg⟩
      · subst h5; rw [hr.not] at hL; simp at hL
      · obtain ⟨g, _, hg, _⟩ := I.pend k b (by omega) (by omega) hL h3 h4
        exact ⟨g, le' b g hg⟩
    · rw [hext b h4] at hx
      obtain ⟨g, hg⟩ := (st.mapd b x hx h3).2
      exact ⟨g, le1 b g hg⟩
  · simp only [Bool.or_eq_true, beq_iff_eq] at hL
    rcases hL with hL | rfl
    · obtain ⟨g, x, k1, k2, k3, k4, k5, _⟩ := I.pend i' b (by omega) h4 hL h5 h6
      have hti := T.next t i' h3 (by omega)
      exact ⟨g, x, le' b g k1, k2, BR.mono le' k3 (pendW b g k1 (by omega)), k4, k5, fun b' g' hb' hne hh => apart b g b' g' k1 (by omega) hb' hne hh⟩
    · omega
  · rcases old b g hb with ⟨h3, _, _⟩ | ⟨_, h3⟩
    · exact .inr (by omega)
    · exact I.dom b g h3
  · rw [st.frame c (Nat.lt_of_lt_of_le hc' I.size) fun hh => ?_]
    · exact I.frame c hc' hn
    · rcases I.hit0 T hh with h3 | h3
      · omega
      · exact hn h3
  · rcases old b g hg with ⟨h3, h4, h5⟩ | ⟨h3, h5⟩
    · rw [hext b h4] at hx
      have hown := T.own (top + 1) b x (by omega) hx hb
      rcases st.fresh b x g hx h5 h3 hown with h8 | h8
      · exact .inl (Nat.le_trans I.size h8)
      · exact I.hit0 T h8
    · rcases Nat.lt_or_ge b (S top).2.next with h6 | h6
      · obtain ⟨y, h9, _⟩ := T.keep top t b x (by omega) ht2 h6 hx
        exact I.fresh b y g h9 h5 hb
      · obtain ⟨i, k1, k2, k3, _, k4, k5⟩ := I.wher hd hS h5 h6
        obtain ⟨g2, _, k6, _, _, _, k7, _⟩ := I.pend i b k1 k2 k3 k4 k5
        rw [h5] at k6; simp at k6; subst k6
        exact .inl k7

end Go.Proofs.Ytofaiipohmeelaa.Am
