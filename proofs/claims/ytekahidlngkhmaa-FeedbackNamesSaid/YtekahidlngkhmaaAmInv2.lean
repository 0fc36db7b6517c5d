/-
  The abstract machine: one operation more, in any order.
-/
import Derived.Test.YtekahidlngkhmaaAmInv
namespace Go.Proofs.Ytekahidlngkhmaa.Am
variable {P : Program} {base : Nat} {m : Nat} {ops : Array Oper} {dl : List (AOper × Bool)} {ρ0 : Mp} {S : Nat → St} {W0 : World} {ds : List Deferred} {L : Nat → Bool} {a : Act} {W : World} {ρ : Mp} {top : Nat}

theorem DInv.hit0 (T : Text base ops.size m ops dl ρ0 S) (I : DInv base m ops dl ρ0 S W0 ds L a W ρ top) {c : Nat} (hh : Hit ρ (S top).2 c) : W0.heap.size ≤ c ∨ Hit ρ0 (S 0).2 c := by
  obtain ⟨b, x, g, hx, hg, ho, rfl⟩ := hh
  by_cases hb : (S 0).2.next ≤ b
  · exact I.fresh b x g hx hg hb
  · rcases I.dom b g hg with h1 | h1
    · obtain ⟨y, h2, h3⟩ := T.keep 0 top b x (Nat.zero_le _) I.t1 (by omega) hx
      exact .inr ⟨b, y, g, h2, h1, by rw [h3, ho], rfl⟩
    · exact absurd h1 hb

theorem put_defers' (a : Act) (d : Option Tmp) (v : Value) : (a.put d v).defers = a.defers := by cases d <;> rfl

theorem put_size (a : Act) (d : Option Tmp) (v : Value) : (a.put d v).tmps.size = a.tmps.size := by cases d <;> simp [Act.put]

theorem or_eq {L : Nat → Bool} {i k : Nat} (h : (L k || k == i) = false) : L k = false ∧ k ≠ i := by
  simp only [Bool.or_eq_false_iff, beq_eq_false_iff_ne] at h; exact h

theorem free_gap {E : Ev} (hS : ∀ (k : Nat) ao f, dl[k]? = some (ao, f) → evalDraw E ao f (S k) = some (S (k + 1))) {k : Nat} (hlt : k < dl.length) (hf : ¬ nonFree dl k) : (S (k + 1)).2 = (S k).2 := by
  have hk := List.getElem?_eq_getElem hlt
  have hfree : dl[k].1.op.free = true := by
    cases h : dl[k].1.op.free with
    | true => rfl
    | false => exact absurd ⟨dl[k].1, dl[k].2, hk, h⟩ hf
  exact (draw_free hfree (hS k _ _ hk) (S k).2).1

/-- What a ready operation finds. -/
structure Ready (ops : Array Oper) (L : Nat → Bool) (i : Nat) (o : Oper) : Prop where
  op : ops[i]? = some o
  not : L i = false
  edges : ∀ e ∈ o.after.toList, Region.binds .any e = true → L e.on = true

theorem Ready.ahead (I : ∀ j o e, L j = true → ops[j]? = some o → e ∈ o.after.toList → Region.binds .any e = true → L e.on = true) {i : Nat} {o : Oper} (hr : Ready ops L i o) : ∀ j, ahead (Region.before ops) j i = true → L j = true := by
  intro j hj
  unfold Go.Proofs.Ytekahidlngkhmaa.Am.ahead at hj
  rw [before_eq] at hj
  obtain ⟨o', e, h1, h2, h3, h4⟩ := bL_inv _ ops.toList rfl i j hj
  rw [Array.getElem?_toList, hr.op] at h1
  simp at h1; subst h1
  have h5 := hr.edges e h2 h3
  rcases h4 with rfl | ⟨h6, h7⟩
  · exact h5
  · exact ahead_listed I e.on j h5 (by unfold Go.Proofs.Ytekahidlngkhmaa.Am.ahead; rw [before_eq]; exact h7)

theorem cl_more (hcl : ∀ j o e, L j = true → ops[j]? = some o → e ∈ o.after.toList → Region.binds .any e = true → L e.on = true) {i : Nat} {o : Oper} (hr : Ready ops L i o) :
    ∀ j o e, (L j || j == i) = true → ops[j]? = some o → e ∈ o.after.toList → Region.binds .any e = true → (L e.on || e.on == i) = true := by
  intro j o' e hj ho he hb
  simp only [Bool.or_eq_true, beq_iff_eq] at hj ⊢
  rcases hj with hj | rfl
  · exact .inl (hcl j o' e hj ho he hb)
  · rw [hr.op] at ho; simp at ho; subst ho; exact .inl (hr.edges e he hb)

/-- A free operation. -/
theorem dinv_free {E : Ev} (hE : SoundE P E) (hd : DCut P m ops dl) (T : Text base ops.size m ops dl ρ0 S) (hS : ∀ (k : Nat) ao f, dl[k]? = some (ao, f) → evalDraw E ao f (S k) = some (S (k + 1)))
    (I : DInv base m ops dl ρ0 S W0 ds L a W ρ top) {i : Nat} {o : Oper} (hr : Ready ops L i o) (hf : ¬ nonFree dl i) {Q : Exit → Act → World → Prop} :
    wpOp P ops Q i (fun a' W' => ∃ ρ' top', DInv base m ops dl ρ0 S W0 ds (fun k => L k || k == i) a' W' ρ' top') a W := by
  have hi : i < ops.size := (Array.getElem?_eq_some_iff.1 hr.op).1
  have hlt : i < dl.length := by rw [hd.len]; exact hi
  have hk := List.getElem?_eq_getElem hlt
  have hfree : dl[i].1.op.free = true := by
    cases h : dl[i].1.op.free with
    | true => rfl
    | false => exact absurd ⟨dl[i].1, dl[i].2, hk, h⟩ hf
  obtain ⟨o', ho', hc⟩ := hd.cut i _ _ hk
  rw [hr.op] at ho'; simp at ho'; subst ho'
  obtain ⟨hgap, he⟩ := draw_free hfree (hS i _ _ hk) (S top).2
  refine draw_step hE hc hr.op he I.rel (a := a) (fun sl hsl v hv => I.tmp sl v (look_cur hd T I.cl hr.op hr.not (hr.ahead I.cl) hsl hv)) fun v v' ρ' W' h1 h2 st _ => ⟨ρ', top, ?_⟩
  have hback : ∀ b g, ρ' b = some g → ρ b = some g := by
    intro b g hb
    rcases st.dom b g hb with h3 | h3
    · exact h3
    · have := (st.rel.dom b g hb).1; simp only at h3 this; omega
  refine ⟨cl_more I.cl hr, I.t1, fun k h3 h4 => by simp [I.t2 k h3 h4], fun h3 => ⟨(I.t3 h3).1, ?_⟩, st.rel, fun b g k hb hk hL => I.ex b g k (hback b g hb) hk (or_eq hL).1, fun b x k hk hL h3 h4 hx => ?_, by rw [put_size]; exact I.tsz,
    cur_put hd T hr.op st.le hc.lt I.tsz I.tmp h1 h2, by rw [put_defers']; exact I.dfr, Mp.le_trans I.le st.le, fun b g hb => I.dom b g (hback b g hb), Nat.le_trans I.size st.size,
    ⟨st.same.1.trans I.same.1, st.same.2.1.trans I.same.2.1, st.same.2.2.trans I.same.2.2⟩, fun c hc' hn => ?_, fun b x g hx hg hb => I.fresh b x g hx (hback b g hg) hb⟩
  · have h5 := I.t3 h3
    have hne : top ≠ i := by rintro rfl; exact hf (bar_nonFree h5.1)
    simp [h5.2, hne]
  · simp only [Bool.or_eq_true, beq_iff_eq] at hL
    rcases hL with hL | rfl
    · obtain ⟨g, hg⟩ := I.md b x k hk hL h3 h4 hx
      exact ⟨g, st.le b g hg⟩
    · rw [hgap] at h4; omega
  · rw [st.frame c (Nat.lt_of_lt_of_le hc' I.size) fun hh => ?_]
    · exact I.frame c hc' hn
    · rcases I.hit0 T hh with h3 | h3
      · omega
      · exact hn h3

/-- A barrier. -/
theorem dinv_bar {E : Ev} (hE : SoundE P E) (hd : DCut P m ops dl) (T : Text base ops.size m ops dl ρ0 S) (hS : ∀ (k : Nat) ao f, dl[k]? = some (ao, f) → evalDraw E ao f (S k) = some (S (k + 1)))
    (I : DInv base m ops dl ρ0 S W0 ds L a W ρ top) {i : Nat} {o : Oper} (hr : Ready ops L i o) (hbar : isBar dl i) {Q : Exit → Act → World → Prop} :
    wpOp P ops Q i (fun a' W' => ∃ ρ' top', DInv base m ops dl ρ0 S W0 ds (fun k => L k || k == i) a' W' ρ' top') a W := by
  have hi : i < ops.size := (Array.getElem?_eq_some_iff.1 hr.op).1
  have hlt : i < dl.length := by rw [hd.len]; exact hi
  have hk := List.getElem?_eq_getElem hlt
  have hti : top = i := by
    rcases Nat.lt_trichotomy top i with h1 | h1 | h1
    · have h2 := I.t3 (by omega)
      obtain ⟨ao, k1, k2⟩ := h2.1
      obtain ⟨ao', f', k3, k4⟩ := bar_nonFree hbar
      have := hr.ahead I.cl top ((hd.bar top i ao ao' f' k1 k2 k3 k4).2 h1)
      rw [h2.2] at this; simp at this
    · exact h1
    · have := I.t2 i h1 hbar; rw [hr.not] at this; simp at this
  subst hti
  obtain ⟨o', ho', hc⟩ := hd.cut top _ _ hk
  rw [hr.op] at ho'; simp at ho'; subst ho'
  refine draw_step hE hc hr.op (hS top _ _ hk) I.rel (a := a) (fun sl hsl v hv => I.tmp sl v (look_cur hd T I.cl hr.op hr.not (hr.ahead I.cl) hsl hv)) fun v v' ρ' W' h1 h2 st _ => ?_
  obtain ⟨t, ht1, ht2, ht3, ht4⟩ := next_top (dl := dl) (fun k => L k || k == top) ops.size (ops.size - (top + 1)) (top + 1) rfl (by omega)
  have behind : ∀ k, top < k → nonFree dl k → L k = false := by
    intro k h3 h4
    cases hL : L k with
    | false => rfl
    | true =>
      have := (bar_order hd I.cl hbar h4).2 h3 hL
      rw [hr.not] at this; simp at this
  have hno : ∀ k, top + 1 ≤ k → k < t → ¬ isBar dl k := by
    intro k h3 h4 h5
    have h6 := ht3 k h3 h4 h5
    simp only [Bool.or_eq_true, beq_iff_eq] at h6
    rcases h6 with h6 | h6
    · rw [behind k (by omega) (bar_nonFree h5)] at h6; simp at h6
    · omega
  have hext := ext_of hd T ht1 ht2 hno
  have hrel := Rel.extend T ht1 ht2 st.rel hext
  refine ⟨ρ', t, cl_more I.cl hr, ht2, fun k h3 h4 => ?_, ht4, hrel, fun b g k hb hk' hL hh => ?_, fun b x k hk' hL h3 h4 hx => ?_, by rw [put_size]; exact I.tsz,
    cur_put hd T hr.op st.le hc.lt I.tsz I.tmp h1 h2, by rw [put_defers']; exact I.dfr, Mp.le_trans I.le st.le, fun b g hb => ?_, Nat.le_trans I.size st.size,
    ⟨st.same.1.trans I.same.1, st.same.2.1.trans I.same.2.1, st.same.2.2.trans I.same.2.2⟩, fun c hc' hn => ?_, fun b x g hx hg hb => ?_⟩
  · rcases Nat.lt_trichotomy k top with h5 | h5 | h5
    · simp [I.t2 k h5 h4]
    · simp [h5]
    · exact ht3 k (by omega) h3 h4
  · obtain ⟨hL1, hne⟩ := or_eq hL
    rcases st.dom b g hb with h5 | h5
    · exact I.ex b g k h5 hk' hL1 hh
    · have h6 := (st.rel.dom b g hb).1
      rcases Nat.lt_or_ge k top with h7 | h7
      · have := T.next (k + 1) top (by omega) I.t1; omega
      · have := T.next (top + 1) k (by omega) (by omega); omega
  · simp only [Bool.or_eq_true, beq_iff_eq] at hL
    rcases hL with hL | rfl
    · have hkt : k < top := by
        rcases Nat.lt_trichotomy k top with h5 | h5 | h5
        · exact h5
        · subst h5; rw [hr.not] at hL; simp at hL
        · by_cases hnf : nonFree dl k
          · rw [behind k h5 hnf] at hL; simp at hL
          · rw [free_gap hS (by rw [hd.len]; omega) hnf] at h4; omega
      have h6 := T.next (k + 1) top (by omega) I.t1
      obtain ⟨y, h7, _⟩ := T.keep top t b x (by omega) ht2 (by omega) hx
      obtain ⟨g, hg⟩ := I.md b y k hkt hL h3 h4 h7
      exact ⟨g, st.le b g hg⟩
    · rw [hext b h4] at hx
      exact (st.mapd b x hx h3).2
  · rcases st.dom b g hb with h3 | h3
    · exact I.dom b g h3
    · have := T.next 0 top (by omega) I.t1; exact .inr (by omega)
  · rw [st.frame c (Nat.lt_of_lt_of_le hc' I.size) fun hh => ?_]
    · exact I.frame c hc' hn
    · rcases I.hit0 T hh with h3 | h3
      · omega
      · exact hn h3
  · have h6 := (st.rel.dom b g hg).1
    have hown := T.own t b x ht2 hx hb
    rw [hext b h6] at hx
    by_cases h7 : (S top).2.next ≤ b
    · rcases st.fresh b x g hx hg h7 hown with h8 | h8
      · exact .inl (Nat.le_trans I.size h8)
      · exact I.hit0 T h8
    · rcases st.dom b g hg with h8 | h8
      · obtain ⟨y, h9, _⟩ := st.keep b x (by omega) hx
        exact I.fresh b y g h9 h8 hb
      · exact absurd h8 h7

end Go.Proofs.Ytekahidlngkhmaa.Am
