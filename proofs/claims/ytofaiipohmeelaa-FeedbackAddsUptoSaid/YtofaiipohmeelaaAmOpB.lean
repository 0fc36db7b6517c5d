/-
  The abstract machine: an operation that acts, or calls.
-/
import Derived.Test.YtofaiipohmeelaaAmOpA
namespace Go.Proofs.Ytofaiipohmeelaa.Am
variable {P : Program} {base : Nat} {ρ : Mp} {h : Heap} {W : World}

/-- The model comes to a call. -/
def CallsTo (P : Program) (ρ : Mp) (W : World) (s : Sem Next) (E : FuncId → List AV → Heap → Option (AV × Heap)) (h : Heap) (v : AV) (h' : Heap) : Prop :=
  ∃ f args args', E f args h = some (v, h') ∧ VRs ρ args args'.toList ∧ s.run P W = (callFunc f args').run P W

theorem Acts.unit {s : Sem Unit} {h' : Heap} (hs : ∃ W', s.run P W = .ok () W' ∧ Step base ρ h W ρ h' W') : Acts P base ρ h W (do s; pure .skip) (.tup []) h' := by
  obtain ⟨W', h1, h2⟩ := hs
  exact ⟨.skip, undef, W', ρ, by simp [h1], .inr ⟨rfl, rfl⟩, ⟨#[], rfl, rfl⟩, h2⟩

theorem call_acts (r : Rel base ρ h W) {E : FuncId → List AV → Heap → Option (AV × Heap)} {dst : Option Tmp} {c : Call} {ty : TypeId} {pos : String} {after : Array Edge} {gd : Option (Nat × Bool)} {ao : AOp} {env : AX → AV} {a : Operand → Value} {v : AV} {h' : Heap}
    (hc : cOp P ⟨dst, .call c, ty, pos, after, gd⟩ = some ao) (he : Env ρ (Op.call c).operands.toList env a) (hcst : ∀ v, env (.c v) = v) (hv : evalA E h env ao = some (v, h')) :
    Acts P base ρ h W (execOp a ⟨dst, .call c, ty, pos, after, gd⟩) v h' ∨ CallsTo P ρ W (execOp a ⟨dst, .call c, ty, pos, after, gd⟩) E h v h' := by
  have hm : ∀ x ∈ c.args.toList, x ∈ (Op.call c).operands.toList := by
    intro x hx
    simp only [Op.operands, Call.operands, Array.toList_append]
    exact List.mem_append_right _ hx
  simp only [cOp] at hc
  split at hc
  · rename_i f hb
    simp only [Option.bind_eq_bind, Option.bind_eq_some_iff, Option.pure_def, Option.some.injEq] at hc
    obtain ⟨l, hl, rfl⟩ := hc
    simp only [evalA] at hv
    have r1 := mapM_cX hl (fun x hx ax e => he x (hm x hx) ax e)
    have r2 := he (.func f) (by simp [Op.operands, Call.operands, hb]) _ rfl
    rw [hcst] at r2
    simp only [VR, VRs] at r2
    obtain ⟨xs, ys, e1, e2, e3⟩ := r2
    refine .inr ⟨f, _, c.args.map a, hv, by rw [Array.toList_map]; exact r1, ?_⟩
    have e4 : xs = #[] := by simpa using e2
    have e5 : ys = #[] := by simpa using e3
    simp only [execOp, resolve, hb, e1, Deferred.ofValue, Sem.run_bind, Sem.run_pure, Result.andThen_ok, invoke, e4, e5]
    simp
  · rename_i fo hnf hb
    simp only [Option.bind_eq_bind, Option.bind_eq_some_iff, Option.pure_def, Option.some.injEq] at hc
    obtain ⟨af, hf, l, hl, rfl⟩ := hc
    have r1 := mapM_cX hl (fun x hx ax e => he x (hm x hx) ax e)
    have r2 := he fo (by simp [Op.operands, Call.operands, hb]) _ hf
    simp only [evalA] at hv
    split at hv
    · rename_i g first cap hfe
      rw [hfe] at r2
      simp only [VR] at r2
      obtain ⟨xs, ys, e1, e2, e3⟩ := r2
      refine .inr ⟨g, _, xs ++ c.args.map a ++ ys, hv, ?_, ?_⟩
      · rw [Array.toList_append, Array.toList_append, Array.toList_map]; exact VRs.append (VRs.append e2 r1) e3
      · simp only [execOp, resolve, hb, e1, Deferred.ofValue, Sem.run_bind, Sem.run_pure, Result.andThen_ok, invoke]
    · simp at hv
  · simp at hc
  · rename_i b hb
    have hrun : ∀ (l : List Operand) (s : Sem Value), c.args.toList = l → (∀ consts, builtin b c.argTypes ty consts (l.map a).toArray = (do pure (Next.value (← s)))) →
        ActsV P base ρ h W s v h' → Acts P base ρ h W (execOp a ⟨dst, .call c, ty, pos, after, gd⟩) v h' := by
      intro l s h2 h3 h4
      have h5 : c.args.map a = (l.map a).toArray := by rw [← h2, ← Array.toList_map, Array.toArray_toList]
      obtain ⟨nx, v', W', ρ', h6, h7⟩ := Acts.of h4
      refine ⟨nx, v', W', ρ', ?_, h7⟩
      simp only [execOp, resolve, hb, Sem.run_bind, Sem.run_pure, Result.andThen_ok, invoke, h5, h3]
      simpa using h6
    have hmem : ∀ {x : Operand} {l : List Operand}, c.args.toList = l → x ∈ l → ∀ ax, cX x = some ax → VR ρ (env ax) (a x) := fun hl hx ax e => he _ (hm _ (hl ▸ hx)) ax e
    refine .inl ?_
    split at hc
    case h_7 s x hargs =>
      split at hc
      case h_1 | h_2 =>
        rename_i hu1 hu2
        obtain ⟨st, hst, hu1⟩ := Option.bind_eq_some_iff.1 hu1
        obtain ⟨xt, hxt, hu2⟩ := Option.bind_eq_some_iff.1 hu2
        simp only [Option.bind_eq_bind, Option.bind_eq_some_iff] at hc
        obtain ⟨n, hn, by_, hby, z, hz, hc⟩ := hc
        split at hc
        · simp at hc
        · rename_i hcond
          simp only [Option.bind_eq_some_iff, Option.pure_def, Option.some.injEq] at hc
          obtain ⟨as, hs, ax, hx, rfl⟩ := hc
          simp only [not_or, Decidable.not_not] at hcond
          obtain ⟨hn0, hzl, hb0⟩ := hcond
          obtain ⟨i, zv, hi, hiz, hzr, _⟩ := zero_cells hz ρ
          have hzs : zv.cells.size = n := by have := hzr.length; simp only [Array.length_toList] at this; omega
          have hbs : i.bytes = by_ := by simp only [tBytes, hi, Option.map_some, Option.some.injEq] at hby; exact hby
          have r1 := hmem hargs (by simp) as hs
          have r2 := hmem hargs (by simp) ax hx
          simp only [evalA] at hv
          cases hsrc : srcCells h n (env ax) with
          | none => simp [hsrc, appendA] at hv
          | some p =>
            obtain ⟨m, new⟩ := p
            rw [hsrc] at hv
            obtain ⟨k1, new', k2, k3, _⟩ := src_sound (P := P) r r2 hsrc
            refine hrun [s, x] (Builtin.append_ c.argTypes ty #[a s, a x]) hargs (fun _ => rfl) ?_
            exact app_sound (P := P) r (call := fun s' => Builtin.append_ c.argTypes ty #[s', a x]) hn0 r1 k3 hzs
              (fun a0 l c0 W' hfit hst' => run_append_in hst hu1 hxt hu2 hn (by first | exact .inl ⟨_, rfl⟩ | exact .inr rfl) (k1 W) (k2 W rfl) hfit hst')
              (fun a0 l c0 old hfit hold hb => run_append_grow hst hu1 hxt hu2 hn hi hiz (by first | exact .inl ⟨_, rfl⟩ | exact .inr rfl) (k1 W) (k2 W.drew rfl) hold hfit (by rw [hbs]; exact hb) (by rw [hbs]; exact hb0))
              hv
      case h_3 =>
        rename_i el ik hu1 hu2
        obtain ⟨st, hst, hu1⟩ := Option.bind_eq_some_iff.1 hu1
        obtain ⟨xt, hxt, hu2⟩ := Option.bind_eq_some_iff.1 hu2
        simp only [Option.bind_eq_bind, Option.bind_eq_some_iff] at hc
        obtain ⟨n, hn, by_, hby, z, hz, hc⟩ := hc
        split at hc
        · simp at hc
        · rename_i hcond
          simp only [Option.bind_eq_some_iff, Option.pure_def, Option.some.injEq] at hc
          obtain ⟨as, hs, ax, hx, rfl⟩ := hc
          simp only [not_or, Decidable.not_not] at hcond
          obtain ⟨hn0, hzl, hb0⟩ := hcond
          obtain ⟨i, zv, hi, hiz, hzr, _⟩ := zero_cells hz ρ
          have hzs : zv.cells.size = n := by have := hzr.length; simp only [Array.length_toList] at this; omega
          have hbs : i.bytes = by_ := by simp only [tBytes, hi, Option.map_some, Option.some.injEq] at hby; exact hby
          have r1 := hmem hargs (by simp) as hs
          have r2 := hmem hargs (by simp) ax hx
          simp only [evalA] at hv
          split at hv
          · rename_i m hm'
            cases hmb : Nat.ble (m * by_) 70368744177664 with
            | false => simp [hmb] at hv
            | true =>
              simp only [hmb, cond_true] at hv
              have hmb := Nat.le_of_ble_eq_true hmb
              have hxx : ∃ k, a x = .int k (m : Int) := by
                unfold asNat at hm'; split at hm'
                · rename_i hh
                  rw [hh] at r2
                  split at hm'
                  · simp only [Option.some.injEq] at hm'; subst hm'; simp only [VR] at r2; exact ⟨_, r2⟩
                  · simp at hm'
                · simp at hm'
              obtain ⟨k, hxx⟩ := hxx
              have hmm : m < 9223372036854775808 := by
                have : m ≤ m * by_ := Nat.le_mul_of_pos_right _ (by omega)
                omega
              have hzn : VRs ρ (manyZeros z (m * n)) (zerosNew zv.cells n m).toList := by
                unfold zerosNew
                by_cases h0 : m * n = 0
                · rw [h0]; simp [manyZeros, VRs]
                · rw [if_neg h0]
                  have := manyZeros_sound hzr (m * n)
                  simp only [Builtin.zeroCells, hzs] at this ⊢; exact this
              refine hrun [s, x] (Builtin.append_ c.argTypes ty #[a s, .int k (m : Int)]) hargs (fun _ => by simp only [List.map_cons, List.map_nil, hxx]; rfl) ?_
              exact app_sound (P := P) r (call := fun s' => Builtin.append_ c.argTypes ty #[s', .int k (m : Int)]) hn0 r1 hzn hzs
                (fun a0 l c0 W' hfit hst' => run_appendz_in hst hu1 hxt hu2 hn hi hiz (by rw [hbs]; exact hmb) hmm hfit hst')
                (fun a0 l c0 old hfit hold hb => run_appendz_grow hst hu1 hxt hu2 hn hi hiz (by rw [hbs]; exact hmb) hmm hold hfit (by rw [hbs]; exact hb) (by rw [hbs]; exact hb0))
                hv
          · simp at hv
      case h_4 => simp at hc
    case h_8 d s hargs =>
      split at hc
      · rename_i el hu1
        obtain ⟨dt, hdt, hu1⟩ := Option.bind_eq_some_iff.1 hu1
        simp only [Option.bind_eq_bind, Option.bind_eq_some_iff, Option.pure_def, Option.some.injEq] at hc
        obtain ⟨ad, hd, as, hs, n, hn, rfl⟩ := hc
        have r1 := hmem hargs (by simp) ad hd
        have r2 := hmem hargs (by simp) as hs
        simp only [evalA] at hv
        exact hrun [d, s] (Builtin.copy_ c.argTypes ty #[a d, a s]) hargs (fun _ => rfl) (acts_copy r hdt hu1 hn hv r1 r2)
      · simp at hc
    all_goals
      repeat' split at hc
      all_goals try (simp at hc; done)
      all_goals (try simp only [Option.bind_eq_bind, Option.bind_eq_some_iff, Option.pure_def, Option.some.injEq] at hc)
      all_goals (repeat (obtain ⟨_, hc⟩ := hc))
      all_goals (try subst hc)
      all_goals (simp [evalA] at hv)

end Go.Proofs.Ytofaiipohmeelaa.Am
