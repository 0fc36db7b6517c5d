/-
  The abstract machine: every operation.
-/
import Derived.Test.YtofaiipohmeelaaAmOpB
namespace Go.Proofs.Ytofaiipohmeelaa.Am
variable {P : Program} {base : Nat} {ρ : Mp} {h : Heap} {W : World}

theorem evalA_sound (r : Rel base ρ h W) (E : FuncId → List AV → Heap → Option (AV × Heap)) (o : Oper) (ao : AOp) (hc : cOp P o = some ao) (env : AX → AV) (a : Operand → Value) (he : Env ρ o.op.operands.toList env a)
    (hcst : ∀ v, env (.c v) = v) (v : AV) (h' : Heap) (hv : evalA E h env ao = some (v, h')) :
    Acts P base ρ h W (execOp a o) v h' ∨ CallsTo P ρ W (execOp a o) E h v h' := by
  obtain ⟨dst, op, ty, pos, after, gd⟩ := o
  cases op
  case call c => exact call_acts r hc he hcst hv
  case alloc e =>
    simp only [cOp, Option.bind_eq_bind, Option.bind_eq_some_iff, Option.pure_def, Option.some.injEq] at hc
    obtain ⟨z, hz, rfl⟩ := hc
    simp only [evalA, Option.map_eq_some_iff, Prod.mk.injEq] at hv
    obtain ⟨⟨b, h1⟩, hr, rfl, rfl⟩ := hv
    exact .inl (Acts.of (acts_alloc r hz hr))
  case box e x =>
    simp only [cOp, Option.bind_eq_bind, Option.bind_eq_some_iff, Option.pure_def, Option.some.injEq] at hc
    obtain ⟨ax, hx, rfl⟩ := hc
    simp only [evalA, Option.map_eq_some_iff, Prod.mk.injEq] at hv
    obtain ⟨⟨b, h1⟩, hr, rfl, rfl⟩ := hv
    exact .inl (Acts.of (acts_box r (he x (by simp [Op.operands]) ax hx) hr))
  case buildSlice t len parts =>
    have hparts : ∀ x ∈ parts.toList.map (·.2), ∀ ax, cX x = some ax → VR ρ (env ax) (a x) := fun x hx ax e => he x (by simpa [Op.operands] using hx) ax e
    simp only [cOp] at hc
    split at hc
    · rename_i e hu
      simp only [Option.bind_eq_bind, Option.bind_eq_some_iff] at hc
      obtain ⟨n, hn, z, hz, hc⟩ := hc
      split at hc
      · simp at hc
      · rename_i hbig
        simp only [Option.bind_eq_some_iff, Option.pure_def, Option.some.injEq] at hc
        obtain ⟨ps, hp, rfl⟩ := hc
        simp only [evalA] at hv
        split at hv
        · rename_i cells hf
          cases hl : Nat.beq cells.length (len * n) with
          | false => simp [hl] at hv
          | true =>
            simp only [hl, cond_true, Option.map_eq_some_iff, Prod.mk.injEq] at hv
            obtain ⟨⟨b, h1⟩, hr, rfl, rfl⟩ := hv
            exact .inl (Acts.of (acts_buildSl r hu hn hz hp hbig hparts hf (Nat.eq_of_beq_eq_true hl) hr))
        · simp at hv
    · simp at hc
  case store t x y =>
    simp only [cOp, Option.bind_eq_bind, Option.bind_eq_some_iff, Option.pure_def, Option.some.injEq] at hc
    obtain ⟨ax, hx, ay, hy, n, hn, rfl⟩ := hc
    have r1 := he x (by simp [Op.operands]) ax hx
    have r2 := he y (by simp [Op.operands]) ay hy
    simp only [evalA] at hv
    split at hv
    · rename_i b o hb
      rw [hb] at r1; simp only [VR] at r1
      obtain ⟨g, hg, e1⟩ := r1
      cases hl : Nat.beq (env ay).cells.length n with
      | false => simp [hl] at hv
      | true =>
        simp only [hl, cond_true, Option.map_eq_some_iff, Prod.mk.injEq] at hv
        obtain ⟨h1, hs, rfl, rfl⟩ := hv
        refine .inl (Acts.unit ?_)
        rw [e1]
        exact acts_store r hg r2 hn (Nat.eq_of_beq_eq_true hl) hs
    · simp at hv
  case convert src dst x =>
    simp only [cOp] at hc
    split at hc
    all_goals try (simp at hc; done)
    case h_7 =>
      rename_i e hs hd
      split at hc
      · rename_i hel
        simp only [Option.bind_eq_bind, Option.bind_eq_some_iff, Option.pure_def, Option.some.injEq] at hc
        obtain ⟨ax, hx, rfl⟩ := hc
        have r1 := he x (by simp [Op.operands]) ax hx
        simp only [evalA] at hv
        split at hv
        · rename_i s hse
          simp only [Option.map_eq_some_iff, Prod.mk.injEq] at hv
          obtain ⟨⟨b, h1⟩, hr, rfl, rfl⟩ := hv
          rw [hse] at r1
          exact .inl (Acts.of (acts_strToBytes r hs hd hel r1 hr))
        · simp at hv
      · simp at hc
    all_goals
      (try split at hc)
      all_goals try (simp at hc; done)
      all_goals (simp only [Option.bind_eq_bind, Option.bind_eq_some_iff, Option.pure_def, Option.some.injEq] at hc)
      all_goals (obtain ⟨_, _, rfl⟩ := hc; simp [evalA] at hv)
  case makeMap t rs =>
    cases rs with
    | none =>
      simp only [cOp] at hc
      split at hc <;> simp only [Option.some.injEq, reduceCtorEq] at hc
      subst hc
      simp only [evalA, Option.some.injEq, Prod.mk.injEq] at hv
      obtain ⟨rfl, rfl⟩ := hv
      exact .inl (Acts.of (acts_mkMap r (fun x hx => by simp at hx)))
    | some x =>
      simp only [cOp] at hc
      split at hc
      · rename_i k e hu
        simp only [Option.bind_eq_bind, Option.bind_eq_some_iff, Option.pure_def, Option.some.injEq] at hc
        obtain ⟨ax, hx, rfl⟩ := hc
        have r1 := he x (by simp [Op.operands]) ax hx
        simp only [evalA] at hv
        split at hv
        · rename_i ik n hin
          simp only [Option.some.injEq, Prod.mk.injEq] at hv
          obtain ⟨rfl, rfl⟩ := hv
          rw [hin] at r1; simp only [VR] at r1
          exact .inl (Acts.of (acts_mkMap r (fun y hy => by simp at hy; subst hy; exact ⟨⟨k, e, hu⟩, ik, n, r1⟩)))
        · simp at hv
      · simp at hc
  case makeSlice t l c =>
    simp only [cOp] at hc
    split at hc
    · rename_i e hu
      simp only [Option.bind_eq_bind, Option.bind_eq_some_iff] at hc
      obtain ⟨n, hn, by_, hby, hc⟩ := hc
      split at hc
      · simp at hc
      · rename_i hcond
        simp only [Option.bind_eq_some_iff, Option.pure_def, Option.some.injEq] at hc
        obtain ⟨al, hl, ac, hcc, z, hz, rfl⟩ := hc
        simp only [not_or] at hcond
        have r1 := he l (by simp [Op.operands]) al hl
        have r2 := he c (by simp [Op.operands]) ac hcc
        simp only [evalA] at hv
        split at hv
        · rename_i ln cn e1 e2
          cases hb : (Nat.ble ln cn && Nat.ble (cn * by_) 70368744177664) with
          | false => simp [hb] at hv
          | true =>
            simp only [hb, cond_true, Option.some.injEq, Prod.mk.injEq] at hv
            obtain ⟨rfl, rfl⟩ := hv
            simp only [Bool.and_eq_true] at hb
            exact .inl (Acts.of (acts_mkSl r hu hn hby hz hcond.2 r1 r2 e1 e2 (Nat.le_of_ble_eq_true hb.1) (Nat.le_of_ble_eq_true hb.2)))
        · simp at hv
    · simp at hc
  case makeFunc fn first captured =>
    cases fn <;> simp only [cOp, reduceCtorEq] at hc
    simp only [Option.bind_eq_bind, Option.bind_eq_some_iff, Option.pure_def, Option.some.injEq] at hc
    obtain ⟨_, _, _, _, rfl⟩ := hc
    simp [evalA] at hv
  case mapUpdate t m k x | insert t m k x =>
    simp only [cOp] at hc
    split at hc
    · rename_i kt el hu
      split at hc
      all_goals try (simp at hc; done)
      all_goals
        rename_i hk
        simp only [Option.bind_eq_bind, Option.bind_eq_some_iff, Option.pure_def, Option.some.injEq] at hc
        obtain ⟨am, h1, ak, h2, ax, h3, rfl⟩ := hc
        have r1 := he m (by simp [Op.operands]) am h1
        have r2 := he k (by simp [Op.operands]) ak h2
        have r3 := he x (by simp [Op.operands]) ax h3
        simp only [evalA] at hv
        split at hv
        · rename_i b hb
          rw [hb] at r1; simp only [VR] at r1
          obtain ⟨g, hg, e1⟩ := r1
          split at hv
          · rename_i es hes
            split at hv
            · rename_i hf
              simp only [Option.some.injEq, Prod.mk.injEq] at hv
              obtain ⟨rfl, rfl⟩ := hv
              refine .inl (Acts.unit ?_)
              rw [e1]
              exact acts_upd r hu hk (by simp [ShOk]) (by simp [keySh]) hes hg r2 r3 hf
            · simp at hv
          · simp at hv
        · simp at hv
    · simp at hc
  all_goals
    simp only [cOp] at hc
    repeat' split at hc
    all_goals try (simp at hc; done)
    all_goals (try simp only [Option.bind_eq_bind, Option.bind_eq_some_iff, Option.map_eq_some_iff, Option.pure_def, Option.some.injEq] at hc)
    all_goals (repeat (obtain ⟨_, hc⟩ := hc))
    all_goals (repeat' split at hc)
    all_goals try (simp at hc; done)
    all_goals (try simp only [Option.bind_eq_some_iff, Option.some.injEq] at hc)
    all_goals (repeat (obtain ⟨_, hc⟩ := hc))
    all_goals (try subst hc)
    all_goals (simp [evalA] at hv)


/-- ████ AN OPERATION ████ -/
theorem evalOp_sound (r : Rel base ρ h W) (E : FuncId → List AV → Heap → Option (AV × Heap)) (o : Oper) (ao : AOp) (hc : cOp P o = some ao) (env : AX → AV) (a : Operand → Value) (he : Env ρ o.op.operands.toList env a)
    (hcst : ∀ v, env (.c v) = v) (v : AV) (h' : Heap) (hv : evalOp E h env ao = some (v, h')) :
    Acts P base ρ h W (execOp a o) v h' ∨ CallsTo P ρ W (execOp a o) E h v h' := by
  unfold evalOp at hv
  cases hact : ao.acts with
  | true => rw [hact] at hv; exact evalA_sound r E o ao hc env a he hcst v h' hv
  | false =>
    rw [hact] at hv
    simp only [cond_false, Option.map_eq_some_iff, Prod.mk.injEq] at hv
    obtain ⟨u, hu, rfl, rfl⟩ := hv
    obtain ⟨v', h1, h2⟩ := evalR_sound r o ao hc env a he u hu
    exact .inl ⟨_, v', W, ρ, h1, .inl rfl, h2, Step.refl r⟩

end Go.Proofs.Ytofaiipohmeelaa.Am
