/-
  The abstract machine: an operation that turns nothing gives the model's value.
-/
import Derived.Test.YtofaiipohmeelaaAmOpR3
namespace Go.Proofs.Ytofaiipohmeelaa.Am
variable {P : Program} {base : Nat} {ρ : Mp} {h : Heap} {W : World}

theorem mapM_cX {env : AX → AV} {a : Operand → Value} : ∀ {l : List Operand} {l' : List AX}, l.mapM cX = some l' → Env ρ l env a → VRs ρ (l'.map env) (l.map a)
  | [], l', e, _ => by simp at e; subst e; exact rfl
  | x :: xs, l', e, he => by
    simp only [List.mapM_cons, Option.bind_eq_bind, Option.bind_eq_some_iff, Option.pure_def, Option.some.injEq] at e
    obtain ⟨y, hy, ys, hys, rfl⟩ := e
    exact ⟨_, _, rfl, he x (by simp) y hy, mapM_cX hys fun z hz => he z (by simp [hz])⟩

theorem is_mm2 (r : Bool) {x y v : AV} {x' y' : Value} (hx : VR ρ x x') (hy : VR ρ y y') (e : mm2 r x y = some v) :
    Is P ρ W (if r then Builtin.max2 x' y' else Builtin.min2 x' y') v := by
  unfold mm2 at e
  split at e
  · simp only [VR] at hx hy; subst hx hy
    simp only [Option.some.injEq] at e; subst e
    cases r
    · exact ⟨_, by simp [Builtin.min2]; rfl, by simp [VR]⟩
    · exact ⟨_, by simp [Builtin.max2]; rfl, by simp [VR]⟩
  · simp only [VR] at hx hy; subst hx hy
    simp only [Option.map_eq_some_iff] at e
    obtain ⟨z, hz, rfl⟩ := e
    unfold fMm at hz
    split at hz <;> simp only [Option.some.injEq, reduceCtorEq] at hz
    all_goals (rename_i ho; subst hz; refine ⟨.float .f64 _, ?_, rfl⟩; cases r)
    all_goals simp [Builtin.min2, Builtin.max2, FloatKind.format, FloatKind.decode, ho, cond_eq_ite]
    all_goals (split <;> simp_all)
  · simp at e

theorem is_mmL (r : Bool) : ∀ {l : List AV} {x v : AV} {x' : Value} {l' : List Value}, VR ρ x x' → VRs ρ l l' → mmL r x l = some v →
    Is P ρ W (l'.foldlM (if r then Builtin.max2 else Builtin.min2) x') v
  | [], x, v, x', l', hx, hl, e => by
    simp only [VRs] at hl; subst hl
    simp only [mmL, Option.some.injEq] at e; subst e
    exact ⟨x', by simp, hx⟩
  | y :: l, x, v, x', l', hx, hl, e => by
    simp only [VRs] at hl
    obtain ⟨w, ws, rfl, h1, h2⟩ := hl
    simp only [mmL, Option.bind_eq_some_iff] at e
    obtain ⟨z, hz, e⟩ := e
    obtain ⟨z', h3, h4⟩ := is_mm2 (P := P) (W := W) r hx h1 hz
    obtain ⟨v', h5, h6⟩ := is_mmL r h4 h2 e
    refine ⟨v', ?_, h6⟩
    rw [List.foldlM_cons, Sem.run_bind]
    cases r
    · simp only [Bool.false_eq_true, if_false] at h3 h5 ⊢; rw [h3]; exact h5
    · simp only [if_true] at h3 h5 ⊢; rw [h3]; exact h5

theorem run_fieldPlace {f : Field} {n : Nat} (hn : tSize P f.type = some n) (hz : n ≠ 0) (blk o : Nat) (W : World) :
    (fieldPlace ⟨blk, o, none⟩ f).run P W = .ok ⟨blk, o + f.offset, none⟩ W := by
  simp [fieldPlace, run_sizeOf hn, hz, add_spotless]

theorem fieldOf_spec {s : TypeId} {i : Nat} {f : Field} (e : fieldOf P s i = some f) : ∃ fs, P.underlying s = some (.struct fs) ∧ fs[i]? = some f := by
  unfold fieldOf at e
  split at e
  · rename_i fs hu; exact ⟨fs, hu, e⟩
  · simp at e

/-- What the cut of an operator is. -/
theorem bin_cut {op : BinOp} {t : TypeId} {x y : Operand} {yt ty : TypeId} {dst : Option Tmp} {pos : String} {after : Array Edge} {gd : Option (Nat × Bool)} {ao : AOp}
    (hc : cOp P ⟨dst, .binOp op t x y yt, ty, pos, after, gd⟩ = some ao) :
    (∃ ax ay, cX x = some ax ∧ cX y = some ay ∧ ao = .bin op ax ay) ∨
    (∃ ax ay p neg lit, cX x = some ax ∧ cX y = some ay ∧ ao = .eq neg p ax ay ∧ cEq P lit 20 t = some p ∧ op = (if neg then .neq else .eql) ∧
      (((∃ fs, P.underlying t = some (.struct fs)) ∧ P.eqGuardType P.depth t = false) ∨ ((¬ ∃ fs, P.underlying t = some (.struct fs)) ∧ (lit = true → (isConst x || isConst y) = true) ∧ ∀ td, P.underlying t = some td → (td = .bool ∨ (∃ e, td = .pointer e) ∨ (∃ e, td = .slice e) ∨ (∃ k e, td = .map k e) ∨ (∃ a b c, td = .func a b c) ∨ ∃ ms, td = .interface ms)))) := by
  simp only [cOp] at hc
  split at hc
  case h_1 | h_2 =>
    rename_i fs _ hu
    split at hc
    · simp at hc
    · rename_i hg
      simp only [Option.bind_eq_bind, Option.bind_eq_some_iff, Option.pure_def, Option.some.injEq] at hc
      obtain ⟨p, hp, ax, hx, ay, hy, rfl⟩ := hc
      exact .inr ⟨ax, ay, p, _, false, hx, hy, rfl, hp, rfl, .inl ⟨⟨_, hu⟩, by simpa using hg⟩⟩
  all_goals
    simp only [Option.bind_eq_bind, Option.bind_eq_some_iff, Option.pure_def, Option.some.injEq] at hc
  all_goals first
    | (obtain ⟨ax, hx, ay, hy, rfl⟩ := hc; exact .inl ⟨ax, ay, hx, hy, rfl⟩)
    | (rename_i hu; obtain ⟨p, hp, ax, hx, ay, hy, rfl⟩ := hc
       exact .inr ⟨ax, ay, p, _, _, hx, hy, rfl, hp, rfl, .inr ⟨by rintro ⟨fs, e⟩; rw [hu] at e; simp at e, fun e => e, fun td e => by rw [hu] at e; simp at e; subst e; simp⟩⟩)

theorem is_conv (r : Rel base ρ h W) {src dst : TypeId} {x : Operand} {env : AX → AV} {a : Operand → Value} {d : Option Tmp} {ty : TypeId} {pos : String} {after : Array Edge} {gd : Option (Nat × Bool)} {ao : AOp} {v : AV}
    (hc : cOp P ⟨d, .convert src dst x, ty, pos, after, gd⟩ = some ao) (he : ∀ ax, cX x = some ax → VR ρ (env ax) (a x)) (hv : evalR h env ao = some v) : Is P ρ W (convert src dst (a x)) v := by
  simp only [cOp] at hc
  split at hc
  all_goals try (simp at hc; done)
  all_goals rename_i hs hd
  case h_7 =>
    split at hc
    · simp only [Option.bind_eq_bind, Option.bind_eq_some_iff, Option.pure_def, Option.some.injEq] at hc
      obtain ⟨ax, hx, rfl⟩ := hc
      simp [evalR] at hv
    · simp at hc
  case h_8 =>
    split at hc
    · rename_i hel
      simp only [Option.bind_eq_bind, Option.bind_eq_some_iff, Option.pure_def, Option.some.injEq] at hc
      obtain ⟨ax, hx, rfl⟩ := hc
      have hxr := he ax hx
      simp only [evalR] at hv
      obtain ⟨v', h1, h2⟩ := is_bytesToStr (P := P) r hv hxr
      refine ⟨v', ?_, h2⟩
      have : ∃ s l c, a x = .slice s l c := by
        generalize env ax = z at hv hxr
        cases z <;> simp only [reduceCtorEq] at hv <;> simp only [VR] at hxr
        · obtain ⟨s, c', e, _⟩ := hxr; exact ⟨_, _, _, e⟩
        · exact ⟨_, _, _, hxr⟩
      obtain ⟨s, l, c, hax⟩ := this
      rw [hax] at h1 ⊢
      rw [run_convert_bytes_string _ _ _ _ _ _ _ hs hel hd]; exact h1
    · simp at hc
  all_goals
    simp only [Option.bind_eq_bind, Option.bind_eq_some_iff, Option.pure_def, Option.some.injEq] at hc
    obtain ⟨ax, hx, rfl⟩ := hc
    have hxr := he ax hx
    simp only [evalR] at hv
    generalize env ax = z at hv hxr
    cases z <;> simp only [reduceCtorEq] at hv <;> simp only [VR] at hxr
  case h_1.int k n => simp only [Option.some.injEq] at hv; subst hv; rw [hxr]; exact ⟨_, by simp [convert, run_underlying hs, run_underlying hd, Conv.intToInt]; rfl, by simp [VR, wrapK_eq]⟩
  case h_2.int k n => simp only [Option.some.injEq] at hv; subst hv; rw [hxr]; exact ⟨_, by simp [convert, run_underlying hs, run_underlying hd, Conv.intToFloat]; rfl, by simp [VR]⟩
  case h_3.flt b =>
    rw [hxr]
    obtain ⟨v', h1, h2⟩ := is_fltToInt (P := P) (ρ := ρ) (W := W) hv
    exact ⟨v', by simp [convert, run_underlying hs, run_underlying hd, h1], h2⟩
  case h_4.flt b => simp only [Option.some.injEq] at hv; subst hv; rw [hxr]; exact ⟨_, by simp [convert, run_underlying hs, run_underlying hd, Conv.floatToFloat]; rfl, by simp [VR]⟩
  case h_5.cpx b c => simp only [Option.some.injEq] at hv; subst hv; rw [hxr]; exact ⟨_, by simp [convert, run_underlying hs, run_underlying hd, Conv.complexToComplex]; rfl, by simp [VR]⟩
  case h_6.str s => simp only [Option.some.injEq] at hv; subst hv; obtain ⟨t, e1, e2⟩ := hxr; rw [e1]; exact ⟨.string t, by simp [convert, run_underlying hs, run_underlying hd], ⟨t, rfl, e2⟩⟩


theorem is_eq (r : Rel base ρ h W) {t : TypeId} {p : EqP} {lit neg b : Bool} {x y : AV} {x' y' : Value} {ox oy : Operand} (hc : cEq P lit 20 t = some p) (hx : VR ρ x x') (hy : VR ρ y y') (e : eqA h p x y = some b)
    (hk : ((∃ fs, P.underlying t = some (.struct fs)) ∧ P.eqGuardType P.depth t = false) ∨ ((¬ ∃ fs, P.underlying t = some (.struct fs)) ∧ (lit = true → (isConst ox || isConst oy) = true) ∧ ∀ td, P.underlying t = some td → (td = .bool ∨ (∃ e, td = .pointer e) ∨ (∃ e, td = .slice e) ∨ (∃ k e, td = .map k e) ∨ (∃ a b c, td = .func a b c) ∨ ∃ ms, td = .interface ms))) :
    ((do eqGuard (if neg then .neq else .eql) t ox oy x' y'; binOp (if neg then .neq else .eql) t x' y') : Sem Value).run P W = .ok (.bool (neg ^^ b)) W := by
  have heq := run_eq (P := P) r hc hx hy e
  have fin : (eqGuard (if neg then .neq else .eql) t ox oy x' y').run P W = .ok () W → (binOp (if neg then .neq else .eql) t x' y' = if neg then (do pure (.bool (!(← Op.equal t x' y')))) else (do pure (.bool (← Op.equal t x' y')))) →
      ((do eqGuard (if neg then .neq else .eql) t ox oy x' y'; binOp (if neg then .neq else .eql) t x' y') : Sem Value).run P W = .ok (.bool (neg ^^ b)) W := by
    intro h1 h2
    rw [Sem.run_bind, h1, Result.andThen_ok, h2]
    cases neg <;> simp [heq]
  cases p with
  | parts l =>
    obtain ⟨fs, hu, _, _⟩ := cEq_parts hc
    rcases hk with ⟨_, hg⟩ | ⟨hn, _⟩
    · cases x <;> cases y <;> simp only [eqA, reduceCtorEq] at e
      simp only [VR] at hx hy
      obtain ⟨xs, rfl, _⟩ := hx
      obtain ⟨ys, rfl, _⟩ := hy
      exact fin (run_eqGuard_agg _ _ _ _ _ _ _ hg) (by cases neg <;> rfl)
    · exact absurd ⟨fs, hu⟩ hn
  | prim s =>
    obtain ⟨td, hu, hs⟩ := cEq_prim hc
    simp only [eqA] at e
    rcases hk with ⟨⟨fs, hu'⟩, _⟩ | ⟨_, hlit, hty⟩
    · rw [hu] at hu'; simp at hu'; subst hu'
      cases s <;> simp [ShOk] at hs
    · have hty := hty td hu
      unfold primEq at e
      split at e <;> (try simp only [VR] at hx hy) <;> (try simp only [ShOk] at hs)
      · subst hx hy; exact fin (by cases neg <;> rfl) (by cases neg <;> rfl)
      · obtain ⟨k, rfl⟩ := hs; simp at hty
      · subst hs; simp at hty
      · subst hs; simp at hty
      · subst hs; simp at hty
      · subst hx hy; exact fin (by cases neg <;> rfl) (by cases neg <;> rfl)
      · obtain ⟨g, _, rfl⟩ := hy; subst hx; exact fin (by cases neg <;> rfl) (by cases neg <;> rfl)
      · obtain ⟨g, _, rfl⟩ := hx; subst hy; exact fin (by cases neg <;> rfl) (by cases neg <;> rfl)
      · obtain ⟨g, _, rfl⟩ := hx; obtain ⟨g', _, rfl⟩ := hy; exact fin (by cases neg <;> rfl) (by cases neg <;> rfl)
      · subst hx hy; exact fin (by cases neg <;> rfl) (by cases neg <;> rfl)
      · obtain ⟨_, _, rfl, _⟩ := hy; subst hx; exact fin (by cases neg <;> rfl) (by cases neg <;> rfl)
      · obtain ⟨_, _, rfl, _⟩ := hx; subst hy; exact fin (by cases neg <;> rfl) (by cases neg <;> rfl)
      · subst hx hy; exact fin (by cases neg <;> rfl) (by cases neg <;> rfl)
      · obtain ⟨g, _, rfl⟩ := hy; subst hx; exact fin (by cases neg <;> rfl) (by cases neg <;> rfl)
      · obtain ⟨g, _, rfl⟩ := hx; subst hy; exact fin (by cases neg <;> rfl) (by cases neg <;> rfl)
      · subst hx hy; exact fin (by cases neg <;> rfl) (by cases neg <;> rfl)
      · obtain ⟨_, _, rfl, _⟩ := hy; subst hx; exact fin (by cases neg <;> rfl) (by cases neg <;> rfl)
      · obtain ⟨_, _, rfl, _⟩ := hx; subst hy; exact fin (by cases neg <;> rfl) (by cases neg <;> rfl)
      · obtain ⟨_, rfl, _⟩ := hy; subst hx; exact fin (by cases neg <;> rfl) (by cases neg <;> rfl)
      · obtain ⟨_, rfl, _⟩ := hx; subst hy; exact fin (by cases neg <;> rfl) (by cases neg <;> rfl)
      · obtain ⟨ms, rfl, hl⟩ := hs
        subst hx hy
        have hcst := hlit hl
        refine fin ?_ (by cases neg <;> rfl)
        clear fin heq
        cases ox <;> cases oy <;> simp [isConst] at hcst <;> cases neg <;> rfl
      · simp at e

theorem rowsOf0 (r : Rel base ρ h W) {b : Nat} (hr : h.rowsOf b 0 = true) : ∀ g, ρ b = some g → g.own = true → g.n = 0 := by
  intro g hg ho
  unfold Heap.rowsOf at hr
  split at hr
  · rename_i c sz k own ty' hb
    obtain ⟨e1, e2, _⟩ := r.blk b _ g hb hg
    rw [e2]
    simp only [Bool.or_eq_true, Bool.not_eq_true'] at hr
    rcases hr with (hr | hr) | hr
    · rw [e1] at ho; simp [hr] at ho
    · exact Nat.eq_of_beq_eq_true hr
    · exact Nat.eq_of_beq_eq_true hr
  · simp at hr

/-- The builtins that turn nothing. -/
theorem call_sound (r : Rel base ρ h W) {dst : Option Tmp} {c : Call} {ty : TypeId} {pos : String} {after : Array Edge} {gd : Option (Nat × Bool)} {ao : AOp} {env : AX → AV} {a : Operand → Value} {v : AV}
    (hc : cOp P ⟨dst, .call c, ty, pos, after, gd⟩ = some ao) (he : Env ρ (Op.call c).operands.toList env a) (hv : evalR h env ao = some v) : Gives P ρ W (execOp a ⟨dst, .call c, ty, pos, after, gd⟩) v := by
  simp only [cOp] at hc
  split at hc
  · simp only [Option.bind_eq_bind, Option.bind_eq_some_iff, Option.pure_def, Option.some.injEq] at hc; obtain ⟨_, _, rfl⟩ := hc; simp [evalR] at hv
  · simp only [Option.bind_eq_bind, Option.bind_eq_some_iff, Option.pure_def, Option.some.injEq] at hc; obtain ⟨_, _, _, _, rfl⟩ := hc; simp [evalR] at hv
  · simp at hc
  · rename_i b hb
    have hm : ∀ x ∈ c.args.toList, x ∈ (Op.call c).operands.toList := by
      intro x hx
      simp only [Op.operands, Call.operands, Array.toList_append]
      exact List.mem_append_right _ hx
    have hrun : ∀ (l : List Operand) (s : Sem Value), c.args.toList = l → (∀ consts, builtin b c.argTypes ty consts (l.map a).toArray = (do pure (Next.value (← s)))) →
        Is P ρ W s v → Gives P ρ W (execOp a ⟨dst, .call c, ty, pos, after, gd⟩) v := by
      intro l s h2 h3 h4
      have h5 : c.args.map a = (l.map a).toArray := by rw [← h2, ← Array.toList_map, Array.toArray_toList]
      obtain ⟨v', h6, h7⟩ := Gives.of h4
      refine ⟨v', ?_, h7⟩
      simp only [execOp, resolve, hb, Sem.run_bind, Sem.run_pure, Result.andThen_ok, invoke, h5, h3]
      simpa using h6
    have hmem : ∀ {x : Operand} {l : List Operand}, c.args.toList = l → x ∈ l → ∀ ax, cX x = some ax → VR ρ (env ax) (a x) := fun hl hx ax e => he _ (hm _ (hl ▸ hx)) ax e
    split at hc
    case h_1 x hargs =>
      -- len
      have hcut : ∀ ax, cX x = some ax → VR ρ (env ax) (a x) := hmem hargs (by simp)
      split at hc
      all_goals try (simp at hc; done)
      case h_1 | h_2 | h_3 =>
        rename_i hu
        simp only [Option.bind_eq_bind, Option.bind_eq_some_iff, Option.pure_def, Option.some.injEq] at hc
        obtain ⟨ax, hx, rfl⟩ := hc
        have r1 := hcut ax hx
        obtain ⟨t, ht, hu⟩ := Option.bind_eq_some_iff.1 hu
        refine hrun [x] (Builtin.len_ c.argTypes ty #[a x]) hargs (fun _ => rfl) ?_
        simp only [evalR] at hv
        generalize env ax = z at hv r1
        cases z <;> (try simp only [Option.some.injEq, reduceCtorEq] at hv) <;> (try simp only [VR] at r1)
        all_goals first
          | (obtain ⟨s, e1, rfl⟩ := r1; subst hv; refine ⟨.int .i64 s.size, ?_, by simp [VR]⟩; simp [Builtin.len_, e1, ht, run_underlying hu, goInt]; done)
          | (subst hv; refine ⟨.int .i64 0, ?_, by simp [VR]⟩; simp [Builtin.len_, r1, ht, run_underlying hu, goInt]; done)
          | (obtain ⟨s, c', e1, _⟩ := r1; subst hv; refine ⟨.int .i64 _, ?_, rfl⟩; simp [Builtin.len_, e1, ht, run_underlying hu, goInt]; done)
          | skip
        all_goals
          obtain ⟨g, hg, e1⟩ := r1
          split at hv
          · rename_i es hbk
            simp only [Option.some.injEq] at hv; subst hv
            obtain ⟨es', clock, hW, hes⟩ := r.blk _ _ g hbk hg
            refine ⟨.int .i64 es'.size, ?_, by simp [VR, hes.length]⟩
            simp [Builtin.len_, e1, ht, run_underlying hu, goInt, getObj, Sem.run, hW]
          · simp at hv
      case h_4 =>
        rename_i n el hu
        simp only [Option.some.injEq] at hc; subst hc
        obtain ⟨t, ht, hu⟩ := Option.bind_eq_some_iff.1 hu
        simp only [evalR, Option.some.injEq] at hv; subst hv
        exact hrun [x] (Builtin.len_ c.argTypes ty #[a x]) hargs (fun _ => rfl) ⟨.int .i64 n, by simp [Builtin.len_, ht, run_underlying hu, goInt], rfl⟩
      case h_5 =>
        rename_i ar hu
        obtain ⟨t, ht, hu⟩ := Option.bind_eq_some_iff.1 hu
        split at hc
        · rename_i n el hu2
          simp only [Option.some.injEq] at hc; subst hc
          simp only [evalR, Option.some.injEq] at hv; subst hv
          exact hrun [x] (Builtin.len_ c.argTypes ty #[a x]) hargs (fun _ => rfl) ⟨.int .i64 n, by simp [Builtin.len_, ht, run_underlying hu, run_underlying hu2, goInt], rfl⟩
        · simp at hc
    case h_2 x hargs =>
      simp only [Option.bind_eq_bind, Option.bind_eq_some_iff, Option.pure_def, Option.some.injEq] at hc
      obtain ⟨ax, hx, rfl⟩ := hc
      have r1 := hmem hargs (by simp) ax hx
      refine hrun [x] (Builtin.real_ c.argTypes ty #[a x]) hargs (fun _ => rfl) ?_
      simp only [evalR] at hv
      generalize env ax = z at hv r1
      cases z <;> simp only [Option.some.injEq, reduceCtorEq] at hv
      simp only [VR] at r1; subst hv
      exact ⟨.float .f64 _, by rw [r1]; rfl, rfl⟩
    case h_3 x hargs =>
      simp only [Option.bind_eq_bind, Option.bind_eq_some_iff, Option.pure_def, Option.some.injEq] at hc
      obtain ⟨ax, hx, rfl⟩ := hc
      have r1 := hmem hargs (by simp) ax hx
      refine hrun [x] (Builtin.imag_ c.argTypes ty #[a x]) hargs (fun _ => rfl) ?_
      simp only [evalR] at hv
      generalize env ax = z at hv r1
      cases z <;> simp only [Option.some.injEq, reduceCtorEq] at hv
      simp only [VR] at r1; subst hv
      exact ⟨.float .f64 _, by rw [r1]; rfl, rfl⟩
    case h_4 x y hargs =>
      simp only [Option.bind_eq_bind, Option.bind_eq_some_iff, Option.pure_def, Option.some.injEq] at hc
      obtain ⟨ax, hx, ay, hy, rfl⟩ := hc
      have r1 := hmem hargs (by simp) ax hx
      have r2 := hmem hargs (by simp) ay hy
      refine hrun [x, y] (Builtin.complex_ c.argTypes ty #[a x, a y]) hargs (fun _ => rfl) ?_
      simp only [evalR] at hv
      split at hv
      · rename_i p q e1 e2
        rw [e1] at r1; rw [e2] at r2
        simp only [VR] at r1 r2
        simp only [Option.some.injEq] at hv; subst hv
        exact ⟨.complex .f64 p q, by rw [r1, r2]; rfl, rfl⟩
      · simp at hv
    case h_5 l hargs =>
      simp only [Option.bind_eq_bind, Option.bind_eq_some_iff, Option.pure_def, Option.some.injEq] at hc
      obtain ⟨l', hl, rfl⟩ := hc
      have r1 := mapM_cX hl (fun x hx ax e => hmem rfl hx ax e)
      refine hrun c.args.toList (Builtin.min_ c.argTypes ty (c.args.toList.map a).toArray) rfl (fun _ => rfl) ?_
      simp only [evalR] at hv
      split at hv
      · rename_i x rest hxl
        rw [hxl] at r1; simp only [VRs] at r1
        obtain ⟨w, ws, e1, h1, h2⟩ := r1
        obtain ⟨v', h3, h4⟩ := is_mmL (P := P) (W := W) false h1 h2 hv
        exact ⟨v', by simpa [Builtin.min_, e1] using h3, h4⟩
      · simp at hv
    case h_6 l hargs =>
      simp only [Option.bind_eq_bind, Option.bind_eq_some_iff, Option.pure_def, Option.some.injEq] at hc
      obtain ⟨l', hl, rfl⟩ := hc
      have r1 := mapM_cX hl (fun x hx ax e => hmem rfl hx ax e)
      refine hrun c.args.toList (Builtin.max_ c.argTypes ty (c.args.toList.map a).toArray) rfl (fun _ => rfl) ?_
      simp only [evalR] at hv
      split at hv
      · rename_i x rest hxl
        rw [hxl] at r1; simp only [VRs] at r1
        obtain ⟨w, ws, e1, h1, h2⟩ := r1
        obtain ⟨v', h3, h4⟩ := is_mmL (P := P) (W := W) true h1 h2 hv
        exact ⟨v', by simpa [Builtin.max_, e1] using h3, h4⟩
      · simp at hv
    all_goals
      repeat' split at hc
      all_goals try (simp at hc; done)
      all_goals simp only [Option.bind_eq_bind, Option.bind_eq_some_iff] at hc
      all_goals (repeat (obtain ⟨_, hc⟩ := hc))
      all_goals (repeat' split at hc)
      all_goals try (simp at hc; done)
      all_goals (try simp only [Option.bind_eq_some_iff, Option.pure_def, Option.some.injEq] at hc)
      all_goals (repeat (obtain ⟨_, hc⟩ := hc))
      all_goals (try subst hc)
      all_goals (simp [evalR] at hv)

/-- ████ AN OPERATION THAT TURNS NOTHING ████ -/
theorem evalR_sound (r : Rel base ρ h W) (o : Oper) (ao : AOp) (hc : cOp P o = some ao) (env : AX → AV) (a : Operand → Value) (he : Env ρ o.op.operands.toList env a) (v : AV) (hv : evalR h env ao = some v) :
    Gives P ρ W (execOp a o) v := by
  obtain ⟨dst, op, ty, pos, after, gd⟩ := o
  cases op
  case move x =>
    simp only [cOp, Option.map_eq_some_iff] at hc
    obtain ⟨ax, hx, rfl⟩ := hc
    simp only [evalR, Option.some.injEq] at hv; subst hv
    exact ⟨a x, by simp [execOp], he x (by simp [Op.operands]) ax hx⟩
  case assign x =>
    simp only [cOp, Option.map_eq_some_iff] at hc
    obtain ⟨ax, hx, rfl⟩ := hc
    simp only [evalR, Option.some.injEq] at hv; subst hv
    exact ⟨a x, by simp [execOp], he x (by simp [Op.operands]) ax hx⟩
  case pick c x y =>
    simp only [cOp, Option.bind_eq_bind, Option.bind_eq_some_iff, Option.pure_def, Option.some.injEq] at hc
    obtain ⟨ac, h1, ax, h2, ay, h3, rfl⟩ := hc
    have r1 := he c (by simp [Op.operands]) ac h1
    have r2 := he x (by simp [Op.operands]) ax h2
    have r3 := he y (by simp [Op.operands]) ay h3
    simp only [evalR] at hv
    split at hv
    · rename_i b hb
      rw [hb] at r1; simp only [VR] at r1
      simp only [Option.some.injEq] at hv; subst hv
      cases b
      · exact ⟨a y, by simp [execOp, r1, asBool], r3⟩
      · exact ⟨a x, by simp [execOp, r1, asBool], r2⟩
    · simp at hv
  case build t parts =>
    have hparts : ∀ x ∈ parts.toList.map (·.2), ∀ ax, cX x = some ax → VR ρ (env ax) (a x) := fun x hx ax e => he x (by simpa [Op.operands] using hx) ax e
    simp only [cOp] at hc
    split at hc
    · rename_i fs hu
      split at hc
      · rename_i hsz
        simp only [Option.bind_eq_bind, Option.bind_eq_some_iff, Option.pure_def, Option.some.injEq] at hc
        obtain ⟨z, hz, ps, hp, rfl⟩ := hc
        simp only [evalR, Option.map_eq_some_iff] at hv
        obtain ⟨cells, hcs, rfl⟩ := hv
        exact Gives.of (is_build (.inl ⟨fs, hu, hsz⟩) hz hp hparts hcs)
      · simp at hc
    · rename_i n e hu
      split at hc
      · rename_i hsz
        simp only [Option.bind_eq_bind, Option.bind_eq_some_iff, Option.pure_def, Option.some.injEq] at hc
        obtain ⟨z, hz, ps, hp, rfl⟩ := hc
        simp only [evalR, Option.map_eq_some_iff] at hv
        obtain ⟨cells, hcs, rfl⟩ := hv
        exact Gives.of (is_build (.inr ⟨n, e, hu, hsz⟩) hz hp hparts hcs)
      · simp at hc
    · simp at hc
  case load t x =>
    simp only [cOp, Option.bind_eq_bind, Option.bind_eq_some_iff, Option.pure_def, Option.some.injEq] at hc
    obtain ⟨ax, h1, n, hn, agg, ha, rfl⟩ := hc
    have r1 := he x (by simp [Op.operands]) ax h1
    simp only [evalR] at hv
    split at hv
    · rename_i b o hb
      rw [hb] at r1; simp only [VR] at r1
      obtain ⟨g, hg, hax⟩ := r1
      simp only [Option.bind_eq_some_iff] at hv
      obtain ⟨l, hl, hv⟩ := hv
      obtain ⟨v', h2, h3⟩ := run_loadVar (P := P) r hg hl hv hn ha
      exact Gives.of ⟨v', by simp [Instr.loadAt, hax, Instr.sureAddr, h2], h3⟩
    · simp at hv
  case nilCheck x =>
    simp only [cOp, Option.map_eq_some_iff] at hc
    obtain ⟨ax, hx, rfl⟩ := hc
    have r1 := he x (by simp [Op.operands]) ax hx
    simp only [evalR] at hv
    obtain ⟨e1, e2⟩ := is_nilck hv r1
    subst e1
    rcases e2 with ⟨p, e⟩ | ⟨p, l, c, e⟩ | ⟨f, b, c, e⟩ | ⟨t, y, e⟩
    all_goals exact ⟨a x, by simp [execOp, e], r1⟩
  case binOp op t x y yt =>
    rcases bin_cut hc with ⟨ax, ay, h1, h2, rfl⟩ | ⟨ax, ay, p, neg, lit, h1, h2, rfl, h3, rfl, h4⟩
    · have r1 := he x (by simp [Op.operands]) ax h1
      have r2 := he y (by simp [Op.operands]) ay h2
      simp only [evalR] at hv
      obtain ⟨v', h5, h6⟩ := is_bin (P := P) (W := W) t r1 r2 hv
      exact Gives.of ⟨v', by simp only [Sem.run_bind, eqGuard_bin (P := P) (W := W) t x y r1 r2 hv, Result.andThen_ok, h5], h6⟩
    · have r1 := he x (by simp [Op.operands]) ax h1
      have r2 := he y (by simp [Op.operands]) ay h2
      simp only [evalR, Option.map_eq_some_iff] at hv
      obtain ⟨b, hb, rfl⟩ := hv
      exact Gives.of ⟨.bool (neg ^^ b), is_eq (P := P) r h3 r1 r2 hb h4, rfl⟩
  case unOp op t x =>
    simp only [cOp, Option.bind_eq_bind, Option.bind_eq_some_iff, Option.pure_def, Option.some.injEq] at hc
    obtain ⟨ax, hx, rfl⟩ := hc
    simp only [evalR] at hv
    exact Gives.of (is_un (he x (by simp [Op.operands]) ax hx) hv)
  case convert src dst x =>
    exact Gives.of (is_conv r hc (fun ax hx => he x (by simp [Op.operands]) ax hx) hv)
  case makeInterface t x =>
    simp only [cOp] at hc
    split at hc
    · simp at hc
    · rename_i td hu hn
      simp only [Option.bind_eq_bind, Option.bind_eq_some_iff, Option.pure_def, Option.some.injEq] at hc
      obtain ⟨ax, hx, rfl⟩ := hc
      have r1 := he x (by simp [Op.operands]) ax hx
      simp only [evalR] at hv
      split at hv
      · simp at hv
      · simp only [Option.some.injEq] at hv; subst hv
        refine Gives.of ⟨.iface t (a x), ?_, ⟨_, rfl, r1⟩⟩
        simp only [Instr.makeInterface, Sem.run_bind, run_underlying hn, Result.andThen_ok]
        rfl
    · simp at hc
  case makeFunc fn first captured =>
    cases fn <;> simp only [cOp, reduceCtorEq] at hc
    rename_i f
    simp only [Option.bind_eq_bind, Option.bind_eq_some_iff, Option.pure_def, Option.some.injEq] at hc
    obtain ⟨xs, h1, ys, h2, rfl⟩ := hc
    simp only [evalR, Option.some.injEq] at hv; subst hv
    refine Gives.of ⟨.func (.func f) (first.map a) (captured.map a), by simp [Instr.makeFunc], ⟨_, _, rfl, ?_, ?_⟩⟩
    · rw [Array.toList_map]; exact mapM_cX h1 fun z hz => he z (by simp [Op.operands]; simp at hz; exact .inl hz)
    · rw [Array.toList_map]; exact mapM_cX h2 fun z hz => he z (by simp [Op.operands]; simp at hz; exact .inr hz)
  case slice t x lo hi mx =>
    have hm : ∀ (z : Option Operand) (y : Operand), z = some y → (z = lo ∨ z = hi ∨ z = mx) → y ∈ (Op.slice t x lo hi mx).operands.toList := by
      intro z y hz hh
      simp only [Op.operands]
      rcases hh with rfl | rfl | rfl <;> subst hz <;> simp
    simp only [cOp] at hc
    split at hc
    · rename_i hu
      split at hc
      · simp only [Option.bind_eq_bind, Option.bind_eq_some_iff, Option.pure_def, Option.some.injEq] at hc
        obtain ⟨ax, hx, lo', h1, hi', h2, rfl⟩ := hc
        have r1 := he x (by simp [Op.operands]) ax hx
        simp only [evalR] at hv
        split at hv
        · rename_i s hs
          exact Gives.of (is_slStr hu r1 hs (cXo_spec h1 (fun y hy => hm _ y hy (.inl rfl)) he) (cXo_spec h2 (fun y hy => hm _ y hy (.inr (.inl rfl))) he) hv)
        · simp at hv
      · simp at hc
    · rename_i el hu
      simp only [Option.bind_eq_bind, Option.bind_eq_some_iff, Option.pure_def, Option.some.injEq] at hc
      obtain ⟨ax, hx, lo', h1, hi', h2, mx', h3, n, hn, rfl⟩ := hc
      have r1 := he x (by simp [Op.operands]) ax hx
      have c1 := cXo_spec h1 (fun y hy => hm _ y hy (.inl rfl)) he
      have c2 := cXo_spec h2 (fun y hy => hm _ y hy (.inr (.inl rfl))) he
      have c3 := cXo_spec h3 (fun y hy => hm _ y hy (.inr (.inr rfl))) he
      simp only [evalR] at hv
      split at hv
      · rename_i b o len cap hs
        cases hr : h.rowsOf b n with
        | false => simp [hr] at hv
        | true =>
          simp only [hr, cond_true] at hv
          refine Gives.of (is_slSl hu hn r1 hs c1 c2 c3 ?_ hv)
          intro g hg ho
          unfold Heap.rowsOf at hr
          split at hr
          · rename_i c sz k own ty' hb
            obtain ⟨e1, e2, _⟩ := r.blk b _ g hb hg
            rw [e2]
            simp only [Bool.or_eq_true, Bool.not_eq_true'] at hr
            rcases hr with (hr | hr) | hr
            · rw [e1] at ho; simp [hr] at ho
            · exact .inl (Nat.eq_of_beq_eq_true hr)
            · exact .inr (Nat.eq_of_beq_eq_true hr)
          · simp at hr
      · rename_i hs
        split at hv
        · rename_i p hb
          obtain ⟨l, hh, m⟩ := p
          simp only [Option.some.injEq] at hv; subst hv
          rw [hs] at r1; simp only [VR] at r1
          obtain ⟨i1, i2, i3, m', hr, hmm⟩ := run_sliceBounds (P := P) (cap' := 0) true c1.1 c1.2 c2.1 c2.2 c3.1 c3.2 (Nat.le_refl _) hb W
          have z1 : l = 0 := by omega
          have z2 : hh = 0 := by omega
          have z3 : m' = 0 := by rcases hmm with ⟨_, rfl, _⟩ | rfl <;> omega
          subst z1 z2 z3
          refine Gives.of ⟨.slice none 0 0, ?_, by simp [VR]⟩
          simp [r1, Instr.sliceAt, Instr.slice, run_underlying hu, hr, run_sizeOf hn]
        · simp at hv
      · simp at hv
    · rename_i len el hu
      simp only [Option.bind_eq_bind, Option.bind_eq_some_iff, Option.pure_def, Option.some.injEq] at hc
      obtain ⟨ax, hx, lo', h1, hi', h2, mx', h3, n, hn, rfl⟩ := hc
      have r1 := he x (by simp [Op.operands]) ax hx
      have c1 := cXo_spec h1 (fun y hy => hm _ y hy (.inl rfl)) he
      have c2 := cXo_spec h2 (fun y hy => hm _ y hy (.inr (.inl rfl))) he
      have c3 := cXo_spec h3 (fun y hy => hm _ y hy (.inr (.inr rfl))) he
      simp only [evalR] at hv
      split at hv
      · rename_i b o hs
        cases hr : h.rowsOf b 0 with
        | false => simp [hr] at hv
        | true =>
          simp only [hr, cond_true] at hv
          exact Gives.of (is_slArr (.inl hu) hn r1 hs c1 c2 c3 (rowsOf0 r hr) hv)
      · simp at hv
    · rename_i ar hu
      split at hc
      · rename_i len el hu2
        simp only [Option.bind_eq_bind, Option.bind_eq_some_iff, Option.pure_def, Option.some.injEq] at hc
        obtain ⟨ax, hx, lo', h1, hi', h2, mx', h3, n, hn, rfl⟩ := hc
        have r1 := he x (by simp [Op.operands]) ax hx
        have c1 := cXo_spec h1 (fun y hy => hm _ y hy (.inl rfl)) he
        have c2 := cXo_spec h2 (fun y hy => hm _ y hy (.inr (.inl rfl))) he
        have c3 := cXo_spec h3 (fun y hy => hm _ y hy (.inr (.inr rfl))) he
        simp only [evalR] at hv
        split at hv
        · rename_i b o hs
          cases hr : h.rowsOf b 0 with
          | false => simp [hr] at hv
          | true =>
            simp only [hr, cond_true] at hv
            exact Gives.of (is_slArr (.inr ⟨ar, hu, hu2⟩) hn r1 hs c1 c2 c3 (rowsOf0 r hr) hv)
        · simp at hv
      · simp at hc
    · simp at hc
  case fieldAddr s x i =>
    simp only [cOp, Option.bind_eq_bind, Option.bind_eq_some_iff] at hc
    obtain ⟨f, hf, n, hn, hc⟩ := hc
    split at hc
    · simp at hc
    · rename_i hz
      simp only [Option.bind_eq_some_iff, Option.pure_def, Option.some.injEq] at hc
      obtain ⟨ax, hx, rfl⟩ := hc
      have r1 := he x (by simp [Op.operands]) ax hx
      obtain ⟨fs, hu, hfs⟩ := fieldOf_spec hf
      simp only [evalR] at hv
      split at hv
      · rename_i b o hb
        simp only [Option.some.injEq] at hv; subst hv
        rw [hb] at r1; simp only [VR] at r1
        obtain ⟨g, hg, hax⟩ := r1
        refine Gives.of ⟨.pointer (some ⟨g.blk, g.off + (o + f.offset), none⟩), ?_, ⟨g, hg, rfl⟩⟩
        simp [Instr.fieldAt, run_underlying hu, hfs, hax, Instr.sureAddr, run_fieldPlace hn hz, Nat.add_assoc]
      · simp at hv
  case field t x i =>
    simp only [cOp, Option.bind_eq_bind, Option.bind_eq_some_iff, Option.pure_def, Option.some.injEq] at hc
    obtain ⟨f, hf, ax, hx, n, hn, agg, ha, rfl⟩ := hc
    have r1 := he x (by simp [Op.operands]) ax hx
    obtain ⟨fs, hu, hfs⟩ := fieldOf_spec hf
    simp only [evalR] at hv
    split at hv
    · rename_i cs hb
      rw [hb] at r1; simp only [VR] at r1
      obtain ⟨cs', hax, hcs⟩ := r1
      obtain ⟨v', h1, h2⟩ := run_part (P := P) hcs hv hn ha W
      exact Gives.of ⟨v', by simp [Instr.field, run_underlying hu, hfs, hax, asAgg, h1], h2⟩
    · simp at hv
  case indexAddr t x i =>
    simp only [cOp] at hc
    split at hc
    · rename_i el hu
      simp only [Option.bind_eq_bind, Option.bind_eq_some_iff, Option.pure_def, Option.some.injEq] at hc
      obtain ⟨ax, hx, ai, hi, n, hn, rfl⟩ := hc
      have r1 := he x (by simp [Op.operands]) ax hx
      have r2 := he i (by simp [Op.operands]) ai hi
      simp only [evalR] at hv
      split at hv
      · rename_i b o len cap j hb hj
        cases hlt : Nat.blt j len with
        | false => simp [hlt] at hv
        | true =>
          simp only [hlt, cond_true, Option.some.injEq] at hv; subst hv
          exact Gives.of (is_indexSl hu hn r1 r2 hb hj (by simpa using hlt))
      · simp at hv
    · rename_i len el hu
      simp only [Option.bind_eq_bind, Option.bind_eq_some_iff, Option.pure_def, Option.some.injEq] at hc
      obtain ⟨ax, hx, ai, hi, n, hn, rfl⟩ := hc
      have r1 := he x (by simp [Op.operands]) ax hx
      have r2 := he i (by simp [Op.operands]) ai hi
      simp only [evalR] at hv
      split at hv
      · rename_i b o j hb hj
        cases hlt : Nat.blt j len with
        | false => simp [hlt] at hv
        | true =>
          simp only [hlt, cond_true, Option.some.injEq] at hv; subst hv
          exact Gives.of (is_indexArr hu hn r1 r2 hb hj (by simpa using hlt))
      · simp at hv
    · simp at hc
  case index t x i =>
    simp only [cOp] at hc
    split at hc
    · rename_i hu
      simp only [Option.bind_eq_bind, Option.bind_eq_some_iff, Option.pure_def, Option.some.injEq] at hc
      obtain ⟨ax, hx, ai, hi, rfl⟩ := hc
      have r1 := he x (by simp [Op.operands]) ax hx
      have r2 := he i (by simp [Op.operands]) ai hi
      simp only [evalR] at hv
      split at hv
      · rename_i s j hb hj
        split at hv
        · rename_i c rest hd
          simp only [Option.some.injEq] at hv; subst hv
          have hc0 : s[j]? = some c := by
            have := List.getElem?_drop (xs := s) (i := j) (j := 0)
            rw [hd] at this; simpa using this.symm
          exact Gives.of (is_byteAt hu r1 r2 hb hj hc0)
        · simp at hv
      · simp at hv
    · rename_i len el hu
      simp only [Option.bind_eq_bind, Option.bind_eq_some_iff, Option.pure_def, Option.some.injEq] at hc
      obtain ⟨ax, hx, ai, hi, n, hn, agg, ha, rfl⟩ := hc
      have r1 := he x (by simp [Op.operands]) ax hx
      have r2 := he i (by simp [Op.operands]) ai hi
      simp only [evalR] at hv
      split at hv
      · rename_i cs j hb hj
        cases hlt : Nat.blt j len with
        | false => simp [hlt] at hv
        | true =>
          simp only [hlt, cond_true] at hv
          exact Gives.of (is_index hu hn ha r1 r2 hb hj (by simpa using hlt) hv)
      · simp at hv
    · simp at hc
  case extract t i =>
    simp only [cOp, Option.bind_eq_bind, Option.bind_eq_some_iff, Option.pure_def, Option.some.injEq] at hc
    obtain ⟨ax, hx, rfl⟩ := hc
    have r1 := he t (by simp [Op.operands]) ax hx
    simp only [evalR] at hv
    split at hv
    · rename_i vs hb
      rw [hb] at r1; simp only [VR] at r1
      obtain ⟨vs', hax, hvs⟩ := r1
      obtain ⟨v', h1, h2⟩ := hvs.get i v hv
      rw [Array.getElem?_toList] at h1
      exact Gives.of ⟨v', by simp [Instr.extract, hax, h1], h2⟩
    · simp at hv
  case lookup t m k ok =>
    simp only [cOp] at hc
    split at hc
    · rename_i kt el hu
      split at hc
      all_goals try (simp at hc; done)
      all_goals
        rename_i hk
        simp only [Option.bind_eq_bind, Option.bind_eq_some_iff, Option.pure_def, Option.some.injEq] at hc
        obtain ⟨am, h1, ak, h2, z, hz, rfl⟩ := hc
        have r1 := he m (by simp [Op.operands]) am h1
        have r2 := he k (by simp [Op.operands]) ak h2
        simp only [evalR] at hv
        exact Gives.of (is_look r hu hk (by simp [ShOk]) (by simp [keySh]) hz hv r1 r2)
    · simp at hc
  case typeAssert x xt t ok =>
    simp only [cOp] at hc
    split at hc
    · simp at hc
    · rename_i td hnot hu
      simp only [Option.bind_eq_bind, Option.bind_eq_some_iff, Option.pure_def, Option.some.injEq] at hc
      obtain ⟨ax, hx, z, hz, rfl⟩ := hc
      have r1 := he x (by simp [Op.operands]) ax hx
      obtain ⟨z', hz1, hz2⟩ := run_zeroV hz ρ W
      have hni : ∀ ms, td ≠ .interface ms := fun ms e => hnot ms (by rw [e])
      simp only [evalR] at hv
      split at hv
      · rename_i u y hb
        rw [hb] at r1; simp only [VR] at r1
        obtain ⟨y', hax, hy⟩ := r1
        by_cases hut : u = t
        · subst hut
          simp only [nbeq, decide_true, cond_true, Option.some.injEq] at hv; subst hv
          cases ok with
          | false =>
            refine Gives.of ⟨y', ?_, hy⟩
            cases td <;> first
              | exact absurd rfl (hni _)
              | simp [Instr.typeAssert, run_underlying hu, hax]
          | true =>
            refine Gives.of ⟨.tuple #[y', .bool true], ?_, ⟨_, rfl, _, _, rfl, hy, _, _, rfl, rfl, rfl⟩⟩
            cases td <;> first
              | exact absurd rfl (hni _)
              | simp [Instr.typeAssert, run_underlying hu, hax]
        · simp only [nbeq, hut, decide_false, cond_false] at hv
          cases ok with
          | false => simp at hv
          | true =>
            simp only [cond_true, Option.some.injEq] at hv; subst hv
            refine Gives.of ⟨.tuple #[z', .bool false], ?_, ⟨_, rfl, _, _, rfl, hz2, _, _, rfl, rfl, rfl⟩⟩
            cases td <;> first
              | exact absurd rfl (hni _)
              | simp [Instr.typeAssert, run_underlying hu, hax, hut, hz1]
      · rename_i hb
        rw [hb] at r1; simp only [VR] at r1
        cases ok with
        | false => simp at hv
        | true =>
          simp only [cond_true, Option.some.injEq] at hv; subst hv
          refine Gives.of ⟨.tuple #[z', .bool false], ?_, ⟨_, rfl, _, _, rfl, hz2, _, _, rfl, rfl, rfl⟩⟩
          cases td <;> first
            | exact absurd rfl (hni _)
            | simp [Instr.typeAssert, run_underlying hu, r1, hz1]
      · simp at hv
    · simp at hc
  case call c => exact call_sound r hc he hv
  case makeMap t rs =>
    cases rs with
    | none => simp only [cOp] at hc; split at hc <;> simp only [Option.some.injEq, reduceCtorEq] at hc; subst hc; simp [evalR] at hv
    | some x =>
      simp only [cOp] at hc
      split at hc
      · simp only [Option.bind_eq_bind, Option.bind_eq_some_iff, Option.pure_def, Option.some.injEq] at hc
        obtain ⟨_, _, rfl⟩ := hc
        simp [evalR] at hv
      · simp at hc
  all_goals
    simp only [cOp] at hc
    repeat' split at hc
    all_goals try (simp at hc; done)
    all_goals (try simp only [Option.bind_eq_bind, Option.bind_eq_some_iff, Option.pure_def, Option.some.injEq] at hc)
    all_goals (repeat (obtain ⟨_, hc⟩ := hc))
    all_goals (repeat' split at hc)
    all_goals try (simp at hc; done)
    all_goals (try simp only [Option.bind_eq_some_iff, Option.some.injEq] at hc)
    all_goals (repeat (obtain ⟨_, hc⟩ := hc))
    all_goals (try subst hc)
    all_goals (simp [evalR] at hv)

end Go.Proofs.Ytofaiipohmeelaa.Am
