/-
  The abstract machine: '==' and '!='.
-/
import Derived.Test.YtofaiipohmeelaaAmVal
import Derived.Laws.StructEq
namespace Go.Proofs.Ytofaiipohmeelaa.Am
variable {P : Program} {base : Nat} {ρ : Mp} {h : Heap} {W : World}

/-- Two pointers. -/
theorem run_sameAddr (r : Rel base ρ h W) {b c o o' : Nat} {v : Bool} {g g' : G} (hg : ρ b = some g) (hg' : ρ c = some g')
    (e : primEq h .ptr (.ptr b o) (.ptr c o') = some v) :
    (sameAddr ⟨g.blk, g.off + o, none⟩ ⟨g'.blk, g'.off + o', none⟩).run P W = .ok v W := by
  simp only [primEq, nbeq] at e
  by_cases hbc : b = c
  · subst hbc
    rw [hg] at hg'; simp at hg'; subst hg'
    simp only [decide_true, cond_true, Option.some.injEq] at e
    subst e
    simp only [sameAddr, beq_self_eq_true, if_true]
    simp only [Sem.run_pure]
    congr 1
    rw [Bool.eq_iff_iff]; simp
  · simp only [hbc, decide_false, cond_false] at e
    cases h1 : h.get b with
    | none => simp [h1] at e
    | some x =>
      cases h2 : h.get c with
      | none => cases x <;> simp [h1, h2] at e
      | some y =>
        simp only [h1, h2] at e
        split at e
        · rename_i c1 s1 t1 c2 s2 t2 e1 e2
          simp at e1 e2 e; subst e1 e2 e
          have hne := r.inj b c _ _ g g' h1 h2 hg hg' hbc rfl
          obtain ⟨_, _, arr, el, fr, hW, _, _, hfr, _⟩ := r.blk b _ g h1 hg
          obtain ⟨_, _, arr', el', fr', hW', _, _, hfr', _⟩ := r.blk c _ g' h2 hg'
          have z1 := (hfr rfl).2 rfl
          have z2 := (hfr' rfl).2 rfl
          have f1 : ∀ i, W.frozen? ⟨g.blk, i, none⟩ = false := fun i => by simp [World.frozen?, hW, z1]
          have f2 : ∀ i, W.frozen? ⟨g'.blk, i, none⟩ = false := fun i => by simp [World.frozen?, hW', z2]
          have s1 : W.shape? g.blk = some (el, arr.size) := by simp [World.shape?, hW]
          have s2 : W.shape? g'.blk = some (el', arr'.size) := by simp [World.shape?, hW']
          have hne' : (g.blk == g'.blk) = false := by simpa using hne
          simp [sameAddr, hne', f1, f2, noView, viewAt, s1, s2, mayBeOne, stringish]
        · simp at e

def ShOk (P : Program) (lit : Bool) (td : TypeDesc) : Sh → Prop
  | .bool => td = .bool
  | .int => ∃ k, td = .int k
  | .flt => td = .float .f64
  | .cpx => td = .complex .f64
  | .str => td = .string
  | .sl => ∃ e, td = .slice e
  | .map => ∃ k e, td = .map k e
  | .fn => ∃ a b c, td = .func a b c
  | .ptr => ∃ e i, td = .pointer e ∧ P.info? e = some i ∧ i.size ≠ 0
  | .iface => ∃ ms, td = .interface ms ∧ lit = true

theorem cEq_prim {lit : Bool} {n : Nat} {t : TypeId} {s : Sh} (hc : cEq P lit n t = some (.prim s)) : ∃ td, P.underlying t = some td ∧ ShOk P lit td s := by
  cases n with
  | zero => simp [cEq] at hc
  | succ n =>
    simp only [cEq] at hc
    cases hu : P.underlying t with
    | none => simp [hu] at hc
    | some td =>
      refine ⟨td, rfl, ?_⟩
      simp only [hu] at hc
      cases td with
      | float k => cases k <;> simp at hc; subst hc; simp [ShOk]
      | complex k => cases k <;> simp at hc; subst hc; simp [ShOk]
      | pointer e =>
        simp only [] at hc
        split at hc
        · simp at hc
        · rename_i hz
          simp at hc; subst hc
          cases hi : P.info? e with
          | none => simp [hi] at hz
          | some i => exact ⟨e, i, rfl, hi, by simpa [hi] using hz⟩
      | «struct» fs =>
        simp only [] at hc
        split at hc
        · simp at hc
        · simp only [Option.map_eq_some_iff] at hc
          obtain ⟨l, _, hl⟩ := hc
          simp at hl
      | interface ms => cases lit <;> simp at hc; subst hc; simp [ShOk]
      | _ => simp at hc <;> subst hc <;> simp [ShOk]

set_option maxHeartbeats 2000000 in
/-- What stands in one cell. -/
theorem run_primEq (r : Rel base ρ h W) {lit : Bool} {d : Nat} {t : TypeId} {td : TypeDesc} {s : Sh} {x y : AV} {x' y' : Value} {b : Bool} (hu : P.underlying t = some td) (hs : ShOk P lit td s)
    (hx : VR ρ x x') (hy : VR ρ y y') (e : primEq h s x y = some b) : (Op.equalIn (d + 1) t x' y').run P W = .ok b W := by
  have e' := e
  unfold primEq at e
  split at e <;> (try simp only [VR] at hx hy) <;> (try simp only [ShOk] at hs)
  · subst hs hx hy; simp at e; subst e; simp [Op.equalIn, run_underlying hu]
  · obtain ⟨k, rfl⟩ := hs
    subst hx hy
    split at e
    · rename_i hk; simp at e; subst e; subst hk; simp [Op.equalIn, run_underlying hu]
    · simp at e
  · subst hs hx hy; simp at e; subst e; simp [Op.equalIn, run_underlying hu, Op.floatEq, FloatKind.format]
  · subst hs hx hy; simp at e; subst e; simp [Op.equalIn, run_underlying hu, Op.floatEq, FloatKind.format]
  · obtain ⟨x', rfl, rfl⟩ := hx
    obtain ⟨y', rfl, rfl⟩ := hy
    subst hs; simp at e; subst e
    simp [Op.equalIn, run_underlying hu, beq_toListBytes, toList_data, sEq_bytes]
  · obtain ⟨el, i, rfl, hi, hz⟩ := hs
    subst hx hy; simp at e; subst e; simp [Op.equalIn, run_underlying hu]
  · obtain ⟨el, i, rfl, hi, hz⟩ := hs
    obtain ⟨g, hg, rfl⟩ := hy
    subst hx; simp at e; subst e; simp [Op.equalIn, run_underlying hu]
  · obtain ⟨el, i, rfl, hi, hz⟩ := hs
    obtain ⟨g, hg, rfl⟩ := hx
    subst hy; simp at e; subst e; simp [Op.equalIn, run_underlying hu]
  · obtain ⟨el, i, rfl, hi, hz⟩ := hs
    obtain ⟨g, hg, rfl⟩ := hx
    obtain ⟨g', hg', rfl⟩ := hy
    have hsz : (sizeOf el).run P W = .ok i.size W := by simp [sizeOf, typeInfo, hi]
    simp [Op.equalIn, run_underlying hu, hsz, hz, run_sameAddr r hg hg' e']
  · obtain ⟨el, rfl⟩ := hs
    subst hx hy; simp at e; subst e; simp [Op.equalIn, run_underlying hu]
  · obtain ⟨el, rfl⟩ := hs
    obtain ⟨a, c', rfl, _⟩ := hy
    subst hx; simp at e; subst e; simp [Op.equalIn, run_underlying hu]
  · obtain ⟨el, rfl⟩ := hs
    obtain ⟨a, c', rfl, _⟩ := hx
    subst hy; simp at e; subst e; simp [Op.equalIn, run_underlying hu]
  · obtain ⟨k, el, rfl⟩ := hs
    subst hx hy; simp at e; subst e; simp [Op.equalIn, run_underlying hu]
  · obtain ⟨k, el, rfl⟩ := hs
    obtain ⟨g, hg, rfl⟩ := hy
    subst hx; simp at e; subst e; simp [Op.equalIn, run_underlying hu]
  · obtain ⟨k, el, rfl⟩ := hs
    obtain ⟨g, hg, rfl⟩ := hx
    subst hy; simp at e; subst e; simp [Op.equalIn, run_underlying hu]
  · obtain ⟨a, b, c, rfl⟩ := hs
    subst hx hy; simp at e; subst e; simp [Op.equalIn, run_underlying hu]
  · obtain ⟨a, b, c, rfl⟩ := hs
    obtain ⟨_, _, rfl, _⟩ := hy
    subst hx; simp at e; subst e; simp [Op.equalIn, run_underlying hu]
  · obtain ⟨a, b, c, rfl⟩ := hs
    obtain ⟨_, _, rfl, _⟩ := hx
    subst hy; simp at e; subst e; simp [Op.equalIn, run_underlying hu]
  · obtain ⟨ms, rfl, _⟩ := hs
    obtain ⟨_, rfl, _⟩ := hy
    subst hx; simp at e; subst e; simp [Op.equalIn, run_underlying hu]
  · obtain ⟨ms, rfl, _⟩ := hs
    obtain ⟨_, rfl, _⟩ := hx
    subst hy; simp at e; subst e; simp [Op.equalIn, run_underlying hu]
  · obtain ⟨ms, rfl, _⟩ := hs
    subst hx hy; simp at e; subst e; simp [Op.equalIn, run_underlying hu]
  · simp at e

theorem cEq_parts {lit : Bool} {n : Nat} {t : TypeId} {l : List (Nat × Nat × Bool × EqP)} (hc : cEq P lit (n + 1) t = some (.parts l)) :
    ∃ fs, P.underlying t = some (.struct fs) ∧ P.stoodInHeld t = false ∧ cEqFields P n fs.toList = some l := by
  simp only [cEq] at hc
  cases hu : P.underlying t with
  | none => simp [hu] at hc
  | some td =>
    simp only [hu] at hc
    cases td with
    | float k => cases k <;> simp at hc
    | complex k => cases k <;> simp at hc
    | pointer e => simp only [] at hc; split at hc <;> simp at hc
    | interface ms => cases lit <;> simp at hc
    | «struct» fs =>
      simp only [] at hc
      split at hc
      · simp at hc
      · rename_i hz
        simp only [Option.map_eq_some_iff, EqP.parts.injEq, exists_eq_right] at hc
        exact ⟨fs, rfl, by simpa using hz, hc⟩
    | _ => simp at hc

/-- By the plan of a type: to any depth that is enough. -/
theorem run_eqA (r : Rel base ρ h W) : ∀ (n : Nat),
    (∀ (lit : Bool) (d : Nat) (t : TypeId) (p : EqP) (x y : AV) (x' y' : Value) (b : Bool), n ≤ d + 1 → cEq P lit n t = some p → VR ρ x x' → VR ρ y y' → eqA h p x y = some b →
      (Op.equalIn (d + 1) t x' y').run P W = .ok b W) ∧
    (∀ (d : Nat) (fs : List Field) (l : List (Nat × Nat × Bool × EqP)) (xs ys : List AV) (xs' ys' : Array Value) (b : Bool), n ≤ d + 1 → cEqFields P n fs = some l → VRs ρ xs xs'.toList → VRs ρ ys ys'.toList →
      eqParts h l xs ys = some b → (Op.eqFields (d + 1) xs' ys' fs).run P W = .ok b W) := by
  intro n
  induction n with
  | zero => exact ⟨fun _ _ _ _ _ _ _ _ _ _ hc => by simp [cEq] at hc, fun _ _ _ _ _ _ _ _ _ hc => by simp [cEqFields] at hc⟩
  | succ n ih =>
    refine ⟨?_, ?_⟩
    · intro lit d t p x y x' y' b hd hc hx hy e
      cases p with
      | prim s =>
        obtain ⟨td, hu, hs⟩ := cEq_prim hc
        simp only [eqA] at e
        exact run_primEq r hu hs hx hy e
      | parts l =>
        obtain ⟨fs, hu, hst, hl⟩ := cEq_parts hc
        cases x <;> cases y <;> simp only [eqA, reduceCtorEq] at e
        simp only [VR] at hx hy
        obtain ⟨xs', rfl, hx⟩ := hx
        obtain ⟨ys', rfl, hy⟩ := hy
        cases d with
        | zero =>
          have : n = 0 := by omega
          subst this
          simp [cEqFields] at hl
        | succ d =>
          have hf : P.fieldsOf t = fs := by simp [Program.fieldsOf, hu]
          rw [run_equalIn_struct _ _ _ _ _ (by rw [hf]; exact hu) hst, hf]
          exact ih.2 d _ _ _ _ _ _ _ (by omega) hl hx hy e
    · intro d fs l xs ys xs' ys' b hd hc hx hy e
      cases fs with
      | nil =>
        simp only [cEqFields, Option.some.injEq] at hc; subst hc
        simp only [eqParts, Option.some.injEq] at e; subst e
        simp [Op.eqFields]
      | cons f fs =>
        simp only [cEqFields] at hc
        split at hc
        · rename_i hn
          simp only [Op.eqFields, hn, ne_eq, not_true_eq_false, if_false]
          exact ih.2 d _ _ _ _ _ _ _ (by omega) hc hx hy e
        · rename_i hn
          cases h1 : tSize P f.type with
          | none => simp [h1] at hc
          | some s =>
            cases h2 : tAgg P f.type with
            | none => simp [h1, h2] at hc
            | some a =>
              cases h3 : cEq P false n f.type with
              | none => simp [h1, h2, h3] at hc
              | some p =>
                cases h4 : cEqFields P n fs with
                | none => simp [h1, h2, h3, h4] at hc
                | some rest =>
                  simp only [h1, h2, h3, h4, Option.some.injEq] at hc; subst hc
                  simp only [eqParts] at e
                  cases e1 : partOf a xs f.offset s with
                  | none => simp [e1] at e
                  | some u =>
                    cases e2 : partOf a ys f.offset s with
                    | none => simp [e1, e2] at e
                    | some v =>
                      simp only [e1, e2] at e
                      obtain ⟨u', hu', hru⟩ := run_part (P := P) hx e1 h1 h2 W
                      obtain ⟨v', hv', hrv⟩ := run_part (P := P) hy e2 h1 h2 W
                      cases e3 : eqA h p u v with
                      | none => simp [e3] at e
                      | some c =>
                        have h5 := ih.1 false d f.type p u v u' v' c (by omega) h3 hru hrv e3
                        simp only [Op.eqFields, hn, ne_eq, not_false_eq_true, if_true, Sem.run_bind, hu', hv', Result.andThen_ok, h5]
                        cases c with
                        | false => simp only [e3, Option.some.injEq] at e; subst e; simp
                        | true =>
                          simp only [e3] at e
                          simp only [Bool.not_true, Bool.false_eq_true, if_false]
                          exact ih.2 d _ _ _ _ _ _ _ (by omega) h4 hx hy e

theorem run_eq (r : Rel base ρ h W) {lit : Bool} {t : TypeId} {p : EqP} {x y : AV} {x' y' : Value} {b : Bool} (hc : cEq P lit 20 t = some p) (hx : VR ρ x x') (hy : VR ρ y y')
    (e : eqA h p x y = some b) : (Op.equal t x' y').run P W = .ok b W := by
  unfold Op.equal Op.maxDepth
  exact (run_eqA r 20).1 lit 9999 t p x y x' y' b (by omega) hc hx hy e

end Go.Proofs.Ytofaiipohmeelaa.Am
