/-
  The abstract machine: literals.
-/
import Derived.Test.YtofaiipohmeelaaAmOpR2
namespace Go.Proofs.Ytofaiipohmeelaa.Am
variable {P : Program} {base : Nat} {ρ : Mp} {h : Heap} {W : World}

theorem zero_cells {t : TypeId} {zs : List AV} (e : tZero P t = some zs) (ρ : Mp) : ∃ i z, P.info? t = some i ∧ i.zero = some z ∧ VRs ρ zs z.cells.toList ∧ allOne zs = true := by
  unfold tZero at e
  cases hi : P.info? t with
  | none => simp [hi] at e
  | some i =>
    cases hz : i.zero with
    | none => simp [hi, hz] at e
    | some z =>
      cases ha : av 100 z with
      | none => simp [hi, hz, ha] at e
      | some za =>
        simp only [hi, hz, ha, Option.bind_some] at e
        cases ho : allOne za.cells with
        | false => simp [ho] at e
        | true =>
          simp only [ho, cond_true, Option.some.injEq] at e; subst e
          exact ⟨i, z, rfl, hz, VR.cells (av_sound ρ _ _ _ ha) ho, ho⟩

theorem places_len {t : TypeId} : ∀ {parts : List (Nat × Operand)} {ps : List (Nat × Nat × AX)}, cPlaces P t parts = some ps → ps.length = parts.length
  | [], ps, e => by simp only [cPlaces, Option.some.injEq] at e; subst e; rfl
  | p :: parts, ps, e => by
    obtain ⟨i, x⟩ := p
    simp only [cPlaces] at e
    split at e
    · rename_i r _ _ hr
      simp only [Option.some.injEq] at e; subst e
      simp [places_len hr]
    · simp at e

theorem places_get {t : TypeId} : ∀ {parts : List (Nat × Operand)} {ps : List (Nat × Nat × AX)}, cPlaces P t parts = some ps →
    ∀ (k i off n : Nat) (x : Operand) (ax : AX), parts[k]? = some (i, x) → ps[k]? = some (off, n, ax) → placeOf P t i = some (off, n) ∧ cX x = some ax
  | [], ps, e, k, i, off, n, x, ax, h1, _ => by simp at h1
  | p :: parts, ps, e, k, i, off, n, x, ax, h1, h2 => by
    obtain ⟨j, y⟩ := p
    simp only [cPlaces] at e
    split at e
    · rename_i p ay r hp hy hr
      simp only [Option.some.injEq] at e; subst e
      cases k with
      | zero =>
        simp only [List.getElem?_cons_zero, Option.some.injEq, Prod.mk.injEq] at h1 h2
        obtain ⟨rfl, rfl⟩ := h1
        obtain ⟨rfl, rfl, rfl⟩ := h2
        exact ⟨hp, hy⟩
      | succ k => exact places_get hr k i off n x ax (by simpa using h1) (by simpa using h2)
    · simp at e

theorem fill_places {t : TypeId} {zero cells : List AV} {zero' : Array Value} {parts : List (Nat × Operand)} {ps : List (Nat × Nat × AX)} {env : AX → AV} {a : Operand → Value} {place : Nat → Option (Nat × Nat)}
    (hpl : ∀ i p, placeOf P t i = some p → place i = some p) (hp : cPlaces P t parts = some ps)
    (he : ∀ x ∈ parts.map (·.2), ∀ ax, cX x = some ax → VR ρ (env ax) (a x)) (hz : VRs ρ zero zero'.toList) (e : fillA zero (fillEnv env ps) = some cells) :
    ∃ cells', Instr.fill place zero' (parts.map fun p => (p.1, a p.2)) = some cells' ∧ VRs ρ cells cells'.toList := by
  refine fill_sound parts ps zero cells zero' (places_len hp) (fun k i off n x ax h1 h2 => ?_) hz e
  obtain ⟨h3, h4⟩ := places_get hp k i off n x ax h1 h2
  refine ⟨hpl _ _ h3, he x ?_ ax h4⟩
  exact List.mem_map.2 ⟨(i, x), List.mem_of_getElem? h1, rfl⟩

theorem run_places' (W : World) : ∀ (fs : List Field), (∀ f ∈ fs, ∃ n, tSize P f.type = some n) →
    ∃ l : List (Nat × Nat), (fs.mapM fun f => (do pure (f.offset, ← sizeOf f.type) : Sem (Nat × Nat))).run P W = .ok l W ∧ l.length = fs.length ∧ ∀ (i : Nat) (f : Field) (n : Nat), fs[i]? = some f → tSize P f.type = some n → l[i]? = some (f.offset, n)
  | [], _ => ⟨[], by simp, rfl, by simp⟩
  | f :: fs, hh => by
    obtain ⟨n, hn⟩ := hh f (by simp)
    obtain ⟨l, h1, h2, h3⟩ := run_places' W fs fun g hg => hh g (by simp [hg])
    refine ⟨(f.offset, n) :: l, ?_, by simp [h2], fun i g m hi hm => ?_⟩
    · rw [List.mapM_cons]
      simp only [Sem.run_bind, run_sizeOf hn, Result.andThen_ok, Sem.run_pure, h1]
    · cases i with
      | zero => simp at hi; subst hi; rw [hn] at hm; simp at hm; simp [hm]
      | succ i => simpa using h3 i g m (by simpa using hi) hm

theorem is_build {t : TypeId} {zero cells : List AV} {parts : Array (Nat × Operand)} {ps : List (Nat × Nat × AX)} {env : AX → AV} {a : Operand → Value}
    (hu : (∃ fs, P.underlying t = some (.struct fs) ∧ sized P fs = true) ∨ ∃ n e, P.underlying t = some (.array n e) ∧ (tSize P e).isSome = true) (hz : tZero P t = some zero) (hp : cPlaces P t parts.toList = some ps)
    (he : ∀ x ∈ parts.toList.map (·.2), ∀ ax, cX x = some ax → VR ρ (env ax) (a x)) (e : fillA zero (fillEnv env ps) = some cells) :
    Is P ρ W (Instr.build t (parts.map fun (i, x) => (i, a x))) (.agg cells) := by
  obtain ⟨it, z, hi, hiz, hzr, _⟩ := zero_cells hz ρ
  have hzv : (zeroValue t).run P W = .ok z W := by simp [zeroValue, typeInfo, hi, hiz]
  have hpl : (parts.map fun (i, x) => (i, a x)).toList = parts.toList.map fun p => (p.1, a p.2) := by simp
  rcases hu with ⟨fs, hu, hsz⟩ | ⟨n, el, hu, hsz⟩
  · obtain ⟨l, h1, h2, h3⟩ := run_places' (P := P) W fs.toList (fun f hf => by
      have := (List.all_eq_true.1 hsz) f hf
      exact Option.isSome_iff_exists.1 this)
    obtain ⟨cells', h4, h5⟩ := fill_places (P := P) (t := t) (place := fun i => l.toArray[i]?) (fun i p hpi => by
      simp only [placeOf, hu] at hpi
      split at hpi
      · rename_i f hf
        simp only [Option.map_eq_some_iff] at hpi
        obtain ⟨m, hm, rfl⟩ := hpi
        simpa using h3 i f m (by simpa using hf) hm
      · simp at hpi) hp he hzr e
    refine ⟨.agg cells', ?_, ⟨_, rfl, h5⟩⟩
    simp only [Instr.build, Sem.run_bind, hzv, Result.andThen_ok, run_underlying hu, Array.mapM_eq_mapM_toList, Sem.run_map, h1, hpl, h4, Sem.run_pure]
  · obtain ⟨s, hs⟩ := Option.isSome_iff_exists.1 hsz
    obtain ⟨cells', h4, h5⟩ := fill_places (P := P) (t := t) (place := fun i => some (i * s, s)) (fun i p hpi => by
      simp only [placeOf, hu, hs, Option.map_some] at hpi
      exact hpi) hp he hzr e
    refine ⟨.agg cells', ?_, ⟨_, rfl, h5⟩⟩
    simp only [Instr.build, Sem.run_bind, hzv, Result.andThen_ok, run_underlying hu, run_sizeOf hs, hpl, h4, Sem.run_pure]

end Go.Proofs.Ytofaiipohmeelaa.Am
