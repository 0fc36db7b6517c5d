/-
  The abstract machine: the operations that turn nothing, all of them.
-/
import Derived.Test.YtofaiipohmeelaaAmOpR
namespace Go.Proofs.Ytofaiipohmeelaa.Am
variable {P : Program} {base : Nat} {ρ : Mp} {h : Heap} {W : World}

theorem is_slArr {t el n len : Nat} {x v : AV} {x' : Value} {lo hi mx : Option Operand} {lo' hi' mx' : Option AX} {env : AX → AV} {a : Operand → Value} {b o : Nat}
    (hu : P.underlying t = some (.array len el) ∨ ∃ at_, P.underlying t = some (.pointer at_) ∧ P.underlying at_ = some (.array len el)) (hn : tSize P el = some n) (hx : VR ρ x x') (hxe : x = .ptr b o)
    (hlo : (∀ y, lo = some y → ∃ ay, lo' = some ay ∧ VR ρ (env ay) (a y)) ∧ (lo = none → lo' = none))
    (hhi : (∀ y, hi = some y → ∃ ay, hi' = some ay ∧ VR ρ (env ay) (a y)) ∧ (hi = none → hi' = none))
    (hmx : (∀ y, mx = some y → ∃ ay, mx' = some ay ∧ VR ρ (env ay) (a y)) ∧ (mx = none → mx' = none))
    (hgn : ∀ g, ρ b = some g → g.own = true → g.n = 0)
    (e : (match bounds env lo' hi' mx' len len with | some (l, h, m) => some (AV.sl b (o + l * n) (h - l) (m - l)) | none => none) = some v) :
    Is P ρ W (Instr.sliceAt t x' (lo.map a) (hi.map a) (mx.map a)) v := by
  subst hxe
  simp only [VR] at hx
  obtain ⟨g, hg, rfl⟩ := hx
  split at e
  · rename_i l hh m eb
    simp only [Option.some.injEq] at e; subst e
    obtain ⟨i1, i2, i3, m', hr, hm⟩ := run_sliceBounds (P := P) (cap' := len) (env := env) (a := a) false hlo.1 hlo.2 hhi.1 hhi.2 hmx.1 hmx.2 (Nat.le_refl _) eb W
    have hmm : m' = m := by rcases hm with ⟨_, rfl, rfl⟩ | rfl <;> rfl
    subst hmm
    by_cases hml : m' = l
    · refine ⟨.slice (some ⟨g.blk, g.off + o, none⟩) (hh - l) (m' - l), ?_, ⟨_, _, rfl, .inr ⟨by omega, by omega, by omega, g, hg⟩⟩⟩
      rcases hu with hu | ⟨at_, hu, hu2⟩
      · simp [Instr.sliceAt, Instr.sureAddr, run_underlying hu, hr, run_sizeOf hn, hml]
      · simp [Instr.sliceAt, Instr.slice, asAddr, run_underlying hu, run_underlying hu2, hr, run_sizeOf hn, hml]
    · refine ⟨.slice (some ⟨g.blk, g.off + (o + l * n), none⟩) (hh - l) (m' - l), ?_, ⟨_, _, rfl, .inl ⟨g, hg, rfl, Nat.le_refl _, fun ho => .inl (hgn g hg ho)⟩⟩⟩
      rcases hu with hu | ⟨at_, hu, hu2⟩
      · simp [Instr.sliceAt, Instr.sureAddr, run_underlying hu, hr, run_sizeOf hn, hml, add_spotless, Nat.add_assoc]
      · simp [Instr.sliceAt, Instr.slice, asAddr, run_underlying hu, run_underlying hu2, hr, run_sizeOf hn, hml, add_spotless, Nat.add_assoc]
  · simp at e

theorem is_nilck {x v : AV} {x' : Value}
    (e : (match x with | .ptr b o => some (AV.ptr b o) | .sl b o l c => some (.sl b o l c) | .func f [] c => some (.func f [] c) | .iface t v => some (.iface t v) | _ => none) = some v) (hx : VR ρ x x') :
    x = v ∧ ((∃ a, x' = .pointer (some a)) ∨ (∃ a l c, x' = .slice (some a) l c) ∨ (∃ f a b, x' = .func (.func f) a b) ∨ ∃ t y, x' = .iface t y) := by
  cases x <;> (try simp only [reduceCtorEq] at e) <;> (try simp only [VR] at hx)
  case ptr b o => simp only [Option.some.injEq] at e; subst e; obtain ⟨g, _, rfl⟩ := hx; exact ⟨rfl, .inl ⟨_, rfl⟩⟩
  case sl b o l c => simp only [Option.some.injEq] at e; subst e; obtain ⟨a, c', rfl, _⟩ := hx; exact ⟨rfl, .inr (.inl ⟨_, _, _, rfl⟩)⟩
  case func f xs ys =>
    cases xs <;> simp only [Option.some.injEq, reduceCtorEq] at e
    subst e; obtain ⟨_, _, rfl, _⟩ := hx; exact ⟨rfl, .inr (.inr (.inl ⟨_, _, _, rfl⟩))⟩
  case iface t y => simp only [Option.some.injEq] at e; subst e; obtain ⟨_, rfl, _⟩ := hx; exact ⟨rfl, .inr (.inr (.inr ⟨_, _, rfl⟩))⟩

/-! ### Maps -/
theorem ERs.length {ρ : Mp} : ∀ {l : List (AV × AV)} {l' : List MapEntry}, ERs ρ l l' → l.length = l'.length
  | [], _, h => by simp only [ERs] at h; subst h; rfl
  | _ :: _, _, h => by
    simp only [ERs] at h
    obtain ⟨w, ws, rfl, _, _, h2⟩ := h
    simp [ERs.length h2]

/-- What was found, on both sides. -/
def Found (ρ : Mp) : Option AV → Option (Nat × Value) → Prop
  | none, none => True
  | some v, some (_, v') => VR ρ v v'
  | _, _ => False

theorem findAsking_sound (r : Rel base ρ h W) {kt : TypeId} {td : TypeDesc} {s : Sh} (hu : P.underlying kt = some td) (hs : ShOk P true td s) {k : AV} {k' : Value} (hk : VR ρ k k') :
    ∀ (es : List (AV × AV)) (es' : List MapEntry) (i : Nat) (q : Option AV), ERs ρ es es' → findKey h s k es = some q →
    ∃ q', (Instr.findAsking kt k' es' i).run P W = .ok q' W ∧ Found ρ q q' := by
  intro es
  induction es with
  | nil =>
    intro es' i q he hf
    simp only [ERs] at he; subst he
    simp only [findKey, Option.some.injEq] at hf; subst hf
    exact ⟨none, by simp [Instr.findAsking], trivial⟩
  | cons e es ih =>
    intro es' i q he hf
    simp only [ERs] at he
    obtain ⟨w, ws, rfl, h1, h2, h3⟩ := he
    obtain ⟨ek, ev⟩ := e
    simp only [findKey] at hf
    cases hp : primEq h s k ek with
    | none => simp [hp] at hf
    | some b =>
      have hr := run_primEq (d := 9999) r hu hs hk h1 hp
      have hr' : (Op.equal kt k' w.key).run P W = .ok b W := by unfold Op.equal Op.maxDepth; exact hr
      cases b with
      | true =>
        simp only [hp, Option.some.injEq] at hf; subst hf
        exact ⟨some (i, w.val), by simp [Instr.findAsking, hr'], h2⟩
      | false =>
        simp only [hp] at hf
        obtain ⟨q', h4, h5⟩ := ih ws (i + 1) q h3 hf
        exact ⟨q', by simp [Instr.findAsking, hr', h4], h5⟩

theorem findNow_sound {td : TypeDesc} {s : Sh} (hs : ShOk P true td s) {k : AV} {k' : Value} (hk : VR ρ k k') :
    ∀ (es : List (AV × AV)) (es' : List MapEntry) (i : Nat) (q : Option AV) (q' : Option (Nat × Value)), ERs ρ es es' → findKey h s k es = some q →
    Instr.findNow td k' es' i = some q' → Found ρ q q' := by
  intro es
  induction es with
  | nil =>
    intro es' i q q' he hf hn
    simp only [ERs] at he; subst he
    simp only [findKey, Option.some.injEq] at hf; subst hf
    simp only [Instr.findNow, Option.some.injEq] at hn; subst hn
    trivial
  | cons e es ih =>
    intro es' i q q' he hf hn
    simp only [ERs] at he
    obtain ⟨w, ws, rfl, h1, h2, h3⟩ := he
    obtain ⟨ek, ev⟩ := e
    simp only [findKey] at hf
    simp only [Instr.findNow] at hn
    have key : ∀ b c, primEq h s k ek = some b → Instr.sameNow td k' w.key = some c → b = c := by
      intro b c hb hc
      unfold primEq at hb
      split at hb <;> (try simp only [VR] at hk h1) <;> (try simp only [ShOk] at hs)
      · subst hs hk; rw [h1] at hc; simp [Instr.sameNow] at hc hb; rw [← hb, ← hc]
      · obtain ⟨kk, rfl⟩ := hs
        subst hk; rw [h1] at hc; simp [Instr.sameNow] at hc hb; rw [← hb.2, ← hc.2]
      · subst hs hk; rw [h1] at hc; simp [Instr.sameNow] at hc
      · subst hs hk; rw [h1] at hc; simp [Instr.sameNow] at hc
      · obtain ⟨x1, e1, rfl⟩ := hk
        obtain ⟨x2, e2, rfl⟩ := h1
        subst hs e1; rw [e2] at hc
        simp only [Instr.sameNow, Option.some.injEq] at hc
        simp only [Option.some.injEq] at hb
        rw [← hb, ← hc, sEq_bytes, beq_toListBytes, toList_data, toList_data]
      all_goals first
        | (simp at hb; done)
        | (obtain ⟨_, _, rfl, _⟩ := hs; simp [Instr.sameNow] at hc; done)
        | (obtain ⟨_, rfl⟩ := hs; simp [Instr.sameNow] at hc; done)
        | (obtain ⟨_, _, rfl⟩ := hs; simp [Instr.sameNow] at hc; done)
        | (obtain ⟨_, _, _, rfl⟩ := hs; simp [Instr.sameNow] at hc; done)
        | (obtain ⟨_, rfl, _⟩ := hs; simp [Instr.sameNow] at hc; done)
    cases hp : primEq h s k ek with
    | none => simp [hp] at hf
    | some b =>
      cases hq : Instr.sameNow td k' w.key with
      | none => simp [hq] at hn
      | some c =>
        obtain rfl := key b c hp hq
        cases b with
        | true =>
          simp only [hp, Option.some.injEq] at hf; subst hf
          simp only [hq, Option.some.injEq] at hn; subst hn
          exact h2
        | false =>
          simp only [hp] at hf
          simp only [hq] at hn
          exact ih ws (i + 1) q q' h3 hf hn

theorem findKey_sound (r : Rel base ρ h W) {kt : TypeId} {td : TypeDesc} {s : Sh} (hu : P.underlying kt = some td) (hs : ShOk P true td s) {k : AV} {k' : Value} (hk : VR ρ k k')
    {es : List (AV × AV)} {es' : List MapEntry} {q : Option AV} (he : ERs ρ es es') (hf : findKey h s k es = some q) :
    ∃ q', (Instr.findKey kt k' es').run P W = .ok q' W ∧ Found ρ q q' := by
  cases hn : Instr.findNow td k' es' 0 with
  | some q' => exact ⟨q', by simp [Instr.findKey, run_underlying hu, hn], findNow_sound (P := P) hs hk es es' 0 q q' he hf hn⟩
  | none =>
    obtain ⟨q', h1, h2⟩ := findAsking_sound r hu hs hk es es' 0 q he hf
    exact ⟨q', by simp [Instr.findKey, run_underlying hu, hn, h1], h2⟩

def keySh (s : Sh) : Prop := s = .int ∨ s = .str ∨ s = .cpx

theorem run_checkKey' {kt : TypeId} {td : TypeDesc} {s : Sh} (hu : P.underlying kt = some td) (hs : ShOk P true td s) (hk : keySh s) (b : Bool) (v : Value) (W : World) (n : Nat) :
    (Instr.checkKey b (n + 1) kt v).run P W = .ok () W := by
  rcases hk with rfl | rfl | rfl <;> simp only [ShOk] at hs
  · obtain ⟨k, rfl⟩ := hs; simp only [Instr.checkKey, run_underlying hu, Sem.run_bind, Result.andThen_ok, Sem.run_pure]
  · subst hs; simp only [Instr.checkKey, run_underlying hu, Sem.run_bind, Result.andThen_ok, Sem.run_pure]
  · subst hs; simp only [Instr.checkKey, run_underlying hu, Sem.run_bind, Result.andThen_ok, Sem.run_pure]

theorem run_checkKey {kt : TypeId} {td : TypeDesc} {s : Sh} (hu : P.underlying kt = some td) (hs : ShOk P true td s) (hk : keySh s) (b : Bool) (v : Value) (W : World) :
    (Instr.checkKey b 10000 kt v).run P W = .ok () W := run_checkKey' hu hs hk b v W 9999

theorem is_look (r : Rel base ρ h W) {t kt el : TypeId} {td : TypeDesc} {s : Sh} {m k zero v : AV} {m' k' : Value} {ok : Bool} (ht : P.underlying t = some (.map kt el)) (hu : P.underlying kt = some td)
    (hs : ShOk P true td s) (hks : keySh s) (hz : tZeroV P el = some zero)
    (e : (match (match m with | .nilMap => some [] | .map r => (match h.get r with | some (.map es) => some es | _ => none) | _ => none : Option (List (AV × AV))) with
      | none => none
      | some es => match findKey h s k es with
        | some (some v) => some (cond ok (.tup [v, .bool true]) v)
        | some none => some (cond ok (.tup [zero, .bool false]) zero)
        | none => none) = some v) (hm : VR ρ m m') (hk : VR ρ k k') : Is P ρ W (Instr.lookup t m' k' ok) v := by
  obtain ⟨z', hz1, hz2⟩ := run_zeroV hz ρ W
  have main : ∃ (es : List (AV × AV)) (es' : Array MapEntry), ERs ρ es es'.toList ∧
      (match findKey h s k es with
        | some (some v) => some (cond ok (.tup [v, .bool true]) v)
        | some none => some (cond ok (.tup [zero, .bool false]) zero)
        | none => none) = some v ∧ ((m' = .map none ∧ es' = #[]) ∨ ∃ c clock, m' = .map (some c) ∧ (getObj c).run P W = .ok (.map es' clock) W) := by
    cases m <;> simp only [reduceCtorEq] at e
    case nilMap => exact ⟨[], #[], rfl, e, .inl ⟨by simpa [VR] using hm, rfl⟩⟩
    case map r' =>
      cases hb : h.get r' with
      | none => simp [hb] at e
      | some x =>
        cases x with
        | row c sz n o ty => simp [hb] at e
        | map es =>
          simp only [hb] at e
          simp only [VR] at hm
          obtain ⟨g, hg, rfl⟩ := hm
          obtain ⟨es', clock, hW, he⟩ := r.blk r' _ g hb hg
          exact ⟨es, es', he, e, .inr ⟨g.blk, clock, rfl, by simp [getObj, Sem.run, hW]⟩⟩
  obtain ⟨es, es', he, e, hm'⟩ := main
  cases hq : findKey h s k es with
  | none => simp [hq] at e
  | some q =>
    obtain ⟨q', h1, h2⟩ := findKey_sound r hu hs hk he hq
    simp only [hq] at e
    have fin : ∀ v', (∀ b, q' = b → True) → ((match q' with | some (_, u) => (if ok then .tuple #[u, .bool true] else u) | none => (if ok then .tuple #[z', .bool false] else z')) = v') → (Instr.lookup t m' k' ok).run P W = .ok v' W := by
      intro v' _ hv'
      rcases hm' with ⟨rfl, rfl⟩ | ⟨c, clock, rfl, hobj⟩
      · cases q' with
        | none => simp only [Instr.lookup, Sem.run_bind, run_underlying ht, Result.andThen_ok, Sem.run_pure, run_checkKey hu hs hks, h1, hz1]; simp at hv'; simp [hv']
        | some p => obtain ⟨i, u⟩ := p; simp only [Instr.lookup, Sem.run_bind, run_underlying ht, Result.andThen_ok, Sem.run_pure, run_checkKey hu hs hks, h1]; simp at hv'; simp [hv']
      · cases q' with
        | none => simp only [Instr.lookup, Sem.run_bind, run_underlying ht, Result.andThen_ok, Sem.run_pure, run_checkKey hu hs hks, hobj, h1, hz1]; simp at hv'; simp [hv']
        | some p => obtain ⟨i, u⟩ := p; simp only [Instr.lookup, Sem.run_bind, run_underlying ht, Result.andThen_ok, Sem.run_pure, run_checkKey hu hs hks, hobj, h1]; simp at hv'; simp [hv']
    cases q with
    | none =>
      cases q' with
      | some p => exact h2.elim
      | none =>
        simp only [Option.some.injEq] at e; subst e
        cases ok with
        | false => exact ⟨z', fin _ (fun _ _ => trivial) rfl, hz2⟩
        | true => exact ⟨.tuple #[z', .bool false], fin _ (fun _ _ => trivial) rfl, ⟨_, rfl, _, _, rfl, hz2, _, _, rfl, rfl, rfl⟩⟩
    | some u =>
      cases q' with
      | none => exact h2.elim
      | some p =>
        obtain ⟨i, u'⟩ := p
        simp only [Option.some.injEq] at e; subst e
        cases ok with
        | false => exact ⟨u', fin _ (fun _ _ => trivial) rfl, h2⟩
        | true => exact ⟨.tuple #[u', .bool true], fin _ (fun _ _ => trivial) rfl, ⟨_, rfl, _, _, rfl, h2, _, _, rfl, rfl, rfl⟩⟩

end Go.Proofs.Ytofaiipohmeelaa.Am
