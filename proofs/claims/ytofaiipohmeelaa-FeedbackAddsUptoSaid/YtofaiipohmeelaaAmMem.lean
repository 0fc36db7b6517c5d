/-
  The abstract machine: new blocks, and stores.
-/
import Derived.Test.YtofaiipohmeelaaAmOpR4
namespace Go.Proofs.Ytofaiipohmeelaa.Am
variable {P : Program} {base : Nat} {ρ : Mp} {h : Heap} {W : World}

theorem turn_log (h : Heap) (b : Nat) (x : Option ABlk) (c : Nat) : (h.turn b x).log.testBit c = (h.log.testBit c || decide (b = c)) := by
  show (h.log ||| 2 ^ b).testBit c = _
  rw [Nat.testBit_or, Nat.testBit_two_pow]

theorem new_log (h : Heap) (x : ABlk) : (h.new x).log = h.log := rfl

def Mp.put (ρ : Mp) (b : Nat) (g : G) : Mp := fun c => if c = b then some g else ρ c

theorem Mp.put_self (ρ : Mp) (b : Nat) (g : G) : (ρ.put b g) b = some g := by simp [Mp.put]

theorem Rel.le_put (r : Rel base ρ h W) (g : G) : ρ.le (ρ.put h.next g) := by
  intro b g' hb
  have := (r.dom b g' hb).1
  have hne : b ≠ h.next := by omega
  simp [Mp.put, hne, hb]

theorem put_old (ρ : Mp) {b c : Nat} (g : G) (hne : c ≠ b) : (ρ.put b g) c = ρ c := by simp [Mp.put, hne]

/-- Two worlds with another heap. -/
structure Heaped (W W' : World) (hp : Array Obj) : Prop where
  heap : W'.heap = hp
  same : W'.tape = W.tape ∧ W'.os = W.os ∧ W'.output = W.output

/-- A new block on both sides. -/
theorem step_new (r : Rel base ρ h W) {x : ABlk} {o : Obj} {g : G} {W' : World} (hW : Heaped W W' (W.heap.push o)) (hg : g.blk = W.heap.size) (hox : ownB x = true)
    (hb : BR (ρ.put h.next g) x g W') : Step base ρ h W (ρ.put h.next g) (h.new x) W' := by
  have hle := r.le_put g
  have hold : ∀ c, c < W.heap.size → W'.heap[c]? = W.heap[c]? := fun c hc => by rw [hW.heap, Array.getElem?_push_lt hc, Array.getElem?_eq_getElem hc]
  have hsz : W'.heap.size = W.heap.size + 1 := by rw [hW.heap]; simp
  have hlive : ∀ b y, (h.new x).get b = some y → (b = h.next ∧ y = x) ∨ (b < h.next ∧ h.get b = some y) := by
    intro b y hy
    rw [Heap.get_new] at hy
    by_cases e : h.next = b
    · rw [if_pos e] at hy; simp at hy; exact .inl ⟨e.symm, hy.symm⟩
    · rw [if_neg e] at hy; exact .inr ⟨r.live b y hy, hy⟩
  refine ⟨hle, ⟨by have := r.room; omega, ?_, ?_, ?_, ?_, ?_⟩, ?_, by simp [Heap.new], by omega, ?_, ?_, ?_, hW.same, ?_, fun _ hb => hb, ?_⟩
  · intro b g' hb'
    by_cases e : b = h.next
    · subst e; rw [Mp.put_self] at hb'; simp at hb'; subst hb'; exact ⟨by simp [Heap.new], by omega⟩
    · rw [put_old _ _ e] at hb'
      have := r.dom b g' hb'
      exact ⟨by simp [Heap.new]; omega, by omega⟩
  · intro b y hy
    rcases hlive b y hy with ⟨rfl, _⟩ | ⟨h1, _⟩ <;> simp [Heap.new] <;> omega
  · intro b y g' hy hg'
    rcases hlive b y hy with ⟨rfl, rfl⟩ | ⟨h1, h2⟩
    · rw [Mp.put_self] at hg'; simp at hg'; subst hg'; exact hb
    · rw [put_old _ _ (by omega)] at hg'
      exact BR.mono hle (r.blk b y g' h2 hg') (hold _ (r.dom b g' hg').2)
  · intro b b' y y' g1 g2 hy hy' hg1 hg2 hne ho
    rcases hlive b y hy with ⟨rfl, rfl⟩ | ⟨h1, h2⟩
    · rcases hlive b' y' hy' with ⟨rfl, rfl⟩ | ⟨h3, h4⟩
      · exact absurd rfl hne
      · rw [Mp.put_self] at hg1; simp at hg1; subst hg1
        rw [put_old _ _ (by omega)] at hg2
        have := (r.dom b' g2 hg2).2
        omega
    · rcases hlive b' y' hy' with ⟨rfl, rfl⟩ | ⟨h3, h4⟩
      · rw [Mp.put_self] at hg2; simp at hg2; subst hg2
        rw [put_old _ _ (by omega)] at hg1
        have := (r.dom b g1 hg1).2
        omega
      · rw [put_old _ _ (by omega)] at hg1 hg2
        exact r.inj b b' y y' g1 g2 h2 h4 hg1 hg2 hne ho
  · intro b y g' hy hg' ho
    rcases hlive b y hy with ⟨rfl, rfl⟩ | ⟨h1, h2⟩
    · rw [Mp.put_self] at hg'; simp at hg'; subst hg'; rw [hg]; exact r.room
    · rw [put_old _ _ (by omega)] at hg'; exact r.base b y g' h2 hg' ho
  · intro b g' hb'
    by_cases e : b = h.next
    · exact .inr (by omega)
    · rw [put_old _ _ e] at hb'; exact .inl hb'
  · intro b y hb' hy
    rcases hlive b y hy with ⟨rfl, _⟩ | ⟨_, h2⟩
    · omega
    · exact ⟨y, h2, rfl⟩
  · intro c hc _; exact hold c hc
  · intro b y g' hy hg' hb' _
    rcases hlive b y hy with ⟨rfl, rfl⟩ | ⟨h1, _⟩
    · rw [Mp.put_self] at hg'; simp at hg'; subst hg'; exact .inl (by omega)
    · omega
  · intro b _ hb'
    rw [Heap.get_new, if_neg (by omega)]
  · intro b y hy hb'
    rcases hlive b y hy with ⟨rfl, rfl⟩ | ⟨h1, _⟩
    · exact ⟨hox, g, Mp.put_self _ _ _⟩
    · omega

/-- A living own block is turned on both sides. -/
theorem step_turn (r : Rel base ρ h W) {b : Nat} {x x' : ABlk} {g : G} {o : Obj} {W' : World} (hx : h.get b = some x) (hg : ρ b = some g) (ho : ownB x = true) (ho' : ownB x' = true)
    (hW : Heaped W W' (W.heap.setIfInBounds g.blk o)) (hb : BR ρ x' g W') : Step base ρ h W ρ (h.turn b (some x')) W' := by
  have hbn := r.live b x hx
  have hlt := (r.dom b g hg).2
  have hold : ∀ c, c ≠ g.blk → W'.heap[c]? = W.heap[c]? := fun c hc => by rw [hW.heap, Array.getElem?_setIfInBounds_ne (Ne.symm hc)]
  have hsz : W'.heap.size = W.heap.size := by rw [hW.heap]; simp
  have hlive : ∀ c y, (h.turn b (some x')).get c = some y → (c = b ∧ y = x') ∨ (c ≠ b ∧ h.get c = some y) := by
    intro c y hy
    rw [Heap.get_turn] at hy
    by_cases e : b = c
    · rw [if_pos e] at hy; simp at hy; exact .inl ⟨e.symm, hy.symm⟩
    · rw [if_neg e] at hy; exact .inr ⟨fun e' => e e'.symm, hy⟩
  refine ⟨Mp.le_refl ρ, ⟨by have := r.room; omega, ?_, ?_, ?_, ?_, ?_⟩, fun _ _ h => .inl h, Nat.le_refl _, by omega, ?_, ?_, ?_, hW.same, ?_, ?_, ?_⟩
  · intro c g' hc; have := r.dom c g' hc; exact ⟨this.1, by omega⟩
  · intro c y hy
    rcases hlive c y hy with ⟨rfl, _⟩ | ⟨_, h1⟩
    · exact hbn
    · exact r.live c y h1
  · intro c y g' hy hg'
    rcases hlive c y hy with ⟨rfl, rfl⟩ | ⟨hne, h1⟩
    · rw [hg] at hg'; simp at hg'; subst hg'; exact hb
    · refine BR.mono (Mp.le_refl ρ) (r.blk c y g' h1 hg') (hold _ ?_)
      exact (r.inj b c x y g g' hx h1 hg hg' (Ne.symm hne) ho).symm
  · intro c c' y y' g1 g2 hy hy' hg1 hg2 hne hoy
    rcases hlive c y hy with ⟨rfl, rfl⟩ | ⟨h1, h2⟩
    · rcases hlive c' y' hy' with ⟨rfl, rfl⟩ | ⟨h3, h4⟩
      · exact absurd rfl hne
      · exact r.inj c c' x y' g1 g2 hx h4 hg1 hg2 hne ho
    · rcases hlive c' y' hy' with ⟨rfl, rfl⟩ | ⟨h3, h4⟩
      · exact r.inj c c' y x g1 g2 h2 hx hg1 hg2 hne hoy
      · exact r.inj c c' y y' g1 g2 h2 h4 hg1 hg2 hne hoy
  · intro c y g' hy hg' hoy
    rcases hlive c y hy with ⟨rfl, rfl⟩ | ⟨h1, h2⟩
    · exact r.base c x g' hx hg' ho
    · exact r.base c y g' h2 hg' hoy
  · intro c y hc hy
    rcases hlive c y hy with ⟨rfl, rfl⟩ | ⟨_, h2⟩
    · exact ⟨x, hx, by rw [ho, ho']⟩
    · exact ⟨y, h2, rfl⟩
  · intro c _ hn
    exact hold c fun e => hn ⟨b, x, g, hx, hg, ho, e.symm⟩
  · intro c y g' hy _ hc _
    rcases hlive c y hy with ⟨rfl, _⟩ | ⟨_, h2⟩
    · omega
    · have := r.live c y h2; omega
  · intro c hc _
    have hcb : b ≠ c := by
      intro e; subst e
      rw [turn_log] at hc; simp at hc
    rw [Heap.get_turn, if_neg hcb]
  · intro c hc
    rw [turn_log] at hc; simp only [Bool.or_eq_false_iff] at hc; exact hc.1
  · intro c y hy hc
    rcases hlive c y hy with ⟨rfl, _⟩ | ⟨_, h2⟩
    · omega
    · have := r.live c y h2; omega

/-- A living own block dies; another takes its place in the model's memory (or a new one does). -/
theorem step_dies (r : Rel base ρ h W) {b : Nat} {x : ABlk} (hx : h.get b = some x) : Step base ρ h W ρ (h.turn b none) W := by
  have _hbn := r.live b x hx
  have hlive : ∀ c y, (h.turn b none).get c = some y → (c ≠ b ∧ h.get c = some y) := by
    intro c y hy
    rw [Heap.get_turn] at hy
    by_cases e : b = c
    · rw [if_pos e] at hy; simp at hy
    · rw [if_neg e] at hy; exact ⟨fun e' => e e'.symm, hy⟩
  refine ⟨Mp.le_refl ρ, ⟨r.room, r.dom, fun c y hy => r.live c y (hlive c y hy).2, fun c y g' hy hg' => r.blk c y g' (hlive c y hy).2 hg', ?_, fun c y g' hy => r.base c y g' (hlive c y hy).2⟩,
    fun _ _ h => .inl h, Nat.le_refl _, Nat.le_refl _, fun c y _ hy => ⟨y, (hlive c y hy).2, rfl⟩, fun _ _ _ => rfl, ?_, ⟨rfl, rfl, rfl⟩, ?_, ?_, fun c y hy hc => absurd (r.live c y (hlive c y hy).2) (by omega)⟩
  · intro c c' y y' g1 g2 hy hy' hg1 hg2 hne hoy
    exact r.inj c c' y y' g1 g2 (hlive c y hy).2 (hlive c' y' hy').2 hg1 hg2 hne hoy
  · intro c y g' hy _ hc _
    have := r.live c y (hlive c y hy).2; omega
  · intro c hc _
    have hcb : b ≠ c := by
      intro e; subst e
      rw [turn_log] at hc; simp at hc
    rw [Heap.get_turn, if_neg hcb]
  · intro c hc
    rw [turn_log] at hc; simp only [Bool.or_eq_false_iff] at hc; exact hc.1

/-- A living own block dies, and a new abstract block takes its place in the model's memory. -/
theorem step_moved (r : Rel base ρ h W) {b : Nat} {x x' : ABlk} {g g' : G} {o : Obj} {W' : World} (hx : h.get b = some x) (hg : ρ b = some g) (ho : ownB x = true) (ho' : ownB x' = true) (hgg : g'.blk = g.blk)
    (hW : Heaped W W' (W.heap.setIfInBounds g.blk o)) (hb : BR (ρ.put h.next g') x' g' W') : Step base ρ h W (ρ.put h.next g') ((h.turn b none).new x') W' := by
  have hbn := r.live b x hx
  have hlt := (r.dom b g hg).2
  have hle := r.le_put g'
  have hold : ∀ c, c ≠ g.blk → W'.heap[c]? = W.heap[c]? := fun c hc => by rw [hW.heap, Array.getElem?_setIfInBounds_ne (Ne.symm hc)]
  have hsz : W'.heap.size = W.heap.size := by rw [hW.heap]; simp
  have hlive : ∀ c y, ((h.turn b none).new x').get c = some y → (c = h.next ∧ y = x') ∨ (c ≠ b ∧ c < h.next ∧ h.get c = some y) := by
    intro c y hy
    rw [Heap.get_new, Heap.next_turn] at hy
    by_cases e : h.next = c
    · rw [if_pos e] at hy; simp at hy; exact .inl ⟨e.symm, hy.symm⟩
    · rw [if_neg e, Heap.get_turn] at hy
      by_cases e' : b = c
      · rw [if_pos e'] at hy; simp at hy
      · rw [if_neg e'] at hy; exact .inr ⟨fun e'' => e' e''.symm, r.live c y hy, hy⟩
  refine ⟨hle, ⟨by have := r.room; omega, ?_, ?_, ?_, ?_, ?_⟩, ?_, by simp [Heap.new, Heap.turn], by omega, ?_, ?_, ?_, hW.same, ?_, ?_, ?_⟩
  · intro c g1 hc
    by_cases e : c = h.next
    · subst e; rw [Mp.put_self] at hc; simp at hc; subst hc; exact ⟨by simp [Heap.new, Heap.turn], by omega⟩
    · rw [put_old _ _ e] at hc
      have := r.dom c g1 hc
      exact ⟨by simp [Heap.new, Heap.turn]; omega, by omega⟩
  · intro c y hy
    rcases hlive c y hy with ⟨rfl, _⟩ | ⟨_, h1, _⟩ <;> simp [Heap.new, Heap.turn] <;> omega
  · intro c y g1 hy hg1
    rcases hlive c y hy with ⟨rfl, rfl⟩ | ⟨hne, h1, h2⟩
    · rw [Mp.put_self] at hg1; simp at hg1; subst hg1; exact hb
    · rw [put_old _ _ (by omega)] at hg1
      refine BR.mono hle (r.blk c y g1 h2 hg1) (hold _ ?_)
      exact (r.inj b c x y g g1 hx h2 hg hg1 (Ne.symm hne) ho).symm
  · intro c c' y y' g1 g2 hy hy' hg1 hg2 hne hoy
    rcases hlive c y hy with ⟨rfl, rfl⟩ | ⟨n1, h1, h2⟩
    · rcases hlive c' y' hy' with ⟨rfl, rfl⟩ | ⟨n3, h3, h4⟩
      · exact absurd rfl hne
      · rw [Mp.put_self] at hg1; simp at hg1; subst hg1
        rw [put_old _ _ (by omega)] at hg2
        rw [hgg]; exact r.inj b c' x y' g g2 hx h4 hg hg2 (Ne.symm n3) ho
    · rcases hlive c' y' hy' with ⟨rfl, rfl⟩ | ⟨n3, h3, h4⟩
      · rw [Mp.put_self] at hg2; simp at hg2; subst hg2
        rw [put_old _ _ (by omega)] at hg1
        rw [hgg]; exact (r.inj b c x y g g1 hx h2 hg hg1 (Ne.symm n1) ho).symm
      · rw [put_old _ _ (by omega)] at hg1 hg2
        exact r.inj c c' y y' g1 g2 h2 h4 hg1 hg2 hne hoy
  · intro c y g1 hy hg1 hoy
    rcases hlive c y hy with ⟨rfl, rfl⟩ | ⟨n1, h1, h2⟩
    · rw [Mp.put_self] at hg1; simp at hg1; subst hg1; rw [hgg]; exact r.base b x g hx hg ho
    · rw [put_old _ _ (by omega)] at hg1; exact r.base c y g1 h2 hg1 hoy
  · intro c g1 hc
    by_cases e : c = h.next
    · exact .inr (by omega)
    · rw [put_old _ _ e] at hc; exact .inl hc
  · intro c y hc hy
    rcases hlive c y hy with ⟨rfl, _⟩ | ⟨_, _, h2⟩
    · omega
    · exact ⟨y, h2, rfl⟩
  · intro c _ hn
    exact hold c fun e => hn ⟨b, x, g, hx, hg, ho, e.symm⟩
  · intro c y g1 hy hg1 hc _
    rcases hlive c y hy with ⟨rfl, rfl⟩ | ⟨_, h1, _⟩
    · rw [Mp.put_self] at hg1; simp at hg1; subst hg1; exact .inr ⟨b, x, g, hx, hg, ho, hgg.symm⟩
    · omega
  · intro c hc hcn
    have hcb : b ≠ c := by
      intro e; subst e
      rw [new_log, turn_log] at hc; simp at hc
    rw [Heap.get_new, Heap.next_turn, if_neg (by omega), Heap.get_turn, if_neg hcb]
  · intro c hc
    rw [new_log, turn_log] at hc; simp only [Bool.or_eq_false_iff] at hc; exact hc.1
  · intro c y hy hc
    rcases hlive c y hy with ⟨rfl, rfl⟩ | ⟨_, h1, _⟩
    · exact ⟨ho', g', Mp.put_self _ _ _⟩
    · omega

/-- The model's stores into one block. -/
theorem run_storeCells {P : Program} {blk : Nat} : ∀ (vs : List Value) (off i : Nat) (W : World) (arr : Array Value) (e : TypeId) (fr : Nat × Nat), W.heap[blk]? = some (.cells arr e fr) →
    (∀ v ∈ vs, isOne v = true) → off + i + vs.length ≤ arr.size → (∀ j, j < arr.size → (decide (fr.1 ≤ j) && decide (j < fr.2)) = false) →
    ∃ W' arr', (storeCells ⟨blk, off, none⟩ vs i).run P W = .ok () W' ∧ Heaped W W' (W.heap.setIfInBounds blk (.cells arr' e fr)) ∧ arr'.size = arr.size ∧ W'.drawn = W.drawn ∧
      ∀ j, arr'[j]? = if off + i ≤ j ∧ j < off + i + vs.length then vs[j - (off + i)]? else arr[j]? := by
  intro vs
  induction vs with
  | nil =>
    intro off i W arr e fr hb _ _ _
    refine ⟨W, arr, by simp [storeCells], ⟨?_, ⟨rfl, rfl, rfl⟩⟩, rfl, rfl, fun j => ?_⟩
    · apply Array.ext_getElem?
      intro j
      by_cases hj : blk = j
      · subst hj
        have hlt := (Array.getElem?_eq_some_iff.1 hb).1
        rw [Array.getElem?_setIfInBounds_self_of_lt hlt, hb]
      · rw [Array.getElem?_setIfInBounds_ne hj]
    · have : ¬ (off + i ≤ j ∧ j < off + i + ([] : List Value).length) := by simp only [List.length_nil]; omega
      rw [if_neg this]
  | cons v vs ih =>
    intro off i W arr e fr hb ho hl hf
    simp only [List.length_cons] at hl
    have h1 : isOne v = true := ho v (by simp)
    have hlt := (Array.getElem?_eq_some_iff.1 hb).1
    have hcell : W.cell? ⟨blk, off + i, none⟩ = arr[off + i]? := by simp [World.cell?, hb]
    have hin : off + i < arr.size := by omega
    rw [Array.getElem?_eq_getElem hin] at hcell
    have hfr : W.frozen? ⟨blk, off + i, none⟩ = false := by simp only [World.frozen?, hb]; exact hf _ hin
    have hset : (W.setCell ⟨blk, off + i, none⟩ v).heap = W.heap.setIfInBounds blk (.cells (arr.setIfInBounds (off + i) v) e fr) := by
      apply Array.ext_getElem?
      intro j
      simp only [World.setCell, Array.getElem?_modify]
      by_cases hj : blk = j
      · subst hj
        rw [Array.getElem?_setIfInBounds_self_of_lt hlt, hb]; simp
      · rw [Array.getElem?_setIfInBounds_ne hj]; simp [hj]
    have hv1 : v.oneCell' = true := by cases v <;> simp [isOne] at h1 <;> rfl
    have hrun : (store ⟨blk, off + i, none⟩ v).run P W = .ok () (W.setCell ⟨blk, off + i, none⟩ v) := by
      rw [run_store P W _ v .plain hv1]; simp [hcell, hfr]
    have hb' : (W.setCell ⟨blk, off + i, none⟩ v).heap[blk]? = some (.cells (arr.setIfInBounds (off + i) v) e fr) := by
      rw [hset, Array.getElem?_setIfInBounds_self_of_lt hlt]
    obtain ⟨W', arr', h2, h3, h4, h4', h5⟩ := ih off (i + 1) _ _ e fr hb' (fun u hu => ho u (by simp [hu])) (by simp; omega) (by simpa using hf)
    refine ⟨W', arr', ?_, ⟨?_, h3.same⟩, by simpa using h4, h4', fun j => ?_⟩
    · simp only [storeCells, add_spotless, Sem.run_bind, hrun, Result.andThen_ok, h2]
    · rw [h3.heap, hset]
      apply Array.ext_getElem?
      intro j
      by_cases hj : blk = j
      · subst hj
        rw [Array.getElem?_setIfInBounds_self_of_lt (by simpa using hlt), Array.getElem?_setIfInBounds_self_of_lt hlt]
      · rw [Array.getElem?_setIfInBounds_ne hj, Array.getElem?_setIfInBounds_ne hj, Array.getElem?_setIfInBounds_ne hj]
    · rw [h5 j]
      simp only [List.length_cons]
      by_cases c1 : j = off + i
      · subst c1
        rw [if_neg (by omega), if_pos (by omega), Array.getElem?_setIfInBounds_self_of_lt hin]; simp
      · by_cases c2 : off + (i + 1) ≤ j ∧ j < off + (i + 1) + vs.length
        · rw [if_pos c2, if_pos (by omega)]
          rw [show j - (off + i) = (j - (off + (i + 1))) + 1 from by omega]; simp
        · rw [if_neg c2, if_neg (by omega), Array.getElem?_setIfInBounds_ne (by omega)]

theorem allOne_isOne {ρ : Mp} {l : List AV} {l' : List Value} (h : VRs ρ l l') (ho : allOne l = true) : ∀ v ∈ l', isOne v = true := by
  intro v hv
  obtain ⟨i, hi⟩ := List.getElem?_of_mem hv
  have hlen := h.length
  have hlt : i < l.length := by
    have := (List.getElem?_eq_some_iff.1 hi).1; omega
  obtain ⟨w, hw1, hw2⟩ := h.get i _ (List.getElem?_eq_getElem hlt)
  rw [hi] at hw1; simp at hw1; subst hw1
  exact (VR.one hw2 ((allOne_iff l).1 ho _ (List.getElem_mem hlt))).2.2

/-- A store, on both sides. -/
theorem store_sound (r : Rel base ρ h W) {b off : Nat} {g : G} {vs : List AV} {vs' : List Value} {h' : Heap} (hg : ρ b = some g) (hv : VRs ρ vs vs') (e : h.store b off vs = some h') :
    ∃ W', (storeCells ⟨g.blk, g.off + off, none⟩ vs').run P W = .ok () W' ∧ Step base ρ h W ρ h' W' ∧ W'.drawn = W.drawn := by
  unfold Heap.store at e
  split at e
  · rename_i cells size n own ty hb
    cases hc : (own && Nat.ble (off + vs.length) size && allOne vs) with
    | false => simp [hc] at e
    | true =>
      simp only [hc, cond_true, Option.some.injEq] at e; subst e
      simp only [Bool.and_eq_true] at hc
      obtain ⟨⟨rfl, hle⟩, ho⟩ := hc
      have hle := Nat.le_of_ble_eq_true hle
      obtain ⟨h1, h2, arr, el, fr, h3, h4, h5, h6, h7⟩ := r.blk b _ g hb hg
      have hlen := hv.length
      obtain ⟨W', arr', r1, r2, r3, r3', r4⟩ := run_storeCells (P := P) vs' (g.off + off) 0 W arr el fr h3 (allOne_isOne hv ho) (by omega) (h6 rfl).1
      have hlt := (Array.getElem?_eq_some_iff.1 h3).1
      refine ⟨W', r1, step_turn r hb hg rfl rfl r2 ?_, r3'⟩
      refine ⟨h1, h2, arr', el, fr, ?_, by omega, h5, fun _ => ⟨by rw [r3]; exact (h6 rfl).1, (h6 rfl).2⟩, ?_⟩
      · rw [r2.heap, Array.getElem?_setIfInBounds_self_of_lt hlt]
      · intro i v hi hvi
        rw [Tr.get_putList] at hvi
        rw [r4]
        by_cases c : off ≤ i ∧ i < off + vs.length
        · rw [if_pos c] at hvi
          rw [if_pos (by omega)]
          obtain ⟨v', w1, w2⟩ := hv.get _ _ hvi
          exact ⟨v', by rw [show g.off + i - (g.off + off + 0) = i - off from by omega]; exact w1, w2⟩
        · rw [if_neg c] at hvi
          rw [if_neg (by omega)]
          exact h7 i v hi hvi
  · simp at e

end Go.Proofs.Ytofaiipohmeelaa.Am
