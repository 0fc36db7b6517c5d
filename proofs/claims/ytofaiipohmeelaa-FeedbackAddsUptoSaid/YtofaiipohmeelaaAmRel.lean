/-
  The abstract machine: how its values and its memory stand for the model's.
-/
import Derived.Test.YtofaiipohmeelaaAmTr
import Derived.Calls
namespace Go.Proofs.Ytofaiipohmeelaa.Am

/-- Where an abstract block lies: the block, the place of its first cell; whether it is the run's own; an element's cells; how many cells the block has. -/
structure G where
  blk : Nat
  off : Nat
  own : Bool
  n : Nat
  csize : Nat

abbrev Mp := Nat → Option G

mutual
def VR (ρ : Mp) : AV → Value → Prop
  | .undef, _ => True
  | .bool b, v => v = .bool b
  | .int k n, v => v = .int k n
  | .flt b, v => v = .float .f64 b
  | .cpx a b, v => v = .complex .f64 a b
  | .str s, v => ∃ t : ByteArray, v = .string t ∧ t.data.toList.map (·.toNat) = s
  | .ptr b o, v => ∃ g, ρ b = some g ∧ v = .pointer (some ⟨g.blk, g.off + o, none⟩)
  | .nilPtr, v => v = .pointer none
  | .sl b o l c, v => ∃ a c', v = .slice (some a) l c' ∧
      ((∃ g, ρ b = some g ∧ a = ⟨g.blk, g.off + o, none⟩ ∧ c ≤ c' ∧ (g.own = true → g.n = 0 ∨ g.off + o + c' * g.n ≤ g.csize)) ∨ (l = 0 ∧ c = 0 ∧ c' = 0 ∧ ∃ g, ρ b = some g))
  | .nilSl, v => v = .slice none 0 0
  | .map r, v => ∃ g, ρ r = some g ∧ v = .map (some g.blk)
  | .nilMap, v => v = .map none
  | .func f xs ys, v => ∃ xs' ys' : Array Value, v = .func (.func f) xs' ys' ∧ VRs ρ xs xs'.toList ∧ VRs ρ ys ys'.toList
  | .nilFunc, v => v = .nilFunc
  | .iface t x, v => ∃ x', v = .iface t x' ∧ VR ρ x x'
  | .nilIface, v => v = .nilIface
  | .agg cs, v => ∃ cs' : Array Value, v = .agg cs' ∧ VRs ρ cs cs'.toList
  | .tup cs, v => ∃ cs' : Array Value, v = .tuple cs' ∧ VRs ρ cs cs'.toList
def VRs (ρ : Mp) : List AV → List Value → Prop
  | [], l => l = []
  | v :: vs, l => ∃ w ws, l = w :: ws ∧ VR ρ v w ∧ VRs ρ vs ws
end

def Mp.le (ρ ρ' : Mp) : Prop := ∀ b g, ρ b = some g → ρ' b = some g

theorem Mp.le_refl (ρ : Mp) : ρ.le ρ := fun _ _ h => h
theorem Mp.le_trans {ρ σ τ : Mp} (h : ρ.le σ) (h' : σ.le τ) : ρ.le τ := fun b g e => h' b g (h b g e)

mutual
theorem VR.mono {ρ ρ' : Mp} (hle : ρ.le ρ') : ∀ (v : AV) (w : Value), VR ρ v w → VR ρ' v w
  | .undef, _, _ => trivial
  | .bool _, _, h | .int _ _, _, h | .flt _, _, h | .cpx _ _, _, h | .nilPtr, _, h | .nilSl, _, h | .nilMap, _, h | .nilFunc, _, h | .nilIface, _, h | .str _, _, h => h
  | .ptr _ _, _, ⟨g, hg, e⟩ => ⟨g, hle _ _ hg, e⟩
  | .map _, _, ⟨g, hg, e⟩ => ⟨g, hle _ _ hg, e⟩
  | .sl _ _ _ _, _, ⟨a, c', e, h⟩ => ⟨a, c', e, h.imp (fun ⟨g, hg, r⟩ => ⟨g, hle _ _ hg, r⟩) (fun ⟨a, b, c, g, hg⟩ => ⟨a, b, c, g, hle _ _ hg⟩)⟩
  | .func _ xs ys, _, ⟨xs', ys', e, h1, h2⟩ => ⟨xs', ys', e, VRs.mono hle xs _ h1, VRs.mono hle ys _ h2⟩
  | .iface _ x, _, ⟨x', e, h⟩ => ⟨x', e, VR.mono hle x _ h⟩
  | .agg cs, _, ⟨cs', e, h⟩ => ⟨cs', e, VRs.mono hle cs _ h⟩
  | .tup cs, _, ⟨cs', e, h⟩ => ⟨cs', e, VRs.mono hle cs _ h⟩
theorem VRs.mono {ρ ρ' : Mp} (hle : ρ.le ρ') : ∀ (v : List AV) (w : List Value), VRs ρ v w → VRs ρ' v w
  | [], _, h => h
  | v :: vs, _, ⟨w, ws, e, h1, h2⟩ => ⟨w, ws, e, VR.mono hle v w h1, VRs.mono hle vs ws h2⟩
end

theorem VRs.length {ρ : Mp} : ∀ {l : List AV} {l' : List Value}, VRs ρ l l' → l.length = l'.length
  | [], _, h => by simp only [VRs] at h; subst h; rfl
  | _ :: _, _, h => by
    simp only [VRs] at h
    obtain ⟨w, ws, rfl, _, h2⟩ := h
    simp [VRs.length h2]

theorem VRs.get {ρ : Mp} : ∀ {l : List AV} {l' : List Value}, VRs ρ l l' → ∀ (i : Nat) (v : AV), l[i]? = some v → ∃ v', l'[i]? = some v' ∧ VR ρ v v'
  | [], _, _, _, _, hv => by simp at hv
  | x :: xs, _, h, i, v, hv => by
    simp only [VRs] at h
    obtain ⟨w, ws, rfl, h1, h2⟩ := h
    cases i with
    | zero => simp at hv; subst hv; exact ⟨w, by simp, h1⟩
    | succ i => simp at hv; obtain ⟨v', e, r⟩ := VRs.get h2 i v hv; exact ⟨v', by simpa using e, r⟩

theorem VRs.of_get {ρ : Mp} : ∀ {l : List AV} {l' : List Value}, l.length = l'.length → (∀ (i : Nat) (v : AV) (v' : Value), l[i]? = some v → l'[i]? = some v' → VR ρ v v') → VRs ρ l l'
  | [], [], _, _ => rfl
  | [], _ :: _, h, _ => by simp at h
  | _ :: _, [], h, _ => by simp at h
  | x :: xs, y :: ys, h, hh => ⟨y, ys, rfl, hh 0 x y rfl rfl, VRs.of_get (by simpa using h) fun i v v' hv hv' => hh (i + 1) v v' (by simpa using hv) (by simpa using hv')⟩

theorem VRs.append {ρ : Mp} {a b : List AV} {a' b' : List Value} (h1 : VRs ρ a a') (h2 : VRs ρ b b') : VRs ρ (a ++ b) (a' ++ b') := by
  refine VRs.of_get (by simp [h1.length, h2.length]) fun i v v' hv hv' => ?_
  by_cases hi : i < a.length
  · rw [List.getElem?_append_left hi] at hv
    rw [List.getElem?_append_left (h1.length ▸ hi)] at hv'
    obtain ⟨u, hu, hr⟩ := h1.get i v hv
    rw [hu] at hv'; simp at hv'; subst hv'; exact hr
  · rw [List.getElem?_append_right (by omega)] at hv
    rw [List.getElem?_append_right (by have := h1.length; omega)] at hv'
    rw [← h1.length] at hv'
    obtain ⟨u, hu, hr⟩ := h2.get _ v hv
    rw [hu] at hv'; simp at hv'; subst hv'; exact hr

theorem VRs.drop {ρ : Mp} {a : List AV} {a' : List Value} (h : VRs ρ a a') (n : Nat) : VRs ρ (a.drop n) (a'.drop n) := by
  refine VRs.of_get (by simp [h.length]) fun i v v' hv hv' => ?_
  simp only [List.getElem?_drop] at hv hv'
  obtain ⟨u, hu, hr⟩ := h.get _ v hv
  rw [hu] at hv'; simp at hv'; subst hv'; exact hr

theorem VRs.take {ρ : Mp} {a : List AV} {a' : List Value} (h : VRs ρ a a') (n : Nat) : VRs ρ (a.take n) (a'.take n) := by
  refine VRs.of_get (by simp [h.length]) fun i v v' hv hv' => ?_
  by_cases hi : i < n
  · rw [List.getElem?_take_of_lt hi] at hv hv'
    obtain ⟨u, hu, hr⟩ := h.get _ v hv
    rw [hu] at hv'; simp at hv'; subst hv'; exact hr
  · simp [List.getElem?_take, hi] at hv

theorem VRs.map {ρ : Mp} {β : Type} {l : List β} {f : β → AV} {f' : β → Value} (h : ∀ x ∈ l, VR ρ (f x) (f' x)) : VRs ρ (l.map f) (l.map f') := by
  induction l with
  | nil => exact rfl
  | cons x xs ih => exact ⟨_, _, rfl, h x (by simp), ih fun y hy => h y (by simp [hy])⟩

/-- May the model's value stand in one cell? -/
def isOne : Value → Bool
  | .agg _ | .tuple _ => false
  | _ => true

/-- The value of one cell: its cells are it alone, and it may be stored. -/
theorem VR.one {ρ : Mp} {v : AV} {w : Value} (h : VR ρ v w) (h1 : v.one = true) : v.cells = [v] ∧ w.cells = #[w] ∧ isOne w = true := by
  cases v <;> simp only [AV.one, Bool.false_eq_true] at h1 <;> simp only [VR] at h <;> (try obtain ⟨_, rfl, _⟩ := h) <;> (try subst h) <;>
    (try (obtain ⟨_, _, rfl⟩ := h)) <;> (try (obtain ⟨_, _, rfl, _⟩ := h)) <;> exact ⟨rfl, rfl, rfl⟩

theorem allOne_iff : ∀ (l : List AV), allOne l = true ↔ ∀ v ∈ l, v.one = true
  | [] => by simp [allOne]
  | v :: vs => by simp only [allOne]; cases hv : v.one <;> simp [allOne_iff vs, hv]

theorem VR.cells {ρ : Mp} {v : AV} {w : Value} (h : VR ρ v w) (h1 : allOne v.cells = true) : VRs ρ v.cells w.cells.toList := by
  cases v with
  | agg cs => simp only [VR] at h; obtain ⟨cs', rfl, hc⟩ := h; exact hc
  | undef => simp [AV.cells, allOne, AV.one] at h1
  | tup cs => simp [AV.cells, allOne, AV.one] at h1
  | _ =>
    have h2 := (VR.one h (by simpa [AV.cells, allOne] using h1))
    rw [h2.1, h2.2.1]
    exact ⟨_, _, rfl, h, rfl⟩

/-! ### Memory -/
def ownB : ABlk → Bool
  | .row _ _ _ own _ => own
  | .map _ => true

/-- One map's entries. -/
def ERs (ρ : Mp) : List (AV × AV) → List MapEntry → Prop
  | [], l => l = []
  | e :: es, l => ∃ w ws, l = w :: ws ∧ VR ρ e.1 w.key ∧ VR ρ e.2 w.val ∧ ERs ρ es ws

theorem ERs.mono {ρ ρ' : Mp} (hle : ρ.le ρ') : ∀ (v : List (AV × AV)) (w : List MapEntry), ERs ρ v w → ERs ρ' v w
  | [], _, h => h
  | _ :: vs, _, ⟨w, ws, e, h1, h2, h3⟩ => ⟨w, ws, e, VR.mono hle _ _ h1, VR.mono hle _ _ h2, ERs.mono hle vs ws h3⟩

/-- What an abstract block says of the block in the model's memory. -/
def BR (ρ : Mp) (x : ABlk) (g : G) (W : World) : Prop :=
  match x with
  | .row cells size n own _ => g.own = own ∧ g.n = n ∧ ∃ arr e fr, W.heap[g.blk]? = some (.cells arr e fr) ∧ arr.size = g.csize ∧ g.off + size ≤ g.csize ∧
      (own = true → (∀ i, i < arr.size → (decide (fr.1 ≤ i) && decide (i < fr.2)) = false) ∧ (n = 0 → fr.2 = 0)) ∧
      ∀ i v, i < size → cells.get i = some v → ∃ v', arr[g.off + i]? = some v' ∧ VR ρ v v'
  | .map es => ∃ (es' : Array MapEntry) (clock : Nat), W.heap[g.blk]? = some (.map es' clock) ∧ ERs ρ es es'.toList

structure Rel (base : Nat) (ρ : Mp) (h : Heap) (W : World) : Prop where
  room : base ≤ W.heap.size
  dom : ∀ b g, ρ b = some g → b < h.next ∧ g.blk < W.heap.size
  live : ∀ b x, h.get b = some x → b < h.next
  blk : ∀ b x g, h.get b = some x → ρ b = some g → BR ρ x g W
  inj : ∀ b b' x x' g g', h.get b = some x → h.get b' = some x' → ρ b = some g → ρ b' = some g' → b ≠ b' → ownB x = true → g.blk ≠ g'.blk
  base : ∀ b x g, h.get b = some x → ρ b = some g → ownB x = true → base ≤ g.blk

theorem BR.mono {ρ ρ' : Mp} (hle : ρ.le ρ') {x : ABlk} {g : G} {W W' : World} (h : BR ρ x g W) (hW : W'.heap[g.blk]? = W.heap[g.blk]?) : BR ρ' x g W' := by
  cases x with
  | row cells size n own ty =>
    obtain ⟨h1, h2, arr, e, fr, h3, h4, h5, h6, h7⟩ := h
    exact ⟨h1, h2, arr, e, fr, hW.trans h3, h4, h5, h6, fun i v hi hv => let ⟨v', a, b⟩ := h7 i v hi hv; ⟨v', a, VR.mono hle _ _ b⟩⟩
  | map es =>
    obtain ⟨es', c, h1, h2⟩ := h
    exact ⟨es', c, hW.trans h1, ERs.mono hle _ _ h2⟩

/-- Is the block the image of an own living one? -/
def Hit (ρ : Mp) (h : Heap) (c : Nat) : Prop := ∃ b x g, h.get b = some x ∧ ρ b = some g ∧ ownB x = true ∧ g.blk = c

/-- One step, or many, of both sides. -/
structure Step (base : Nat) (ρ : Mp) (h : Heap) (W : World) (ρ' : Mp) (h' : Heap) (W' : World) : Prop where
  le : ρ.le ρ'
  rel : Rel base ρ' h' W'
  dom : ∀ b g, ρ' b = some g → ρ b = some g ∨ h.next ≤ b
  next : h.next ≤ h'.next
  size : W.heap.size ≤ W'.heap.size
  keep : ∀ b x', b < h.next → h'.get b = some x' → ∃ x, h.get b = some x ∧ ownB x = ownB x'
  frame : ∀ c, c < W.heap.size → ¬ Hit ρ h c → W'.heap[c]? = W.heap[c]?
  fresh : ∀ b x g, h'.get b = some x → ρ' b = some g → h.next ≤ b → ownB x = true → W.heap.size ≤ g.blk ∨ Hit ρ h g.blk
  same : W'.tape = W.tape ∧ W'.os = W.os ∧ W'.output = W.output
  low : ∀ b, h'.log.testBit b = false → b < h.next → h'.get b = h.get b
  lows : ∀ b, h'.log.testBit b = false → h.log.testBit b = false
  mapd : ∀ b x, h'.get b = some x → h.next ≤ b → ownB x = true ∧ ∃ g, ρ' b = some g

theorem Step.refl {base : Nat} {ρ : Mp} {h : Heap} {W : World} (r : Rel base ρ h W) : Step base ρ h W ρ h W where
  le := Mp.le_refl ρ
  rel := r
  dom := fun _ _ h => .inl h
  next := Nat.le_refl _
  size := Nat.le_refl _
  keep := fun _ x' _ h => ⟨x', h, rfl⟩
  frame := fun _ _ _ => rfl
  fresh := fun b x g hx hg hb _ => absurd (r.live b x hx) (by omega)
  same := ⟨rfl, rfl, rfl⟩
  low := fun _ _ _ => rfl
  lows := fun _ h => h
  mapd := fun b x hx hb => absurd (r.live b x hx) (by omega)

theorem Step.hit {base : Nat} {ρ ρ' : Mp} {h h' : Heap} {W W' : World} (s : Step base ρ h W ρ' h' W') {c : Nat} (hc : c < W.heap.size) (hh : Hit ρ' h' c) : Hit ρ h c := by
  obtain ⟨b, x, g, hx, hg, ho, rfl⟩ := hh
  by_cases hb : b < h.next
  · obtain ⟨x0, hx0, ho0⟩ := s.keep b x hb hx
    rcases s.dom b g hg with h1 | h1
    · exact ⟨b, x0, g, hx0, h1, by rw [ho0, ho], rfl⟩
    · omega
  · rcases s.fresh b x g hx hg (by omega) ho with h1 | h1
    · omega
    · exact h1

theorem Step.trans {base : Nat} {ρ ρ' ρ'' : Mp} {h h' h'' : Heap} {W W' W'' : World} (s : Step base ρ h W ρ' h' W') (t : Step base ρ' h' W' ρ'' h'' W'') :
    Step base ρ h W ρ'' h'' W'' where
  le := Mp.le_trans s.le t.le
  rel := t.rel
  dom := fun b g hg => by
    rcases t.dom b g hg with h1 | h1
    · exact s.dom b g h1
    · exact .inr (Nat.le_trans s.next h1)
  next := Nat.le_trans s.next t.next
  size := Nat.le_trans s.size t.size
  keep := fun b x hb hx => by
    obtain ⟨x', hx', ho'⟩ := t.keep b x (Nat.lt_of_lt_of_le hb s.next) hx
    obtain ⟨x'', hx'', ho''⟩ := s.keep b x' hb hx'
    exact ⟨x'', hx'', ho''.trans ho'⟩
  frame := fun c hc hn => (t.frame c (Nat.lt_of_lt_of_le hc s.size) (fun hh => hn (s.hit hc hh))).trans (s.frame c hc hn)
  fresh := fun b x g hx hg hb ho => by
    by_cases hb' : b < h'.next
    · obtain ⟨x', hx', ho'⟩ := t.keep b x hb' hx
      rcases t.dom b g hg with h1 | h1
      · exact s.fresh b x' g hx' h1 hb (by rw [ho', ho])
      · omega
    · rcases t.fresh b x g hx hg (by omega) ho with h1 | h1
      · exact .inl (Nat.le_trans s.size h1)
      · by_cases hc : W.heap.size ≤ g.blk
        · exact .inl hc
        · exact .inr (s.hit (by omega) h1)
  same := ⟨t.same.1.trans s.same.1, t.same.2.1.trans s.same.2.1, t.same.2.2.trans s.same.2.2⟩
  low := fun b hb hn => (t.low b hb (Nat.lt_of_lt_of_le hn s.next)).trans (s.low b (t.lows b hb) hn)
  lows := fun b hb => s.lows b (t.lows b hb)
  mapd := fun b x hx hb => by
    by_cases hb' : b < h'.next
    · obtain ⟨x', hx', ho'⟩ := t.keep b x hb' hx
      obtain ⟨ho, g, hg⟩ := s.mapd b x' hx' hb
      exact ⟨by rw [← ho', ho], g, t.le b g hg⟩
    · exact t.mapd b x hx (by omega)

/-- A draw turns nothing here. -/
theorem Step.draw {base : Nat} {ρ : Mp} {h : Heap} {W : World} (r : Rel base ρ h W) (n : Nat) : Step base ρ h W ρ h { W with drawn := n } where
  le := Mp.le_refl ρ
  rel := ⟨r.room, r.dom, r.live, fun b x g hx hg => BR.mono (Mp.le_refl ρ) (r.blk b x g hx hg) rfl, r.inj, r.base⟩
  dom := fun _ _ h => .inl h
  next := Nat.le_refl _
  size := Nat.le_refl _
  keep := fun _ x' _ h => ⟨x', h, rfl⟩
  frame := fun _ _ _ => rfl
  fresh := fun b x g hx _ hb _ => absurd (r.live b x hx) (by omega)
  same := ⟨rfl, rfl, rfl⟩
  low := fun _ _ _ => rfl
  lows := fun _ h => h
  mapd := fun b x hx hb => absurd (r.live b x hx) (by omega)

end Go.Proofs.Ytofaiipohmeelaa.Am
