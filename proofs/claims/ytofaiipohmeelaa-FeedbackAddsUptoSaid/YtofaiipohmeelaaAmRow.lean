/-
  Rows in the abstract machine's memory: what a slice holds, what stays as it was, what is appended.
-/
import Derived.Test.YtofaiipohmeelaaAmFx
set_option linter.all false
namespace Go.Proofs.Ytofaiipohmeelaa.Am

/-! ### What stays -/
structure Grow (h h' : Heap) : Prop where
  next : h.next ≤ h'.next
  get : ∀ b, b < h.next → h'.get b = h.get b
  log : ∀ b, b < h.next → h'.log.testBit b = h.log.testBit b

theorem Grow.refl (h : Heap) : Grow h h := ⟨Nat.le_refl _, fun _ _ => rfl, fun _ _ => rfl⟩
theorem Grow.trans {a b c : Heap} (x : Grow a b) (y : Grow b c) : Grow a c :=
  ⟨Nat.le_trans x.next y.next, fun i hi => (y.get i (Nat.lt_of_lt_of_le hi x.next)).trans (x.get i hi), fun i hi => (y.log i (Nat.lt_of_lt_of_le hi x.next)).trans (x.log i hi)⟩
theorem Grow.new (h : Heap) (x : ABlk) : Grow h (h.new x) :=
  ⟨Nat.le_succ _, fun b hb => by rw [Heap.get_new, if_neg (by omega)], fun _ _ => rfl⟩
theorem Grow.turn {h0 h : Heap} (e : Grow h0 h) {b : Nat} (hb : h0.next ≤ b) (x : Option ABlk) : Grow h0 (h.turn b x) :=
  ⟨e.next, fun c hc => by rw [Heap.get_turn, if_neg (by omega)]; exact e.get c hc, fun c hc => by
    have h1 : (h.turn b x).log.testBit c = (h.log.testBit c || decide (b = c)) := by
      show (Nat.lor h.log (Nat.pow 2 b)).testBit c = _
      show (h.log ||| 2 ^ b).testBit c = _
      rw [Nat.testBit_or, Nat.testBit_two_pow]
    rw [h1, e.log c hc, decide_eq_false (by omega), Bool.or_false]⟩

@[simp] theorem relaid_next (h : Heap) : h.relaid.next = h.next := (rfl)
@[simp] theorem relaid_get (h : Heap) (b : Nat) : h.relaid.get b = h.get b := (rfl)
@[simp] theorem relaid_log (h : Heap) : h.relaid.log = 0 := (rfl)
@[simp] theorem relaid_blks (h : Heap) : h.relaid.blks = h.blks := (rfl)
@[simp] theorem heap_eta (h : Heap) : (⟨h.next, h.blks, h.log⟩ : Heap) = h := (rfl)
theorem Grow.back {h h' : Heap} (e : Grow h.relaid h') : Grow h ⟨h'.next, h'.blks, h.log⟩ := ⟨e.next, e.get, fun _ _ => rfl⟩
theorem Grow.alone {h h' : Heap} (e : Grow h.relaid h') : Nat.beq (Nat.mod h'.log (Nat.pow 2 h.next)) 0 = true := by
  have : h'.log % 2 ^ h.next = 0 := by
    apply Nat.eq_of_testBit_eq
    intro i
    rw [Nat.testBit_mod_two_pow]
    by_cases hi : i < h.next
    · rw [e.log i hi]; simp
    · simp [hi]
  rw [show Nat.mod h'.log (Nat.pow 2 h.next) = 0 from this]
  rfl

/-! ### What a slice holds -/
def ldc (h : Heap) (p : AV) (n : Nat) : Option (List AV) := match p with | .ptr b o => h.load b o n | _ => none
def elemP (v : AV) (i n : Nat) : AV := match v with | .sl b o _ _ => .ptr b (o + i * n) | _ => .undef
def paddP (p : AV) (k : Nat) : AV := match p with | .ptr b o => .ptr b (o + k) | _ => .undef

structure RowP (h : Heap) (v : AV) (n len : Nat) (P : Nat → List AV → Prop) : Prop where
  shape : (v = .nilSl ∧ len = 0) ∨ ∃ b o cap, v = .sl b o len cap ∧ b < h.next ∧ len ≤ cap ∧ h.rowsOf b n = true
  get : ∀ i, i < len → ∃ cells, ldc h (elemP v i n) n = some cells ∧ P i cells

theorem load_ext {h h' : Heap} (e : Grow h h') {b : Nat} (hb : b < h.next) (o n : Nat) : h'.load b o n = h.load b o n := by
  unfold Heap.load; rw [e.get b hb]
theorem rowsOf_ext {h h' : Heap} (e : Grow h h') {b : Nat} (hb : b < h.next) (n : Nat) : h'.rowsOf b n = h.rowsOf b n := by
  unfold Heap.rowsOf; rw [e.get b hb]

theorem RowP.ext {h h' : Heap} {v : AV} {n len : Nat} {P : Nat → List AV → Prop} (r : RowP h v n len P) (e : Grow h h') : RowP h' v n len P := by
  rcases r.shape with ⟨rfl, rfl⟩ | ⟨b, o, cap, rfl, hb, hc, hr⟩
  · exact ⟨.inl ⟨rfl, rfl⟩, fun i hi => absurd hi (by omega)⟩
  · refine ⟨.inr ⟨b, o, cap, rfl, Nat.lt_of_lt_of_le hb e.next, hc, by rw [rowsOf_ext e hb]; exact hr⟩, fun i hi => ?_⟩
    obtain ⟨c, h1, h2⟩ := r.get i hi
    exact ⟨c, by simp only [ldc, elemP] at h1 ⊢; rw [load_ext e hb]; exact h1, h2⟩

/-- The same cells later. -/
theorem RowP.keep {h h' : Heap} {v : AV} {n len : Nat} {P : Nat → List AV → Prop} (r : RowP h v n len P) (e : Grow h h') {i : Nat} (hi : i < len) {c : List AV} (hc : ldc h (elemP v i n) n = some c) : ldc h' (elemP v i n) n = some c := by
  rcases r.shape with ⟨rfl, rfl⟩ | ⟨b, o, cap, rfl, hb, hc2, hr⟩
  · omega
  · simp only [ldc, elemP] at hc ⊢
    rw [load_ext e hb]; exact hc

theorem RowP.mono {h : Heap} {v : AV} {n len : Nat} {P Q : Nat → List AV → Prop} (r : RowP h v n len P) (hq : ∀ i c, i < len → P i c → Q i c) : RowP h v n len Q :=
  ⟨r.shape, fun i hi => let ⟨c, h1, h2⟩ := r.get i hi; ⟨c, h1, hq i c hi h2⟩⟩

theorem RowP.nil (h : Heap) (n : Nat) (P : Nat → List AV → Prop) : RowP h .nilSl n 0 P := ⟨.inl ⟨rfl, rfl⟩, fun i hi => absurd hi (by omega)⟩

theorem RowP.len {h : Heap} {v : AV} {n len : Nat} {P : Nat → List AV → Prop} (r : RowP h v n len P) : lenV v = some (.int .i64 len) := by
  rcases r.shape with ⟨rfl, rfl⟩ | ⟨b, o, cap, rfl, hb, hc, hr⟩ <;> rfl

theorem RowP.idx {h : Heap} {v : AV} {n len : Nat} {P : Nat → List AV → Prop} (r : RowP h v n len P) {k : IntKind} {i : Int} (h0 : 0 ≤ i) (h1 : i < len) : idxV v (.int k i) n = some (elemP v i.toNat n) := by
  rcases r.shape with ⟨rfl, rfl⟩ | ⟨b, o, cap, rfl, hb, hc, hr⟩
  · omega
  · have hlt : Nat.blt i.toNat len = true := by simp only [Nat.blt, Nat.ble_eq]; omega
    simp only [idxV, asNat_of h0, hlt, cond_true, elemP]

theorem RowP.pad {h : Heap} {v : AV} {n len : Nat} {P : Nat → List AV → Prop} (r : RowP h v n len P) {i : Nat} (h1 : i < len) (k : Nat) : padV (elemP v i n) k = some (paddP (elemP v i n) k) := by
  rcases r.shape with ⟨rfl, rfl⟩ | ⟨b, o, cap, rfl, hb, hc, hr⟩
  · omega
  · rfl

theorem RowP.quiet {h : Heap} {v : AV} {n len : Nat} {P : Nat → List AV → Prop} (r : RowP h v n len P) {i : Nat} (h1 : i < len) : ∃ z, qB (elemP v i n) h.next = some z := by
  rcases r.shape with ⟨rfl, rfl⟩ | ⟨b, o, cap, rfl, hb, hc, hr⟩
  · omega
  · have : Nat.blt b h.next = true := by simp only [Nat.blt, Nat.ble_eq]; omega
    exact ⟨_, by simp only [qB, elemP, this, cond_true]; rfl⟩

theorem ld_one {h : Heap} {p w : AV} (e : ldc h p 1 = some [w]) : ldV h p 1 false = some w := by
  cases p with
  | ptr b o =>
    simp only [ldc] at e
    simp only [ldV, e, Option.bind_some]
    rfl
  | _ => simp [ldc] at e

theorem ld_agg {h : Heap} {p : AV} {n : Nat} {l : List AV} (e : ldc h p n = some l) : ldV h p n true = some (.agg l) := by
  cases p with
  | ptr b o =>
    simp only [ldc] at e
    simp only [ldV, e, Option.bind_some]
    rfl
  | _ => simp [ldc] at e

theorem ldc_part {h : Heap} {p : AV} {n : Nat} {l : List AV} (e : ldc h p n = some l) {k j : Nat} (hj : k + j ≤ n) : ldc h (paddP p k) j = some ((l.drop k).take j) := by
  cases p with
  | ptr b o =>
    simp only [ldc, paddP] at e ⊢
    obtain ⟨cells, size, kk, own, ty, hb, hs, hl, hc⟩ := Heap.load_spec e
    have hlen : ((l.drop k).take j).length = j := by simp; omega
    have := Heap.load_of (h := h) (b := b) (off := o + k) (l := (l.drop k).take j) hb (by rw [hlen]; omega) (fun i hi => by
      rw [hlen] at hi
      rw [show o + k + i = o + (k + i) from by omega, hc (k + i) (by omega), List.getElem?_take_of_lt hi, List.getElem?_drop])
    rw [hlen] at this
    exact this
  | _ => simp [ldc] at e

/-- One cell of an element. -/
theorem ld_part {h : Heap} {p w : AV} {n : Nat} {l : List AV} (e : ldc h p n = some l) {k : Nat} (hk : k + 1 ≤ n) (hw : l[k]? = some w) : ldV h (paddP p k) 1 false = some w := by
  refine ld_one ?_
  rw [ldc_part e hk]
  have hlt : k < l.length := by
    rcases Nat.lt_or_ge k l.length with h1 | h1
    · exact h1
    · rw [List.getElem?_eq_none h1] at hw; simp at hw
  rw [List.getElem?_eq_getElem hlt] at hw
  simp only [Option.some.injEq] at hw
  rw [List.drop_eq_getElem_cons hlt, hw]
  rfl

/-- A slice of a slice, from its beginning. -/
def cutTo (v : AV) (k : Nat) : AV := match v with | .sl b o _ cap => .sl b o k cap | v => v

theorem elemP_cut {v : AV} {k i n : Nat} : elemP (cutTo v k) i n = elemP v i n := by cases v <;> rfl

theorem RowP.cut {h : Heap} {v : AV} {n len : Nat} {P : Nat → List AV → Prop} (r : RowP h v n len P) {k : IntKind} {i : Int} (h0 : 0 ≤ i) (h1 : i ≤ len) :
    slV h v none (some (.int k i)) n = some (cutTo v i.toNat) := by
  rcases r.shape with ⟨rfl, rfl⟩ | ⟨b, o, cap, rfl, hb, hc, hr⟩
  · have : i = 0 := by omega
    subst this
    rfl
  · have e1 : Nat.ble 0 i.toNat = true := by simp
    have e2 : Nat.ble i.toNat cap = true := by simp; omega
    have e3 : Nat.ble cap cap = true := by simp
    simp only [slV, hr, cond_true, bounds, Option.map_some, Option.map_none, evalX, asNat_of h0, e1, e2, e3, Bool.and_self, Nat.zero_mul, Nat.add_zero, Nat.sub_zero, cutTo]

theorem RowP.cut_row {h : Heap} {v : AV} {n len : Nat} {P : Nat → List AV → Prop} (r : RowP h v n len P) {k : Nat} (hk : k ≤ len) : RowP h (cutTo v k) n k P := by
  refine ⟨?_, fun i hi => by rw [elemP_cut]; exact r.get i (by omega)⟩
  rcases r.shape with ⟨rfl, rfl⟩ | ⟨b, o, cap, rfl, hb, hc, hr⟩
  · exact .inl ⟨rfl, by omega⟩
  · exact .inr ⟨b, o, cap, rfl, hb, by omega, hr⟩

/-! ### Rows of one's own -/
structure Acc (h0 h : Heap) (v : AV) (n len : Nat) (P : Nat → List AV → Prop) : Prop where
  ext : Grow h0 h
  row : RowP h v n len P
  own : v = .nilSl ∨ ∃ b len cap cells size ty, v = .sl b 0 len cap ∧ h0.next ≤ b ∧ h.get b = some (.row cells size n true ty) ∧ cap * n ≤ size

theorem Acc.nil {h0 h : Heap} (e : Grow h0 h) (n : Nat) (P : Nat → List AV → Prop) : Acc h0 h .nilSl n 0 P := ⟨e, RowP.nil h n P, .inl rfl⟩

theorem rowsOf_row {h : Heap} {b n k size : Nat} {cells : Tr AV} {own : Bool} {ty : TypeId} (e : h.get b = some (.row cells size k own ty)) (hk : k = n) : h.rowsOf b n = true := by
  unfold Heap.rowsOf
  rw [e]
  subst hk
  simp

theorem Acc.cut {h0 h : Heap} {v : AV} {n len : Nat} {P : Nat → List AV → Prop} (a : Acc h0 h v n len P) {k : Nat} (hk : k ≤ len) : Acc h0 h (cutTo v k) n k P := by
  refine ⟨a.ext, a.row.cut_row hk, ?_⟩
  rcases a.own with rfl | ⟨b, l, cap, cells, size, ty, rfl, h1, h2, h3⟩
  · exact .inl rfl
  · exact .inr ⟨b, k, cap, cells, size, ty, rfl, h1, h2, h3⟩

theorem Acc.mono {h0 h : Heap} {v : AV} {n len : Nat} {P Q : Nat → List AV → Prop} (a : Acc h0 h v n len P) (hq : ∀ i c, i < len → P i c → Q i c) : Acc h0 h v n len Q :=
  ⟨a.ext, a.row.mono hq, a.own⟩

/-- Memory goes on; the row's own block is left alone. -/
theorem Acc.step {h0 h h' : Heap} {v : AV} {n len : Nat} {P : Nat → List AV → Prop} (a : Acc h0 h v n len P) (e : Grow h h') : Acc h0 h' v n len P := by
  refine ⟨a.ext.trans e, a.row.ext e, ?_⟩
  rcases a.own with rfl | ⟨b, l, cap, cells, size, ty, rfl, h1, h2, h3⟩
  · exact .inl rfl
  · refine .inr ⟨b, l, cap, cells, size, ty, rfl, h1, ?_, h3⟩
    rcases a.row.shape with ⟨h4, _⟩ | ⟨b', o', cap', h4, hb, _, _⟩
    · cases h4
    · cases h4
      rw [e.get b hb]; exact h2

theorem Acc.later {h0 h1 h : Heap} {v : AV} {n len : Nat} {P : Nat → List AV → Prop} (a : Acc h1 h v n len P) (e : Grow h0 h1) : Acc h0 h v n len P := by
  refine ⟨e.trans a.ext, a.row, ?_⟩
  rcases a.own with rfl | ⟨b, l, cap, cells, size, ty, rfl, h1, h2, h3⟩
  · exact .inl rfl
  · exact .inr ⟨b, l, cap, cells, size, ty, rfl, Nat.le_trans e.next h1, h2, h3⟩

theorem made_next (h : Heap) (cells : List AV) (n : Nat) (ty : TypeId) : (made h cells n ty).next = h.next + 1 := rfl
theorem made_get (h : Heap) (cells : List AV) (n : Nat) (ty : TypeId) (b : Nat) : (made h cells n ty).get b = if h.next = b then some (.row (Tr.putList .nil 0 cells) cells.length n true ty) else h.get b := Heap.get_new _ _ _
theorem made_ext (h : Heap) (cells : List AV) (n : Nat) (ty : TypeId) : Grow h (made h cells n ty) := Grow.new _ _

theorem made_load (h : Heap) (cells : List AV) (n : Nat) (ty : TypeId) : (made h cells n ty).load h.next 0 cells.length = some cells := by
  refine Heap.load_of (h := made h cells n ty) (b := h.next) (by rw [made_get, if_pos rfl]) (by omega) fun i hi => ?_
  rw [Nat.zero_add, Tr.get_putList, if_pos (by omega), Nat.sub_zero]

theorem made_src (h : Heap) (cells : List AV) (n m : Nat) (ty : TypeId) (hl : cells.length = m * n) : srcCells (made h cells n ty) n (.sl h.next 0 m m) = some (m, cells) := by
  simp only [srcCells, ← hl, made_load, Option.map_some]

@[simp] theorem buildV_some {h : Heap} {cells : List AV} {n len : Nat} {ty : TypeId} (hl : cells.length = len * n) (ha : allOne cells = true) : buildV h (some cells) n len ty = some (.sl h.next 0 len len, made h cells n ty) := by
  have : Nat.beq cells.length (len * n) = true := by rw [nbeq]; exact decide_eq_true hl
  simp only [buildV, this, cond_true, Heap.row, ha, Option.map_some, made]

@[simp] theorem allOne_nil : allOne [] = true := (rfl)
@[simp] theorem allOne_cons {v : AV} {l : List AV} : allOne (v :: l) = (v.one && allOne l) := by simp only [allOne]; cases v.one <;> rfl
@[simp] theorem one_flt {b : Nat} : (AV.flt b).one = true := (rfl)
@[simp] theorem one_cpx {a b : Nat} : (AV.cpx a b).one = true := (rfl)
@[simp] theorem one_int {k : IntKind} {n : Int} : (AV.int k n).one = true := (rfl)
@[simp] theorem one_bool {b : Bool} : (AV.bool b).one = true := (rfl)
@[simp] theorem fill_nil {cells : List AV} : fillA cells [] = some cells := (rfl)
@[simp] theorem fill_cons {cells : List AV} {off n : Nat} {v : AV} {r : List (Nat × Nat × AV)} : fillA cells ((off, n, v) :: r) = if v.cells.length = n ∧ off + n ≤ cells.length ∧ allOne v.cells = true then fillA (cells.take off ++ v.cells ++ cells.drop (off + n)) r else none := by
  simp only [fillA]
  by_cases h1 : v.cells.length = n
  · by_cases h2 : off + n ≤ cells.length
    · cases h3 : allOne v.cells
      · simp [h3]
      · have e1 : Nat.beq v.cells.length n = true := by rw [nbeq]; exact decide_eq_true h1
        have e2 : Nat.ble (off + n) cells.length = true := Nat.ble_eq_true_of_le h2
        rw [if_pos ⟨h1, h2, rfl⟩]
        simp only [e1, e2, Bool.and_self, cond_true]
    · have e2 : Nat.ble (off + n) cells.length = false := by
        cases hb : Nat.ble (off + n) cells.length
        · rfl
        · exact absurd (Nat.le_of_ble_eq_true hb) h2
      simp [e2, h2]
  · have e1 : Nat.beq v.cells.length n = false := by rw [nbeq]; exact decide_eq_false h1
    simp [e1, h1]
@[simp] theorem env_nil {ρ : AX → AV} : fillEnv ρ [] = [] := (rfl)
@[simp] theorem env_cons {ρ : AX → AV} {o n : Nat} {x : AX} {r : List (Nat × Nat × AX)} : fillEnv ρ ((o, n, x) :: r) = (o, n, ρ x) :: fillEnv ρ r := (rfl)

/-- A row that is made with its elements. -/
theorem made_row (h : Heap) {cells : List AV} {n len : Nat} {ty : TypeId} {P : Nat → List AV → Prop} (hl : cells.length = len * n) (hP : ∀ i, i < len → P i ((cells.drop (i * n)).take n)) : Acc h (made h cells n ty) (.sl h.next 0 len len) n len P := by
  refine ⟨made_ext _ _ _ _, ⟨.inr ⟨_, _, _, rfl, by rw [made_next]; omega, Nat.le_refl _, rowsOf_row (by rw [made_get, if_pos rfl]) rfl⟩, fun i hi => ⟨_, ?_, hP i hi⟩⟩, .inr ⟨_, _, _, _, _, _, rfl, Nat.le_refl _, by rw [made_get, if_pos rfl], by omega⟩⟩
  have hin : i * n + n ≤ len * n := by
    have : (i + 1) * n ≤ len * n := Nat.mul_le_mul_right n hi
    rw [Nat.add_mul, Nat.one_mul] at this
    exact this
  simp only [ldc, elemP, Nat.zero_add]
  have hlen : ((cells.drop (i * n)).take n).length = n := by simp; omega
  have := Heap.load_of (h := made h cells n ty) (b := h.next) (off := i * n) (l := (cells.drop (i * n)).take n) (by rw [made_get, if_pos rfl]) (by rw [hlen]; omega) (fun j hj => by
    rw [hlen] at hj
    rw [Tr.get_putList, if_pos (by omega), Nat.sub_zero, List.getElem?_take_of_lt hj, List.getElem?_drop])
  rw [hlen] at this
  exact this

/-- ████ ONE MORE ████ -/
theorem Acc.push_raw {h0 h : Heap} {v : AV} {n len : Nat} {P : Nat → List AV → Prop} (a : Acc h0 h v n len P) {cells : List AV} (hl : cells.length = n) (hn : 0 < n) (ha : allOne cells = true) (hP : P len cells) {bytes : Nat} (hb : (len + 1) * bytes ≤ 70368744177664) (ty ty' : TypeId) :
    ∃ v' h', appendA (made h cells n ty) v (srcCells (made h cells n ty) n (.sl h.next 0 1 1)) n bytes ty' = some (v', h') ∧ Acc h0 h' v' n (len + 1) P ∧ h.next ≤ h'.next ∧
      (∀ b, b < h.next → (∀ o l c, v ≠ .sl b o l c) → h'.get b = h.get b) ∧ (∀ b o l c, v' = .sl b o l c → h.next ≤ b ∨ ∃ o l c, v = .sl b o l c) := by
  rw [made_src h cells n 1 ty (by omega)]
  have hbeq : Nat.beq cells.length (1 * n) = true := by rw [nbeq]; exact decide_eq_true (by omega)
  have hm0 : Nat.beq 1 0 = false := rfl
  have hext := a.ext.trans (made_ext h cells n ty)
  rcases a.row.shape with ⟨rfl, rfl⟩ | ⟨b, o, cap, rfl, hbn, hc, hr⟩
  · have hle : Nat.ble (1 * bytes) 70368744177664 = true := Nat.ble_eq_true_of_le (by omega)
    simp only [appendA, hbeq, hm0, hle, ha, Bool.and_self, cond_true, cond_false]
    refine ⟨_, _, rfl, ?_, ?_, ?_, ?_⟩
    · refine ⟨hext.trans (Grow.new _ _), ⟨.inr ⟨_, _, _, rfl, ?_, Nat.le_refl _, ?_⟩, fun i hi => ?_⟩, .inr ⟨_, _, _, _, _, _, rfl, ?_, by rw [Heap.get_new, if_pos rfl], by omega⟩⟩
      · rw [Heap.next_new]; omega
      · exact rowsOf_row (by rw [Heap.get_new, if_pos rfl]) rfl
      · obtain rfl : i = 0 := by omega
        refine ⟨cells, ?_, hP⟩
        simp only [ldc, elemP, Nat.zero_mul, Nat.add_zero]
        rw [← hl]
        refine Heap.load_of (b := (made h cells cells.length ty).next) (by rw [Heap.get_new, if_pos rfl]) (by omega) fun i hi => ?_
        rw [Nat.zero_add, Tr.get_putList, if_pos (by omega), Nat.sub_zero]
      · have := a.ext.next
        rw [made_next]; omega
    · rw [Heap.next_new, made_next]; omega
    · intro b hb _
      rw [Heap.get_new, if_neg (by rw [made_next]; omega), made_get, if_neg (by omega)]
    · intro b o l c e
      cases e
      exact .inl (by rw [made_next]; omega)
  · rcases a.own with h1 | ⟨b', l', cap', oc, size, oty, h1, h2, h3, h4⟩
    · cases h1
    cases h1
    have hle0 : Nat.ble len cap = true := Nat.ble_eq_true_of_le hc
    have hgb : (made h cells n ty).get b = some (.row oc size n true oty) := by rw [made_get, if_neg (by omega)]; exact h3
    have hn1 : ∀ i, i < len → i * n + n ≤ len * n := fun i hi => by
      have : (i + 1) * n ≤ len * n := Nat.mul_le_mul_right n hi
      rw [Nat.add_mul, Nat.one_mul] at this
      exact this
    have hcap : len * n ≤ cap * n := Nat.mul_le_mul_right n hc
    by_cases hroom : len + 1 ≤ cap
    · have e1 : Nat.ble (len + 1) cap = true := Nat.ble_eq_true_of_le hroom
      have hfit : len * n + n ≤ size := by
        have : (len + 1) * n ≤ cap * n := Nat.mul_le_mul_right n hroom
        rw [Nat.add_mul, Nat.one_mul] at this
        omega
      have hst : (made h cells n ty).store b (0 + len * n) cells = some ((made h cells n ty).turn b (some (.row (oc.putList (0 + len * n) cells) size n true oty))) := by
        have e2 : Nat.ble (0 + len * n + cells.length) size = true := Nat.ble_eq_true_of_le (by omega)
        simp only [Heap.store, hgb, e2, ha, Bool.and_self, cond_true]
      simp only [appendA, hbeq, hm0, e1, hst, cond_true, cond_false, Option.map_some]
      refine ⟨_, _, rfl, ?_, ?_, ?_, ?_⟩
      · refine ⟨hext.turn h2 _, ⟨.inr ⟨_, _, _, rfl, ?_, hroom, ?_⟩, fun i hi => ?_⟩, .inr ⟨_, _, _, _, _, _, rfl, h2, by rw [Heap.get_turn, if_pos rfl], h4⟩⟩
        · rw [Heap.next_turn, made_next]; omega
        · exact rowsOf_row (by rw [Heap.get_turn, if_pos rfl]) rfl
        · have goal : ∀ (l : List AV), l.length = n → (∀ j, j < n → (oc.putList (0 + len * n) cells).get (i * n + j) = l[j]?) → ldc ((made h cells n ty).turn b (some (.row (oc.putList (0 + len * n) cells) size n true oty))) (elemP (.sl b 0 (len + 1) cap) i n) n = some l := by
            intro l hll hj
            simp only [ldc, elemP, Nat.zero_add]
            rw [← hll]
            refine Heap.load_of (b := b) (by rw [Heap.get_turn, if_pos rfl]) ?_ fun j hjn => ?_
            · have : i * l.length ≤ len * l.length := Nat.mul_le_mul_right _ (by omega)
              rw [hll] at this ⊢
              omega
            · have := hj j (by omega)
              simp only [Nat.zero_add, hll] at this ⊢
              exact this
          by_cases hi2 : i < len
          · obtain ⟨c, hc1, hc2⟩ := a.row.get i hi2
            simp only [ldc, elemP, Nat.zero_add] at hc1
            obtain ⟨cs, sz, kk, ow, tyy, g1, g2, g3, g4⟩ := Heap.load_spec hc1
            rw [h3] at g1
            cases g1
            refine ⟨c, goal c g3 fun j hj => ?_, hc2⟩
            rw [Tr.get_putList, if_neg (by have := hn1 i hi2; omega)]
            exact g4 j hj
          · obtain rfl : i = len := by omega
            refine ⟨cells, goal cells hl fun j hj => ?_, hP⟩
            rw [Tr.get_putList, if_pos (by omega)]
            congr 1
            omega
      · rw [Heap.next_turn, made_next]; omega
      · intro c hcn hne
        rw [Heap.get_turn, if_neg (fun e => hne _ _ _ (by rw [e])), made_get, if_neg (by omega)]
      · intro b' o l c e
        cases e
        exact .inr ⟨_, _, _, rfl⟩
    · obtain rfl : cap = len := by omega
      have e1 : Nat.ble (cap + 1) cap = false := by
        cases hbb : Nat.ble (cap + 1) cap
        · rfl
        · exact absurd (Nat.le_of_ble_eq_true hbb) (by omega)
      have e2 : Nat.ble ((cap + 1) * bytes) 70368744177664 = true := Nat.ble_eq_true_of_le hb
      have e3 : Nat.beq n n = true := by rw [nbeq]; exact decide_eq_true rfl
      have e4 : Nat.ble (0 + cap * n) size = true := Nat.ble_eq_true_of_le (by omega)
      have e5 : oldCells oc 0 (cap * n) = some oc := rfl
      simp only [appendA, hbeq, hm0, e1, e2, e3, e4, e5, ha, hgb, Bool.and_self, cond_true, cond_false]
      refine ⟨_, _, rfl, ?_, ?_, ?_, ?_⟩
      · refine ⟨(hext.turn h2 none).trans (Grow.new _ _), ⟨.inr ⟨_, _, _, rfl, ?_, Nat.le_refl _, ?_⟩, fun i hi => ?_⟩, .inr ⟨_, _, _, _, _, _, rfl, ?_, by rw [Heap.get_new, Heap.next_turn, if_pos rfl], Nat.le_refl _⟩⟩
        · rw [Heap.next_new, Heap.next_turn]; omega
        · exact rowsOf_row (by rw [Heap.get_new, Heap.next_turn, if_pos rfl]) rfl
        · have goal : ∀ (l : List AV), l.length = n → (∀ j, j < n → (oc.putList (cap * n) cells).get (i * n + j) = l[j]?) → ldc (((made h cells n ty).turn b none).new (.row (oc.putList (cap * n) cells) ((cap + 1) * n) n true ty')) (elemP (.sl (made h cells n ty).next 0 (cap + 1) (cap + 1)) i n) n = some l := by
            intro l hll hj
            simp only [ldc, elemP, Nat.zero_add]
            rw [← hll]
            refine Heap.load_of (b := (made h cells l.length ty).next) (by rw [Heap.get_new, Heap.next_turn, if_pos rfl]) ?_ fun j hjn => ?_
            · rw [hll]
              have : (i + 1) * n ≤ (cap + 1) * n := Nat.mul_le_mul_right _ (by omega)
              rw [Nat.add_mul, Nat.one_mul] at this
              exact this
            · have := hj j (by omega)
              simp only [hll] at this ⊢
              exact this
          by_cases hi2 : i < cap
          · obtain ⟨c, hc1, hc2⟩ := a.row.get i hi2
            simp only [ldc, elemP, Nat.zero_add] at hc1
            obtain ⟨cs, sz, kk, ow, tyy, g1, g2, g3, g4⟩ := Heap.load_spec hc1
            rw [h3] at g1
            cases g1
            refine ⟨c, goal c g3 fun j hj => ?_, hc2⟩
            rw [Tr.get_putList, if_neg (by have := hn1 i hi2; omega)]
            exact g4 j hj
          · obtain rfl : i = cap := by omega
            refine ⟨cells, goal cells hl fun j hj => ?_, hP⟩
            rw [Tr.get_putList, if_pos (by omega)]
            congr 1
            omega
        · have := a.ext.next
          rw [made_next]; omega
      · rw [Heap.next_new, Heap.next_turn, made_next]; omega
      · intro c hcn hne
        rw [Heap.get_new, Heap.next_turn, if_neg (by rw [made_next]; omega), Heap.get_turn, if_neg (fun e => hne _ _ _ (by rw [e])), made_get, if_neg (by omega)]
      · intro b' o l c e
        cases e
        exact .inl (by rw [made_next]; omega)

/-- The block that a slice lies in. -/
def blk (v : AV) : Option Nat := match v with | .sl b _ _ _ => some b | _ => none
@[simp] theorem blk_nil : blk .nilSl = none := rfl
@[simp] theorem blk_sl {b o l c : Nat} : blk (.sl b o l c) = some b := rfl
@[simp] theorem blk_cut {v : AV} {k : Nat} : blk (cutTo v k) = blk v := by cases v <;> rfl
/-- In no common block. -/
def Apart (v w : AV) : Prop := ∀ b, blk v = some b → blk w ≠ some b
theorem Apart.symm {v w : AV} (a : Apart v w) : Apart w v := fun b h1 h2 => a b h2 h1
theorem Apart.nil_left (w : AV) : Apart .nilSl w := fun b h => by simp at h
theorem Apart.nil_right (w : AV) : Apart w .nilSl := fun b _ h => by simp at h

/-- A slice's own block alone was turned; the slice lies in it, or in a new one. -/
structure Touch (v : AV) (h : Heap) (v' : AV) (h' : Heap) : Prop where
  next : h.next ≤ h'.next
  get : ∀ b, b < h.next → blk v ≠ some b → h'.get b = h.get b
  blk : ∀ b, blk v' = some b → h.next ≤ b ∨ blk v = some b

theorem RowP.low {h : Heap} {v : AV} {n len : Nat} {P : Nat → List AV → Prop} (r : RowP h v n len P) {b : Nat} (hb : blk v = some b) : b < h.next := by
  rcases r.shape with ⟨rfl, rfl⟩ | ⟨b', o, cap, rfl, hb', hc, hr⟩
  · simp at hb
  · simp at hb; omega

theorem RowP.get_eq {h h' : Heap} {v : AV} {n len : Nat} {P : Nat → List AV → Prop} (r : RowP h v n len P) (hn : h.next ≤ h'.next) (he : ∀ b, blk v = some b → h'.get b = h.get b) : RowP h' v n len P := by
  rcases r.shape with ⟨rfl, rfl⟩ | ⟨b, o, cap, rfl, hb, hc, hr⟩
  · exact ⟨.inl ⟨rfl, rfl⟩, fun i hi => absurd hi (by omega)⟩
  · have e := he b rfl
    refine ⟨.inr ⟨b, o, cap, rfl, Nat.lt_of_lt_of_le hb hn, hc, by unfold Heap.rowsOf at hr ⊢; rw [e]; exact hr⟩, fun i hi => ?_⟩
    obtain ⟨c, h1, h2⟩ := r.get i hi
    exact ⟨c, by simp only [ldc, elemP] at h1 ⊢; unfold Heap.load at h1 ⊢; rw [e]; exact h1, h2⟩

/-- Another row is left alone. -/
theorem RowP.other {v h v' h'} {w : AV} {n len : Nat} {P : Nat → List AV → Prop} (r : RowP h w n len P) (t : Touch v h v' h') (a : Apart v w) : RowP h' w n len P :=
  r.get_eq t.next fun b hb => t.get b (r.low hb) fun h1 => a b h1 hb

theorem Acc.other {h0 : Heap} {v h v' h'} {w : AV} {n len : Nat} {P : Nat → List AV → Prop} (r : Acc h0 h w n len P) (t : Touch v h v' h') (a : Apart v w) (e : Grow h0 h') : Acc h0 h' w n len P := by
  refine ⟨e, r.row.other t a, ?_⟩
  rcases r.own with rfl | ⟨b, l, cap, cells, size, ty, rfl, h1, h2, h3⟩
  · exact .inl rfl
  · exact .inr ⟨b, l, cap, cells, size, ty, rfl, h1, by rw [t.get b (r.row.low rfl) (fun h4 => a b h4 rfl)]; exact h2, h3⟩

theorem Touch.apart {v h v' h'} {w : AV} {n len : Nat} {P : Nat → List AV → Prop} (t : Touch v h v' h') (r : RowP h w n len P) (a : Apart v w) : Apart v' w := by
  intro b h1 h2
  rcases t.blk b h1 with h3 | h3
  · have := r.low h2; omega
  · exact a b h3 h2

theorem Touch.new {v : AV} {h h' : Heap} {w : AV} (e : Grow h h') (hw : ∀ b, Go.Proofs.Ytofaiipohmeelaa.Am.blk w = some b → h.next ≤ b) : Touch .nilSl h w h' :=
  ⟨e.next, fun b hb _ => e.get b hb, fun b hb => .inl (hw b hb)⟩

theorem Acc.push {h0 h : Heap} {v : AV} {n len : Nat} {P : Nat → List AV → Prop} (a : Acc h0 h v n len P) {cells : List AV} (hl : cells.length = n) (hn : 0 < n) (ha : allOne cells = true) (hP : P len cells) {bytes : Nat} (hb : (len + 1) * bytes ≤ 70368744177664) (ty ty' : TypeId) :
    ∃ v' h', appendA (made h cells n ty) v (srcCells (made h cells n ty) n (.sl h.next 0 1 1)) n bytes ty' = some (v', h') ∧ Acc h0 h' v' n (len + 1) P ∧ Touch v h v' h' := by
  obtain ⟨v', h', e, acc, h1, h2, h3⟩ := a.push_raw hl hn ha hP hb ty ty'
  refine ⟨v', h', e, acc, h1, fun b hb hv => h2 b hb fun o l c e => hv (by rw [e]; rfl), fun b hb => ?_⟩
  cases v' with
  | sl b' o l c =>
    simp at hb
    subst hb
    rcases h3 b' o l c rfl with h4 | ⟨o, l, c, rfl⟩
    · exact .inl h4
    · exact .inr rfl
  | _ => simp [Go.Proofs.Ytofaiipohmeelaa.Am.blk] at hb

/-- Noughts that are appended to nothing. -/
theorem appz_nil (h : Heap) {k : Nat} {zero : List AV} {n bytes : Nat} {ty : TypeId} (hz : zero.length = n) (hn : 0 < n) (ho : allOne zero = true) (hb : k * bytes ≤ 70368744177664) {P : Nat → List AV → Prop} (hP : ∀ i, i < k → P i zero) :
    ∃ v' h', appendA h .nilSl (some (k, manyZeros zero (k * n))) n bytes ty = some (v', h') ∧ Acc h h' v' n k P ∧ Touch .nilSl h v' h' := by
  have hlen : (manyZeros zero (k * n)).length = k * n := by simp [manyZeros]
  have e1 : Nat.beq (manyZeros zero (k * n)).length (k * n) = true := by rw [nbeq]; exact decide_eq_true hlen
  by_cases hk : k = 0
  · subst hk
    have e2 : Nat.beq 0 0 = true := rfl
    simp only [appendA, e1, e2, cond_true]
    exact ⟨_, _, rfl, Acc.nil (Grow.refl h) _ _, ⟨Nat.le_refl _, fun _ _ _ => rfl, fun b hb => by simp at hb⟩⟩
  · have e2 : Nat.beq k 0 = false := by rw [nbeq]; exact decide_eq_false hk
    have e3 : Nat.ble (k * bytes) 70368744177664 = true := Nat.ble_eq_true_of_le hb
    have hget : ∀ j, j < k * n → (manyZeros zero (k * n))[j]? = zero[j % n]? := by
      intro j hj
      have hjn : j % n < zero.length := by rw [hz]; exact Nat.mod_lt _ hn
      simp only [manyZeros, List.getElem?_map, List.getElem?_range hj, Option.map_some]
      rw [List.getElem?_eq_getElem hjn]
      unfold zerosOf
      split
      · rename_i z
        have : n = 1 := hz.symm
        subst this
        simp [Nat.mod_one]
      · rw [hz, List.getElem?_eq_getElem hjn]
        rfl
    have hall : allOne (manyZeros zero (k * n)) = true := by
      rw [allOne_iff]
      intro w hw
      obtain ⟨j, hj⟩ := List.mem_iff_getElem?.1 hw
      have hjlt : j < k * n := by
        rcases Nat.lt_or_ge j (k * n) with h1 | h1
        · exact h1
        · rw [List.getElem?_eq_none (by omega)] at hj; simp at hj
      rw [hget j hjlt] at hj
      exact (allOne_iff _).1 ho _ (List.mem_of_getElem? hj)
    simp only [appendA, e1, e2, e3, hall, Bool.and_self, cond_true, cond_false]
    refine ⟨_, _, rfl, ⟨Grow.new _ _, ⟨.inr ⟨_, _, _, rfl, by rw [Heap.next_new]; omega, Nat.le_refl _, rowsOf_row (by rw [Heap.get_new, if_pos rfl]) rfl⟩, fun i hi => ⟨zero, ?_, hP i hi⟩⟩, .inr ⟨_, _, _, _, _, _, rfl, Nat.le_refl _, by rw [Heap.get_new, if_pos rfl], by omega⟩⟩, ⟨by rw [Heap.next_new]; omega, fun b hb _ => by rw [Heap.get_new, if_neg (by omega)], fun b hb => by simp at hb; omega⟩⟩
    simp only [ldc, elemP, Nat.zero_add]
    have hin : i * n + n ≤ k * n := by
      have : (i + 1) * n ≤ k * n := Nat.mul_le_mul_right _ hi
      rw [Nat.add_mul, Nat.one_mul] at this
      exact this
    have := Heap.load_of (h := h.new (.row (Tr.putList .nil 0 (manyZeros zero (k * n))) (k * n) n true ty)) (b := h.next) (off := i * n) (l := zero) (by rw [Heap.get_new, if_pos rfl]) (by omega) (fun j hj => by
      rw [Tr.get_putList, if_pos (by omega), Nat.sub_zero, hget _ (by omega)]
      congr 1
      rw [Nat.mul_comm, Nat.mul_add_mod, Nat.mod_eq_of_lt (by omega)])
    rw [hz] at this
    exact this

/-- A row of one's own, by 'make'. -/
theorem mkV_ok (h : Heap) {l c : Nat} {zero : List AV} {n bytes : Nat} {ty : TypeId} {k k' : IntKind} (hlc : l ≤ c) (hb : c * bytes ≤ 70368744177664) {P : Nat → List AV → Prop} (hz : ∀ i, i < l → P i zero) (hzn : zero.length = n) (hn : 0 < n) :
    ∃ v' h', mkV h (.int k l) (.int k' c) zero n bytes ty = some (v', h') ∧ Acc h h' v' n l P ∧ Touch .nilSl h v' h' := by
  have e1 : Nat.ble l c = true := Nat.ble_eq_true_of_le hlc
  have e2 : Nat.ble (c * bytes) 70368744177664 = true := Nat.ble_eq_true_of_le hb
  simp only [mkV, asNat_nat, e1, e2, Bool.and_self, cond_true]
  refine ⟨_, _, rfl, ⟨Grow.new _ _, ⟨.inr ⟨_, _, _, rfl, ?_, hlc, ?_⟩, fun i hi => ⟨zero, ?_, hz i hi⟩⟩, .inr ⟨_, _, _, _, _, _, rfl, Nat.le_refl _, by rw [Heap.get_new, if_pos rfl], Nat.le_refl _⟩⟩, ?_⟩
  · rw [Heap.next_new]; omega
  · exact rowsOf_row (by rw [Heap.get_new, if_pos rfl]) rfl
  · simp only [ldc, elemP, Nat.zero_add]
    rw [← hzn]
    have hin : i * zero.length + zero.length ≤ c * zero.length := by
      have : (i + 1) * zero.length ≤ c * zero.length := Nat.mul_le_mul_right _ (by omega)
      rw [Nat.add_mul, Nat.one_mul] at this
      exact this
    refine Heap.load_of (b := h.next) (by rw [Heap.get_new, if_pos rfl]) hin fun j hj => ?_
    rw [Tr.get_tab, if_pos (by omega), List.getElem?_eq_getElem hj]
    unfold zerosOf
    split
    · rename_i z
      simp only [List.length_cons, List.length_nil] at hj ⊢
      obtain rfl : j = 0 := by omega
      rfl
    · rw [Nat.mul_add_mod_self_right, Nat.mod_eq_of_lt hj, List.getElem?_eq_getElem hj]
      rfl
  · exact ⟨by rw [Heap.next_new]; omega, fun b hb _ => by rw [Heap.get_new, if_neg (by omega)], fun b hb => by simp at hb; omega⟩

/-- One element is written anew. -/
theorem Acc.set {h0 h : Heap} {v : AV} {n len : Nat} {P Q : Nat → List AV → Prop} (a : Acc h0 h v n len P) {i : Nat} (hi : i < len) {x : AV} (hl : x.cells.length = n) (ha : allOne x.cells = true) (hq : Q i x.cells) (hk : ∀ j c, j < len → j ≠ i → P j c → Q j c) :
    ∃ h', storeV h (elemP v i n) x n = some (.tup [], h') ∧ Acc h0 h' v n len Q ∧ Touch v h v h' := by
  rcases a.row.shape with ⟨rfl, rfl⟩ | ⟨b, o, cap, rfl, hbn, hc, hr⟩
  · omega
  rcases a.own with h1 | ⟨b', l', cap', oc, size, oty, h1, h2, h3, h4⟩
  · cases h1
  cases h1
  have hbeq : Nat.beq x.cells.length n = true := by rw [nbeq]; exact decide_eq_true hl
  have hin : ∀ j, j < len → j * n + n ≤ size := fun j hj => by
    have : (j + 1) * n ≤ cap * n := Nat.mul_le_mul_right n (by omega)
    rw [Nat.add_mul, Nat.one_mul] at this
    omega
  have hst : h.store b (0 + i * n) x.cells = some (h.turn b (some (.row (oc.putList (0 + i * n) x.cells) size n true oty))) := by
    have e2 : Nat.ble (0 + i * n + x.cells.length) size = true := Nat.ble_eq_true_of_le (by have := hin i hi; omega)
    simp only [Heap.store, h3, e2, ha, Bool.and_self, cond_true]
  simp only [storeV, elemP, hbeq, hst, cond_true, Option.map_some]
  refine ⟨_, rfl, ⟨a.ext.turn h2 _, ⟨.inr ⟨_, _, _, rfl, hbn, hc, rowsOf_row (by rw [Heap.get_turn, if_pos rfl]) rfl⟩, fun j hj => ?_⟩, .inr ⟨_, _, _, _, _, _, rfl, h2, by rw [Heap.get_turn, if_pos rfl], h4⟩⟩, ⟨by rw [Heap.next_turn]; omega, ?_, fun b hb => .inr hb⟩⟩
  · have goal : ∀ (l : List AV), l.length = n → (∀ k, k < n → (oc.putList (0 + i * n) x.cells).get (j * n + k) = l[k]?) → ldc (h.turn b (some (.row (oc.putList (0 + i * n) x.cells) size n true oty))) (elemP (.sl b 0 len cap) j n) n = some l := by
      intro l hll hk
      simp only [ldc, elemP, Nat.zero_add]
      rw [← hll]
      refine Heap.load_of (b := b) (by rw [Heap.get_turn, if_pos rfl]) ?_ fun k hkn => ?_
      · have := hin j hj
        rw [hll]; omega
      · have := hk k (by omega)
        simp only [Nat.zero_add, hll] at this ⊢
        exact this
    by_cases hji : j = i
    · subst hji
      refine ⟨x.cells, goal x.cells hl fun k hk => ?_, hq⟩
      rw [Tr.get_putList, if_pos (by omega)]
      congr 1
      omega
    · obtain ⟨c, hc1, hc2⟩ := a.row.get j hj
      simp only [ldc, elemP, Nat.zero_add] at hc1
      obtain ⟨cs, sz, kk, ow, tyy, g1, g2, g3, g4⟩ := Heap.load_spec hc1
      rw [h3] at g1
      cases g1
      refine ⟨c, goal c g3 fun k hk => ?_, hk j c hj hji hc2⟩
      rw [Tr.get_putList, if_neg]
      · exact g4 k hk
      · rcases Nat.lt_or_gt_of_ne hji with h5 | h5
        · have : (j + 1) * n ≤ i * n := Nat.mul_le_mul_right n h5
          rw [Nat.add_mul, Nat.one_mul] at this
          omega
        · have : (i + 1) * n ≤ j * n := Nat.mul_le_mul_right n h5
          rw [Nat.add_mul, Nat.one_mul] at this
          omega
  · intro c _ hne
    rw [Heap.get_turn, if_neg (fun e => hne (by rw [← e]; rfl))]

end Go.Proofs.Ytofaiipohmeelaa.Am
