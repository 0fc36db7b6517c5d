/-
  The abstract machine: the operations that turn memory.
-/
import Derived.Test.YtofaiipohmeelaaAmApp2
import Derived.Lib.ConvBytes
namespace Go.Proofs.Ytofaiipohmeelaa.Am
variable {P : Program} {base : Nat} {ρ : Mp} {h : Heap} {W : World}

/-- The model's computation ends so, and both memories have gone on alike. -/
def Acts (P : Program) (base : Nat) (ρ : Mp) (h : Heap) (W : World) (s : Sem Next) (v : AV) (h' : Heap) : Prop :=
  ∃ nx v' W' ρ', s.run P W = .ok nx W' ∧ (nx = .value v' ∨ (nx = .skip ∧ v' = undef)) ∧ VR ρ' v v' ∧ Step base ρ h W ρ' h' W'

def ActsV (P : Program) (base : Nat) (ρ : Mp) (h : Heap) (W : World) (s : Sem Value) (v : AV) (h' : Heap) : Prop :=
  ∃ v' W' ρ', s.run P W = .ok v' W' ∧ VR ρ' v v' ∧ Step base ρ h W ρ' h' W'

theorem Acts.of {s : Sem Value} {v : AV} {h' : Heap} (hs : ActsV P base ρ h W s v h') : Acts P base ρ h W (do pure (Next.value (← s))) v h' := by
  obtain ⟨v', W', ρ', h1, h2, h3⟩ := hs
  exact ⟨_, v', W', ρ', by simp [h1], .inl rfl, h2, h3⟩

/-- A row of cells, new on both sides. -/
theorem row_sound (r : Rel base ρ h W) {cells : List AV} {cells' : Array Value} {n b : Nat} {ty ty' : TypeId} {h' : Heap} (hc : VRs ρ cells cells'.toList) (e : h.row cells n ty = some (b, h')) :
    ∃ g, (ρ.put h.next g) b = some g ∧ g.blk = W.heap.size ∧ g.off = 0 ∧ g.n = n ∧ g.csize = cells'.size ∧ b = h.next ∧ Step base ρ h W (ρ.put h.next g) h' (W.alloc (.cells cells' ty')) := by
  unfold Heap.row at e
  cases ho : allOne cells with
  | false => simp [ho] at e
  | true =>
    simp only [ho, cond_true, Option.some.injEq, Prod.mk.injEq] at e
    obtain ⟨rfl, rfl⟩ := e
    have hl := hc.length
    simp only [Array.length_toList] at hl
    refine ⟨⟨W.heap.size, 0, true, n, cells'.size⟩, Mp.put_self _ _ _, rfl, rfl, rfl, rfl, rfl, step_new r ⟨rfl, ⟨rfl, rfl, rfl⟩⟩ rfl rfl ?_⟩
    refine ⟨rfl, rfl, cells', ty', (0, 0), ?_, rfl, by simp only [Nat.zero_add]; omega, fun _ => ⟨fun i _ => by simp, fun _ => rfl⟩, fun i v hi hv => ?_⟩
    · show (W.heap.push _)[W.heap.size]? = _
      rw [Array.getElem?_push_size]
    · rw [Tr.get_putList, if_pos (by omega)] at hv
      obtain ⟨v', w1, w2⟩ := hc.get _ _ hv
      rw [Array.getElem?_toList] at w1
      exact ⟨v', by simpa using w1, VR.mono (r.le_put _) _ _ w2⟩

theorem acts_alloc (r : Rel base ρ h W) {e : TypeId} {zs : List AV} {b : Nat} {h' : Heap} (hz : tZero P e = some zs) (hr : h.row zs 0 e = some (b, h')) :
    ActsV P base ρ h W (Instr.alloc e true (.tuple #[])) (.ptr b 0) h' := by
  obtain ⟨i, z, hi, hiz, hzr, _⟩ := zero_cells hz ρ
  obtain ⟨g, g1, g2, g3, g4, g5, rfl, st⟩ := row_sound (ty' := e) r hzr hr
  refine ⟨.pointer (some ⟨W.heap.size, 0, none⟩), _, _, ?_, ⟨g, g1, by rw [g2, g3]⟩, st⟩
  simp [Instr.alloc, zeroValue, typeInfo, hi, hiz, newVar, newRow]

theorem acts_box (r : Rel base ρ h W) {e : TypeId} {x : AV} {x' : Value} {b : Nat} {h' : Heap} (hx : VR ρ x x') (hr : h.row x.cells 0 e = some (b, h')) :
    ActsV P base ρ h W (Instr.box e x') (.ptr b 0) h' := by
  have ho : allOne x.cells = true := by
    unfold Heap.row at hr
    cases ho : allOne x.cells with
    | false => simp [ho] at hr
    | true => rfl
  obtain ⟨g, g1, g2, g3, g4, g5, rfl, st⟩ := row_sound (ty' := e) r (VR.cells hx ho) hr
  refine ⟨.pointer (some ⟨W.heap.size, 0, none⟩), _, _, ?_, ⟨g, g1, by rw [g2, g3]⟩, st⟩
  simp [Instr.box, newVar, newRow]

theorem acts_buildSl (r : Rel base ρ h W) {t e : TypeId} {n len : Nat} {z : List AV} {parts : Array (Nat × Operand)} {ps : List (Nat × Nat × AX)} {cells : List AV} {env : AX → AV} {a : Operand → Value} {b : Nat} {h' : Heap}
    (hu : P.underlying t = some (.slice e)) (hn : tSize P e = some n) (hz : tZero P e = some z) (hp : cPlaces P t parts.toList = some ps) (hbig : ¬ (len * n > 2 ^ 24 ∨ n = 0))
    (he : ∀ x ∈ parts.toList.map (·.2), ∀ ax, cX x = some ax → VR ρ (env ax) (a x)) (ef : fillA (manyZeros z (len * n)) (fillEnv env ps) = some cells) (hlen : cells.length = len * n)
    (hr : h.row cells n e = some (b, h')) : ActsV P base ρ h W (Instr.buildSlice t len (parts.map fun (i, x) => (i, a x))) (.sl b 0 len len) h' := by
  obtain ⟨i, zv, hi, hiz, hzr, _⟩ := zero_cells hz ρ
  have hpl : (parts.map fun (i, x) => (i, a x)).toList = parts.toList.map fun p => (p.1, a p.2) := by simp
  have hz2 : VRs ρ (manyZeros z (len * n)) ((Array.range (len * n)).map ((if len * n = 0 then #[] else zv.cells)[· % (if len * n = 0 then #[] else zv.cells).size]!)).toList := by
    by_cases h0 : len * n = 0
    · rw [h0]; simp [manyZeros, VRs]
    · simp only [h0, if_false]; exact manyZeros_sound hzr _
  obtain ⟨cells', h4, h5⟩ := fill_places (P := P) (t := t) (place := fun i => some (i * n, n)) (fun i p hpi => by
    simp only [placeOf, hu, hn, Option.map_some] at hpi; exact hpi) hp he hz2 ef
  obtain ⟨g, g1, g2, g3, g4, g5, rfl, st⟩ := row_sound (ty' := e) r h5 hr
  have hl5 := h5.length
  simp only [Array.length_toList] at hl5
  refine ⟨.slice (some ⟨W.heap.size, 0, none⟩) len len, _, _, ?_, ⟨_, _, rfl, .inl ⟨g, g1, by rw [g2, g3], Nat.le_refl _, fun _ => .inr (by rw [g3, g4, g5]; omega)⟩⟩, st⟩
  have hb : ¬ (len * n > 2 ^ 24) := fun hh => hbig (.inl hh)
  have hzv : (zeroValue e).run P W = .ok zv W := by simp [zeroValue, typeInfo, hi, hiz]
  by_cases h0 : len * n = 0
  · simp only [h0, if_true] at h4
    simp only [Instr.buildSlice, Sem.run_bind, run_underlying hu, run_sizeOf hn, Result.andThen_ok, Sem.run_ite, Sem.run_pure, h0, if_true, hpl, h4, newRow, run_newObj]
    rfl
  · simp only [h0, if_false] at h4
    simp only [Instr.buildSlice, Sem.run_bind, run_underlying hu, run_sizeOf hn, Result.andThen_ok, Sem.run_ite, hb, if_false, Sem.run_pure, h0, hzv, hpl, h4, newRow, run_newObj]
    rfl

theorem acts_store (r : Rel base ρ h W) {t : TypeId} {b o n : Nat} {g : G} {x : AV} {x' : Value} {h' : Heap} (hg : ρ b = some g) (hx : VR ρ x x') (hn : tSize P t = some n) (hl : x.cells.length = n)
    (e : h.store b o x.cells = some h') : ∃ W', (Instr.storeAt t (.pointer (some ⟨g.blk, g.off + o, none⟩)) x').run P W = .ok () W' ∧ Step base ρ h W ρ h' W' := by
  have ho : allOne x.cells = true := by
    unfold Heap.store at e
    split at e
    · rename_i cells size k own ty hb
      cases hc : (own && Nat.ble (o + x.cells.length) size && allOne x.cells) with
      | false => simp [hc] at e
      | true => simp only [Bool.and_eq_true] at hc; exact hc.2
    · simp at e
  have hcs := VR.cells hx ho
  obtain ⟨W', w1, w2, _⟩ := store_sound (P := P) r hg hcs e
  have hlen := hcs.length
  simp only [Array.length_toList] at hlen
  refine ⟨W', ?_, w2⟩
  have hne : ¬ (x'.cells.size ≠ n) := by omega
  simp [Instr.storeAt, Instr.sureAddr, storeVar, run_sizeOf hn, hne, w1]

theorem run_makeSlice' {t e : TypeId} {n bytes l c : Nat} {k k' : IntKind} {i : TypeInfo} {zv : Value} (hu : P.underlying t = some (.slice e)) (hi : P.info? e = some i) (hsz : i.size = n) (hby : i.bytes = bytes) (hz : i.zero = some zv)
    (hlc : l ≤ c) (hb : c * bytes ≤ 70368744177664) (hcb : c < 9223372036854775808) (W : World) :
    (Instr.makeSlice t (.int k (l : Int)) (.int k' (c : Int))).run P W = .ok (.slice (some ⟨W.heap.size, 0, none⟩) l c)
      (W.alloc (.cells ((Array.range (c * n)).map ((if c * n = 0 then #[] else zv.cells)[· % (if c * n = 0 then #[] else zv.cells).size]!)) e)) := by
  have hw : ∀ m : Nat, m < 9223372036854775808 → IntKind.i64.wrap (m : Int) = (m : Int) := by
    intro m hm
    rw [← wrapK_eq]; simp only [wrapK]; rw [show ((m : Int) % 18446744073709551616) = (m : Int) from by omega]; rw [show (Int.decLt (m : Int) 9223372036854775808).decide = true from by simp; omega]; rfl
  have hbb : ¬ (281474976710656 < (i.bytes : Int) * (c : Int)) := by
    have : ((c * i.bytes : Nat) : Int) ≤ 70368744177664 := by rw [hby]; omega
    rw [Int.natCast_mul, Int.mul_comm] at this
    omega
  have h1 : ¬ ((c : Int) < 0) := by omega
  have h2 : ¬ ((l : Int) < 0) := by omega
  have h3 : ¬ ((c : Int) < (l : Int)) := by omega
  by_cases h0 : c * n = 0
  · simp [Instr.makeSlice, run_underlying hu, asInt, asIntOf, typeInfo, sizeOf, hi, hw l (by omega), hw c hcb, hbb, h1, h2, h3, hsz, h0, newRow]
  · simp [Instr.makeSlice, run_underlying hu, asInt, asIntOf, typeInfo, sizeOf, zeroValue, hi, hz, hw l (by omega), hw c hcb, hbb, h1, h2, h3, hsz, h0, newRow]

theorem acts_mkSl (r : Rel base ρ h W) {t e : TypeId} {n bytes l c : Nat} {x y : AV} {x' y' : Value} {z : List AV} (hu : P.underlying t = some (.slice e)) (hn : tSize P e = some n) (hby : tBytes P e = some bytes) (hz : tZero P e = some z) (hb0 : bytes ≠ 0)
    (hx : VR ρ x x') (hy : VR ρ y y') (ex : asNat x = some l) (ey : asNat y = some c) (hlc : l ≤ c) (hb : c * bytes ≤ 70368744177664) :
    ActsV P base ρ h W (Instr.makeSlice t x' y') (.sl h.next 0 l c) (h.new (.row (Tr.tab (c * n) (zerosOf z)) (c * n) n true e)) := by
  obtain ⟨i, zv, hi, hiz, hzr, _⟩ := zero_cells hz ρ
  have hxx : ∃ k, x' = .int k (l : Int) := by
    unfold asNat at ex; split at ex
    · split at ex
      · simp only [Option.some.injEq] at ex; subst ex; simp only [VR] at hx; exact ⟨_, hx⟩
      · simp at ex
    · simp at ex
  have hyy : ∃ k, y' = .int k (c : Int) := by
    unfold asNat at ey; split at ey
    · split at ey
      · simp only [Option.some.injEq] at ey; subst ey; simp only [VR] at hy; exact ⟨_, hy⟩
      · simp at ey
    · simp at ey
  obtain ⟨k, rfl⟩ := hxx
  obtain ⟨k', rfl⟩ := hyy
  have hs : i.size = n := by simp only [tSize, hi, Option.map_some, Option.some.injEq] at hn; exact hn
  have hbs : i.bytes = bytes := by simp only [tBytes, hi, Option.map_some, Option.some.injEq] at hby; exact hby
  have hcb : c ≤ c * bytes := Nat.le_mul_of_pos_right _ (by omega)
  have hrun := run_makeSlice' (k := k) (k' := k') hu hi hs hbs hiz hlc hb (by omega) W
  refine ⟨_, _, ρ.put h.next ⟨W.heap.size, 0, true, n, c * n⟩, hrun, ⟨_, _, rfl, .inl ⟨_, Mp.put_self _ _ _, rfl, Nat.le_refl _, fun _ => .inr (by simp)⟩⟩, step_new r ⟨rfl, ⟨rfl, rfl, rfl⟩⟩ rfl rfl ?_⟩
  refine ⟨rfl, rfl, (Array.range (c * n)).map (fun x => (if c * n = 0 then #[] else zv.cells)[x % (if c * n = 0 then #[] else zv.cells).size]!), e, (0, 0), ?_, by simp, by simp, fun _ => ⟨fun i _ => by simp, fun _ => rfl⟩, fun j v hj hv => ?_⟩
  · show (W.heap.push _)[W.heap.size]? = _
    rw [Array.getElem?_push_size]
  · rw [Tr.get_tab, if_pos hj] at hv
    simp only [Option.some.injEq] at hv; subst hv
    have h0 : ¬ c * n = 0 := by omega
    refine ⟨_, by simp only [Nat.zero_add, Array.getElem?_map, Array.getElem?_range, hj, if_true, Option.map_some]; rfl, ?_⟩
    simp only [h0, if_false]
    exact VR.mono (r.le_put _) _ _ (zeros_sound hzr j)

theorem acts_strToBytes (r : Rel base ρ h W) {src dst e : TypeId} {s : List Nat} {x' : Value} {b : Nat} {h' : Heap} (hs : P.underlying src = some .string) (hd : P.underlying dst = some (.slice e)) (he : P.underlying e = some (.int .u8))
    (hx : VR ρ (.str s) x') (hr : h.row (s.map AV.byte) 1 e = some (b, h')) : ActsV P base ρ h W (convert src dst x') (.sl b 0 s.length s.length) h' := by
  simp only [VR] at hx
  obtain ⟨t, rfl, rfl⟩ := hx
  unfold Heap.row at hr
  cases ho : allOne ((t.data.toList.map (·.toNat)).map AV.byte) with
  | false => simp only [ho] at hr; simp at hr
  | true =>
    simp only [ho, cond_true, Option.some.injEq, Prod.mk.injEq] at hr
    obtain ⟨rfl, rfl⟩ := hr
    have hcap : t.size ≤ grownCap W t.size 0 e := newCap_ge W t.size 0 e
    have harr : (Lib.bytesCells W e t).size = grownCap W t.size 0 e := by
      simp only [Lib.bytesCells, Array.size_append, Array.size_map, Array.size_replicate, ByteArray.size_data]; omega
    have hheap : (Lib.bytesWorld W e t).heap = W.heap.push (.cells (Lib.bytesCells W e t) e ((Lib.bytesCells W e t).size, (Lib.bytesCells W e t).size + 1)) := by
      apply Array.ext_getElem?
      intro j
      rcases Nat.lt_trichotomy j W.heap.size with hj | hj | hj
      · rw [Lib.bytesWorld_at_old _ _ _ _ hj, Array.getElem?_push_lt hj, Array.getElem?_eq_getElem hj]
      · subst hj; rw [Lib.bytesWorld_at_new, Array.getElem?_push_size]
      · rw [Array.getElem?_eq_none (by rw [Lib.bytesWorld_size]; omega), Array.getElem?_eq_none (by simp; omega)]
    have hsame : (Lib.bytesWorld W e t).tape = W.tape ∧ (Lib.bytesWorld W e t).os = W.os ∧ (Lib.bytesWorld W e t).output = W.output := by
      unfold Lib.bytesWorld World.freeze; split <;> exact ⟨rfl, rfl, rfl⟩
    have hbc := byte_cells (ρ := ρ) t
    refine ⟨_, _, ρ.put h.next ⟨W.heap.size, 0, true, 1, grownCap W t.size 0 e⟩, Lib.run_convert_string_bytes W src dst e t hs hd he,
      ⟨⟨W.heap.size, 0, none⟩, _, by simp; rfl, .inl ⟨_, Mp.put_self _ _ _, rfl, by simpa using hcap, fun _ => .inr (by simp)⟩⟩, step_new r ⟨hheap, hsame⟩ rfl rfl ?_⟩
    refine ⟨rfl, rfl, _, e, _, Lib.bytesWorld_at_new W e t, harr, ?_, fun _ => ⟨fun i hi => by simp; omega, fun hh => by simp at hh⟩, fun i v hi hv => ?_⟩
    · simp only [List.length_map, Array.length_toList, ByteArray.size_data, Nat.zero_add]; exact hcap
    · rw [Tr.get_putList, if_pos (by omega)] at hv
      obtain ⟨v', w1, w2⟩ := hbc.get _ _ hv
      have hlt : i < t.size := by simpa using hi
      refine ⟨v', ?_, VR.mono (r.le_put _) _ _ w2⟩
      simp only [Nat.zero_add, Lib.bytesCells, Nat.sub_zero] at w1 ⊢
      rw [Array.getElem?_append_left (by simpa using hlt), ← Array.getElem?_toList, Array.toList_map]; exact w1

theorem acts_copy (r : Rel base ρ h W) {args : Array TypeId} {ty dt el : TypeId} {n : Nat} {d s v : AV} {d' s' : Value} {h' : Heap} (h1 : args[0]? = some dt) (h2 : P.underlying dt = some (.slice el)) (hn : tSize P el = some n)
    (e : (match d with
      | .nilSl => (match srcCells h n s with | some _ => some (AV.int .i64 0, h) | none => none)
      | .sl b o len _ =>
        (match (match s with | .nilSl => some 0 | .sl _ _ l _ => some l | .str s => some s.length | _ => none : Option Nat) with
        | none => none
        | some m =>
          cond (Nat.beq (min m len) 0) (some (.int .i64 0, h)) (match (match s with
            | .sl b' o' _ _ => h.load b' o' (min m len * n)
            | .str s => some ((s.take (min m len)).map AV.byte)
            | _ => some []) with
            | some cells => (h.store b o cells).map fun h' => (.int .i64 (min m len : Nat), h')
            | none => none))
      | _ => none) = some (v, h')) (hd : VR ρ d d') (hs : VR ρ s s') : ActsV P base ρ h W (Builtin.copy_ args ty #[d', s']) v h' := by
  cases d <;> simp only [reduceCtorEq] at e
  case nilSl =>
    cases hsrc : srcCells h n s with
    | none => simp [hsrc] at e
    | some p =>
      obtain ⟨m, new⟩ := p
      simp only [hsrc, Option.some.injEq, Prod.mk.injEq] at e
      obtain ⟨rfl, rfl⟩ := e
      obtain ⟨k1, new', k2, _⟩ := src_sound (P := P) r hs hsrc
      simp only [VR] at hd; subst hd
      have k3 : (Builtin.firstCells n 0 s').run P W = .ok #[] W := by
        cases s <;> simp only [srcCells, reduceCtorEq] at hsrc
        · simp only [VR] at hs; obtain ⟨t, rfl, _⟩ := hs; simp [Builtin.firstCells]
        · simp only [VR] at hs; obtain ⟨a, c', rfl, _⟩ := hs; simp [Builtin.firstCells, loadCells, loadCellsFrom]
        · simp only [VR] at hs; subst hs; simp [Builtin.firstCells]
      refine ⟨.int .i64 0, W, ρ, ?_, by simp [VR], Step.refl r⟩
      simp [Builtin.copy_, h1, run_underlying h2, k1, run_sizeOf hn, k3, goInt]
  case sl b o len cap =>
    simp only [VR] at hd
    obtain ⟨a, c', rfl, hd⟩ := hd
    have main : ∃ m0, (match s with | .nilSl => some 0 | .sl _ _ l _ => some l | .str s => some s.length | _ => none : Option Nat) = some m0 ∧ (∀ W, (Builtin.lenOf s').run P W = .ok m0 W) ∧ (Builtin.firstCells n 0 s').run P W = .ok #[] W ∧
        (min m0 len ≠ 0 → ∀ cells, (match s with
            | .sl b' o' _ _ => h.load b' o' (min m0 len * n)
            | .str s => some ((s.take (min m0 len)).map AV.byte)
            | _ => some []) = some cells → ∃ cells', (Builtin.firstCells n (min m0 len) s').run P W = .ok cells' W ∧ VRs ρ cells cells'.toList) := by
      cases s <;> simp only [reduceCtorEq] at e
      case str t0 =>
        simp only [VR] at hs; obtain ⟨t, rfl, rfl⟩ := hs
        refine ⟨_, rfl, fun W => by simp [Builtin.lenOf], by simp [Builtin.firstCells], fun hm cells hcs => ?_⟩
        simp only [Option.some.injEq] at hcs; subst hcs
        refine ⟨_, by simp only [Builtin.firstCells, Sem.run_pure]; rfl, ?_⟩
        have hb := (byte_cells (ρ := ρ) t).take (min (t.data.toList.map (·.toNat)).length len)
        rw [← List.map_take] at hb
        have : ((t.extract 0 (min (t.data.toList.map (·.toNat)).length len)).data.map fun b => Value.int .u8 b.toNat).toList = (t.data.toList.map fun b => Value.int .u8 (b.toNat : Int)).take (min (t.data.toList.map (·.toNat)).length len) := by
          rw [Array.toList_map, ByteArray.data_extract, Array.toList_extract, List.extract_eq_take_drop, ← List.map_take]; simp
        rw [this]; exact hb
      case sl b' o' l' c'' =>
        simp only [VR] at hs; obtain ⟨a1, c1, rfl, hs⟩ := hs
        refine ⟨_, rfl, fun W => by simp [Builtin.lenOf], by simp [Builtin.firstCells, loadCells, loadCellsFrom], fun hm cells hcs => ?_⟩
        rcases hs with ⟨g, hg, rfl, _, _⟩ | ⟨rfl, _, _⟩
        · obtain ⟨l1, k1, k2⟩ := run_loadCells (P := P) r hg hcs
          exact ⟨l1, by simp only [Builtin.firstCells, k1], k2⟩
        · exact absurd (by simp) hm
      case nilSl =>
        simp only [VR] at hs; subst hs
        exact ⟨_, rfl, fun W => by simp [Builtin.lenOf], by simp [Builtin.firstCells], fun hm => absurd (by simp) hm⟩
    obtain ⟨m0, hm0, hlen, hf0, hcell⟩ := main
    rw [hm0] at e
    simp only [] at e
    have hmin : Nat.min m0 len = min m0 len := rfl
    by_cases hz : min m0 len = 0
    · simp only [hz, Nat.beq_refl, cond_true, Option.some.injEq, Prod.mk.injEq] at e
      obtain ⟨rfl, rfl⟩ := e
      refine ⟨.int .i64 0, W, ρ, ?_, by simp [VR], Step.refl r⟩
      simp [Builtin.copy_, h1, run_underlying h2, hlen, run_sizeOf hn, hmin, hz, hf0, goInt, storeCells]
    · have hb : Nat.beq (min m0 len) 0 = false := by rw [nbeq]; simpa using hz
      rw [hb] at e
      simp only [cond_false] at e
      split at e
      · rename_i cells hcs
        obtain ⟨cells', k1, k2⟩ := hcell hz cells hcs
        simp only [Option.map_eq_some_iff, Prod.mk.injEq] at e
        obtain ⟨h1', he, rfl, rfl⟩ := e
        rcases hd with ⟨g, hg, rfl, _, _⟩ | ⟨rfl, _, _⟩
        · obtain ⟨W', w1, w2, _⟩ := store_sound (P := P) r hg k2 he
          refine ⟨.int .i64 (min m0 len : Nat), W', ρ, ?_, by simp [VR], w2⟩
          simp only [Builtin.copy_, h1, run_underlying h2, hlen, run_sizeOf hn, hmin, k1, w1, goInt, Sem.run_bind, Result.andThen_ok, Sem.run_pure, List.getElem?_toArray, List.getElem?_cons_zero, List.getElem?_cons_succ]
        · exact absurd (by simp) hz
      · simp at e

theorem acts_upd (r : Rel base ρ h W) {t kt el : TypeId} {td : TypeDesc} {s : Sh} {b : Nat} {g : G} {es : List (AV × AV)} {k v : AV} {k' v' : Value} (ht : P.underlying t = some (.map kt el)) (hu : P.underlying kt = some td)
    (hs : ShOk P true td s) (hks : keySh s) (hb : h.get b = some (.map es)) (hg : ρ b = some g) (hk : VR ρ k k') (hv : VR ρ v v') (hf : findKey h s k es = some none) :
    ∃ W', (Instr.mapUpdate t (.map (some g.blk)) k' v').run P W = .ok () W' ∧ Step base ρ h W ρ (h.turn b (some (.map (es ++ [(k, v)])))) W' := by
  obtain ⟨es', clock, hW, he⟩ := r.blk b _ g hb hg
  obtain ⟨q', h1, h2⟩ := findKey_sound r hu hs hk he hf
  have hlt := (Array.getElem?_eq_some_iff.1 hW).1
  cases q' with
  | some p => exact h2.elim
  | none =>
    refine ⟨{ W with heap := W.heap.setIfInBounds g.blk (.map (es'.push { key := k', val := v', born := clock }) (clock + 1)) }, ?_, step_turn r hb hg rfl rfl ⟨rfl, ⟨rfl, rfl, rfl⟩⟩ ?_⟩
    · have hobj : (getObj g.blk).run P W = .ok (.map es' clock) W := by simp [getObj, Sem.run, hW]
      have hset : ∀ o, (setObj g.blk o).run P W = .ok () { W with heap := W.heap.setIfInBounds g.blk o } := fun o => by simp [setObj, Sem.run, hW]
      simp only [Instr.mapUpdate, Sem.run_bind, run_underlying ht, Result.andThen_ok, hobj, run_checkKey hu hs hks, h1, hset]
    · refine ⟨es'.push { key := k', val := v', born := clock }, clock + 1, by simp [Array.getElem?_setIfInBounds_self_of_lt hlt], ?_⟩
      have app : ∀ (l : List (AV × AV)) (l' : List MapEntry), ERs ρ l l' → ERs ρ (l ++ [(k, v)]) (l' ++ [{ key := k', val := v', born := clock }]) := by
        intro l
        induction l with
        | nil => intro l' hl; simp only [ERs] at hl; subst hl; exact ⟨_, _, rfl, hk, hv, rfl⟩
        | cons x xs ih =>
          intro l' hl
          simp only [ERs] at hl
          obtain ⟨w, ws, rfl, a1, a2, a3⟩ := hl
          exact ⟨w, _, rfl, a1, a2, ih ws a3⟩
      rw [Array.toList_push]; exact app _ _ he

theorem acts_mkMap (r : Rel base ρ h W) {t : TypeId} {rs : Option Value} (hrs : ∀ x, rs = some x → (∃ k e, P.underlying t = some (.map k e)) ∧ ∃ k n, x = .int k n) :
    ActsV P base ρ h W (Instr.makeMap t rs) (.map h.next) (h.new (.map [])) := by
  refine ⟨.map (some W.heap.size), W.alloc (.map #[] 0), ρ.put h.next ⟨W.heap.size, 0, true, 0, 0⟩, ?_, ⟨_, Mp.put_self _ _ _, rfl⟩, step_new r ⟨rfl, ⟨rfl, rfl, rfl⟩⟩ rfl rfl ?_⟩
  · cases rs with
    | none => simp [Instr.makeMap]
    | some x =>
      obtain ⟨⟨k, e, hu⟩, ik, n, rfl⟩ := hrs x rfl
      simp [Instr.makeMap, run_underlying hu, asInt, asIntOf]
  · refine ⟨#[], 0, ?_, rfl⟩
    show (W.heap.push _)[W.heap.size]? = _
    rw [Array.getElem?_push_size]

end Go.Proofs.Ytofaiipohmeelaa.Am
