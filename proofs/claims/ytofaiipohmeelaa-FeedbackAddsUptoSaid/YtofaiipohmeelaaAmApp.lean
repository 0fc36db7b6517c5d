/-
  The abstract machine: append.
-/
import Derived.Test.YtofaiipohmeelaaAmMem
namespace Go.Proofs.Ytofaiipohmeelaa.Am
variable {P : Program} {base : Nat} {ρ : Mp} {h : Heap} {W : World}

theorem byte_cells (s : ByteArray) : VRs ρ ((s.data.toList.map (·.toNat)).map AV.byte) (s.data.toList.map fun b => Value.int .u8 b.toNat) := by
  rw [List.map_map]
  exact VRs.map fun b _ => by simp [VR, AV.byte]

theorem run_loadCells2 (r : Rel base ρ h W) {b off n : Nat} {g : G} {l : List AV} (hg : ρ b = some g) (e : h.load b off n = some l) :
    ∃ l' : Array Value, (∀ W2 : World, W2.heap = W.heap → (loadCells ⟨g.blk, g.off + off, none⟩ n).run P W2 = .ok l' W2) ∧ VRs ρ l l'.toList := by
  obtain ⟨l', h1, h2, h3⟩ := load_cells r hg e
  refine ⟨l'.toArray, fun W2 hW => ?_, by simpa using h2⟩
  unfold loadCells
  have hcell : ∀ a, W2.cell? a = W.cell? a := fun a => by unfold World.cell?; rw [hW]
  have := run_loadCellsFrom (P := P) (W := W2) (blk := g.blk) (off := g.off + off) n 0 l' #[] h1 (fun j hj => by rw [hcell]; simpa using h3 j hj)
  simpa using this

/-- What is appended, on both sides. -/
theorem src_sound (r : Rel base ρ h W) {x : AV} {x' : Value} {n m : Nat} {new : List AV} (hx : VR ρ x x') (e : srcCells h n x = some (m, new)) :
    (∀ W, (Builtin.lenOf x').run P W = .ok m W) ∧ ∃ new', (∀ W2 : World, W2.heap = W.heap → (Builtin.firstCells n m x').run P W2 = .ok new' W2) ∧ VRs ρ new new'.toList ∧ (new.length = m * n ∨ ∃ s, x = .str s ∧ new.length = m) := by
  cases x <;> simp only [srcCells, reduceCtorEq] at e
  case nilSl =>
    simp only [Option.some.injEq, Prod.mk.injEq] at e
    obtain ⟨rfl, rfl⟩ := e
    simp only [VR] at hx; subst hx
    exact ⟨fun W => by simp [Builtin.lenOf], #[], fun _ _ => by simp [Builtin.firstCells], rfl, .inl (by simp)⟩
  case sl b o l c =>
    simp only [Option.map_eq_some_iff, Prod.mk.injEq] at e
    obtain ⟨l0, hl, rfl, rfl⟩ := e
    simp only [VR] at hx
    obtain ⟨a, c', rfl, hx⟩ := hx
    refine ⟨fun W => by simp [Builtin.lenOf], ?_⟩
    rcases hx with ⟨g, hg, rfl, _, _⟩ | ⟨rfl, _, _⟩
    · obtain ⟨l', h1, h2⟩ := run_loadCells2 (P := P) r hg hl
      obtain ⟨_, _, _, _, _, _, _, h3, _⟩ := Heap.load_spec hl
      exact ⟨l', fun W2 hW => by simp [Builtin.firstCells, h1 W2 hW], h2, .inl h3⟩
    · obtain ⟨_, _, _, _, _, _, _, h3, _⟩ := Heap.load_spec hl
      have : l0 = [] := List.eq_nil_of_length_eq_zero (by simpa using h3)
      subst this
      exact ⟨#[], fun _ _ => by simp [Builtin.firstCells, loadCells, loadCellsFrom], rfl, .inl (by simp)⟩
  case str s =>
    simp only [Option.some.injEq, Prod.mk.injEq] at e
    obtain ⟨rfl, rfl⟩ := e
    simp only [VR] at hx
    obtain ⟨t, rfl, rfl⟩ := hx
    refine ⟨fun W => by simp [Builtin.lenOf], ⟨_, fun _ _ => by simp only [Builtin.firstCells, Sem.run_pure]; rfl, ?_, .inr ⟨_, rfl, by simp⟩⟩⟩
    have this : (t.extract 0 (t.data.toList.map (·.toNat)).length).data.toList = t.data.toList := by
      rw [ByteArray.data_extract, Array.toList_extract, List.extract_eq_take_drop]
      exact (List.take_of_length_le (by simp)).trans (by simp)
    rw [Array.toList_map, this]
    exact byte_cells t

theorem growBy_le : ∀ (k c n : Nat), 256 ≤ c → c < n → Builtin.growBy n k c ≤ 2 * n
  | 0, c, n, _, h2 => by simp [Builtin.growBy]; omega
  | k + 1, c, n, h1, h2 => by
    simp only [Builtin.growBy]
    rw [if_neg (by omega)]
    by_cases h3 : c + (c + 768) / 4 < n
    · exact growBy_le k _ n (by omega) h3
    · cases k with
      | zero => simp [Builtin.growBy]; omega
      | succ k => simp only [Builtin.growBy]; rw [if_pos (by omega)]; omega

theorem nextcap_le {need c : Nat} (h : c < need) : Builtin.nextslicecap need c ≤ 2 * need := by
  unfold Builtin.nextslicecap
  split
  · omega
  · split
    · omega
    · exact growBy_le 4 c need (by omega) h

theorem zeroCells_size (z : Array Value) (n : Nat) : (Builtin.zeroCells z n).size = n * z.size := by simp [Builtin.zeroCells]

/-- The room is there: the source is stored behind the slice. -/
theorem run_append_in {args : Array TypeId} {ty st xt el : TypeId} {d : TypeDesc} {n l c m : Nat} {a : Option Addr} {x : Value} {new : Array Value} {W' : World}
    (h1 : args[0]? = some st) (h2 : P.underlying st = some (.slice el)) (h3 : args[1]? = some xt) (h4 : P.underlying xt = some d) (hn : tSize P el = some n)
    (hd : (∃ e, d = .slice e) ∨ d = .string) (hl : (Builtin.lenOf x).run P W = .ok m W) (hf : (Builtin.firstCells n m x).run P W = .ok new W)
    (hfit : l + m ≤ c) (hs : (∀ b, a = some b → (storeCells (b.add (l * n)) new.toList).run P W = .ok () W') ∧ (a = none → W' = W)) :
    (Builtin.append_ args ty #[.slice a l c, x]).run P W = .ok (.slice a (l + m) c) W' := by
  cases a with
  | none =>
    obtain rfl := hs.2 rfl
    rcases hd with ⟨e, rfl⟩ | rfl <;> simp [Builtin.append_, h1, h3, run_underlying h2, run_underlying h4, run_sizeOf hn, hl, hfit, hf]
  | some a =>
    have hs := hs.1 a rfl
    rcases hd with ⟨e, rfl⟩ | rfl <;> simp [Builtin.append_, h1, h3, run_underlying h2, run_underlying h4, run_sizeOf hn, hl, hfit, hf, hs]

/-- The zeros that `append(s, make(..)...)` lays. -/
def zerosNew (z : Array Value) (n m : Nat) : Array Value := if m * n = 0 then #[] else Builtin.zeroCells z m

theorem run_appendz_in {args : Array TypeId} {ty st xt el : TypeId} {ik k : IntKind} {n l c m : Nat} {a : Option Addr} {i : TypeInfo} {z : Value} {W' : World}
    (h1 : args[0]? = some st) (h2 : P.underlying st = some (.slice el)) (h3 : args[1]? = some xt) (h4 : P.underlying xt = some (.int ik)) (hn : tSize P el = some n)
    (hi : P.info? el = some i) (hz : i.zero = some z) (hb : m * i.bytes ≤ 70368744177664) (hm : m < 9223372036854775808)
    (hfit : l + m ≤ c) (hs : (∀ b, a = some b → (storeCells (b.add (l * n)) (zerosNew z.cells n m).toList).run P W = .ok () W') ∧ (a = none → W' = W)) :
    (Builtin.append_ args ty #[.slice a l c, .int k (m : Int)]).run P W = .ok (.slice a (l + m) c) W' := by
  have hw : IntKind.i64.wrap (m : Int) = (m : Int) := by rw [← wrapK_eq]; simp only [wrapK]; rw [show ((m : Int) % 18446744073709551616) = (m : Int) from by omega]; rw [show (Int.decLt (m : Int) 9223372036854775808).decide = true from by simp; omega]; rfl
  have hnn : ¬ ((m : Int) < 0) := by omega
  have hbb : ¬ (281474976710656 < (m : Int) * (i.bytes : Int)) := by
    have : ((m * i.bytes : Nat) : Int) ≤ 70368744177664 := by omega
    rw [Int.natCast_mul] at this
    omega
  cases a with
  | none =>
    obtain rfl := hs.2 rfl
    by_cases hz0 : m * n = 0
    · simp [Builtin.append_, h1, h3, run_underlying h2, run_underlying h4, run_sizeOf hn, typeInfo, hi, hw, hnn, hbb, hfit, asInt, asIntOf, hz0]
    · simp [Builtin.append_, h1, h3, run_underlying h2, run_underlying h4, run_sizeOf hn, typeInfo, zeroValue, hi, hz, hw, hnn, hbb, hfit, asInt, asIntOf]
  | some a =>
    have hs := hs.1 a rfl
    by_cases hz0 : m * n = 0
    · simp only [zerosNew, hz0, if_true] at hs
      simp [Builtin.append_, h1, h3, run_underlying h2, run_underlying h4, run_sizeOf hn, typeInfo, hi, hw, hnn, hbb, hfit, asInt, asIntOf, hz0, hs]
    · simp only [zerosNew, hz0, if_false] at hs
      simp [Builtin.append_, h1, h3, run_underlying h2, run_underlying h4, run_sizeOf hn, typeInfo, zeroValue, hi, hz, hw, hnn, hbb, hfit, asInt, asIntOf, hz0, hs]

/-- How many elements the new array takes. -/
def newCapOf (W : World) (need c : Nat) (el : TypeId) : Nat := (Question.appendCap need c el).cut (W.tape W.drawn (.appendCap need c el))

theorem newCap_ge (W : World) (need c : Nat) (el : TypeId) : need ≤ newCapOf W need c el := by
  simp only [newCapOf, Question.cut]; omega

/-- No room: a new array. -/
theorem run_append_grow {args : Array TypeId} {ty st xt el : TypeId} {d : TypeDesc} {n l c m : Nat} {a : Option Addr} {x : Value} {old new : Array Value} {i : TypeInfo} {z : Value}
    (h1 : args[0]? = some st) (h2 : P.underlying st = some (.slice el)) (h3 : args[1]? = some xt) (h4 : P.underlying xt = some d) (hn : tSize P el = some n)
    (hi : P.info? el = some i) (hz : i.zero = some z)
    (hd : (∃ e, d = .slice e) ∨ d = .string) (hl : (Builtin.lenOf x).run P W = .ok m W) (hf : (Builtin.firstCells n m x).run P W.drew = .ok new W.drew)
    (ho : (Builtin.firstCells n l (.slice a l c)).run P W.drew = .ok old W.drew)
    (hfit : ¬ l + m ≤ c) (hb : (l + m) * i.bytes ≤ 70368744177664) (hb0 : i.bytes ≠ 0) :
    (Builtin.append_ args ty #[.slice a l c, x]).run P W = .ok (.slice (some ⟨W.heap.size, 0, none⟩) (l + m) (newCapOf W (l + m) c el))
      (W.drew.alloc (.cells (old ++ new ++ Builtin.zeroCells z.cells (newCapOf W (l + m) c el - (l + m))) el)) := by
  have hcap := nextcap_le (need := l + m) (c := c) (by omega)
  have hbb : ¬ (Builtin.nextslicecap (l + m) c * i.bytes > 2 ^ 48) := by
    have : Builtin.nextslicecap (l + m) c * i.bytes ≤ 2 * (l + m) * i.bytes := Nat.mul_le_mul_right _ hcap
    rw [Nat.mul_assoc] at this
    omega
  have hq : (Question.appendCap (l + m) c el).forced = false := rfl
  have hzz : (zeroValue el).run P W.drew = .ok z W.drew := by simp [zeroValue, typeInfo, hi, hz]
  rcases hd with ⟨e, rfl⟩ | rfl <;> simp [Builtin.append_, h1, h3, run_underlying h2, run_underlying h4, run_sizeOf hn, hl, hfit, typeInfo, hi, hb0, hbb, hq, ho, hf, hzz, newRow, newCapOf]

theorem run_appendz_grow {args : Array TypeId} {ty st xt el : TypeId} {ik k : IntKind} {n l c m : Nat} {a : Option Addr} {old : Array Value} {i : TypeInfo} {z : Value}
    (h1 : args[0]? = some st) (h2 : P.underlying st = some (.slice el)) (h3 : args[1]? = some xt) (h4 : P.underlying xt = some (.int ik)) (hn : tSize P el = some n)
    (hi : P.info? el = some i) (hz : i.zero = some z) (hmb : m * i.bytes ≤ 70368744177664) (hm : m < 9223372036854775808)
    (ho : (Builtin.firstCells n l (.slice a l c)).run P W.drew = .ok old W.drew)
    (hfit : ¬ l + m ≤ c) (hb : (l + m) * i.bytes ≤ 70368744177664) (hb0 : i.bytes ≠ 0) :
    (Builtin.append_ args ty #[.slice a l c, .int k (m : Int)]).run P W = .ok (.slice (some ⟨W.heap.size, 0, none⟩) (l + m) (newCapOf W (l + m) c el))
      (W.drew.alloc (.cells (old ++ zerosNew z.cells n m ++ Builtin.zeroCells z.cells (newCapOf W (l + m) c el - (l + m))) el)) := by
  have hw : IntKind.i64.wrap (m : Int) = (m : Int) := by rw [← wrapK_eq]; simp only [wrapK]; rw [show ((m : Int) % 18446744073709551616) = (m : Int) from by omega]; rw [show (Int.decLt (m : Int) 9223372036854775808).decide = true from by simp; omega]; rfl
  have hnn : ¬ ((m : Int) < 0) := by omega
  have hbm : ¬ (281474976710656 < (m : Int) * (i.bytes : Int)) := by
    have : ((m * i.bytes : Nat) : Int) ≤ 70368744177664 := by omega
    rw [Int.natCast_mul] at this
    omega
  have hcap := nextcap_le (need := l + m) (c := c) (by omega)
  have hbb : ¬ (Builtin.nextslicecap (l + m) c * i.bytes > 2 ^ 48) := by
    have : Builtin.nextslicecap (l + m) c * i.bytes ≤ 2 * (l + m) * i.bytes := Nat.mul_le_mul_right _ hcap
    rw [Nat.mul_assoc] at this
    omega
  have hbig : ¬ (((l + m : Nat) : Int) > IntKind.i64.max) := by
    have : l + m ≤ (l + m) * i.bytes := Nat.le_mul_of_pos_right _ (by omega)
    simp [IntKind.max, IntKind.signed, IntKind.bits]; omega
  have hq : (Question.appendCap (l + m) c el).forced = false := rfl
  have hzz : (zeroValue el).run P W.drew = .ok z W.drew := by simp [zeroValue, typeInfo, hi, hz]
  have hbig' : ¬ (9223372036854775807 < (l : Int) + (m : Int)) := by simpa [IntKind.max, IntKind.signed, IntKind.bits] using hbig
  by_cases hz0 : m * n = 0
  · simp [Builtin.append_, h1, h3, run_underlying h2, run_underlying h4, run_sizeOf hn, hfit, typeInfo, hi, hb0, hbb, hq, ho, hzz, newRow, newCapOf, zerosNew, hz0, hw, hnn, hbm, asInt, asIntOf, hbig']
  · simp [Builtin.append_, h1, h3, run_underlying h2, run_underlying h4, run_sizeOf hn, hfit, typeInfo, hi, hb0, hbb, hq, ho, hzz, newRow, newCapOf, zerosNew, hz0, hw, hnn, hbm, asInt, asIntOf, hbig']

end Go.Proofs.Ytofaiipohmeelaa.Am
