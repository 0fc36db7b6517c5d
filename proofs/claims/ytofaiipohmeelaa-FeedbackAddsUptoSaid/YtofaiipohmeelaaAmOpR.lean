/-
  The abstract machine: the operations that turn nothing.
-/
import Derived.Test.YtofaiipohmeelaaAmParts
namespace Go.Proofs.Ytofaiipohmeelaa.Am
variable {P : Program} {base : Nat} {ρ : Mp} {h : Heap} {W : World}

/-- The operands stand for each other. -/
def Env (ρ : Mp) (xs : List Operand) (env : AX → AV) (a : Operand → Value) : Prop := ∀ x ∈ xs, ∀ ax, cX x = some ax → VR ρ (env ax) (a x)

theorem cXo_spec {x : Option Operand} {ax : Option AX} {env : AX → AV} {a : Operand → Value} {xs : List Operand} (e : cXo x = some ax) (hm : ∀ y, x = some y → y ∈ xs) (he : Env ρ xs env a) :
    (∀ y, x = some y → ∃ ay, ax = some ay ∧ VR ρ (env ay) (a y)) ∧ (x = none → ax = none) := by
  cases x with
  | none => simp only [cXo, Option.some.injEq] at e; subst e; exact ⟨fun y hy => by simp at hy, fun _ => rfl⟩
  | some y =>
    simp only [cXo, Option.map_eq_some_iff] at e
    obtain ⟨ay, h1, rfl⟩ := e
    exact ⟨fun z hz => by simp at hz; subst hz; exact ⟨ay, rfl, he y (hm y rfl) ay h1⟩, fun hz => by simp at hz⟩

theorem is_indexSl {t : TypeId} {e n : Nat} {x i : AV} {x' i' : Value} {b o len cap j : Nat} (hu : P.underlying t = some (.slice e)) (hn : tSize P e = some n)
    (hx : VR ρ x x') (hi : VR ρ i i') (hxe : x = .sl b o len cap) (hie : asNat i = some j) (hlt : j < len) :
    Is P ρ W (Instr.indexAt t x' i') (.ptr b (o + j * n)) := by
  subst hxe
  simp only [VR] at hx
  obtain ⟨a, c', rfl, hx⟩ := hx
  obtain ⟨k, hk⟩ := asNat_run (P := P) hi hie W
  rcases hx with ⟨g, hg, rfl, _, _⟩ | ⟨rfl, _, _⟩
  · refine ⟨.pointer (some ⟨g.blk, g.off + o + j * n, none⟩), ?_, ⟨g, hg, by simp [Nat.add_assoc]⟩⟩
    have h1 : (0 : Int) ≤ (j : Int) ∧ (j : Int) < (len : Int) := by omega
    simp [Instr.indexAt, hk, run_underlying hu, h1, run_sizeOf hn, add_spotless]
  · omega

theorem is_indexArr {t : TypeId} {e n len : Nat} {x i : AV} {x' i' : Value} {b o j : Nat} (hu : P.underlying t = some (.array len e)) (hn : tSize P e = some n)
    (hx : VR ρ x x') (hi : VR ρ i i') (hxe : x = .ptr b o) (hie : asNat i = some j) (hlt : j < len) :
    Is P ρ W (Instr.indexAt t x' i') (.ptr b (o + j * n)) := by
  subst hxe
  simp only [VR] at hx
  obtain ⟨g, hg, rfl⟩ := hx
  obtain ⟨k, hk⟩ := asNat_run (P := P) hi hie W
  refine ⟨.pointer (some ⟨g.blk, g.off + o + j * n, none⟩), ?_, ⟨g, hg, by simp [Nat.add_assoc]⟩⟩
  have h1 : (0 : Int) ≤ (j : Int) ∧ (j : Int) < (len : Int) := by omega
  simp [Instr.indexAt, hk, run_underlying hu, h1, run_sizeOf hn, add_spotless, Instr.sureAddr]

theorem is_byteAt {t : TypeId} {x i : AV} {x' i' : Value} {s : List Nat} {j c : Nat} (hu : P.underlying t = some .string)
    (hx : VR ρ x x') (hi : VR ρ i i') (hxe : x = .str s) (hie : asNat i = some j) (hc : s[j]? = some c) :
    Is P ρ W (Instr.index t x' i') (.int .u8 (c : Int)) := by
  subst hxe
  simp only [VR] at hx
  obtain ⟨b, rfl, rfl⟩ := hx
  obtain ⟨k, hk⟩ := asNat_run (P := P) hi hie W
  simp only [List.getElem?_map, Option.map_eq_some_iff, Array.getElem?_toList] at hc
  obtain ⟨u, hu8, rfl⟩ := hc
  have h1 : b[j]? = some u := by
    have hj : j < b.size := by
      have := (Array.getElem?_eq_some_iff.1 hu8).1; simpa using this
    have h2 := (Array.getElem?_eq_some_iff.1 hu8).2
    rw [getElem?_pos b j hj]; congr 1
  refine ⟨.int .u8 (u.toNat : Int), ?_, by simp [VR]⟩
  simp [Instr.index, hk, run_underlying hu, h1]

theorem is_index {t : TypeId} {e n len : Nat} {agg : Bool} {x i : AV} {x' i' : Value} {cs : List AV} {j : Nat} {v : AV} (hu : P.underlying t = some (.array len e)) (hn : tSize P e = some n) (ha : tAgg P e = some agg)
    (hx : VR ρ x x') (hi : VR ρ i i') (hxe : x = .agg cs) (hie : asNat i = some j) (hlt : j < len) (hv : partOf agg cs (j * n) n = some v) :
    Is P ρ W (Instr.index t x' i') v := by
  subst hxe
  simp only [VR] at hx
  obtain ⟨cs', rfl, hx⟩ := hx
  obtain ⟨k, hk⟩ := asNat_run (P := P) hi hie W
  obtain ⟨v', h1, h2⟩ := run_part (P := P) hx hv hn ha W
  refine ⟨v', ?_, h2⟩
  have h3 : (0 : Int) ≤ (j : Int) ∧ (j : Int) < (len : Int) := by omega
  simp [Instr.index, hk, run_underlying hu, h3, run_sizeOf hn, h1]

theorem is_fltToInt {b : Nat} {k : IntKind} {v : AV} (e : fltToInt b k = some v) : Is P ρ W (Conv.floatToInt .f64 b k) v := by
  unfold fltToInt at e
  split at e
  · rename_i n hn
    split at e
    · rename_i hr
      simp at e; subst e
      exact ⟨.int k n, by simp [Conv.floatToInt, FloatKind.decode, FloatKind.format, hn, hr], by simp [VR]⟩
    · simp at e
  · simp at e

theorem bytesOf_spec : ∀ {l : List AV} {l' : List Value} {s : List Nat}, bytesOf l = some s → VRs ρ l l' → ∃ ns : List Int, l' = ns.map (Value.int .u8) ∧ s = ns.map fun n => n.toNat % 256
  | [], l', s, e, hr => by simp only [VRs] at hr; subst hr; simp [bytesOf] at e; subst e; exact ⟨[], rfl, rfl⟩
  | x :: xs, l', s, e, hr => by
    simp only [VRs] at hr
    obtain ⟨w, ws, rfl, h1, h2⟩ := hr
    unfold bytesOf at e
    split at e
    · rename_i hh; simp at hh
    · rename_i n r hh
      simp only [List.cons.injEq] at hh
      obtain ⟨rfl, rfl⟩ := hh
      simp only [Option.map_eq_some_iff] at e
      obtain ⟨s', e', rfl⟩ := e
      simp only [VR] at h1; subst h1
      obtain ⟨ns, rfl, rfl⟩ := bytesOf_spec e' h2
      exact ⟨n :: ns, rfl, rfl⟩
    · simp at e

theorem push_all : ∀ (ns : List Int) (r : ByteArray), (ns.foldl (fun r n => r.push (UInt8.ofNat n.toNat)) r).data.toList = r.data.toList ++ ns.map fun n => UInt8.ofNat n.toNat
  | [], r => by simp
  | n :: ns, r => by rw [List.foldl_cons, push_all ns]; simp [ByteArray.push]

theorem is_bytesToStr (r : Rel base ρ h W) {x : AV} {x' : Value} {v : AV}
    (e : (match x with | .nilSl => some (.str []) | .sl b o len _ => ((h.load b o len).bind bytesOf).map AV.str | _ => none) = some v) (hx : VR ρ x x') : Is P ρ W (Conv.bytesToString x') v := by
  cases x <;> simp only [reduceCtorEq] at e
  case nilSl =>
    simp only [Option.some.injEq] at e; subst e
    simp only [VR] at hx; subst hx
    exact ⟨.string .empty, by simp [Conv.bytesToString], ⟨.empty, rfl, rfl⟩⟩
  case sl b o len cap =>
    simp only [Option.map_eq_some_iff, Option.bind_eq_some_iff] at e
    obtain ⟨s, ⟨l, hl, hs⟩, rfl⟩ := e
    simp only [VR] at hx
    obtain ⟨a, c', rfl, hx⟩ := hx
    have main : ∃ l' : Array Value, (loadCells a len).run P W = .ok l' W ∧ VRs ρ l l'.toList := by
      rcases hx with ⟨g, hg, rfl, _, _⟩ | ⟨rfl, _, _⟩
      · exact run_loadCells r hg hl
      · obtain ⟨_, _, _, _, _, _, _, h3, _⟩ := Heap.load_spec hl
        have : l = [] := List.eq_nil_of_length_eq_zero h3
        subst this
        exact ⟨#[], by simp [loadCells, loadCellsFrom], rfl⟩
    obtain ⟨l', h1, h2⟩ := main
    obtain ⟨ns, hns, rfl⟩ := bytesOf_spec hs h2
    have hl' : l' = (ns.map (Value.int .u8)).toArray := by rw [← hns]
    subst hl'
    exact ⟨_, run_bytesToString (P := P) W a len c' ns h1, ⟨_, rfl, by
      rw [push_all]
      simp only [ByteArray.empty, ByteArray.emptyWithCapacity, List.map_append, List.map_map]
      show [] ++ _ = _
      rw [List.nil_append]
      exact List.map_congr_left fun n _ => by simp⟩⟩

/-- The result of an operation that turns nothing. -/
def Gives (P : Program) (ρ : Mp) (W : World) (s : Sem Next) (v : AV) : Prop := ∃ v', s.run P W = .ok (.value v') W ∧ VR ρ v v'

theorem Gives.of {s : Sem Value} {v : AV} (hs : Is P ρ W s v) : Gives P ρ W (do pure (Next.value (← s))) v := by
  obtain ⟨v', h1, h2⟩ := hs
  exact ⟨v', by simp [h1], h2⟩

theorem is_slStr {t : TypeId} {x v : AV} {x' : Value} {lo hi : Option Operand} {lo' hi' : Option AX} {env : AX → AV} {a : Operand → Value} {s : List Nat} (hu : P.underlying t = some .string)
    (hx : VR ρ x x') (hxe : x = .str s)
    (hlo : (∀ y, lo = some y → ∃ ay, lo' = some ay ∧ VR ρ (env ay) (a y)) ∧ (lo = none → lo' = none))
    (hhi : (∀ y, hi = some y → ∃ ay, hi' = some ay ∧ VR ρ (env ay) (a y)) ∧ (hi = none → hi' = none))
    (e : (match bounds env lo' hi' none s.length s.length with | some (l, h, _) => some (AV.str ((s.drop l).take (h - l))) | none => none) = some v) :
    Is P ρ W (Instr.sliceAt t x' (lo.map a) (hi.map a) none) v := by
  subst hxe
  simp only [VR] at hx
  obtain ⟨b, rfl, rfl⟩ := hx
  split at e
  · rename_i l hh m eb
    simp only [Option.some.injEq] at e; subst e
    obtain ⟨i1, i2, i3, m', hr, _⟩ := run_sliceBounds (P := P) (mx := none) (cap' := b.size) (env := env) (a := a) false hlo.1 hlo.2 hhi.1 hhi.2 (fun x hx => by simp at hx) (fun _ => rfl) (by simp) eb W
    simp only [List.length_map, Array.length_toList, ByteArray.size_data] at hr i3 ⊢
    refine ⟨.string (b.extract l hh), ?_, ⟨_, rfl, ?_⟩⟩
    · simp only [Option.map_none] at hr
      simp [Instr.sliceAt, Instr.slice, run_underlying hu, hr]
    · simp [ByteArray.data_extract, List.extract_eq_take_drop, List.map_drop, List.map_take]
  · simp at e

theorem is_slSl {t el n : Nat} {x v : AV} {x' : Value} {lo hi mx : Option Operand} {lo' hi' mx' : Option AX} {env : AX → AV} {a : Operand → Value} {b o len cap : Nat}
    (hu : P.underlying t = some (.slice el)) (hn : tSize P el = some n) (hx : VR ρ x x') (hxe : x = .sl b o len cap)
    (hlo : (∀ y, lo = some y → ∃ ay, lo' = some ay ∧ VR ρ (env ay) (a y)) ∧ (lo = none → lo' = none))
    (hhi : (∀ y, hi = some y → ∃ ay, hi' = some ay ∧ VR ρ (env ay) (a y)) ∧ (hi = none → hi' = none))
    (hmx : (∀ y, mx = some y → ∃ ay, mx' = some ay ∧ VR ρ (env ay) (a y)) ∧ (mx = none → mx' = none))
    (hgn : ∀ g, ρ b = some g → g.own = true → g.n = 0 ∨ g.n = n)
    (e : (match bounds env lo' hi' mx' len cap with | some (l, h, m) => some (AV.sl b (o + l * n) (h - l) (m - l)) | none => none) = some v) :
    Is P ρ W (Instr.sliceAt t x' (lo.map a) (hi.map a) (mx.map a)) v := by
  subst hxe
  simp only [VR] at hx
  obtain ⟨a0, c', rfl, hx⟩ := hx
  split at e
  · rename_i l hh m eb
    simp only [Option.some.injEq] at e; subst e
    rcases hx with ⟨g, hg, rfl, hcc, hb⟩ | ⟨rfl, rfl, rfl, hgx⟩
    · obtain ⟨i1, i2, i3, m', hr, hm⟩ := run_sliceBounds (P := P) (cap' := c') (env := env) (a := a) true hlo.1 hlo.2 hhi.1 hhi.2 hmx.1 hmx.2 hcc eb W
      have hmm : m ≤ m' := by rcases hm with ⟨_, rfl, rfl⟩ | rfl <;> omega
      have hmc : m' ≤ c' := by rcases hm with ⟨_, rfl, rfl⟩ | rfl <;> omega
      by_cases hml : m' = l
      · refine ⟨.slice (some ⟨g.blk, g.off + o, none⟩) (hh - l) (m' - l), ?_, ⟨_, _, rfl, .inr ⟨by omega, by omega, by omega, g, hg⟩⟩⟩
        simp [Instr.sliceAt, Instr.slice, run_underlying hu, hr, run_sizeOf hn, hml]
      · refine ⟨.slice (some ⟨g.blk, g.off + (o + l * n), none⟩) (hh - l) (m' - l), ?_, ⟨_, _, rfl, .inl ⟨g, hg, rfl, by omega, fun ho => ?_⟩⟩⟩
        · simp [Instr.sliceAt, Instr.slice, run_underlying hu, hr, run_sizeOf hn, hml, add_spotless, Nat.add_assoc]
        · rcases hb ho with h0 | hb
          · exact .inl h0
          rcases hgn g hg ho with hz | hz
          · exact .inl hz
          · refine .inr ?_
            have e1 : l * n + (m' - l) * n = m' * n := by rw [← Nat.add_mul]; congr 1; omega
            have e2 : m' * n ≤ c' * n := Nat.mul_le_mul_right _ hmc
            rw [hz] at hb ⊢; omega
    · obtain ⟨i1, i2, i3, m', hr, hm⟩ := run_sliceBounds (P := P) (cap' := 0) (env := env) (a := a) true hlo.1 hlo.2 hhi.1 hhi.2 hmx.1 hmx.2 (Nat.le_refl _) eb W
      have hl0 : l = 0 := by omega
      have hh0 : hh = 0 := by omega
      have hm0 : m = 0 := by omega
      have hm1 : m' = 0 := by rcases hm with ⟨_, rfl, _⟩ | rfl <;> omega
      subst hl0 hh0 hm0 hm1
      refine ⟨.slice (some a0) 0 0, ?_, ⟨_, _, rfl, .inr ⟨rfl, rfl, rfl, hgx⟩⟩⟩
      simp [Instr.sliceAt, Instr.slice, run_underlying hu, hr, run_sizeOf hn]
  · simp at e

end Go.Proofs.Ytofaiipohmeelaa.Am
