/-
  The abstract machine: each value that it computes is the model's: operations on numbers, texts, parts.
-/
import Derived.Test.YtofaiipohmeelaaAmRun
import Derived.Laws.Strings
namespace Go.Proofs.Ytofaiipohmeelaa.Am
variable {P : Program} {base : Nat} {ρ : Mp} {h : Heap} {W : World}

/-- 'The model's computation ends in this value, and turns nothing.' -/
def Is (P : Program) (ρ : Mp) (W : World) (s : Sem Value) (v : AV) : Prop := ∃ v', s.run P W = .ok v' W ∧ VR ρ v v'

theorem wrapK_eq (k : IntKind) (n : Int) : wrapK k n = k.wrap n := by
  have cd : ∀ (a b : Int) (x y : Int), cond (Int.decLt a b).decide x y = if a < b then x else y := by
    intro a b x y
    by_cases hh : a < b <;> simp [hh]
  cases k <;> simp only [wrapK, IntKind.wrap, IntKind.bits, IntKind.signed, cd] <;> simp <;> (try split) <;> (try split) <;> omega

theorem two_pow_cast (n : Nat) : ((2 ^ n : Nat) : Int) = (2 : Int) ^ n := by simp

theorem is_intBin {op : BinOp} {k : IntKind} {a b : Int} {v : AV} (t : TypeId) (e : intBin op k a b = some v) :
    Is P ρ W (binOp op t (.int k a) (.int k b)) v := by
  unfold intBin at e
  cases op <;> simp only [Option.some.injEq, reduceCtorEq] at e <;> simp only [binOp, ne_eq, not_true_eq_false, if_false]
  case quo =>
    split at e
    · simp at e
    · simp at e; subst e; exact ⟨_, by simp [Op.intDiv, *]; rfl, by simp [VR, wrapK_eq]⟩
  case rem =>
    split at e
    · simp at e
    · simp at e; subst e; exact ⟨_, by simp [Op.intDiv, *]; rfl, by simp [VR]⟩
  all_goals subst e
  all_goals first
    | exact ⟨_, by simp [Op.intArith]; rfl, by simp [VR, wrapK_eq]⟩
    | exact ⟨_, by simp [Op.intBits]; rfl, by simp [VR, wrapK_eq]⟩
    | exact ⟨_, by simp [Op.intCmp]; rfl, by simp [VR]⟩

theorem is_shift {op : BinOp} {k k' : IntKind} {a b : Int} {v : AV} (t : TypeId) (e : shiftBin op k a b = some v) :
    Is P ρ W (binOp op t (.int k a) (.int k' b)) v := by
  unfold shiftBin at e
  split at e
  · simp at e
  · rename_i hb
    cases op <;> simp only [Option.some.injEq, reduceCtorEq] at e <;> subst e
    · exact ⟨_, by simp [binOp, Op.shift, hb]; rfl, by simp [VR, wrapK_eq]⟩
    · exact ⟨_, by simp [binOp, Op.shift, hb]; rfl, by simp [VR]⟩

theorem is_fBin {op : BinOp} {a b : Nat} {v : AV} (t : TypeId) (e : fBin op a b = some v) :
    Is P ρ W (binOp op t (.float .f64 a) (.float .f64 b)) v := by
  unfold fBin fArith at e
  cases op <;> simp only [] at e <;> simp only [binOp, ne_eq, not_true_eq_false, if_false]
  case add =>
    cases hr : Ieee.double.add a b with
    | none => simp [hr, fCmp] at e
    | some r => simp [hr] at e; subst e; exact ⟨_, by simp [Op.floatArith, FloatKind.format, hr]; rfl, by simp [VR]⟩
  case sub =>
    cases hr : Ieee.double.sub a b with
    | none => simp [hr, fCmp] at e
    | some r => simp [hr] at e; subst e; exact ⟨_, by simp [Op.floatArith, FloatKind.format, hr]; rfl, by simp [VR]⟩
  case mul =>
    cases hr : Ieee.double.mul a b with
    | none => simp [hr, fCmp] at e
    | some r => simp [hr] at e; subst e; exact ⟨_, by simp [Op.floatArith, FloatKind.format, hr]; rfl, by simp [VR]⟩
  case quo =>
    cases hr : Ieee.double.div a b with
    | none => simp [hr, fCmp] at e
    | some r => simp [hr] at e; subst e; exact ⟨_, by simp [Op.floatArith, FloatKind.format, hr]; rfl, by simp [VR]⟩
  all_goals simp only [fCmp, Option.map_some, Option.map_none, Option.some.injEq, reduceCtorEq] at e
  all_goals subst e
  all_goals exact ⟨_, by simp [Op.floatCmp, FloatKind.format]; rfl, by simp [VR]⟩

theorem is_cBin {op : BinOp} {a b c d : Nat} {v : AV} (t : TypeId) (e : cBin op a b c d = some v) :
    Is P ρ W (binOp op t (.complex .f64 a b) (.complex .f64 c d)) v := by
  unfold cBin at e
  cases op <;> simp only [reduceCtorEq] at e <;> simp only [binOp, ne_eq, not_true_eq_false, if_false]
  case add =>
    cases h1 : Ieee.double.add a c with
    | none => simp [h1] at e
    | some x =>
      cases h2 : Ieee.double.add b d with
      | none => simp [h1, h2] at e
      | some y =>
        simp [h1, h2] at e; subst e
        exact ⟨_, by simp [Op.complexOp, Op.Complex.arith, Op.floatArith, FloatKind.format, h1, h2]; rfl, by simp [VR]⟩
  case sub =>
    cases h1 : Ieee.double.sub a c with
    | none => simp [h1] at e
    | some x =>
      cases h2 : Ieee.double.sub b d with
      | none => simp [h1, h2] at e
      | some y =>
        simp [h1, h2] at e; subst e
        exact ⟨_, by simp [Op.complexOp, Op.Complex.arith, Op.floatArith, FloatKind.format, h1, h2]; rfl, by simp [VR]⟩
  all_goals simp only [Option.some.injEq] at e
  all_goals subst e
  all_goals exact ⟨_, by simp [Op.complexOp, Op.Complex.cmp, Op.floatCmp, FloatKind.format, asBool]; rfl, by simp [VR]⟩

/-! ### Texts: lists of numbers below 256 against lists of bytes -/
theorem toNat_inj_list : ∀ (x y : List UInt8), x.map (·.toNat) = y.map (·.toNat) ↔ x = y := by
  intro x
  induction x with
  | nil => intro y; cases y <;> simp
  | cons a x ih =>
    intro y
    cases y with
    | nil => simp
    | cons b y =>
      simp only [List.map_cons, List.cons.injEq, ih, UInt8.toNat_inj]

theorem sEq_iff : ∀ (x y : List Nat), sEq x y = true ↔ x = y := by
  intro x
  induction x with
  | nil => intro y; cases y <;> simp [sEq]
  | cons a x ih =>
    intro y
    cases y with
    | nil => simp [sEq]
    | cons b y =>
      simp only [sEq, nbeq, List.cons.injEq]
      by_cases hab : a = b <;> simp [hab, ih]

theorem sEq_bytes (x y : List UInt8) : sEq (x.map (·.toNat)) (y.map (·.toNat)) = (x == y) := by
  rw [Bool.eq_iff_iff, sEq_iff, toNat_inj_list, beq_iff_eq]

theorem sLess_bytes : ∀ (x y : List UInt8), sLess (x.map (·.toNat)) (y.map (·.toNat)) = Op.bytesLess x y := by
  intro x
  induction x with
  | nil => intro y; cases y <;> simp [sLess, Op.bytesLess]
  | cons a x ih =>
    intro y
    cases y with
    | nil => simp [sLess, Op.bytesLess]
    | cons b y =>
      simp only [List.map_cons, sLess, Op.bytesLess, ih]
      have h1 : Nat.blt a.toNat b.toNat = decide (a < b) := by
        rw [Bool.eq_iff_iff]; simp [UInt8.lt_iff_toNat_lt]
      have h2 : Nat.beq a.toNat b.toNat = (a == b) := by
        rw [nbeq, Bool.eq_iff_iff]; simp [UInt8.toNat_inj]
      rw [h1, h2]

theorem toList_data (s : ByteArray) : s.toList = s.data.toList := by
  exact ByteArray.toList_eq s

theorem is_sBin {op : BinOp} {x y : ByteArray} {v : AV} (t : TypeId) (e : sBin op (x.data.toList.map (·.toNat)) (y.data.toList.map (·.toNat)) = some v) :
    Is P ρ W (binOp op t (.string x) (.string y)) v := by
  unfold sBin at e
  cases op <;> simp only [reduceCtorEq, Option.some.injEq] at e
  case add =>
    cases hc : Nat.ble ((x.data.toList.map (·.toNat)).length + (y.data.toList.map (·.toNat)).length) 140737488355328 with
    | false => simp only [hc] at e; simp at e
    | true =>
      simp only [hc, cond_true, Option.some.injEq] at e; subst e
      have hle := Nat.le_of_ble_eq_true hc
      simp only [List.length_map, Array.length_toList, ByteArray.size_data] at hle
      refine ⟨.string (x ++ y), ?_, ⟨x ++ y, rfl, by simp⟩⟩
      simp only [binOp, Op.stringOp]
      rw [if_neg (by simp [IntKind.max, IntKind.signed, IntKind.bits]; omega)]
      rfl
  all_goals subst e
  all_goals refine ⟨_, by simp only [binOp, Op.stringOp]; rfl, ?_⟩
  all_goals simp [VR, sEq_bytes, sLess_bytes, toList_data]

theorem is_bin {op : BinOp} {x y v : AV} {x' y' : Value} (t : TypeId) (hx : VR ρ x x') (hy : VR ρ y y') (e : binA op x y = some v) :
    Is P ρ W (binOp op t x' y') v := by
  unfold binA at e
  split at e
  · simp only [VR] at hx hy; subst hx hy
    split at e
    · exact is_shift t e
    · exact is_shift t e
    · split at e
      · rename_i hk; subst hk; exact is_intBin t e
      · simp at e
  · simp only [VR] at hx hy; subst hx hy; exact is_fBin t e
  · simp only [VR] at hx hy; subst hx hy; exact is_cBin t e
  · simp only [VR] at hx hy
    obtain ⟨x', rfl, rfl⟩ := hx
    obtain ⟨y', rfl, rfl⟩ := hy
    exact is_sBin t e
  · simp at e

/-- Nothing is asked ahead of it, where no interface value and no aggregate is held against another. -/
theorem eqGuard_bin {op : BinOp} {x y v : AV} {x' y' : Value} (t : TypeId) (ox oy : Operand) (hx : VR ρ x x') (hy : VR ρ y y') (e : binA op x y = some v) :
    (eqGuard op t ox oy x' y').run P W = .ok () W := by
  unfold binA at e
  have : ∀ (s : Sem Unit), s = pure () → s.run P W = .ok () W := fun s hs => by subst hs; rfl
  split at e
  · simp only [VR] at hx hy; subst hx hy; cases op <;> rfl
  · simp only [VR] at hx hy; subst hx hy; cases op <;> rfl
  · simp only [VR] at hx hy; subst hx hy; cases op <;> rfl
  · simp only [VR] at hx hy
    obtain ⟨x', rfl, rfl⟩ := hx
    obtain ⟨y', rfl, rfl⟩ := hy
    cases op <;> rfl
  · simp at e

theorem is_un {op : UnOp} {x v : AV} {x' : Value} (hx : VR ρ x x') (e : unA op x = some v) : Is P ρ W (Op.unary op x') v := by
  unfold unA at e
  split at e
  · simp only [VR] at hx; subst hx; simp at e; subst e
    exact ⟨_, by simp [Op.unary, Op.intArith]; rfl, by simp [VR, wrapK_eq]⟩
  · rename_i k n
    simp only [VR] at hx; subst hx
    unfold intBin at e
    simp only [Option.some.injEq] at e; subst e
    exact ⟨_, by simp [Op.unary, Op.intBits]; rfl, by simp [VR, wrapK_eq]⟩
  · simp only [VR] at hx; subst hx; simp at e; subst e
    exact ⟨_, by simp [Op.unary]; rfl, by simp [VR, negF, Op.negFloat, FloatKind.format, Ieee.double]⟩
  · simp only [VR] at hx; subst hx; simp at e; subst e
    exact ⟨_, by simp [Op.unary]; rfl, by simp [VR, negF, Op.negFloat, FloatKind.format, Ieee.double]⟩
  · simp only [VR] at hx; subst hx; simp at e; subst e
    exact ⟨_, by simp [Op.unary]; rfl, by simp [VR]⟩
  · simp at e

end Go.Proofs.Ytofaiipohmeelaa.Am
