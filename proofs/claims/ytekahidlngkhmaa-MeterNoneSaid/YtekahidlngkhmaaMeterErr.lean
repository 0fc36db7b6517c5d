/-
  What meter.Errors gives where both rows are of 32768 times 'false': nothing is wrong. Used in the run of MeterNone. No conditions but those of the theorems.
-/
import Derived.Test.YtekahidlngkhmaaAmTop
import Derived.Test.YtekahidlngkhmaaProg
import Derived.KernelRfl
namespace Go.Proofs.Ytekahidlngkhmaa.Am

def errBody : AC := (.seq (.reg [⟨(some 15), .bin .lss (.t 14) (.t 13), none⟩])
 (.seq (.cond (.t 15) .skip
 (.exit 0))
 (.seq (.block 1 (.seq (.reg [⟨(some 16), .mv (.t 14), none⟩, ⟨(some 7), .mv (.t 16), none⟩])
 (.seq (.dreg [(⟨(some 17), .mv (.t 0), none⟩, .plain), (⟨(some 18), .mv (.t 7), none⟩, .plain), (⟨(some 19), .indexSl (.t 17) (.t 18) 1, none⟩, .plain), (⟨(some 20), .load (.t 19) 1 false, none⟩, .alone), (⟨(some 21), .mv (.t 1), none⟩, .plain), (⟨(some 22), .mv (.t 7), none⟩, .plain), (⟨(some 23), .indexSl (.t 21) (.t 22) 1, none⟩, .plain), (⟨(some 24), .load (.t 23) 1 false, none⟩, .alone), (⟨(some 25), .eq true (.prim .bool) (.t 20) (.t 24), none⟩, .plain)] [(⟨(some 17), .mv (.t 0), none⟩, .plain), (⟨(some 18), .mv (.t 7), none⟩, .plain), (⟨(some 19), .indexSl (.t 17) (.t 18) 1, none⟩, .plain), (⟨(some 20), .load (.t 19) 1 false, none⟩, .quiet), (⟨(some 21), .mv (.t 1), none⟩, .plain), (⟨(some 22), .mv (.t 7), none⟩, .plain), (⟨(some 23), .indexSl (.t 21) (.t 22) 1, none⟩, .plain), (⟨(some 24), .load (.t 23) 1 false, none⟩, .quiet), (⟨(some 25), .eq true (.prim .bool) (.t 20) (.t 24), none⟩, .plain)])
 (.cond (.t 25) (.seq (.seq (.reg [⟨(some 26), .mv (.t 4), none⟩, ⟨(some 27), .bin .eql (.t 26) (.c (.int .i64 (0))), none⟩])
 (.cond (.t 27) (.reg [⟨(some 28), .mv (.t 7), none⟩, ⟨(some 5), .mv (.t 28), none⟩])
 .skip))
 (.reg [⟨(some 29), .mv (.t 4), none⟩, ⟨(some 30), .bin .add (.t 29) (.c (.int .i64 (1))), none⟩, ⟨(some 4), .mv (.t 30), none⟩]))
 .skip))))
 (.reg [⟨(some 31), .bin .add (.t 14) (.c (.int .i64 (1))), none⟩, ⟨(some 14), .mv (.t 31), none⟩]))))

def errPre : AC := (.seq (.reg [⟨(some 8), .mv (.t 0), none⟩, ⟨(some 9), .mv (.t 1), none⟩, ⟨(some 10), .call 52 [(.t 8), (.t 9)], none⟩, ⟨(some 11), .un .not (.t 10), none⟩])
 (.cond (.t 11) (.seq (.reg [⟨(some 4), .mv (.c (.int .i64 (0))), none⟩, ⟨(some 5), .mv (.c (.int .i64 (0))), none⟩, ⟨(some 6), .mv (.c (.int .i64 (1))), none⟩])
 .ret)
 .skip))

def errAll : AC := (.seq (.reg [⟨(some 4), .mv (.c (.int .i64 (0))), none⟩, ⟨(some 5), .mv (.c (.int .i64 (0))), none⟩, ⟨(some 6), .mv (.c (.int .i64 (0))), none⟩])
 (.seq errPre
 (.seq (.seq (.reg [⟨(some 12), .mv (.t 0), none⟩, ⟨(some 13), .lenSl (.t 12), none⟩, ⟨(some 14), .mv (.c (.int .i64 (0))), none⟩])
 (.block 0 (.loop errBody)))
 (.seq (.reg [⟨(some 32), .mv (.t 4), none⟩, ⟨(some 33), .mv (.t 5), none⟩, ⟨(some 4), .mv (.t 32), none⟩, ⟨(some 5), .mv (.t 33), none⟩, ⟨(some 6), .mv (.c (.int .i64 (0))), none⟩])
 .ret))))

theorem err_is : cFun Try.prog 14 = some (.code 34 [(.tmp 4), (.tmp 5), (.tmp 6)] errAll) := by kernel_rfl

structure EI (a b n i : Nat) (t : Tr AV) : Prop where
  s0 : t.get 0 = some (.sl a 0 n n)
  s1 : t.get 1 = some (.sl b 0 n n)
  s4 : t.get 4 = some (.int .i64 0)
  s5 : t.get 5 = some (.int .i64 0)
  s13 : t.get 13 = some (.int .i64 n)
  s14 : t.get 14 = some (.int .i64 i)

structure EH (a n : Nat) (h : Heap) : Prop where
  load : ∀ i, i < n → h.load a i 1 = some [.bool false]

theorem wrapK_i64 (n : Int) (h0 : 0 ≤ n) (h1 : n < 9223372036854775808) : wrapK .i64 n = n := by
  simp only [wrapK]
  rw [Int.emod_eq_of_lt h0 (by omega)]
  have : (Int.decLt n 9223372036854775808).decide = true := by simp [h1]
  rw [this]; rfl

theorem round {E : Ev} {k a b n i : Nat} {h : Heap} {t : Tr AV} (I : EI a b n i t) (ha : EH a n h) (hb : EH b n h) (hi : i < n) (hn : n < 4294967296) : Res (fun e s => e = .normal ∧ s.2 = h ∧ EI a b n (i + 1) s.1) (evalC E k errBody (t, h)) := by
  have e1 : decide ((i : Int) < (n : Int)) = true := by simp [hi]
  have hl1 := ha.load i hi
  have hl2 := hb.load i hi
  have hlt : Nat.blt i n = true := by simp [Nat.blt, Nat.ble_eq]; omega
  have hw : wrapK .i64 ((i : Int) + 1) = ((i + 1 : Nat) : Int) := by
    rw [wrapK_i64 _ (by omega) (by omega)]; omega
  obtain ⟨s0, s1, s4, s5, s13, s14⟩ := I
  have n1 : asNat (.int .i64 (i : Int)) = some i := rfl
  simp [errBody, evalC, evalOpers, evalOper, evalDraws, evalAlone, guardOk, evalOp, AOp.acts, evalR, evalX, putDst, binA, intBin, Tr.get_put, s0, s1, s13, s14, hlt, n1, hl1, hl2, asVal, eqA, primEq, hw, hi]
  refine ⟨rfl, rfl, ⟨?_, ?_, ?_, ?_, ?_, ?_⟩⟩ <;> simp [Tr.get_put, s0, s1, s4, s5, s13]

theorem last {E : Ev} {k a b n : Nat} {h : Heap} {t : Tr AV} (I : EI a b n n t) : Res (fun e s => e = .exit 0 ∧ s.2 = h ∧ EI a b n n s.1) (evalC E k errBody (t, h)) := by
  obtain ⟨s0, s1, s4, s5, s13, s14⟩ := I
  simp [errBody, evalC, evalOpers, evalOper, guardOk, evalOp, AOp.acts, evalR, evalX, putDst, binA, intBin, Tr.get_put, s13, s14]
  refine ⟨rfl, rfl, ⟨?_, ?_, ?_, ?_, ?_, ?_⟩⟩ <;> simp [Tr.get_put, s0, s1, s4, s5, s13, s14]

theorem rounds {E : Ev} {k a b n : Nat} {h : Heap} (ha : EH a n h) (hb : EH b n h) (hn : n < 4294967296) : ∀ (d i : Nat) (t : Tr AV) (fuel : Nat), n - i = d → i ≤ n → EI a b n i t → d < fuel → Res (fun e s => e = .exit 0 ∧ s.2 = h ∧ EI a b n n s.1) (iter (evalC E k errBody) fuel (t, h)) := by
  intro d
  induction d with
  | zero =>
    intro i t fuel h1 h2 I hf
    obtain rfl : i = n := by omega
    obtain ⟨f, rfl⟩ : ∃ f, fuel = f + 1 := ⟨fuel - 1, by omega⟩
    obtain ⟨e, s, he, rfl, h3, h4⟩ := (last (E := E) (k := k) (h := h) I).get
    simp only [iter, he]
    exact ⟨rfl, h3, h4⟩
  | succ d ih =>
    intro i t fuel h1 h2 I hf
    obtain ⟨f, rfl⟩ : ∃ f, fuel = f + 1 := ⟨fuel - 1, by omega⟩
    obtain ⟨e, s, he, rfl, h3, h4⟩ := (round (E := E) (k := k) I ha hb (by omega) hn).get
    simp only [iter, he]
    obtain ⟨t', h'⟩ := s
    simp only at h3 h4; subst h3
    exact ih (i + 1) t' f (by omega) (by omega) h4 (by omega)

theorem rows_ok (a b : Nat) (h : Heap) : evalF (cFun Try.prog) 39999 52 [.sl a 0 32768 32768, .sl b 0 32768 32768] h = some (.bool true, h) := by kernel_rfl

theorem err_ok {a b : Nat} {h : Heap} (ha : EH a 32768 h) (hb : EH b 32768 h) : evalF (cFun Try.prog) 40000 14 [.sl a 0 32768 32768, .sl b 0 32768 32768] h = some (.tup [.int .i64 0, .int .i64 0, .int .i64 0], h) := by
  rw [show (40000 : Nat) = 39999 + 1 from rfl, evalF_succ, err_is]
  have hr := rows_ok a b h
  generalize evalF (cFun Try.prog) 39999 = E at hr
  have main : Res (fun e s => e = .ret ∧ s.2 = h ∧ s.1.get 4 = some (.int .i64 0) ∧ s.1.get 5 = some (.int .i64 0) ∧ s.1.get 6 = some (.int .i64 0)) (evalC E 39999 errAll (Tr.putList .nil 0 [.sl a 0 32768 32768, .sl b 0 32768 32768], h)) := by
    generalize ht : Tr.putList Tr.nil 0 [AV.sl a 0 32768 32768, AV.sl b 0 32768 32768] = t
    have s0 : t.get 0 = some (.sl a 0 32768 32768) := by subst ht; rfl
    have s1 : t.get 1 = some (.sl b 0 32768 32768) := by subst ht; rfl
    generalize hm : (39999 : Nat) = fuel
    simp only [errAll, evalC]
    simp [errPre, evalC, evalOpers, evalOper, guardOk, evalOp, AOp.acts, evalA, evalR, evalX, putDst, unA, Tr.get_put, s0, s1, hr]
    generalize ht' : ((((((((((t.put 4 (some (AV.int IntKind.i64 0))).put 5 (some (AV.int IntKind.i64 0))).put 6 (some (AV.int IntKind.i64 0))).put 8 (some (AV.sl a 0 32768 32768))).put 9 (some (AV.sl b 0 32768 32768))).put
      10 (some (AV.bool true))).put 11 (some (AV.bool false))).put 12 (some (AV.sl a 0 32768 32768))).put 13 (some (AV.int IntKind.i64 32768))).put 14 (some (AV.int IntKind.i64 0))) = t'
    have I : EI a b 32768 0 t' := by subst ht'; constructor <;> simp [Tr.get_put, s0, s1]
    obtain ⟨e, s, he, rfl, h3, h4⟩ := (rounds (E := E) (k := fuel) (h := h) ha hb (by omega) 32768 0 t' fuel rfl (by omega) I (by omega)).get
    rw [he]
    obtain ⟨_, _, s4, s5, _, _⟩ := h4
    refine ⟨rfl, h3, ?_, ?_, ?_⟩ <;> simp [Tr.get_put, s4, s5]
  obtain ⟨e, s, he, rfl, h3, h4, h5, h6⟩ := main.get
  simp only [runFun, he]
  simp [evalRess, evalRes, h4, h5, h6, h3]
  rfl

/-! ### Rows of nothing but 'false' -/
def allF : Nat → Nat → Tr AV → Bool
  | _, 0, _ => true
  | 0, _ + 1, _ => false
  | d + 1, n + 1, .node (some (.bool false)) l r => cond (allF d ((n + 1) / 2) l) (allF d (n / 2) r) false
  | _, _, _ => false

theorem allF_get : ∀ (d n : Nat) (t : Tr AV), allF d n t = true → ∀ i, i < n → t.get i = some (.bool false)
  | _, 0, _, _, i, hi => by omega
  | 0, n + 1, _, h, i, hi => by simp [allF] at h
  | d + 1, n + 1, .nil, h, i, hi => by simp [allF] at h
  | d + 1, n + 1, .node v l r, h, i, hi => by
    unfold allF at h
    split at h
    · simp at *
    · simp at *
    · rename_i d' n' l' r' e1 e2 e3
      simp only [Tr.node.injEq] at e3
      obtain ⟨rfl, rfl, rfl⟩ := e3
      obtain rfl : d = d' := by omega
      obtain rfl : n = n' := by omega
      cases h1 : allF d ((n + 1) / 2) l with
      | false => simp [h1] at h
      | true =>
        simp only [h1, cond_true] at h
        cases i with
        | zero => rfl
        | succ j =>
          simp only [Tr.get]
          cases hb : Nat.beq (j % 2) 0 with
          | true =>
            have := Nat.eq_of_beq_eq_true hb
            exact allF_get d _ l h1 _ (by omega)
          | false =>
            have : j % 2 ≠ 0 := fun e => by rw [e] at hb; simp at hb
            exact allF_get d _ r h _ (by omega)
    · simp at h

def rowF (h : Heap) (b : Nat) : Bool :=
  match h.get b with
  | some (.row cells size _ _ _) => Nat.ble 32768 size && allF 20 32768 cells
  | _ => false

theorem rowF_load {h : Heap} {b : Nat} (e : rowF h b = true) : EH b 32768 h := by
  unfold rowF at e
  split at e
  · rename_i cells size n own ty hb
    simp only [Bool.and_eq_true] at e
    refine ⟨fun i hi => ?_⟩
    unfold Heap.load
    rw [hb]
    have h1 : Nat.ble (i + 1) size = true := Nat.ble_eq_true_of_le (by have := Nat.le_of_ble_eq_true e.1; omega)
    simp [h1, readCells, allF_get _ _ _ e.2 i hi]
  · simp at e

/-- `meter.Errors`, where both rows are of 32768 times 'false'. -/
def errO : Ev := fun f args h => cond (Nat.beq f 14)
  (match args with
   | [.sl a 0 la ca, .sl b 0 lb cb] => cond (Nat.beq la 32768 && Nat.beq ca 32768 && Nat.beq lb 32768 && Nat.beq cb 32768 && rowF h a && rowF h b) (some (.tup [.int .i64 0, .int .i64 0, .int .i64 0], h)) none
   | _ => none) none

theorem errO_sound (hm : Try.prog.follows .mixedOrders = true) : SoundE Try.prog errO := by
  intro f args h v h' e
  refine evalF_sound hm (fun _ _ h => h) 40000 f args h v h' ?_
  unfold errO at e
  have h1 := (cond_some e).1
  replace e := (cond_some e).2
  obtain rfl := Nat.eq_of_beq_eq_true h1
  split at e
  · rename_i a la ca b lb cb
    have h2 := (cond_some e).1
    replace e := (cond_some e).2
    obtain ⟨h2, k6⟩ := Bool.and_eq_true_iff.1 h2
    obtain ⟨h2, k5⟩ := Bool.and_eq_true_iff.1 h2
    obtain ⟨h2, k4⟩ := Bool.and_eq_true_iff.1 h2
    obtain ⟨h2, k3⟩ := Bool.and_eq_true_iff.1 h2
    obtain ⟨k1, k2⟩ := Bool.and_eq_true_iff.1 h2
    obtain rfl := Nat.eq_of_beq_eq_true k1
    obtain rfl := Nat.eq_of_beq_eq_true k2
    obtain rfl := Nat.eq_of_beq_eq_true k3
    obtain rfl := Nat.eq_of_beq_eq_true k4
    rw [← e]
    exact err_ok (rowF_load k5) (rowF_load k6)
  · simp at e

end Go.Proofs.Ytekahidlngkhmaa.Am
