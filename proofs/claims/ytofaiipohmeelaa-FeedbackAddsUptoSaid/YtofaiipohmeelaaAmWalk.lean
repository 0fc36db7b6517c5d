/-
  The abstract machine: what a piece of code comes to, without fuel: 'wp F code Q s': run from s the code ends, and where it ends Q holds. Right against the evaluator (wp_call), which is right against the model.
-/
import Derived.Test.YtofaiipohmeelaaAmTop
set_option linter.all false
namespace Go.Proofs.Ytofaiipohmeelaa.Am

/-! ### One list of marks for each region whose order is open -/
def AC.left : AC → AC
  | .dreg a _ => .dreg a a
  | .seq a b => .seq a.left b.left
  | .cond c a b => .cond c a.left b.left
  | .block i b => .block i b.left
  | .loop b => .loop b.left
  | .scope b => .scope b.left
  | c => c

def AFun.left : AFun → AFun
  | .code m r b => .code m r b.left
  | f => f

theorem iter_imp {f g : St → Option (AExit × St)} (h : ∀ s r, f s = some r → g s = some r) : ∀ (n : Nat) (s : St) (r : AExit × St), iter f n s = some r → iter g n s = some r
  | 0, s, r, e => by simp [iter] at e
  | n + 1, s, r, e => by
    unfold iter at e ⊢
    cases hf : f s with
    | none => rw [hf] at e; simp at e
    | some q =>
      rw [hf] at e
      rw [h s q hf]
      obtain ⟨x, s1⟩ := q
      cases x with
      | normal => exact iter_imp h n s1 r e
      | exit id => exact e
      | ret => exact e

theorem left_imp (E : Ev) (k : Nat) : ∀ (c : AC) (s : St) (r : AExit × St), evalC E k c.left s = some r → evalC E k c s = some r
  | .skip, _, _, e | .reg _, _, _, e | .exit _, _, _, e | .ret, _, _, e => e
  | .dreg a b, s, r, e => by
    unfold AC.left at e
    unfold evalC at e ⊢
    cases h : evalDraws E s.2.next a 0 0 s with
    | none => rw [h] at e; simp at e
    | some q => rw [h] at e; exact e
  | .seq a b, s, r, e => by
    unfold AC.left at e
    unfold evalC at e ⊢
    cases h : evalC E k a.left s with
    | none => rw [h] at e; simp at e
    | some q =>
      rw [h] at e
      rw [left_imp E k a s q h]
      obtain ⟨x, s1⟩ := q
      cases x with
      | normal => exact left_imp E k b s1 r e
      | exit id => exact e
      | ret => exact e
  | .cond c a b, s, r, e => by
    unfold AC.left at e
    unfold evalC at e ⊢
    split
    · rename_i h; rw [h] at e; exact left_imp E k a s r e
    · rename_i h; rw [h] at e; exact left_imp E k b s r e
    · rename_i h1 h2
      split at e
      · rename_i h; exact absurd h h1
      · rename_i h; exact absurd h h2
      · simp at e
  | .block id b, s, r, e => by
    unfold AC.left at e
    unfold evalC at e ⊢
    cases h : evalC E k b.left s with
    | none => rw [h] at e; simp at e
    | some q => rw [h] at e; rw [left_imp E k b s q h]; exact e
  | .loop b, s, r, e => by
    unfold AC.left at e
    unfold evalC at e ⊢
    exact iter_imp (left_imp E k b) k s r e
  | .scope b, s, r, e => by
    unfold AC.left at e
    unfold evalC at e ⊢
    exact left_imp E k b s r e

variable {P : Program}

/-- A table of functions: the loaded program's, with one list of marks for each region whose order is open. -/
def Table (P : Program) (F : FuncId → Option AFun) : Prop := ∀ f af, F f = some af → ∃ af0, cFun P f = some af0 ∧ af = af0.left

theorem runFun_left {E : Ev} {k : Nat} {f : AFun} {args : List AV} {h : Heap} {r : AV × Heap} (e : runFun E k f.left args h = some r) : runFun E k f args h = some r := by
  cases f with
  | ext x => exact e
  | code m res body =>
    simp only [AFun.left, runFun] at e ⊢
    cases hle : Nat.ble args.length m with
    | false => rw [hle] at e; simp at e
    | true =>
      rw [hle] at e
      simp only [cond_true] at e ⊢
      cases h1 : evalC E k body.left (Tr.putList .nil 0 args, h) with
      | none => rw [h1] at e; simp at e
      | some q => rw [h1] at e; rw [left_imp E k body _ q h1]; exact e

theorem evalF_table (hm : P.follows .mixedOrders = true) {F : FuncId → Option AFun} (hF : Table P F) : ∀ n, SoundE P (evalF F n)
  | 0 => fun f args h v h' e => by simp [evalF] at e
  | n + 1 => fun f args h v h' e base ρ W args' ha r => by
    rw [evalF_succ] at e
    cases hf : F f with
    | none => simp [hf] at e
    | some af =>
      rw [hf] at e
      obtain ⟨af0, h1, rfl⟩ := hF f af hf
      exact runFun_sound hm (evalF_table hm hF n) n h1 args h v h' (runFun_left e) base ρ W args' ha r

/-! ### Calls -/
theorem evalO_table (hm : P.follows .mixedOrders = true) {F : FuncId → Option AFun} (hF : Table P F) {ov : Ev} (hov : SoundE P ov) : ∀ n, SoundE P (evalO F ov n)
  | 0 => fun f args h v h' e => by simp [evalO] at e
  | n + 1 => fun f args h v h' e base ρ W args' ha r => by
    have e' : (match ov f args h with
      | some r => some r
      | none => match F f with
        | some af => runFun (evalO F ov n) n af args h
        | none => none) = some (v, h') := e
    cases ho : ov f args h with
    | some q =>
      rw [ho] at e'
      simp only [Option.some.injEq] at e'; subst e'
      exact hov f args h v h' ho base ρ W args' ha r
    | none =>
      rw [ho] at e'
      cases hf : F f with
      | none => simp [hf] at e'
      | some af =>
        rw [hf] at e'
        obtain ⟨af0, h1, rfl⟩ := hF f af hf
        exact runFun_sound hm (evalO_table hm hF hov n) n h1 args h v h' (runFun_left e') base ρ W args' ha r

/-- A table of functions, and what is known of some calls besides (these functions' codes are not looked at). -/
structure Tab where
  F : FuncId → Option AFun
  ov : Ev

def Tab.ev (T : Tab) (n : Nat) : Ev := evalO T.F T.ov n

/-- The function's code in the table. -/
structure Has (T : Tab) (f : FuncId) (af : AFun) : Prop where
  code : T.F f = some af
  free : ∀ args h, T.ov f args h = none

theorem Has.succ {T : Tab} {f : FuncId} {af : AFun} (i : Has T f af) (m : Nat) (args : List AV) (h : Heap) : T.ev (m + 1) f args h = runFun (T.ev m) m af args h := by
  show (match T.ov f args h with
      | some r => some r
      | none => match T.F f with
        | some af => runFun (evalO T.F T.ov m) m af args h
        | none => none) = _
  rw [i.free, i.code]
  rfl

variable {F : Tab}

/-- So it ends, with enough fuel. -/
def To (F : Tab) (f : FuncId) (args : List AV) (h : Heap) (v : AV) (h' : Heap) : Prop := ∃ n, ∀ m, n ≤ m → F.ev m f args h = some (v, h')

theorem To.uniq {f : FuncId} {args : List AV} {h h1 h2 : Heap} {v1 v2 : AV} (a : To F f args h v1 h1) (b : To F f args h v2 h2) : v1 = v2 ∧ h1 = h2 := by
  obtain ⟨n, ha⟩ := a
  obtain ⟨m, hb⟩ := b
  have h1 := ha (max n m) (Nat.le_max_left _ _)
  rw [hb (max n m) (Nat.le_max_right _ _)] at h1
  simp only [Option.some.injEq, Prod.mk.injEq] at h1
  exact ⟨h1.1.symm, h1.2.symm⟩

def CQ (F : Tab) (f : FuncId) (args : List AV) (h : Heap) (K : AV → Heap → Prop) : Prop := ∃ v h', To F f args h v h' ∧ K v h'

theorem CQ.mono {f : FuncId} {args : List AV} {h : Heap} {K K' : AV → Heap → Prop} (c : CQ F f args h K) (hk : ∀ v h', K v h' → K' v h') : CQ F f args h K' :=
  let ⟨v, h', a, b⟩ := c; ⟨v, h', a, hk v h' b⟩

theorem CQ.intro {f : FuncId} {args : List AV} {h h' : Heap} {v : AV} {K : AV → Heap → Prop} (a : To F f args h v h') (k : K v h') : CQ F f args h K := ⟨v, h', a, k⟩
theorem CQ.out {f : FuncId} {args : List AV} {h : Heap} {K : AV → Heap → Prop} (c : CQ F f args h K) : ∃ v h', To F f args h v h' ∧ K v h' := c

/-- What is known of a call's outcome, as a law for its use. -/
theorem CQ.is {f : FuncId} {args : List AV} {h h' : Heap} {v : AV} (c : CQ F f args h fun u k => u = v ∧ k = h') (K : AV → Heap → Prop) : CQ F f args h K ↔ K v h' := by
  obtain ⟨u, k, a, rfl, rfl⟩ := c
  constructor
  · rintro ⟨v2, h2, b, hk⟩
    obtain ⟨rfl, rfl⟩ := a.uniq b
    exact hk
  · intro hk
    exact ⟨u, k, a, hk⟩

/-! ### Operations -/
def KPut (t : Tr AV) (d : Option Nat) (K : St → Prop) : AV → Heap → Prop := fun v h => K (putDst t d v, h)

def noE : Ev := fun _ _ _ => none

def oneOp (h : Heap) (ρ : AX → AV) (o : AOp) (K : AV → Heap → Prop) : Prop :=
  match evalOp noE h ρ o with
  | some (v, h') => K v h'
  | none => False

def wpOp (F : Tab) (h : Heap) (ρ : AX → AV) (o : AOp) (K : AV → Heap → Prop) : Prop :=
  match o with
  | .call f args => CQ F f (args.map ρ) h K
  | .callv f args => match ρ f with
    | .func g first cap => CQ F g (first ++ args.map ρ ++ cap) h K
    | _ => False
  | o => oneOp h ρ o K

def wpOper (F : Tab) (o : AOper) (K : St → Prop) (s : St) : Prop :=
  match guardOk s.1 o.guard with
  | some true => wpOp F s.2 (evalX s.1) o.op (KPut s.1 o.dst K)
  | some false => K (putDst s.1 o.dst (.tup []), s.2)
  | none => False

def wpOpers (F : Tab) : List AOper → (St → Prop) → St → Prop
  | [], K => K
  | o :: r, K => wpOper F o (wpOpers F r K)

/-- Alone: what was there before must be left alone. -/
def KAlone (n log : Nat) (K : St → Prop) : St → Prop := fun s => Nat.beq (Nat.mod s.2.log (Nat.pow 2 n)) 0 = true ∧ K (s.1, ⟨s.2.next, s.2.blks, log⟩)

def wpDraws (F : Tab) (n0 : Nat) : List (AOper × Md) → Nat → Nat → (St → Prop) → St → Prop
  | [], z, m, K => fun s => Nat.beq (Nat.land z m) 0 = true ∧ K s
  | (o, .plain) :: r, z, m, K => wpOper F o (wpDraws F n0 r z m K)
  | (o, .alone) :: r, z, m, K => cond o.op.acts
      (fun s => wpOper F o (KAlone s.2.next s.2.log (wpDraws F n0 r z m K)) (s.1, s.2.relaid))
      (wpOper F o (wpDraws F n0 r z m K))
  | (o, .mark) :: r, z, m, K => fun s => wpOper F o (fun s' => wpDraws F n0 r z (Nat.lor m s'.2.log) K (s'.1, ⟨s'.2.next, s'.2.blks, Nat.lor s.2.log s'.2.log⟩)) (s.1, s.2.relaid)
  | (o, .quiet) :: r, z, m, K => fun s => match quietZ n0 o s with
    | some b => wpOper F o (wpDraws F n0 r (Nat.lor z b) m K) s
    | none => False

/-! ### Code -/
def KSeq (rest : (AExit → St → Prop) → St → Prop) (Q : AExit → St → Prop) : AExit → St → Prop
  | .normal => rest Q
  | e => Q e

def KBlock (id : Nat) (Q : AExit → St → Prop) : AExit → St → Prop
  | .exit i => fun s => cond (Nat.beq i id) (Q .normal s) (Q (.exit i) s)
  | e => Q e

/-- The least set of states from which the rounds come to an end in Q. -/
def Rounds (body : (AExit → St → Prop) → St → Prop) (Q : AExit → St → Prop) (s : St) : Prop := ∀ I : St → Prop, (∀ s, body (KSeq (fun _ => I) Q) s → I s) → I s

def wp (F : Tab) : AC → (AExit → St → Prop) → St → Prop
  | .skip, Q => Q .normal
  | .reg ops, Q => wpOpers F ops (Q .normal)
  | .dreg ops _, Q => fun s => wpDraws F s.2.next ops 0 0 (Q .normal) s
  | .seq a b, Q => wp F a (KSeq (wp F b) Q)
  | .cond c a b, Q => fun s => match evalX s.1 c with
    | .bool true => wp F a Q s
    | .bool false => wp F b Q s
    | _ => False
  | .block id b, Q => wp F b (KBlock id Q)
  | .loop b, Q => Rounds (wp F b) Q
  | .scope b, Q => wp F b Q
  | .exit id, Q => Q (.exit id)
  | .ret, Q => Q .ret

/-- Where a function's body ends. -/
def KRet (res : List ARes) (K : AV → Heap → Prop) : AExit → St → Prop
  | .exit _ => fun _ => False
  | _ => fun s => match evalRess s res with
    | some [v] => K v s.2
    | some vs => K (.tup vs) s.2
    | none => False

/-! ### That it is right -/
theorem evalOp_noE {E : Ev} {h : Heap} {ρ : AX → AV} {o : AOp} {r : AV × Heap} (e : evalOp noE h ρ o = some r) : evalOp E h ρ o = some r := by
  cases o with
  | conv c x => cases c <;> exact e
  | call f args => simp [evalOp, AOp.acts, evalA, noE] at e
  | callv f args =>
    simp only [evalOp, AOp.acts, evalA, cond_true] at e
    split at e <;> simp [noE] at e
  | _ => exact e

theorem oneOp_ok {h : Heap} {ρ : AX → AV} {o : AOp} {K : AV → Heap → Prop} (w : oneOp h ρ o K) : ∃ v h', K v h' ∧ ∀ E, evalOp E h ρ o = some (v, h') := by
  unfold oneOp at w
  split at w
  · rename_i v h' e
    exact ⟨v, h', w, fun E => evalOp_noE e⟩
  · exact w.elim

theorem wpOp_ok {h : Heap} {ρ : AX → AV} {o : AOp} {K : AV → Heap → Prop} (w : wpOp F h ρ o K) : ∃ v h', K v h' ∧ ∃ n, ∀ m, n ≤ m → evalOp (F.ev m) h ρ o = some (v, h') := by
  have plain : oneOp h ρ o K → ∃ v h', K v h' ∧ ∃ n, ∀ m, n ≤ m → evalOp (F.ev m) h ρ o = some (v, h') := fun w =>
    let ⟨v, h', a, b⟩ := oneOp_ok w; ⟨v, h', a, 0, fun m _ => b _⟩
  cases o <;> first
    | exact plain w
    | skip
  · obtain ⟨v, h', ⟨n, hn⟩, hk⟩ := w
    exact ⟨v, h', hk, n, fun m hm => hn m hm⟩
  · rename_i f args
    simp only [wpOp] at w
    split at w
    · rename_i g first cap hf
      obtain ⟨v, h', ⟨n, hn⟩, hk⟩ := w
      refine ⟨v, h', hk, n, fun m hm => ?_⟩
      simp only [evalOp, AOp.acts, evalA, cond_true, hf]
      exact hn m hm
    · exact w.elim

theorem wpOper_ok {o : AOper} {K : St → Prop} {s : St} (w : wpOper F o K s) : ∃ s', K s' ∧ ∃ n, ∀ m, n ≤ m → evalOper (F.ev m) o s = some s' := by
  unfold wpOper at w
  unfold evalOper
  split at w
  · rename_i hg
    obtain ⟨v, h', hk, n, hn⟩ := wpOp_ok w
    exact ⟨_, hk, n, fun m hm => by rw [hg]; simp only; rw [hn m hm]⟩
  · rename_i hg
    exact ⟨_, w, 0, fun m _ => by rw [hg]⟩
  · exact w.elim

theorem wpOpers_ok : ∀ (l : List AOper) {K : St → Prop} {s : St}, wpOpers F l K s → ∃ s', K s' ∧ ∃ n, ∀ m, n ≤ m → evalOpers (F.ev m) l s = some s'
  | [], _, s, w => ⟨s, w, 0, fun _ _ => rfl⟩
  | o :: r, K, s, w => by
    obtain ⟨s1, h1, n1, e1⟩ := wpOper_ok w
    obtain ⟨s2, h2, n2, e2⟩ := wpOpers_ok r h1
    refine ⟨s2, h2, max n1 n2, fun m hm => ?_⟩
    simp only [evalOpers, e1 m (by omega), e2 m (by omega)]

theorem wpDraws_ok {n0 : Nat} : ∀ (l : List (AOper × Md)) {z d : Nat} {K : St → Prop} {s : St}, wpDraws F n0 l z d K s → ∃ s', K s' ∧ ∃ n, ∀ m, n ≤ m → evalDraws (F.ev m) n0 l z d s = some s'
  | [], z, d, K, s, w => ⟨s, w.2, 0, fun _ _ => by simp only [evalDraws, w.1, cond_true]⟩
  | (o, .plain) :: r, z, d, K, s, w => by
    obtain ⟨s1, h1, n1, e1⟩ := wpOper_ok w
    obtain ⟨s2, h2, n2, e2⟩ := wpDraws_ok r h1
    refine ⟨s2, h2, max n1 n2, fun m hm => ?_⟩
    simp only [evalDraws, e1 m (by omega), e2 m (by omega)]
  | (o, .alone) :: r, z, d, K, s, w => by
    unfold wpDraws at w
    cases ha : o.op.acts with
    | true =>
      rw [ha] at w
      obtain ⟨s1, ⟨h0, h1⟩, n1, e1⟩ := wpOper_ok w
      obtain ⟨s2, h2, n2, e2⟩ := wpDraws_ok r h1
      refine ⟨s2, h2, max n1 n2, fun m hm => ?_⟩
      simp only [evalDraws, evalAlone, ha, cond_true, e1 m (by omega), h0, e2 m (by omega)]
    | false =>
      rw [ha] at w
      obtain ⟨s1, h1, n1, e1⟩ := wpOper_ok w
      obtain ⟨s2, h2, n2, e2⟩ := wpDraws_ok r h1
      refine ⟨s2, h2, max n1 n2, fun m hm => ?_⟩
      simp only [evalDraws, evalAlone, ha, cond_false, e1 m (by omega), e2 m (by omega)]
  | (o, .mark) :: r, z, d, K, s, w => by
    unfold wpDraws at w
    obtain ⟨s1, h1, n1, e1⟩ := wpOper_ok w
    obtain ⟨s2, h2, n2, e2⟩ := wpDraws_ok r h1
    refine ⟨s2, h2, max n1 n2, fun m hm => ?_⟩
    simp only [evalDraws, e1 m (by omega), e2 m (by omega)]
  | (o, .quiet) :: r, z, d, K, s, w => by
    unfold wpDraws at w
    split at w
    · rename_i b hb
      obtain ⟨s1, h1, n1, e1⟩ := wpOper_ok w
      obtain ⟨s2, h2, n2, e2⟩ := wpDraws_ok r h1
      refine ⟨s2, h2, max n1 n2, fun m hm => ?_⟩
      simp only [evalDraws, hb, e1 m (by omega), e2 m (by omega)]
    · exact w.elim

/-- So a piece of code ends. -/
def Ends (F : Tab) (c : AC) (s : St) (e : AExit) (s' : St) : Prop := ∃ n, ∀ m k, n ≤ m → n ≤ k → evalC (F.ev m) k c s = some (e, s')

theorem rounds_ok {b : AC} (hb : ∀ (Q : AExit → St → Prop) (s : St), wp F b Q s → ∃ e s', Q e s' ∧ Ends F b s e s') {Q : AExit → St → Prop} {s : St} (w : Rounds (wp F b) Q s) : ∃ e s', Q e s' ∧ Ends F (.loop b) s e s' := by
  have key := w (fun s => ∃ e s', Q e s' ∧ ∃ n, ∀ m k j, n ≤ m → n ≤ k → n ≤ j → iter (evalC (F.ev m) k b) j s = some (e, s')) (fun s hs => by
    obtain ⟨e, s1, hq, n1, h1⟩ := hb _ s hs
    cases e with
    | normal =>
      obtain ⟨e2, s2, hq2, n2, h2⟩ := hq
      refine ⟨e2, s2, hq2, max n1 n2 + 1, fun m k j hm hk hj => ?_⟩
      obtain ⟨i, rfl⟩ : ∃ i, j = i + 1 := ⟨j - 1, by omega⟩
      simp only [iter, h1 m k (by omega) (by omega), h2 m k i (by omega) (by omega) (by omega)]
    | exit id =>
      refine ⟨_, s1, hq, n1 + 1, fun m k j hm hk hj => ?_⟩
      obtain ⟨i, rfl⟩ : ∃ i, j = i + 1 := ⟨j - 1, by omega⟩
      simp only [iter, h1 m k (by omega) (by omega)]
    | ret =>
      refine ⟨_, s1, hq, n1 + 1, fun m k j hm hk hj => ?_⟩
      obtain ⟨i, rfl⟩ : ∃ i, j = i + 1 := ⟨j - 1, by omega⟩
      simp only [iter, h1 m k (by omega) (by omega)])
  obtain ⟨e, s', hq, n, hn⟩ := key
  exact ⟨e, s', hq, n, fun m k hm hk => hn m k k hm hk hk⟩

theorem wp_ok : ∀ (c : AC) (Q : AExit → St → Prop) (s : St), wp F c.left Q s → ∃ e s', Q e s' ∧ Ends F c.left s e s'
  | .skip, Q, s, w => ⟨_, s, w, 0, fun _ _ _ _ => rfl⟩
  | .ret, Q, s, w => ⟨_, s, w, 0, fun _ _ _ _ => rfl⟩
  | .exit id, Q, s, w => ⟨_, s, w, 0, fun _ _ _ _ => rfl⟩
  | .reg ops, Q, s, w => by
    obtain ⟨s', hq, n, hn⟩ := wpOpers_ok ops w
    exact ⟨_, s', hq, n, fun m k hm _ => by simp only [AC.left, evalC, hn m hm, Option.map_some]⟩
  | .dreg a b, Q, s, w => by
    obtain ⟨s', hq, n, hn⟩ := wpDraws_ok a w
    exact ⟨_, s', hq, n, fun m k hm _ => by simp only [AC.left, evalC, hn m hm]⟩
  | .seq a b, Q, s, w => by
    obtain ⟨e, s1, hq, n1, h1⟩ := wp_ok a _ s w
    cases e with
    | normal =>
      obtain ⟨e2, s2, hq2, n2, h2⟩ := wp_ok b _ s1 hq
      refine ⟨e2, s2, hq2, max n1 n2, fun m k hm hk => ?_⟩
      simp only [AC.left, evalC, h1 m k (by omega) (by omega), h2 m k (by omega) (by omega)]
    | exit id => exact ⟨_, s1, hq, n1, fun m k hm hk => by simp only [AC.left, evalC, h1 m k hm hk]⟩
    | ret => exact ⟨_, s1, hq, n1, fun m k hm hk => by simp only [AC.left, evalC, h1 m k hm hk]⟩
  | .cond c a b, Q, s, w => by
    unfold AC.left wp at w
    split at w
    · rename_i hc
      obtain ⟨e, s1, hq, n1, h1⟩ := wp_ok a _ s w
      exact ⟨e, s1, hq, n1, fun m k hm hk => by simp only [AC.left, evalC, hc, h1 m k hm hk]⟩
    · rename_i hc
      obtain ⟨e, s1, hq, n1, h1⟩ := wp_ok b _ s w
      exact ⟨e, s1, hq, n1, fun m k hm hk => by simp only [AC.left, evalC, hc, h1 m k hm hk]⟩
    · exact w.elim
  | .block id b, Q, s, w => by
    obtain ⟨e, s1, hq, n1, h1⟩ := wp_ok b _ s w
    cases e with
    | normal => exact ⟨_, s1, hq, n1, fun m k hm hk => by simp only [AC.left, evalC, h1 m k hm hk]⟩
    | ret => exact ⟨_, s1, hq, n1, fun m k hm hk => by simp only [AC.left, evalC, h1 m k hm hk]⟩
    | exit i =>
      unfold KBlock at hq
      simp only at hq
      cases hi : Nat.beq i id with
      | true =>
        rw [hi] at hq
        exact ⟨_, s1, hq, n1, fun m k hm hk => by simp only [AC.left, evalC, h1 m k hm hk, hi, cond_true]⟩
      | false =>
        rw [hi] at hq
        exact ⟨_, s1, hq, n1, fun m k hm hk => by simp only [AC.left, evalC, h1 m k hm hk, hi, cond_false]⟩
  | .loop b, Q, s, w => rounds_ok (fun Q s => wp_ok b Q s) w
  | .scope b, Q, s, w => by
    obtain ⟨e, s1, hq, n1, h1⟩ := wp_ok b _ s w
    exact ⟨e, s1, hq, n1, fun m k hm hk => by simp only [AC.left, evalC, h1 m k hm hk]⟩

theorem left_left : ∀ c : AC, c.left.left = c.left
  | .skip | .ret | .exit _ | .reg _ | .dreg _ _ => rfl
  | .seq a b => by simp only [AC.left, left_left a, left_left b]
  | .cond c a b => by simp only [AC.left, left_left a, left_left b]
  | .block id b => by simp only [AC.left, left_left b]
  | .loop b => by simp only [AC.left, left_left b]
  | .scope b => by simp only [AC.left, left_left b]

/-- ████ A CALL OF A FUNCTION, BY ITS CODE ████ -/
theorem wp_call {f : FuncId} {n : Nat} {res : List ARes} {body : AC} (hf : Has F f (.code n res body)) (hl : body.left = body) {args : List AV} (ha : args.length ≤ n) {h : Heap} {K : AV → Heap → Prop}
    (w : wp F body (KRet res K) (Tr.putList .nil 0 args, h)) : CQ F f args h K := by
  rw [← hl] at w
  obtain ⟨e, s', hq, n1, h1⟩ := wp_ok body _ _ w
  rw [hl] at h1
  have hle : Nat.ble args.length n = true := Nat.ble_eq_true_of_le ha
  have go : ∀ (r : Option (List AV)) (v : AV), evalRess s' res = r → e = .normal ∨ e = .ret → (match r with
        | some [v] => some (v, s'.2)
        | some vs => some (.tup vs, s'.2)
        | none => none) = some (v, s'.2) → K v s'.2 → CQ F f args h K := by
    intro r v hr he hv hk
    refine ⟨v, s'.2, ⟨n1 + 1, fun m hm => ?_⟩, hk⟩
    obtain ⟨j, rfl⟩ : ∃ j, m = j + 1 := ⟨m - 1, by omega⟩
    rw [hf.succ]
    subst hr
    simp only [runFun, hle, cond_true, h1 j j (by omega) (by omega)]
    rcases he with rfl | rfl <;> exact hv
  have fin : ∀ r : Option (List AV), evalRess s' res = r → (match r with
      | some [v] => K v s'.2
      | some vs => K (.tup vs) s'.2
      | none => False) → e = .normal ∨ e = .ret → CQ F f args h K := by
    intro r hr hk he
    match r, hr, hk with
    | some [v], hr, hk => exact go _ v hr he rfl hk
    | some [], hr, hk => exact go _ _ hr he rfl hk
    | some (a :: b :: l), hr, hk => exact go _ _ hr he rfl hk
  cases e with
  | exit id => exact (hq : False).elim
  | normal => exact fin _ rfl hq (.inl rfl)
  | ret => exact fin _ rfl hq (.inr rfl)

theorem ext_call {f : FuncId} {x : Ext} (hf : Has F f (.ext x)) {args : List AV} {v : AV} {h : Heap} (e : evalExt x args = some v) (K : AV → Heap → Prop) : CQ F f args h K ↔ K v h := by
  refine CQ.is (h' := h) (v := v) ⟨v, h, ⟨1, fun m hm => ?_⟩, rfl, rfl⟩ K
  obtain ⟨j, rfl⟩ : ∃ j, m = j + 1 := ⟨m - 1, by omega⟩
  rw [hf.succ]
  simp [runFun, e]

/-! ### Rounds -/
theorem Rounds.step {body : (AExit → St → Prop) → St → Prop} (hmono : ∀ (Q R : AExit → St → Prop) s, (∀ e s, Q e s → R e s) → body Q s → body R s) {Q : AExit → St → Prop} {s : St} (h : body (KSeq (fun _ => Rounds body Q) Q) s) : Rounds body Q s := by
  intro I hI
  refine hI s (hmono _ _ s (fun e s1 h1 => ?_) h)
  cases e with
  | normal => exact h1 I hI
  | exit _ => exact h1
  | ret => exact h1

/-- Rounds that are counted down: `I n`: at most n rounds are ahead. -/
theorem Rounds.down {body : (AExit → St → Prop) → St → Prop} (hmono : ∀ (Q R : AExit → St → Prop) s, (∀ e s, Q e s → R e s) → body Q s → body R s) {Q : AExit → St → Prop} (I : Nat → St → Prop)
    (step : ∀ n s, I n s → body (KSeq (fun _ s' => ∃ m, m < n ∧ I m s') Q) s) : ∀ n s, I n s → Rounds body Q s := by
  intro n
  induction n using Nat.strongRecOn with
  | _ n ih =>
    intro s hs
    refine Rounds.step hmono (hmono _ _ s (fun e s1 h1 => ?_) (step n s hs))
    cases e with
    | normal =>
      obtain ⟨m, hm, hi⟩ := h1
      exact ih m hm s1 hi
    | exit _ => exact h1
    | ret => exact h1

theorem wpOp_mono {h : Heap} {ρ : AX → AV} {o : AOp} {K K' : AV → Heap → Prop} (hk : ∀ v h, K v h → K' v h) (w : wpOp F h ρ o K) : wpOp F h ρ o K' := by
  have plain : oneOp h ρ o K → oneOp h ρ o K' := fun w => by
    unfold oneOp at w ⊢
    split at w
    · exact hk _ _ w
    · exact w
  cases o <;> first
    | exact plain w
    | exact CQ.mono w hk
    | skip
  simp only [wpOp] at w ⊢
  split at w
  · exact CQ.mono w hk
  · exact w

theorem wpOper_mono {o : AOper} {K K' : St → Prop} {s : St} (hk : ∀ s, K s → K' s) (w : wpOper F o K s) : wpOper F o K' s := by
  unfold wpOper at w ⊢
  split at w
  · exact wpOp_mono (fun v h => hk _) w
  · exact hk _ w
  · exact w

theorem wpOpers_mono : ∀ (l : List AOper) {K K' : St → Prop} {s : St}, (∀ s, K s → K' s) → wpOpers F l K s → wpOpers F l K' s
  | [], _, _, _, hk, w => hk _ w
  | _ :: r, _, _, _, hk, w => wpOper_mono (fun _ h => wpOpers_mono r hk h) w

theorem wpDraws_mono {n0 : Nat} : ∀ (l : List (AOper × Md)) {z d : Nat} {K K' : St → Prop} {s : St}, (∀ s, K s → K' s) → wpDraws F n0 l z d K s → wpDraws F n0 l z d K' s
  | [], _, _, _, _, _, hk, w => ⟨w.1, hk _ w.2⟩
  | (o, .plain) :: r, z, d, K, K', s, hk, w => wpOper_mono (fun _ h => wpDraws_mono r hk h) w
  | (o, .alone) :: r, z, d, K, K', s, hk, w => by
    unfold wpDraws at w ⊢
    cases ha : o.op.acts with
    | true => rw [ha] at w; exact wpOper_mono (fun _ h => ⟨h.1, wpDraws_mono r hk h.2⟩) w
    | false => rw [ha] at w; exact wpOper_mono (fun _ h => wpDraws_mono r hk h) w
  | (o, .mark) :: r, z, d, K, K', s, hk, w => wpOper_mono (fun _ h => wpDraws_mono r hk h) w
  | (o, .quiet) :: r, z, d, K, K', s, hk, w => by
    unfold wpDraws at w ⊢
    split at w
    · exact wpOper_mono (fun _ h => wpDraws_mono r hk h) w
    · exact w

theorem wp_mono : ∀ (c : AC) (Q R : AExit → St → Prop) (s : St), (∀ e s, Q e s → R e s) → wp F c Q s → wp F c R s
  | .skip, _, _, s, h, w => h _ _ w
  | .ret, _, _, s, h, w => h _ _ w
  | .exit _, _, _, s, h, w => h _ _ w
  | .reg ops, _, _, s, h, w => wpOpers_mono ops (fun _ => h _ _) w
  | .dreg a b, _, _, s, h, w => wpDraws_mono a (fun _ => h _ _) w
  | .seq a b, Q, R, s, h, w => wp_mono a _ _ s (fun e s1 h1 => by
      cases e with
      | normal => exact wp_mono b Q R s1 h h1
      | exit _ => exact h _ _ h1
      | ret => exact h _ _ h1) w
  | .cond c a b, Q, R, s, h, w => by
    unfold wp at w ⊢
    split at w
    · exact wp_mono a Q R s h w
    · exact wp_mono b Q R s h w
    · exact w
  | .block id b, Q, R, s, h, w => wp_mono b _ _ s (fun e s1 h1 => by
      cases e with
      | normal => exact h _ _ h1
      | ret => exact h _ _ h1
      | exit i =>
        unfold KBlock at h1 ⊢
        simp only at h1 ⊢
        cases hi : Nat.beq i id with
        | true => rw [hi] at h1; exact h _ _ h1
        | false => rw [hi] at h1; exact h _ _ h1) w
  | .loop b, Q, R, s, h, w => fun I hI => w I fun s hs => hI s (wp_mono b _ _ s (fun e s1 h1 => by
      cases e with
      | normal => exact h1
      | exit _ => exact h _ _ h1
      | ret => exact h _ _ h1) hs)
  | .scope b, Q, R, s, h, w => wp_mono b Q R s h w

/-- ████ A LOOP: rounds that are counted down ████ -/
theorem wp_loop {b : AC} {Q : AExit → St → Prop} (I : Nat → St → Prop) (n : Nat) {s : St} (hs : I n s) (step : ∀ n s, I n s → wp F b (KSeq (fun _ s' => ∃ m, m < n ∧ I m s') Q) s) : wp F (.loop b) Q s :=
  Rounds.down (fun Q R s h w => wp_mono b Q R s h w) I step n s hs

/-- A loop with a count. -/
theorem wp_for {b : AC} {Q : AExit → St → Prop} (n : Nat) (I : Nat → Tr AV → Heap → Prop) {t : Tr AV} {h : Heap} (h0 : I 0 t h)
    (step : ∀ i t h, i < n → I i t h → wp F b (KSeq (fun _ s' => I (i + 1) s'.1 s'.2) Q) (t, h)) (last : ∀ t h, I n t h → wp F b (KSeq (fun _ _ => False) Q) (t, h)) : wp F (.loop b) Q (t, h) := by
  refine wp_loop (fun m s => ∃ i, i ≤ n ∧ m = n - i ∧ I i s.1 s.2) n ⟨0, by omega, by omega, h0⟩ ?_
  rintro m ⟨t, h⟩ ⟨i, hi, rfl, hI⟩
  by_cases hlt : i < n
  · refine wp_mono _ _ _ _ (fun e s1 h1 => ?_) (step i t h hlt hI)
    cases e with
    | normal => exact ⟨n - (i + 1), by omega, i + 1, hlt, rfl, h1⟩
    | exit _ => exact h1
    | ret => exact h1
  · obtain rfl : i = n := by omega
    refine wp_mono _ _ _ _ (fun e s1 h1 => ?_) (last t h hI)
    cases e with
    | normal => exact h1.elim
    | exit _ => exact h1
    | ret => exact h1

theorem wp_loop_step {b : AC} {Q : AExit → St → Prop} {s : St} (h : wp F b (KSeq (fun _ => wp F (.loop b) Q) Q) s) : wp F (.loop b) Q s :=
  Rounds.step (fun Q R s h w => wp_mono b Q R s h w) h


/-! ### The walk by simp: one operation after the other; what stands behind (K, Q) is not looked into -/


def dr (l : List (AOper × Md)) : AC := .dreg l l

/-- An outcome that turns no memory. -/
def kO (o : Option AV) (h : Heap) (K : AV → Heap → Prop) : Prop :=
  match o with
  | some v => K v h
  | none => False
def kA (o : Option (AV × Heap)) (K : AV → Heap → Prop) : Prop :=
  match o with
  | some (v, h) => K v h
  | none => False
def kC (v : AV) (F : Tab) (a b : AC) (Q : AExit → St → Prop) (s : St) : Prop :=
  match v with
  | .bool true => wp F a Q s
  | .bool false => wp F b Q s
  | _ => False
def kG (v : Option AV) (w : Bool) (F : Tab) (d : Option Nat) (op : AOp) (K : St → Prop) (t : Tr AV) (h : Heap) : Prop :=
  match v with
  | some (.bool c) => cond (c == w) (wpOp F h (evalX t) op (KPut t d K)) (K (putDst t d (.tup []), h))
  | some (.tup []) => K (putDst t d (.tup []), h)
  | _ => False
def kR (o : Option (List AV)) (h : Heap) (K : AV → Heap → Prop) : Prop :=
  match o with
  | some [v] => K v h
  | some vs => K (.tup vs) h
  | none => False
def kFn (v : AV) (F : Tab) (args : List AV) (h : Heap) (K : AV → Heap → Prop) : Prop :=
  match v with
  | .func g first cap => CQ F g (first ++ args ++ cap) h K
  | _ => False
def kQ (v : Option Nat) (F : Tab) (o : AOper) (n0 : Nat) (r : List (AOper × Md)) (z m : Nat) (K : St → Prop) (s : St) : Prop :=
  match v with
  | some b => wpOper F o (wpDraws F n0 r (Nat.lor z b) m K) s
  | none => False

@[congr] theorem kO_congr {o o' : Option AV} {h : Heap} {K : AV → Heap → Prop} (e : o = o') : kO o h K = kO o' h K := by rw [e]
@[congr] theorem kA_congr {o o' : Option (AV × Heap)} {K : AV → Heap → Prop} (e : o = o') : kA o K = kA o' K := by rw [e]
@[congr] theorem kC_congr {v v' : AV} {a b : AC} {Q : AExit → St → Prop} {s : St} (e : v = v') : kC v F a b Q s = kC v' F a b Q s := by rw [e]
@[congr] theorem kG_congr {v v' : Option AV} {w : Bool} {d : Option Nat} {op : AOp} {K : St → Prop} {t : Tr AV} {h : Heap} (e : v = v') : kG v w F d op K t h = kG v' w F d op K t h := by rw [e]
@[congr] theorem kR_congr {o o' : Option (List AV)} {h : Heap} {K : AV → Heap → Prop} (e : o = o') : kR o h K = kR o' h K := by rw [e]
@[congr] theorem kFn_congr {v v' : AV} {args args' : List AV} {h : Heap} {K : AV → Heap → Prop} (e : v = v') (e' : args = args') : kFn v F args h K = kFn v' F args' h K := by rw [e, e']
@[congr] theorem kQ_congr {v v' : Option Nat} {o : AOper} {n0 : Nat} {r : List (AOper × Md)} {z m : Nat} {K : St → Prop} {s : St} (e : v = v') : kQ v F o n0 r z m K s = kQ v' F o n0 r z m K s := by rw [e]
@[congr] theorem CQ_congr {f : FuncId} {args args' : List AV} {h h' : Heap} {K : AV → Heap → Prop} (e : args = args') (e' : h = h') : CQ F f args h K = CQ F f args' h' K := by rw [e, e']
@[congr] theorem wp_congr {c : AC} {Q : AExit → St → Prop} {s : St} : wp F c Q s = wp F c Q s := rfl
@[congr] theorem wpOpers_congr {l : List AOper} {K : St → Prop} {s : St} : wpOpers F l K s = wpOpers F l K s := rfl
@[congr] theorem wpDraws_congr {n0 : Nat} {l : List (AOper × Md)} {z m : Nat} {K : St → Prop} {s : St} : wpDraws F n0 l z m K s = wpDraws F n0 l z m K s := rfl
@[congr] theorem wpOper_congr {o : AOper} {K : St → Prop} {s : St} : wpOper F o K s = wpOper F o K s := rfl
@[congr] theorem wpOp_congr {h : Heap} {ρ : AX → AV} {o : AOp} {K : AV → Heap → Prop} : wpOp F h ρ o K = wpOp F h ρ o K := rfl

@[simp] theorem kO_some {v : AV} {h : Heap} {K : AV → Heap → Prop} : kO (some v) h K = K v h := (rfl)
@[simp] theorem kO_none {h : Heap} {K : AV → Heap → Prop} : kO none h K = False := (rfl)
@[simp] theorem kA_some {v : AV} {h : Heap} {K : AV → Heap → Prop} : kA (some (v, h)) K = K v h := (rfl)
@[simp] theorem kC_true {a b : AC} {Q : AExit → St → Prop} {s : St} : kC (.bool true) F a b Q s = wp F a Q s := (rfl)
@[simp] theorem kC_false {a b : AC} {Q : AExit → St → Prop} {s : St} : kC (.bool false) F a b Q s = wp F b Q s := (rfl)
@[simp] theorem kG_true {d : Option Nat} {op : AOp} {K : St → Prop} {t : Tr AV} {h : Heap} : kG (some (.bool true)) true F d op K t h = wpOp F h (evalX t) op (KPut t d K) := (rfl)
@[simp] theorem kG_false {d : Option Nat} {op : AOp} {K : St → Prop} {t : Tr AV} {h : Heap} : kG (some (.bool false)) false F d op K t h = wpOp F h (evalX t) op (KPut t d K) := (rfl)
@[simp] theorem kG_off {d : Option Nat} {op : AOp} {K : St → Prop} {t : Tr AV} {h : Heap} : kG (some (.bool false)) true F d op K t h = K (putDst t d (.tup []), h) := (rfl)
@[simp] theorem kG_off' {d : Option Nat} {op : AOp} {K : St → Prop} {t : Tr AV} {h : Heap} : kG (some (.bool true)) false F d op K t h = K (putDst t d (.tup []), h) := (rfl)
@[simp] theorem kG_tup {w : Bool} {d : Option Nat} {op : AOp} {K : St → Prop} {t : Tr AV} {h : Heap} : kG (some (.tup [])) w F d op K t h = K (putDst t d (.tup []), h) := by cases w <;> rfl
@[simp] theorem kR_one {v : AV} {h : Heap} {K : AV → Heap → Prop} : kR (some [v]) h K = K v h := (rfl)
@[simp] theorem kR_nil {h : Heap} {K : AV → Heap → Prop} : kR (some []) h K = K (.tup []) h := (rfl)
@[simp] theorem kR_two {v w : AV} {l : List AV} {h : Heap} {K : AV → Heap → Prop} : kR (some (v :: w :: l)) h K = K (.tup (v :: w :: l)) h := (rfl)
@[simp] theorem kFn_some {g : FuncId} {first cap args : List AV} {h : Heap} {K : AV → Heap → Prop} : kFn (.func g first cap) F args h K = CQ F g (first ++ args ++ cap) h K := (rfl)
@[simp] theorem kQ_some {b : Nat} {o : AOper} {n0 : Nat} {r : List (AOper × Md)} {z m : Nat} {K : St → Prop} {s : St} : kQ (some b) F o n0 r z m K s = wpOper F o (wpDraws F n0 r (Nat.lor z b) m K) s := (rfl)

/-! ### Code -/
@[simp ↓] theorem w_skip {Q : AExit → St → Prop} {s : St} : wp F .skip Q s = Q .normal s := (rfl)
@[simp ↓] theorem w_reg {l : List AOper} {Q : AExit → St → Prop} {s : St} : wp F (.reg l) Q s = wpOpers F l (Q .normal) s := (rfl)
@[simp ↓] theorem w_dr {l : List (AOper × Md)} {Q : AExit → St → Prop} {t : Tr AV} {h : Heap} : wp F (dr l) Q (t, h) = wpDraws F h.next l 0 0 (Q .normal) (t, h) := (rfl)
@[simp ↓] theorem w_seq {a b : AC} {Q : AExit → St → Prop} {s : St} : wp F (.seq a b) Q s = wp F a (KSeq (wp F b) Q) s := (rfl)
@[simp ↓] theorem w_cond {c : AX} {a b : AC} {Q : AExit → St → Prop} {t : Tr AV} {h : Heap} : wp F (.cond c a b) Q (t, h) = kC (evalX t c) F a b Q (t, h) := (rfl)
@[simp ↓] theorem w_block {id : Nat} {b : AC} {Q : AExit → St → Prop} {s : St} : wp F (.block id b) Q s = wp F b (KBlock id Q) s := (rfl)
@[simp ↓] theorem w_scope {b : AC} {Q : AExit → St → Prop} {s : St} : wp F (.scope b) Q s = wp F b Q s := (rfl)
@[simp ↓] theorem w_exit {id : Nat} {Q : AExit → St → Prop} {s : St} : wp F (.exit id) Q s = Q (.exit id) s := (rfl)
@[simp ↓] theorem w_ret {Q : AExit → St → Prop} {s : St} : wp F .ret Q s = Q .ret s := (rfl)
@[simp ↓] theorem s_normal {r : (AExit → St → Prop) → St → Prop} {Q : AExit → St → Prop} {s : St} : KSeq r Q .normal s = r Q s := (rfl)
@[simp ↓] theorem s_exit {r : (AExit → St → Prop) → St → Prop} {Q : AExit → St → Prop} {i : Nat} {s : St} : KSeq r Q (.exit i) s = Q (.exit i) s := (rfl)
@[simp ↓] theorem s_ret {r : (AExit → St → Prop) → St → Prop} {Q : AExit → St → Prop} {s : St} : KSeq r Q .ret s = Q .ret s := (rfl)
@[simp ↓] theorem b_normal {id : Nat} {Q : AExit → St → Prop} {s : St} : KBlock id Q .normal s = Q .normal s := (rfl)
@[simp ↓] theorem b_ret {id : Nat} {Q : AExit → St → Prop} {s : St} : KBlock id Q .ret s = Q .ret s := (rfl)
@[simp ↓] theorem b_exit {id : Nat} {Q : AExit → St → Prop} {s : St} : KBlock id Q (.exit id) s = Q .normal s := by simp [KBlock]
@[simp ↓] theorem b_pass {id i : Nat} {Q : AExit → St → Prop} {s : St} (h : ¬ i = id) : KBlock id Q (.exit i) s = Q (.exit i) s := by
  have : Nat.beq i id = false := by rw [nbeq]; exact decide_eq_false h
  simp [KBlock, this]
@[simp ↓] theorem r_normal {res : List ARes} {K : AV → Heap → Prop} {s : St} : KRet res K .normal s = kR (evalRess s res) s.2 K := (rfl)
@[simp ↓] theorem r_ret {res : List ARes} {K : AV → Heap → Prop} {s : St} : KRet res K .ret s = kR (evalRess s res) s.2 K := (rfl)

/-! ### Lists of operations -/
@[simp ↓] theorem l_nil {K : St → Prop} {s : St} : wpOpers F [] K s = K s := (rfl)
@[simp ↓] theorem l_cons {o : AOper} {r : List AOper} {K : St → Prop} {s : St} : wpOpers F (o :: r) K s = wpOper F o (wpOpers F r K) s := (rfl)
@[simp ↓ high] theorem d_nil {n0 : Nat} {K : St → Prop} {s : St} {m : Nat} : wpDraws F n0 [] 0 m K s = K s := by simp [wpDraws]
@[simp ↓] theorem d_nil' {n0 z m : Nat} {K : St → Prop} {s : St} : wpDraws F n0 [] z m K s = (Nat.beq (Nat.land z m) 0 = true ∧ K s) := (rfl)
@[simp ↓] theorem d_plain {n0 : Nat} {o : AOper} {r : List (AOper × Md)} {z m : Nat} {K : St → Prop} {s : St} : wpDraws F n0 ((o, .plain) :: r) z m K s = wpOper F o (wpDraws F n0 r z m K) s := (rfl)
@[simp ↓] theorem d_alone_load {n0 : Nat} {d : Option Nat} {a : AX} {n : Nat} {g : Bool} {gd : Option (Nat × Bool)} {r : List (AOper × Md)} {z m : Nat} {K : St → Prop} {s : St} :
    wpDraws F n0 ((⟨d, .load a n g, gd⟩, .alone) :: r) z m K s = wpOper F ⟨d, .load a n g, gd⟩ (wpDraws F n0 r z m K) s := (rfl)
@[simp ↓] theorem d_alone_call {n0 : Nat} {d : Option Nat} {f : FuncId} {a : List AX} {gd : Option (Nat × Bool)} {r : List (AOper × Md)} {z m : Nat} {K : St → Prop} {t : Tr AV} {h : Heap} :
    wpDraws F n0 ((⟨d, .call f a, gd⟩, .alone) :: r) z m K (t, h) = wpOper F ⟨d, .call f a, gd⟩ (KAlone h.next h.log (wpDraws F n0 r z m K)) (t, h.relaid) := (rfl)
@[simp ↓] theorem d_quiet {n0 : Nat} {o : AOper} {r : List (AOper × Md)} {z m : Nat} {K : St → Prop} {s : St} : wpDraws F n0 ((o, .quiet) :: r) z m K s = kQ (quietZ n0 o s) F o n0 r z m K s := by
  unfold wpDraws kQ; rfl
@[simp ↓] theorem o_none {d : Option Nat} {op : AOp} {K : St → Prop} {t : Tr AV} {h : Heap} : wpOper F ⟨d, op, none⟩ K (t, h) = wpOp F h (evalX t) op (KPut t d K) := (rfl)
@[simp ↓] theorem o_some {d : Option Nat} {op : AOp} {i : Nat} {w : Bool} {K : St → Prop} {t : Tr AV} {h : Heap} : wpOper F ⟨d, op, some (i, w)⟩ K (t, h) = kG (t.get i) w F d op K t h := by
  unfold wpOper guardOk kG
  simp only
  cases t.get i with
  | none => rfl
  | some v =>
    cases v with
    | bool c => cases c <;> cases w <;> rfl
    | tup l => cases l <;> rfl
    | _ => rfl
@[simp ↓] theorem p_some {t : Tr AV} {i : Nat} {K : St → Prop} {v : AV} {h : Heap} : KPut t (some i) K v h = K (t.put i (some v), h) := (rfl)
@[simp ↓] theorem p_none {t : Tr AV} {K : St → Prop} {v : AV} {h : Heap} : KPut t none K v h = K (t, h) := (rfl)
@[simp ↓] theorem a_alone {n log : Nat} {K : St → Prop} {t : Tr AV} {h : Heap} : KAlone n log K (t, h) = (Nat.beq (Nat.mod h.log (Nat.pow 2 n)) 0 = true ∧ K (t, ⟨h.next, h.blks, log⟩)) := (rfl)
@[simp] theorem put_some {t : Tr AV} {i : Nat} {v : AV} : putDst t (some i) v = t.put i (some v) := (rfl)
@[simp] theorem put_none {t : Tr AV} {v : AV} : putDst t none v = t := (rfl)

/-- Behind a marked operation. -/
def KMark (F : Tab) (n0 : Nat) (r : List (AOper × Md)) (z m log : Nat) (K : St → Prop) : St → Prop := fun s => wpDraws F n0 r z (Nat.lor m s.2.log) K (s.1, ⟨s.2.next, s.2.blks, Nat.lor log s.2.log⟩)
@[simp ↓] theorem d_mark {n0 : Nat} {o : AOper} {r : List (AOper × Md)} {z m : Nat} {K : St → Prop} {t : Tr AV} {h : Heap} : wpDraws F n0 ((o, .mark) :: r) z m K (t, h) = wpOper F o (KMark F n0 r z m h.log K) (t, h.relaid) := (rfl)
@[simp ↓] theorem m_mark {n0 : Nat} {r : List (AOper × Md)} {z m log : Nat} {K : St → Prop} {t : Tr AV} {h : Heap} : KMark F n0 r z m log K (t, h) = wpDraws F n0 r z (Nat.lor m h.log) K (t, ⟨h.next, h.blks, Nat.lor log h.log⟩) := (rfl)
@[simp ↓ high] theorem m_relaid {n0 : Nat} {r : List (AOper × Md)} {z m : Nat} {K : St → Prop} {t : Tr AV} {h : Heap} : KMark F n0 r z m h.log K (t, h.relaid) = wpDraws F n0 r z m K (t, h) := by
  have e : ∀ a, Nat.lor a 0 = a := fun a => Nat.or_zero a
  show wpDraws F n0 r z (Nat.lor m 0) K (t, ⟨h.next, h.blks, Nat.lor h.log 0⟩) = _
  rw [e, e]
@[simp ↓ high] theorem a_relaid {K : St → Prop} {t : Tr AV} {h : Heap} : KAlone h.next h.log K (t, h.relaid) = K (t, h) := by
  have e : Nat.beq (Nat.mod 0 (Nat.pow 2 h.next)) 0 = true := by rw [show Nat.mod 0 (Nat.pow 2 h.next) = 0 from Nat.zero_mod _]; rfl
  show (Nat.beq (Nat.mod 0 (Nat.pow 2 h.next)) 0 = true ∧ K (t, h)) = _
  rw [e]
  exact propext ⟨fun h => h.2, fun h => ⟨rfl, h⟩⟩
@[simp ↓ high] theorem d_nil0 {n0 z : Nat} {K : St → Prop} {s : St} : wpDraws F n0 [] z 0 K s = K s := by
  show (Nat.beq (Nat.land z 0) 0 = true ∧ K s) = K s
  rw [show Nat.land z 0 = 0 from Nat.and_zero z]
  simp
def qB (p : AV) (n0 : Nat) : Option Nat := match p with | .ptr b _ => cond (Nat.blt b n0) (some (Nat.pow 2 b)) none | _ => none
@[simp] theorem q_load {n0 n : Nat} {d : Option Nat} {a : AX} {g : Bool} {t : Tr AV} {h : Heap} : quietZ n0 ⟨d, .load a n g, none⟩ (t, h) = qB (evalX t a) n0 := by
  unfold quietZ qB
  simp only [guardOk]
  cases evalX t a <;> rfl

/-! ### Operands, results -/
@[simp] theorem x_t {t : Tr AV} {i : Nat} : evalX t (.t i) = (t.get i).getD .undef := (rfl)
@[simp] theorem x_c {t : Tr AV} {v : AV} : evalX t (.c v) = v := (rfl)
@[simp] theorem get_put_eq {t : Tr AV} {i : Nat} {x : Option AV} : (t.put i x).get i = x := Tr.get_put_self t i x
@[simp] theorem get_put_ne {t : Tr AV} {i j : Nat} {x : Option AV} (h : ¬ i = j) : (t.put i x).get j = t.get j := Tr.get_put_ne t i j x h
@[simp] theorem res_nil {s : St} : evalRess s [] = some [] := (rfl)
def resOne (v : Option AV) : Option AV :=
  match v with
  | some .undef => none
  | some v => some v
  | none => none
@[simp] theorem res_tmp {t : Tr AV} {h : Heap} {i : Nat} {r : List ARes} : evalRess (t, h) (.tmp i :: r) = (resOne (t.get i)).bind fun v => (evalRess (t, h) r).map (v :: ·) := by
  have h1 : evalRes (t, h) (.tmp i) = resOne (t.get i) := by
    unfold evalRes resOne
    simp only
    cases t.get i with
    | none => rfl
    | some v => cases v <;> rfl
  rw [← h1]
  rfl
theorem resOne_some {v : AV} (h : v ≠ .undef) : resOne (some v) = some v := by cases v <;> first | rfl | exact absurd rfl h
@[simp] theorem resOne_bool {b : Bool} : resOne (some (.bool b)) = some (.bool b) := (rfl)
@[simp] theorem resOne_int {k : IntKind} {n : Int} : resOne (some (.int k n)) = some (.int k n) := (rfl)
@[simp] theorem resOne_flt {b : Nat} : resOne (some (.flt b)) = some (.flt b) := (rfl)
@[simp] theorem resOne_cpx {a b : Nat} : resOne (some (.cpx a b)) = some (.cpx a b) := (rfl)
@[simp] theorem resOne_nilSl : resOne (some .nilSl) = some .nilSl := (rfl)
@[simp] theorem resOne_sl {a b c d : Nat} : resOne (some (.sl a b c d)) = some (.sl a b c d) := (rfl)
@[simp] theorem resOne_ptr {a b : Nat} : resOne (some (.ptr a b)) = some (.ptr a b) := (rfl)
@[simp] theorem resOne_nilPtr : resOne (some .nilPtr) = some .nilPtr := (rfl)
@[simp] theorem resOne_agg {l : List AV} : resOne (some (.agg l)) = some (.agg l) := (rfl)
@[simp] theorem args_nil {α : Type} {t : Tr α} {i : Nat} : Tr.putList t i [] = t := (rfl)
@[simp] theorem args_cons {α : Type} {t : Tr α} {i : Nat} {x : α} {l : List α} : Tr.putList t i (x :: l) = Tr.putList (t.put i (some x)) (i + 1) l := (rfl)

/-! ### The operations -/
variable {h : Heap} {ρ : AX → AV} {K : AV → Heap → Prop}
def pickV (c a b : AV) : Option AV := match c with | .bool v => some (cond v a b) | _ => none
def padV (p : AV) (off : Nat) : Option AV := match p with | .ptr b o => some (.ptr b (o + off)) | _ => none
def fieldV (x : AV) (off n : Nat) (agg : Bool) : Option AV := match x with | .agg cs => partOf agg cs off n | _ => none
def idxV (x i : AV) (n : Nat) : Option AV := match x, asNat i with
  | .sl b o len _, some i => cond (Nat.blt i len) (some (.ptr b (o + i * n))) none
  | _, _ => none
def idxA (x i : AV) (len n : Nat) : Option AV := match x, asNat i with
  | .ptr b o, some i => cond (Nat.blt i len) (some (.ptr b (o + i * n))) none
  | _, _ => none
def lenV (x : AV) : Option AV := match x with
  | .nilSl => some (.int .i64 0)
  | .sl _ _ n _ => some (.int .i64 n)
  | _ => none
def ldV (h : Heap) (a : AV) (n : Nat) (agg : Bool) : Option AV := match a with | .ptr b o => (h.load b o n).bind (asVal agg) | _ => none
def realV (x : AV) : Option AV := match x with | .cpx a _ => some (.flt a) | _ => none
def imagV (x : AV) : Option AV := match x with | .cpx _ b => some (.flt b) | _ => none
def cplxV (a b : AV) : Option AV := match a, b with | .flt a, .flt b => some (.cpx a b) | _, _ => none
def extrV (x : AV) (i : Nat) : Option AV := match x with | .tup vs => vs[i]? | _ => none
def toFltV (x : AV) : Option AV := match x with | .int _ n => some (.flt (FloatKind.f64.nearest n)) | _ => none
def toIntV (k : IntKind) (x : AV) : Option AV := match x with | .int _ n => some (.int k (wrapK k n)) | _ => none
def fltToIntV (k : IntKind) (x : AV) : Option AV := match x with | .flt b => fltToInt b k | _ => none
def nilckV (x : AV) : Option AV := match x with
  | .ptr b o => some (.ptr b o)
  | .sl b o l c => some (.sl b o l c)
  | .func f [] b => some (.func f [] b)
  | .iface t v => some (.iface t v)
  | _ => none
def slV (h : Heap) (x : AV) (lo hi : Option AV) (n : Nat) : Option AV :=
  let ρ : AX → AV := evalX .nil
  match x with
  | .sl b o len cap => cond (h.rowsOf b n) (match bounds ρ (lo.map .c) (hi.map .c) none len cap with
      | some (l, h, m) => some (.sl b (o + l * n) (h - l) (m - l))
      | none => none) none
  | .nilSl => match bounds ρ (lo.map .c) (hi.map .c) none 0 0 with
      | some _ => some .nilSl
      | none => none
  | _ => none
def storeV (h : Heap) (a x : AV) (n : Nat) : Option (AV × Heap) := match a with
  | .ptr b o => cond (Nat.beq x.cells.length n) ((h.store b o x.cells).map fun h' => (.tup [], h')) none
  | _ => none
/-- A row of these cells is made. -/
def made (h : Heap) (cells : List AV) (n : Nat) (ty : TypeId) : Heap := h.new (.row (Tr.putList .nil 0 cells) cells.length n true ty)
def buildV (h : Heap) (cells : Option (List AV)) (n len : Nat) (ty : TypeId) : Option (AV × Heap) :=
  match cells with
  | some cells => cond (Nat.beq cells.length (len * n)) ((h.row cells n ty).map fun p => (.sl p.1 0 len len, p.2)) none
  | none => none
def allocV (h : Heap) (cells : List AV) (ty : TypeId) : Option (AV × Heap) := (h.row cells 0 ty).map fun p => (.ptr p.1 0, p.2)
def mkV (h : Heap) (l c : AV) (zero : List AV) (n bytes : Nat) (ty : TypeId) : Option (AV × Heap) :=
  match asNat l, asNat c with
  | some l, some c => cond (Nat.ble l c && Nat.ble (c * bytes) 70368744177664)
      (some (.sl h.next 0 l c, h.new (.row (Tr.tab (c * n) (zerosOf zero)) (c * n) n true ty))) none
  | _, _ => none

theorem oneOp_kO {o : AOp} (ha : o.acts = false) : oneOp h ρ o K = kO (evalR h ρ o) h K := by
  unfold oneOp evalOp kO
  rw [ha]
  cases evalR h ρ o <;> rfl
theorem oneOp_kA {o : AOp} (ha : o.acts = true) : oneOp h ρ o K = kA (evalA noE h ρ o) K := by
  unfold oneOp evalOp kA
  rw [ha]
  rfl

@[simp ↓] theorem op_mv {x : AX} : wpOp F h ρ (.mv x) K = kO (some (ρ x)) h K := (rfl)
@[simp ↓] theorem op_pick {c a b : AX} : wpOp F h ρ (.pick c a b) K = kO (pickV (ρ c) (ρ a) (ρ b)) h K := by
  refine (oneOp_kO rfl).trans ?_
  unfold evalR pickV
  dsimp only
  cases ρ c <;> rfl
@[simp ↓] theorem op_build {z : List AV} {p : List (Nat × Nat × AX)} : wpOp F h ρ (.build z p) K = kO ((fillA z (fillEnv ρ p)).map .agg) h K := by
  show (match ((fillA z (fillEnv ρ p)).map AV.agg).map (fun v => (v, h)) with | some (v, h') => K v h' | none => False) = _
  cases fillA z (fillEnv ρ p) <;> rfl

@[simp ↓] theorem op_fieldAddr {x : AX} {off : Nat} : wpOp F h ρ (.fieldAddr x off) K = kO (padV (ρ x) off) h K := by
  refine (oneOp_kO rfl).trans ?_
  unfold evalR padV
  dsimp only
  cases ρ x <;> rfl
@[simp ↓] theorem op_field {x : AX} {off n : Nat} {g : Bool} : wpOp F h ρ (.field x off n g) K = kO (fieldV (ρ x) off n g) h K := by
  refine (oneOp_kO rfl).trans ?_
  unfold evalR fieldV
  dsimp only
  cases ρ x <;> rfl
@[simp ↓] theorem op_indexSl {x i : AX} {n : Nat} : wpOp F h ρ (.indexSl x i n) K = kO (idxV (ρ x) (ρ i) n) h K := by
  refine (oneOp_kO rfl).trans ?_
  unfold evalR idxV
  dsimp only
  cases ρ x <;> first | rfl | (cases asNat (ρ i) <;> rfl)
@[simp ↓] theorem op_indexArr {x i : AX} {len n : Nat} : wpOp F h ρ (.indexArr x i len n) K = kO (idxA (ρ x) (ρ i) len n) h K := by
  refine (oneOp_kO rfl).trans ?_
  unfold evalR idxA
  dsimp only
  cases ρ x <;> first | rfl | (cases asNat (ρ i) <;> rfl)
@[simp ↓] theorem op_lenSl {x : AX} : wpOp F h ρ (.lenSl x) K = kO (lenV (ρ x)) h K := by
  refine (oneOp_kO rfl).trans ?_
  unfold evalR lenV
  dsimp only
  cases ρ x <;> rfl
@[simp ↓] theorem op_lenK {n : Nat} : wpOp F h ρ (.lenK n) K = kO (some (.int .i64 n)) h K := (rfl)
@[simp ↓] theorem op_load {a : AX} {n : Nat} {g : Bool} : wpOp F h ρ (.load a n g) K = kO (ldV h (ρ a) n g) h K := by
  refine (oneOp_kO rfl).trans ?_
  unfold evalR ldV
  dsimp only
  cases ρ a <;> rfl
@[simp ↓] theorem op_real {x : AX} : wpOp F h ρ (.real x) K = kO (realV (ρ x)) h K := by
  refine (oneOp_kO rfl).trans ?_
  unfold evalR realV
  dsimp only
  cases ρ x <;> rfl
@[simp ↓] theorem op_imag {x : AX} : wpOp F h ρ (.imag x) K = kO (imagV (ρ x)) h K := by
  refine (oneOp_kO rfl).trans ?_
  unfold evalR imagV
  dsimp only
  cases ρ x <;> rfl
@[simp ↓] theorem op_cplx {a b : AX} : wpOp F h ρ (.cplx a b) K = kO (cplxV (ρ a) (ρ b)) h K := by
  refine (oneOp_kO rfl).trans ?_
  unfold evalR cplxV
  dsimp only
  cases ρ a <;> first | rfl | (cases ρ b <;> rfl)
@[simp ↓] theorem op_extract {x : AX} {i : Nat} : wpOp F h ρ (.extract x i) K = kO (extrV (ρ x) i) h K := by
  refine (oneOp_kO rfl).trans ?_
  unfold evalR extrV
  dsimp only
  cases ρ x <;> rfl
@[simp ↓] theorem op_bin {op : BinOp} {x y : AX} : wpOp F h ρ (.bin op x y) K = kO (binA op (ρ x) (ρ y)) h K := oneOp_kO rfl
@[simp ↓] theorem op_un {op : UnOp} {x : AX} : wpOp F h ρ (.un op x) K = kO (unA op (ρ x)) h K := oneOp_kO rfl
@[simp ↓] theorem op_eq {neg : Bool} {p : EqP} {x y : AX} : wpOp F h ρ (.eq neg p x y) K = kO ((eqA h p (ρ x) (ρ y)).map fun b => .bool (neg ^^ b)) h K := oneOp_kO rfl
@[simp ↓] theorem op_toFlt {x : AX} : wpOp F h ρ (.conv .toFlt x) K = kO (toFltV (ρ x)) h K := by
  refine (oneOp_kO rfl).trans ?_
  unfold evalR toFltV
  dsimp only
  cases ρ x <;> rfl
@[simp ↓] theorem op_toInt {k : IntKind} {x : AX} : wpOp F h ρ (.conv (.toInt k) x) K = kO (toIntV k (ρ x)) h K := by
  refine (oneOp_kO rfl).trans ?_
  unfold evalR toIntV
  dsimp only
  cases ρ x <;> rfl
@[simp ↓] theorem op_fltToInt {k : IntKind} {x : AX} : wpOp F h ρ (.conv (.fltToInt k) x) K = kO (fltToIntV k (ρ x)) h K := by
  refine (oneOp_kO rfl).trans ?_
  unfold evalR fltToIntV
  dsimp only
  cases ρ x <;> rfl
@[simp ↓] theorem op_nilck {x : AX} : wpOp F h ρ (.nilck x) K = kO (nilckV (ρ x)) h K := by
  refine (oneOp_kO rfl).trans ?_
  unfold evalR nilckV
  dsimp only
  cases ρ x <;> first | rfl | (rename_i f a b; cases a <;> rfl)
@[simp ↓] theorem op_mm {b : Bool} {x y : AX} : wpOp F h ρ (.mm b [x, y]) K = kO (mm2 b (ρ x) (ρ y)) h K := by
  refine (oneOp_kO rfl).trans ?_
  unfold evalR
  dsimp only
  simp only [List.map_cons, List.map_nil, mmL]
  cases mm2 b (ρ x) (ρ y) <;> rfl
@[simp ↓] theorem op_slSl {x : AX} {lo hi : Option AX} {n : Nat} : wpOp F h ρ (.slSl x lo hi none n) K = kO (slV h (ρ x) (lo.map ρ) (hi.map ρ) n) h K := by
  refine (oneOp_kO rfl).trans ?_
  unfold evalR slV bounds
  dsimp only
  cases ρ x <;> cases lo <;> cases hi <;> rfl
@[simp ↓] theorem op_store {a x : AX} {n : Nat} : wpOp F h ρ (.store a x n) K = kA (storeV h (ρ a) (ρ x) n) K := by
  refine (oneOp_kA rfl).trans ?_
  unfold evalA storeV
  dsimp only
  cases ρ a <;> rfl
@[simp ↓] theorem op_buildSl {z : List AV} {n len : Nat} {p : List (Nat × Nat × AX)} {ty : TypeId} : wpOp F h ρ (.buildSl z n len p ty) K = kA (buildV h (fillA z (fillEnv ρ p)) n len ty) K := by
  refine (oneOp_kA rfl).trans ?_
  unfold evalA buildV
  dsimp only
  cases fillA z (fillEnv ρ p) <;> rfl
@[simp ↓] theorem op_alloc {cells : List AV} {ty : TypeId} : wpOp F h ρ (.alloc cells ty) K = kA (allocV h cells ty) K := oneOp_kA rfl
@[simp ↓] theorem op_box {x : AX} {ty : TypeId} : wpOp F h ρ (.box x ty) K = kA (allocV h (ρ x).cells ty) K := oneOp_kA rfl
@[simp ↓] theorem op_mkSl {l c : AX} {z : List AV} {n b : Nat} {ty : TypeId} : wpOp F h ρ (.mkSl l c z n b ty) K = kA (mkV h (ρ l) (ρ c) z n b ty) K := oneOp_kA rfl
@[simp ↓] theorem op_app {s x : AX} {n b : Nat} {ty : TypeId} : wpOp F h ρ (.app s x n b ty) K = kA (appendA h (ρ s) (srcCells h n (ρ x)) n b ty) K := oneOp_kA rfl
def appzV (h : Heap) (s x : AV) (zero : List AV) (n bytes : Nat) (ty : TypeId) : Option (AV × Heap) :=
  match asNat x with
  | some m => cond (Nat.ble (m * bytes) 70368744177664) (appendA h s (some (m, manyZeros zero (m * n))) n bytes ty) none
  | none => none
@[simp ↓] theorem op_appz {s x : AX} {z : List AV} {n b : Nat} {ty : TypeId} : wpOp F h ρ (.appz s x z n b ty) K = kA (appzV h (ρ s) (ρ x) z n b ty) K := (oneOp_kA rfl)
@[simp ↓] theorem op_call {f : FuncId} {args : List AX} : wpOp F h ρ (.call f args) K = CQ F f (args.map ρ) h K := (rfl)
@[simp ↓] theorem op_callv {f : AX} {args : List AX} : wpOp F h ρ (.callv f args) K = kFn (ρ f) F (args.map ρ) h K := by
  show (match ρ f with | .func g first cap => CQ F g (first ++ args.map ρ ++ cap) h K | _ => False) = _
  unfold kFn
  cases ρ f <;> rfl
@[simp ↓] theorem op_mkFunc {f : FuncId} {a b : List AX} : wpOp F h ρ (.mkFunc f a b) K = kO (some (.func f (a.map ρ) (b.map ρ))) h K := (rfl)

/-! ### Values -/
@[simp] theorem pickV_bool {c : Bool} {a b : AV} : pickV (.bool c) a b = some (cond c a b) := (rfl)
@[simp] theorem padV_ptr {b o k : Nat} : padV (.ptr b o) k = some (.ptr b (o + k)) := (rfl)
@[simp] theorem lenV_nil : lenV .nilSl = some (.int .i64 0) := (rfl)
@[simp] theorem lenV_sl {b o n c : Nat} : lenV (.sl b o n c) = some (.int .i64 n) := (rfl)
@[simp] theorem realV_cpx {a b : Nat} : realV (.cpx a b) = some (.flt a) := (rfl)
@[simp] theorem imagV_cpx {a b : Nat} : imagV (.cpx a b) = some (.flt b) := (rfl)
@[simp] theorem cplxV_flt {a b : Nat} : cplxV (.flt a) (.flt b) = some (.cpx a b) := (rfl)
@[simp] theorem extrV_tup {l : List AV} {i : Nat} : extrV (.tup l) i = l[i]? := (rfl)
@[simp] theorem toFltV_int {k : IntKind} {n : Int} : toFltV (.int k n) = some (.flt (FloatKind.f64.nearest n)) := (rfl)
@[simp] theorem toIntV_int {k k' : IntKind} {n : Int} : toIntV k (.int k' n) = some (.int k (wrapK k n)) := (rfl)
@[simp] theorem fltToIntV_flt {k : IntKind} {b : Nat} : fltToIntV k (.flt b) = fltToInt b k := (rfl)
@[simp] theorem nilckV_ptr {b o : Nat} : nilckV (.ptr b o) = some (.ptr b o) := (rfl)
@[simp] theorem nilckV_func {f : FuncId} {l : List AV} : nilckV (.func f [] l) = some (.func f [] l) := (rfl)
@[simp] theorem fieldV_agg {l : List AV} {o n : Nat} {g : Bool} : fieldV (.agg l) o n g = partOf g l o n := (rfl)
@[simp] theorem mm2_int {b : Bool} {k k' : IntKind} {x y : Int} : mm2 b (.int k x) (.int k' y) = some (.int k (cond b (if y > x then y else x) (if y < x then y else x))) := (rfl)
@[simp] theorem unA_not {b : Bool} : unA .not (.bool b) = some (.bool !b) := (rfl)
@[simp] theorem unA_neg_int {k : IntKind} {n : Int} : unA .neg (.int k n) = some (.int k (wrapK k (0 - n))) := (rfl)
@[simp] theorem unA_neg_flt {b : Nat} : unA .neg (.flt b) = some (.flt (negF b)) := (rfl)
@[simp] theorem bi_add {k : IntKind} {a b : Int} : binA .add (.int k a) (.int k b) = some (.int k (wrapK k (a + b))) := by simp [binA, intBin]
@[simp] theorem bi_sub {k : IntKind} {a b : Int} : binA .sub (.int k a) (.int k b) = some (.int k (wrapK k (a - b))) := by simp [binA, intBin]
@[simp] theorem bi_mul {k : IntKind} {a b : Int} : binA .mul (.int k a) (.int k b) = some (.int k (wrapK k (a * b))) := by simp [binA, intBin]
@[simp] theorem bi_lss {k : IntKind} {a b : Int} : binA .lss (.int k a) (.int k b) = some (.bool (decide (a < b))) := by simp [binA, intBin]
@[simp] theorem bi_leq {k : IntKind} {a b : Int} : binA .leq (.int k a) (.int k b) = some (.bool (decide (a ≤ b))) := by simp [binA, intBin]
@[simp] theorem bi_gtr {k : IntKind} {a b : Int} : binA .gtr (.int k a) (.int k b) = some (.bool (decide (b < a))) := by simp [binA, intBin]
@[simp] theorem bi_geq {k : IntKind} {a b : Int} : binA .geq (.int k a) (.int k b) = some (.bool (decide (b ≤ a))) := by simp [binA, intBin]
@[simp] theorem bi_eql {k : IntKind} {a b : Int} : binA .eql (.int k a) (.int k b) = some (.bool (decide (a = b))) := by simp [binA, intBin]; rfl
@[simp] theorem bi_neq {k : IntKind} {a b : Int} : binA .neq (.int k a) (.int k b) = some (.bool (!decide (a = b))) := by simp [binA, intBin, bne]; rfl
theorem bi_rem {k : IntKind} {a b : Int} (hb : b ≠ 0) : binA .rem (.int k a) (.int k b) = some (.int k (a.tmod b)) := by simp [binA, intBin, hb]
theorem bi_quo {k : IntKind} {a b : Int} (hb : b ≠ 0) : binA .quo (.int k a) (.int k b) = some (.int k (wrapK k (a.tdiv b))) := by simp [binA, intBin, hb]
@[simp] theorem bi_and {k : IntKind} {a b : Int} : binA .and (.int k a) (.int k b) = intBin .and k a b := by simp [binA]
@[simp] theorem bi_or {k : IntKind} {a b : Int} : binA .or (.int k a) (.int k b) = intBin .or k a b := by simp [binA]
@[simp] theorem bi_xor {k : IntKind} {a b : Int} : binA .xor (.int k a) (.int k b) = intBin .xor k a b := by simp [binA]
@[simp] theorem bi_andNot {k : IntKind} {a b : Int} : binA .andNot (.int k a) (.int k b) = intBin .andNot k a b := by simp [binA]
@[simp] theorem bf_add {a b : Nat} : binA .add (.flt a) (.flt b) = (Ieee.double.add a b).map .flt := by
  simp only [binA, fBin, fArith]; cases Ieee.double.add a b <;> rfl
@[simp] theorem bf_sub {a b : Nat} : binA .sub (.flt a) (.flt b) = (Ieee.double.sub a b).map .flt := by
  simp only [binA, fBin, fArith]; cases Ieee.double.sub a b <;> rfl
@[simp] theorem bf_mul {a b : Nat} : binA .mul (.flt a) (.flt b) = (Ieee.double.mul a b).map .flt := by
  simp only [binA, fBin, fArith]; cases Ieee.double.mul a b <;> rfl
@[simp] theorem bf_quo {a b : Nat} : binA .quo (.flt a) (.flt b) = (Ieee.double.div a b).map .flt := by
  simp only [binA, fBin, fArith]; cases Ieee.double.div a b <;> rfl
@[simp] theorem bf_lss {a b : Nat} : binA .lss (.flt a) (.flt b) = (fCmp .lss a b).map .bool := (rfl)
@[simp] theorem bf_leq {a b : Nat} : binA .leq (.flt a) (.flt b) = (fCmp .leq a b).map .bool := (rfl)
@[simp] theorem bf_gtr {a b : Nat} : binA .gtr (.flt a) (.flt b) = (fCmp .gtr a b).map .bool := (rfl)
@[simp] theorem bf_geq {a b : Nat} : binA .geq (.flt a) (.flt b) = (fCmp .geq a b).map .bool := (rfl)
@[simp] theorem bf_eql {a b : Nat} : binA .eql (.flt a) (.flt b) = (fCmp .eql a b).map .bool := (rfl)
@[simp] theorem bf_neq {a b : Nat} : binA .neq (.flt a) (.flt b) = (fCmp .neq a b).map .bool := (rfl)
@[simp] theorem cells_cpx {a b : Nat} : (AV.cpx a b).cells = [.cpx a b] := (rfl)
@[simp] theorem cells_flt {a : Nat} : (AV.flt a).cells = [.flt a] := (rfl)
@[simp] theorem cells_int {k : IntKind} {n : Int} : (AV.int k n).cells = [.int k n] := (rfl)
@[simp] theorem cells_bool {b : Bool} : (AV.bool b).cells = [.bool b] := (rfl)
@[simp] theorem cells_agg {l : List AV} : (AV.agg l).cells = l := (rfl)
@[simp] theorem asNat_nat {k : IntKind} {n : Nat} : asNat (.int k n) = some n := (rfl)
@[simp] theorem asNat_zero {k : IntKind} : asNat (.int k 0) = some 0 := (rfl)
theorem asNat_of {k : IntKind} {n : Int} (hn : 0 ≤ n) : asNat (.int k n) = some n.toNat := by
  cases n with
  | ofNat m => rfl
  | negSucc m => omega

attribute [irreducible] wp wpOpers wpOper wpOp wpDraws oneOp KPut KSeq KBlock KRet KAlone KMark CQ kO kA kC kG kR kFn kQ

end Go.Proofs.Ytofaiipohmeelaa.Am
