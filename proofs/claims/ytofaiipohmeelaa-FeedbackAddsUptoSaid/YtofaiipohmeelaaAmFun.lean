/-
  The abstract machine: functions.
-/
import Derived.Test.YtofaiipohmeelaaAmCode
import Derived.Laws.Externs
import GoSem.Extern.Table
namespace Go.Proofs.Ytofaiipohmeelaa.Am
variable {P : Program} {base : Nat} {ρ : Mp} {h : Heap} {W : World}

theorem res_sound {m : Nat} {s : St} {tmps : Array Value} (r : Rel base ρ s.2 W) (t : TR m ρ s.1 tmps) {rv : ResultVar} {ar : ARes} {v : AV} (hc : cRes P rv = some ar) (he : evalRes s ar = some v) :
    ∃ v', (match rv with
      | .tmp t => pure (tmps.getD t undef)
      | .cell a t => do loadVar t (← asAddr (tmps.getD a undef)) : Sem Value).run P W = .ok v' W ∧ VR ρ v v' := by
  cases rv with
  | tmp i =>
    simp only [cRes, Option.some.injEq] at hc; subst hc
    simp only [evalRes] at he
    split at he
    · simp at he
    · rename_i u _ hu
      simp only [Option.some.injEq] at he; subst he
      obtain ⟨v', h1, h2⟩ := t.val i _ hu
      exact ⟨v', by simp [Array.getD_eq_getD_getElem?, h1], h2⟩
    · simp at he
  | cell a ty =>
    simp only [cRes, Option.bind_eq_bind, Option.bind_eq_some_iff, Option.pure_def, Option.some.injEq] at hc
    obtain ⟨n, hn, agg, ha, rfl⟩ := hc
    simp only [evalRes] at he
    split at he
    · rename_i b o hb
      obtain ⟨p', h1, h2⟩ := t.val a _ hb
      simp only [VR] at h2
      obtain ⟨g, hg, rfl⟩ := h2
      simp only [Option.bind_eq_some_iff] at he
      obtain ⟨l, hl, hv⟩ := he
      obtain ⟨v', h3, h4⟩ := run_loadVar (P := P) r hg hl hv hn ha
      exact ⟨v', by simp [Array.getD_eq_getD_getElem?, h1, asAddr, h3], h4⟩
    · simp at he

theorem ress_sound {m : Nat} {s : St} {tmps : Array Value} (r : Rel base ρ s.2 W) (t : TR m ρ s.1 tmps) : ∀ (rvs : List ResultVar) (ars : List ARes) (vs : List AV), rvs.mapM (cRes P) = some ars → evalRess s ars = some vs →
    ∃ vs', (rvs.mapM fun
      | .tmp t => pure (tmps.getD t undef)
      | .cell a t => do loadVar t (← asAddr (tmps.getD a undef)) : Sem (List Value)).run P W = .ok vs' W ∧ VRs ρ vs vs'
  | [], ars, vs, hc, he => by
    simp at hc; subst hc
    simp [evalRess] at he; subst he
    exact ⟨[], by simp, rfl⟩
  | rv :: rvs, ars, vs, hc, he => by
    simp only [List.mapM_cons, Option.bind_eq_bind, Option.bind_eq_some_iff, Option.pure_def, Option.some.injEq] at hc
    obtain ⟨ar, h1, ars', h2, rfl⟩ := hc
    simp only [evalRess, Option.bind_eq_some_iff, Option.map_eq_some_iff] at he
    obtain ⟨v, hv, vs0, hvs, rfl⟩ := he
    obtain ⟨v', k1, k2⟩ := res_sound r t h1 hv
    obtain ⟨vs', k3, k4⟩ := ress_sound r t rvs ars' vs0 h2 hvs
    refine ⟨v' :: vs', ?_, ⟨_, _, rfl, k2, k4⟩⟩
    rw [List.mapM_cons]
    simp only [Sem.run_bind, k1, Result.andThen_ok, k3, Sem.run_pure]

/-- What a function gives. -/
def resVal : List AV → AV
  | [v] => v
  | vs => .tup vs

theorem results_sound {m : Nat} {s : St} {fn : Func} {tmps : Array Value} (r : Rel base ρ s.2 W) (t : TR m ρ s.1 tmps) {ars : List ARes} {vs : List AV} (hc : fn.results.toList.mapM (cRes P) = some ars) (he : evalRess s ars = some vs) :
    ∃ v', (results fn tmps).run P W = .ok v' W ∧ VR ρ (resVal vs) v' := by
  obtain ⟨vs', h1, h2⟩ := ress_sound r t _ _ _ hc he
  refine ⟨if h : vs'.length = 1 then vs'[0] else .tuple vs'.toArray, ?_, ?_⟩
  · simp only [results, Array.mapM_eq_mapM_toList, Sem.run_bind, Sem.run_map, Sem.run_pure]
    erw [h1]
    simp
  · have hl := h2.length
    match vs, vs', h2, hl with
    | [], [], h2, _ => exact ⟨#[], rfl, rfl⟩
    | [v], [v'], h2, _ =>
      simp only [VRs] at h2
      obtain ⟨w, ws, h3, h4, _⟩ := h2
      simp only [List.cons.injEq] at h3
      obtain ⟨rfl, _⟩ := h3
      exact h4
    | v1 :: v2 :: vs, w1 :: w2 :: ws, h2, _ => exact ⟨_, rfl, by simpa [resVal] using h2⟩

/-! ### Functions without a body -/
def extName : Ext → String
  | .bits => "math.Float64bits"
  | .from => "math.Float64frombits"
  | .floor => "math.archFloor"
  | .trunc => "math.archTrunc"
  | .ceil => "math.archCeil"
  | .amax => "math.archMax"
  | .amin => "math.archMin"

def extSem : Ext → Array Value → Sem Value
  | .bits => Extern.MathFloatBits.float64bits
  | .from => Extern.MathFloatBits.float64frombits
  | .floor => Extern.MathFloor.toIntegral "math.archFloor" .down
  | .trunc => Extern.MathFloor.toIntegral "math.archTrunc" .zero
  | .ceil => Extern.MathFloor.toIntegral "math.archCeil" .up
  | .amax => Extern.MathDim.pick "math.archMax" false .gt
  | .amin => Extern.MathDim.pick "math.archMin" true .lt

theorem cExt_name {fn : Func} {e : Ext} (h : cExt fn = some e) : fn.name = extName e := by
  unfold cExt at h
  split at h
  · rename_i hn; cases h; exact hn
  split at h
  · rename_i hn; cases h; exact hn
  split at h
  · rename_i hn; cases h; exact hn
  split at h
  · rename_i hn; cases h; exact hn
  split at h
  · rename_i hn; cases h; exact hn
  split at h
  · rename_i hn; cases h; exact hn
  split at h
  · rename_i hn; cases h; exact hn
  simp at h

theorem next_none : ∀ e, (Extern.allNextRows.lookup (extName e)).isNone = true := by intro e; cases e <;> kernel_rfl
theorem next_none0 : (Extern.allNextRows.lookup "").isNone = true := by kernel_rfl
theorem gen_none : ∀ e, (Extern.allGenericRows.lookup (extName e)).isNone = true := by intro e; cases e <;> kernel_rfl
theorem typed_none : ∀ e, (Extern.allTypedRows.lookup (extName e)).isNone = true := by intro e; cases e <;> kernel_rfl
theorem rows_some : ∀ e, Extern.allRows.lookup (extName e) = some (extSem e) := by intro e; cases e <;> kernel_rfl

theorem find_ext {fn : Func} {e : Ext} (hn : fn.name = extName e) (ho : fn.origin = "") : Extern.findNext fn = none ∧ Extern.find fn = some (extSem e) := by
  constructor
  · simp only [Extern.findNext, hn, ho, Option.isNone_iff_eq_none.1 (next_none e), Option.isNone_iff_eq_none.1 next_none0]
    rfl
  · simp only [Extern.find, hn, Option.isNone_iff_eq_none.1 (gen_none e), Option.isNone_iff_eq_none.1 (typed_none e), rows_some e]
    rfl

theorem toIntegral_eq (name : String) (way : Ieee.Toward) (x : Nat) : Extern.MathFloor.toIntegral name way #[.float .f64 x] = (match FloatKind.f64.decode x with
    | .nan s t =>
      if FloatKind.f64.format.quiet t = t then pure (.float .f64 x) else do
      let kept ← choose (.extern "math.Floor,Ceil,Trunc,RoundToEven.signallingNaN kept" 2)
      pure (.float .f64 (if kept == 1 then x else FloatKind.f64.encode (.nan s (FloatKind.f64.format.quiet t))))
    | d => pure (.float .f64 (FloatKind.f64.encode (d.integral way)))) := rfl

theorem whole_sound (name : String) (way : Ieee.Toward) (x : Nat) (v : AV) (h : evalExt.whole way x = some v) : ∃ b, v = .flt b ∧ (Extern.MathFloor.toIntegral name way #[.float .f64 x]).run P W = .ok (.float .f64 b) W := by
  unfold evalExt.whole at h
  rw [toIntegral_eq]
  rw [show FloatKind.f64.decode x = Ieee.double.read x from rfl]
  split at h
  · rename_i s t hd
    rw [hd]
    split at h
    · rename_i hq
      simp only [Option.some.injEq] at h; subst h
      refine ⟨x, rfl, ?_⟩
      simp only
      rw [if_pos (show FloatKind.f64.format.quiet t = t from hq)]
      rfl
    · simp at h
  · rename_i hd
    simp only [Option.some.injEq] at h; subst h
    refine ⟨_, rfl, ?_⟩
    split
    · rename_i s t hd'; exact absurd hd' (hd s t)
    · rfl

theorem toList_one {a : Array Value} {x : Value} (h : a.toList = [x]) : a = #[x] := by rw [← Array.toList_inj, h]
theorem toList_two {a : Array Value} {x y : Value} (h : a.toList = [x, y]) : a = #[x, y] := by rw [← Array.toList_inj, h]

theorem ext_sound {e : Ext} {args : List AV} {args' : Array Value} {v : AV} (ha : VRs ρ args args'.toList) (hv : evalExt e args = some v) : ∃ v', (extSem e args').run P W = .ok v' W ∧ VR ρ v v' := by
  unfold evalExt at hv
  split at hv <;> (try simp only [VRs] at ha)
  · obtain ⟨w, ws, h1, h2, rfl⟩ := ha
    simp only [VR] at h2; subst h2
    obtain rfl := toList_one h1
    simp only [Option.some.injEq] at hv; subst hv
    exact ⟨_, rfl, rfl⟩
  · obtain ⟨w, ws, h1, h2, rfl⟩ := ha
    simp only [VR] at h2; subst h2
    obtain rfl := toList_one h1
    simp only [Option.some.injEq] at hv; subst hv
    exact ⟨_, rfl, rfl⟩
  · obtain ⟨w, ws, h1, h2, rfl⟩ := ha
    simp only [VR] at h2; subst h2
    obtain rfl := toList_one h1
    obtain ⟨b, rfl, h3⟩ := whole_sound (P := P) (W := W) "math.archFloor" _ _ _ hv
    exact ⟨_, h3, rfl⟩
  · obtain ⟨w, ws, h1, h2, rfl⟩ := ha
    simp only [VR] at h2; subst h2
    obtain rfl := toList_one h1
    obtain ⟨b, rfl, h3⟩ := whole_sound (P := P) (W := W) "math.archTrunc" _ _ _ hv
    exact ⟨_, h3, rfl⟩
  · obtain ⟨w, ws, h1, h2, rfl⟩ := ha
    simp only [VR] at h2; subst h2
    obtain rfl := toList_one h1
    obtain ⟨b, rfl, h3⟩ := whole_sound (P := P) (W := W) "math.archCeil" _ _ _ hv
    exact ⟨_, h3, rfl⟩
  · obtain ⟨w, ws, h1, h2, w2, ws2, rfl, h3, rfl⟩ := ha
    simp only [VR] at h2 h3; subst h2 h3
    obtain rfl := toList_two h1
    simp only [Option.some.injEq] at hv; subst hv
    exact ⟨_, rfl, rfl⟩
  · obtain ⟨w, ws, h1, h2, w2, ws2, rfl, h3, rfl⟩ := ha
    simp only [VR] at h2 h3; subst h2 h3
    obtain rfl := toList_two h1
    simp only [Option.some.injEq] at hv; subst hv
    exact ⟨_, rfl, rfl⟩
  · simp at hv

/-! ### Calls -/
theorem TR.start {m : Nat} {args : List AV} {args' : Array Value} (ha : VRs ρ args args'.toList) (hm : args.length ≤ m) : TR m ρ (Tr.putList .nil 0 args) (args' ++ Array.replicate (m - args'.size) undef) := by
  have hl := ha.length
  have hsz : args'.size = args.length := by rw [hl]; simp
  refine ⟨by simp; omega, fun i v hv => ?_⟩
  rw [Tr.get_putList] at hv
  split at hv
  · rename_i hi
    obtain ⟨v', h1, h2⟩ := ha.get _ v hv
    refine ⟨v', ?_, h2⟩
    rw [Array.getElem?_append_left (by omega)]
    rw [Array.getElem?_toList] at h1
    simpa using h1
  · simp [Tr.get] at hv

theorem runFun_sound (hm : P.follows .mixedOrders = true) {E : Ev} (hE : SoundE P E) (k : Nat) {f : FuncId} {af : AFun} (hc : cFun P f = some af) (args : List AV) (h : Heap) (v : AV) (h' : Heap) (he : runFun E k af args h = some (v, h'))
    (base : Nat) (ρ : Mp) (W : World) (args' : Array Value) (ha : VRs ρ args args'.toList) (r : Rel base ρ h W) : CallGoes P base ρ h W f args' v h' := by
  unfold cFun at hc
  split at hc
  · simp at hc
  rename_i fn hfn
  split at hc
  · rename_i hb
    split at hc
    · rename_i ho
      simp only [Option.map_eq_some_iff] at hc
      obtain ⟨e, hce, rfl⟩ := hc
      simp only [runFun, Option.map_eq_some_iff, Prod.mk.injEq] at he
      obtain ⟨u, hu, rfl, rfl⟩ := he
      have hn := cExt_name hce
      obtain ⟨h1, h2⟩ := find_ext hn ho
      obtain ⟨v', h3, h4⟩ := ext_sound (P := P) (W := W) ha hu
      refine .inl ⟨v', ?_, h4, rfl⟩
      rw [run_callFunc_extern hfn (by rw [hn]; cases e <;> decide) (by simp [hb]) h1 h2, h3]
      rfl
    · simp at hc
  · rename_i body hb
    split at hc
    · simp at hc
    rename_i hnm
    simp only [Option.bind_eq_bind, Option.bind_eq_some_iff, Option.pure_def, Option.some.injEq] at hc
    obtain ⟨ars, hars, ac, hac, rfl⟩ := hc
    refine .inr ⟨?_, ?_⟩
    · simp [callFunc, hfn, hnm, hb]
    · simp only [runFun] at he
      cases hle : Nat.ble args.length fn.ntmps with
      | false => simp [hle] at he
      | true =>
        simp only [hle, cond_true] at he
        have t := TR.start ha (Nat.le_of_ble_eq_true hle)
        refine calls_of_wp hfn hb ?_
        cases hx : evalC E k ac (Tr.putList .nil 0 args, h) with
        | none => simp [hx] at he
        | some q =>
          obtain ⟨x, s1⟩ := q
          rw [hx] at he
          have fin : ∀ (hq : (match evalRess s1 ars with
              | some [v] => some (v, s1.2)
              | some vs => some (.tup vs, s1.2)
              | none => none) = some (v, h')) (a' : Act) (W' : World) (ρ' : Mp), TR fn.ntmps ρ' s1.1 a'.tmps → Step base ρ h W ρ' s1.2 W' → a'.defers = [] →
              a'.defers = [] ∧ ∃ u, (results fn a'.tmps).run P W' = .ok u W' ∧ ∃ v' ρ', Ending.returned u = .returned v' ∧ VR ρ' v v' ∧ Step base ρ h W ρ' h' W' := by
            intro hq a' W' ρ' t' st' d'
            refine ⟨d', ?_⟩
            cases hvs : evalRess s1 ars with
            | none => simp [hvs] at hq
            | some vs =>
              rw [hvs] at hq
              obtain ⟨u, h1, h2⟩ := results_sound (P := P) st'.rel t' hars hvs
              have hq' : resVal vs = v ∧ s1.2 = h' := by
                match vs, hq with
                | [], hq => simpa [resVal] using hq
                | [x], hq => simpa [resVal] using hq
                | x :: y :: vs, hq => simpa [resVal] using hq
              obtain ⟨rfl, rfl⟩ := hq'
              exact ⟨u, h1, u, ρ', rfl, h2, st'⟩
          refine code_goes hm hE fn.ntmps k body ac hac base ρ (Tr.putList .nil 0 args, h) s1 x _ W _ r t hx fun a' W' ρ' t' st' d' => ?_
          cases x with
          | exit i => simp at he
          | normal => exact fin he a' W' ρ' t' st' d'
          | ret => exact fin he a' W' ρ' t' st' d'

/-- ████ THE PROGRAM GOES AS THE ABSTRACT ONE DOES ████ -/
theorem evalF_sound (hm : P.follows .mixedOrders = true) {F : FuncId → Option AFun} (hF : ∀ f af, F f = some af → cFun P f = some af) : ∀ n, SoundE P (evalF F n)
  | 0 => fun f args h v h' e => by simp [evalF] at e
  | n + 1 => fun f args h v h' e base ρ W args' ha r => by
    have e' : (match F f with | some af => runFun (evalF F n) n af args h | none => none) = some (v, h') := e
    cases hf : F f with
    | none => simp [hf] at e'
    | some af =>
      rw [hf] at e'
      exact runFun_sound hm (evalF_sound hm hF n) n (hF f af hf) args h v h' e' base ρ W args' ha r

end Go.Proofs.Ytofaiipohmeelaa.Am
