/-
  The law FeedbackAdds holds (second form: what is read is of bulk at most 1048576): the function gives true and changes nothing that was there before. No other conditions.
  The walk stands in the Am and Fb texts (an abstract machine that is proved right, and contracts of the functions); here the row is closed over it.
-/
import Derived.Test.YtofaiipohmeelaaRows
import Derived.WalkKit
import Derived.ProofKit
import Derived.OpenShut
import Derived.JoinedCond
import Derived.Test.YtofaiipohmeelaaFbTab
import Derived.Test.YtofaiipohmeelaaFbH
namespace Go.Proofs.Ytofaiipohmeelaa.feedbackAdds
open Go.ChangeShapes Go.WideShapes Go.ChangeAt Go.RowKit
set_option linter.all false

theorem own : ownKnob Try.prog.godebug = none := by kernel_rfl
theorem laid : laidOutB Try.prog = true := by kernel_rfl
theorem c90 : Try.prog.cellsOf 90 = 3 := by kernel_rfl
theorem c35 : Try.prog.cellsOf 35 = 3 := by kernel_rfl
theorem c2 : Try.prog.cellsOf 2 = 1 := by kernel_rfl
theorem c4 : Try.prog.cellsOf 4 = 1 := by kernel_rfl
theorem c21 : Try.prog.cellsOf 21 = 1 := by kernel_rfl

/-- What the bound gives: a slice's length. -/
theorem one_le {H : Type} (d : DataW H) : 1 ≤ Rows.uptoBulk d := by
  cases d with
  | lit l => cases l <;> simp [Rows.uptoBulk]
  | nil => simp [Rows.uptoBulk]
  | ptr d => simp [Rows.uptoBulk]
  | slice elems spare => simp [Rows.uptoBulk]
  | agg parts => simp [Rows.uptoBulk]
  | iface t d => simp [Rows.uptoBulk]
  | map entries => simp [Rows.uptoBulk]
  | held h => simp [Rows.uptoBulk]

theorem length_le {H : Type} (l : List (DataW H)) : l.length ≤ Rows.uptoBulkAll l := by
  induction l with
  | nil => simp [Rows.uptoBulkAll]
  | cons x r ih => have := one_le x; simp only [Rows.uptoBulkAll, List.length_cons]; omega

theorem row_le {H : Type} {d : DataW H} {n : Nat} (h : (d = .nil ∧ n = 0) ∨ ∃ elems spare, d = .slice elems spare ∧ elems.length = n) : n ≤ Rows.uptoBulk d := by
  rcases h with ⟨_, rfl⟩ | ⟨elems, spare, rfl, rfl⟩
  · omega
  · have := length_le elems
    simp only [Rows.uptoBulk]
    omega

theorem tap_cells {H : Type} {enc : TypeId × Value → H} {W : World} {sp : Nat → Bool} (fuel : Nat) (cs : List Value) (x : DataW H × List MemPlace) (h : DataW.trod enc Try.prog W 0 sp true fuel 90 cs = some x) :
    Am.TapQ (cs.map Am.absV) := by
  obtain ⟨a, b, c, m, y0, y1, y2, rfl, h0, h1, h2⟩ := Am.flat3 Try.underlying90 c90 rfl rfl rfl c2 c2 c4 h
  obtain ⟨n0, e0, _, w0⟩ := DataW.trod_int Try.underlying2 h0
  obtain ⟨n1, e1, _, w1⟩ := DataW.trod_int Try.underlying2 h1
  obtain ⟨o, e2, _⟩ := DataW.trod_bool Try.underlying4 h2
  cases e0; cases e1; cases e2
  exact ⟨(n0, n1, o), rfl, Am.bound_i64 w0, Am.bound_i64 w1⟩

theorem set_cells {H : Type} {enc : TypeId × Value → H} {W : World} {sp : Nat → Bool} (fuel : Nat) (cs : List Value) (x : DataW H × List MemPlace) (h : DataW.trod enc Try.prog W 0 sp true fuel 35 cs = some x) :
    Am.SetQ (cs.map Am.absV) := by
  obtain ⟨a, b, c, m, y0, y1, y2, rfl, h0, h1, h2⟩ := Am.flat3 Try.underlying35 c35 rfl rfl rfl c21 c21 c4 h
  obtain ⟨n0, e0, _, w0⟩ := DataW.trod_int Try.underlying21 h0
  obtain ⟨n1, e1, _, w1⟩ := DataW.trod_int Try.underlying21 h1
  obtain ⟨o, e2, _⟩ := DataW.trod_bool Try.underlying4 h2
  cases e0; cases e1; cases e2
  have b0 := Am.bound_i32 w0
  have b1 := Am.bound_i32 w1
  exact ⟨(n0, n1, o), rfl, by simp only; omega, by simp only; omega⟩

set_option maxRecDepth 100000 in
theorem contract (H : Type) (enc : TypeId × Value → H) (W : World) (base : Nat) (args : Array Value) (ds gs : List (DataW H)) (before : List MemPlace)
    (hval : ∀ (j : Nat) t v, Try.f7.params[j]? = some t → args[j]? = some v → Value.okWide Try.prog W .any base t v)
    (hW : DataW.Whole enc Try.prog Try.f7.params.toList Rows.feedbackAddsSpec.vars false W args.toList ds gs before) (hk : Rows.uptoSmall H (ds ++ gs) = true) :
    Calls Try.prog 7 args W fun e W' => ∃ v, e = .returned v ∧ Rows.feedbackAddsSpec.post enc Try.prog Try.f7 false true false false W args v W' := by
  have hW' := hW
  obtain ⟨p, q, hA0, hV, rfl, hfz, hnd⟩ := hW
  have hlt := DataW.TrodAll.lt hA0
  have hA : DataW.TrodAll enc Try.prog W 0 (fun _ => true) true Try.f7.params.toList args.toList ds p := hA0
  rw [Try.params7] at hA hval
  obtain ⟨v0, vs0, d0, ds0, p0, q0, hargs, rfl, rfl, t0, r0⟩ := trodAll_cons hA
  obtain ⟨v1, vs1, d1, ds1, p1, q1, rfl, rfl, rfl, t1, r1⟩ := trodAll_cons r0
  obtain ⟨v2, vs2, d2, ds2, p2, q2, rfl, rfl, rfl, t2, r2⟩ := trodAll_cons r1
  obtain ⟨v3, vs3, d3, ds3, p3, q3, rfl, rfl, rfl, t3, r3⟩ := trodAll_cons r2
  obtain ⟨v4, vs4, d4, ds4, p4, q4, rfl, rfl, rfl, t4, r4⟩ := trodAll_cons r3
  obtain ⟨v5, vs5, d5, ds5, p5, q5, rfl, rfl, rfl, t5, r5⟩ := trodAll_cons r4
  obtain ⟨rfl, rfl, rfl⟩ := trodAll_nil r5
  obtain rfl : args = #[v0, v1, v2, v3, v4, v5] := by cases args; simp_all
  obtain ⟨rfl, rfl⟩ := trodVars_none hV
  have k0 := t0
  have k1 := t1
  have k5 := t5
  obtain ⟨a0, rfl, rfl, rfl, w0⟩ := open_int Try.underlying3 (hval 0 3 v0 rfl rfl) t0
  obtain ⟨a1, rfl, rfl, rfl, w1⟩ := open_int Try.underlying3 (hval 1 3 v1 rfl rfl) t1
  obtain ⟨a5, rfl, rfl, rfl, w5⟩ := open_int Try.underlying3 (hval 5 3 v5 rfl rfl) t5
  have s2 := Am.sliceIn_of Try.underlying22 (hval 2 22 v2 rfl rfl)
  have s3 := Am.sliceIn_of Try.underlying42 (hval 3 42 v3 rfl rfl)
  have s4 := Am.sliceIn_of Try.underlying42 (hval 4 42 v4 rfl rfl)
  obtain ⟨n2, g2, u2⟩ := Am.open_row Try.underlying22 c90 t2 s2 Am.TapQ tap_cells
  obtain ⟨n3, g3, u3⟩ := Am.open_row Try.underlying42 c35 t3 s3 Am.SetQ set_cells
  obtain ⟨n4, g4, u4⟩ := Am.open_row Try.underlying42 c35 t4 s4 Am.SetQ set_cells
  have hb : Rows.uptoBulkAll ([DataW.lit (.int .i64 a0), DataW.lit (.int .i64 a1), d2, d3, d4, DataW.lit (.int .i64 a5)] ++ []) ≤ 1048576 := of_decide_eq_true hk
  simp only [List.append_nil, Rows.uptoBulkAll] at hb
  have b2 := row_le u2
  have b3 := row_le u3
  have b4 := row_le u4
  let l : List (Am.ABlk × Option Am.G) := [Am.argB W 3 v2, Am.argB W 3 v3, Am.argB W 3 v4]
  have hl : ∀ x ∈ l, ∃ n v, x = Am.argB W n v := by
    intro x hx
    simp only [l, List.mem_cons, List.not_mem_nil, or_false] at hx
    rcases hx with rfl | rfl | rfl <;> exact ⟨_, _, rfl⟩
  obtain ⟨tre, tim, odd, rt⟩ := Am.TapRow.of (Am.argV_row s2 l 0 3 rfl (by omega) n2 (fun _ => Am.TapQ) g2)
  obtain ⟨re, im, lost, rl⟩ := Am.SetRow.of (Am.argV_row s3 l 1 3 rfl (by omega) n3 (fun _ => Am.SetQ) g3)
  obtain ⟨re2, im2, lost2, rm⟩ := Am.SetRow.of (Am.argV_row s4 l 2 3 rfl (by omega) n4 (fun _ => Am.SetQ) g4)
  have hc := Am.adds_ok Am.codes Am.awake_ok rt rl rm (by omega) (by omega) (by omega) a0 a1 a5
  refine (Am.enter Am.tab_sound Try.func7 (by kernel_rfl) (by kernel_rfl) hc (args' := #[.int .i64 a0, .int .i64 a1, v2, v3, v4, .int .i64 a5]) ?_ (Am.start_rel W l hl) (Am.start_own W l hl)).mono ?_
  · exact ⟨_, _, rfl, rfl, _, _, rfl, rfl, _, _, rfl, Am.argV_VR s2 l 0 3 rfl, _, _, rfl, Am.argV_VR s3 l 1 3 rfl, _, _, rfl, Am.argV_VR s4 l 2 3 rfl, _, _, rfl, rfl, rfl⟩
  · rintro e W' ⟨v, h', v', ρ', ⟨rfl, _⟩, rfl, hv, hbel⟩
    simp only [Am.VR] at hv
    subst hv
    have stay : ∀ {t : TypeId} {v : Value} {d : DataW H} {ps : List MemPlace}, DataW.Trod enc Try.prog W 0 (fun _ => true) true t v d ps → Try.prog.readableRec t = true → t < Try.prog.types.size → (∀ x ∈ ps, x.block < W.heap.size) → DataW.Trod enc Try.prog W' 0 (fun b => decide (b < W.heap.size)) true t v d ps :=
      fun h hr hrow hl => Below.trod laid hr hrow h hbel hl
    have m2 : ∀ x ∈ p2, x.block < W.heap.size := fun x hx => hlt x (by simp [hx])
    have m3 : ∀ x ∈ p3, x.block < W.heap.size := fun x hx => hlt x (by simp [hx])
    have m4 : ∀ x ∈ p4, x.block < W.heap.size := fun x hx => hlt x (by simp [hx])
    have pa := trodAll_cons_mk (shut_int Try.underlying3 w0) (trodAll_cons_mk (shut_int Try.underlying3 w1) (trodAll_cons_mk (stay t2 (by kernel_rfl) (of_decide_eq_true (by kernel_rfl)) m2) (trodAll_cons_mk (stay t3 (by kernel_rfl) (of_decide_eq_true (by kernel_rfl)) m3) (trodAll_cons_mk (stay t4 (by kernel_rfl) (of_decide_eq_true (by kernel_rfl)) m4) (trodAll_cons_mk (shut_int Try.underlying3 w5) trodAll_mk0)))))
    exact ⟨_, rfl, _, _, _, [], _, [], hW', (trodAll_cons_mk (shut_bool Try.underlying4 _) trodAll_mk0), pa, rfl, hbel.frame _, fun h => by cases h⟩

set_option maxRecDepth 100000 in
theorem lifted (os : Os) (started : os.Started) (H : Type) (enc : TypeId × Value → H) (F : Stop.Interp) :
    ReturnsInHanded {} Try.checked os 7 .any ((Rows.OpenSpec.upto Rows.feedbackAddsSpec).pre6 enc Try.prog Try.f7 Rows.feedbackAddsUptoRow.domain false) (((Rows.OpenSpec.upto Rows.feedbackAddsSpec).at F).post enc Try.prog Try.f7 false true false false) := by
  refine returnsInHanded_of_cond (C := Try.checked) (s := Rows.OpenSpec.upto Rows.feedbackAddsSpec) (k := Rows.uptoSmall) rfl own started (by kernel_rfl) Try.func7
    (OpenSpec.witness (enc := enc) (C := Try.checked) (s := Rows.OpenSpec.upto Rows.feedbackAddsSpec) (k := Rows.uptoSmall) rfl false ⟨#[], #[.int .i64 0, .int .i64 0, .slice none 0 0, .slice none 0 0, .slice none 0 0, .int .i64 0], []⟩ 8 (by kernel_rfl) (by kernel_rfl) (by kernel_rfl)
      (x := ([.lit (.int .i64 0), .lit (.int .i64 0), .nil, .nil, .nil, .lit (.int .i64 0)], [], [])) (by kernel_rfl) rfl (by kernel_rfl)) ?_
  intro W base args ds gs before hval hW _ hk _
  exact contract H enc W base args ds gs before hval hW hk

/-- ████ THE STATEMENT ████ -/
theorem proved : Rows.FeedbackAddsUptoSaid :=
  OpenClaim.holds_of_cond 7 Try.f7 rfl rfl rfl rfl rfl rfl rfl ⟨rfl, rfl, rfl, rfl, rfl⟩ rfl rfl rfl rfl rfl (by kernel_rfl) Try.func7 (by kernel_rfl)
    (of_decide_eq_true (by kernel_rfl)) (by unfold Func.isWrapper; first | (rw [if_pos (by decide +kernel)]; kernel_rfl) | (rw [if_neg (by decide +kernel)]; exact ⟨rfl, rfl⟩))
    (fun os started H enc _ F => lifted os started H enc F)
#print axioms proved
end Go.Proofs.Ytofaiipohmeelaa.feedbackAdds
