/-
  The abstract machine: append, on both sides.
-/
import Derived.Test.YtofaiipohmeelaaAmApp
namespace Go.Proofs.Ytofaiipohmeelaa.Am
variable {P : Program} {base : Nat} {ρ : Mp} {h : Heap} {W : World}

theorem run_loadCells_at {blk : Nat} {arr : Array Value} {e : TypeId} {fr : Nat × Nat} (hb : W.heap[blk]? = some (.cells arr e fr)) {off n : Nat} (hs : off + n ≤ arr.size) :
    (loadCells ⟨blk, off, none⟩ n).run P W = .ok (arr.extract off (off + n)) W := by
  have h1 := run_loadCellsFrom (P := P) (W := W) (blk := blk) (off := off) n 0 (arr.extract off (off + n)).toList #[] (by simp; omega) (fun j hj => by
    rw [Array.getElem?_toList, Array.getElem?_extract_of_lt (by omega)]
    simp [World.cell?, hb])
  unfold loadCells
  rw [h1, Array.toArray_toList, Array.empty_append]

theorem oldCells_spec {cells t : Tr AV} {o k : Nat} (e : oldCells cells o k = some t) : ∀ i v, i < k → t.get i = some v → cells.get (o + i) = some v := by
  intro i v hi hv
  unfold oldCells at e
  cases ho : Nat.beq o 0 with
  | true =>
    simp only [ho, cond_true, Option.some.injEq] at e; subst e
    have := Nat.eq_of_beq_eq_true ho
    subst this; simpa using hv
  | false =>
    simp only [ho, cond_false, Option.map_eq_some_iff] at e
    obtain ⟨l, hl, rfl⟩ := e
    obtain ⟨h1, h2⟩ := readCells_spec _ _ _ _ hl
    rw [Tr.get_putList, if_pos (by omega)] at hv
    rw [h2 i hi]; simpa using hv

theorem app_sound (r : Rel base ρ h W) {s v : AV} {s' : Value} {m n bytes : Nat} {new : List AV} {new' : Array Value} {ty : TypeId} {h' : Heap} {z : Array Value} {call : Value → Sem Value} (hn0 : n ≠ 0)
    (hs : VR ρ s s') (hnew : VRs ρ new new'.toList) (hz : z.size = n)
    (hin : ∀ (a : Option Addr) (l c : Nat) (W' : World), l + m ≤ c → ((∀ b, a = some b → (storeCells (b.add (l * n)) new'.toList).run P W = .ok () W') ∧ (a = none → W' = W)) → (call (.slice a l c)).run P W = .ok (.slice a (l + m) c) W')
    (hgrow : ∀ (a : Option Addr) (l c : Nat) (old : Array Value), ¬ l + m ≤ c → (Builtin.firstCells n l (.slice a l c)).run P W.drew = .ok old W.drew → (l + m) * bytes ≤ 70368744177664 →
      (call (.slice a l c)).run P W = .ok (.slice (some ⟨W.heap.size, 0, none⟩) (l + m) (newCapOf W (l + m) c ty)) (W.drew.alloc (.cells (old ++ new' ++ Builtin.zeroCells z (newCapOf W (l + m) c ty - (l + m))) ty)))
    (e : appendA h s (some (m, new)) n bytes ty = some (v, h')) :
    ∃ v' W' ρ', (call s').run P W = .ok v' W' ∧ VR ρ' v v' ∧ Step base ρ h W ρ' h' W' := by
  simp only [appendA] at e
  cases hl0 : Nat.beq new.length (m * n) with
  | false => simp [hl0] at e
  | true =>
  simp only [hl0, cond_true] at e
  have hlen := Nat.eq_of_beq_eq_true hl0
  have hlen' := hnew.length
  simp only [Array.length_toList] at hlen'
  -- a new array on both sides
  have grown : ∀ (h1 : Heap) (r1 : Rel base ρ h1 W) (l c : Nat) (old : Array Value) (tr : Tr AV), h1.next = h.next → old.size = l * n →
      (∀ i u, i < l * n → tr.get i = some u → ∃ u', old[i]? = some u' ∧ VR ρ u u') →
      Step base ρ h1 W (ρ.put h1.next ⟨W.heap.size, 0, true, n, (l + m) * n + (newCapOf W (l + m) c ty - (l + m)) * n⟩) (h1.new (.row (tr.putList (l * n) new) ((l + m) * n) n true ty))
        (W.drew.alloc (.cells (old ++ new' ++ Builtin.zeroCells z (newCapOf W (l + m) c ty - (l + m))) ty)) := by
    intro h1 r1 l c old tr hnx hold hrel
    refine step_new r1 ⟨rfl, ⟨rfl, rfl, rfl⟩⟩ rfl rfl ?_
    have hmul : (l + m) * n = l * n + m * n := Nat.add_mul _ _ _
    refine ⟨rfl, rfl, _, ty, (0, 0), by show (W.heap.push _)[W.heap.size]? = _; rw [Array.getElem?_push_size], ?_, ?_, fun _ => ⟨fun i _ => by simp, fun _ => rfl⟩, ?_⟩
    · simp only [Array.size_append, zeroCells_size, hz]; omega
    · simp only [Nat.zero_add]; omega
    · intro i u hi hu
      rw [Tr.get_putList] at hu
      rw [Nat.zero_add]
      by_cases c1 : l * n ≤ i ∧ i < l * n + new.length
      · rw [if_pos c1] at hu
        obtain ⟨u', w1, w2⟩ := hnew.get _ _ hu
        rw [Array.getElem?_toList] at w1
        have hlt := (Array.getElem?_eq_some_iff.1 w1).1
        refine ⟨u', ?_, VR.mono (r1.le_put _) _ _ w2⟩
        rw [Array.getElem?_append_left (by simp; omega), Array.getElem?_append_right (by omega), hold]; exact w1
      · rw [if_neg c1] at hu
        obtain ⟨u', w1, w2⟩ := hrel i u (by omega) hu
        have hlt := (Array.getElem?_eq_some_iff.1 w1).1
        refine ⟨u', ?_, VR.mono (r1.le_put _) _ _ w2⟩
        rw [Array.append_assoc, Array.getElem?_append_left hlt]; exact w1
  cases s <;> simp only [reduceCtorEq] at e
  case nilSl =>
    simp only [VR] at hs; subst hs
    cases hm0 : Nat.beq m 0 with
    | true =>
      simp only [hm0, cond_true, Option.some.injEq, Prod.mk.injEq] at e
      obtain ⟨rfl, rfl⟩ := e
      have := Nat.eq_of_beq_eq_true hm0
      subst this
      exact ⟨_, W, ρ, hin none 0 0 W (by omega) ⟨fun b hb => by simp at hb, fun _ => rfl⟩, by simp [VR], Step.refl r⟩
    | false =>
      have hm : m ≠ 0 := fun hh => by subst hh; simp at hm0
      simp only [hm0, cond_false] at e
      cases hc : (Nat.ble (m * bytes) 70368744177664 && allOne new) with
      | false => simp [hc] at e
      | true =>
        simp only [hc, cond_true, Option.some.injEq, Prod.mk.injEq] at e
        obtain ⟨rfl, rfl⟩ := e
        simp only [Bool.and_eq_true] at hc
        have hb := Nat.le_of_ble_eq_true hc.1
        have hrun := hgrow none 0 0 #[] (by omega) (by simp [Builtin.firstCells]) (by simpa using hb)
        have st := grown h r 0 0 #[] .nil rfl (by simp) (fun i u hi _ => by omega)
        simp only [Nat.zero_add, Nat.zero_mul] at hrun st
        refine ⟨_, _, _, hrun, ⟨_, _, rfl, .inl ⟨_, Mp.put_self _ _ _, rfl, newCap_ge W m 0 ty, fun _ => .inr ?_⟩⟩, st⟩
        simp only [Nat.zero_add]
        rw [← Nat.add_mul, Nat.add_sub_cancel' (newCap_ge W m 0 ty)]; exact Nat.le_refl _
  case sl b o len cap =>
    simp only [VR] at hs
    obtain ⟨a, c', rfl, hs⟩ := hs
    cases hm0 : Nat.beq m 0 with
    | true =>
      simp only [hm0, cond_true] at e
      have := Nat.eq_of_beq_eq_true hm0
      subst this
      have hn0 : new' = #[] := Array.eq_empty_of_size_eq_zero (by rw [← hlen', hlen]; omega)
      cases hlc : Nat.ble len cap with
      | false => simp [hlc] at e
      | true =>
        simp only [hlc, cond_true, Option.some.injEq, Prod.mk.injEq] at e
        obtain ⟨rfl, rfl⟩ := e
        have hlc := Nat.le_of_ble_eq_true hlc
        have hcc : cap ≤ c' := by rcases hs with ⟨_, _, _, h1, _⟩ | ⟨_, h1, _⟩ <;> omega
        have hrun := hin (some a) len c' W (by omega) ⟨fun b hb => by subst hn0; simp [storeCells], fun hh => by simp at hh⟩
        exact ⟨_, W, ρ, hrun, ⟨a, c', by simp, hs⟩, Step.refl r⟩
    | false =>
      have hm : m ≠ 0 := fun hh => by subst hh; simp at hm0
      simp only [hm0, cond_false] at e
      cases hfit : Nat.ble (len + m) cap with
      | true =>
        -- there is room, for both
        simp only [hfit, cond_true, Option.map_eq_some_iff, Prod.mk.injEq] at e
        obtain ⟨h1, he, rfl, rfl⟩ := e
        have hfit := Nat.le_of_ble_eq_true hfit
        rcases hs with ⟨g, hg, rfl, hcc, hb⟩ | ⟨_, h1, _⟩
        · obtain ⟨W', w1, w2, _⟩ := store_sound (P := P) r hg hnew he
          have hrun := hin (some ⟨g.blk, g.off + o, none⟩) len c' W' (by omega) ⟨fun b hb => by simp at hb; subst hb; rw [add_spotless, Nat.add_assoc]; exact w1, fun hh => by simp at hh⟩
          exact ⟨_, W', ρ, hrun, ⟨_, c', rfl, .inl ⟨g, hg, rfl, hcc, hb⟩⟩, w2⟩
        · omega
      | false =>
        simp only [hfit, cond_false] at e
        have hfit : ¬ len + m ≤ cap := fun hh => by rw [Nat.ble_eq_true_of_le hh] at hfit; simp at hfit
        split at e
        · rename_i cells size n' own ty' hbk
          cases hc : (Nat.ble ((len + m) * bytes) 70368744177664 && own && Nat.beq n' n && Nat.ble (o + len * n) size && allOne new) with
          | false => simp [hc] at e
          | true =>
            simp only [hc, cond_true] at e
            simp only [Bool.and_eq_true] at hc
            obtain ⟨⟨⟨⟨hby, rfl⟩, hn'⟩, hsz⟩, hone⟩ := hc
            have hn' := Nat.eq_of_beq_eq_true hn'
            have hby := Nat.le_of_ble_eq_true hby
            have hsz := Nat.le_of_ble_eq_true hsz
            subst hn'
            split at e
            · rename_i old hold
              simp only [Option.some.injEq, Prod.mk.injEq] at e
              obtain ⟨rfl, rfl⟩ := e
              have hocs := oldCells_spec hold
              have sd := step_dies r hbk
              -- what the model does: it grows, or not
              have big : ∀ (c' : Nat) (a : Addr) (oldc : Array Value), ¬ len + m ≤ c' → (Builtin.firstCells n' len (.slice (some a) len c')).run P W.drew = .ok oldc W.drew → oldc.size = len * n' →
                  (∀ i u, i < len * n' → old.get i = some u → ∃ u', oldc[i]? = some u' ∧ VR ρ u u') →
                  ∃ v' W' ρ', (call (.slice (some a) len c')).run P W = .ok v' W' ∧ VR ρ' (.sl h.next 0 (len + m) (len + m)) v' ∧
                    Step base ρ h W ρ' ((h.turn b none).new (.row (old.putList (len * n') new) ((len + m) * n') n' true ty)) W' := by
                intro c' a oldc hf hfc hos hrel
                have hrun := hgrow (some a) len c' oldc hf hfc hby
                have st := grown (h.turn b none) sd.rel len c' oldc old rfl hos hrel
                refine ⟨_, _, _, hrun, ⟨_, _, rfl, .inl ⟨_, Mp.put_self _ _ _, rfl, newCap_ge W (len + m) c' ty, fun _ => .inr ?_⟩⟩, sd.trans st⟩
                simp only [Nat.zero_add]
                rw [← Nat.add_mul, Nat.add_sub_cancel' (newCap_ge W (len + m) c' ty)]; exact Nat.le_refl _
              rcases hs with ⟨g, hg, rfl, hcc, hbd⟩ | ⟨rfl, rfl, rfl, _⟩
              · obtain ⟨g1, g2, arr, el, fr, g3, g4, g5, g6, g7⟩ := r.blk b _ g hbk hg
                have hrelo : ∀ i u, i < len * n' → old.get i = some u → ∃ u', arr[g.off + o + i]? = some u' ∧ VR ρ u u' := by
                  intro i u hi hu
                  have := g7 (o + i) u (by omega) (hocs i u hi hu)
                  rw [← Nat.add_assoc] at this; exact this
                by_cases hroom : len + m ≤ c'
                · -- the model stores in place
                  have hbd : g.off + o + c' * n' ≤ g.csize := by
                    rcases hbd g1 with h0 | h0
                    · rw [g2] at h0; exact absurd h0 hn0
                    · rw [g2] at h0; exact h0
                  have hmul : (len + m) * n' = len * n' + m * n' := Nat.add_mul _ _ _
                  have hmc : (len + m) * n' ≤ c' * n' := Nat.mul_le_mul_right _ hroom
                  obtain ⟨W', arr', w1, w2, w3, _, w4⟩ := run_storeCells (P := P) new'.toList (g.off + o + len * n') 0 W arr el fr g3 (allOne_isOne hnew hone) (by simp; omega) (g6 rfl).1
                  have hlt := (Array.getElem?_eq_some_iff.1 g3).1
                  have hrun := hin (some ⟨g.blk, g.off + o, none⟩) len c' W' hroom ⟨fun b hb => by simp at hb; subst hb; rw [add_spotless]; exact w1, fun hh => by simp at hh⟩
                  refine ⟨_, W', ρ.put h.next ⟨g.blk, g.off + o, true, n', g.csize⟩, hrun, ⟨_, c', rfl, .inl ⟨_, Mp.put_self _ _ _, by simp, by omega, fun _ => .inr (by simpa using hbd)⟩⟩, ?_⟩
                  refine step_moved r hbk hg rfl rfl rfl w2 ?_
                  refine ⟨rfl, rfl, arr', el, fr, ?_, by simp only []; omega, by simp only []; omega, fun _ => ⟨by rw [w3]; exact (g6 rfl).1, (g6 rfl).2⟩, ?_⟩
                  · rw [w2.heap, Array.getElem?_setIfInBounds_self_of_lt hlt]
                  · intro i u hi hu
                    rw [Tr.get_putList] at hu
                    rw [w4]
                    simp only [Array.length_toList, Nat.add_zero]
                    by_cases c1 : len * n' ≤ i ∧ i < len * n' + new.length
                    · rw [if_pos c1] at hu
                      obtain ⟨u', k1, k2⟩ := hnew.get _ _ hu
                      refine ⟨u', ?_, VR.mono (r.le_put _) _ _ k2⟩
                      rw [if_pos (by omega), show g.off + o + i - (g.off + o + len * n') = i - len * n' from by omega]; exact k1
                    · rw [if_neg c1] at hu
                      obtain ⟨u', k1, k2⟩ := hrelo i u (by omega) hu
                      refine ⟨u', ?_, VR.mono (r.le_put _) _ _ k2⟩
                      rw [if_neg (by omega)]; exact k1
                · refine big c' _ (arr.extract (g.off + o) (g.off + o + len * n')) hroom ?_ (by simp; omega) ?_
                  · simp only [Builtin.firstCells]
                    exact run_loadCells_at (W := W.drew) g3 (by omega)
                  · intro i u hi hu
                    obtain ⟨u', k1, k2⟩ := hrelo i u hi hu
                    exact ⟨u', by rw [← Array.getElem?_toList, Array.toList_extract, List.extract_eq_take_drop, List.getElem?_take_of_lt (by omega), List.getElem?_drop, Array.getElem?_toList]; exact k1, k2⟩
              · refine big 0 a #[] (by omega) (by simp [Builtin.firstCells, loadCells, loadCellsFrom]) (by simp) (fun i u hi _ => by simp at hi)
            · simp at e
        · simp at e

end Go.Proofs.Ytofaiipohmeelaa.Am
