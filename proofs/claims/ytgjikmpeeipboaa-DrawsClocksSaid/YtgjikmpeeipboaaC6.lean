/-
  The two alarms that each law begins with.
-/
import Derived.Test.YtgjikmpeeipboaaC5
namespace Go.Proofs.Ytgjikmpeeipboaa
open Go.RowKit
theorem bw : betV 7 4 4 = 4 ∧ betC 0 4 4 = 1 := by
  have h : inR 4 4 := by decide
  constructor
  · rw [betV, if_pos h]
    have := belowV_b 7 (4 - 4 + 1) (by decide)
    omega
  · rw [betC, if_pos h]; rfl
set_option maxRecDepth 100000 in
set_option maxHeartbeats 1000000 in
theorem known_spec (w : World) : Calls Try.prog 8 #[] w fun e w' => e = .returned (.bool true) ∧ Upd Non w w' := by
  have ib : ∀ x : Int, 0 ≤ x → x ≤ 1000 → IB x := fun x h1 h2 => by unfold IB; omega
  go_enter Try.func8, Try.ntmps8
  go_wp2_with fail
  refine (newClock_spec w).mono ?_
  rintro e w1 ⟨rfl, hu1, hc1, hs1⟩
  go_wp2_with fail
  refine (new_spec w1 7 (by decide)).mono ?_
  rintro e w2 ⟨rfl, hu2, hs2⟩
  have hc2 := hc1.upd hu2 id id
  have hx2 := hu1.trans hu2
  have hlt2 := blk_lt hs2.1
  rw [hs1] at hs2 hlt2
  go_wp2_with fail
  refine (set_spec w2 _ _ 0 0 5 3 [] hc2 (ib 5 (by decide) (by decide)) (ib 3 (by decide) (by decide)) (by decide)).mono ?_
  rintro e w3 ⟨rfl, hu3, hc3⟩
  go_wp2_with fail
  refine (set_spec w3 _ _ 1 0 1 3 _ hc3 (ib 1 (by decide) (by decide)) (ib 3 (by decide) (by decide)) (by decide)).mono ?_
  rintro e w4 ⟨rfl, hu4, hc4⟩
  go_wp2_with fail
  refine (tick_spec w4 _ _ 2 0 3 _ hc4 (by decide)).mono ?_
  rintro e w5 ⟨rfl, hu5, hc5⟩
  have e5 : tickT 0 3 = 3 := by decide
  have e6 : setR (setR [] 0 5 3) 0 1 3 = [(1, 3), (5, 3)] := by decide
  rw [e5, e6] at hc5
  go_wp2_with fail
  refine (due_spec w5 _ _ 2 3 _ hc5 (by decide)).mono ?_
  rintro e w6 ⟨v, rfl, hrd, hu6, hc6⟩
  have e7 : idsA (dueA [(1, 3), (5, 3)] 3) = [1, 5] := by decide
  rw [e7] at hrd
  obtain ⟨g, o, c, rfl, _, _, m0⟩ := hrd.int (k := 0) (by decide)
  obtain ⟨g', o', c', e8, _, _, m1⟩ := hrd.int (k := 1) (by decide)
  cases e8
  simp only [List.getElem_cons_zero, List.getElem_cons_succ, Nat.add_zero] at m0 m1
  have hs6 : SrcAt w6 61 (w.heap.size + 2) 7 0 := by
    refine (((hs2.upd hu3 ?_).upd hu4 ?_).upd hu5 ?_).upd hu6 ?_ <;> (intro h; have h : w.heap.size + 2 = _ := h; omega)
  have hux6 : Upd Non w w6 := by
    refine ((((hx2.trans' hu3 ?_).trans' hu4 ?_).trans' hu5 ?_).trans' hu6 ?_) <;> (intro x hx e; omega)
  clear hu1 hc1 hs1 hu2 hs2 hc2 hx2 hlt2 hu3 hc3 hu4 hc4 hu5 hc5 e5 e6 hu6 hc6 e7 hrd
  go_wp2_with fail
  refine (below_spec w6 _ 7 0 0 hs6 (by decide) (by decide)).mono ?_
  rintro e w7 ⟨rfl, hu7, hs7⟩
  have e1 : belowV 7 0 = 0 := by decide
  have e2 : belowS 7 0 = 7 := by decide
  have e3 : belowC 0 0 = 0 := by decide
  rw [e2, e3] at hs7
  rw [e1]
  go_wp2_with fail
  refine (count_spec w7 _ 7 0 hs7).mono ?_
  rintro e w8 ⟨rfl, rfl⟩
  go_wp2_with fail
  refine (between_spec w7 _ 7 0 4 4 hs7 (by decide) (ib 4 (by decide) (by decide)) (ib 4 (by decide) (by decide))).mono ?_
  rintro e w9 ⟨rfl, hu9, hs9⟩
  rw [bw.1]
  rw [bw.2] at hs9
  go_wp2_with fail
  refine (count_spec w9 _ _ 1 hs9).mono ?_
  rintro e w10 ⟨rfl, rfl⟩
  go_wp2_with fail
  go_ret
  exact ⟨rfl, (hux6.trans' hu7 fun x hx e => by have e : x = w.heap.size + 2 := e; omega).trans' hu9 fun x hx e => by have e : x = w.heap.size + 2 := e; omega⟩
end Go.Proofs.Ytgjikmpeeipboaa
