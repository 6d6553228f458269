/-
  What the law looks at behind each act.
-/
import Derived.Test.YtnaldifgnpnbhaaRH5
import Derived.Test.YtnaldifgnpnbhaaT18
namespace Go.Proofs.Ytnaldifgnpnbhaa
open Go.RowKit
/-! ### what the law looks at behind each act -/
theorem box6a {T : TypeId} {W : World} {g : Nat} {x : It} (h : W.heap[g]? = some (.cells x.cells.toArray T (0, 0))) :
    W.cell? ⟨g, 0, none⟩ = some (.int .i64 x.at_) ∧ W.cell? ⟨g, 1, none⟩ = some (.int .i64 x.flow) ∧ W.cell? ⟨g, 2, none⟩ = some (.int .i64 x.run) ∧ W.cell? ⟨g, 3, none⟩ = some (.int .i64 x.ref) ∧ W.cell? ⟨g, 4, none⟩ = some (.int .i64 x.turn) ∧ W.cell? ⟨g, 5, none⟩ = some (.int .i64 x.kind) :=
  ⟨blk_at h 0, blk_at h 1, blk_at h 2, blk_at h 3, blk_at h 4, blk_at h 5⟩
attribute [local go_sem ↓ high] eql40 neq40
set_option linter.all false in
set_option maxRecDepth 100000 in
set_option maxHeartbeats 4000000 in
theorem looks_spec (w : World) (F Fr : Nat → Prop) (p q : Nat) (l : List It) (h : HeapAt 64 33 w F p l) (hrh : RHp w Fr q l) (hl : l.length ≤ 1048576) :
    Calls Try.prog 27 #[.pointer (some ⟨p, 0, none⟩), .pointer (some ⟨q, 0, none⟩)] w fun e w' => e = .returned (.bool true) ∧ Upd Non w w' := by
  have HN1 := next_spec w F p l h
  have HN2 := fun w' (hu : Upd Non w w') => rnext_spec w' Fr q l (hrh.upd hu id fun _ _ => id)
  have HL := fun w' (hu : Upd Non w w') => list_spec w' F p l (h.upd hu fun _ _ h => h) hl
  have HLn := fun w' (hu : Upd Non w w') => len_spec w' F p l (h.upd hu fun _ _ h => h)
  obtain ⟨A, c, hb, hc, hm, hr⟩ := hrh.cells
  obtain ⟨_, _, ho, hnp, hfin⟩ := id hrh
  have hqlt := hrh.lt
  obtain ⟨N, hN⟩ : ∃ N, l.length = N := ⟨_, rfl⟩
  rw [hN] at hb hc hl
  have hql : ∀ W', Upd Non w W' → W'.cell? ⟨q, 0, none⟩ = some (.slice A N c) := fun W' hw => blk_at ((hw.block q hqlt id).trans hb) 0
  have HQ := Lib.hid hql
  have HN := Lib.hid hN
  obtain ⟨x, hx⟩ : ∃ x, headI l = x := ⟨_, rfl⟩
  obtain ⟨is, his⟩ : ∃ b, (!l.isEmpty) = b := ⟨_, rfl⟩
  unfold NextPost at HN1 HN2
  unfold ListPost at HL
  rw [hx, his] at HN1 HN2
  simp only [hN] at HLn
  have hbb : (is == is) = true := by simp
  have hbn : (is != is) = false := by simp
  have hE : eqB ⟨x.at_, x.flow, x.run, x.ref, x.turn, x.kind⟩ ⟨x.at_, x.flow, x.run, x.ref, x.turn, x.kind⟩ = true := by show decide (x = x) = true; simp
  simp only [It.cells] at HN1 HN2
  clear hx his hql hN hb ho
  go_enter Try.func27, Try.ntmps27
  go_wp2_with fail
  with_reducible refine HN1.mono ?_
  rintro e w1 ⟨rfl, hu1⟩
  have hu1a : Upd Non w (w1.alloc (.cells #[.int .i64 x.at_, .int .i64 x.flow, .int .i64 x.run, .int .i64 x.ref, .int .i64 x.turn, .int .i64 x.kind] 33)) := hu1.alloc _
  have B1 : (w1.alloc (.cells #[.int .i64 x.at_, .int .i64 x.flow, .int .i64 x.run, .int .i64 x.ref, .int .i64 x.turn, .int .i64 x.kind] 33)).heap[w1.heap.size]? = some (.cells x.cells.toArray 33 (0, 0)) := heap_alloc_new _ _
  have HN2' := HN2 _ hu1a
  clear HN1 HN2
  go_wp2_with fail
  with_reducible refine HN2'.mono ?_
  rintro e w2 ⟨rfl, hu2⟩
  have B2 := keep_box B1 hu2
  have hu12 := hu1a.trans hu2
  have hu2a : Upd Non w (w2.alloc (.cells #[.int .i64 x.at_, .int .i64 x.flow, .int .i64 x.run, .int .i64 x.ref, .int .i64 x.turn, .int .i64 x.kind] 40)) := hu12.alloc _
  have C1 : (w2.alloc (.cells #[.int .i64 x.at_, .int .i64 x.flow, .int .i64 x.run, .int .i64 x.ref, .int .i64 x.turn, .int .i64 x.kind] 40)).heap[w2.heap.size]? = some (.cells x.cells.toArray 40 (0, 0)) := heap_alloc_new _ _
  have B3 : (w2.alloc (.cells #[.int .i64 x.at_, .int .i64 x.flow, .int .i64 x.run, .int .i64 x.ref, .int .i64 x.turn, .int .i64 x.kind] 40)).heap[w1.heap.size]? = some (.cells x.cells.toArray 33 (0, 0)) := keep_box B2 (by upn)
  have HL' := HL _ hu2a
  clear HN2' HL
  go_wp2_with fail
  with_reducible refine HL'.mono ?_
  rintro e w3 ⟨v3, rfl, hu3, hr3⟩
  have hu03 := hu2a.trans hu3
  have B4 := keep_box B3 hu3
  have C2 := keep_box C1 hu3
  clear HL' B1 B2 B3 C1 hu1 hu1a hu2 hu12 hu2a
  obtain ⟨A3, c3, cs3, rfl, hc3, hm3, _⟩ := id hr3
  rw [HN.out]
  obtain ⟨ga, hga⟩ : ∃ g, w1.heap.size = g := ⟨_, rfl⟩
  obtain ⟨gb, hgb⟩ : ∃ g, w2.heap.size = g := ⟨_, rfl⟩
  rw [hga] at B4 ⊢
  rw [hgb] at C2 ⊢
  have hS : ∀ W', Upd Non w3 W' → W'.cell? ⟨ga, 0, none⟩ = some (.int .i64 x.at_) ∧ W'.cell? ⟨ga, 1, none⟩ = some (.int .i64 x.flow) ∧ W'.cell? ⟨ga, 2, none⟩ = some (.int .i64 x.run) ∧ W'.cell? ⟨ga, 3, none⟩ = some (.int .i64 x.ref) ∧ W'.cell? ⟨ga, 4, none⟩ = some (.int .i64 x.turn) ∧ W'.cell? ⟨ga, 5, none⟩ = some (.int .i64 x.kind) ∧ W'.cell? ⟨gb, 0, none⟩ = some (.int .i64 x.at_) ∧ W'.cell? ⟨gb, 1, none⟩ = some (.int .i64 x.flow) ∧ W'.cell? ⟨gb, 2, none⟩ = some (.int .i64 x.run) ∧ W'.cell? ⟨gb, 3, none⟩ = some (.int .i64 x.ref) ∧ W'.cell? ⟨gb, 4, none⟩ = some (.int .i64 x.turn) ∧ W'.cell? ⟨gb, 5, none⟩ = some (.int .i64 x.kind) ∧ W'.cell? ⟨q, 0, none⟩ = some (.slice A N c) := fun W' hw => by
    obtain ⟨a0, a1, a2, a3, a4, a5⟩ := box6a (keep_box B4 hw)
    obtain ⟨b0, b1, b2, b3, b4, b5⟩ := box6a (keep_box C2 hw)
    exact ⟨a0, a1, a2, a3, a4, a5, b0, b1, b2, b3, b4, b5, HQ.out W' (hu03.trans hw)⟩
  have S0 := hS w3.drew (Upd.refl _ _).drew
  have HO := fun W' => of_spec W' x
  unfold OfPost at HO
  simp only [It.cells] at HO
  have HC := Lib.hid hS
  have B4' := Lib.hid B4
  have C2' := Lib.hid C2
  have HR3 := Lib.hid hr3
  clear hS hga hgb B4 C2 hr3
  go_wp2_with fail
  go_region_held3 (fun W' => W'.cell? ⟨ga, 0, none⟩ = some (.int .i64 x.at_) ∧ W'.cell? ⟨ga, 1, none⟩ = some (.int .i64 x.flow) ∧ W'.cell? ⟨ga, 2, none⟩ = some (.int .i64 x.run) ∧ W'.cell? ⟨ga, 3, none⟩ = some (.int .i64 x.ref) ∧ W'.cell? ⟨ga, 4, none⟩ = some (.int .i64 x.turn) ∧ W'.cell? ⟨ga, 5, none⟩ = some (.int .i64 x.kind) ∧ W'.cell? ⟨gb, 0, none⟩ = some (.int .i64 x.at_) ∧ W'.cell? ⟨gb, 1, none⟩ = some (.int .i64 x.flow) ∧ W'.cell? ⟨gb, 2, none⟩ = some (.int .i64 x.run) ∧ W'.cell? ⟨gb, 3, none⟩ = some (.int .i64 x.ref) ∧ W'.cell? ⟨gb, 4, none⟩ = some (.int .i64 x.turn) ∧ W'.cell? ⟨gb, 5, none⟩ = some (.int .i64 x.kind) ∧ W'.cell? ⟨q, 0, none⟩ = some (.slice A N c))
    (first | exact S0 | exact Sa | exact Sb | go_keep)
    (first | (go_at_call 17; (with_reducible refine (HO _).mono ?_); rintro e w4 ⟨rfl, hu4⟩; have Sa := HC.out w4 (((Upd.refl _ _).drew).trans hu4); have HLn4 := HLn w4 (hu03.trans (((Upd.refl _ _).drew).trans hu4))) | (go_at_call 15; (with_reducible refine HLn4.mono ?_); rintro e w5 ⟨rfl, rfl⟩; have Sb := Sa))
  have hu04 : Upd Non w w4 := hu03.trans (((Upd.refl _ _).drew).trans hu4)
  have hu34 : Upd Non w3 w4 := ((Upd.refl _ _).drew).trans hu4
  clear S0 Sa HO HLn HLn4 hE HC B4' C2'
  go_wp2_with fail
  go_loopw [10] (fun i wr => ∃ k : Nat, k ≤ N ∧ i = .int .i64 k ∧ Upd Non w4 wr) (fun i _ => N - (intOf i).toNat)
  case atStart => exact ⟨0, Nat.zero_le _, rfl, Upd.refl _ _⟩
  case round =>
    obtain ⟨k, hk, rfl, hu⟩ := hrel
    by_cases hlt : k < N
    · have hkL : k < l.length := by rw [HN.out]; exact hlt
      have hux : Upd Non w wr := hu04.trans hu
      obtain ⟨b3, o3, c3', e3, _, hb3, hyw, m0, m1, m2, m3, m4, m5⟩ := ((HR3.out).upd (hu34.trans hu) (Upd.fr_non fun k hk => hk.2)).it hkL
      rw [HN.out] at e3
      cases e3
      obtain ⟨b1, o1, c1', e1, _, hb1, hyw1, n0, n1, n2, n3, n4, n5⟩ := (hr.upd hux (Upd.fr_non hfin)).it hkL
      rw [HN.out] at e1
      cases e1
      obtain ⟨y, hy⟩ : ∃ y, l[k] = y := ⟨_, rfl⟩
      rw [hy] at m0 m1 m2 m3 m4 m5 n0 n1 n2 n3 n4 n5
      clear hy hyw hyw1
      have hb3W : b3 < wr.heap.size := World.block_lt_of_cell? wr _ m0
      have hb1W : b1 < wr.heap.size := World.block_lt_of_cell? wr _ n0
      have hS : ∀ W', Upd Non wr W' → W'.cell? ⟨b3, o3 + k * 6, none⟩ = some (.int .i64 y.at_) ∧ W'.cell? ⟨b3, o3 + k * 6 + 1, none⟩ = some (.int .i64 y.flow) ∧ W'.cell? ⟨b3, o3 + k * 6 + 2, none⟩ = some (.int .i64 y.run) ∧ W'.cell? ⟨b3, o3 + k * 6 + 3, none⟩ = some (.int .i64 y.ref) ∧ W'.cell? ⟨b3, o3 + k * 6 + 4, none⟩ = some (.int .i64 y.turn) ∧ W'.cell? ⟨b3, o3 + k * 6 + 5, none⟩ = some (.int .i64 y.kind) ∧ W'.cell? ⟨b1, o1 + k * 6, none⟩ = some (.int .i64 y.at_) ∧ W'.cell? ⟨b1, o1 + k * 6 + 1, none⟩ = some (.int .i64 y.flow) ∧ W'.cell? ⟨b1, o1 + k * 6 + 2, none⟩ = some (.int .i64 y.run) ∧ W'.cell? ⟨b1, o1 + k * 6 + 3, none⟩ = some (.int .i64 y.ref) ∧ W'.cell? ⟨b1, o1 + k * 6 + 4, none⟩ = some (.int .i64 y.turn) ∧ W'.cell? ⟨b1, o1 + k * 6 + 5, none⟩ = some (.int .i64 y.kind) ∧ W'.cell? ⟨q, 0, none⟩ = some (.slice (some ⟨b1, o1, none⟩) N c) := fun W' hw =>
        ⟨(hw.cell (p := ⟨b3, o3 + k * 6, none⟩) hb3W id).trans m0, (hw.cell (p := ⟨b3, o3 + k * 6 + 1, none⟩) hb3W id).trans m1, (hw.cell (p := ⟨b3, o3 + k * 6 + 2, none⟩) hb3W id).trans m2, (hw.cell (p := ⟨b3, o3 + k * 6 + 3, none⟩) hb3W id).trans m3, (hw.cell (p := ⟨b3, o3 + k * 6 + 4, none⟩) hb3W id).trans m4, (hw.cell (p := ⟨b3, o3 + k * 6 + 5, none⟩) hb3W id).trans m5, (hw.cell (p := ⟨b1, o1 + k * 6, none⟩) hb1W id).trans n0, (hw.cell (p := ⟨b1, o1 + k * 6 + 1, none⟩) hb1W id).trans n1, (hw.cell (p := ⟨b1, o1 + k * 6 + 2, none⟩) hb1W id).trans n2, (hw.cell (p := ⟨b1, o1 + k * 6 + 3, none⟩) hb1W id).trans n3, (hw.cell (p := ⟨b1, o1 + k * 6 + 4, none⟩) hb1W id).trans n4, (hw.cell (p := ⟨b1, o1 + k * 6 + 5, none⟩) hb1W id).trans n5, HQ.out W' (hux.trans hw)⟩
      have S0 := hS wr.drew (Upd.refl _ _).drew
      have HO := fun W' => of_spec W' y
      unfold OfPost at HO
      simp only [It.cells] at HO
      have hE : eqB ⟨y.at_, y.flow, y.run, y.ref, y.turn, y.kind⟩ ⟨y.at_, y.flow, y.run, y.ref, y.turn, y.kind⟩ = true := by show decide (y = y) = true; simp
      have HC := Lib.hid hS
      clear hS m0 m1 m2 m3 m4 m5 n0 n1 n2 n3 n4 n5
      go_wp2_with fail
      go_region_held3 (fun W' => W'.cell? ⟨b3, o3 + k * 6, none⟩ = some (.int .i64 y.at_) ∧ W'.cell? ⟨b3, o3 + k * 6 + 1, none⟩ = some (.int .i64 y.flow) ∧ W'.cell? ⟨b3, o3 + k * 6 + 2, none⟩ = some (.int .i64 y.run) ∧ W'.cell? ⟨b3, o3 + k * 6 + 3, none⟩ = some (.int .i64 y.ref) ∧ W'.cell? ⟨b3, o3 + k * 6 + 4, none⟩ = some (.int .i64 y.turn) ∧ W'.cell? ⟨b3, o3 + k * 6 + 5, none⟩ = some (.int .i64 y.kind) ∧ W'.cell? ⟨b1, o1 + k * 6, none⟩ = some (.int .i64 y.at_) ∧ W'.cell? ⟨b1, o1 + k * 6 + 1, none⟩ = some (.int .i64 y.flow) ∧ W'.cell? ⟨b1, o1 + k * 6 + 2, none⟩ = some (.int .i64 y.run) ∧ W'.cell? ⟨b1, o1 + k * 6 + 3, none⟩ = some (.int .i64 y.ref) ∧ W'.cell? ⟨b1, o1 + k * 6 + 4, none⟩ = some (.int .i64 y.turn) ∧ W'.cell? ⟨b1, o1 + k * 6 + 5, none⟩ = some (.int .i64 y.kind) ∧ W'.cell? ⟨q, 0, none⟩ = some (.slice (some ⟨b1, o1, none⟩) N c))
        (first | exact S0 | exact Sa | go_keep)
        ((go_at_call 17; (with_reducible refine (HO _).mono ?_); rintro e w6 ⟨rfl, hu6⟩; have Sa := HC.out w6 (((Upd.refl _ _).drew).trans hu6)))
      have hu46 : Upd Non w4 w6 := hu.trans (((Upd.refl _ _).drew).trans hu6)
      clear S0 Sa HO HC hE
      go_wp2_with fail
      go_roundw
      case rel => exact ⟨k + 1, by omega, by go_num, by upn⟩
      case measure => simp [intOf]; omega
    · obtain rfl : k = N := by omega
      go_wp2_with fail
      go_ret
      exact ⟨rfl, hu04.trans hu⟩
end Go.Proofs.Ytnaldifgnpnbhaa
