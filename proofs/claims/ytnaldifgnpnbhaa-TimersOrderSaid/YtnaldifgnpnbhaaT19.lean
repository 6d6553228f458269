/-
  Which of two items is less; the least of some, by that, and by another order: the walk.
-/
import Derived.Test.YtnaldifgnpnbhaaT18
namespace Go.Proofs.Ytnaldifgnpnbhaa
open Go.Maps Go.ChangeShapes Go.WideShapes Go.ChangeAt Go.RowKit
theorem neq33_same (a0 a1 a2 a3 a4 a5 : Int) (w : World) :
    (binOp .neq 33 (.agg #[.int .i64 a0, .int .i64 a1, .int .i64 a2, .int .i64 a3, .int .i64 a4, .int .i64 a5]) (.agg #[.int .i64 a0, .int .i64 a1, .int .i64 a2, .int .i64 a3, .int .i64 a4, .int .i64 a5])).run Try.prog w = .ok (.bool false) w := by
  rw [run_neq_struct]
  go_simp
attribute [local go_sem ↓ high] neq33_same eql33
theorem ltB_cases (a b : It) : (ltB a b = true ∧ ltB b a = false) ∨ (ltB a b = false ∧ ltB b a = true) ∨ a = b := by
  have h := cmpI_swap a b
  by_cases h1 : cmpI a b < 0
  · left; simp [ltB]; omega
  · by_cases h2 : cmpI b a < 0
    · right; left; simp [ltB]; omega
    · right; right; exact cmpI_zero a b (by omega)

/-- two boxes -/
def Box2 (p : Nat) (a b : It) (W' : World) : Prop := W'.cell? ⟨p, 0, none⟩ = some (.int .i64 a.at_) ∧ W'.cell? ⟨p, 1, none⟩ = some (.int .i64 a.flow) ∧ W'.cell? ⟨p, 2, none⟩ = some (.int .i64 a.run) ∧ W'.cell? ⟨p, 3, none⟩ = some (.int .i64 a.ref) ∧ W'.cell? ⟨p, 4, none⟩ = some (.int .i64 a.turn) ∧ W'.cell? ⟨p, 5, none⟩ = some (.int .i64 a.kind) ∧ W'.cell? ⟨p + 1, 0, none⟩ = some (.int .i64 b.at_) ∧ W'.cell? ⟨p + 1, 1, none⟩ = some (.int .i64 b.flow) ∧ W'.cell? ⟨p + 1, 2, none⟩ = some (.int .i64 b.run) ∧ W'.cell? ⟨p + 1, 3, none⟩ = some (.int .i64 b.ref) ∧ W'.cell? ⟨p + 1, 4, none⟩ = some (.int .i64 b.turn) ∧ W'.cell? ⟨p + 1, 5, none⟩ = some (.int .i64 b.kind)
theorem box2 {w W : World} {a b : It} (hW : W = (w.alloc (.cells a.cells.toArray 33)).alloc (.cells b.cells.toArray 33)) : ∀ W', Upd Non W W' → Box2 w.heap.size a b W' := by
  have hbb : W.heap[w.heap.size + 1]? = some (.cells b.cells.toArray 33 (0, 0)) := by
    have := heap_alloc_new (w.alloc (.cells a.cells.toArray 33)) (.cells b.cells.toArray 33)
    rw [World.size_alloc] at this
    rw [hW]; exact this
  have hba : W.heap[w.heap.size]? = some (.cells a.cells.toArray 33 (0, 0)) := by
    rw [hW]; exact (Below.heap_alloc _ _ _ (by simp)).trans (heap_alloc_new w _)
  have hls : w.heap.size + 1 < W.heap.size := blk_lt hbb
  intro W' hw'
  have ca : ∀ j, W'.cell? ⟨w.heap.size, j, none⟩ = a.cells[j]? := fun j => by
    rw [hw'.cell (p := ⟨w.heap.size, j, none⟩) (by show w.heap.size < _; omega) id, blk_at hba]; simp
  have cb : ∀ j, W'.cell? ⟨w.heap.size + 1, j, none⟩ = b.cells[j]? := fun j => by
    rw [hw'.cell (p := ⟨w.heap.size + 1, j, none⟩) hls id, blk_at hbb]; simp
  exact ⟨ca 0, ca 1, ca 2, ca 3, ca 4, ca 5, cb 0, cb 1, cb 2, cb 3, cb 4, cb 5⟩

set_option linter.all false in
set_option linter.unusedSimpArgs false in
set_option linter.unusedVariables false in
set_option maxRecDepth 100000 in
set_option maxHeartbeats 4000000 in
theorem order_walk (w : World) (a b : It) (v u : Value) (l : List It) (ns : List Int) (h : Rd itE w (Old w) v l) (hi : Rd intE w (Old w) u ns) :
    Calls Try.prog 5 #[.agg a.cells.toArray, .agg b.cells.toArray, v, u] w fun e w' => e = .returned (.bool true) ∧ Below w.heap.size w w' := by
  obtain ⟨A, c, rfl, hc, _⟩ := h.shape
  obtain ⟨B, d, rfl, hd, _⟩ := hi.shape
  obtain ⟨W, hW⟩ : ∃ W, W = (w.alloc (.cells a.cells.toArray 33)).alloc (.cells b.cells.toArray 33) := ⟨_, rfl⟩
  have hu0 : Upd Non w W := by rw [hW]; exact ((Upd.refl _ _).alloc _).alloc _
  have HS := box2 hW
  by_cases h250 : l.length ≤ 250 ∧ ns.length ≤ 250
  · obtain ⟨g1, g2⟩ := h250
    have HL1 := fun W' => less_spec W' a b
    have HL2 := fun W' => less_spec W' b a
    have HO1 := fun W' => of_spec W' a
    have HO2 := fun W' => of_spec W' b
    have HR := fun W' => rless_spec W' a b
    unfold LessPost at HL1 HL2
    unfold OfPost at HO1 HO2
    unfold RlPost at HR
    simp only [It.cells] at hW HL1 HL2 HO1 HO2 HR ⊢
    go_enter Try.func5, Try.ntmps5
    go_wp2_with fail
    rw [← hW]
    clear hW
    refine (tknown_spec W).mono ?_
    rintro e w1 ⟨rfl, hu1⟩
    have HQ3 : ltB a a = false := by simp [ltB, cmpI_refl]
    rcases ltB_cases a b with ⟨q1, q2⟩ | ⟨q1, q2⟩ | q3
    · simp only [q1, q2] at HL1 HL2 HR
      clear q1 q2 HQ3
      go_wp2_with fail
      have U : Upd Non W w1.drew := hu1.drew
      have S0 := HS w1.drew U
      refine wp_region_held_drew (S := Box2 w.heap.size a b) (by kernel_rfl) S0 (fun _ => ?_)
      refine wpAnyH_take (i := 0) (v := .agg #[.int .i64 a.at_, .int .i64 a.flow, .int .i64 a.run, .int .i64 a.ref, .int .i64 a.turn, .int .i64 a.kind]) rfl (by kernel_rfl) (by kernel_rfl) (by kernel_rfl) (fun _ _ _ h => h) (Or.inl ⟨by rfl, ?_⟩) (by assumption) ?_
      · (intro w2 hw2; obtain ⟨c0, c1, c2, c3, c4, c5, c6, c7, c8, c9, c10, c11⟩ := hw2; go_simp)
      change wpAnyH _ _ _ _ _ _ _ (Act.put _ (some 26) _) _
      try simp only [Act.put, List.setIfInBounds_toArray, List.set_cons_zero, List.set_cons_succ]
      refine wpAnyH_take (i := 1) (v := .agg #[.int .i64 b.at_, .int .i64 b.flow, .int .i64 b.run, .int .i64 b.ref, .int .i64 b.turn, .int .i64 b.kind]) rfl (by kernel_rfl) (by kernel_rfl) (by kernel_rfl) (fun _ _ _ h => h) (Or.inl ⟨by rfl, ?_⟩) (by assumption) ?_
      · (intro w2 hw2; obtain ⟨c0, c1, c2, c3, c4, c5, c6, c7, c8, c9, c10, c11⟩ := hw2; go_simp)
      change wpAnyH _ _ _ _ _ _ _ (Act.put _ (some 27) _) _
      try simp only [Act.put, List.setIfInBounds_toArray, List.set_cons_zero, List.set_cons_succ]
      refine wpAnyH_take (i := 3) (v := .agg #[.int .i64 a.at_, .int .i64 a.flow, .int .i64 a.run, .int .i64 a.ref, .int .i64 a.turn, .int .i64 a.kind]) rfl (by kernel_rfl) (by kernel_rfl) (by kernel_rfl) (fun _ _ _ h => h) (Or.inl ⟨by rfl, ?_⟩) (by assumption) ?_
      · (intro w2 hw2; obtain ⟨c0, c1, c2, c3, c4, c5, c6, c7, c8, c9, c10, c11⟩ := hw2; go_simp)
      change wpAnyH _ _ _ _ _ _ _ (Act.put _ (some 29) _) _
      try simp only [Act.put, List.setIfInBounds_toArray, List.set_cons_zero, List.set_cons_succ]
      refine wpAnyH_take (i := 5) (v := .agg #[.int .i64 b.at_, .int .i64 b.flow, .int .i64 b.run, .int .i64 b.ref, .int .i64 b.turn, .int .i64 b.kind]) rfl (by kernel_rfl) (by kernel_rfl) (by kernel_rfl) (fun _ _ _ h => h) (Or.inl ⟨by rfl, ?_⟩) (by assumption) ?_
      · (intro w2 hw2; obtain ⟨c0, c1, c2, c3, c4, c5, c6, c7, c8, c9, c10, c11⟩ := hw2; go_simp)
      change wpAnyH _ _ _ _ _ _ _ (Act.put _ (some 31) _) _
      try simp only [Act.put, List.setIfInBounds_toArray, List.set_cons_zero, List.set_cons_succ]
      refine wpAnyH_ready (rs := [2]) (by kernel_rfl) (by simp) ?_
      refine AllReadyH.cons rfl (fun K hK => ?_) AllReadyH.nil
      go_simp
      go_at_call 14
      with_reducible refine (HL1 _).mono ?_
      rintro e wa ⟨rfl, hua⟩
      have U := U.trans hua
      have Sa := HS _ U
      go_wp2_with fail
      refine hK.out _ _ Sa (fun _ => ?_)
      clear hK K
      try simp only [Act.put, List.setIfInBounds_toArray, List.set_cons_zero, List.set_cons_succ]
      refine wpAnyH_ready (rs := [4]) (by kernel_rfl) (by simp) ?_
      refine AllReadyH.cons rfl (fun K hK => ?_) AllReadyH.nil
      go_simp
      go_at_call 17
      with_reducible refine (HO1 _).mono ?_
      rintro e wa ⟨rfl, hua⟩
      have U := U.trans hua
      have Sa := HS _ U
      go_wp2_with fail
      refine hK.out _ _ Sa (fun _ => ?_)
      clear hK K
      try simp only [Act.put, List.setIfInBounds_toArray, List.set_cons_zero, List.set_cons_succ]
      refine wpAnyH_ready (rs := [6]) (by kernel_rfl) (by simp) ?_
      refine AllReadyH.cons rfl (fun K hK => ?_) AllReadyH.nil
      go_simp
      go_at_call 17
      with_reducible refine (HO2 _).mono ?_
      rintro e wa ⟨rfl, hua⟩
      have U := U.trans hua
      have Sa := HS _ U
      go_wp2_with fail
      refine hK.out _ _ Sa (fun _ => ?_)
      clear hK K
      try simp only [Act.put, List.setIfInBounds_toArray, List.set_cons_zero, List.set_cons_succ]
      refine wpAnyH_ready (rs := [7]) (by kernel_rfl) (by simp) ?_
      refine AllReadyH.cons rfl (fun K hK => ?_) AllReadyH.nil
      go_simp
      go_at_call 16
      with_reducible refine (HR _).mono ?_
      rintro e wa ⟨rfl, hua⟩
      have U := U.trans hua
      have Sa := HS _ U
      go_wp2_with fail
      refine hK.out _ _ Sa (fun _ => ?_)
      clear hK K
      try simp only [Act.put, List.setIfInBounds_toArray, List.set_cons_zero, List.set_cons_succ]
      refine wpAnyH_take (i := 8) (v := .bool false) rfl (by kernel_rfl) (by kernel_rfl) (by kernel_rfl) (fun _ _ _ h => h) (Or.inl ⟨by rfl, ?_⟩) (by assumption) ?_
      · (intro w2 _; go_simp)
      change wpAnyH _ _ _ _ _ _ _ (Act.put _ (some 34) _) _
      try simp only [Act.put, List.setIfInBounds_toArray, List.set_cons_zero, List.set_cons_succ]
      refine wpAnyH_take (i := 9) (v := .bool false) rfl (by kernel_rfl) (by kernel_rfl) (by kernel_rfl) (fun _ _ _ h => h) (Or.inl ⟨by rfl, ?_⟩) (by assumption) ?_
      · (intro w2 _; go_simp)
      change wpAnyH _ _ _ _ _ _ _ (Act.put _ (some 35) _) _
      try simp only [Act.put, List.setIfInBounds_toArray, List.set_cons_zero, List.set_cons_succ]
      refine wpAnyH_take (i := 10) (v := .agg #[.int .i64 a.at_, .int .i64 a.flow, .int .i64 a.run, .int .i64 a.ref, .int .i64 a.turn, .int .i64 a.kind]) rfl (by kernel_rfl) (by kernel_rfl) (by kernel_rfl) (fun _ _ _ h => h) (Or.inl ⟨by rfl, ?_⟩) (by assumption) ?_
      · (intro w2 hw2; obtain ⟨c0, c1, c2, c3, c4, c5, c6, c7, c8, c9, c10, c11⟩ := hw2; go_simp)
      change wpAnyH _ _ _ _ _ _ _ (Act.put _ (some 36) _) _
      try simp only [Act.put, List.setIfInBounds_toArray, List.set_cons_zero, List.set_cons_succ]
      refine wpAnyH_take (i := 11) (v := .agg #[.int .i64 b.at_, .int .i64 b.flow, .int .i64 b.run, .int .i64 b.ref, .int .i64 b.turn, .int .i64 b.kind]) rfl (by kernel_rfl) (by kernel_rfl) (by kernel_rfl) (fun _ _ _ h => h) (Or.inl ⟨by rfl, ?_⟩) (by assumption) ?_
      · (intro w2 hw2; obtain ⟨c0, c1, c2, c3, c4, c5, c6, c7, c8, c9, c10, c11⟩ := hw2; go_simp)
      change wpAnyH _ _ _ _ _ _ _ (Act.put _ (some 37) _) _
      try simp only [Act.put, List.setIfInBounds_toArray, List.set_cons_zero, List.set_cons_succ]
      refine wpAnyH_ready (rs := [12]) (by kernel_rfl) (by simp) ?_
      refine AllReadyH.cons rfl (fun K hK => ?_) AllReadyH.nil
      go_simp
      go_at_call 14
      with_reducible refine (HL1 _).mono ?_
      rintro e wa ⟨rfl, hua⟩
      have U := U.trans hua
      have Sa := HS _ U
      go_wp2_with fail
      refine hK.out _ _ Sa (fun _ => ?_)
      clear hK K
      try simp only [Act.put, List.setIfInBounds_toArray, List.set_cons_zero, List.set_cons_succ]
      refine wpAnyH_take (i := 13) (v := .bool true) rfl (by kernel_rfl) (by kernel_rfl) (by kernel_rfl) (fun _ _ _ h => h) (Or.inl ⟨by rfl, ?_⟩) (by assumption) ?_
      · (intro w2 _; go_simp)
      change wpAnyH _ _ _ _ _ _ _ (Act.put _ (some 39) _) _
      try simp only [Act.put, List.setIfInBounds_toArray, List.set_cons_zero, List.set_cons_succ]
      refine wpAnyH_take (i := 14) (v := .agg #[.int .i64 b.at_, .int .i64 b.flow, .int .i64 b.run, .int .i64 b.ref, .int .i64 b.turn, .int .i64 b.kind]) rfl (by kernel_rfl) (by kernel_rfl) (by kernel_rfl) (fun _ _ _ h => h) (Or.inl ⟨by rfl, ?_⟩) (by assumption) ?_
      · (intro w2 hw2; obtain ⟨c0, c1, c2, c3, c4, c5, c6, c7, c8, c9, c10, c11⟩ := hw2; go_simp)
      change wpAnyH _ _ _ _ _ _ _ (Act.put _ (some 40) _) _
      try simp only [Act.put, List.setIfInBounds_toArray, List.set_cons_zero, List.set_cons_succ]
      refine wpAnyH_take (i := 15) (v := .agg #[.int .i64 a.at_, .int .i64 a.flow, .int .i64 a.run, .int .i64 a.ref, .int .i64 a.turn, .int .i64 a.kind]) rfl (by kernel_rfl) (by kernel_rfl) (by kernel_rfl) (fun _ _ _ h => h) (Or.inl ⟨by rfl, ?_⟩) (by assumption) ?_
      · (intro w2 hw2; obtain ⟨c0, c1, c2, c3, c4, c5, c6, c7, c8, c9, c10, c11⟩ := hw2; go_simp)
      change wpAnyH _ _ _ _ _ _ _ (Act.put _ (some 41) _) _
      try simp only [Act.put, List.setIfInBounds_toArray, List.set_cons_zero, List.set_cons_succ]
      refine wpAnyH_ready (rs := [16]) (by kernel_rfl) (by simp) ?_
      refine AllReadyH.cons rfl (fun K hK => ?_) AllReadyH.nil
      go_simp
      go_at_call 14
      with_reducible refine (HL2 _).mono ?_
      rintro e wa ⟨rfl, hua⟩
      have U := U.trans hua
      have Sa := HS _ U
      go_wp2_with fail
      refine hK.out _ _ Sa (fun _ => ?_)
      clear hK K
      try simp only [Act.put, List.setIfInBounds_toArray, List.set_cons_zero, List.set_cons_succ]
      refine wpAnyH_take (i := 17) (v := .bool false) rfl (by kernel_rfl) (by kernel_rfl) (by kernel_rfl) (fun _ _ _ h => h) (Or.inl ⟨by rfl, ?_⟩) (by assumption) ?_
      · (intro w2 _; go_simp)
      change wpAnyH _ _ _ _ _ _ _ (Act.put _ (some 43) _) _
      try simp only [Act.put, List.setIfInBounds_toArray, List.set_cons_zero, List.set_cons_succ]
      refine wpAnyH_take (i := 18) (v := .bool false) rfl (by kernel_rfl) (by kernel_rfl) (by kernel_rfl) (fun _ _ _ h => h) (Or.inl ⟨by rfl, ?_⟩) (by assumption) ?_
      · (intro w2 _; go_simp)
      change wpAnyH _ _ _ _ _ _ _ (Act.put _ (some 44) _) _
      try simp only [Act.put, List.setIfInBounds_toArray, List.set_cons_zero, List.set_cons_succ]
      refine wpAnyH_take (i := 19) (v := .bool false) rfl (by kernel_rfl) (by kernel_rfl) (by kernel_rfl) (fun _ _ _ h => h) (Or.inl ⟨by rfl, ?_⟩) (by assumption) ?_
      · (intro w2 _; go_simp)
      change wpAnyH _ _ _ _ _ _ _ (Act.put _ (some 45) _) _
      try simp only [Act.put, List.setIfInBounds_toArray, List.set_cons_zero, List.set_cons_succ]
      refine wpAnyH_take (i := 20) (v := .agg #[.int .i64 a.at_, .int .i64 a.flow, .int .i64 a.run, .int .i64 a.ref, .int .i64 a.turn, .int .i64 a.kind]) rfl (by kernel_rfl) (by kernel_rfl) (by kernel_rfl) (fun _ _ _ h => h) (Or.inl ⟨by rfl, ?_⟩) (by assumption) ?_
      · (intro w2 hw2; obtain ⟨c0, c1, c2, c3, c4, c5, c6, c7, c8, c9, c10, c11⟩ := hw2; go_simp)
      change wpAnyH _ _ _ _ _ _ _ (Act.put _ (some 46) _) _
      try simp only [Act.put, List.setIfInBounds_toArray, List.set_cons_zero, List.set_cons_succ]
      refine wpAnyH_take (i := 21) (v := .agg #[.int .i64 b.at_, .int .i64 b.flow, .int .i64 b.run, .int .i64 b.ref, .int .i64 b.turn, .int .i64 b.kind]) rfl (by kernel_rfl) (by kernel_rfl) (by kernel_rfl) (fun _ _ _ h => h) (Or.inl ⟨by rfl, ?_⟩) (by assumption) ?_
      · (intro w2 hw2; obtain ⟨c0, c1, c2, c3, c4, c5, c6, c7, c8, c9, c10, c11⟩ := hw2; go_simp)
      change wpAnyH _ _ _ _ _ _ _ (Act.put _ (some 47) _) _
      try simp only [Act.put, List.setIfInBounds_toArray, List.set_cons_zero, List.set_cons_succ]
      refine wpAnyH_ready (rs := [22]) (by kernel_rfl) (by simp) ?_
      refine AllReadyH.cons rfl (fun K hK => ?_) AllReadyH.nil
      go_simp
      go_at_call 14
      with_reducible refine (HL1 _).mono ?_
      rintro e wa ⟨rfl, hua⟩
      have U := U.trans hua
      have Sa := HS _ U
      go_wp2_with fail
      refine hK.out _ _ Sa (fun _ => ?_)
      clear hK K
      try simp only [Act.put, List.setIfInBounds_toArray, List.set_cons_zero, List.set_cons_succ]
      refine wpAnyH_take (i := 23) (v := .bool false) rfl (by kernel_rfl) (by kernel_rfl) (by kernel_rfl) (fun _ _ _ h => h) (Or.inl ⟨by rfl, ?_⟩) (by assumption) ?_
      · (intro w2 _; go_simp)
      change wpAnyH _ _ _ _ _ _ _ (Act.put _ (some 49) _) _
      try simp only [Act.put, List.setIfInBounds_toArray, List.set_cons_zero, List.set_cons_succ]
      refine wpAnyH_take (i := 24) (v := .bool false) rfl (by kernel_rfl) (by kernel_rfl) (by kernel_rfl) (fun _ _ _ h => h) (Or.inl ⟨by rfl, ?_⟩) (by assumption) ?_
      · (intro w2 _; go_simp)
      change wpAnyH _ _ _ _ _ _ _ (Act.put _ (some 50) _) _
      try simp only [Act.put, List.setIfInBounds_toArray, List.set_cons_zero, List.set_cons_succ]
      refine wpAnyH_take (i := 25) (v := undef) rfl (by kernel_rfl) (by kernel_rfl) (by kernel_rfl) (fun _ _ _ h => h) (Or.inr ⟨by rfl, rfl⟩) (by assumption) ?_
      change wpAnyH _ _ _ _ _ _ _ (Act.put _ (some 51) _) _
      try simp only [Act.put, List.setIfInBounds_toArray, List.set_cons_zero, List.set_cons_succ]
      refine wpAnyH_take (i := 26) (v := undef) rfl (by kernel_rfl) (by kernel_rfl) (by kernel_rfl) (fun _ _ _ h => h) (Or.inr ⟨by rfl, rfl⟩) (by assumption) ?_
      change wpAnyH _ _ _ _ _ _ _ (Act.put _ (some 52) _) _
      try simp only [Act.put, List.setIfInBounds_toArray, List.set_cons_zero, List.set_cons_succ]
      refine wpAnyH_ready (rs := [27]) (by kernel_rfl) (by simp) ?_
      refine AllReadyH.cons rfl (fun K hK => ?_) AllReadyH.nil
      rw [if_neg (by exact Bool.false_ne_true)]
      refine hK.out (Act.put _ (some 53) undef) _ (by assumption) (fun _ => ?_)
      clear hK K
      try simp only [Act.put, List.setIfInBounds_toArray, List.set_cons_zero, List.set_cons_succ]
      refine wpAnyH_take (i := 28) (v := undef) rfl (by kernel_rfl) (by kernel_rfl) (by kernel_rfl) (fun _ _ _ h => h) (Or.inr ⟨by rfl, rfl⟩) (by assumption) ?_
      change wpAnyH _ _ _ _ _ _ _ (Act.put _ (some 54) _) _
      try simp only [Act.put, List.setIfInBounds_toArray, List.set_cons_zero, List.set_cons_succ]
      refine wpAnyH_take (i := 29) (v := .bool false) rfl (by kernel_rfl) (by kernel_rfl) (by kernel_rfl) (fun _ _ _ h => h) (Or.inl ⟨by rfl, ?_⟩) (by assumption) ?_
      · (intro w2 _; go_simp)
      change wpAnyH _ _ _ _ _ _ _ (Act.put _ (some 55) _) _
      try simp only [Act.put, List.setIfInBounds_toArray, List.set_cons_zero, List.set_cons_succ]
      refine wpAnyH_take (i := 30) (v := .bool false) rfl (by kernel_rfl) (by kernel_rfl) (by kernel_rfl) (fun _ _ _ h => h) (Or.inl ⟨by rfl, ?_⟩) (by assumption) ?_
      · (intro w2 _; go_simp)
      change wpAnyH _ _ _ _ _ _ _ (Act.put _ (some 56) _) _
      try simp only [Act.put, List.setIfInBounds_toArray, List.set_cons_zero, List.set_cons_succ]
      refine wpAnyH_take (i := 31) (v := undef) rfl (by kernel_rfl) (by kernel_rfl) (by kernel_rfl) (fun _ _ _ h => h) (Or.inr ⟨by rfl, rfl⟩) (by assumption) ?_
      change wpAnyH _ _ _ _ _ _ _ (Act.put _ (some 57) _) _
      try simp only [Act.put, List.setIfInBounds_toArray, List.set_cons_zero, List.set_cons_succ]
      refine wpAnyH_take (i := 32) (v := undef) rfl (by kernel_rfl) (by kernel_rfl) (by kernel_rfl) (fun _ _ _ h => h) (Or.inr ⟨by rfl, rfl⟩) (by assumption) ?_
      change wpAnyH _ _ _ _ _ _ _ (Act.put _ (some 58) _) _
      try simp only [Act.put, List.setIfInBounds_toArray, List.set_cons_zero, List.set_cons_succ]
      refine wpAnyH_take (i := 33) (v := undef) rfl (by kernel_rfl) (by kernel_rfl) (by kernel_rfl) (fun _ _ _ h => h) (Or.inr ⟨by rfl, rfl⟩) (by assumption) ?_
      change wpAnyH _ _ _ _ _ _ _ (Act.put _ (some 59) _) _
      try simp only [Act.put, List.setIfInBounds_toArray, List.set_cons_zero, List.set_cons_succ]
      refine wpAnyH_take (i := 34) (v := .bool false) rfl (by kernel_rfl) (by kernel_rfl) (by kernel_rfl) (fun _ _ _ h => h) (Or.inl ⟨by rfl, ?_⟩) (by assumption) ?_
      · (intro w2 _; go_simp)
      change wpAnyH _ _ _ _ _ _ _ (Act.put _ (some 60) _) _
      try simp only [Act.put, List.setIfInBounds_toArray, List.set_cons_zero, List.set_cons_succ]
      refine wpAnyH_take (i := 35) (v := .bool false) rfl (by kernel_rfl) (by kernel_rfl) (by kernel_rfl) (fun _ _ _ h => h) (Or.inl ⟨by rfl, ?_⟩) (by assumption) ?_
      · (intro w2 _; go_simp)
      change wpAnyH _ _ _ _ _ _ _ (Act.put _ (some 61) _) _
      try simp only [Act.put, List.setIfInBounds_toArray, List.set_cons_zero, List.set_cons_succ]
      refine wpAnyH_done (by kernel_rfl) ?_ _
      have UA := hu0.trans U
      clear HL1 HL2 HO1 HO2 HR HS
      have HLE := least_spec wa (Old w) _ l (h.upd UA (Upd.fr_non (Fin.old w))) ((Fin.old w).upd UA) (by omega)
      unfold LeastPost at HLE
      simp only [It.cells] at HLE
      have hsub : ∀ t, LeastIs l t → ∀ k (hk : k < l.length), ltB l[k] t = false := fun t ht k hk => (ht.2 (by intro e; rw [e] at hk; simp at hk)).2 _ (List.getElem_mem hk)
      by_cases hl0 : 0 < l.length
      · rw [decide_eq_true hl0] at HLE
        go_wp2_with fail
        with_reducible refine HLE.mono ?_
        rintro e w2 ⟨t, ht, rfl, hu2⟩
        have UB := UA.trans hu2
        have ht2 := hsub t ht
        have htm : l ≠ [] → t ∈ l := fun h => (ht.2 h).1
        have hb9 : (w2.alloc (.cells t.cells.toArray 33)).heap[w2.heap.size]? = some (.cells t.cells.toArray 33 (0, 0)) := heap_alloc_new w2 _
        have UC : Upd Non w (w2.alloc (.cells t.cells.toArray 33)) := UB.alloc _
        have HT2 := Lib.hid ht2
        have HTM := Lib.hid htm
        simp only [It.cells] at hb9 UC
        obtain ⟨W8, hW8⟩ : ∃ W8, W8 = w2.alloc (.cells #[.int .i64 t.at_, .int .i64 t.flow, .int .i64 t.run, .int .i64 t.ref, .int .i64 t.turn, .int .i64 t.kind] 33) := ⟨_, rfl⟩
        rw [← hW8] at hb9 UC
        clear ht ht2 htm hsub HLE
        go_wp2_with fail
        rw [← hW8]
        clear hW8
        generalize w2.heap.size = p9 at hb9 ⊢
        go_loopw [11, 12] (fun g i wr => ∃ (k : Nat) (tb : Bool), k ≤ l.length ∧ i = .int .i64 k ∧ g = .bool tb ∧ Upd Non W8 wr ∧ Hid (tb = !decide (t ∈ l.take k))) (fun _ i _ => l.length - (intOf i).toNat)
        case atStart => exact ⟨0, true, Nat.zero_le _, rfl, rfl, Upd.refl _ _, Lib.hid (by simp)⟩
        case round =>
          obtain ⟨k, tb, hk, rfl, rfl, hu, htb⟩ := hrel
          by_cases hlt : k < l.length
          · obtain ⟨b1, o1, c1, e1, _, hb1, hxw, m0, m1, m2, m3, m4, m5⟩ := (h.upd (UC.trans hu) (Upd.fr_non (Fin.old w))).it hlt
            cases e1
            have hle := HT2.out k hlt
            obtain ⟨x, hx⟩ : ∃ x, l[k] = x := ⟨_, rfl⟩
            rw [hx] at hle hxw m0 m1 m2 m3 m4 m5
            have htk : l.take (k + 1) = l.take k ++ [x] := by rw [take_snoc l k hlt, hx]
            have HTK := Lib.hid htk
            have hbW : b1 < wr.heap.size := World.block_lt_of_cell? wr _ m0
            have h9 := (hu.block p9 (blk_lt hb9) id).trans hb9
            have HL := fun W' => less_spec W' x t
            unfold LessPost at HL
            simp only [hle] at HL
            have hcells : ∀ W', Upd Non wr W' → W'.cell? ⟨b1, o1 + k * 6, none⟩ = some (.int .i64 x.at_) ∧ W'.cell? ⟨b1, o1 + k * 6 + 1, none⟩ = some (.int .i64 x.flow) ∧ W'.cell? ⟨b1, o1 + k * 6 + 2, none⟩ = some (.int .i64 x.run) ∧ W'.cell? ⟨b1, o1 + k * 6 + 3, none⟩ = some (.int .i64 x.ref) ∧ W'.cell? ⟨b1, o1 + k * 6 + 4, none⟩ = some (.int .i64 x.turn) ∧ W'.cell? ⟨b1, o1 + k * 6 + 5, none⟩ = some (.int .i64 x.kind) ∧ W'.cell? ⟨p9, 0, none⟩ = some (.int .i64 t.at_) ∧ W'.cell? ⟨p9, 1, none⟩ = some (.int .i64 t.flow) ∧ W'.cell? ⟨p9, 2, none⟩ = some (.int .i64 t.run) ∧ W'.cell? ⟨p9, 3, none⟩ = some (.int .i64 t.ref) ∧ W'.cell? ⟨p9, 4, none⟩ = some (.int .i64 t.turn) ∧ W'.cell? ⟨p9, 5, none⟩ = some (.int .i64 t.kind) := fun W' hw => by
              have h9' := (hw.block p9 (blk_lt h9) id).trans h9
              exact ⟨(hw.cell (p := ⟨b1, o1 + k * 6, none⟩) hbW id).trans m0, (hw.cell (p := ⟨b1, o1 + k * 6 + 1, none⟩) hbW id).trans m1, (hw.cell (p := ⟨b1, o1 + k * 6 + 2, none⟩) hbW id).trans m2, (hw.cell (p := ⟨b1, o1 + k * 6 + 3, none⟩) hbW id).trans m3, (hw.cell (p := ⟨b1, o1 + k * 6 + 4, none⟩) hbW id).trans m4, (hw.cell (p := ⟨b1, o1 + k * 6 + 5, none⟩) hbW id).trans m5, blk_at h9' 0, blk_at h9' 1, blk_at h9' 2, blk_at h9' 3, blk_at h9' 4, blk_at h9' 5⟩
            have S0 := hcells wr.drew (Upd.refl _ _).drew
            simp only [It.cells] at HL
            have HC := Lib.hid hcells
            clear hx htk hcells hle h9
            by_cases hxt : x = t
            · subst hxt
              have hE : eqB ⟨x.at_, x.flow, x.run, x.ref, x.turn, x.kind⟩ ⟨x.at_, x.flow, x.run, x.ref, x.turn, x.kind⟩ = true := by simp [eqB]
              go_wp2_with fail
              go_region_held3 (fun W' => W'.cell? ⟨b1, o1 + k * 6, none⟩ = some (.int .i64 x.at_) ∧ W'.cell? ⟨b1, o1 + k * 6 + 1, none⟩ = some (.int .i64 x.flow) ∧ W'.cell? ⟨b1, o1 + k * 6 + 2, none⟩ = some (.int .i64 x.run) ∧ W'.cell? ⟨b1, o1 + k * 6 + 3, none⟩ = some (.int .i64 x.ref) ∧ W'.cell? ⟨b1, o1 + k * 6 + 4, none⟩ = some (.int .i64 x.turn) ∧ W'.cell? ⟨b1, o1 + k * 6 + 5, none⟩ = some (.int .i64 x.kind) ∧ W'.cell? ⟨p9, 0, none⟩ = some (.int .i64 x.at_) ∧ W'.cell? ⟨p9, 1, none⟩ = some (.int .i64 x.flow) ∧ W'.cell? ⟨p9, 2, none⟩ = some (.int .i64 x.run) ∧ W'.cell? ⟨p9, 3, none⟩ = some (.int .i64 x.ref) ∧ W'.cell? ⟨p9, 4, none⟩ = some (.int .i64 x.turn) ∧ W'.cell? ⟨p9, 5, none⟩ = some (.int .i64 x.kind))
                (first | exact S0 | exact Sa | go_keep)
                ((go_at_call 14; (with_reducible refine (HL _).mono ?_); rintro e wq ⟨rfl, huq⟩; have Sa := HC.out wq (((Upd.refl _ _).drew).trans huq)))
              obtain ⟨s0, s1, s2, s3, s4, s5, s6, s7, s8, s9, s10, s11⟩ := Sa
              go_wp2_with fail
              go_quiet (fail)
              go_wp2
              go_roundw
              case rel => exact ⟨k + 1, false, by omega, by go_num, rfl, ((hu.drew).trans huq).drewN _, Lib.hid (by rw [HTK.out]; simp)⟩
              case measure => simp [intOf]; omega
            · have hE : eqB ⟨x.at_, x.flow, x.run, x.ref, x.turn, x.kind⟩ ⟨t.at_, t.flow, t.run, t.ref, t.turn, t.kind⟩ = false := by show decide (x = t) = false; simp [hxt]
              have hmm : decide (t ∈ l.take (k + 1)) = decide (t ∈ l.take k) := by rw [HTK.out]; simp [Ne.symm hxt]
              have HMM := Lib.hid hmm
              clear hmm
              have HXT := Lib.hid hxt
              clear hxt
              go_wp2_with fail
              go_region_held3 (fun W' => W'.cell? ⟨b1, o1 + k * 6, none⟩ = some (.int .i64 x.at_) ∧ W'.cell? ⟨b1, o1 + k * 6 + 1, none⟩ = some (.int .i64 x.flow) ∧ W'.cell? ⟨b1, o1 + k * 6 + 2, none⟩ = some (.int .i64 x.run) ∧ W'.cell? ⟨b1, o1 + k * 6 + 3, none⟩ = some (.int .i64 x.ref) ∧ W'.cell? ⟨b1, o1 + k * 6 + 4, none⟩ = some (.int .i64 x.turn) ∧ W'.cell? ⟨b1, o1 + k * 6 + 5, none⟩ = some (.int .i64 x.kind) ∧ W'.cell? ⟨p9, 0, none⟩ = some (.int .i64 t.at_) ∧ W'.cell? ⟨p9, 1, none⟩ = some (.int .i64 t.flow) ∧ W'.cell? ⟨p9, 2, none⟩ = some (.int .i64 t.run) ∧ W'.cell? ⟨p9, 3, none⟩ = some (.int .i64 t.ref) ∧ W'.cell? ⟨p9, 4, none⟩ = some (.int .i64 t.turn) ∧ W'.cell? ⟨p9, 5, none⟩ = some (.int .i64 t.kind))
                (first | exact S0 | exact Sa | go_keep)
                ((go_at_call 14; (with_reducible refine (HL _).mono ?_); rintro e wq ⟨rfl, huq⟩; have Sa := HC.out wq (((Upd.refl _ _).drew).trans huq)))
              obtain ⟨s0, s1, s2, s3, s4, s5, s6, s7, s8, s9, s10, s11⟩ := Sa
              go_wp2_with fail
              go_quiet (fail)
              go_wp2
              go_roundw
              case rel => exact ⟨k + 1, tb, by omega, by go_num, rfl, ((hu.drew).trans huq).drewN _, Lib.hid (by rw [HMM.out]; exact htb.out)⟩
              case measure => simp [intOf]; omega
          · obtain rfl : k = l.length := by omega
            have W9U := UC.trans hu
            obtain rfl : tb = false := by rw [htb.out, List.take_length]; simp [HTM.out (by intro e; rw [e] at hl0; simp at hl0)]
            have UI := W9U
            have HTI := top_spec wr (Old w) _ ns (hi.upd UI (Upd.fr_non (Fin.old w))) ((Fin.old w).upd UI) (by omega)
            unfold TopPost at HTI
            have hd2 : ∀ m : Int, (m == 0) = decide (m = 0) := fun m => by rw [Bool.eq_iff_iff]; simp
            by_cases hn0 : 0 < ns.length
            · rw [decide_eq_true hn0] at HTI
              go_wp2_with fail
              with_reducible refine HTI.mono ?_
              rintro e w4 ⟨m, hm, rfl, hu4⟩
              have UJ := UI.trans hu4
              have HM := Lib.hid hm
              clear hm HTI
              go_wp2_with fail
              go_loopw [15] (fun i wr => ∃ k : Nat, k ≤ ns.length ∧ i = .int .i64 k ∧ Upd Non w4 wr) (fun i _ => ns.length - (intOf i).toNat)
              case atStart => exact ⟨0, Nat.zero_le _, rfl, Upd.refl _ _⟩
              case round =>
                obtain ⟨k, hk, rfl, hu⟩ := hrel
                by_cases hlt : k < ns.length
                · obtain ⟨b1, o1, c1, e1, _, hb1, m0⟩ := (hi.upd (UJ.trans hu) (Upd.fr_non (Fin.old w))).int hlt
                  cases e1
                  have hle : ¬ m < ns[k] := by have := HM.out.2 ns[k] (List.getElem_mem hlt); omega
                  obtain ⟨x, hx⟩ : ∃ x, ns[k] = x := ⟨_, rfl⟩
                  rw [hx] at m0 hle
                  have hlb1 := World.block_lt_of_cell? wr _ m0
                  clear hx
                  go_wp2
                  go_roundw
                  case rel => exact ⟨k + 1, by omega, by go_num, hu⟩
                  case measure => simp [intOf]; omega
                · obtain rfl : k = ns.length := by omega
                  go_wp2
                  go_ret
                  exact ⟨rfl, (UJ.trans hu).below⟩
            · rw [decide_eq_false hn0] at HTI
              go_wp2_with fail
              with_reducible refine HTI.mono ?_
              rintro e w4 ⟨m, hm, rfl, hu4⟩
              have UJ := UI.trans hu4
              have hns : ns = [] := List.length_eq_zero_iff.1 (by omega)
              obtain rfl := hm.1 hns
              clear hm HTI
              go_wp2_with fail
              go_loopw [15] (fun i wr => i = .int .i64 0 ∧ Upd Non w4 wr) (fun _ _ => 0)
              case atStart => exact ⟨rfl, Upd.refl _ _⟩
              case round =>
                obtain ⟨rfl, hu⟩ := hrel
                go_wp2
                go_ret
                exact ⟨rfl, (UJ.trans hu).below⟩
      · rw [decide_eq_false hl0] at HLE
        go_wp2_with fail
        with_reducible refine HLE.mono ?_
        rintro e w2 ⟨t, ht, rfl, hu2⟩
        have UB := UA.trans hu2
        have ht2 := hsub t ht
        have htm : l ≠ [] → t ∈ l := fun h => (ht.2 h).1
        have hb9 : (w2.alloc (.cells t.cells.toArray 33)).heap[w2.heap.size]? = some (.cells t.cells.toArray 33 (0, 0)) := heap_alloc_new w2 _
        have UC : Upd Non w (w2.alloc (.cells t.cells.toArray 33)) := UB.alloc _
        have HT2 := Lib.hid ht2
        have HTM := Lib.hid htm
        simp only [It.cells] at hb9 UC
        obtain ⟨W8, hW8⟩ : ∃ W8, W8 = w2.alloc (.cells #[.int .i64 t.at_, .int .i64 t.flow, .int .i64 t.run, .int .i64 t.ref, .int .i64 t.turn, .int .i64 t.kind] 33) := ⟨_, rfl⟩
        rw [← hW8] at hb9 UC
        clear ht ht2 htm hsub HLE
        go_wp2_with fail
        rw [← hW8]
        clear hW8
        generalize w2.heap.size = p9 at hb9 ⊢
        go_loopw [11, 12] (fun g i wr => ∃ (k : Nat) (tb : Bool), k ≤ l.length ∧ i = .int .i64 k ∧ g = .bool tb ∧ Upd Non W8 wr ∧ Hid (tb = !decide (t ∈ l.take k))) (fun _ i _ => l.length - (intOf i).toNat)
        case atStart => exact ⟨0, true, Nat.zero_le _, rfl, rfl, Upd.refl _ _, Lib.hid (by simp)⟩
        case round =>
          obtain ⟨k, tb, hk, rfl, rfl, hu, htb⟩ := hrel
          by_cases hlt : k < l.length
          · obtain ⟨b1, o1, c1, e1, _, hb1, hxw, m0, m1, m2, m3, m4, m5⟩ := (h.upd (UC.trans hu) (Upd.fr_non (Fin.old w))).it hlt
            cases e1
            have hle := HT2.out k hlt
            obtain ⟨x, hx⟩ : ∃ x, l[k] = x := ⟨_, rfl⟩
            rw [hx] at hle hxw m0 m1 m2 m3 m4 m5
            have htk : l.take (k + 1) = l.take k ++ [x] := by rw [take_snoc l k hlt, hx]
            have HTK := Lib.hid htk
            have hbW : b1 < wr.heap.size := World.block_lt_of_cell? wr _ m0
            have h9 := (hu.block p9 (blk_lt hb9) id).trans hb9
            have HL := fun W' => less_spec W' x t
            unfold LessPost at HL
            simp only [hle] at HL
            have hcells : ∀ W', Upd Non wr W' → W'.cell? ⟨b1, o1 + k * 6, none⟩ = some (.int .i64 x.at_) ∧ W'.cell? ⟨b1, o1 + k * 6 + 1, none⟩ = some (.int .i64 x.flow) ∧ W'.cell? ⟨b1, o1 + k * 6 + 2, none⟩ = some (.int .i64 x.run) ∧ W'.cell? ⟨b1, o1 + k * 6 + 3, none⟩ = some (.int .i64 x.ref) ∧ W'.cell? ⟨b1, o1 + k * 6 + 4, none⟩ = some (.int .i64 x.turn) ∧ W'.cell? ⟨b1, o1 + k * 6 + 5, none⟩ = some (.int .i64 x.kind) ∧ W'.cell? ⟨p9, 0, none⟩ = some (.int .i64 t.at_) ∧ W'.cell? ⟨p9, 1, none⟩ = some (.int .i64 t.flow) ∧ W'.cell? ⟨p9, 2, none⟩ = some (.int .i64 t.run) ∧ W'.cell? ⟨p9, 3, none⟩ = some (.int .i64 t.ref) ∧ W'.cell? ⟨p9, 4, none⟩ = some (.int .i64 t.turn) ∧ W'.cell? ⟨p9, 5, none⟩ = some (.int .i64 t.kind) := fun W' hw => by
              have h9' := (hw.block p9 (blk_lt h9) id).trans h9
              exact ⟨(hw.cell (p := ⟨b1, o1 + k * 6, none⟩) hbW id).trans m0, (hw.cell (p := ⟨b1, o1 + k * 6 + 1, none⟩) hbW id).trans m1, (hw.cell (p := ⟨b1, o1 + k * 6 + 2, none⟩) hbW id).trans m2, (hw.cell (p := ⟨b1, o1 + k * 6 + 3, none⟩) hbW id).trans m3, (hw.cell (p := ⟨b1, o1 + k * 6 + 4, none⟩) hbW id).trans m4, (hw.cell (p := ⟨b1, o1 + k * 6 + 5, none⟩) hbW id).trans m5, blk_at h9' 0, blk_at h9' 1, blk_at h9' 2, blk_at h9' 3, blk_at h9' 4, blk_at h9' 5⟩
            have S0 := hcells wr.drew (Upd.refl _ _).drew
            simp only [It.cells] at HL
            have HC := Lib.hid hcells
            clear hx htk hcells hle h9
            by_cases hxt : x = t
            · subst hxt
              have hE : eqB ⟨x.at_, x.flow, x.run, x.ref, x.turn, x.kind⟩ ⟨x.at_, x.flow, x.run, x.ref, x.turn, x.kind⟩ = true := by simp [eqB]
              go_wp2_with fail
              go_region_held3 (fun W' => W'.cell? ⟨b1, o1 + k * 6, none⟩ = some (.int .i64 x.at_) ∧ W'.cell? ⟨b1, o1 + k * 6 + 1, none⟩ = some (.int .i64 x.flow) ∧ W'.cell? ⟨b1, o1 + k * 6 + 2, none⟩ = some (.int .i64 x.run) ∧ W'.cell? ⟨b1, o1 + k * 6 + 3, none⟩ = some (.int .i64 x.ref) ∧ W'.cell? ⟨b1, o1 + k * 6 + 4, none⟩ = some (.int .i64 x.turn) ∧ W'.cell? ⟨b1, o1 + k * 6 + 5, none⟩ = some (.int .i64 x.kind) ∧ W'.cell? ⟨p9, 0, none⟩ = some (.int .i64 x.at_) ∧ W'.cell? ⟨p9, 1, none⟩ = some (.int .i64 x.flow) ∧ W'.cell? ⟨p9, 2, none⟩ = some (.int .i64 x.run) ∧ W'.cell? ⟨p9, 3, none⟩ = some (.int .i64 x.ref) ∧ W'.cell? ⟨p9, 4, none⟩ = some (.int .i64 x.turn) ∧ W'.cell? ⟨p9, 5, none⟩ = some (.int .i64 x.kind))
                (first | exact S0 | exact Sa | go_keep)
                ((go_at_call 14; (with_reducible refine (HL _).mono ?_); rintro e wq ⟨rfl, huq⟩; have Sa := HC.out wq (((Upd.refl _ _).drew).trans huq)))
              obtain ⟨s0, s1, s2, s3, s4, s5, s6, s7, s8, s9, s10, s11⟩ := Sa
              go_wp2_with fail
              go_quiet (fail)
              go_wp2
              go_roundw
              case rel => exact ⟨k + 1, false, by omega, by go_num, rfl, ((hu.drew).trans huq).drewN _, Lib.hid (by rw [HTK.out]; simp)⟩
              case measure => simp [intOf]; omega
            · have hE : eqB ⟨x.at_, x.flow, x.run, x.ref, x.turn, x.kind⟩ ⟨t.at_, t.flow, t.run, t.ref, t.turn, t.kind⟩ = false := by show decide (x = t) = false; simp [hxt]
              have hmm : decide (t ∈ l.take (k + 1)) = decide (t ∈ l.take k) := by rw [HTK.out]; simp [Ne.symm hxt]
              have HMM := Lib.hid hmm
              clear hmm
              have HXT := Lib.hid hxt
              clear hxt
              go_wp2_with fail
              go_region_held3 (fun W' => W'.cell? ⟨b1, o1 + k * 6, none⟩ = some (.int .i64 x.at_) ∧ W'.cell? ⟨b1, o1 + k * 6 + 1, none⟩ = some (.int .i64 x.flow) ∧ W'.cell? ⟨b1, o1 + k * 6 + 2, none⟩ = some (.int .i64 x.run) ∧ W'.cell? ⟨b1, o1 + k * 6 + 3, none⟩ = some (.int .i64 x.ref) ∧ W'.cell? ⟨b1, o1 + k * 6 + 4, none⟩ = some (.int .i64 x.turn) ∧ W'.cell? ⟨b1, o1 + k * 6 + 5, none⟩ = some (.int .i64 x.kind) ∧ W'.cell? ⟨p9, 0, none⟩ = some (.int .i64 t.at_) ∧ W'.cell? ⟨p9, 1, none⟩ = some (.int .i64 t.flow) ∧ W'.cell? ⟨p9, 2, none⟩ = some (.int .i64 t.run) ∧ W'.cell? ⟨p9, 3, none⟩ = some (.int .i64 t.ref) ∧ W'.cell? ⟨p9, 4, none⟩ = some (.int .i64 t.turn) ∧ W'.cell? ⟨p9, 5, none⟩ = some (.int .i64 t.kind))
                (first | exact S0 | exact Sa | go_keep)
                ((go_at_call 14; (with_reducible refine (HL _).mono ?_); rintro e wq ⟨rfl, huq⟩; have Sa := HC.out wq (((Upd.refl _ _).drew).trans huq)))
              obtain ⟨s0, s1, s2, s3, s4, s5, s6, s7, s8, s9, s10, s11⟩ := Sa
              go_wp2_with fail
              go_quiet (fail)
              go_wp2
              go_roundw
              case rel => exact ⟨k + 1, tb, by omega, by go_num, rfl, ((hu.drew).trans huq).drewN _, Lib.hid (by rw [HMM.out]; exact htb.out)⟩
              case measure => simp [intOf]; omega
          · obtain rfl : k = l.length := by omega
            have W9U := UC.trans hu
            have UI := W9U
            have HTI := top_spec wr (Old w) _ ns (hi.upd UI (Upd.fr_non (Fin.old w))) ((Fin.old w).upd UI) (by omega)
            unfold TopPost at HTI
            have hd2 : ∀ m : Int, (m == 0) = decide (m = 0) := fun m => by rw [Bool.eq_iff_iff]; simp
            by_cases hn0 : 0 < ns.length
            · rw [decide_eq_true hn0] at HTI
              go_wp2_with fail
              with_reducible refine HTI.mono ?_
              rintro e w4 ⟨m, hm, rfl, hu4⟩
              have UJ := UI.trans hu4
              have HM := Lib.hid hm
              clear hm HTI
              go_wp2_with fail
              go_loopw [15] (fun i wr => ∃ k : Nat, k ≤ ns.length ∧ i = .int .i64 k ∧ Upd Non w4 wr) (fun i _ => ns.length - (intOf i).toNat)
              case atStart => exact ⟨0, Nat.zero_le _, rfl, Upd.refl _ _⟩
              case round =>
                obtain ⟨k, hk, rfl, hu⟩ := hrel
                by_cases hlt : k < ns.length
                · obtain ⟨b1, o1, c1, e1, _, hb1, m0⟩ := (hi.upd (UJ.trans hu) (Upd.fr_non (Fin.old w))).int hlt
                  cases e1
                  have hle : ¬ m < ns[k] := by have := HM.out.2 ns[k] (List.getElem_mem hlt); omega
                  obtain ⟨x, hx⟩ : ∃ x, ns[k] = x := ⟨_, rfl⟩
                  rw [hx] at m0 hle
                  have hlb1 := World.block_lt_of_cell? wr _ m0
                  clear hx
                  go_wp2
                  go_roundw
                  case rel => exact ⟨k + 1, by omega, by go_num, hu⟩
                  case measure => simp [intOf]; omega
                · obtain rfl : k = ns.length := by omega
                  go_wp2
                  go_ret
                  exact ⟨rfl, (UJ.trans hu).below⟩
            · rw [decide_eq_false hn0] at HTI
              go_wp2_with fail
              with_reducible refine HTI.mono ?_
              rintro e w4 ⟨m, hm, rfl, hu4⟩
              have UJ := UI.trans hu4
              have hns : ns = [] := List.length_eq_zero_iff.1 (by omega)
              obtain rfl := hm.1 hns
              clear hm HTI
              go_wp2_with fail
              go_loopw [15] (fun i wr => i = .int .i64 0 ∧ Upd Non w4 wr) (fun _ _ => 0)
              case atStart => exact ⟨rfl, Upd.refl _ _⟩
              case round =>
                obtain ⟨rfl, hu⟩ := hrel
                go_wp2
                go_ret
                exact ⟨rfl, (UJ.trans hu).below⟩
    · simp only [q1, q2] at HL1 HL2 HR
      clear q1 q2 HQ3
      go_wp2_with fail
      have U : Upd Non W w1.drew := hu1.drew
      have S0 := HS w1.drew U
      refine wp_region_held_drew (S := Box2 w.heap.size a b) (by kernel_rfl) S0 (fun _ => ?_)
      refine wpAnyH_take (i := 0) (v := .agg #[.int .i64 a.at_, .int .i64 a.flow, .int .i64 a.run, .int .i64 a.ref, .int .i64 a.turn, .int .i64 a.kind]) rfl (by kernel_rfl) (by kernel_rfl) (by kernel_rfl) (fun _ _ _ h => h) (Or.inl ⟨by rfl, ?_⟩) (by assumption) ?_
      · (intro w2 hw2; obtain ⟨c0, c1, c2, c3, c4, c5, c6, c7, c8, c9, c10, c11⟩ := hw2; go_simp)
      change wpAnyH _ _ _ _ _ _ _ (Act.put _ (some 26) _) _
      try simp only [Act.put, List.setIfInBounds_toArray, List.set_cons_zero, List.set_cons_succ]
      refine wpAnyH_take (i := 1) (v := .agg #[.int .i64 b.at_, .int .i64 b.flow, .int .i64 b.run, .int .i64 b.ref, .int .i64 b.turn, .int .i64 b.kind]) rfl (by kernel_rfl) (by kernel_rfl) (by kernel_rfl) (fun _ _ _ h => h) (Or.inl ⟨by rfl, ?_⟩) (by assumption) ?_
      · (intro w2 hw2; obtain ⟨c0, c1, c2, c3, c4, c5, c6, c7, c8, c9, c10, c11⟩ := hw2; go_simp)
      change wpAnyH _ _ _ _ _ _ _ (Act.put _ (some 27) _) _
      try simp only [Act.put, List.setIfInBounds_toArray, List.set_cons_zero, List.set_cons_succ]
      refine wpAnyH_take (i := 3) (v := .agg #[.int .i64 a.at_, .int .i64 a.flow, .int .i64 a.run, .int .i64 a.ref, .int .i64 a.turn, .int .i64 a.kind]) rfl (by kernel_rfl) (by kernel_rfl) (by kernel_rfl) (fun _ _ _ h => h) (Or.inl ⟨by rfl, ?_⟩) (by assumption) ?_
      · (intro w2 hw2; obtain ⟨c0, c1, c2, c3, c4, c5, c6, c7, c8, c9, c10, c11⟩ := hw2; go_simp)
      change wpAnyH _ _ _ _ _ _ _ (Act.put _ (some 29) _) _
      try simp only [Act.put, List.setIfInBounds_toArray, List.set_cons_zero, List.set_cons_succ]
      refine wpAnyH_take (i := 5) (v := .agg #[.int .i64 b.at_, .int .i64 b.flow, .int .i64 b.run, .int .i64 b.ref, .int .i64 b.turn, .int .i64 b.kind]) rfl (by kernel_rfl) (by kernel_rfl) (by kernel_rfl) (fun _ _ _ h => h) (Or.inl ⟨by rfl, ?_⟩) (by assumption) ?_
      · (intro w2 hw2; obtain ⟨c0, c1, c2, c3, c4, c5, c6, c7, c8, c9, c10, c11⟩ := hw2; go_simp)
      change wpAnyH _ _ _ _ _ _ _ (Act.put _ (some 31) _) _
      try simp only [Act.put, List.setIfInBounds_toArray, List.set_cons_zero, List.set_cons_succ]
      refine wpAnyH_ready (rs := [2]) (by kernel_rfl) (by simp) ?_
      refine AllReadyH.cons rfl (fun K hK => ?_) AllReadyH.nil
      go_simp
      go_at_call 14
      with_reducible refine (HL1 _).mono ?_
      rintro e wa ⟨rfl, hua⟩
      have U := U.trans hua
      have Sa := HS _ U
      go_wp2_with fail
      refine hK.out _ _ Sa (fun _ => ?_)
      clear hK K
      try simp only [Act.put, List.setIfInBounds_toArray, List.set_cons_zero, List.set_cons_succ]
      refine wpAnyH_ready (rs := [4]) (by kernel_rfl) (by simp) ?_
      refine AllReadyH.cons rfl (fun K hK => ?_) AllReadyH.nil
      go_simp
      go_at_call 17
      with_reducible refine (HO1 _).mono ?_
      rintro e wa ⟨rfl, hua⟩
      have U := U.trans hua
      have Sa := HS _ U
      go_wp2_with fail
      refine hK.out _ _ Sa (fun _ => ?_)
      clear hK K
      try simp only [Act.put, List.setIfInBounds_toArray, List.set_cons_zero, List.set_cons_succ]
      refine wpAnyH_ready (rs := [6]) (by kernel_rfl) (by simp) ?_
      refine AllReadyH.cons rfl (fun K hK => ?_) AllReadyH.nil
      go_simp
      go_at_call 17
      with_reducible refine (HO2 _).mono ?_
      rintro e wa ⟨rfl, hua⟩
      have U := U.trans hua
      have Sa := HS _ U
      go_wp2_with fail
      refine hK.out _ _ Sa (fun _ => ?_)
      clear hK K
      try simp only [Act.put, List.setIfInBounds_toArray, List.set_cons_zero, List.set_cons_succ]
      refine wpAnyH_ready (rs := [7]) (by kernel_rfl) (by simp) ?_
      refine AllReadyH.cons rfl (fun K hK => ?_) AllReadyH.nil
      go_simp
      go_at_call 16
      with_reducible refine (HR _).mono ?_
      rintro e wa ⟨rfl, hua⟩
      have U := U.trans hua
      have Sa := HS _ U
      go_wp2_with fail
      refine hK.out _ _ Sa (fun _ => ?_)
      clear hK K
      try simp only [Act.put, List.setIfInBounds_toArray, List.set_cons_zero, List.set_cons_succ]
      refine wpAnyH_take (i := 8) (v := .bool false) rfl (by kernel_rfl) (by kernel_rfl) (by kernel_rfl) (fun _ _ _ h => h) (Or.inl ⟨by rfl, ?_⟩) (by assumption) ?_
      · (intro w2 _; go_simp)
      change wpAnyH _ _ _ _ _ _ _ (Act.put _ (some 34) _) _
      try simp only [Act.put, List.setIfInBounds_toArray, List.set_cons_zero, List.set_cons_succ]
      refine wpAnyH_take (i := 9) (v := .bool false) rfl (by kernel_rfl) (by kernel_rfl) (by kernel_rfl) (fun _ _ _ h => h) (Or.inl ⟨by rfl, ?_⟩) (by assumption) ?_
      · (intro w2 _; go_simp)
      change wpAnyH _ _ _ _ _ _ _ (Act.put _ (some 35) _) _
      try simp only [Act.put, List.setIfInBounds_toArray, List.set_cons_zero, List.set_cons_succ]
      refine wpAnyH_take (i := 10) (v := .agg #[.int .i64 a.at_, .int .i64 a.flow, .int .i64 a.run, .int .i64 a.ref, .int .i64 a.turn, .int .i64 a.kind]) rfl (by kernel_rfl) (by kernel_rfl) (by kernel_rfl) (fun _ _ _ h => h) (Or.inl ⟨by rfl, ?_⟩) (by assumption) ?_
      · (intro w2 hw2; obtain ⟨c0, c1, c2, c3, c4, c5, c6, c7, c8, c9, c10, c11⟩ := hw2; go_simp)
      change wpAnyH _ _ _ _ _ _ _ (Act.put _ (some 36) _) _
      try simp only [Act.put, List.setIfInBounds_toArray, List.set_cons_zero, List.set_cons_succ]
      refine wpAnyH_take (i := 11) (v := .agg #[.int .i64 b.at_, .int .i64 b.flow, .int .i64 b.run, .int .i64 b.ref, .int .i64 b.turn, .int .i64 b.kind]) rfl (by kernel_rfl) (by kernel_rfl) (by kernel_rfl) (fun _ _ _ h => h) (Or.inl ⟨by rfl, ?_⟩) (by assumption) ?_
      · (intro w2 hw2; obtain ⟨c0, c1, c2, c3, c4, c5, c6, c7, c8, c9, c10, c11⟩ := hw2; go_simp)
      change wpAnyH _ _ _ _ _ _ _ (Act.put _ (some 37) _) _
      try simp only [Act.put, List.setIfInBounds_toArray, List.set_cons_zero, List.set_cons_succ]
      refine wpAnyH_ready (rs := [12]) (by kernel_rfl) (by simp) ?_
      refine AllReadyH.cons rfl (fun K hK => ?_) AllReadyH.nil
      go_simp
      go_at_call 14
      with_reducible refine (HL1 _).mono ?_
      rintro e wa ⟨rfl, hua⟩
      have U := U.trans hua
      have Sa := HS _ U
      go_wp2_with fail
      refine hK.out _ _ Sa (fun _ => ?_)
      clear hK K
      try simp only [Act.put, List.setIfInBounds_toArray, List.set_cons_zero, List.set_cons_succ]
      refine wpAnyH_take (i := 13) (v := .bool false) rfl (by kernel_rfl) (by kernel_rfl) (by kernel_rfl) (fun _ _ _ h => h) (Or.inl ⟨by rfl, ?_⟩) (by assumption) ?_
      · (intro w2 _; go_simp)
      change wpAnyH _ _ _ _ _ _ _ (Act.put _ (some 39) _) _
      try simp only [Act.put, List.setIfInBounds_toArray, List.set_cons_zero, List.set_cons_succ]
      refine wpAnyH_take (i := 14) (v := undef) rfl (by kernel_rfl) (by kernel_rfl) (by kernel_rfl) (fun _ _ _ h => h) (Or.inr ⟨by rfl, rfl⟩) (by assumption) ?_
      change wpAnyH _ _ _ _ _ _ _ (Act.put _ (some 40) _) _
      try simp only [Act.put, List.setIfInBounds_toArray, List.set_cons_zero, List.set_cons_succ]
      refine wpAnyH_take (i := 15) (v := undef) rfl (by kernel_rfl) (by kernel_rfl) (by kernel_rfl) (fun _ _ _ h => h) (Or.inr ⟨by rfl, rfl⟩) (by assumption) ?_
      change wpAnyH _ _ _ _ _ _ _ (Act.put _ (some 41) _) _
      try simp only [Act.put, List.setIfInBounds_toArray, List.set_cons_zero, List.set_cons_succ]
      refine wpAnyH_ready (rs := [16]) (by kernel_rfl) (by simp) ?_
      refine AllReadyH.cons rfl (fun K hK => ?_) AllReadyH.nil
      rw [if_neg (by exact Bool.false_ne_true)]
      refine hK.out (Act.put _ (some 42) undef) _ (by assumption) (fun _ => ?_)
      clear hK K
      try simp only [Act.put, List.setIfInBounds_toArray, List.set_cons_zero, List.set_cons_succ]
      refine wpAnyH_take (i := 17) (v := .bool false) rfl (by kernel_rfl) (by kernel_rfl) (by kernel_rfl) (fun _ _ _ h => h) (Or.inl ⟨by rfl, ?_⟩) (by assumption) ?_
      · (intro w2 _; go_simp)
      change wpAnyH _ _ _ _ _ _ _ (Act.put _ (some 43) _) _
      try simp only [Act.put, List.setIfInBounds_toArray, List.set_cons_zero, List.set_cons_succ]
      refine wpAnyH_take (i := 18) (v := .bool false) rfl (by kernel_rfl) (by kernel_rfl) (by kernel_rfl) (fun _ _ _ h => h) (Or.inl ⟨by rfl, ?_⟩) (by assumption) ?_
      · (intro w2 _; go_simp)
      change wpAnyH _ _ _ _ _ _ _ (Act.put _ (some 44) _) _
      try simp only [Act.put, List.setIfInBounds_toArray, List.set_cons_zero, List.set_cons_succ]
      refine wpAnyH_take (i := 19) (v := .bool false) rfl (by kernel_rfl) (by kernel_rfl) (by kernel_rfl) (fun _ _ _ h => h) (Or.inl ⟨by rfl, ?_⟩) (by assumption) ?_
      · (intro w2 _; go_simp)
      change wpAnyH _ _ _ _ _ _ _ (Act.put _ (some 45) _) _
      try simp only [Act.put, List.setIfInBounds_toArray, List.set_cons_zero, List.set_cons_succ]
      refine wpAnyH_take (i := 20) (v := .agg #[.int .i64 a.at_, .int .i64 a.flow, .int .i64 a.run, .int .i64 a.ref, .int .i64 a.turn, .int .i64 a.kind]) rfl (by kernel_rfl) (by kernel_rfl) (by kernel_rfl) (fun _ _ _ h => h) (Or.inl ⟨by rfl, ?_⟩) (by assumption) ?_
      · (intro w2 hw2; obtain ⟨c0, c1, c2, c3, c4, c5, c6, c7, c8, c9, c10, c11⟩ := hw2; go_simp)
      change wpAnyH _ _ _ _ _ _ _ (Act.put _ (some 46) _) _
      try simp only [Act.put, List.setIfInBounds_toArray, List.set_cons_zero, List.set_cons_succ]
      refine wpAnyH_take (i := 21) (v := .agg #[.int .i64 b.at_, .int .i64 b.flow, .int .i64 b.run, .int .i64 b.ref, .int .i64 b.turn, .int .i64 b.kind]) rfl (by kernel_rfl) (by kernel_rfl) (by kernel_rfl) (fun _ _ _ h => h) (Or.inl ⟨by rfl, ?_⟩) (by assumption) ?_
      · (intro w2 hw2; obtain ⟨c0, c1, c2, c3, c4, c5, c6, c7, c8, c9, c10, c11⟩ := hw2; go_simp)
      change wpAnyH _ _ _ _ _ _ _ (Act.put _ (some 47) _) _
      try simp only [Act.put, List.setIfInBounds_toArray, List.set_cons_zero, List.set_cons_succ]
      refine wpAnyH_ready (rs := [22]) (by kernel_rfl) (by simp) ?_
      refine AllReadyH.cons rfl (fun K hK => ?_) AllReadyH.nil
      go_simp
      go_at_call 14
      with_reducible refine (HL1 _).mono ?_
      rintro e wa ⟨rfl, hua⟩
      have U := U.trans hua
      have Sa := HS _ U
      go_wp2_with fail
      refine hK.out _ _ Sa (fun _ => ?_)
      clear hK K
      try simp only [Act.put, List.setIfInBounds_toArray, List.set_cons_zero, List.set_cons_succ]
      refine wpAnyH_take (i := 23) (v := .bool true) rfl (by kernel_rfl) (by kernel_rfl) (by kernel_rfl) (fun _ _ _ h => h) (Or.inl ⟨by rfl, ?_⟩) (by assumption) ?_
      · (intro w2 _; go_simp)
      change wpAnyH _ _ _ _ _ _ _ (Act.put _ (some 49) _) _
      try simp only [Act.put, List.setIfInBounds_toArray, List.set_cons_zero, List.set_cons_succ]
      refine wpAnyH_take (i := 24) (v := .bool true) rfl (by kernel_rfl) (by kernel_rfl) (by kernel_rfl) (fun _ _ _ h => h) (Or.inl ⟨by rfl, ?_⟩) (by assumption) ?_
      · (intro w2 _; go_simp)
      change wpAnyH _ _ _ _ _ _ _ (Act.put _ (some 50) _) _
      try simp only [Act.put, List.setIfInBounds_toArray, List.set_cons_zero, List.set_cons_succ]
      refine wpAnyH_take (i := 25) (v := .agg #[.int .i64 b.at_, .int .i64 b.flow, .int .i64 b.run, .int .i64 b.ref, .int .i64 b.turn, .int .i64 b.kind]) rfl (by kernel_rfl) (by kernel_rfl) (by kernel_rfl) (fun _ _ _ h => h) (Or.inl ⟨by rfl, ?_⟩) (by assumption) ?_
      · (intro w2 hw2; obtain ⟨c0, c1, c2, c3, c4, c5, c6, c7, c8, c9, c10, c11⟩ := hw2; go_simp)
      change wpAnyH _ _ _ _ _ _ _ (Act.put _ (some 51) _) _
      try simp only [Act.put, List.setIfInBounds_toArray, List.set_cons_zero, List.set_cons_succ]
      refine wpAnyH_take (i := 26) (v := .agg #[.int .i64 a.at_, .int .i64 a.flow, .int .i64 a.run, .int .i64 a.ref, .int .i64 a.turn, .int .i64 a.kind]) rfl (by kernel_rfl) (by kernel_rfl) (by kernel_rfl) (fun _ _ _ h => h) (Or.inl ⟨by rfl, ?_⟩) (by assumption) ?_
      · (intro w2 hw2; obtain ⟨c0, c1, c2, c3, c4, c5, c6, c7, c8, c9, c10, c11⟩ := hw2; go_simp)
      change wpAnyH _ _ _ _ _ _ _ (Act.put _ (some 52) _) _
      try simp only [Act.put, List.setIfInBounds_toArray, List.set_cons_zero, List.set_cons_succ]
      refine wpAnyH_ready (rs := [27]) (by kernel_rfl) (by simp) ?_
      refine AllReadyH.cons rfl (fun K hK => ?_) AllReadyH.nil
      go_simp
      go_at_call 14
      with_reducible refine (HL2 _).mono ?_
      rintro e wa ⟨rfl, hua⟩
      have U := U.trans hua
      have Sa := HS _ U
      go_wp2_with fail
      refine hK.out _ _ Sa (fun _ => ?_)
      clear hK K
      try simp only [Act.put, List.setIfInBounds_toArray, List.set_cons_zero, List.set_cons_succ]
      refine wpAnyH_take (i := 28) (v := .bool false) rfl (by kernel_rfl) (by kernel_rfl) (by kernel_rfl) (fun _ _ _ h => h) (Or.inl ⟨by rfl, ?_⟩) (by assumption) ?_
      · (intro w2 _; go_simp)
      change wpAnyH _ _ _ _ _ _ _ (Act.put _ (some 54) _) _
      try simp only [Act.put, List.setIfInBounds_toArray, List.set_cons_zero, List.set_cons_succ]
      refine wpAnyH_take (i := 29) (v := .bool false) rfl (by kernel_rfl) (by kernel_rfl) (by kernel_rfl) (fun _ _ _ h => h) (Or.inl ⟨by rfl, ?_⟩) (by assumption) ?_
      · (intro w2 _; go_simp)
      change wpAnyH _ _ _ _ _ _ _ (Act.put _ (some 55) _) _
      try simp only [Act.put, List.setIfInBounds_toArray, List.set_cons_zero, List.set_cons_succ]
      refine wpAnyH_take (i := 30) (v := .bool false) rfl (by kernel_rfl) (by kernel_rfl) (by kernel_rfl) (fun _ _ _ h => h) (Or.inl ⟨by rfl, ?_⟩) (by assumption) ?_
      · (intro w2 _; go_simp)
      change wpAnyH _ _ _ _ _ _ _ (Act.put _ (some 56) _) _
      try simp only [Act.put, List.setIfInBounds_toArray, List.set_cons_zero, List.set_cons_succ]
      refine wpAnyH_take (i := 31) (v := undef) rfl (by kernel_rfl) (by kernel_rfl) (by kernel_rfl) (fun _ _ _ h => h) (Or.inr ⟨by rfl, rfl⟩) (by assumption) ?_
      change wpAnyH _ _ _ _ _ _ _ (Act.put _ (some 57) _) _
      try simp only [Act.put, List.setIfInBounds_toArray, List.set_cons_zero, List.set_cons_succ]
      refine wpAnyH_take (i := 32) (v := undef) rfl (by kernel_rfl) (by kernel_rfl) (by kernel_rfl) (fun _ _ _ h => h) (Or.inr ⟨by rfl, rfl⟩) (by assumption) ?_
      change wpAnyH _ _ _ _ _ _ _ (Act.put _ (some 58) _) _
      try simp only [Act.put, List.setIfInBounds_toArray, List.set_cons_zero, List.set_cons_succ]
      refine wpAnyH_take (i := 33) (v := undef) rfl (by kernel_rfl) (by kernel_rfl) (by kernel_rfl) (fun _ _ _ h => h) (Or.inr ⟨by rfl, rfl⟩) (by assumption) ?_
      change wpAnyH _ _ _ _ _ _ _ (Act.put _ (some 59) _) _
      try simp only [Act.put, List.setIfInBounds_toArray, List.set_cons_zero, List.set_cons_succ]
      refine wpAnyH_take (i := 34) (v := .bool false) rfl (by kernel_rfl) (by kernel_rfl) (by kernel_rfl) (fun _ _ _ h => h) (Or.inl ⟨by rfl, ?_⟩) (by assumption) ?_
      · (intro w2 _; go_simp)
      change wpAnyH _ _ _ _ _ _ _ (Act.put _ (some 60) _) _
      try simp only [Act.put, List.setIfInBounds_toArray, List.set_cons_zero, List.set_cons_succ]
      refine wpAnyH_take (i := 35) (v := .bool false) rfl (by kernel_rfl) (by kernel_rfl) (by kernel_rfl) (fun _ _ _ h => h) (Or.inl ⟨by rfl, ?_⟩) (by assumption) ?_
      · (intro w2 _; go_simp)
      change wpAnyH _ _ _ _ _ _ _ (Act.put _ (some 61) _) _
      try simp only [Act.put, List.setIfInBounds_toArray, List.set_cons_zero, List.set_cons_succ]
      refine wpAnyH_done (by kernel_rfl) ?_ _
      have UA := hu0.trans U
      clear HL1 HL2 HO1 HO2 HR HS
      have HLE := least_spec wa (Old w) _ l (h.upd UA (Upd.fr_non (Fin.old w))) ((Fin.old w).upd UA) (by omega)
      unfold LeastPost at HLE
      simp only [It.cells] at HLE
      have hsub : ∀ t, LeastIs l t → ∀ k (hk : k < l.length), ltB l[k] t = false := fun t ht k hk => (ht.2 (by intro e; rw [e] at hk; simp at hk)).2 _ (List.getElem_mem hk)
      by_cases hl0 : 0 < l.length
      · rw [decide_eq_true hl0] at HLE
        go_wp2_with fail
        with_reducible refine HLE.mono ?_
        rintro e w2 ⟨t, ht, rfl, hu2⟩
        have UB := UA.trans hu2
        have ht2 := hsub t ht
        have htm : l ≠ [] → t ∈ l := fun h => (ht.2 h).1
        have hb9 : (w2.alloc (.cells t.cells.toArray 33)).heap[w2.heap.size]? = some (.cells t.cells.toArray 33 (0, 0)) := heap_alloc_new w2 _
        have UC : Upd Non w (w2.alloc (.cells t.cells.toArray 33)) := UB.alloc _
        have HT2 := Lib.hid ht2
        have HTM := Lib.hid htm
        simp only [It.cells] at hb9 UC
        obtain ⟨W8, hW8⟩ : ∃ W8, W8 = w2.alloc (.cells #[.int .i64 t.at_, .int .i64 t.flow, .int .i64 t.run, .int .i64 t.ref, .int .i64 t.turn, .int .i64 t.kind] 33) := ⟨_, rfl⟩
        rw [← hW8] at hb9 UC
        clear ht ht2 htm hsub HLE
        go_wp2_with fail
        rw [← hW8]
        clear hW8
        generalize w2.heap.size = p9 at hb9 ⊢
        go_loopw [11, 12] (fun g i wr => ∃ (k : Nat) (tb : Bool), k ≤ l.length ∧ i = .int .i64 k ∧ g = .bool tb ∧ Upd Non W8 wr ∧ Hid (tb = !decide (t ∈ l.take k))) (fun _ i _ => l.length - (intOf i).toNat)
        case atStart => exact ⟨0, true, Nat.zero_le _, rfl, rfl, Upd.refl _ _, Lib.hid (by simp)⟩
        case round =>
          obtain ⟨k, tb, hk, rfl, rfl, hu, htb⟩ := hrel
          by_cases hlt : k < l.length
          · obtain ⟨b1, o1, c1, e1, _, hb1, hxw, m0, m1, m2, m3, m4, m5⟩ := (h.upd (UC.trans hu) (Upd.fr_non (Fin.old w))).it hlt
            cases e1
            have hle := HT2.out k hlt
            obtain ⟨x, hx⟩ : ∃ x, l[k] = x := ⟨_, rfl⟩
            rw [hx] at hle hxw m0 m1 m2 m3 m4 m5
            have htk : l.take (k + 1) = l.take k ++ [x] := by rw [take_snoc l k hlt, hx]
            have HTK := Lib.hid htk
            have hbW : b1 < wr.heap.size := World.block_lt_of_cell? wr _ m0
            have h9 := (hu.block p9 (blk_lt hb9) id).trans hb9
            have HL := fun W' => less_spec W' x t
            unfold LessPost at HL
            simp only [hle] at HL
            have hcells : ∀ W', Upd Non wr W' → W'.cell? ⟨b1, o1 + k * 6, none⟩ = some (.int .i64 x.at_) ∧ W'.cell? ⟨b1, o1 + k * 6 + 1, none⟩ = some (.int .i64 x.flow) ∧ W'.cell? ⟨b1, o1 + k * 6 + 2, none⟩ = some (.int .i64 x.run) ∧ W'.cell? ⟨b1, o1 + k * 6 + 3, none⟩ = some (.int .i64 x.ref) ∧ W'.cell? ⟨b1, o1 + k * 6 + 4, none⟩ = some (.int .i64 x.turn) ∧ W'.cell? ⟨b1, o1 + k * 6 + 5, none⟩ = some (.int .i64 x.kind) ∧ W'.cell? ⟨p9, 0, none⟩ = some (.int .i64 t.at_) ∧ W'.cell? ⟨p9, 1, none⟩ = some (.int .i64 t.flow) ∧ W'.cell? ⟨p9, 2, none⟩ = some (.int .i64 t.run) ∧ W'.cell? ⟨p9, 3, none⟩ = some (.int .i64 t.ref) ∧ W'.cell? ⟨p9, 4, none⟩ = some (.int .i64 t.turn) ∧ W'.cell? ⟨p9, 5, none⟩ = some (.int .i64 t.kind) := fun W' hw => by
              have h9' := (hw.block p9 (blk_lt h9) id).trans h9
              exact ⟨(hw.cell (p := ⟨b1, o1 + k * 6, none⟩) hbW id).trans m0, (hw.cell (p := ⟨b1, o1 + k * 6 + 1, none⟩) hbW id).trans m1, (hw.cell (p := ⟨b1, o1 + k * 6 + 2, none⟩) hbW id).trans m2, (hw.cell (p := ⟨b1, o1 + k * 6 + 3, none⟩) hbW id).trans m3, (hw.cell (p := ⟨b1, o1 + k * 6 + 4, none⟩) hbW id).trans m4, (hw.cell (p := ⟨b1, o1 + k * 6 + 5, none⟩) hbW id).trans m5, blk_at h9' 0, blk_at h9' 1, blk_at h9' 2, blk_at h9' 3, blk_at h9' 4, blk_at h9' 5⟩
            have S0 := hcells wr.drew (Upd.refl _ _).drew
            simp only [It.cells] at HL
            have HC := Lib.hid hcells
            clear hx htk hcells hle h9
            by_cases hxt : x = t
            · subst hxt
              have hE : eqB ⟨x.at_, x.flow, x.run, x.ref, x.turn, x.kind⟩ ⟨x.at_, x.flow, x.run, x.ref, x.turn, x.kind⟩ = true := by simp [eqB]
              go_wp2_with fail
              go_region_held3 (fun W' => W'.cell? ⟨b1, o1 + k * 6, none⟩ = some (.int .i64 x.at_) ∧ W'.cell? ⟨b1, o1 + k * 6 + 1, none⟩ = some (.int .i64 x.flow) ∧ W'.cell? ⟨b1, o1 + k * 6 + 2, none⟩ = some (.int .i64 x.run) ∧ W'.cell? ⟨b1, o1 + k * 6 + 3, none⟩ = some (.int .i64 x.ref) ∧ W'.cell? ⟨b1, o1 + k * 6 + 4, none⟩ = some (.int .i64 x.turn) ∧ W'.cell? ⟨b1, o1 + k * 6 + 5, none⟩ = some (.int .i64 x.kind) ∧ W'.cell? ⟨p9, 0, none⟩ = some (.int .i64 x.at_) ∧ W'.cell? ⟨p9, 1, none⟩ = some (.int .i64 x.flow) ∧ W'.cell? ⟨p9, 2, none⟩ = some (.int .i64 x.run) ∧ W'.cell? ⟨p9, 3, none⟩ = some (.int .i64 x.ref) ∧ W'.cell? ⟨p9, 4, none⟩ = some (.int .i64 x.turn) ∧ W'.cell? ⟨p9, 5, none⟩ = some (.int .i64 x.kind))
                (first | exact S0 | exact Sa | go_keep)
                ((go_at_call 14; (with_reducible refine (HL _).mono ?_); rintro e wq ⟨rfl, huq⟩; have Sa := HC.out wq (((Upd.refl _ _).drew).trans huq)))
              obtain ⟨s0, s1, s2, s3, s4, s5, s6, s7, s8, s9, s10, s11⟩ := Sa
              go_wp2_with fail
              go_quiet (fail)
              go_wp2
              go_roundw
              case rel => exact ⟨k + 1, false, by omega, by go_num, rfl, ((hu.drew).trans huq).drewN _, Lib.hid (by rw [HTK.out]; simp)⟩
              case measure => simp [intOf]; omega
            · have hE : eqB ⟨x.at_, x.flow, x.run, x.ref, x.turn, x.kind⟩ ⟨t.at_, t.flow, t.run, t.ref, t.turn, t.kind⟩ = false := by show decide (x = t) = false; simp [hxt]
              have hmm : decide (t ∈ l.take (k + 1)) = decide (t ∈ l.take k) := by rw [HTK.out]; simp [Ne.symm hxt]
              have HMM := Lib.hid hmm
              clear hmm
              have HXT := Lib.hid hxt
              clear hxt
              go_wp2_with fail
              go_region_held3 (fun W' => W'.cell? ⟨b1, o1 + k * 6, none⟩ = some (.int .i64 x.at_) ∧ W'.cell? ⟨b1, o1 + k * 6 + 1, none⟩ = some (.int .i64 x.flow) ∧ W'.cell? ⟨b1, o1 + k * 6 + 2, none⟩ = some (.int .i64 x.run) ∧ W'.cell? ⟨b1, o1 + k * 6 + 3, none⟩ = some (.int .i64 x.ref) ∧ W'.cell? ⟨b1, o1 + k * 6 + 4, none⟩ = some (.int .i64 x.turn) ∧ W'.cell? ⟨b1, o1 + k * 6 + 5, none⟩ = some (.int .i64 x.kind) ∧ W'.cell? ⟨p9, 0, none⟩ = some (.int .i64 t.at_) ∧ W'.cell? ⟨p9, 1, none⟩ = some (.int .i64 t.flow) ∧ W'.cell? ⟨p9, 2, none⟩ = some (.int .i64 t.run) ∧ W'.cell? ⟨p9, 3, none⟩ = some (.int .i64 t.ref) ∧ W'.cell? ⟨p9, 4, none⟩ = some (.int .i64 t.turn) ∧ W'.cell? ⟨p9, 5, none⟩ = some (.int .i64 t.kind))
                (first | exact S0 | exact Sa | go_keep)
                ((go_at_call 14; (with_reducible refine (HL _).mono ?_); rintro e wq ⟨rfl, huq⟩; have Sa := HC.out wq (((Upd.refl _ _).drew).trans huq)))
              obtain ⟨s0, s1, s2, s3, s4, s5, s6, s7, s8, s9, s10, s11⟩ := Sa
              go_wp2_with fail
              go_quiet (fail)
              go_wp2
              go_roundw
              case rel => exact ⟨k + 1, tb, by omega, by go_num, rfl, ((hu.drew).trans huq).drewN _, Lib.hid (by rw [HMM.out]; exact htb.out)⟩
              case measure => simp [intOf]; omega
          · obtain rfl : k = l.length := by omega
            have W9U := UC.trans hu
            obtain rfl : tb = false := by rw [htb.out, List.take_length]; simp [HTM.out (by intro e; rw [e] at hl0; simp at hl0)]
            have UI := W9U
            have HTI := top_spec wr (Old w) _ ns (hi.upd UI (Upd.fr_non (Fin.old w))) ((Fin.old w).upd UI) (by omega)
            unfold TopPost at HTI
            have hd2 : ∀ m : Int, (m == 0) = decide (m = 0) := fun m => by rw [Bool.eq_iff_iff]; simp
            by_cases hn0 : 0 < ns.length
            · rw [decide_eq_true hn0] at HTI
              go_wp2_with fail
              with_reducible refine HTI.mono ?_
              rintro e w4 ⟨m, hm, rfl, hu4⟩
              have UJ := UI.trans hu4
              have HM := Lib.hid hm
              clear hm HTI
              go_wp2_with fail
              go_loopw [15] (fun i wr => ∃ k : Nat, k ≤ ns.length ∧ i = .int .i64 k ∧ Upd Non w4 wr) (fun i _ => ns.length - (intOf i).toNat)
              case atStart => exact ⟨0, Nat.zero_le _, rfl, Upd.refl _ _⟩
              case round =>
                obtain ⟨k, hk, rfl, hu⟩ := hrel
                by_cases hlt : k < ns.length
                · obtain ⟨b1, o1, c1, e1, _, hb1, m0⟩ := (hi.upd (UJ.trans hu) (Upd.fr_non (Fin.old w))).int hlt
                  cases e1
                  have hle : ¬ m < ns[k] := by have := HM.out.2 ns[k] (List.getElem_mem hlt); omega
                  obtain ⟨x, hx⟩ : ∃ x, ns[k] = x := ⟨_, rfl⟩
                  rw [hx] at m0 hle
                  have hlb1 := World.block_lt_of_cell? wr _ m0
                  clear hx
                  go_wp2
                  go_roundw
                  case rel => exact ⟨k + 1, by omega, by go_num, hu⟩
                  case measure => simp [intOf]; omega
                · obtain rfl : k = ns.length := by omega
                  go_wp2
                  go_ret
                  exact ⟨rfl, (UJ.trans hu).below⟩
            · rw [decide_eq_false hn0] at HTI
              go_wp2_with fail
              with_reducible refine HTI.mono ?_
              rintro e w4 ⟨m, hm, rfl, hu4⟩
              have UJ := UI.trans hu4
              have hns : ns = [] := List.length_eq_zero_iff.1 (by omega)
              obtain rfl := hm.1 hns
              clear hm HTI
              go_wp2_with fail
              go_loopw [15] (fun i wr => i = .int .i64 0 ∧ Upd Non w4 wr) (fun _ _ => 0)
              case atStart => exact ⟨rfl, Upd.refl _ _⟩
              case round =>
                obtain ⟨rfl, hu⟩ := hrel
                go_wp2
                go_ret
                exact ⟨rfl, (UJ.trans hu).below⟩
      · rw [decide_eq_false hl0] at HLE
        go_wp2_with fail
        with_reducible refine HLE.mono ?_
        rintro e w2 ⟨t, ht, rfl, hu2⟩
        have UB := UA.trans hu2
        have ht2 := hsub t ht
        have htm : l ≠ [] → t ∈ l := fun h => (ht.2 h).1
        have hb9 : (w2.alloc (.cells t.cells.toArray 33)).heap[w2.heap.size]? = some (.cells t.cells.toArray 33 (0, 0)) := heap_alloc_new w2 _
        have UC : Upd Non w (w2.alloc (.cells t.cells.toArray 33)) := UB.alloc _
        have HT2 := Lib.hid ht2
        have HTM := Lib.hid htm
        simp only [It.cells] at hb9 UC
        obtain ⟨W8, hW8⟩ : ∃ W8, W8 = w2.alloc (.cells #[.int .i64 t.at_, .int .i64 t.flow, .int .i64 t.run, .int .i64 t.ref, .int .i64 t.turn, .int .i64 t.kind] 33) := ⟨_, rfl⟩
        rw [← hW8] at hb9 UC
        clear ht ht2 htm hsub HLE
        go_wp2_with fail
        rw [← hW8]
        clear hW8
        generalize w2.heap.size = p9 at hb9 ⊢
        go_loopw [11, 12] (fun g i wr => ∃ (k : Nat) (tb : Bool), k ≤ l.length ∧ i = .int .i64 k ∧ g = .bool tb ∧ Upd Non W8 wr ∧ Hid (tb = !decide (t ∈ l.take k))) (fun _ i _ => l.length - (intOf i).toNat)
        case atStart => exact ⟨0, true, Nat.zero_le _, rfl, rfl, Upd.refl _ _, Lib.hid (by simp)⟩
        case round =>
          obtain ⟨k, tb, hk, rfl, rfl, hu, htb⟩ := hrel
          by_cases hlt : k < l.length
          · obtain ⟨b1, o1, c1, e1, _, hb1, hxw, m0, m1, m2, m3, m4, m5⟩ := (h.upd (UC.trans hu) (Upd.fr_non (Fin.old w))).it hlt
            cases e1
            have hle := HT2.out k hlt
            obtain ⟨x, hx⟩ : ∃ x, l[k] = x := ⟨_, rfl⟩
            rw [hx] at hle hxw m0 m1 m2 m3 m4 m5
            have htk : l.take (k + 1) = l.take k ++ [x] := by rw [take_snoc l k hlt, hx]
            have HTK := Lib.hid htk
            have hbW : b1 < wr.heap.size := World.block_lt_of_cell? wr _ m0
            have h9 := (hu.block p9 (blk_lt hb9) id).trans hb9
            have HL := fun W' => less_spec W' x t
            unfold LessPost at HL
            simp only [hle] at HL
            have hcells : ∀ W', Upd Non wr W' → W'.cell? ⟨b1, o1 + k * 6, none⟩ = some (.int .i64 x.at_) ∧ W'.cell? ⟨b1, o1 + k * 6 + 1, none⟩ = some (.int .i64 x.flow) ∧ W'.cell? ⟨b1, o1 + k * 6 + 2, none⟩ = some (.int .i64 x.run) ∧ W'.cell? ⟨b1, o1 + k * 6 + 3, none⟩ = some (.int .i64 x.ref) ∧ W'.cell? ⟨b1, o1 + k * 6 + 4, none⟩ = some (.int .i64 x.turn) ∧ W'.cell? ⟨b1, o1 + k * 6 + 5, none⟩ = some (.int .i64 x.kind) ∧ W'.cell? ⟨p9, 0, none⟩ = some (.int .i64 t.at_) ∧ W'.cell? ⟨p9, 1, none⟩ = some (.int .i64 t.flow) ∧ W'.cell? ⟨p9, 2, none⟩ = some (.int .i64 t.run) ∧ W'.cell? ⟨p9, 3, none⟩ = some (.int .i64 t.ref) ∧ W'.cell? ⟨p9, 4, none⟩ = some (.int .i64 t.turn) ∧ W'.cell? ⟨p9, 5, none⟩ = some (.int .i64 t.kind) := fun W' hw => by
              have h9' := (hw.block p9 (blk_lt h9) id).trans h9
              exact ⟨(hw.cell (p := ⟨b1, o1 + k * 6, none⟩) hbW id).trans m0, (hw.cell (p := ⟨b1, o1 + k * 6 + 1, none⟩) hbW id).trans m1, (hw.cell (p := ⟨b1, o1 + k * 6 + 2, none⟩) hbW id).trans m2, (hw.cell (p := ⟨b1, o1 + k * 6 + 3, none⟩) hbW id).trans m3, (hw.cell (p := ⟨b1, o1 + k * 6 + 4, none⟩) hbW id).trans m4, (hw.cell (p := ⟨b1, o1 + k * 6 + 5, none⟩) hbW id).trans m5, blk_at h9' 0, blk_at h9' 1, blk_at h9' 2, blk_at h9' 3, blk_at h9' 4, blk_at h9' 5⟩
            have S0 := hcells wr.drew (Upd.refl _ _).drew
            simp only [It.cells] at HL
            have HC := Lib.hid hcells
            clear hx htk hcells hle h9
            by_cases hxt : x = t
            · subst hxt
              have hE : eqB ⟨x.at_, x.flow, x.run, x.ref, x.turn, x.kind⟩ ⟨x.at_, x.flow, x.run, x.ref, x.turn, x.kind⟩ = true := by simp [eqB]
              go_wp2_with fail
              go_region_held3 (fun W' => W'.cell? ⟨b1, o1 + k * 6, none⟩ = some (.int .i64 x.at_) ∧ W'.cell? ⟨b1, o1 + k * 6 + 1, none⟩ = some (.int .i64 x.flow) ∧ W'.cell? ⟨b1, o1 + k * 6 + 2, none⟩ = some (.int .i64 x.run) ∧ W'.cell? ⟨b1, o1 + k * 6 + 3, none⟩ = some (.int .i64 x.ref) ∧ W'.cell? ⟨b1, o1 + k * 6 + 4, none⟩ = some (.int .i64 x.turn) ∧ W'.cell? ⟨b1, o1 + k * 6 + 5, none⟩ = some (.int .i64 x.kind) ∧ W'.cell? ⟨p9, 0, none⟩ = some (.int .i64 x.at_) ∧ W'.cell? ⟨p9, 1, none⟩ = some (.int .i64 x.flow) ∧ W'.cell? ⟨p9, 2, none⟩ = some (.int .i64 x.run) ∧ W'.cell? ⟨p9, 3, none⟩ = some (.int .i64 x.ref) ∧ W'.cell? ⟨p9, 4, none⟩ = some (.int .i64 x.turn) ∧ W'.cell? ⟨p9, 5, none⟩ = some (.int .i64 x.kind))
                (first | exact S0 | exact Sa | go_keep)
                ((go_at_call 14; (with_reducible refine (HL _).mono ?_); rintro e wq ⟨rfl, huq⟩; have Sa := HC.out wq (((Upd.refl _ _).drew).trans huq)))
              obtain ⟨s0, s1, s2, s3, s4, s5, s6, s7, s8, s9, s10, s11⟩ := Sa
              go_wp2_with fail
              go_quiet (fail)
              go_wp2
              go_roundw
              case rel => exact ⟨k + 1, false, by omega, by go_num, rfl, ((hu.drew).trans huq).drewN _, Lib.hid (by rw [HTK.out]; simp)⟩
              case measure => simp [intOf]; omega
            · have hE : eqB ⟨x.at_, x.flow, x.run, x.ref, x.turn, x.kind⟩ ⟨t.at_, t.flow, t.run, t.ref, t.turn, t.kind⟩ = false := by show decide (x = t) = false; simp [hxt]
              have hmm : decide (t ∈ l.take (k + 1)) = decide (t ∈ l.take k) := by rw [HTK.out]; simp [Ne.symm hxt]
              have HMM := Lib.hid hmm
              clear hmm
              have HXT := Lib.hid hxt
              clear hxt
              go_wp2_with fail
              go_region_held3 (fun W' => W'.cell? ⟨b1, o1 + k * 6, none⟩ = some (.int .i64 x.at_) ∧ W'.cell? ⟨b1, o1 + k * 6 + 1, none⟩ = some (.int .i64 x.flow) ∧ W'.cell? ⟨b1, o1 + k * 6 + 2, none⟩ = some (.int .i64 x.run) ∧ W'.cell? ⟨b1, o1 + k * 6 + 3, none⟩ = some (.int .i64 x.ref) ∧ W'.cell? ⟨b1, o1 + k * 6 + 4, none⟩ = some (.int .i64 x.turn) ∧ W'.cell? ⟨b1, o1 + k * 6 + 5, none⟩ = some (.int .i64 x.kind) ∧ W'.cell? ⟨p9, 0, none⟩ = some (.int .i64 t.at_) ∧ W'.cell? ⟨p9, 1, none⟩ = some (.int .i64 t.flow) ∧ W'.cell? ⟨p9, 2, none⟩ = some (.int .i64 t.run) ∧ W'.cell? ⟨p9, 3, none⟩ = some (.int .i64 t.ref) ∧ W'.cell? ⟨p9, 4, none⟩ = some (.int .i64 t.turn) ∧ W'.cell? ⟨p9, 5, none⟩ = some (.int .i64 t.kind))
                (first | exact S0 | exact Sa | go_keep)
                ((go_at_call 14; (with_reducible refine (HL _).mono ?_); rintro e wq ⟨rfl, huq⟩; have Sa := HC.out wq (((Upd.refl _ _).drew).trans huq)))
              obtain ⟨s0, s1, s2, s3, s4, s5, s6, s7, s8, s9, s10, s11⟩ := Sa
              go_wp2_with fail
              go_quiet (fail)
              go_wp2
              go_roundw
              case rel => exact ⟨k + 1, tb, by omega, by go_num, rfl, ((hu.drew).trans huq).drewN _, Lib.hid (by rw [HMM.out]; exact htb.out)⟩
              case measure => simp [intOf]; omega
          · obtain rfl : k = l.length := by omega
            have W9U := UC.trans hu
            have UI := W9U
            have HTI := top_spec wr (Old w) _ ns (hi.upd UI (Upd.fr_non (Fin.old w))) ((Fin.old w).upd UI) (by omega)
            unfold TopPost at HTI
            have hd2 : ∀ m : Int, (m == 0) = decide (m = 0) := fun m => by rw [Bool.eq_iff_iff]; simp
            by_cases hn0 : 0 < ns.length
            · rw [decide_eq_true hn0] at HTI
              go_wp2_with fail
              with_reducible refine HTI.mono ?_
              rintro e w4 ⟨m, hm, rfl, hu4⟩
              have UJ := UI.trans hu4
              have HM := Lib.hid hm
              clear hm HTI
              go_wp2_with fail
              go_loopw [15] (fun i wr => ∃ k : Nat, k ≤ ns.length ∧ i = .int .i64 k ∧ Upd Non w4 wr) (fun i _ => ns.length - (intOf i).toNat)
              case atStart => exact ⟨0, Nat.zero_le _, rfl, Upd.refl _ _⟩
              case round =>
                obtain ⟨k, hk, rfl, hu⟩ := hrel
                by_cases hlt : k < ns.length
                · obtain ⟨b1, o1, c1, e1, _, hb1, m0⟩ := (hi.upd (UJ.trans hu) (Upd.fr_non (Fin.old w))).int hlt
                  cases e1
                  have hle : ¬ m < ns[k] := by have := HM.out.2 ns[k] (List.getElem_mem hlt); omega
                  obtain ⟨x, hx⟩ : ∃ x, ns[k] = x := ⟨_, rfl⟩
                  rw [hx] at m0 hle
                  have hlb1 := World.block_lt_of_cell? wr _ m0
                  clear hx
                  go_wp2
                  go_roundw
                  case rel => exact ⟨k + 1, by omega, by go_num, hu⟩
                  case measure => simp [intOf]; omega
                · obtain rfl : k = ns.length := by omega
                  go_wp2
                  go_ret
                  exact ⟨rfl, (UJ.trans hu).below⟩
            · rw [decide_eq_false hn0] at HTI
              go_wp2_with fail
              with_reducible refine HTI.mono ?_
              rintro e w4 ⟨m, hm, rfl, hu4⟩
              have UJ := UI.trans hu4
              have hns : ns = [] := List.length_eq_zero_iff.1 (by omega)
              obtain rfl := hm.1 hns
              clear hm HTI
              go_wp2_with fail
              go_loopw [15] (fun i wr => i = .int .i64 0 ∧ Upd Non w4 wr) (fun _ _ => 0)
              case atStart => exact ⟨rfl, Upd.refl _ _⟩
              case round =>
                obtain ⟨rfl, hu⟩ := hrel
                go_wp2
                go_ret
                exact ⟨rfl, (UJ.trans hu).below⟩
    · subst q3
      simp only [HQ3] at HL1 HL2 HR
      clear HQ3
      go_wp2_with fail
      have U : Upd Non W w1.drew := hu1.drew
      have S0 := HS w1.drew U
      refine wp_region_held_drew (S := Box2 w.heap.size a a) (by kernel_rfl) S0 (fun _ => ?_)
      refine wpAnyH_take (i := 0) (v := .agg #[.int .i64 a.at_, .int .i64 a.flow, .int .i64 a.run, .int .i64 a.ref, .int .i64 a.turn, .int .i64 a.kind]) rfl (by kernel_rfl) (by kernel_rfl) (by kernel_rfl) (fun _ _ _ h => h) (Or.inl ⟨by rfl, ?_⟩) (by assumption) ?_
      · (intro w2 hw2; obtain ⟨c0, c1, c2, c3, c4, c5, c6, c7, c8, c9, c10, c11⟩ := hw2; go_simp)
      change wpAnyH _ _ _ _ _ _ _ (Act.put _ (some 26) _) _
      try simp only [Act.put, List.setIfInBounds_toArray, List.set_cons_zero, List.set_cons_succ]
      refine wpAnyH_take (i := 1) (v := .agg #[.int .i64 a.at_, .int .i64 a.flow, .int .i64 a.run, .int .i64 a.ref, .int .i64 a.turn, .int .i64 a.kind]) rfl (by kernel_rfl) (by kernel_rfl) (by kernel_rfl) (fun _ _ _ h => h) (Or.inl ⟨by rfl, ?_⟩) (by assumption) ?_
      · (intro w2 hw2; obtain ⟨c0, c1, c2, c3, c4, c5, c6, c7, c8, c9, c10, c11⟩ := hw2; go_simp)
      change wpAnyH _ _ _ _ _ _ _ (Act.put _ (some 27) _) _
      try simp only [Act.put, List.setIfInBounds_toArray, List.set_cons_zero, List.set_cons_succ]
      refine wpAnyH_take (i := 3) (v := .agg #[.int .i64 a.at_, .int .i64 a.flow, .int .i64 a.run, .int .i64 a.ref, .int .i64 a.turn, .int .i64 a.kind]) rfl (by kernel_rfl) (by kernel_rfl) (by kernel_rfl) (fun _ _ _ h => h) (Or.inl ⟨by rfl, ?_⟩) (by assumption) ?_
      · (intro w2 hw2; obtain ⟨c0, c1, c2, c3, c4, c5, c6, c7, c8, c9, c10, c11⟩ := hw2; go_simp)
      change wpAnyH _ _ _ _ _ _ _ (Act.put _ (some 29) _) _
      try simp only [Act.put, List.setIfInBounds_toArray, List.set_cons_zero, List.set_cons_succ]
      refine wpAnyH_take (i := 5) (v := .agg #[.int .i64 a.at_, .int .i64 a.flow, .int .i64 a.run, .int .i64 a.ref, .int .i64 a.turn, .int .i64 a.kind]) rfl (by kernel_rfl) (by kernel_rfl) (by kernel_rfl) (fun _ _ _ h => h) (Or.inl ⟨by rfl, ?_⟩) (by assumption) ?_
      · (intro w2 hw2; obtain ⟨c0, c1, c2, c3, c4, c5, c6, c7, c8, c9, c10, c11⟩ := hw2; go_simp)
      change wpAnyH _ _ _ _ _ _ _ (Act.put _ (some 31) _) _
      try simp only [Act.put, List.setIfInBounds_toArray, List.set_cons_zero, List.set_cons_succ]
      refine wpAnyH_ready (rs := [2]) (by kernel_rfl) (by simp) ?_
      refine AllReadyH.cons rfl (fun K hK => ?_) AllReadyH.nil
      go_simp
      go_at_call 14
      with_reducible refine (HL1 _).mono ?_
      rintro e wa ⟨rfl, hua⟩
      have U := U.trans hua
      have Sa := HS _ U
      go_wp2_with fail
      refine hK.out _ _ Sa (fun _ => ?_)
      clear hK K
      try simp only [Act.put, List.setIfInBounds_toArray, List.set_cons_zero, List.set_cons_succ]
      refine wpAnyH_ready (rs := [4]) (by kernel_rfl) (by simp) ?_
      refine AllReadyH.cons rfl (fun K hK => ?_) AllReadyH.nil
      go_simp
      go_at_call 17
      with_reducible refine (HO1 _).mono ?_
      rintro e wa ⟨rfl, hua⟩
      have U := U.trans hua
      have Sa := HS _ U
      go_wp2_with fail
      refine hK.out _ _ Sa (fun _ => ?_)
      clear hK K
      try simp only [Act.put, List.setIfInBounds_toArray, List.set_cons_zero, List.set_cons_succ]
      refine wpAnyH_ready (rs := [6]) (by kernel_rfl) (by simp) ?_
      refine AllReadyH.cons rfl (fun K hK => ?_) AllReadyH.nil
      go_simp
      go_at_call 17
      with_reducible refine (HO2 _).mono ?_
      rintro e wa ⟨rfl, hua⟩
      have U := U.trans hua
      have Sa := HS _ U
      go_wp2_with fail
      refine hK.out _ _ Sa (fun _ => ?_)
      clear hK K
      try simp only [Act.put, List.setIfInBounds_toArray, List.set_cons_zero, List.set_cons_succ]
      refine wpAnyH_ready (rs := [7]) (by kernel_rfl) (by simp) ?_
      refine AllReadyH.cons rfl (fun K hK => ?_) AllReadyH.nil
      go_simp
      go_at_call 16
      with_reducible refine (HR _).mono ?_
      rintro e wa ⟨rfl, hua⟩
      have U := U.trans hua
      have Sa := HS _ U
      go_wp2_with fail
      refine hK.out _ _ Sa (fun _ => ?_)
      clear hK K
      try simp only [Act.put, List.setIfInBounds_toArray, List.set_cons_zero, List.set_cons_succ]
      refine wpAnyH_take (i := 8) (v := .bool false) rfl (by kernel_rfl) (by kernel_rfl) (by kernel_rfl) (fun _ _ _ h => h) (Or.inl ⟨by rfl, ?_⟩) (by assumption) ?_
      · (intro w2 _; go_simp)
      change wpAnyH _ _ _ _ _ _ _ (Act.put _ (some 34) _) _
      try simp only [Act.put, List.setIfInBounds_toArray, List.set_cons_zero, List.set_cons_succ]
      refine wpAnyH_take (i := 9) (v := .bool false) rfl (by kernel_rfl) (by kernel_rfl) (by kernel_rfl) (fun _ _ _ h => h) (Or.inl ⟨by rfl, ?_⟩) (by assumption) ?_
      · (intro w2 _; go_simp)
      change wpAnyH _ _ _ _ _ _ _ (Act.put _ (some 35) _) _
      try simp only [Act.put, List.setIfInBounds_toArray, List.set_cons_zero, List.set_cons_succ]
      refine wpAnyH_take (i := 10) (v := .agg #[.int .i64 a.at_, .int .i64 a.flow, .int .i64 a.run, .int .i64 a.ref, .int .i64 a.turn, .int .i64 a.kind]) rfl (by kernel_rfl) (by kernel_rfl) (by kernel_rfl) (fun _ _ _ h => h) (Or.inl ⟨by rfl, ?_⟩) (by assumption) ?_
      · (intro w2 hw2; obtain ⟨c0, c1, c2, c3, c4, c5, c6, c7, c8, c9, c10, c11⟩ := hw2; go_simp)
      change wpAnyH _ _ _ _ _ _ _ (Act.put _ (some 36) _) _
      try simp only [Act.put, List.setIfInBounds_toArray, List.set_cons_zero, List.set_cons_succ]
      refine wpAnyH_take (i := 11) (v := .agg #[.int .i64 a.at_, .int .i64 a.flow, .int .i64 a.run, .int .i64 a.ref, .int .i64 a.turn, .int .i64 a.kind]) rfl (by kernel_rfl) (by kernel_rfl) (by kernel_rfl) (fun _ _ _ h => h) (Or.inl ⟨by rfl, ?_⟩) (by assumption) ?_
      · (intro w2 hw2; obtain ⟨c0, c1, c2, c3, c4, c5, c6, c7, c8, c9, c10, c11⟩ := hw2; go_simp)
      change wpAnyH _ _ _ _ _ _ _ (Act.put _ (some 37) _) _
      try simp only [Act.put, List.setIfInBounds_toArray, List.set_cons_zero, List.set_cons_succ]
      refine wpAnyH_ready (rs := [12]) (by kernel_rfl) (by simp) ?_
      refine AllReadyH.cons rfl (fun K hK => ?_) AllReadyH.nil
      go_simp
      go_at_call 14
      with_reducible refine (HL1 _).mono ?_
      rintro e wa ⟨rfl, hua⟩
      have U := U.trans hua
      have Sa := HS _ U
      go_wp2_with fail
      refine hK.out _ _ Sa (fun _ => ?_)
      clear hK K
      try simp only [Act.put, List.setIfInBounds_toArray, List.set_cons_zero, List.set_cons_succ]
      refine wpAnyH_take (i := 13) (v := .bool false) rfl (by kernel_rfl) (by kernel_rfl) (by kernel_rfl) (fun _ _ _ h => h) (Or.inl ⟨by rfl, ?_⟩) (by assumption) ?_
      · (intro w2 _; go_simp)
      change wpAnyH _ _ _ _ _ _ _ (Act.put _ (some 39) _) _
      try simp only [Act.put, List.setIfInBounds_toArray, List.set_cons_zero, List.set_cons_succ]
      refine wpAnyH_take (i := 14) (v := undef) rfl (by kernel_rfl) (by kernel_rfl) (by kernel_rfl) (fun _ _ _ h => h) (Or.inr ⟨by rfl, rfl⟩) (by assumption) ?_
      change wpAnyH _ _ _ _ _ _ _ (Act.put _ (some 40) _) _
      try simp only [Act.put, List.setIfInBounds_toArray, List.set_cons_zero, List.set_cons_succ]
      refine wpAnyH_take (i := 15) (v := undef) rfl (by kernel_rfl) (by kernel_rfl) (by kernel_rfl) (fun _ _ _ h => h) (Or.inr ⟨by rfl, rfl⟩) (by assumption) ?_
      change wpAnyH _ _ _ _ _ _ _ (Act.put _ (some 41) _) _
      try simp only [Act.put, List.setIfInBounds_toArray, List.set_cons_zero, List.set_cons_succ]
      refine wpAnyH_ready (rs := [16]) (by kernel_rfl) (by simp) ?_
      refine AllReadyH.cons rfl (fun K hK => ?_) AllReadyH.nil
      rw [if_neg (by exact Bool.false_ne_true)]
      refine hK.out (Act.put _ (some 42) undef) _ (by assumption) (fun _ => ?_)
      clear hK K
      try simp only [Act.put, List.setIfInBounds_toArray, List.set_cons_zero, List.set_cons_succ]
      refine wpAnyH_take (i := 17) (v := .bool false) rfl (by kernel_rfl) (by kernel_rfl) (by kernel_rfl) (fun _ _ _ h => h) (Or.inl ⟨by rfl, ?_⟩) (by assumption) ?_
      · (intro w2 _; go_simp)
      change wpAnyH _ _ _ _ _ _ _ (Act.put _ (some 43) _) _
      try simp only [Act.put, List.setIfInBounds_toArray, List.set_cons_zero, List.set_cons_succ]
      refine wpAnyH_take (i := 18) (v := .bool false) rfl (by kernel_rfl) (by kernel_rfl) (by kernel_rfl) (fun _ _ _ h => h) (Or.inl ⟨by rfl, ?_⟩) (by assumption) ?_
      · (intro w2 _; go_simp)
      change wpAnyH _ _ _ _ _ _ _ (Act.put _ (some 44) _) _
      try simp only [Act.put, List.setIfInBounds_toArray, List.set_cons_zero, List.set_cons_succ]
      refine wpAnyH_take (i := 19) (v := .bool false) rfl (by kernel_rfl) (by kernel_rfl) (by kernel_rfl) (fun _ _ _ h => h) (Or.inl ⟨by rfl, ?_⟩) (by assumption) ?_
      · (intro w2 _; go_simp)
      change wpAnyH _ _ _ _ _ _ _ (Act.put _ (some 45) _) _
      try simp only [Act.put, List.setIfInBounds_toArray, List.set_cons_zero, List.set_cons_succ]
      refine wpAnyH_take (i := 20) (v := .agg #[.int .i64 a.at_, .int .i64 a.flow, .int .i64 a.run, .int .i64 a.ref, .int .i64 a.turn, .int .i64 a.kind]) rfl (by kernel_rfl) (by kernel_rfl) (by kernel_rfl) (fun _ _ _ h => h) (Or.inl ⟨by rfl, ?_⟩) (by assumption) ?_
      · (intro w2 hw2; obtain ⟨c0, c1, c2, c3, c4, c5, c6, c7, c8, c9, c10, c11⟩ := hw2; go_simp)
      change wpAnyH _ _ _ _ _ _ _ (Act.put _ (some 46) _) _
      try simp only [Act.put, List.setIfInBounds_toArray, List.set_cons_zero, List.set_cons_succ]
      refine wpAnyH_take (i := 21) (v := .agg #[.int .i64 a.at_, .int .i64 a.flow, .int .i64 a.run, .int .i64 a.ref, .int .i64 a.turn, .int .i64 a.kind]) rfl (by kernel_rfl) (by kernel_rfl) (by kernel_rfl) (fun _ _ _ h => h) (Or.inl ⟨by rfl, ?_⟩) (by assumption) ?_
      · (intro w2 hw2; obtain ⟨c0, c1, c2, c3, c4, c5, c6, c7, c8, c9, c10, c11⟩ := hw2; go_simp)
      change wpAnyH _ _ _ _ _ _ _ (Act.put _ (some 47) _) _
      try simp only [Act.put, List.setIfInBounds_toArray, List.set_cons_zero, List.set_cons_succ]
      refine wpAnyH_ready (rs := [22]) (by kernel_rfl) (by simp) ?_
      refine AllReadyH.cons rfl (fun K hK => ?_) AllReadyH.nil
      go_simp
      go_at_call 14
      with_reducible refine (HL1 _).mono ?_
      rintro e wa ⟨rfl, hua⟩
      have U := U.trans hua
      have Sa := HS _ U
      go_wp2_with fail
      refine hK.out _ _ Sa (fun _ => ?_)
      clear hK K
      try simp only [Act.put, List.setIfInBounds_toArray, List.set_cons_zero, List.set_cons_succ]
      refine wpAnyH_take (i := 23) (v := .bool true) rfl (by kernel_rfl) (by kernel_rfl) (by kernel_rfl) (fun _ _ _ h => h) (Or.inl ⟨by rfl, ?_⟩) (by assumption) ?_
      · (intro w2 _; go_simp)
      change wpAnyH _ _ _ _ _ _ _ (Act.put _ (some 49) _) _
      try simp only [Act.put, List.setIfInBounds_toArray, List.set_cons_zero, List.set_cons_succ]
      refine wpAnyH_take (i := 24) (v := .bool true) rfl (by kernel_rfl) (by kernel_rfl) (by kernel_rfl) (fun _ _ _ h => h) (Or.inl ⟨by rfl, ?_⟩) (by assumption) ?_
      · (intro w2 _; go_simp)
      change wpAnyH _ _ _ _ _ _ _ (Act.put _ (some 50) _) _
      try simp only [Act.put, List.setIfInBounds_toArray, List.set_cons_zero, List.set_cons_succ]
      refine wpAnyH_take (i := 25) (v := .agg #[.int .i64 a.at_, .int .i64 a.flow, .int .i64 a.run, .int .i64 a.ref, .int .i64 a.turn, .int .i64 a.kind]) rfl (by kernel_rfl) (by kernel_rfl) (by kernel_rfl) (fun _ _ _ h => h) (Or.inl ⟨by rfl, ?_⟩) (by assumption) ?_
      · (intro w2 hw2; obtain ⟨c0, c1, c2, c3, c4, c5, c6, c7, c8, c9, c10, c11⟩ := hw2; go_simp)
      change wpAnyH _ _ _ _ _ _ _ (Act.put _ (some 51) _) _
      try simp only [Act.put, List.setIfInBounds_toArray, List.set_cons_zero, List.set_cons_succ]
      refine wpAnyH_take (i := 26) (v := .agg #[.int .i64 a.at_, .int .i64 a.flow, .int .i64 a.run, .int .i64 a.ref, .int .i64 a.turn, .int .i64 a.kind]) rfl (by kernel_rfl) (by kernel_rfl) (by kernel_rfl) (fun _ _ _ h => h) (Or.inl ⟨by rfl, ?_⟩) (by assumption) ?_
      · (intro w2 hw2; obtain ⟨c0, c1, c2, c3, c4, c5, c6, c7, c8, c9, c10, c11⟩ := hw2; go_simp)
      change wpAnyH _ _ _ _ _ _ _ (Act.put _ (some 52) _) _
      try simp only [Act.put, List.setIfInBounds_toArray, List.set_cons_zero, List.set_cons_succ]
      refine wpAnyH_ready (rs := [27]) (by kernel_rfl) (by simp) ?_
      refine AllReadyH.cons rfl (fun K hK => ?_) AllReadyH.nil
      go_simp
      go_at_call 14
      with_reducible refine (HL2 _).mono ?_
      rintro e wa ⟨rfl, hua⟩
      have U := U.trans hua
      have Sa := HS _ U
      go_wp2_with fail
      refine hK.out _ _ Sa (fun _ => ?_)
      clear hK K
      try simp only [Act.put, List.setIfInBounds_toArray, List.set_cons_zero, List.set_cons_succ]
      refine wpAnyH_take (i := 28) (v := .bool true) rfl (by kernel_rfl) (by kernel_rfl) (by kernel_rfl) (fun _ _ _ h => h) (Or.inl ⟨by rfl, ?_⟩) (by assumption) ?_
      · (intro w2 _; go_simp)
      change wpAnyH _ _ _ _ _ _ _ (Act.put _ (some 54) _) _
      try simp only [Act.put, List.setIfInBounds_toArray, List.set_cons_zero, List.set_cons_succ]
      refine wpAnyH_take (i := 29) (v := .bool true) rfl (by kernel_rfl) (by kernel_rfl) (by kernel_rfl) (fun _ _ _ h => h) (Or.inl ⟨by rfl, ?_⟩) (by assumption) ?_
      · (intro w2 _; go_simp)
      change wpAnyH _ _ _ _ _ _ _ (Act.put _ (some 55) _) _
      try simp only [Act.put, List.setIfInBounds_toArray, List.set_cons_zero, List.set_cons_succ]
      refine wpAnyH_take (i := 30) (v := .bool true) rfl (by kernel_rfl) (by kernel_rfl) (by kernel_rfl) (fun _ _ _ h => h) (Or.inl ⟨by rfl, ?_⟩) (by assumption) ?_
      · (intro w2 _; go_simp)
      change wpAnyH _ _ _ _ _ _ _ (Act.put _ (some 56) _) _
      try simp only [Act.put, List.setIfInBounds_toArray, List.set_cons_zero, List.set_cons_succ]
      refine wpAnyH_take (i := 31) (v := .agg #[.int .i64 a.at_, .int .i64 a.flow, .int .i64 a.run, .int .i64 a.ref, .int .i64 a.turn, .int .i64 a.kind]) rfl (by kernel_rfl) (by kernel_rfl) (by kernel_rfl) (fun _ _ _ h => h) (Or.inl ⟨by rfl, ?_⟩) (by assumption) ?_
      · (intro w2 hw2; obtain ⟨c0, c1, c2, c3, c4, c5, c6, c7, c8, c9, c10, c11⟩ := hw2; go_simp)
      change wpAnyH _ _ _ _ _ _ _ (Act.put _ (some 57) _) _
      try simp only [Act.put, List.setIfInBounds_toArray, List.set_cons_zero, List.set_cons_succ]
      refine wpAnyH_take (i := 32) (v := .agg #[.int .i64 a.at_, .int .i64 a.flow, .int .i64 a.run, .int .i64 a.ref, .int .i64 a.turn, .int .i64 a.kind]) rfl (by kernel_rfl) (by kernel_rfl) (by kernel_rfl) (fun _ _ _ h => h) (Or.inl ⟨by rfl, ?_⟩) (by assumption) ?_
      · (intro w2 hw2; obtain ⟨c0, c1, c2, c3, c4, c5, c6, c7, c8, c9, c10, c11⟩ := hw2; go_simp)
      change wpAnyH _ _ _ _ _ _ _ (Act.put _ (some 58) _) _
      try simp only [Act.put, List.setIfInBounds_toArray, List.set_cons_zero, List.set_cons_succ]
      refine wpAnyH_take (i := 33) (v := .bool false) rfl (by kernel_rfl) (by kernel_rfl) (by kernel_rfl) (fun _ _ _ h => h) (Or.inl ⟨by rfl, ?_⟩) (by assumption) ?_
      · (intro w2 _; go_simp)
      change wpAnyH _ _ _ _ _ _ _ (Act.put _ (some 59) _) _
      try simp only [Act.put, List.setIfInBounds_toArray, List.set_cons_zero, List.set_cons_succ]
      refine wpAnyH_take (i := 34) (v := .bool false) rfl (by kernel_rfl) (by kernel_rfl) (by kernel_rfl) (fun _ _ _ h => h) (Or.inl ⟨by rfl, ?_⟩) (by assumption) ?_
      · (intro w2 _; go_simp)
      change wpAnyH _ _ _ _ _ _ _ (Act.put _ (some 60) _) _
      try simp only [Act.put, List.setIfInBounds_toArray, List.set_cons_zero, List.set_cons_succ]
      refine wpAnyH_take (i := 35) (v := .bool false) rfl (by kernel_rfl) (by kernel_rfl) (by kernel_rfl) (fun _ _ _ h => h) (Or.inl ⟨by rfl, ?_⟩) (by assumption) ?_
      · (intro w2 _; go_simp)
      change wpAnyH _ _ _ _ _ _ _ (Act.put _ (some 61) _) _
      try simp only [Act.put, List.setIfInBounds_toArray, List.set_cons_zero, List.set_cons_succ]
      refine wpAnyH_done (by kernel_rfl) ?_ _
      have UA := hu0.trans U
      clear HL1 HL2 HO1 HO2 HR HS
      have HLE := least_spec wa (Old w) _ l (h.upd UA (Upd.fr_non (Fin.old w))) ((Fin.old w).upd UA) (by omega)
      unfold LeastPost at HLE
      simp only [It.cells] at HLE
      have hsub : ∀ t, LeastIs l t → ∀ k (hk : k < l.length), ltB l[k] t = false := fun t ht k hk => (ht.2 (by intro e; rw [e] at hk; simp at hk)).2 _ (List.getElem_mem hk)
      by_cases hl0 : 0 < l.length
      · rw [decide_eq_true hl0] at HLE
        go_wp2_with fail
        with_reducible refine HLE.mono ?_
        rintro e w2 ⟨t, ht, rfl, hu2⟩
        have UB := UA.trans hu2
        have ht2 := hsub t ht
        have htm : l ≠ [] → t ∈ l := fun h => (ht.2 h).1
        have hb9 : (w2.alloc (.cells t.cells.toArray 33)).heap[w2.heap.size]? = some (.cells t.cells.toArray 33 (0, 0)) := heap_alloc_new w2 _
        have UC : Upd Non w (w2.alloc (.cells t.cells.toArray 33)) := UB.alloc _
        have HT2 := Lib.hid ht2
        have HTM := Lib.hid htm
        simp only [It.cells] at hb9 UC
        obtain ⟨W8, hW8⟩ : ∃ W8, W8 = w2.alloc (.cells #[.int .i64 t.at_, .int .i64 t.flow, .int .i64 t.run, .int .i64 t.ref, .int .i64 t.turn, .int .i64 t.kind] 33) := ⟨_, rfl⟩
        rw [← hW8] at hb9 UC
        clear ht ht2 htm hsub HLE
        go_wp2_with fail
        rw [← hW8]
        clear hW8
        generalize w2.heap.size = p9 at hb9 ⊢
        go_loopw [11, 12] (fun g i wr => ∃ (k : Nat) (tb : Bool), k ≤ l.length ∧ i = .int .i64 k ∧ g = .bool tb ∧ Upd Non W8 wr ∧ Hid (tb = !decide (t ∈ l.take k))) (fun _ i _ => l.length - (intOf i).toNat)
        case atStart => exact ⟨0, true, Nat.zero_le _, rfl, rfl, Upd.refl _ _, Lib.hid (by simp)⟩
        case round =>
          obtain ⟨k, tb, hk, rfl, rfl, hu, htb⟩ := hrel
          by_cases hlt : k < l.length
          · obtain ⟨b1, o1, c1, e1, _, hb1, hxw, m0, m1, m2, m3, m4, m5⟩ := (h.upd (UC.trans hu) (Upd.fr_non (Fin.old w))).it hlt
            cases e1
            have hle := HT2.out k hlt
            obtain ⟨x, hx⟩ : ∃ x, l[k] = x := ⟨_, rfl⟩
            rw [hx] at hle hxw m0 m1 m2 m3 m4 m5
            have htk : l.take (k + 1) = l.take k ++ [x] := by rw [take_snoc l k hlt, hx]
            have HTK := Lib.hid htk
            have hbW : b1 < wr.heap.size := World.block_lt_of_cell? wr _ m0
            have h9 := (hu.block p9 (blk_lt hb9) id).trans hb9
            have HL := fun W' => less_spec W' x t
            unfold LessPost at HL
            simp only [hle] at HL
            have hcells : ∀ W', Upd Non wr W' → W'.cell? ⟨b1, o1 + k * 6, none⟩ = some (.int .i64 x.at_) ∧ W'.cell? ⟨b1, o1 + k * 6 + 1, none⟩ = some (.int .i64 x.flow) ∧ W'.cell? ⟨b1, o1 + k * 6 + 2, none⟩ = some (.int .i64 x.run) ∧ W'.cell? ⟨b1, o1 + k * 6 + 3, none⟩ = some (.int .i64 x.ref) ∧ W'.cell? ⟨b1, o1 + k * 6 + 4, none⟩ = some (.int .i64 x.turn) ∧ W'.cell? ⟨b1, o1 + k * 6 + 5, none⟩ = some (.int .i64 x.kind) ∧ W'.cell? ⟨p9, 0, none⟩ = some (.int .i64 t.at_) ∧ W'.cell? ⟨p9, 1, none⟩ = some (.int .i64 t.flow) ∧ W'.cell? ⟨p9, 2, none⟩ = some (.int .i64 t.run) ∧ W'.cell? ⟨p9, 3, none⟩ = some (.int .i64 t.ref) ∧ W'.cell? ⟨p9, 4, none⟩ = some (.int .i64 t.turn) ∧ W'.cell? ⟨p9, 5, none⟩ = some (.int .i64 t.kind) := fun W' hw => by
              have h9' := (hw.block p9 (blk_lt h9) id).trans h9
              exact ⟨(hw.cell (p := ⟨b1, o1 + k * 6, none⟩) hbW id).trans m0, (hw.cell (p := ⟨b1, o1 + k * 6 + 1, none⟩) hbW id).trans m1, (hw.cell (p := ⟨b1, o1 + k * 6 + 2, none⟩) hbW id).trans m2, (hw.cell (p := ⟨b1, o1 + k * 6 + 3, none⟩) hbW id).trans m3, (hw.cell (p := ⟨b1, o1 + k * 6 + 4, none⟩) hbW id).trans m4, (hw.cell (p := ⟨b1, o1 + k * 6 + 5, none⟩) hbW id).trans m5, blk_at h9' 0, blk_at h9' 1, blk_at h9' 2, blk_at h9' 3, blk_at h9' 4, blk_at h9' 5⟩
            have S0 := hcells wr.drew (Upd.refl _ _).drew
            simp only [It.cells] at HL
            have HC := Lib.hid hcells
            clear hx htk hcells hle h9
            by_cases hxt : x = t
            · subst hxt
              have hE : eqB ⟨x.at_, x.flow, x.run, x.ref, x.turn, x.kind⟩ ⟨x.at_, x.flow, x.run, x.ref, x.turn, x.kind⟩ = true := by simp [eqB]
              go_wp2_with fail
              go_region_held3 (fun W' => W'.cell? ⟨b1, o1 + k * 6, none⟩ = some (.int .i64 x.at_) ∧ W'.cell? ⟨b1, o1 + k * 6 + 1, none⟩ = some (.int .i64 x.flow) ∧ W'.cell? ⟨b1, o1 + k * 6 + 2, none⟩ = some (.int .i64 x.run) ∧ W'.cell? ⟨b1, o1 + k * 6 + 3, none⟩ = some (.int .i64 x.ref) ∧ W'.cell? ⟨b1, o1 + k * 6 + 4, none⟩ = some (.int .i64 x.turn) ∧ W'.cell? ⟨b1, o1 + k * 6 + 5, none⟩ = some (.int .i64 x.kind) ∧ W'.cell? ⟨p9, 0, none⟩ = some (.int .i64 x.at_) ∧ W'.cell? ⟨p9, 1, none⟩ = some (.int .i64 x.flow) ∧ W'.cell? ⟨p9, 2, none⟩ = some (.int .i64 x.run) ∧ W'.cell? ⟨p9, 3, none⟩ = some (.int .i64 x.ref) ∧ W'.cell? ⟨p9, 4, none⟩ = some (.int .i64 x.turn) ∧ W'.cell? ⟨p9, 5, none⟩ = some (.int .i64 x.kind))
                (first | exact S0 | exact Sa | go_keep)
                ((go_at_call 14; (with_reducible refine (HL _).mono ?_); rintro e wq ⟨rfl, huq⟩; have Sa := HC.out wq (((Upd.refl _ _).drew).trans huq)))
              obtain ⟨s0, s1, s2, s3, s4, s5, s6, s7, s8, s9, s10, s11⟩ := Sa
              go_wp2_with fail
              go_quiet (fail)
              go_wp2
              go_roundw
              case rel => exact ⟨k + 1, false, by omega, by go_num, rfl, ((hu.drew).trans huq).drewN _, Lib.hid (by rw [HTK.out]; simp)⟩
              case measure => simp [intOf]; omega
            · have hE : eqB ⟨x.at_, x.flow, x.run, x.ref, x.turn, x.kind⟩ ⟨t.at_, t.flow, t.run, t.ref, t.turn, t.kind⟩ = false := by show decide (x = t) = false; simp [hxt]
              have hmm : decide (t ∈ l.take (k + 1)) = decide (t ∈ l.take k) := by rw [HTK.out]; simp [Ne.symm hxt]
              have HMM := Lib.hid hmm
              clear hmm
              have HXT := Lib.hid hxt
              clear hxt
              go_wp2_with fail
              go_region_held3 (fun W' => W'.cell? ⟨b1, o1 + k * 6, none⟩ = some (.int .i64 x.at_) ∧ W'.cell? ⟨b1, o1 + k * 6 + 1, none⟩ = some (.int .i64 x.flow) ∧ W'.cell? ⟨b1, o1 + k * 6 + 2, none⟩ = some (.int .i64 x.run) ∧ W'.cell? ⟨b1, o1 + k * 6 + 3, none⟩ = some (.int .i64 x.ref) ∧ W'.cell? ⟨b1, o1 + k * 6 + 4, none⟩ = some (.int .i64 x.turn) ∧ W'.cell? ⟨b1, o1 + k * 6 + 5, none⟩ = some (.int .i64 x.kind) ∧ W'.cell? ⟨p9, 0, none⟩ = some (.int .i64 t.at_) ∧ W'.cell? ⟨p9, 1, none⟩ = some (.int .i64 t.flow) ∧ W'.cell? ⟨p9, 2, none⟩ = some (.int .i64 t.run) ∧ W'.cell? ⟨p9, 3, none⟩ = some (.int .i64 t.ref) ∧ W'.cell? ⟨p9, 4, none⟩ = some (.int .i64 t.turn) ∧ W'.cell? ⟨p9, 5, none⟩ = some (.int .i64 t.kind))
                (first | exact S0 | exact Sa | go_keep)
                ((go_at_call 14; (with_reducible refine (HL _).mono ?_); rintro e wq ⟨rfl, huq⟩; have Sa := HC.out wq (((Upd.refl _ _).drew).trans huq)))
              obtain ⟨s0, s1, s2, s3, s4, s5, s6, s7, s8, s9, s10, s11⟩ := Sa
              go_wp2_with fail
              go_quiet (fail)
              go_wp2
              go_roundw
              case rel => exact ⟨k + 1, tb, by omega, by go_num, rfl, ((hu.drew).trans huq).drewN _, Lib.hid (by rw [HMM.out]; exact htb.out)⟩
              case measure => simp [intOf]; omega
          · obtain rfl : k = l.length := by omega
            have W9U := UC.trans hu
            obtain rfl : tb = false := by rw [htb.out, List.take_length]; simp [HTM.out (by intro e; rw [e] at hl0; simp at hl0)]
            have UI := W9U
            have HTI := top_spec wr (Old w) _ ns (hi.upd UI (Upd.fr_non (Fin.old w))) ((Fin.old w).upd UI) (by omega)
            unfold TopPost at HTI
            have hd2 : ∀ m : Int, (m == 0) = decide (m = 0) := fun m => by rw [Bool.eq_iff_iff]; simp
            by_cases hn0 : 0 < ns.length
            · rw [decide_eq_true hn0] at HTI
              go_wp2_with fail
              with_reducible refine HTI.mono ?_
              rintro e w4 ⟨m, hm, rfl, hu4⟩
              have UJ := UI.trans hu4
              have HM := Lib.hid hm
              clear hm HTI
              go_wp2_with fail
              go_loopw [15] (fun i wr => ∃ k : Nat, k ≤ ns.length ∧ i = .int .i64 k ∧ Upd Non w4 wr) (fun i _ => ns.length - (intOf i).toNat)
              case atStart => exact ⟨0, Nat.zero_le _, rfl, Upd.refl _ _⟩
              case round =>
                obtain ⟨k, hk, rfl, hu⟩ := hrel
                by_cases hlt : k < ns.length
                · obtain ⟨b1, o1, c1, e1, _, hb1, m0⟩ := (hi.upd (UJ.trans hu) (Upd.fr_non (Fin.old w))).int hlt
                  cases e1
                  have hle : ¬ m < ns[k] := by have := HM.out.2 ns[k] (List.getElem_mem hlt); omega
                  obtain ⟨x, hx⟩ : ∃ x, ns[k] = x := ⟨_, rfl⟩
                  rw [hx] at m0 hle
                  have hlb1 := World.block_lt_of_cell? wr _ m0
                  clear hx
                  go_wp2
                  go_roundw
                  case rel => exact ⟨k + 1, by omega, by go_num, hu⟩
                  case measure => simp [intOf]; omega
                · obtain rfl : k = ns.length := by omega
                  go_wp2
                  go_ret
                  exact ⟨rfl, (UJ.trans hu).below⟩
            · rw [decide_eq_false hn0] at HTI
              go_wp2_with fail
              with_reducible refine HTI.mono ?_
              rintro e w4 ⟨m, hm, rfl, hu4⟩
              have UJ := UI.trans hu4
              have hns : ns = [] := List.length_eq_zero_iff.1 (by omega)
              obtain rfl := hm.1 hns
              clear hm HTI
              go_wp2_with fail
              go_loopw [15] (fun i wr => i = .int .i64 0 ∧ Upd Non w4 wr) (fun _ _ => 0)
              case atStart => exact ⟨rfl, Upd.refl _ _⟩
              case round =>
                obtain ⟨rfl, hu⟩ := hrel
                go_wp2
                go_ret
                exact ⟨rfl, (UJ.trans hu).below⟩
      · rw [decide_eq_false hl0] at HLE
        go_wp2_with fail
        with_reducible refine HLE.mono ?_
        rintro e w2 ⟨t, ht, rfl, hu2⟩
        have UB := UA.trans hu2
        have ht2 := hsub t ht
        have htm : l ≠ [] → t ∈ l := fun h => (ht.2 h).1
        have hb9 : (w2.alloc (.cells t.cells.toArray 33)).heap[w2.heap.size]? = some (.cells t.cells.toArray 33 (0, 0)) := heap_alloc_new w2 _
        have UC : Upd Non w (w2.alloc (.cells t.cells.toArray 33)) := UB.alloc _
        have HT2 := Lib.hid ht2
        have HTM := Lib.hid htm
        simp only [It.cells] at hb9 UC
        obtain ⟨W8, hW8⟩ : ∃ W8, W8 = w2.alloc (.cells #[.int .i64 t.at_, .int .i64 t.flow, .int .i64 t.run, .int .i64 t.ref, .int .i64 t.turn, .int .i64 t.kind] 33) := ⟨_, rfl⟩
        rw [← hW8] at hb9 UC
        clear ht ht2 htm hsub HLE
        go_wp2_with fail
        rw [← hW8]
        clear hW8
        generalize w2.heap.size = p9 at hb9 ⊢
        go_loopw [11, 12] (fun g i wr => ∃ (k : Nat) (tb : Bool), k ≤ l.length ∧ i = .int .i64 k ∧ g = .bool tb ∧ Upd Non W8 wr ∧ Hid (tb = !decide (t ∈ l.take k))) (fun _ i _ => l.length - (intOf i).toNat)
        case atStart => exact ⟨0, true, Nat.zero_le _, rfl, rfl, Upd.refl _ _, Lib.hid (by simp)⟩
        case round =>
          obtain ⟨k, tb, hk, rfl, rfl, hu, htb⟩ := hrel
          by_cases hlt : k < l.length
          · obtain ⟨b1, o1, c1, e1, _, hb1, hxw, m0, m1, m2, m3, m4, m5⟩ := (h.upd (UC.trans hu) (Upd.fr_non (Fin.old w))).it hlt
            cases e1
            have hle := HT2.out k hlt
            obtain ⟨x, hx⟩ : ∃ x, l[k] = x := ⟨_, rfl⟩
            rw [hx] at hle hxw m0 m1 m2 m3 m4 m5
            have htk : l.take (k + 1) = l.take k ++ [x] := by rw [take_snoc l k hlt, hx]
            have HTK := Lib.hid htk
            have hbW : b1 < wr.heap.size := World.block_lt_of_cell? wr _ m0
            have h9 := (hu.block p9 (blk_lt hb9) id).trans hb9
            have HL := fun W' => less_spec W' x t
            unfold LessPost at HL
            simp only [hle] at HL
            have hcells : ∀ W', Upd Non wr W' → W'.cell? ⟨b1, o1 + k * 6, none⟩ = some (.int .i64 x.at_) ∧ W'.cell? ⟨b1, o1 + k * 6 + 1, none⟩ = some (.int .i64 x.flow) ∧ W'.cell? ⟨b1, o1 + k * 6 + 2, none⟩ = some (.int .i64 x.run) ∧ W'.cell? ⟨b1, o1 + k * 6 + 3, none⟩ = some (.int .i64 x.ref) ∧ W'.cell? ⟨b1, o1 + k * 6 + 4, none⟩ = some (.int .i64 x.turn) ∧ W'.cell? ⟨b1, o1 + k * 6 + 5, none⟩ = some (.int .i64 x.kind) ∧ W'.cell? ⟨p9, 0, none⟩ = some (.int .i64 t.at_) ∧ W'.cell? ⟨p9, 1, none⟩ = some (.int .i64 t.flow) ∧ W'.cell? ⟨p9, 2, none⟩ = some (.int .i64 t.run) ∧ W'.cell? ⟨p9, 3, none⟩ = some (.int .i64 t.ref) ∧ W'.cell? ⟨p9, 4, none⟩ = some (.int .i64 t.turn) ∧ W'.cell? ⟨p9, 5, none⟩ = some (.int .i64 t.kind) := fun W' hw => by
              have h9' := (hw.block p9 (blk_lt h9) id).trans h9
              exact ⟨(hw.cell (p := ⟨b1, o1 + k * 6, none⟩) hbW id).trans m0, (hw.cell (p := ⟨b1, o1 + k * 6 + 1, none⟩) hbW id).trans m1, (hw.cell (p := ⟨b1, o1 + k * 6 + 2, none⟩) hbW id).trans m2, (hw.cell (p := ⟨b1, o1 + k * 6 + 3, none⟩) hbW id).trans m3, (hw.cell (p := ⟨b1, o1 + k * 6 + 4, none⟩) hbW id).trans m4, (hw.cell (p := ⟨b1, o1 + k * 6 + 5, none⟩) hbW id).trans m5, blk_at h9' 0, blk_at h9' 1, blk_at h9' 2, blk_at h9' 3, blk_at h9' 4, blk_at h9' 5⟩
            have S0 := hcells wr.drew (Upd.refl _ _).drew
            simp only [It.cells] at HL
            have HC := Lib.hid hcells
            clear hx htk hcells hle h9
            by_cases hxt : x = t
            · subst hxt
              have hE : eqB ⟨x.at_, x.flow, x.run, x.ref, x.turn, x.kind⟩ ⟨x.at_, x.flow, x.run, x.ref, x.turn, x.kind⟩ = true := by simp [eqB]
              go_wp2_with fail
              go_region_held3 (fun W' => W'.cell? ⟨b1, o1 + k * 6, none⟩ = some (.int .i64 x.at_) ∧ W'.cell? ⟨b1, o1 + k * 6 + 1, none⟩ = some (.int .i64 x.flow) ∧ W'.cell? ⟨b1, o1 + k * 6 + 2, none⟩ = some (.int .i64 x.run) ∧ W'.cell? ⟨b1, o1 + k * 6 + 3, none⟩ = some (.int .i64 x.ref) ∧ W'.cell? ⟨b1, o1 + k * 6 + 4, none⟩ = some (.int .i64 x.turn) ∧ W'.cell? ⟨b1, o1 + k * 6 + 5, none⟩ = some (.int .i64 x.kind) ∧ W'.cell? ⟨p9, 0, none⟩ = some (.int .i64 x.at_) ∧ W'.cell? ⟨p9, 1, none⟩ = some (.int .i64 x.flow) ∧ W'.cell? ⟨p9, 2, none⟩ = some (.int .i64 x.run) ∧ W'.cell? ⟨p9, 3, none⟩ = some (.int .i64 x.ref) ∧ W'.cell? ⟨p9, 4, none⟩ = some (.int .i64 x.turn) ∧ W'.cell? ⟨p9, 5, none⟩ = some (.int .i64 x.kind))
                (first | exact S0 | exact Sa | go_keep)
                ((go_at_call 14; (with_reducible refine (HL _).mono ?_); rintro e wq ⟨rfl, huq⟩; have Sa := HC.out wq (((Upd.refl _ _).drew).trans huq)))
              obtain ⟨s0, s1, s2, s3, s4, s5, s6, s7, s8, s9, s10, s11⟩ := Sa
              go_wp2_with fail
              go_quiet (fail)
              go_wp2
              go_roundw
              case rel => exact ⟨k + 1, false, by omega, by go_num, rfl, ((hu.drew).trans huq).drewN _, Lib.hid (by rw [HTK.out]; simp)⟩
              case measure => simp [intOf]; omega
            · have hE : eqB ⟨x.at_, x.flow, x.run, x.ref, x.turn, x.kind⟩ ⟨t.at_, t.flow, t.run, t.ref, t.turn, t.kind⟩ = false := by show decide (x = t) = false; simp [hxt]
              have hmm : decide (t ∈ l.take (k + 1)) = decide (t ∈ l.take k) := by rw [HTK.out]; simp [Ne.symm hxt]
              have HMM := Lib.hid hmm
              clear hmm
              have HXT := Lib.hid hxt
              clear hxt
              go_wp2_with fail
              go_region_held3 (fun W' => W'.cell? ⟨b1, o1 + k * 6, none⟩ = some (.int .i64 x.at_) ∧ W'.cell? ⟨b1, o1 + k * 6 + 1, none⟩ = some (.int .i64 x.flow) ∧ W'.cell? ⟨b1, o1 + k * 6 + 2, none⟩ = some (.int .i64 x.run) ∧ W'.cell? ⟨b1, o1 + k * 6 + 3, none⟩ = some (.int .i64 x.ref) ∧ W'.cell? ⟨b1, o1 + k * 6 + 4, none⟩ = some (.int .i64 x.turn) ∧ W'.cell? ⟨b1, o1 + k * 6 + 5, none⟩ = some (.int .i64 x.kind) ∧ W'.cell? ⟨p9, 0, none⟩ = some (.int .i64 t.at_) ∧ W'.cell? ⟨p9, 1, none⟩ = some (.int .i64 t.flow) ∧ W'.cell? ⟨p9, 2, none⟩ = some (.int .i64 t.run) ∧ W'.cell? ⟨p9, 3, none⟩ = some (.int .i64 t.ref) ∧ W'.cell? ⟨p9, 4, none⟩ = some (.int .i64 t.turn) ∧ W'.cell? ⟨p9, 5, none⟩ = some (.int .i64 t.kind))
                (first | exact S0 | exact Sa | go_keep)
                ((go_at_call 14; (with_reducible refine (HL _).mono ?_); rintro e wq ⟨rfl, huq⟩; have Sa := HC.out wq (((Upd.refl _ _).drew).trans huq)))
              obtain ⟨s0, s1, s2, s3, s4, s5, s6, s7, s8, s9, s10, s11⟩ := Sa
              go_wp2_with fail
              go_quiet (fail)
              go_wp2
              go_roundw
              case rel => exact ⟨k + 1, tb, by omega, by go_num, rfl, ((hu.drew).trans huq).drewN _, Lib.hid (by rw [HMM.out]; exact htb.out)⟩
              case measure => simp [intOf]; omega
          · obtain rfl : k = l.length := by omega
            have W9U := UC.trans hu
            have UI := W9U
            have HTI := top_spec wr (Old w) _ ns (hi.upd UI (Upd.fr_non (Fin.old w))) ((Fin.old w).upd UI) (by omega)
            unfold TopPost at HTI
            have hd2 : ∀ m : Int, (m == 0) = decide (m = 0) := fun m => by rw [Bool.eq_iff_iff]; simp
            by_cases hn0 : 0 < ns.length
            · rw [decide_eq_true hn0] at HTI
              go_wp2_with fail
              with_reducible refine HTI.mono ?_
              rintro e w4 ⟨m, hm, rfl, hu4⟩
              have UJ := UI.trans hu4
              have HM := Lib.hid hm
              clear hm HTI
              go_wp2_with fail
              go_loopw [15] (fun i wr => ∃ k : Nat, k ≤ ns.length ∧ i = .int .i64 k ∧ Upd Non w4 wr) (fun i _ => ns.length - (intOf i).toNat)
              case atStart => exact ⟨0, Nat.zero_le _, rfl, Upd.refl _ _⟩
              case round =>
                obtain ⟨k, hk, rfl, hu⟩ := hrel
                by_cases hlt : k < ns.length
                · obtain ⟨b1, o1, c1, e1, _, hb1, m0⟩ := (hi.upd (UJ.trans hu) (Upd.fr_non (Fin.old w))).int hlt
                  cases e1
                  have hle : ¬ m < ns[k] := by have := HM.out.2 ns[k] (List.getElem_mem hlt); omega
                  obtain ⟨x, hx⟩ : ∃ x, ns[k] = x := ⟨_, rfl⟩
                  rw [hx] at m0 hle
                  have hlb1 := World.block_lt_of_cell? wr _ m0
                  clear hx
                  go_wp2
                  go_roundw
                  case rel => exact ⟨k + 1, by omega, by go_num, hu⟩
                  case measure => simp [intOf]; omega
                · obtain rfl : k = ns.length := by omega
                  go_wp2
                  go_ret
                  exact ⟨rfl, (UJ.trans hu).below⟩
            · rw [decide_eq_false hn0] at HTI
              go_wp2_with fail
              with_reducible refine HTI.mono ?_
              rintro e w4 ⟨m, hm, rfl, hu4⟩
              have UJ := UI.trans hu4
              have hns : ns = [] := List.length_eq_zero_iff.1 (by omega)
              obtain rfl := hm.1 hns
              clear hm HTI
              go_wp2_with fail
              go_loopw [15] (fun i wr => i = .int .i64 0 ∧ Upd Non w4 wr) (fun _ _ => 0)
              case atStart => exact ⟨rfl, Upd.refl _ _⟩
              case round =>
                obtain ⟨rfl, hu⟩ := hrel
                go_wp2
                go_ret
                exact ⟨rfl, (UJ.trans hu).below⟩
  · have hg : decide ((250 : Int) < l.length) = true ∨ decide ((250 : Int) < l.length) = false ∧ decide ((250 : Int) < ns.length) = true := by
      by_cases h1 : l.length ≤ 250
      · right; constructor
        · simp; omega
        · simp; omega
      · left; simp; omega
    simp only [It.cells] at hW ⊢
    go_enter Try.func5, Try.ntmps5
    go_wp2_with fail
    rw [← hW]
    clear hW
    refine (tknown_spec W).mono ?_
    rintro e w1 ⟨rfl, hu1⟩
    have UA := hu0.trans hu1
    rcases hg with h1 | ⟨h1, h2⟩
    · have h1' := of_decide_eq_true h1
      go_wp2
      go_ret
      exact ⟨rfl, UA.below⟩
    · have h1' := of_decide_eq_false h1
      have h2' := of_decide_eq_true h2
      go_wp2
      go_ret
      exact ⟨rfl, UA.below⟩
end Go.Proofs.Ytnaldifgnpnbhaa
