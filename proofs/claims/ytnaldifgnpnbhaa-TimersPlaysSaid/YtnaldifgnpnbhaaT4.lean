/-
  How two items are held against each other: the walks of numbers, slices.Compare, the closure of find.
-/
import Derived.Test.YtnaldifgnpnbhaaT3
namespace Go.Proofs.Ytnaldifgnpnbhaa
open Go.RowKit

def It.nums (x : It) : List Int := [x.at_, x.flow, x.run, x.ref, x.turn, x.kind]
/-- which of two rows of numbers comes first -/
def cmpL : List Int → List Int → Int
  | [], [] => 0
  | [], _ :: _ => -1
  | _ :: _, [] => 1
  | a :: xs, b :: ys => if a < b then -1 else if b < a then 1 else cmpL xs ys
def cmpI (a b : It) : Int := cmpL a.nums b.nums

def NumPost (w : World) (x : It) (e : Ending) (w' : World) : Prop := ∃ v, e = .returned v ∧ Upd Non w w' ∧ Rd intE w' (New w w') v x.nums
theorem numbers_spec (w : World) (x : It) : Calls Try.prog 33 #[.agg x.cells.toArray] w (NumPost w x) := by
  have hbx := heap_alloc_new w (.cells x.cells.toArray 33)
  have b0 : (w.alloc (.cells x.cells.toArray 33)).cell? ⟨w.heap.size, 0, none⟩ = some (.int .i64 x.at_) := blk_at hbx 0
  have b1 : (w.alloc (.cells x.cells.toArray 33)).cell? ⟨w.heap.size, 1, none⟩ = some (.int .i64 x.flow) := blk_at hbx 1
  have b2 : (w.alloc (.cells x.cells.toArray 33)).cell? ⟨w.heap.size, 2, none⟩ = some (.int .i64 x.run) := blk_at hbx 2
  have b3 : (w.alloc (.cells x.cells.toArray 33)).cell? ⟨w.heap.size, 3, none⟩ = some (.int .i64 x.ref) := blk_at hbx 3
  have b4 : (w.alloc (.cells x.cells.toArray 33)).cell? ⟨w.heap.size, 4, none⟩ = some (.int .i64 x.turn) := blk_at hbx 4
  have b5 : (w.alloc (.cells x.cells.toArray 33)).cell? ⟨w.heap.size, 5, none⟩ = some (.int .i64 x.kind) := blk_at hbx 5
  have hfin : NumPost w x (.returned (.slice (some ⟨w.heap.size + 1, 0, none⟩) 6 6)) ((w.alloc (.cells x.cells.toArray 33)).alloc (.cells x.cells.toArray 3)) := by
    refine ⟨_, rfl, ((Upd.refl _ _).alloc _).alloc _, ?_⟩
    have hr := rd_box (E := intE) (w.alloc (.cells x.cells.toArray 33)) x.cells.toArray 3 x.nums ⟨_, _, rfl, rfl, _, _, rfl, rfl, _, _, rfl, rfl, _, _, rfl, rfl, _, _, rfl, rfl, _, _, rfl, rfl, rfl⟩ (by simp [It.nums, maxLen_eq])
    rw [World.size_alloc] at hr
    exact hr.mono fun q hq => ⟨by have := hq.1; simp at this; omega, hq.2⟩
  simp only [It.cells] at hbx b0 b1 b2 b3 b4 b5 hfin ⊢
  clear hbx
  go_enter Try.func33, Try.ntmps33
  go_wp2
  go_ret
  exact hfin

theorem isnan_spec (w : World) (a : Int) : Calls Try.prog 46 #[.int .i64 a] w fun e w' => e = .returned (.bool false) ∧ w = w' := by
  go_enter Try.func46, Try.ntmps46
  go_wp2
  go_ret
  exact ⟨rfl, rfl⟩
theorem cmp_spec (w : World) (a b : Int) : Calls Try.prog 43 #[.int .i64 a, .int .i64 b] w fun e w' => e = .returned (.int .i64 (if a < b then -1 else if b < a then 1 else 0)) ∧ w = w' := by
  have h1 := isnan_spec w a
  have h2 := isnan_spec w b
  by_cases hab : a < b
  · rw [if_pos hab]
    go_enter Try.func43, Try.ntmps43
    go_wp2_with fail
    refine h1.mono ?_
    rintro e w1 ⟨rfl, rfl⟩
    go_wp2_with fail
    refine h2.mono ?_
    rintro e w1 ⟨rfl, rfl⟩
    go_wp2
    go_ret
    exact ⟨rfl, rfl⟩
  · by_cases hba : b < a
    · rw [if_neg hab, if_pos hba]
      go_enter Try.func43, Try.ntmps43
      go_wp2_with fail
      refine h1.mono ?_
      rintro e w1 ⟨rfl, rfl⟩
      go_wp2_with fail
      refine h2.mono ?_
      rintro e w1 ⟨rfl, rfl⟩
      go_wp2
      go_ret
      exact ⟨rfl, rfl⟩
    · rw [if_neg hab, if_neg hba]
      go_enter Try.func43, Try.ntmps43
      go_wp2_with fail
      refine h1.mono ?_
      rintro e w1 ⟨rfl, rfl⟩
      go_wp2_with fail
      refine h2.mono ?_
      rintro e w1 ⟨rfl, rfl⟩
      go_wp2
      go_ret
      exact ⟨rfl, rfl⟩

theorem compare_spec (w : World) (F G : Nat → Prop) (v1 v2 : Value) (l1 l2 : List Int) (h1 : Rd intE w F v1 l1) (h2 : Rd intE w G v2 l2) (hl1 : l1.length ≤ 1000) :
    Calls Try.prog 32 #[v1, v2] w fun e w' => e = .returned (.int .i64 (cmpL l1 l2)) ∧ w = w' := by
  obtain ⟨A1, c1, rfl, hc1, _⟩ := h1.shape
  obtain ⟨A2, c2, rfl, hc2, _⟩ := h2.shape
  go_enter Try.func32, Try.ntmps32
  go_wp2
  go_loop [5, 6, 7, 8, 11] (fun _ _ _ _ i => ∃ k : Nat, k ≤ l1.length ∧ k ≤ l2.length ∧ i = .int .i64 k ∧ Hid (cmpL l1 l2 = cmpL (l1.drop k) (l2.drop k))) (fun _ _ _ _ i => l1.length - (intOf i).toNat)
  case atStart => exact ⟨0, Nat.zero_le _, Nat.zero_le _, rfl, Lib.hid (by simp)⟩
  case round =>
    obtain ⟨k, hk1, hk2, rfl, hcm⟩ := hrel
    by_cases hlt1 : k < l1.length
    · obtain ⟨b1, o1, c1', e1, _, _, m1⟩ := h1.int hlt1
      cases e1
      by_cases hlt2 : k < l2.length
      · obtain ⟨b2, o2, c2', e2, _, _, m2⟩ := h2.int hlt2
        cases e2
        have hstep : cmpL l1 l2 = if l1[k] < l2[k] then -1 else if l2[k] < l1[k] then 1 else cmpL (l1.drop (k + 1)) (l2.drop (k + 1)) := by
          rw [hcm.out, List.drop_eq_getElem_cons hlt1, List.drop_eq_getElem_cons hlt2]; rfl
        have HS := Lib.hid hstep
        clear hstep hcm
        generalize l1[k] = x at m1 HS
        generalize l2[k] = y at m2 HS
        by_cases hxy : x < y
        · have hr : cmpL l1 l2 = -1 := by rw [HS.out, if_pos hxy]
          have HR := Lib.hid hr
          clear hr
          have hcs := cmp_spec w x y
          rw [if_pos hxy] at hcs
          go_wp2_with fail
          refine hcs.mono ?_
          rintro e w1 ⟨rfl, rfl⟩
          go_wp2
          go_ret
          exact ⟨by rw [HR.out]; rfl, rfl⟩
        · by_cases hyx : y < x
          · have hr : cmpL l1 l2 = 1 := by rw [HS.out, if_neg hxy, if_pos hyx]
            have HR := Lib.hid hr
            clear hr
            have hcs := cmp_spec w x y
            rw [if_neg hxy, if_pos hyx] at hcs
            go_wp2_with fail
            refine hcs.mono ?_
            rintro e w1 ⟨rfl, rfl⟩
            go_wp2
            go_ret
            exact ⟨by rw [HR.out]; rfl, rfl⟩
          · have hr : cmpL l1 l2 = cmpL (l1.drop (k + 1)) (l2.drop (k + 1)) := by rw [HS.out, if_neg hxy, if_neg hyx]
            have HR := Lib.hid hr
            clear hr
            have hcs := cmp_spec w x y
            rw [if_neg hxy, if_neg hyx] at hcs
            go_wp2_with fail
            refine hcs.mono ?_
            rintro e w1 ⟨rfl, rfl⟩
            go_wp2
            go_round
            case rel => exact ⟨k + 1, by omega, by omega, by go_num, HR⟩
            case measure => simp [intOf]; omega
      · obtain rfl : k = l2.length := by omega
        have hr : cmpL l1 l2 = 1 := by rw [hcm.out, List.drop_eq_getElem_cons hlt1, List.drop_eq_nil_of_le (Nat.le_refl l2.length)]; rfl
        have HR := Lib.hid hr
        clear hr
        go_wp2
        go_ret
        exact ⟨by rw [HR.out]; rfl, rfl⟩
    · obtain rfl : k = l1.length := by omega
      by_cases hlt2 : l1.length < l2.length
      · have hr : cmpL l1 l2 = -1 := by rw [hcm.out, List.drop_eq_nil_of_le (Nat.le_refl l1.length), List.drop_eq_getElem_cons hlt2]; rfl
        have HR := Lib.hid hr
        clear hr
        go_wp2
        go_ret
        exact ⟨by rw [HR.out]; rfl, rfl⟩
      · have hr : cmpL l1 l2 = 0 := by rw [hcm.out, List.drop_eq_nil_of_le (Nat.le_refl l1.length), List.drop_eq_nil_of_le (show l2.length ≤ l1.length by omega)]; rfl
        have HR := Lib.hid hr
        clear hr
        go_wp2
        go_ret
        exact ⟨by rw [HR.out]; rfl, rfl⟩

def FcPost (w : World) (a b : It) (e : Ending) (w' : World) : Prop := e = .returned (.int .i64 (cmpI a b)) ∧ Upd Non w w'
set_option maxRecDepth 100000 in
set_option maxHeartbeats 1000000 in
theorem fcmp_spec (w : World) (a b : It) : Calls Try.prog 40 #[.agg a.cells.toArray, .agg b.cells.toArray] w (FcPost w a b) := by
  obtain ⟨W, hW⟩ : ∃ W, W = (w.alloc (.cells a.cells.toArray 33)).alloc (.cells b.cells.toArray 33) := ⟨_, rfl⟩
  have hu : Upd Non w W := by rw [hW]; exact ((Upd.refl _ _).alloc _).alloc _
  have hbb : W.heap[w.heap.size + 1]? = some (.cells b.cells.toArray 33 (0, 0)) := by
    have := heap_alloc_new (w.alloc (.cells a.cells.toArray 33)) (.cells b.cells.toArray 33)
    rw [World.size_alloc] at this
    rw [hW]; exact this
  have hba : W.heap[w.heap.size]? = some (.cells a.cells.toArray 33 (0, 0)) := by
    rw [hW]; exact (Below.heap_alloc _ _ _ (by simp)).trans (heap_alloc_new w _)
  have hls : w.heap.size + 1 < W.heap.size := blk_lt hbb
  have HS : ∀ W', Upd Non W W' → W'.cell? ⟨w.heap.size, 0, none⟩ = some (.int .i64 a.at_) ∧ W'.cell? ⟨w.heap.size, 1, none⟩ = some (.int .i64 a.flow) ∧ W'.cell? ⟨w.heap.size, 2, none⟩ = some (.int .i64 a.run) ∧ W'.cell? ⟨w.heap.size, 3, none⟩ = some (.int .i64 a.ref) ∧ W'.cell? ⟨w.heap.size, 4, none⟩ = some (.int .i64 a.turn) ∧ W'.cell? ⟨w.heap.size, 5, none⟩ = some (.int .i64 a.kind) ∧ W'.cell? ⟨w.heap.size + 1, 0, none⟩ = some (.int .i64 b.at_) ∧ W'.cell? ⟨w.heap.size + 1, 1, none⟩ = some (.int .i64 b.flow) ∧ W'.cell? ⟨w.heap.size + 1, 2, none⟩ = some (.int .i64 b.run) ∧ W'.cell? ⟨w.heap.size + 1, 3, none⟩ = some (.int .i64 b.ref) ∧ W'.cell? ⟨w.heap.size + 1, 4, none⟩ = some (.int .i64 b.turn) ∧ W'.cell? ⟨w.heap.size + 1, 5, none⟩ = some (.int .i64 b.kind) := fun W' hw' => by
    have ca : ∀ j, W'.cell? ⟨w.heap.size, j, none⟩ = a.cells[j]? := fun j => by
      rw [hw'.cell (p := ⟨w.heap.size, j, none⟩) (by show w.heap.size < _; omega) id, blk_at hba]; simp
    have cb : ∀ j, W'.cell? ⟨w.heap.size + 1, j, none⟩ = b.cells[j]? := fun j => by
      rw [hw'.cell (p := ⟨w.heap.size + 1, j, none⟩) hls id, blk_at hbb]; simp
    exact ⟨ca 0, ca 1, ca 2, ca 3, ca 4, ca 5, cb 0, cb 1, cb 2, cb 3, cb 4, cb 5⟩
  have HN1 := fun W' => numbers_spec W' a
  have HN2 := fun W' => numbers_spec W' b
  have HK := fun W' v1 v2 F G (r1 : Rd intE W' F v1 a.nums) (r2 : Rd intE W' G v2 b.nums) => compare_spec W' F G v1 v2 a.nums b.nums r1 r2 (by simp [It.nums])
  simp only [It.cells] at hW HN1 HN2 ⊢
  go_enter Try.func40, Try.ntmps40
  go_wp2_with fail
  rw [← hW]
  clear hW hba hbb
  have S0 := HS W.drew ((Upd.refl _ _).drew)
  go_region_held3 (fun W' => W'.cell? ⟨w.heap.size, 0, none⟩ = some (.int .i64 a.at_) ∧ W'.cell? ⟨w.heap.size, 1, none⟩ = some (.int .i64 a.flow) ∧ W'.cell? ⟨w.heap.size, 2, none⟩ = some (.int .i64 a.run) ∧ W'.cell? ⟨w.heap.size, 3, none⟩ = some (.int .i64 a.ref) ∧ W'.cell? ⟨w.heap.size, 4, none⟩ = some (.int .i64 a.turn) ∧ W'.cell? ⟨w.heap.size, 5, none⟩ = some (.int .i64 a.kind) ∧ W'.cell? ⟨w.heap.size + 1, 0, none⟩ = some (.int .i64 b.at_) ∧ W'.cell? ⟨w.heap.size + 1, 1, none⟩ = some (.int .i64 b.flow) ∧ W'.cell? ⟨w.heap.size + 1, 2, none⟩ = some (.int .i64 b.run) ∧ W'.cell? ⟨w.heap.size + 1, 3, none⟩ = some (.int .i64 b.ref) ∧ W'.cell? ⟨w.heap.size + 1, 4, none⟩ = some (.int .i64 b.turn) ∧ W'.cell? ⟨w.heap.size + 1, 5, none⟩ = some (.int .i64 b.kind))
    (first | exact S0 | exact Sa | exact Sb | go_keep)
    (first
    | (go_at_call 33; (with_reducible refine (HN1 _).mono ?_); rintro e wa ⟨va, rfl, hua, hra⟩; obtain ⟨Aa, ca, rfl, _⟩ := hra.shape; have hUa : Upd Non W wa := (by first | exact hUb.trans hua | exact ((Upd.refl Non W).drew).trans hua); have Sa := HS wa hUa)
    | (go_at_call 33; (with_reducible refine (HN2 _).mono ?_); rintro e wb ⟨vb, rfl, hub, hrb⟩; obtain ⟨Ab, cb, rfl, _⟩ := hrb.shape; have hUb : Upd Non W wb := (by first | exact hUa.trans hub | exact ((Upd.refl Non W).drew).trans hub); have Sb := HS wb hUb)
    | (go_at_call 32; refine (HK _ _ _ _ _ (by first | exact hra.upd hub (Upd.fr_non Fin.new) | exact hra) (by first | exact hrb.upd hua (Upd.fr_non Fin.new) | exact hrb)).mono ?_; rintro e wc ⟨rfl, rfl⟩))
  all_goals
    go_wp2
    go_ret
    first | exact ⟨rfl, hu.trans hUb⟩ | exact ⟨rfl, hu.trans hUa⟩
end Go.Proofs.Ytnaldifgnpnbhaa
