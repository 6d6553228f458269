/-
  The walk of Less; what is due of a row that rises.
-/
import Derived.Test.YtnaldifgnpnbhaaT13
namespace Go.Proofs.Ytnaldifgnpnbhaa
open Go.RowKit Go.Maps

def LessPost (w : World) (a b : It) (e : Ending) (w' : World) : Prop := e = .returned (.bool (ltB a b)) ∧ Upd Non w w'
set_option maxRecDepth 100000 in
set_option maxHeartbeats 1000000 in
theorem less_spec (w : World) (a b : It) : Calls Try.prog 14 #[.agg a.cells.toArray, .agg b.cells.toArray] w (LessPost w a b) := by
  obtain ⟨W, hW⟩ : ∃ W, W = (w.alloc (.cells a.cells.toArray 33)).alloc (.cells b.cells.toArray 33) := ⟨_, rfl⟩
  have hu : Upd Non w W := by rw [hW]; exact ((Upd.refl _ _).alloc _).alloc _
  have hbb : W.heap[w.heap.size + 1]? = some (.cells b.cells.toArray 33 (0, 0)) := by
    have := heap_alloc_new (w.alloc (.cells a.cells.toArray 33)) (.cells b.cells.toArray 33)
    rw [World.size_alloc] at this
    rw [hW]; exact this
  have hba : W.heap[w.heap.size]? = some (.cells a.cells.toArray 33 (0, 0)) := by
    rw [hW]; exact (Below.heap_alloc _ _ _ (by simp)).trans (heap_alloc_new w _)
  have hls : w.heap.size + 1 < W.heap.size := blk_lt hbb
  have HS : ∀ W', Upd Non W W' → W'.cell? ⟨w.heap.size, 0, none⟩ = some (.int .i64 a.at_) ∧ W'.cell? ⟨w.heap.size, 1, none⟩ = some (.int .i64 a.flow) ∧ W'.cell? ⟨w.heap.size, 2, none⟩ = some (.int .i64 a.run) ∧ W'.cell? ⟨w.heap.size, 3, none⟩ = some (.int .i64 a.ref) ∧ W'.cell? ⟨w.heap.size, 4, none⟩ = some (.int .i64 a.turn) ∧ W'.cell? ⟨w.heap.size, 5, none⟩ = some (.int .i64 a.kind) ∧ W'.cell? ⟨w.heap.size + 1, 0, none⟩ = some (.int .i64 b.at_) ∧ W'.cell? ⟨w.heap.size + 1, 1, none⟩ = some (.int .i64 b.flow) ∧ W'.cell? ⟨w.heap.size + 1, 2, none⟩ = some (.int .i64 b.run) ∧ W'.cell? ⟨w.heap.size + 1, 3, none⟩ = some (.int .i64 b.ref) ∧ W'.cell? ⟨w.heap.size + 1, 4, none⟩ = some (.int .i64 b.turn) ∧ W'.cell? ⟨w.heap.size + 1, 5, none⟩ = some (.int .i64 b.kind) := fun W' hw' => by
    have ca : ∀ j, W'.cell? ⟨w.heap.size, j, none⟩ = a.cells[j]? := fun j => by
      rw [hw'.cell (p := ⟨w.heap.size, j, none⟩) (by show w.heap.size < _; omega) id, blk_at hba]; simp
    have cb : ∀ j, W'.cell? ⟨w.heap.size + 1, j, none⟩ = b.cells[j]? := fun j => by
      rw [hw'.cell (p := ⟨w.heap.size + 1, j, none⟩) hls id, blk_at hbb]; simp
    exact ⟨ca 0, ca 1, ca 2, ca 3, ca 4, ca 5, cb 0, cb 1, cb 2, cb 3, cb 4, cb 5⟩
  have HN1 := fun W' => numbers_spec W' a
  have HN2 := fun W' => numbers_spec W' b
  have HK := fun W' v1 v2 F G (r1 : Rd intE W' F v1 a.nums) (r2 : Rd intE W' G v2 b.nums) => compare_spec W' F G v1 v2 a.nums b.nums r1 r2 (by simp [It.nums])
  simp only [It.cells] at hW HN1 HN2 ⊢
  go_enter Try.func14, Try.ntmps14
  go_wp2_with fail
  rw [← hW]
  clear hW hba hbb
  have S0 := HS W.drew ((Upd.refl _ _).drew)
  go_region_held3 (fun W' => W'.cell? ⟨w.heap.size, 0, none⟩ = some (.int .i64 a.at_) ∧ W'.cell? ⟨w.heap.size, 1, none⟩ = some (.int .i64 a.flow) ∧ W'.cell? ⟨w.heap.size, 2, none⟩ = some (.int .i64 a.run) ∧ W'.cell? ⟨w.heap.size, 3, none⟩ = some (.int .i64 a.ref) ∧ W'.cell? ⟨w.heap.size, 4, none⟩ = some (.int .i64 a.turn) ∧ W'.cell? ⟨w.heap.size, 5, none⟩ = some (.int .i64 a.kind) ∧ W'.cell? ⟨w.heap.size + 1, 0, none⟩ = some (.int .i64 b.at_) ∧ W'.cell? ⟨w.heap.size + 1, 1, none⟩ = some (.int .i64 b.flow) ∧ W'.cell? ⟨w.heap.size + 1, 2, none⟩ = some (.int .i64 b.run) ∧ W'.cell? ⟨w.heap.size + 1, 3, none⟩ = some (.int .i64 b.ref) ∧ W'.cell? ⟨w.heap.size + 1, 4, none⟩ = some (.int .i64 b.turn) ∧ W'.cell? ⟨w.heap.size + 1, 5, none⟩ = some (.int .i64 b.kind))
    (first | exact S0 | exact Sa | exact Sb | go_keep)
    (first
    | (go_at_call 33; (with_reducible refine (HN1 _).mono ?_); rintro e wa ⟨va, rfl, hua, hra⟩; obtain ⟨Aa, ca, rfl, _⟩ := hra.shape; have hUa : Upd Non W wa := (by first | exact hUb.trans hua | exact ((Upd.refl Non W).drew).trans hua); have Sa := HS wa hUa)
    | (go_at_call 33; (with_reducible refine (HN2 _).mono ?_); rintro e wb ⟨vb, rfl, hub, hrb⟩; obtain ⟨Ab, cb, rfl, _⟩ := hrb.shape; have hUb : Upd Non W wb := (by first | exact hUa.trans hub | exact ((Upd.refl Non W).drew).trans hub); have Sb := HS wb hUb)
    | (go_at_call 32; refine (HK _ _ _ _ _ (by first | exact hra.upd hub (Upd.fr_non Fin.new) | exact hra) (by first | exact hrb.upd hua (Upd.fr_non Fin.new) | exact hrb)).mono ?_; rintro e wc ⟨rfl, rfl⟩))
  all_goals
    go_wp2
    go_ret
    first | exact ⟨rfl, hu.trans hUb⟩ | exact ⟨rfl, hu.trans hUa⟩
/-- how many are due -/
def dueN (l : List It) (now : Int) : Nat := (l.filter fun x => decide (x.at_ ≤ now)).length
theorem cmp_at {a b : It} (h : cmpI a b < 0) : a.at_ ≤ b.at_ := by
  unfold cmpI It.nums cmpL at h
  by_cases h1 : a.at_ < b.at_
  · omega
  · rw [if_neg h1] at h
    by_cases h2 : b.at_ < a.at_
    · rw [if_pos h2] at h; omega
    · omega
theorem due_iff (now : Int) : ∀ (l : List It), Sorted l → ∀ j (hj : j < l.length), j < dueN l now ↔ l[j].at_ ≤ now
  | [], _, j, hj => by simp at hj
  | x :: xs, hs, j, hj => by
    obtain ⟨h1, h2⟩ := List.pairwise_cons.1 hs
    by_cases hx : x.at_ ≤ now
    · have hd : dueN (x :: xs) now = dueN xs now + 1 := by simp [dueN, hx]
      cases j with
      | zero => simp [hd, hx]
      | succ j =>
        have := due_iff now xs h2 j (by simp at hj; omega)
        rw [hd]
        simp only [List.getElem_cons_succ]
        omega
    · have hall : ∀ y ∈ xs, ¬ y.at_ ≤ now := fun y hy => by have := cmp_at (h1 y hy); omega
      have hd : dueN (x :: xs) now = 0 := by
        unfold dueN
        rw [List.length_eq_zero_iff, List.filter_eq_nil_iff]
        intro y hy
        rcases List.mem_cons.1 hy with rfl | hy
        · simpa using hx
        · simpa using hall y hy
      rw [hd]
      cases j with
      | zero => simp [hx]
      | succ j =>
        simp only [List.getElem_cons_succ]
        have hj' : j < xs.length := by simp at hj; omega
        have := hall xs[j] (List.getElem_mem hj')
        omega
theorem due_le (l : List It) (now : Int) : dueN l now ≤ l.length := List.length_filter_le _ _
theorem add_new {l : List It} {x : It} (hs : Sorted l) (hx : ¬ x ∈ l) (now : Int) : (addR l x).1 = true ∧ (addR l x).2.length = l.length + 1 ∧ dueN (addR l x).2 now = dueN l now + (if x.at_ ≤ now then 1 else 0) := by
  have hne : ¬ l[pos l x]? = some x := fun h => hx ((pos_mem hs x).1 h)
  have hp := pos_le l x
  have hl : (l.filter fun y => decide (y.at_ ≤ now)).length = ((l.take (pos l x)).filter fun y => decide (y.at_ ≤ now)).length + ((l.drop (pos l x)).filter fun y => decide (y.at_ ≤ now)).length := by
    conv => lhs; rw [← List.take_append_drop (pos l x) l]
    rw [List.filter_append, List.length_append]
  unfold addR
  rw [if_neg hne]
  refine ⟨rfl, by simp; omega, ?_⟩
  unfold dueN
  rw [hl]
  simp only [List.filter_append, List.length_append, List.filter_cons]
  by_cases h : x.at_ ≤ now
  · simp [h]; omega
  · simp [h]
theorem add_old {l : List It} {x : It} (hs : Sorted l) (hx : x ∈ l) : addR l x = (false, l) := by
  unfold addR
  rw [if_pos ((pos_mem hs x).2 hx)]
theorem take_due {l : List It} (hs : Sorted l) (now : Int) (n : Nat) (hn : n < dueN l now) (hl : n < l.length) : takeR (l.drop n) now = (l[n], true, l.drop (n + 1)) := by
  have := (due_iff now l hs n hl).1 hn
  rw [take_eq, List.drop_eq_getElem_cons hl]
  simp only
  rw [if_neg (by omega)]
theorem take_none {l : List It} (hs : Sorted l) (now : Int) (n : Nat) (hn : n = dueN l now) : takeR (l.drop n) now = (z0, false, l.drop n) := by
  rw [take_eq]
  by_cases hl : n < l.length
  · have h1 := due_iff now l hs n hl
    have : ¬ l[n].at_ ≤ now := fun h => by have := h1.2 h; omega
    rw [List.drop_eq_getElem_cons hl]
    simp only
    rw [if_pos (by omega)]
  · rw [List.drop_eq_nil_of_le (by omega)]
end Go.Proofs.Ytnaldifgnpnbhaa
