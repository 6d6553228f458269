/-
  The walk of slices.BinarySearchFunc at items.
-/
import Derived.Test.YtnaldifgnpnbhaaT4
namespace Go.Proofs.Ytnaldifgnpnbhaa
open Go.RowKit

def ltB (a b : It) : Bool := decide (cmpI a b < 0)
/-- where an item stands, or would -/
def pos (l : List It) (x : It) : Nat := (l.takeWhile fun y => ltB y x).length
theorem pos_le (l : List It) (x : It) : pos l x ≤ l.length := List.takeWhile_sublist _ |>.length_le
theorem pos_eq (l : List It) (x : It) (k : Nat) (hk : k ≤ l.length) (h1 : ∀ j (hj : j < l.length), j < k → ltB l[j] x = true) (h2 : ∀ (hj : k < l.length), ltB l[k] x = false) : pos l x = k := by
  unfold pos
  induction l generalizing k with
  | nil => simp at hk; simp [hk]
  | cons y ys ih =>
    cases k with
    | zero => have := h2 (by simp); simp at this; simp [this]
    | succ k =>
      have hy := h1 0 (by simp) (by omega)
      simp at hy
      simp only [List.takeWhile_cons, hy, if_true, List.length_cons]
      congr 1
      exact ih k (by simp at hk; omega) (fun j hj hjk => by have := h1 (j + 1) (by simp; omega) (by omega); simpa using this) (fun hj => by have := h2 (by simp; omega); simpa using this)

theorem Rd.it {w : World} {F : Nat → Prop} {v : Value} {xs : List It} (h : Rd itE w F v xs) {k : Nat} (hk : k < xs.length) : ∃ b o c, v = .slice (some ⟨b, o, none⟩) xs.length c ∧ xs.length ≤ c ∧ F b ∧ xs[k].wf ∧
    w.cell? ⟨b, o + k * 6, none⟩ = some (.int .i64 xs[k].at_) ∧ w.cell? ⟨b, o + k * 6 + 1, none⟩ = some (.int .i64 xs[k].flow) ∧ w.cell? ⟨b, o + k * 6 + 2, none⟩ = some (.int .i64 xs[k].run) ∧
    w.cell? ⟨b, o + k * 6 + 3, none⟩ = some (.int .i64 xs[k].ref) ∧ w.cell? ⟨b, o + k * 6 + 4, none⟩ = some (.int .i64 xs[k].turn) ∧ w.cell? ⟨b, o + k * 6 + 5, none⟩ = some (.int .i64 xs[k].kind) := by
  obtain ⟨b, o, c, l, hv, hc, hf, ⟨rfl, hw⟩, hg⟩ := h.get hk (by decide)
  refine ⟨b, o, c, hv, hc, hf, hw, ?_, ?_, ?_, ?_, ?_, ?_⟩
  · simpa [itE, It.cells] using hg 0 (by decide)
  · simpa [itE, It.cells, Nat.add_assoc] using hg 1 (by decide)
  · simpa [itE, It.cells, Nat.add_assoc] using hg 2 (by decide)
  · simpa [itE, It.cells, Nat.add_assoc] using hg 3 (by decide)
  · simpa [itE, It.cells, Nat.add_assoc] using hg 4 (by decide)
  · simpa [itE, It.cells, Nat.add_assoc] using hg 5 (by decide)

def Six (w : World) (b o : Nat) (x : It) : Prop := w.cell? ⟨b, o, none⟩ = some (.int .i64 x.at_) ∧ w.cell? ⟨b, o + 1, none⟩ = some (.int .i64 x.flow) ∧ w.cell? ⟨b, o + 2, none⟩ = some (.int .i64 x.run) ∧
    w.cell? ⟨b, o + 3, none⟩ = some (.int .i64 x.ref) ∧ w.cell? ⟨b, o + 4, none⟩ = some (.int .i64 x.turn) ∧ w.cell? ⟨b, o + 5, none⟩ = some (.int .i64 x.kind)

def BsPost (w : World) (l : List It) (x : It) (e : Ending) (w' : World) : Prop := Upd Non w w' ∧ e = .returned (.tuple #[.int .i64 (pos l x), .bool (decide (∃ y, l[pos l x]? = some y ∧ cmpI y x = 0))])

set_option maxRecDepth 100000 in
set_option maxHeartbeats 4000000 in
theorem bs_spec (w : World) (F : Nat → Prop) (v : Value) (l : List It) (x : It) (h : Rd itE w F v l) (hF : Fin w F) (hn : l.length ≤ 1048576) (hs : l.Pairwise fun a b => cmpI a b < 0)
    (hmono : ∀ a b : It, cmpI a b < 0 → cmpI b x < 0 → cmpI a x < 0) :
    Calls Try.prog 39 #[v, .agg x.cells.toArray, .func (.func 40) #[] #[]] w (BsPost w l x) := by
  obtain ⟨A, c, rfl, hc, _⟩ := h.shape
  have HB := heap_alloc_new w (.cells x.cells.toArray 33)
  have hu0 : Upd Non w (w.alloc (.cells x.cells.toArray 33)) := (Upd.refl _ _).alloc _
  obtain ⟨W, hW⟩ : ∃ W, W = w.alloc (.cells x.cells.toArray 33) := ⟨_, rfl⟩
  rw [← hW] at HB hu0
  simp only [It.cells] at hW ⊢
  go_enter Try.func39, Try.ntmps39
  go_wp2_with fail
  rw [← hW]
  clear hW
  go_loopw [9, 10, 11] (fun i j _ wr => ∃ a b : Nat, a ≤ b ∧ b ≤ l.length ∧ i = .int .i64 a ∧ j = .int .i64 b ∧ Upd Non W wr ∧ Hid (∀ k (hk : k < l.length), k < a → ltB l[k] x = true) ∧ Hid (∀ k (hk : k < l.length), b ≤ k → ltB l[k] x = false)) (fun i j _ _ => (intOf j).toNat - (intOf i).toNat)
  case atStart => exact ⟨0, l.length, Nat.zero_le _, Nat.le_refl _, rfl, rfl, Upd.refl _ _, Lib.hid (fun k hk h => by omega), Lib.hid (fun k hk h => by omega)⟩
  case round =>
    obtain ⟨a, b, hab, hbl, rfl, rfl, huw, hlo, hhi⟩ := hrel
    have hls : w.heap.size < wr.heap.size := Nat.lt_of_lt_of_le (blk_lt HB) huw.size
    have hux := hu0.trans huw
    have HBw := (huw.block _ (blk_lt HB) id).trans HB
    by_cases hlt : a < b
    · obtain ⟨m, hm⟩ : ∃ m, (a + b) / 2 = m := ⟨_, rfl⟩
      have hm1 : a ≤ m := by omega
      have hm2 : m < b := by omega
      have hshr : ((a : Int) + b) / 2 = (m : Int) := by omega
      clear hm
      have hml : m < l.length := by omega
      have hrw := h.upd hux (Upd.fr_non hF)
      obtain ⟨b1, o1, c1, e1, _, _, _, m0, m1, m2, m3, m4, m5⟩ := hrw.it hml
      cases e1
      have hbx : ∀ j, wr.cell? ⟨w.heap.size, j, none⟩ = x.cells[j]? := fun j => by rw [blk_at HBw]; simp
      obtain ⟨y, hy⟩ : ∃ y, l[m] = y := ⟨_, rfl⟩
      rw [hy] at m0 m1 m2 m3 m4 m5
      have HF := fun W' => fcmp_spec W' y x
      simp only [It.cells] at HF
      have HS : ∀ W' : World, Upd Non wr.drew W' → W'.cell? ⟨b1, o1 + m * 6, none⟩ = some (.int .i64 y.at_) ∧ W'.cell? ⟨b1, o1 + m * 6 + 1, none⟩ = some (.int .i64 y.flow) ∧ W'.cell? ⟨b1, o1 + m * 6 + 2, none⟩ = some (.int .i64 y.run) ∧ W'.cell? ⟨b1, o1 + m * 6 + 3, none⟩ = some (.int .i64 y.ref) ∧ W'.cell? ⟨b1, o1 + m * 6 + 4, none⟩ = some (.int .i64 y.turn) ∧ W'.cell? ⟨b1, o1 + m * 6 + 5, none⟩ = some (.int .i64 y.kind) ∧ W'.cell? ⟨w.heap.size, 0, none⟩ = some (.int .i64 x.at_) ∧ W'.cell? ⟨w.heap.size, 1, none⟩ = some (.int .i64 x.flow) ∧ W'.cell? ⟨w.heap.size, 2, none⟩ = some (.int .i64 x.run) ∧ W'.cell? ⟨w.heap.size, 3, none⟩ = some (.int .i64 x.ref) ∧ W'.cell? ⟨w.heap.size, 4, none⟩ = some (.int .i64 x.turn) ∧ W'.cell? ⟨w.heap.size, 5, none⟩ = some (.int .i64 x.kind) := fun W' hw => ⟨(hw.cell (by exact World.block_lt_of_cell? wr _ m0) id).trans m0, (hw.cell (by exact World.block_lt_of_cell? wr _ m1) id).trans m1, (hw.cell (by exact World.block_lt_of_cell? wr _ m2) id).trans m2, (hw.cell (by exact World.block_lt_of_cell? wr _ m3) id).trans m3, (hw.cell (by exact World.block_lt_of_cell? wr _ m4) id).trans m4, (hw.cell (by exact World.block_lt_of_cell? wr _ m5) id).trans m5, (hw.cell (by exact hls) id).trans (hbx 0), (hw.cell (by exact hls) id).trans (hbx 1), (hw.cell (by exact hls) id).trans (hbx 2), (hw.cell (by exact hls) id).trans (hbx 3), (hw.cell (by exact hls) id).trans (hbx 4), (hw.cell (by exact hls) id).trans (hbx 5)⟩
      have S0 := HS wr.drew (Upd.refl _ _)
      have HY := Lib.hid hy
      have hbw := World.block_lt_of_cell? wr _ m0
      clear hy hbx
      have hgen : ∀ k (hk : k < l.length), (k ≤ m → cmpI y x < 0 → cmpI l[k] x < 0) ∧ (m ≤ k → ¬ cmpI y x < 0 → ¬ cmpI l[k] x < 0) := fun k hk => by
        rw [← HY.out]
        refine ⟨fun h1 h2 => ?_, fun h1 h2 h3 => ?_⟩
        · rcases Nat.lt_or_ge k m with h | h
          · exact hmono _ _ (List.pairwise_iff_getElem.1 hs k m hk hml h) h2
          · obtain rfl : k = m := by omega
            exact h2
        · rcases Nat.lt_or_ge m k with h | h
          · exact h2 (hmono _ _ (List.pairwise_iff_getElem.1 hs m k hml hk h) h3)
          · obtain rfl : k = m := by omega
            exact h2 h3
      have HG := Lib.hid hgen
      clear hgen
      by_cases hr : cmpI y x < 0
      · have hlo' : ∀ k (hk : k < l.length), k < m + 1 → ltB l[k] x = true := fun k hk h1 => by
          have h3 : cmpI y x < 0 := hr
          exact decide_eq_true ((HG.out k hk).1 (by omega) h3)
        have HL := Lib.hid hlo'
        clear hlo'
        go_wp2_with fail
        go_region_held3 (fun W' => W'.cell? ⟨b1, o1 + m * 6, none⟩ = some (.int .i64 y.at_) ∧ W'.cell? ⟨b1, o1 + m * 6 + 1, none⟩ = some (.int .i64 y.flow) ∧ W'.cell? ⟨b1, o1 + m * 6 + 2, none⟩ = some (.int .i64 y.run) ∧ W'.cell? ⟨b1, o1 + m * 6 + 3, none⟩ = some (.int .i64 y.ref) ∧ W'.cell? ⟨b1, o1 + m * 6 + 4, none⟩ = some (.int .i64 y.turn) ∧ W'.cell? ⟨b1, o1 + m * 6 + 5, none⟩ = some (.int .i64 y.kind) ∧ W'.cell? ⟨w.heap.size, 0, none⟩ = some (.int .i64 x.at_) ∧ W'.cell? ⟨w.heap.size, 1, none⟩ = some (.int .i64 x.flow) ∧ W'.cell? ⟨w.heap.size, 2, none⟩ = some (.int .i64 x.run) ∧ W'.cell? ⟨w.heap.size, 3, none⟩ = some (.int .i64 x.ref) ∧ W'.cell? ⟨w.heap.size, 4, none⟩ = some (.int .i64 x.turn) ∧ W'.cell? ⟨w.heap.size, 5, none⟩ = some (.int .i64 x.kind))
          (first | exact S0 | exact Sa | go_keep)
          ((go_at_call 40; (with_reducible refine (HF _).mono ?_); rintro e wa ⟨rfl, hua⟩; have Sa := HS wa hua))
        go_wp2
        go_roundw
        case rel => exact ⟨m + 1, b, by omega, hbl, by go_num, rfl, (huw.drew).trans hua, HL, hhi⟩
        case measure => simp [intOf]; omega
      · have hhi' : ∀ k (hk : k < l.length), m ≤ k → ltB l[k] x = false := fun k hk h1 => by
          have h3 : ¬ cmpI y x < 0 := hr
          exact decide_eq_false ((HG.out k hk).2 h1 h3)
        have HL := Lib.hid hhi'
        clear hhi'
        go_wp2_with fail
        go_region_held3 (fun W' => W'.cell? ⟨b1, o1 + m * 6, none⟩ = some (.int .i64 y.at_) ∧ W'.cell? ⟨b1, o1 + m * 6 + 1, none⟩ = some (.int .i64 y.flow) ∧ W'.cell? ⟨b1, o1 + m * 6 + 2, none⟩ = some (.int .i64 y.run) ∧ W'.cell? ⟨b1, o1 + m * 6 + 3, none⟩ = some (.int .i64 y.ref) ∧ W'.cell? ⟨b1, o1 + m * 6 + 4, none⟩ = some (.int .i64 y.turn) ∧ W'.cell? ⟨b1, o1 + m * 6 + 5, none⟩ = some (.int .i64 y.kind) ∧ W'.cell? ⟨w.heap.size, 0, none⟩ = some (.int .i64 x.at_) ∧ W'.cell? ⟨w.heap.size, 1, none⟩ = some (.int .i64 x.flow) ∧ W'.cell? ⟨w.heap.size, 2, none⟩ = some (.int .i64 x.run) ∧ W'.cell? ⟨w.heap.size, 3, none⟩ = some (.int .i64 x.ref) ∧ W'.cell? ⟨w.heap.size, 4, none⟩ = some (.int .i64 x.turn) ∧ W'.cell? ⟨w.heap.size, 5, none⟩ = some (.int .i64 x.kind))
          (first | exact S0 | exact Sa | go_keep)
          ((go_at_call 40; (with_reducible refine (HF _).mono ?_); rintro e wa ⟨rfl, hua⟩; have Sa := HS wa hua))
        go_wp2
        go_roundw
        case rel => exact ⟨a, m, hm1, by omega, rfl, rfl, (huw.drew).trans hua, hlo, HL⟩
        case measure => simp [intOf]; omega
    · obtain rfl : a = b := by omega
      have hpos := pos_eq l x a hbl (fun j hj h1 => hlo.out j hj h1) (fun hj => hhi.out a hj (Nat.le_refl _))
      by_cases hal : a < l.length
      · have hml := hal
        have hrw := h.upd hux (Upd.fr_non hF)
        obtain ⟨b1, o1, c1, e1, _, _, _, m0, m1, m2, m3, m4, m5⟩ := hrw.it hml
        cases e1
        have hbx : ∀ j, wr.cell? ⟨w.heap.size, j, none⟩ = x.cells[j]? := fun j => by rw [blk_at HBw]; simp
        obtain ⟨y, hy⟩ : ∃ y, l[a] = y := ⟨_, rfl⟩
        rw [hy] at m0 m1 m2 m3 m4 m5
        have HF := fun W' => fcmp_spec W' y x
        simp only [It.cells] at HF
        obtain ⟨m, rfl⟩ : ∃ m, m = a := ⟨_, rfl⟩
        have HS : ∀ W' : World, Upd Non wr.drew W' → W'.cell? ⟨b1, o1 + m * 6, none⟩ = some (.int .i64 y.at_) ∧ W'.cell? ⟨b1, o1 + m * 6 + 1, none⟩ = some (.int .i64 y.flow) ∧ W'.cell? ⟨b1, o1 + m * 6 + 2, none⟩ = some (.int .i64 y.run) ∧ W'.cell? ⟨b1, o1 + m * 6 + 3, none⟩ = some (.int .i64 y.ref) ∧ W'.cell? ⟨b1, o1 + m * 6 + 4, none⟩ = some (.int .i64 y.turn) ∧ W'.cell? ⟨b1, o1 + m * 6 + 5, none⟩ = some (.int .i64 y.kind) ∧ W'.cell? ⟨w.heap.size, 0, none⟩ = some (.int .i64 x.at_) ∧ W'.cell? ⟨w.heap.size, 1, none⟩ = some (.int .i64 x.flow) ∧ W'.cell? ⟨w.heap.size, 2, none⟩ = some (.int .i64 x.run) ∧ W'.cell? ⟨w.heap.size, 3, none⟩ = some (.int .i64 x.ref) ∧ W'.cell? ⟨w.heap.size, 4, none⟩ = some (.int .i64 x.turn) ∧ W'.cell? ⟨w.heap.size, 5, none⟩ = some (.int .i64 x.kind) := fun W' hw => ⟨(hw.cell (by exact World.block_lt_of_cell? wr _ m0) id).trans m0, (hw.cell (by exact World.block_lt_of_cell? wr _ m1) id).trans m1, (hw.cell (by exact World.block_lt_of_cell? wr _ m2) id).trans m2, (hw.cell (by exact World.block_lt_of_cell? wr _ m3) id).trans m3, (hw.cell (by exact World.block_lt_of_cell? wr _ m4) id).trans m4, (hw.cell (by exact World.block_lt_of_cell? wr _ m5) id).trans m5, (hw.cell (by exact hls) id).trans (hbx 0), (hw.cell (by exact hls) id).trans (hbx 1), (hw.cell (by exact hls) id).trans (hbx 2), (hw.cell (by exact hls) id).trans (hbx 3), (hw.cell (by exact hls) id).trans (hbx 4), (hw.cell (by exact hls) id).trans (hbx 5)⟩
        have S0 := HS wr.drew (Upd.refl _ _)
        have hfin : ∀ w', Upd Non w w' → BsPost w l x (.returned (.tuple #[.int .i64 m, .bool (cmpI y x == 0)])) w' := fun w' hw' => by
          refine ⟨hw', ?_⟩
          rw [hpos, List.getElem?_eq_getElem hal, hy]
          simp
          rfl
        have hbw := World.block_lt_of_cell? wr _ m0
        clear hy hbx hpos
        go_wp2_with fail
        go_region_held3 (fun W' => W'.cell? ⟨b1, o1 + m * 6, none⟩ = some (.int .i64 y.at_) ∧ W'.cell? ⟨b1, o1 + m * 6 + 1, none⟩ = some (.int .i64 y.flow) ∧ W'.cell? ⟨b1, o1 + m * 6 + 2, none⟩ = some (.int .i64 y.run) ∧ W'.cell? ⟨b1, o1 + m * 6 + 3, none⟩ = some (.int .i64 y.ref) ∧ W'.cell? ⟨b1, o1 + m * 6 + 4, none⟩ = some (.int .i64 y.turn) ∧ W'.cell? ⟨b1, o1 + m * 6 + 5, none⟩ = some (.int .i64 y.kind) ∧ W'.cell? ⟨w.heap.size, 0, none⟩ = some (.int .i64 x.at_) ∧ W'.cell? ⟨w.heap.size, 1, none⟩ = some (.int .i64 x.flow) ∧ W'.cell? ⟨w.heap.size, 2, none⟩ = some (.int .i64 x.run) ∧ W'.cell? ⟨w.heap.size, 3, none⟩ = some (.int .i64 x.ref) ∧ W'.cell? ⟨w.heap.size, 4, none⟩ = some (.int .i64 x.turn) ∧ W'.cell? ⟨w.heap.size, 5, none⟩ = some (.int .i64 x.kind))
          (first | exact S0 | exact Sa | go_keep)
          ((go_at_call 40; (with_reducible refine (HF _).mono ?_); rintro e wa ⟨rfl, hua⟩; have Sa := HS wa hua))
        go_wp2
        go_ret2
        exact hfin _ ((hux.drew).trans hua)
      · have hfin : ∀ w', Upd Non w w' → BsPost w l x (.returned (.tuple #[.int .i64 a, .bool false])) w' := fun w' hw' => by
          refine ⟨hw', ?_⟩
          rw [hpos, List.getElem?_eq_none (by omega)]
          simp
        clear hpos
        obtain rfl : a = l.length := by omega
        go_wp2_with fail
        go_quiet (fail)
        go_wp2
        go_ret2
        exact hfin _ (hux.drewN _)
end Go.Proofs.Ytnaldifgnpnbhaa
