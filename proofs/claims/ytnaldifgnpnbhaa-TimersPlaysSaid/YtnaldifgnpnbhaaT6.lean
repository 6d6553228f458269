/-
  A heap in memory; the walks of find, Add, Remove.
-/
import Derived.Test.YtnaldifgnpnbhaaT5
namespace Go.Proofs.Ytnaldifgnpnbhaa
open Go.RowKit

/-- A struct of one slice, at block p; T: its type, e: the elements' type; F: its blocks. -/
def HeapAt (T e : TypeId) (w : World) (F : Nat → Prop) (p : Nat) (l : List It) : Prop :=
  ∃ v g, w.heap[p]? = some (.cells #[v] T (0, 0)) ∧ Buf itE e w g Non v l ∧ p ≠ g ∧ F p ∧ (v = .slice none 0 0 ∨ F g) ∧ Fin w F
section
variable {T e : TypeId} {w w' : World} {F S : Nat → Prop} {p : Nat} {l : List It}
theorem HeapAt.upd (h : HeapAt T e w F p l) (hu : Upd S w w') (hs : ∀ q, F q → ¬ S q) : HeapAt T e w' F p l := by
  obtain ⟨v, g, h1, h2, h3, h4, h5, h6⟩ := h
  refine ⟨v, g, (hu.block p (blk_lt h1) (hs p h4)).trans h1, ?_, h3, h4, h5, h6.upd hu⟩
  rcases h5 with rfl | h5
  · rcases h2 with h2 | ⟨c, cs, rest, e1, _⟩
    · exact .inl h2
    · cases e1
  · exact h2.upd' hu (hs g h5) (fun k hk => hk.elim)
theorem HeapAt.mono (h : HeapAt T e w F p l) {G : Nat → Prop} (hG : Fin w G) (hs : ∀ q, F q → G q) : HeapAt T e w G p l := by
  obtain ⟨v, g, h1, h2, h3, h4, h5, h6⟩ := h
  exact ⟨v, g, h1, h2, h3, hs p h4, h5.imp id (hs g), hG⟩
theorem HeapAt.lt (h : HeapAt T e w F p l) : p < w.heap.size := by
  obtain ⟨v, g, h1, _⟩ := h
  exact blk_lt h1
theorem HeapAt.fin (h : HeapAt T e w F p l) : Fin w F := by
  obtain ⟨v, g, _, _, _, _, _, h⟩ := h
  exact h
end

/-- what a step upon a heap makes of it -/
def HStep (T e : TypeId) (w : World) (F : Nat → Prop) (p : Nat) (l' : List It) (w' : World) : Prop := Upd F w w' ∧ HeapAt T e w' (Ext F w w') p l'

def FindPost (w : World) (l : List It) (x : It) (e : Ending) (w' : World) : Prop := Upd Non w w' ∧ e = .returned (.tuple #[.int .i64 (pos l x), .bool (decide (l[pos l x]? = some x))])

/-- are two items one? -/
def eqB (a b : It) : Bool := decide (a = b)
theorem eql33 (a0 a1 a2 a3 a4 a5 b0 b1 b2 b3 b4 b5 : Int) (w : World) :
    (binOp .eql 33 (.agg #[.int .i64 a0, .int .i64 a1, .int .i64 a2, .int .i64 a3, .int .i64 a4, .int .i64 a5]) (.agg #[.int .i64 b0, .int .i64 b1, .int .i64 b2, .int .i64 b3, .int .i64 b4, .int .i64 b5])).run Try.prog w =
      .ok (.bool (eqB ⟨a0, a1, a2, a3, a4, a5⟩ ⟨b0, b1, b2, b3, b4, b5⟩)) w := by
  rw [run_eql_struct]
  go_simp
  unfold eqB
  by_cases h0 : a0 = b0
  · by_cases h1 : a1 = b1
    · by_cases h2 : a2 = b2
      · by_cases h3 : a3 = b3
        · by_cases h4 : a4 = b4
          · by_cases h5 : a5 = b5 <;> simp [h0, h1, h2, h3, h4, h5]
          · simp [h0, h1, h2, h3, h4]
        · simp [h0, h1, h2, h3]
      · simp [h0, h1, h2]
    · simp [h0, h1]
  · simp [h0]
attribute [local go_sem ↓ high] eql33

theorem HeapAt.cell {T e : TypeId} {w : World} {F : Nat → Prop} {p : Nat} {l : List It} (h : HeapAt T e w F p l) : ∃ A c, w.cell? ⟨p, 0, none⟩ = some (.slice A l.length c) ∧ Rd itE w F (.slice A l.length c) l ∧ l.length ≤ c := by
  obtain ⟨v, g, h1, h2, h3, h4, h5, h6⟩ := h
  obtain ⟨A, c, rfl, hc, hm, hA⟩ := h2.shape
  refine ⟨A, c, blk_at h1 0, ?_, hc⟩
  rcases h5 with h5 | h5
  · have : l = [] := by
      rcases h2 with h2 | ⟨c, cs, rest, e1, _⟩
      · exact h2.2
      · rw [h5] at e1; cases e1
    subst this
    rw [h5]
    exact Rd.nil _ _ _
  · exact h2.rd.mono fun q hq => hq.elim (fun h => by rw [h]; exact h5) fun h => h.elim

def cells6 (W : World) (b o : Nat) (y : It) : Prop := W.cell? ⟨b, o, none⟩ = some (.int .i64 y.at_) ∧ W.cell? ⟨b, o + 1, none⟩ = some (.int .i64 y.flow) ∧ W.cell? ⟨b, o + 2, none⟩ = some (.int .i64 y.run) ∧ W.cell? ⟨b, o + 3, none⟩ = some (.int .i64 y.ref) ∧ W.cell? ⟨b, o + 4, none⟩ = some (.int .i64 y.turn) ∧ W.cell? ⟨b, o + 5, none⟩ = some (.int .i64 y.kind)

/-- the order of items, as its laws -/
structure Srt (l : List It) (x : It) : Prop where
  pw : l.Pairwise fun a b => cmpI a b < 0
  mono : ∀ a b : It, cmpI a b < 0 → cmpI b x < 0 → cmpI a x < 0
  many : l.length ≤ 1048576

set_option maxRecDepth 100000 in
set_option maxHeartbeats 4000000 in
theorem find_spec (w : World) (F : Nat → Prop) (p : Nat) (l : List It) (x : It) (h : HeapAt 64 33 w F p l) (hs : Srt l x) :
    Calls Try.prog 29 #[.pointer (some ⟨p, 0, none⟩), .agg x.cells.toArray] w (FindPost w l x) := by
  obtain ⟨A, c, m0, hr, hlc⟩ := h.cell
  have hF := h.fin
  have hpl := h.lt
  have hn := hs.many
  have HB := heap_alloc_new w (.cells x.cells.toArray 33)
  have hu0 : Upd Non w (w.alloc (.cells x.cells.toArray 33)) := (Upd.refl _ _).alloc _
  obtain ⟨W, hW⟩ : ∃ W, W = w.alloc (.cells x.cells.toArray 33) := ⟨_, rfl⟩
  rw [← hW] at HB hu0
  have hls : w.heap.size < W.heap.size := blk_lt HB
  have HS : ∀ W' : World, Upd Non W W' → W'.cell? ⟨p, 0, none⟩ = some (.slice A l.length c) ∧ cells6 W' w.heap.size 0 x := fun W' hw => by
    have hbx : ∀ j, W'.cell? ⟨w.heap.size, j, none⟩ = x.cells[j]? := fun j => by rw [hw.cell (p := ⟨w.heap.size, j, none⟩) hls id, blk_at HB]; simp
    exact ⟨((hu0.trans hw).cell (p := ⟨p, 0, none⟩) hpl id).trans m0, hbx 0, hbx 1, hbx 2, hbx 3, hbx 4, hbx 5⟩
  simp only [cells6, Nat.zero_add] at HS
  have HBS := fun W' (hw : Upd Non W W') => bs_spec W' F (.slice A l.length c) l x (hr.upd (hu0.trans hw) (Upd.fr_non hF)) (hF.upd (hu0.trans hw)) hn hs.pw hs.mono
  simp only [It.cells] at hW HBS ⊢
  clear hs h HB
  go_enter Try.func29, Try.ntmps29
  go_wp2_with fail
  rw [← hW]
  clear hW
  have S0 := HS W.drew ((Upd.refl _ _).drew)
  have HB1 := HBS W.drew ((Upd.refl _ _).drew)
  go_region_held3 (fun W' => W'.cell? ⟨p, 0, none⟩ = some (.slice A l.length c) ∧ W'.cell? ⟨w.heap.size, 0, none⟩ = some (.int .i64 x.at_) ∧ W'.cell? ⟨w.heap.size, 1, none⟩ = some (.int .i64 x.flow) ∧ W'.cell? ⟨w.heap.size, 2, none⟩ = some (.int .i64 x.run) ∧ W'.cell? ⟨w.heap.size, 3, none⟩ = some (.int .i64 x.ref) ∧ W'.cell? ⟨w.heap.size, 4, none⟩ = some (.int .i64 x.turn) ∧ W'.cell? ⟨w.heap.size, 5, none⟩ = some (.int .i64 x.kind))
    (first | exact S0 | exact Sa | go_keep)
    ((go_at_call 39; (with_reducible refine HB1.mono ?_); rintro e wa ⟨hua, rfl⟩; have Sa := HS wa (((Upd.refl _ _).drew).trans hua)))
  have hux : Upd Non w wa := (hu0.drew).trans hua
  have hrw := hr.upd hux (Upd.fr_non hF)
  obtain ⟨k, hk⟩ : ∃ k, pos l x = k := ⟨_, rfl⟩
  have hkl : k ≤ l.length := by rw [← hk]; exact pos_le l x
  rw [hk]
  by_cases hlt : k < l.length
  · obtain ⟨b1, o1, c1, e1, _, _, _, n0, n1, n2, n3, n4, n5⟩ := hrw.it hlt
    cases e1
    obtain ⟨y, hy⟩ : ∃ y, l[k] = y := ⟨_, rfl⟩
    rw [hy] at n0 n1 n2 n3 n4 n5
    have hfin : ∀ w', Upd Non w w' → FindPost w l x (.returned (.tuple #[.int .i64 k, .bool (eqB y x)])) w' := fun w' hw' => by
      refine ⟨hw', ?_⟩
      rw [hk, List.getElem?_eq_getElem hlt, hy]
      simp [eqB]
    obtain ⟨s0, s1, s2, s3, s4, s5, s6⟩ := Sa
    clear hy hk HBS HB1 HS S0
    go_wp2_with fail
    go_quiet (fail)
    go_wp2
    go_ret2
    exact hfin _ (hux.drewN _)
  · have hfin : ∀ w', Upd Non w w' → FindPost w l x (.returned (.tuple #[.int .i64 k, .bool false])) w' := fun w' hw' => by
      refine ⟨hw', ?_⟩
      rw [hk, List.getElem?_eq_none (by omega)]
      simp
    obtain ⟨s0, s1, s2, s3, s4, s5, s6⟩ := Sa
    clear hk HBS HB1 HS S0
    obtain rfl : k = l.length := by omega
    go_wp2_with fail
    go_quiet (fail)
    go_wp2
    go_ret2
    exact hfin _ (hux.drewN _)
end Go.Proofs.Ytnaldifgnpnbhaa
