/-
  The reference's heap.
-/
import Derived.Test.YtnaldifgnpnbhaaT17
import Derived.Test.YtnaldifgnpnbhaaT18
namespace Go.Proofs.Ytnaldifgnpnbhaa
open Go.RowKit
/-! ### scratch slices: made since w -/
section
variable {α : Type} {E : Elt α} {e : TypeId}
theorem scr_new {w W w2 : World} (hu : Upd Non w W) {v : Value} {ys : List α} (h : Own E e w2 (fun k => Non k ∨ Non k ∨ New W w2 k) v ys) : Own E e w2 (New w w2) v ys :=
  h.mono fun k hk => by
    rcases hk with h | h | h
    · exact h.elim
    · exact h.elim
    · exact ⟨by have := h.1; have := hu.size; omega, h.2⟩
theorem scr_next2 {w w2 W w3 : World} (hu2 : Upd Non w w2) (hW : Upd Non w2 W) (hu3 : Upd (New w w2) W w3) {v : Value} {ys : List α} (h : Own E e w3 (fun k => New w w2 k ∨ Non k ∨ New W w3 k) v ys) : Upd Non w w3 ∧ Own E e w3 (New w w3) v ys := by
  refine ⟨(hu2.trans hW).trans' hu3 fun x hx h => by have := h.1; omega, h.mono fun k hk => ?_⟩
  have := hu2.size
  have := hu3.size
  have := hW.size
  rcases hk with h | h | h
  · exact ⟨h.1, by have := h.2; omega⟩
  · exact h.elim
  · exact ⟨by have := h.1; omega, h.2⟩
theorem scr_next {w w2 w3 : World} (hu2 : Upd Non w w2) (hu3 : Upd (New w w2) w2 w3) {v : Value} {ys : List α} (h : Own E e w3 (fun k => New w w2 k ∨ Non k ∨ New w2 w3 k) v ys) : Upd Non w w3 ∧ Own E e w3 (New w w3) v ys :=
  scr_next2 hu2 (Upd.refl _ _) hu3 h
end
theorem info40 : (Try.prog.info? 40).map (fun i => (i.zero, i.size, i.bytes)) = some (some (.agg #[.int .i64 0, .int .i64 0, .int .i64 0, .int .i64 0, .int .i64 0, .int .i64 0]), itE.sz, 48) := by kernel_rfl
/-- the reference's heap -/
def RHp (w : World) (F : Nat → Prop) (p : Nat) (l : List It) : Prop := ∃ v, w.heap[p]? = some (.cells #[v] 51 (0, 0)) ∧ Own itE 40 w F v l ∧ ¬ F p ∧ Fin w F
theorem RHp.cells {w : World} {F : Nat → Prop} {p : Nat} {l : List It} (h : RHp w F p l) : ∃ A c, w.heap[p]? = some (.cells #[.slice A l.length c] 51 (0, 0)) ∧ l.length ≤ c ∧ c ≤ maxLen ∧ Rd itE w F (.slice A l.length c) l := by
  obtain ⟨v, hb, ho, _⟩ := h
  obtain ⟨A, c, rfl, hc, hm⟩ := ho.shape
  exact ⟨A, c, hb, hc, hm, ho.rd⟩
theorem RHp.upd {S F : Nat → Prop} {w w' : World} {p : Nat} {l : List It} (h : RHp w F p l) (hu : Upd S w w') (hp : ¬ S p) (hF : ∀ k, F k → ¬ S k) : RHp w' F p l := by
  obtain ⟨v, hb, ho, hn, hfin⟩ := h
  exact ⟨v, (hu.block p (blk_lt hb) hp).trans hb, ho.upd hu fun k hk => ⟨hfin k hk, hF k hk⟩, hn, hfin.upd hu⟩
theorem RHp.lt {w : World} {F : Nat → Prop} {p : Nat} {l : List It} (h : RHp w F p l) : p < w.heap.size := blk_lt h.choose_spec.1
/-- what a call of the reference's leaves: the heap, and what is new -/
def RStep (w : World) (F : Nat → Prop) (p : Nat) (l : List It) (w' : World) : Prop := Upd (fun x => x = p) w w' ∧ ∃ F', RHp w' F' p l ∧ ∀ k, F' k → F k ∨ New w w' k
theorem RStep.same {w w' : World} {F : Nat → Prop} {p : Nat} {l : List It} (h : RHp w F p l) (hu : Upd Non w w') : RStep w F p l w' :=
  ⟨hu.mono fun _ _ h => h.elim, F, h.upd hu id fun _ _ => id, fun _ hk => .inl hk⟩
/-- a new row is laid into the heap; W: what the call has reached -/
theorem rh_lay {w W w3 : World} {F : Nat → Prop} {p : Nat} {v0 v : Value} {l : List It} (hW : Upd Non w W) (hb : W.heap[p]? = some (.cells #[v0] 51 (0, 0))) (hp : p < w.heap.size) (hu : Upd Non W w3) (ho : Own itE 40 w3 (New W w3) v l) : RStep w F p l (w3.setCell ⟨p, 0, none⟩ v) := by
  have hs : Upd (fun x => x = p) w3 (w3.setCell ⟨p, 0, none⟩ v) := Upd.set (S := fun x => x = p) (Upd.refl _ w3) (p := ⟨p, 0, none⟩) (.inr rfl) _
  have hsz : (w3.setCell ⟨p, 0, none⟩ v).heap.size = w3.heap.size := by simp [World.setCell]
  have hWs := hW.size
  have hnp : ∀ k, New W w3 k → ¬ k = p := fun k hk e => by have := hk.1; omega
  refine ⟨((hW.trans hu).mono fun _ _ h => h.elim).trans hs, New W w3, ⟨v, ?_, ho.upd hs fun k hk => ⟨hk.2, hnp k hk⟩, fun h => hnp p h rfl, fun k hk => by rw [hsz]; exact hk.2⟩, fun k hk => .inr ⟨by have := hk.1; omega, by rw [hsz]; exact hk.2⟩⟩
  have := blk_set ((hu.block p (blk_lt hb) id).trans hb) 0 v
  simpa using this
theorem eql40 (a0 a1 a2 a3 a4 a5 b0 b1 b2 b3 b4 b5 : Int) (w : World) :
    (binOp .eql 40 (.agg #[.int .i64 a0, .int .i64 a1, .int .i64 a2, .int .i64 a3, .int .i64 a4, .int .i64 a5]) (.agg #[.int .i64 b0, .int .i64 b1, .int .i64 b2, .int .i64 b3, .int .i64 b4, .int .i64 b5])).run Try.prog w =
      .ok (.bool (eqB ⟨a0, a1, a2, a3, a4, a5⟩ ⟨b0, b1, b2, b3, b4, b5⟩)) w := by
  rw [run_eql_struct]
  go_simp
  unfold eqB
  by_cases h0 : a0 = b0
  · by_cases h1 : a1 = b1
    · by_cases h2 : a2 = b2
      · by_cases h3 : a3 = b3
        · by_cases h4 : a4 = b4
          · by_cases h5 : a5 = b5 <;> simp [h0, h1, h2, h3, h4, h5]
          · simp [h0, h1, h2, h3, h4]
        · simp [h0, h1, h2, h3]
      · simp [h0, h1, h2]
    · simp [h0, h1]
  · simp [h0]
theorem neq40 (a0 a1 a2 a3 a4 a5 b0 b1 b2 b3 b4 b5 : Int) (w : World) :
    (binOp .neq 40 (.agg #[.int .i64 a0, .int .i64 a1, .int .i64 a2, .int .i64 a3, .int .i64 a4, .int .i64 a5]) (.agg #[.int .i64 b0, .int .i64 b1, .int .i64 b2, .int .i64 b3, .int .i64 b4, .int .i64 b5])).run Try.prog w =
      .ok (.bool (!eqB ⟨a0, a1, a2, a3, a4, a5⟩ ⟨b0, b1, b2, b3, b4, b5⟩)) w := by
  rw [run_neq_struct]
  go_simp
  unfold eqB
  by_cases h0 : a0 = b0
  · by_cases h1 : a1 = b1
    · by_cases h2 : a2 = b2
      · by_cases h3 : a3 = b3
        · by_cases h4 : a4 = b4
          · by_cases h5 : a5 = b5 <;> simp [h0, h1, h2, h3, h4, h5]
          · simp [h0, h1, h2, h3, h4]
        · simp [h0, h1, h2, h3]
      · simp [h0, h1, h2]
    · simp [h0, h1]
  · simp [h0]
set_option maxRecDepth 100000 in
theorem rnext_spec (w : World) (F : Nat → Prop) (p : Nat) (l : List It) (h : RHp w F p l) : Calls Try.prog 37 #[.pointer (some ⟨p, 0, none⟩)] w (NextPost w l) := by
  obtain ⟨A, c, hb0, _, _, hr⟩ := h.cells
  have c0 : w.cell? ⟨p, 0, none⟩ = some (.slice A l.length c) := blk_at hb0 0
  have hplt := h.lt
  have c1 : ∀ o, (w.alloc o).cell? ⟨p, 0, none⟩ = some (.slice A l.length c) := fun o => (((Upd.refl Non w).alloc o).cell (p := ⟨p, 0, none⟩) hplt id).trans c0
  cases l with
  | nil =>
    have hfin : ∀ w', Upd Non w w' → NextPost w [] (.returned (.tuple #[.agg #[.int .i64 0, .int .i64 0, .int .i64 0, .int .i64 0, .int .i64 0, .int .i64 0], .bool false])) w' := fun w' hw' => ⟨rfl, hw'⟩
    simp only [List.length_nil] at c1 hr
    clear c0
    go_enter Try.func37, Try.ntmps37
    go_wp2
    exact bodyPost_ret (v := .tuple #[.agg #[.int .i64 0, .int .i64 0, .int .i64 0, .int .i64 0, .int .i64 0, .int .i64 0], .bool false]) (by simp [results, Try.results37, go_sem]) rfl (hfin _ ((Upd.refl _ _).alloc _))
  | cons x xs =>
    obtain ⟨b1, o1, c1', e1, _, _, _, m0, m1, m2, m3, m4, m5⟩ := hr.it (k := 0) (by simp)
    cases e1
    simp only [Nat.zero_mul, Nat.add_zero, List.getElem_cons_zero] at m0 m1 m2 m3 m4 m5
    have hlt := World.block_lt_of_cell? w _ m0
    have hal : ∀ o j, (w.alloc o).cell? ⟨b1, j, none⟩ = w.cell? ⟨b1, j, none⟩ := fun o j => ((Upd.refl Non w).alloc o).cell (p := ⟨b1, j, none⟩) hlt id
    have q0 := fun o => (hal o o1).trans m0
    have q1 := fun o => (hal o (o1 + 1)).trans m1
    have q2 := fun o => (hal o (o1 + 2)).trans m2
    have q3 := fun o => (hal o (o1 + 3)).trans m3
    have q4 := fun o => (hal o (o1 + 4)).trans m4
    have q5 := fun o => (hal o (o1 + 5)).trans m5
    have hfin : ∀ w', Upd Non w w' → NextPost w (x :: xs) (.returned (.tuple #[.agg #[.int .i64 x.at_, .int .i64 x.flow, .int .i64 x.run, .int .i64 x.ref, .int .i64 x.turn, .int .i64 x.kind], .bool true])) w' := fun w' hw' => ⟨rfl, hw'⟩
    simp only [List.length_cons] at c1 hr
    clear c0 hal
    go_enter Try.func37, Try.ntmps37
    go_wp2
    exact bodyPost_ret (v := .tuple #[.agg #[.int .i64 x.at_, .int .i64 x.flow, .int .i64 x.run, .int .i64 x.ref, .int .i64 x.turn, .int .i64 x.kind], .bool true]) (by simp [results, Try.results37, go_sem]) rfl (hfin _ ((Upd.refl _ _).alloc _))

end Go.Proofs.Ytnaldifgnpnbhaa
