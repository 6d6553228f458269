/-
  The walks of New, Next, Take, Len, List.
-/
import Derived.Test.YtnaldifgnpnbhaaT7
namespace Go.Proofs.Ytnaldifgnpnbhaa
open Go.RowKit
attribute [local go_sem ↓ high] eql33

theorem HStep.wrap {T e : TypeId} {w w1 w2 w3 : World} {F S : Nat → Prop} {p : Nat} {l' : List It} (hF : Fin w F) (h0 : Upd Non w w1) (h : HStep T e w1 F p l' w2) (h2 : Upd S w2 w3) (hS : ∀ q, S q → w.heap.size ≤ q ∧ q < w1.heap.size) : HStep T e w F p l' w3 := by
  have u1 : Upd F w w2 := (h0.mono fun _ _ h => h.elim).trans h.1
  have u2 : Upd F w w3 := u1.trans' h2 fun x hx hs => by have := (hS x hs).1; omega
  have s0 := h0.size
  have s2 := h2.size
  refine ⟨u2, (h.2.upd h2 fun q hq hs => ?_).mono (fun q hq => hq.elim (fun h => Nat.lt_of_lt_of_le (hF q h) u2.size) fun h => h.2) fun q hq => ?_⟩
  · rcases hq with hq | hq
    · have := hF q hq; have := (hS q hs).1; omega
    · have := hq.1; have := (hS q hs).2; omega
  · rcases hq with hq | hq
    · exact .inl hq
    · exact .inr ⟨by have := hq.1; omega, by have := hq.2; omega⟩

theorem new_spec (w : World) : Calls Try.prog 11 #[] w fun e w' => e = .returned (.pointer (some ⟨w.heap.size, 0, none⟩)) ∧ Upd Non w w' ∧ HeapAt 64 33 w' (fun q => q = w.heap.size) w.heap.size [] := by
  go_enter Try.func11, Try.ntmps11
  go_wp2
  go_ret
  exact ⟨rfl, (Upd.refl _ _).alloc _, .slice none 0 0, w.heap.size + 1, heap_alloc_new w _, Buf.nil _ _ _ _ _, by omega, rfl, .inl rfl, fun q hq => by have hq : q = w.heap.size := hq; simp; omega⟩

theorem len_spec (w : World) (F : Nat → Prop) (p : Nat) (l : List It) (h : HeapAt 64 33 w F p l) : Calls Try.prog 15 #[.pointer (some ⟨p, 0, none⟩)] w fun e w' => e = .returned (.int .i64 l.length) ∧ w = w' := by
  obtain ⟨A, c, c0, _, _⟩ := h.cell
  go_enter Try.func15, Try.ntmps15
  go_wp2
  go_ret
  exact ⟨rfl, rfl⟩

def z0 : It := ⟨0, 0, 0, 0, 0, 0⟩
def headI (l : List It) : It := l.head?.getD z0
def NextPost (w : World) (l : List It) (e : Ending) (w' : World) : Prop := e = .returned (.tuple #[.agg (headI l).cells.toArray, .bool !l.isEmpty]) ∧ Upd Non w w'
set_option maxRecDepth 100000 in
theorem next_spec (w : World) (F : Nat → Prop) (p : Nat) (l : List It) (h : HeapAt 64 33 w F p l) : Calls Try.prog 31 #[.pointer (some ⟨p, 0, none⟩)] w (NextPost w l) := by
  obtain ⟨A, c, c0, hr, _⟩ := h.cell
  have hplt := h.lt
  have c1 : ∀ o, (w.alloc o).cell? ⟨p, 0, none⟩ = some (.slice A l.length c) := fun o => (((Upd.refl Non w).alloc o).cell (p := ⟨p, 0, none⟩) hplt id).trans c0
  cases l with
  | nil =>
    have hfin : ∀ w', Upd Non w w' → NextPost w [] (.returned (.tuple #[.agg #[.int .i64 0, .int .i64 0, .int .i64 0, .int .i64 0, .int .i64 0, .int .i64 0], .bool false])) w' := fun w' hw' => ⟨rfl, hw'⟩
    simp only [List.length_nil] at c1 hr
    clear c0
    go_enter Try.func31, Try.ntmps31
    go_wp2
    exact bodyPost_ret (v := .tuple #[.agg #[.int .i64 0, .int .i64 0, .int .i64 0, .int .i64 0, .int .i64 0, .int .i64 0], .bool false]) (by simp [results, Try.results31, go_sem]) rfl (hfin _ ((Upd.refl _ _).alloc _))
  | cons x xs =>
    obtain ⟨b1, o1, c1', e1, _, _, _, m0, m1, m2, m3, m4, m5⟩ := hr.it (k := 0) (by simp)
    cases e1
    simp only [Nat.zero_mul, Nat.add_zero, List.getElem_cons_zero] at m0 m1 m2 m3 m4 m5
    have hlt := World.block_lt_of_cell? w _ m0
    have hal : ∀ o j, (w.alloc o).cell? ⟨b1, j, none⟩ = w.cell? ⟨b1, j, none⟩ := fun o j => ((Upd.refl Non w).alloc o).cell (p := ⟨b1, j, none⟩) hlt id
    have q0 := fun o => (hal o o1).trans m0
    have q1 := fun o => (hal o (o1 + 1)).trans m1
    have q2 := fun o => (hal o (o1 + 2)).trans m2
    have q3 := fun o => (hal o (o1 + 3)).trans m3
    have q4 := fun o => (hal o (o1 + 4)).trans m4
    have q5 := fun o => (hal o (o1 + 5)).trans m5
    have hfin : ∀ w', Upd Non w w' → NextPost w (x :: xs) (.returned (.tuple #[.agg #[.int .i64 x.at_, .int .i64 x.flow, .int .i64 x.run, .int .i64 x.ref, .int .i64 x.turn, .int .i64 x.kind], .bool true])) w' := fun w' hw' => ⟨rfl, hw'⟩
    simp only [List.length_cons] at c1 hr
    clear c0 hal
    go_enter Try.func31, Try.ntmps31
    go_wp2
    exact bodyPost_ret (v := .tuple #[.agg #[.int .i64 x.at_, .int .i64 x.flow, .int .i64 x.run, .int .i64 x.ref, .int .i64 x.turn, .int .i64 x.kind], .bool true]) (by simp [results, Try.results31, go_sem]) rfl (hfin _ ((Upd.refl _ _).alloc _))

/-- an item is laid at a block's head -/
def set6 (w : World) (b : Nat) (x : It) : World := (((((w.setCell ⟨b, 0, none⟩ (.int .i64 x.at_)).setCell ⟨b, 1, none⟩ (.int .i64 x.flow)).setCell ⟨b, 2, none⟩ (.int .i64 x.run)).setCell ⟨b, 3, none⟩ (.int .i64 x.ref)).setCell ⟨b, 4, none⟩ (.int .i64 x.turn)).setCell ⟨b, 5, none⟩ (.int .i64 x.kind)
theorem set6_upd (w : World) (b : Nat) (x : It) : Upd (fun q => q = b) w (set6 w b x) :=
  (((((Upd.set (S := fun q => q = b) (Upd.refl _ _) (p := ⟨b, 0, none⟩) (.inr rfl) _).set (p := ⟨b, 1, none⟩) (.inr rfl) _).set (p := ⟨b, 2, none⟩) (.inr rfl) _).set (p := ⟨b, 3, none⟩) (.inr rfl) _).set (p := ⟨b, 4, none⟩) (.inr rfl) _).set (p := ⟨b, 5, none⟩) (.inr rfl) _
theorem set6_blk {w : World} {b : Nat} {y : It} (x : It) (h : w.heap[b]? = some (.cells y.cells.toArray 33 (0, 0))) : (set6 w b x).heap[b]? = some (.cells x.cells.toArray 33 (0, 0)) := by
  have := blk_set (blk_set (blk_set (blk_set (blk_set (blk_set h 0 (.int .i64 x.at_)) 1 (.int .i64 x.flow)) 2 (.int .i64 x.run)) 3 (.int .i64 x.ref)) 4 (.int .i64 x.turn)) 5 (.int .i64 x.kind)
  simpa [It.cells, set6] using this
theorem set6_size (w : World) (b : Nat) (x : It) : (set6 w b x).heap.size = w.heap.size := by simp [set6, World.setCell]

/-- what is taken, whether there is, what is left -/
def takeR (l : List It) (now : Int) : It × Bool × List It := match l with
  | [] => (z0, false, [])
  | x :: xs => if now < x.at_ then (z0, false, x :: xs) else (x, true, (remR (x :: xs) x).2)
def TakePost (w : World) (F : Nat → Prop) (p : Nat) (l : List It) (now : Int) (e : Ending) (w' : World) : Prop :=
  e = .returned (.tuple #[.agg (takeR l now).1.cells.toArray, .bool (takeR l now).2.1]) ∧ HStep 64 33 w F p (takeR l now).2.2 w'
set_option maxRecDepth 100000 in
set_option maxHeartbeats 1000000 in
theorem take_spec (w : World) (F : Nat → Prop) (p : Nat) (l : List It) (now : Int) (h : HeapAt 64 33 w F p l) (hs : ∀ x ∈ l, Srt l x) :
    Calls Try.prog 13 #[.pointer (some ⟨p, 0, none⟩), .int .i64 now] w (TakePost w F p l now) := by
  have hF := h.fin
  have hu0 : Upd Non w (w.alloc (.cells #[.int .i64 0, .int .i64 0, .int .i64 0, .int .i64 0, .int .i64 0, .int .i64 0] 33)) := (Upd.refl _ _).alloc _
  have HN := next_spec (w.alloc (.cells #[.int .i64 0, .int .i64 0, .int .i64 0, .int .i64 0, .int .i64 0, .int .i64 0] 33)) F p l (h.upd hu0 fun _ _ h => h)
  have r0 : ∀ W', Upd Non (w.alloc (.cells #[.int .i64 0, .int .i64 0, .int .i64 0, .int .i64 0, .int .i64 0, .int .i64 0] 33)) W' → W'.heap[w.heap.size]? = some (.cells #[.int .i64 0, .int .i64 0, .int .i64 0, .int .i64 0, .int .i64 0, .int .i64 0] 33 (0, 0)) := fun W' hw => (hw.block _ (by simp) id).trans (heap_alloc_new w _)
  have hz1 : (w.alloc (.cells #[.int .i64 0, .int .i64 0, .int .i64 0, .int .i64 0, .int .i64 0, .int .i64 0] 33)).heap.size = w.heap.size + 1 := by simp
  cases l with
  | nil =>
    have hfin : ∀ w', Upd Non w w' → TakePost w F p [] now (.returned (.tuple #[.agg #[.int .i64 0, .int .i64 0, .int .i64 0, .int .i64 0, .int .i64 0, .int .i64 0], .bool false])) w' := fun w' hw' => ⟨rfl, h.ext hw'⟩
    unfold NextPost at HN
    simp only [headI, List.head?_nil, Option.getD_none, z0, It.cells, List.isEmpty_nil, Bool.not_true] at HN
    go_enter Try.func13, Try.ntmps13
    go_wp2_with fail
    refine HN.mono ?_
    rintro e w1 ⟨rfl, hu1⟩
    have rr := r0 w1 hu1
    have hlt := blk_lt rr
    have g0 : w1.cell? ⟨w.heap.size, 0, none⟩ = some (.int .i64 0) := blk_at rr 0
    have g1 : w1.cell? ⟨w.heap.size, 1, none⟩ = some (.int .i64 0) := blk_at rr 1
    have g2 : w1.cell? ⟨w.heap.size, 2, none⟩ = some (.int .i64 0) := blk_at rr 2
    have g3 : w1.cell? ⟨w.heap.size, 3, none⟩ = some (.int .i64 0) := blk_at rr 3
    have g4 : w1.cell? ⟨w.heap.size, 4, none⟩ = some (.int .i64 0) := blk_at rr 4
    have g5 : w1.cell? ⟨w.heap.size, 5, none⟩ = some (.int .i64 0) := blk_at rr 5
    have f0 := fun i => blk_free rr i
    have hU : ∀ o, Upd Non w ((set6 w1 w.heap.size z0).alloc o) := fun o => ((hu0.trans hu1).trans' (set6_upd w1 w.heap.size z0) (fun x hx e => by have e : x = w.heap.size := e; omega)).alloc o
    have hK : ∀ o j, ((set6 w1 w.heap.size z0).alloc o).cell? ⟨w.heap.size, j, none⟩ = z0.cells[j]? := fun o j => by
      have hb := set6_blk z0 (y := z0) rr
      rw [((Upd.refl Non _).alloc o).cell (p := ⟨w.heap.size, j, none⟩) (blk_lt hb) id, blk_at hb]; simp
    have hK' := fun o => And.intro (hK o 0) (And.intro (hK o 1) (And.intro (hK o 2) (And.intro (hK o 3) (And.intro (hK o 4) (hK o 5)))))
    clear hK
    simp only [set6, z0, It.cells] at hU hK'
    go_wp2
    exact bodyPost_ret (v := .tuple #[.agg #[.int .i64 0, .int .i64 0, .int .i64 0, .int .i64 0, .int .i64 0, .int .i64 0], .bool false]) (by simp [results, Try.results13, go_sem, hK']) rfl (hfin _ (hU _))
  | cons x xs =>
    have hsx := hs x (by simp)
    unfold NextPost at HN
    simp only [headI, List.head?_cons, Option.getD_some, It.cells, List.isEmpty_cons, Bool.not_false] at HN
    by_cases hnow : now < x.at_
    · have htk : takeR (x :: xs) now = (z0, false, x :: xs) := by rw [takeR, if_pos hnow]
      have hfin : ∀ w', Upd Non w w' → TakePost w F p (x :: xs) now (.returned (.tuple #[.agg #[.int .i64 0, .int .i64 0, .int .i64 0, .int .i64 0, .int .i64 0, .int .i64 0], .bool false])) w' := fun w' hw' => by
        unfold TakePost
        rw [htk]
        exact ⟨rfl, h.ext hw'⟩
      clear htk hsx hs
      go_enter Try.func13, Try.ntmps13
      go_wp2_with fail
      refine HN.mono ?_
      rintro e w1 ⟨rfl, hu1⟩
      have rr := r0 w1 hu1
      have hlt := blk_lt rr
      have g0 : w1.cell? ⟨w.heap.size, 0, none⟩ = some (.int .i64 0) := blk_at rr 0
      have g1 : w1.cell? ⟨w.heap.size, 1, none⟩ = some (.int .i64 0) := blk_at rr 1
      have g2 : w1.cell? ⟨w.heap.size, 2, none⟩ = some (.int .i64 0) := blk_at rr 2
      have g3 : w1.cell? ⟨w.heap.size, 3, none⟩ = some (.int .i64 0) := blk_at rr 3
      have g4 : w1.cell? ⟨w.heap.size, 4, none⟩ = some (.int .i64 0) := blk_at rr 4
      have g5 : w1.cell? ⟨w.heap.size, 5, none⟩ = some (.int .i64 0) := blk_at rr 5
      have f0 := fun i => blk_free rr i
      have hU : ∀ o, Upd Non w ((set6 w1 w.heap.size z0).alloc o) := fun o => ((hu0.trans hu1).trans' (set6_upd w1 w.heap.size z0) (fun x hx e => by have e : x = w.heap.size := e; omega)).alloc o
      have hK : ∀ o j, ((set6 w1 w.heap.size z0).alloc o).cell? ⟨w.heap.size, j, none⟩ = z0.cells[j]? := fun o j => by
        have hb := set6_blk z0 (y := z0) rr
        rw [((Upd.refl Non _).alloc o).cell (p := ⟨w.heap.size, j, none⟩) (blk_lt hb) id, blk_at hb]; simp
      have hK' := fun o => And.intro (hK o 0) (And.intro (hK o 1) (And.intro (hK o 2) (And.intro (hK o 3) (And.intro (hK o 4) (hK o 5)))))
      clear hK
      simp only [set6, z0, It.cells] at hU hK'
      go_wp2
      exact bodyPost_ret (v := .tuple #[.agg #[.int .i64 0, .int .i64 0, .int .i64 0, .int .i64 0, .int .i64 0, .int .i64 0], .bool false]) (by simp [results, Try.results13, go_sem, hK']) rfl (hfin _ (hU _))
    · have htk : takeR (x :: xs) now = (x, true, (remR (x :: xs) x).2) := by rw [takeR, if_neg hnow]
      have hfin : ∀ w', HStep 64 33 w F p (remR (x :: xs) x).2 w' → TakePost w F p (x :: xs) now (.returned (.tuple #[.agg #[.int .i64 x.at_, .int .i64 x.flow, .int .i64 x.run, .int .i64 x.ref, .int .i64 x.turn, .int .i64 x.kind], .bool true])) w' := fun w' hw' => by
        unfold TakePost
        rw [htk]
        exact ⟨rfl, hw'⟩
      have HR := fun W' (hw : Upd Non w W') => remove_spec W' F p (x :: xs) x (h.upd hw fun _ _ h => h) hsx
      simp only [It.cells] at HR
      clear htk hsx hs
      go_enter Try.func13, Try.ntmps13
      go_wp2_with fail
      refine HN.mono ?_
      rintro e w1 ⟨rfl, hu1⟩
      have rr := r0 w1 hu1
      have hux : Upd Non w w1 := hu0.trans hu1
      have hux2 : Upd Non w (w1.alloc (.cells x.cells.toArray 33)) := hux.alloc _
      have hlt := blk_lt rr
      have r2 : (w1.alloc (.cells x.cells.toArray 33)).heap[w1.heap.size]? = some (.cells x.cells.toArray 33 (0, 0)) := heap_alloc_new w1 _
      have r1 : (w1.alloc (.cells x.cells.toArray 33)).heap[w.heap.size]? = some (.cells #[.int .i64 0, .int .i64 0, .int .i64 0, .int .i64 0, .int .i64 0, .int .i64 0] 33 (0, 0)) := (Below.heap_alloc w1 _ _ hlt).trans rr
      have hs2 : (w1.alloc (.cells x.cells.toArray 33)).heap.size = w1.heap.size + 1 := by simp
      have HR2 := HR _ hux2
      clear HR
      simp only [It.cells] at hux2 r1 r2 HR2 hs2
      go_wp2_with fail
      refine HR2.mono ?_
      rintro e w3 ⟨rfl, hst⟩
      have hnF : ∀ q, w.heap.size ≤ q → ¬ F q := fun q hq hf => by have := hF q hf; omega
      have q1 := (hst.1.block w.heap.size (by omega) (hnF _ (Nat.le_refl _))).trans r1
      have q2 := (hst.1.block w1.heap.size (by omega) (hnF _ (by omega))).trans r2
      generalize (w1.alloc (.cells #[.int .i64 x.at_, .int .i64 x.flow, .int .i64 x.run, .int .i64 x.ref, .int .i64 x.turn, .int .i64 x.kind] 33)) = W2 at hst hux2 r1 r2 hs2
      have g0 : w3.cell? ⟨w.heap.size, 0, none⟩ = some (.int .i64 0) := blk_at q1 0
      have g1 : w3.cell? ⟨w.heap.size, 1, none⟩ = some (.int .i64 0) := blk_at q1 1
      have g2 : w3.cell? ⟨w.heap.size, 2, none⟩ = some (.int .i64 0) := blk_at q1 2
      have g3 : w3.cell? ⟨w.heap.size, 3, none⟩ = some (.int .i64 0) := blk_at q1 3
      have g4 : w3.cell? ⟨w.heap.size, 4, none⟩ = some (.int .i64 0) := blk_at q1 4
      have g5 : w3.cell? ⟨w.heap.size, 5, none⟩ = some (.int .i64 0) := blk_at q1 5
      have k0 : w3.cell? ⟨w1.heap.size, 0, none⟩ = some (.int .i64 x.at_) := blk_at q2 0
      have k1 : w3.cell? ⟨w1.heap.size, 1, none⟩ = some (.int .i64 x.flow) := blk_at q2 1
      have k2 : w3.cell? ⟨w1.heap.size, 2, none⟩ = some (.int .i64 x.run) := blk_at q2 2
      have k3 : w3.cell? ⟨w1.heap.size, 3, none⟩ = some (.int .i64 x.ref) := blk_at q2 3
      have k4 : w3.cell? ⟨w1.heap.size, 4, none⟩ = some (.int .i64 x.turn) := blk_at q2 4
      have k5 : w3.cell? ⟨w1.heap.size, 5, none⟩ = some (.int .i64 x.kind) := blk_at q2 5
      have f0 := fun i => blk_free q1 i
      have hU : HStep 64 33 w F p (remR (x :: xs) x).2 (set6 w3 w.heap.size x) := HStep.wrap hF hux2 hst (set6_upd w3 w.heap.size x) (fun q hq => by have hq : q = w.heap.size := hq; omega)
      have hK : ∀ j, (set6 w3 w.heap.size x).cell? ⟨w.heap.size, j, none⟩ = x.cells[j]? := fun j => by
        have hb := set6_blk x (y := z0) q1
        rw [blk_at hb]; simp
      have hK' := And.intro (hK 0) (And.intro (hK 1) (And.intro (hK 2) (And.intro (hK 3) (And.intro (hK 4) (hK 5)))))
      clear hK
      have hfin2 := hfin _ hU
      simp only [set6, It.cells] at hfin2 hK'
      clear hfin hU
      go_wp2
      exact bodyPost_ret (v := .tuple #[.agg #[.int .i64 x.at_, .int .i64 x.flow, .int .i64 x.run, .int .i64 x.ref, .int .i64 x.turn, .int .i64 x.kind], .bool true]) (by simp [results, Try.results13, go_sem, hK']) rfl hfin2
end Go.Proofs.Ytnaldifgnpnbhaa
