/-
  The walks of Add and Remove.
-/
import Derived.Test.YtnaldifgnpnbhaaT6
namespace Go.Proofs.Ytnaldifgnpnbhaa
open Go.RowKit

def addR (l : List It) (x : It) : Bool × List It := if l[pos l x]? = some x then (false, l) else (true, l.take (pos l x) ++ x :: l.drop (pos l x))
def remR (l : List It) (x : It) : Bool × List It := if l[pos l x]? = some x then (true, l.take (pos l x) ++ l.drop (pos l x + 1)) else (false, l)

theorem HeapAt.ext {T e : TypeId} {w w' : World} {F : Nat → Prop} {p : Nat} {l : List It} (h : HeapAt T e w F p l) (hu : Upd Non w w') : HStep T e w F p l w' :=
  ⟨hu.mono fun _ _ h => h.elim, (h.upd hu fun _ _ h => h).mono (fun q hq => hq.elim (fun h' => Nat.lt_of_lt_of_le (h.fin q h') hu.size) fun h' => h'.2) fun _ => .inl⟩

/-- a new slice is laid into the heap's struct -/
theorem HeapAt.lay {T e : TypeId} {w W w1 : World} {F : Nat → Prop} {p g g' : Nat} {v v' : Value} {l' : List It} (hF : Fin w F) (hp : F p) (hc : w.heap[p]? = some (.cells #[v] T (0, 0))) (hpg : p ≠ g) (hg : W.heap.size ≤ g ∨ F g)
    (hW : Upd Non w W) (h1 : Upd (fun q => q = g) W w1) (hb : Buf itE e w1 g' Non v' l') (hg' : g' = g ∨ New W w1 g') : HStep T e w F p l' (w1.setCell ⟨p, 0, none⟩ v') := by
  have hpl := blk_lt hc
  have hs1 := h1.size
  have hs := hW.size
  have hp1 : w1.heap[p]? = some (.cells #[v] T (0, 0)) := (h1.block p (Nat.lt_of_lt_of_le hpl hs) hpg).trans ((hW.block p hpl id).trans hc)
  have hp2 := blk_set hp1 0 v'
  have hsz : (w1.setCell ⟨p, 0, none⟩ v').heap.size = w1.heap.size := by simp [World.setCell]
  have hu1 : Upd F w w1 := (hW.mono fun _ _ h => h.elim).trans' h1 fun x hx e => by
    have e : x = g := e
    rcases hg with h | h
    · omega
    · rw [e]; exact h
  have hu2 : Upd F w (w1.setCell ⟨p, 0, none⟩ v') := hu1.set (.inr hp) _
  have hpg' : p ≠ g' := by
    rcases hg' with h | h
    · rw [h]; exact hpg
    · have := h.1; omega
  refine ⟨hu2, v', g', by simpa using hp2, hb.upd' (S := fun q => q = p) (Upd.set (S := fun q => q = p) (Upd.refl _ _) (p := ⟨p, 0, none⟩) (.inr rfl) v') (fun h => hpg' h.symm) (fun k hk => hk.elim), hpg', .inl hp, ?_, fun q hq => hq.elim (fun h => Nat.lt_of_lt_of_le (hF q h) hu2.size) fun h => h.2⟩
  rcases hb with hb | ⟨c, cs, rest, e1, e2, _⟩
  · exact .inl hb.1
  · have hlt := blk_lt e2
    refine .inr ?_
    rcases hg' with h | h
    · rcases hg with h' | h'
      · exact .inr ⟨by omega, by rw [hsz]; exact hlt⟩
      · exact .inl (by rw [h]; exact h')
    · exact .inr ⟨by have := h.1; omega, by rw [hsz]; exact h.2⟩

theorem HeapAt.block {T e : TypeId} {w : World} {F : Nat → Prop} {p : Nat} {l : List It} (h : HeapAt T e w F p l) :
    ∃ v, w.heap[p]? = some (.cells #[v] T (0, 0)) ∧ F p ∧ ∀ W, Upd Non w W → ∀ M, W.heap.size ≤ M → ∃ g, p ≠ g ∧ (W.heap.size ≤ g ∨ F g) ∧ Buf itE e W g Non v l ∧ (g = M ∨ F g) := by
  obtain ⟨v, g, r1, r2, r3, r4, r5, r6⟩ := h
  refine ⟨v, r1, r4, fun W hW M hM => ?_⟩
  rcases r5 with r5 | r5
  · have hl : l = [] := by
      rcases r2 with r2 | ⟨c, cs, rest, e1, _⟩
      · exact r2.2
      · rw [r5] at e1; cases e1
    have := blk_lt r1
    have := hW.size
    refine ⟨M, by omega, .inl hM, ?_, .inl rfl⟩
    rw [hl, r5]
    exact Buf.nil _ _ _ _ _
  · exact ⟨g, r3, .inr r5, r2.upd' hW id (fun k hk => hk.elim), .inr r5⟩

def AddPost (w : World) (F : Nat → Prop) (p : Nat) (l : List It) (x : It) (e : Ending) (w' : World) : Prop := e = .returned (.bool (addR l x).1) ∧ HStep 64 33 w F p (addR l x).2 w'

set_option maxRecDepth 100000 in
set_option maxHeartbeats 4000000 in
theorem add_spec (w : World) (F : Nat → Prop) (p : Nat) (l : List It) (x : It) (h : HeapAt 64 33 w F p l) (hs : Srt l x) (hx : x.wf) :
    Calls Try.prog 12 #[.pointer (some ⟨p, 0, none⟩), .agg x.cells.toArray] w (AddPost w F p l x) := by
  have HB := heap_alloc_new w (.cells x.cells.toArray 33)
  have hu0 : Upd Non w (w.alloc (.cells x.cells.toArray 33)) := (Upd.refl _ _).alloc _
  obtain ⟨W, hW⟩ : ∃ W, W = w.alloc (.cells x.cells.toArray 33) := ⟨_, rfl⟩
  rw [← hW] at HB hu0
  have hls : w.heap.size < W.heap.size := blk_lt HB
  have hbx : ∀ W', Upd Non W W' → cells6 W' w.heap.size 0 x := fun W' hw => by
    have hbx : ∀ j, W'.cell? ⟨w.heap.size, j, none⟩ = x.cells[j]? := fun j => by rw [hw.cell (p := ⟨w.heap.size, j, none⟩) hls id, blk_at HB]; simp
    exact ⟨hbx 0, hbx 1, hbx 2, hbx 3, hbx 4, hbx 5⟩
  have HFD := find_spec W F p l x (h.upd hu0 fun _ _ h => h) hs
  simp only [cells6, Nat.zero_add] at hbx
  obtain ⟨b0, b1, b2, b3, b4, b5⟩ := hbx W (Upd.refl _ _)
  by_cases his : l[pos l x]? = some x
  · have hfin : ∀ w', Upd Non w w' → AddPost w F p l x (.returned (.bool false)) w' := fun w' hw' => by
      unfold AddPost addR
      rw [if_pos his]
      exact ⟨rfl, h.ext hw'⟩
    have hd : decide (l[pos l x]? = some x) = true := decide_eq_true his
    unfold FindPost at HFD
    rw [hd] at HFD
    simp only [It.cells] at hW HFD ⊢
    clear his hd hs HB
    go_enter Try.func12, Try.ntmps12
    go_wp2_with fail
    rw [← hW]
    clear hW
    refine HFD.mono ?_
    rintro e w1 ⟨hu1, rfl⟩
    go_wp2
    go_ret
    exact hfin _ (hu0.trans hu1)
  · have hd : decide (l[pos l x]? = some x) = false := decide_eq_false his
    have hpl := pos_le l x
    have hn := hs.many
    have hadd : addR l x = (true, l.take (pos l x) ++ x :: l.drop (pos l x)) := by unfold addR; rw [if_neg his]
    unfold FindPost at HFD
    rw [hd] at HFD
    generalize pos l x = k at HFD hpl hadd
    have hF := h.fin
    obtain ⟨v, r1, hFp, hblk⟩ := h.block
    obtain ⟨A, c, c0, _, hlc⟩ := h.cell
    have hev : v = .slice A l.length c := by have := blk_at r1 0; rw [c0] at this; simpa using this.symm
    subst hev
    have hplt := h.lt
    have hins : ∀ W' g, Upd Non w W' → W'.heap[g]? = some (.cells x.cells.toArray 33 (0, 0)) → w.heap.size ≤ g → g < W'.heap.size →
        Calls Try.prog 30 #[.slice A l.length c, .int .i64 k, .slice (some ⟨g, 0, none⟩) 1 1] W' fun e w1 => ∃ A' n' c', e = .returned (.slice A' n' c') ∧ w1.cell? ⟨p, 0, none⟩ = some (.slice A l.length c) ∧ w1.frozen? ⟨p, 0, none⟩ = false ∧ HStep 64 33 w F p (addR l x).2 (w1.setCell ⟨p, 0, none⟩ (.slice A' n' c')) := fun W' vb hW' hvb hge hlt => by
      obtain ⟨g, hpg, hgg, hbuf, hgM⟩ := hblk W' hW' W'.heap.size (Nat.le_refl _)
      refine (insert_spec W' g vb k l x _ x.cells ⟨rfl, hx⟩ hvb (by rcases hgM with h | h; omega; have := hF g h; omega) hbuf hpl hn).mono ?_
      rintro e w1 ⟨v', g', rfl, hu, hb', hg'⟩
      have hp1 := (hu.block p (Nat.lt_of_lt_of_le hplt hW'.size) hpg).trans ((hW'.block p hplt id).trans r1)
      obtain ⟨A', c', rfl, _⟩ := hb'.shape
      refine ⟨_, _, _, rfl, by rw [blk_at hp1]; rfl, blk_free hp1 0, ?_⟩
      rw [hadd]
      exact HeapAt.lay hF hFp r1 hpg hgg hW' hu hb' hg'
    simp only [It.cells] at hW HFD hins ⊢
    clear his hd hs HB hblk r1
    go_enter Try.func12, Try.ntmps12
    go_wp2_with fail
    rw [← hW]
    clear hW
    refine HFD.mono ?_
    rintro e w1 ⟨hu1, rfl⟩
    have hux := hu0.trans hu1
    obtain ⟨b0, b1, b2, b3, b4, b5⟩ := hbx w1 hu1
    have c1 : w1.cell? ⟨p, 0, none⟩ = some (.slice A l.length c) := (hux.cell (p := ⟨p, 0, none⟩) hplt id).trans c0
    have hall : w.heap.size < w1.heap.size := Nat.lt_of_lt_of_le hls hu1.size
    have c1a : ∀ o, (w1.alloc o).cell? ⟨p, 0, none⟩ = some (.slice A l.length c) := fun o => ((hux.alloc o).cell (p := ⟨p, 0, none⟩) hplt id).trans c0
    clear hbx HFD
    have hsw := hux.size
    have HI := hins (w1.alloc (.cells #[.int .i64 x.at_, .int .i64 x.flow, .int .i64 x.run, .int .i64 x.ref, .int .i64 x.turn, .int .i64 x.kind] 33)).drew w1.heap.size (hux.alloc _).drew (heap_alloc_new w1 _) hsw (by show _ < (w1.alloc _).heap.size; simp)
    clear hins
    go_wp2_with fail
    go_region_law (go_simp; go_at_call 30; (with_reducible refine HI.mono ?_); rintro e w2 ⟨A2, n2, cc2, rfl, c2, f2, h2⟩)
    all_goals
      go_wp2
      go_ret
      exact ⟨by rw [hadd]; rfl, h2⟩

def RemPost (w : World) (F : Nat → Prop) (p : Nat) (l : List It) (x : It) (e : Ending) (w' : World) : Prop := e = .returned (.bool (remR l x).1) ∧ HStep 64 33 w F p (remR l x).2 w'

set_option maxRecDepth 100000 in
set_option maxHeartbeats 4000000 in
theorem remove_spec (w : World) (F : Nat → Prop) (p : Nat) (l : List It) (x : It) (h : HeapAt 64 33 w F p l) (hs : Srt l x) :
    Calls Try.prog 22 #[.pointer (some ⟨p, 0, none⟩), .agg x.cells.toArray] w (RemPost w F p l x) := by
  have HB := heap_alloc_new w (.cells x.cells.toArray 33)
  have hu0 : Upd Non w (w.alloc (.cells x.cells.toArray 33)) := (Upd.refl _ _).alloc _
  obtain ⟨W, hW⟩ : ∃ W, W = w.alloc (.cells x.cells.toArray 33) := ⟨_, rfl⟩
  rw [← hW] at HB hu0
  have hls : w.heap.size < W.heap.size := blk_lt HB
  have hbx : ∀ W', Upd Non W W' → cells6 W' w.heap.size 0 x := fun W' hw => by
    have hbx : ∀ j, W'.cell? ⟨w.heap.size, j, none⟩ = x.cells[j]? := fun j => by rw [hw.cell (p := ⟨w.heap.size, j, none⟩) hls id, blk_at HB]; simp
    exact ⟨hbx 0, hbx 1, hbx 2, hbx 3, hbx 4, hbx 5⟩
  have HFD := find_spec W F p l x (h.upd hu0 fun _ _ h => h) hs
  simp only [cells6, Nat.zero_add] at hbx
  obtain ⟨b0, b1, b2, b3, b4, b5⟩ := hbx W (Upd.refl _ _)
  by_cases his : l[pos l x]? = some x
  · have hd : decide (l[pos l x]? = some x) = true := decide_eq_true his
    have hn := hs.many
    have hrem : remR l x = (true, l.take (pos l x) ++ l.drop (pos l x + 1)) := by unfold remR; rw [if_pos his]
    have hpl : pos l x < l.length := (List.getElem?_eq_some_iff.1 his).1
    unfold FindPost at HFD
    rw [hd] at HFD
    generalize pos l x = k at HFD hpl hrem
    have hF := h.fin
    obtain ⟨v, r1, hFp, hblk⟩ := h.block
    obtain ⟨A, c, c0, _, hlc⟩ := h.cell
    have hev : v = .slice A l.length c := by have := blk_at r1 0; rw [c0] at this; simpa using this.symm
    subst hev
    have hplt := h.lt
    have hdel : ∀ W', Upd Non w W' →
        Calls Try.prog 34 #[.slice A l.length c, .int .i64 k, .int .i64 ((k : Int) + 1)] W' fun e w1 => ∃ A' n' c', e = .returned (.slice A' n' c') ∧ w1.cell? ⟨p, 0, none⟩ = some (.slice A l.length c) ∧ w1.frozen? ⟨p, 0, none⟩ = false ∧ HStep 64 33 w F p (remR l x).2 (w1.setCell ⟨p, 0, none⟩ (.slice A' n' c')) := fun W' hW' => by
      obtain ⟨g, hpg, hgg, hbuf, hgM⟩ := hblk W' hW' W'.heap.size (Nat.le_refl _)
      refine (delete_spec W' g k l _ hbuf hpl hn).mono ?_
      rintro e w1 ⟨v', rfl, hu, hb'⟩
      have hp1 := (hu.block p (Nat.lt_of_lt_of_le hplt hW'.size) hpg).trans ((hW'.block p hplt id).trans r1)
      obtain ⟨A', c', rfl, _⟩ := hb'.shape
      refine ⟨_, _, _, rfl, by rw [blk_at hp1]; rfl, blk_free hp1 0, ?_⟩
      rw [hrem]
      exact HeapAt.lay hF hFp r1 hpg hgg hW' hu hb' (.inl rfl)
    simp only [It.cells] at hW HFD hdel ⊢
    clear his hd hs HB hblk r1
    go_enter Try.func22, Try.ntmps22
    go_wp2_with fail
    rw [← hW]
    clear hW
    refine HFD.mono ?_
    rintro e w1 ⟨hu1, rfl⟩
    have hux := hu0.trans hu1
    obtain ⟨b0, b1, b2, b3, b4, b5⟩ := hbx w1 hu1
    have c1 : w1.cell? ⟨p, 0, none⟩ = some (.slice A l.length c) := (hux.cell (p := ⟨p, 0, none⟩) hplt id).trans c0
    have hall : w.heap.size < w1.heap.size := Nat.lt_of_lt_of_le hls hu1.size
    clear hbx HFD
    have hsw := hux.size
    have HI := hdel w1.drew hux.drew
    have HI2 := hdel w1 hux
    clear hdel
    go_wp2_with fail
    first
    | (go_region_law (go_simp; go_at_call 34; (with_reducible refine HI.mono ?_); rintro e w2 ⟨A2, n2, cc2, rfl, c2, f2, h2⟩))
    | (refine HI2.mono ?_; rintro e w2 ⟨A2, n2, cc2, rfl, c2, f2, h2⟩)
    all_goals
      go_wp2
      go_ret
      exact ⟨by rw [hrem]; rfl, h2⟩
  · have hfin : ∀ w', Upd Non w w' → RemPost w F p l x (.returned (.bool false)) w' := fun w' hw' => by
      unfold RemPost remR
      rw [if_neg his]
      exact ⟨rfl, h.ext hw'⟩
    have hd : decide (l[pos l x]? = some x) = false := decide_eq_false his
    unfold FindPost at HFD
    rw [hd] at HFD
    simp only [It.cells] at hW HFD ⊢
    clear his hd hs HB
    go_enter Try.func22, Try.ntmps22
    go_wp2_with fail
    rw [← hW]
    clear hW
    refine HFD.mono ?_
    rintro e w1 ⟨hu1, rfl⟩
    go_wp2
    go_ret
    exact hfin _ (hu0.trans hu1)
end Go.Proofs.Ytnaldifgnpnbhaa
