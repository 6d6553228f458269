/-
  The walks of Clone and List, Drop.
-/
import Derived.Test.YtnaldifgnpnbhaaT15
namespace Go.Proofs.Ytnaldifgnpnbhaa
open Go.RowKit Go.Maps

theorem nil27 (w : World) (a : Option Addr) (n c : Nat) : (binOp .eql 27 (.slice a n c) (.slice none 0 0)).run Try.prog w = .ok (.bool a.isNone) w := Lib.run_eql_slice_nil w 27 33 a n c 0 0 Try.underlying27
set_option maxRecDepth 100000 in
theorem clone_items (w : World) (F : Nat → Prop) (v : Value) (d : List It) (h : Rd itE w F v d) (hF : Fin w F) (hl : d.length ≤ 1048576) :
    Calls Try.prog 38 #[v] w fun e w' => ∃ v', e = .returned v' ∧ Upd Non w w' ∧ Rd itE w' (New w w') v' d := by
  obtain ⟨A, c, cs, rfl, h1, h2, h3, h4⟩ := h
  have hn := nil27
  rcases A with _ | ad
  · have hd : d.length = 0 := by
      rcases Nat.eq_zero_or_pos d.length with h0 | h0
      · exact h0
      · obtain ⟨_, _, h, _⟩ := h3 (by rw [h4.length, sz_itE]; omega)
        cases h
    obtain rfl := List.eq_nil_of_length_eq_zero hd
    go_enter Try.func38, Try.ntmps38
    go_wp2
    go_ret
    exact ⟨_, rfl, Upd.refl _ _, Rd.nil _ _ _⟩
  · have hal := Upd.alloc (Upd.refl Non w) (.cells #[] 33)
    go_enter Try.func38, Try.ntmps38
    go_wp2_with (at_builtin; refine wpList_append (E := itE) (e := 33) (F := Non) (xs := []) (ys := d) _ rfl (.tmp 5) (.tmp 6) 27 rfl (.agg #[.int .i64 0, .int .i64 0, .int .i64 0, .int .i64 0, .int .i64 0, .int .i64 0]) 48 Try.underlying27 info33 rfl (by decide) rfl (Own.empty _ _ _ _ _) (some ad) c rfl cs Non (h3.keep (alloc_keep hF _)) (h4.flat itE_flat) (fun k h => h.elim) (Fin.non _) (by rw [maxLen_eq]; simp; omega) (by simp; omega) ?_; intro v' w1 hu ho)
    go_wp2
    go_ret
    exact ⟨_, rfl, hal.trans hu, by simpa using ho.rd.mono (fun k hk => by simp [Non, New] at hk ⊢; omega)⟩

def ListPost (w : World) (l : List It) (e : Ending) (w' : World) : Prop := ∃ v', e = .returned v' ∧ Upd Non w w' ∧ Rd itE w' (New w w') v' l
theorem list_spec (w : World) (F : Nat → Prop) (p : Nat) (l : List It) (h : HeapAt 64 33 w F p l) (hl : l.length ≤ 1048576) : Calls Try.prog 28 #[.pointer (some ⟨p, 0, none⟩)] w (ListPost w l) := by
  obtain ⟨A, c, c0, hr, _⟩ := h.cell
  have HC := clone_items w F _ l hr h.fin hl
  go_enter Try.func28, Try.ntmps28
  go_wp2_with fail
  refine HC.mono ?_
  rintro e w1 ⟨v1, rfl, hu1, hr1⟩
  obtain ⟨A1, c1, rfl, _⟩ := hr1.shape
  go_wp2
  go_ret
  exact ⟨_, rfl, hu1, hr1⟩

def dropR (l : List It) (fl ru : Int) : List It := l.filter fun x => !ofRun fl ru x
def DropPost (w : World) (F : Nat → Prop) (p : Nat) (l : List It) (fl ru : Int) (e : Ending) (w' : World) : Prop := e = .returned (.int .i64 ((l.length : Int) - (dropR l fl ru).length)) ∧ HStep 64 33 w F p (dropR l fl ru) w'
set_option maxRecDepth 100000 in
set_option maxHeartbeats 1000000 in
theorem drop_spec (w : World) (F : Nat → Prop) (p : Nat) (l : List It) (fl ru : Int) (h : HeapAt 64 33 w F p l) (hn : l.length ≤ 1048576) :
    Calls Try.prog 25 #[.pointer (some ⟨p, 0, none⟩), .int .i64 fl, .int .i64 ru] w (DropPost w F p l fl ru) := by
  have hF := h.fin
  obtain ⟨v, r1, hFp, hblk⟩ := h.block
  obtain ⟨A, c, c0, _, hlc⟩ := h.cell
  have hev : v = .slice A l.length c := by have := blk_at r1 0; rw [c0] at this; simpa using this.symm
  subst hev
  have hplt := h.lt
  have hfl : (dropR l fl ru).length ≤ l.length := List.length_filter_le _ _
  obtain ⟨W, hW⟩ : ∃ W, W = (w.alloc (.cells #[.int .i64 fl] 3)).alloc (.cells #[.int .i64 ru] 3) := ⟨_, rfl⟩
  have hu0 : Upd Non w W := by rw [hW]; exact ((Upd.refl _ _).alloc _).alloc _
  have hsz : W.heap.size = w.heap.size + 2 := by rw [hW]; simp
  have hb2 : W.heap[w.heap.size + 1]? = some (.cells #[.int .i64 ru] 3 (0, 0)) := by
    have := heap_alloc_new (w.alloc (.cells #[.int .i64 fl] 3)) (.cells #[.int .i64 ru] 3)
    rw [World.size_alloc] at this
    rw [hW]; exact this
  have hb1 : W.heap[w.heap.size]? = some (.cells #[.int .i64 fl] 3 (0, 0)) := by
    rw [hW]; exact (Below.heap_alloc _ _ _ (by simp)).trans (heap_alloc_new w _)
  have hC : Caught W w.heap.size (w.heap.size + 1) fl ru := ⟨blk_at hb1 0, blk_at hb2 0⟩
  obtain ⟨g, hpg, hgg, hbuf, hgM⟩ := hblk W hu0 W.heap.size (Nat.le_refl _)
  have hne : w.heap.size ≠ g ∧ w.heap.size + 1 ≠ g := by
    rcases hgM with h | h
    · omega
    · have := hF g h; omega
  have HD := delfunc_spec W g _ l w.heap.size (w.heap.size + 1) fl ru hbuf hn hC hne.1 hne.2
  have c1 : W.cell? ⟨p, 0, none⟩ = some (.slice A l.length c) := (hu0.cell (p := ⟨p, 0, none⟩) hplt id).trans c0
  have HDD : Calls Try.prog 35 #[.slice A l.length c, .func (.func 36) #[] #[.pointer (some ⟨w.heap.size, 0, none⟩), .pointer (some ⟨w.heap.size + 1, 0, none⟩)]] W fun e w1 => ∃ A' c', e = .returned (.slice A' (dropR l fl ru).length c') ∧ w1.cell? ⟨p, 0, none⟩ = some (.slice A l.length c) ∧ w1.frozen? ⟨p, 0, none⟩ = false ∧ HStep 64 33 w F p (dropR l fl ru) (w1.setCell ⟨p, 0, none⟩ (.slice A' (dropR l fl ru).length c')) := by
    refine HD.mono ?_
    rintro e w1 ⟨v', rfl, hu, hb'⟩
    have hp1 := (hu.block p (Nat.lt_of_lt_of_le hplt hu0.size) hpg).trans ((hu0.block p hplt id).trans r1)
    have hlay := HeapAt.lay hF hFp r1 hpg hgg hu0 hu hb' (.inl rfl)
    obtain ⟨A', c', rfl, _⟩ := hb'.shape
    exact ⟨_, _, rfl, by rw [blk_at hp1]; rfl, blk_free hp1 0, hlay⟩
  have hcast : IntKind.i64.wrap ((l.length : Int) - (dropR l fl ru).length) = (l.length : Int) - (dropR l fl ru).length := by rw [IntKind.wrap_i64]; omega
  clear HD hbuf hblk hC hb1 hb2 r1 hgM hne hgg hpg h
  generalize hdl : (dropR l fl ru).length = m at HDD hfl hcast
  have HML := Lib.hid hdl
  clear hdl
  go_enter Try.func25, Try.ntmps25
  go_wp2_with fail
  rw [← hW]
  clear hW
  refine HDD.mono ?_
  rintro e w1 ⟨A', c', rfl, c2, f2, hst⟩
  clear HDD
  go_wp2
  go_ret
  exact ⟨by rw [HML.out]; rfl, hst⟩
end Go.Proofs.Ytnaldifgnpnbhaa
