/-
  The reference's Remove.
-/
import Derived.Test.YtnaldifgnpnbhaaRH1
namespace Go.Proofs.Ytnaldifgnpnbhaa
open Go.RowKit
/-! ### the reference's Remove -/
theorem rem_at {l : List It} (hs : Sorted l) {k : Nat} (hk : k < l.length) : remR l l[k] = (true, l.take k ++ l.drop (k + 1)) := by
  have hp : pos l l[k] = k := pos_eq l _ k (Nat.le_of_lt hk) (fun j hj hjk => decide_eq_true (List.pairwise_iff_getElem.1 hs j k hj hk hjk)) (fun _ => by simp [ltB, cmpI_refl])
  unfold remR
  rw [hp, List.getElem?_eq_getElem hk, if_pos rfl]
theorem rem_no {l : List It} (hs : Sorted l) {x : It} (hx : ∀ j (hj : j < l.length), ¬ l[j] = x) : remR l x = (false, l) := by
  have h : ¬ x ∈ l := fun h => by
    obtain ⟨j, hj, e⟩ := List.mem_iff_getElem.1 h
    exact hx j hj e
  unfold remR
  rw [if_neg (fun e => h ((pos_mem hs x).1 e))]
theorem at_cells {W : World} {g : Nat} {x : It} (h : W.heap[g]? = some (.cells x.cells.toArray 40 (0, 0))) : At W (fun k => k = g) (some ⟨g, 0, none⟩) x.cells := fun _ =>
  ⟨_, _, rfl, rfl, fun j _ => by rw [Nat.zero_add, blk_at h j]; simp⟩
def RRemPost (w : World) (F : Nat → Prop) (p : Nat) (l : List It) (x : It) (e : Ending) (w' : World) : Prop := e = .returned (.bool (remR l x).1) ∧ RStep w F p (remR l x).2 w'
/-- the two ways on: what a world that has only grown holds -/
macro "upn" : tactic => `(tactic| (repeat (first | exact Upd.refl _ _ | assumption | apply Upd.drew | apply Upd.drewN | apply Upd.alloc)))
theorem rrem_end {w w3 : World} {F : Nat → Prop} {p : Nat} {v0 v : Value} {l l' : List It} {x : It} (hb : w.heap[p]? = some (.cells #[v0] 51 (0, 0))) (hp : p < w.heap.size) (hu : Upd Non w w3) (hr : remR l x = (true, l')) (ho : Own itE 40 w3 (New w w3) v l') :
    RRemPost w F p l x (.returned (.bool true)) (w3.setCell ⟨p, 0, none⟩ v) := by
  unfold RRemPost
  rw [hr]
  exact ⟨rfl, rh_lay (Upd.refl _ _) hb hp hu ho⟩
attribute [local go_sem ↓ high] eql40 neq40
set_option linter.all false in
set_option maxRecDepth 100000 in
set_option maxHeartbeats 2000000 in
theorem rrem_spec (w : World) (F : Nat → Prop) (p : Nat) (l : List It) (x : It) (h : RHp w F p l) (hs : Sorted l) (hn : l.length ≤ 1048576) :
    Calls Try.prog 23 #[.pointer (some ⟨p, 0, none⟩), .agg x.cells.toArray] w (RRemPost w F p l x) := by
  obtain ⟨A, c, hb, hc, hm, hr⟩ := h.cells
  obtain ⟨_, _, ho, hnp, hfin⟩ := id h
  have hplt := h.lt
  obtain ⟨W, hW⟩ : ∃ W, W = w.alloc (.cells x.cells.toArray 40) := ⟨_, rfl⟩
  have hu0 : Upd Non w W := by rw [hW]; exact (Upd.refl _ _).alloc _
  have HB : W.heap[w.heap.size]? = some (.cells x.cells.toArray 40 (0, 0)) := by rw [hW]; exact heap_alloc_new w _
  have hls : w.heap.size < W.heap.size := blk_lt HB
  obtain ⟨N, hN⟩ : ∃ N, l.length = N := ⟨_, rfl⟩
  rw [hN] at hb hc hn
  have hpl : ∀ W', Upd Non W W' → W'.cell? ⟨p, 0, none⟩ = some (.slice A N c) := fun W' hw => ((hu0.trans hw).cell (p := ⟨p, 0, none⟩) hplt id).trans (blk_at hb 0)
  have hbx : ∀ W', Upd Non W W' → ∀ j, W'.cell? ⟨w.heap.size, j, none⟩ = x.cells[j]? := fun W' hw j => by rw [hw.cell (p := ⟨w.heap.size, j, none⟩) hls id, blk_at HB]; simp
  simp only [It.cells] at hW ⊢
  have HP := Lib.hid hpl
  have HX := Lib.hid hbx
  have HN := Lib.hid hN
  have HBB := Lib.hid hb
  clear hpl hbx hN hb ho
  go_enter Try.func23, Try.ntmps23
  go_wp2_with fail
  rw [← hW]
  clear hW
  go_loopw [5] (fun i wr => ∃ k : Nat, k ≤ N ∧ i = .int .i64 k ∧ Upd Non W wr ∧ Hid (∀ j (hj : j < l.length), j < k → ¬ l[j] = x)) (fun i _ => N - (intOf i).toNat)
  case atStart => exact ⟨0, Nat.zero_le _, rfl, Upd.refl _ _, Lib.hid (fun j _ hj => absurd hj (by omega))⟩
  case round =>
    obtain ⟨k, hk, rfl, hu, hno⟩ := hrel
    have hux := hu0.trans hu
    have q0 := HP.out wr hu
    by_cases hlt : k < N
    · have hkL : k < l.length := by rw [HN.out]; exact hlt
      obtain ⟨b1, o1, c1, e1, _, hb1, hyw, m0, m1, m2, m3, m4, m5⟩ := (hr.upd hux (Upd.fr_non hfin)).it hkL
      rw [HN.out] at e1
      cases e1
      obtain ⟨y, hy⟩ : ∃ y, l[k] = y := ⟨_, rfl⟩
      rw [hy] at hyw m0 m1 m2 m3 m4 m5
      have hbW : b1 < wr.heap.size := World.block_lt_of_cell? wr _ m0
      have n0 := HX.out wr hu 0
      have n1 := HX.out wr hu 1
      have n2 := HX.out wr hu 2
      have n3 := HX.out wr hu 3
      have n4 := HX.out wr hu 4
      have n5 := HX.out wr hu 5
      simp only [It.cells] at n0 n1 n2 n3 n4 n5
      simp only [List.getElem?_cons_zero, List.getElem?_cons_succ] at n0 n1 n2 n3 n4 n5
      by_cases hyx : y = x
      · have hE : eqB ⟨y.at_, y.flow, y.run, y.ref, y.turn, y.kind⟩ ⟨x.at_, x.flow, x.run, x.ref, x.turn, x.kind⟩ = true := by show decide (y = x) = true; simp [hyx]
        have hrem : remR l x = (true, l.take k ++ l.drop (k + 1)) := by rw [← hyx, ← hy]; exact rem_at hs hkL
        have HA := Lib.hid hrem
        clear hyx hrem hy
        go_wp2_with fail
        go_quiet (fail)
        have hu6 : Upd Non w (wr.drewN nq) := hux.drewN _
        have q6 := HP.out _ (hu.drewN nq)
        generalize wr.drewN nq = W6 at hu6 q6 ⊢
        have hp6 : p < W6.heap.size := Nat.lt_of_lt_of_le hplt hu6.size
        have HR := HA.out
        obtain ⟨A0, c0', cs, ev, _, _, hat, hrel⟩ := id hr
        rw [HN.out] at ev
        cases ev
        obtain ⟨ys1, hy1⟩ : ∃ y, l.take k = y := ⟨_, rfl⟩
        obtain ⟨ys2, hy2⟩ : ∃ y, l.drop (k + 1) = y := ⟨_, rfl⟩
        have hl1 : ys1.length = k := by rw [← hy1, List.length_take]; omega
        have hl2 : ys2.length = N - (k + 1) := by rw [← hy2, List.length_drop, HN.out]
        have hr1 : ∀ W G, Rel itE W G ys1 (cs.take (k * 6)) := fun W G => by rw [← hy1]; exact (hrel.take k).flat itE_flat
        have hr2 : ∀ W G, Rel itE W G ys2 (cs.drop ((k + 1) * 6)) := fun W G => by rw [← hy2]; exact (hrel.drop (k + 1)).flat itE_flat
        have hat1 : ∀ W, Upd Non w W → At W F (some ⟨b1, o1, none⟩) (cs.take (k * 6)) := fun W hu => (hat.take (k * 6)).keep fun x hx => hu.block x (hfin x hx) id
        have hat2 : ∀ W, Upd Non w W → At W F (if c = k + 1 then some ⟨b1, o1, none⟩ else some ⟨b1, o1 + (k + 1) * 6, none⟩) (cs.drop ((k + 1) * 6)) := fun W hu => by
          have := hat.cut (k + 1) c 6 l.length hrel.length (by rw [HN.out]; exact hc)
          simp only [Option.map_some, add_mk] at this
          exact this.keep fun x hx => hu.block x (hfin x hx) id
        have hpw : ∀ W', Upd Non w W' → W'.heap[p]? = some (.cells #[.slice (some ⟨b1, o1, none⟩) N c] 51 (0, 0)) := fun W' hu => (hu.block p hplt id).trans HBB.out
        rw [hy1, hy2] at HR
        have HQ := Lib.hid hpw
        have HY := Lib.hid (And.intro hl1 (And.intro hl2 HR))
        have h63a : ([] : List It).length + ys1.length ≤ maxLen := by rw [maxLen_eq, hl1]; simp; omega
        have h48a : (([] : List It).length + ys1.length) * 48 ≤ 140737488355328 := by rw [hl1]; simp; omega
        have h63b : ys1.length + ys2.length ≤ maxLen := by rw [maxLen_eq, hl1, hl2]; omega
        have h48b : (ys1.length + ys2.length) * 48 ≤ 140737488355328 := by rw [hl1, hl2]; omega
        have kz : (0 : Int) ≤ k := by omega
        have kc : (k : Int) ≤ c := by omega
        have kw : IntKind.i64.wrap ((k : Int) + 1) = (k : Int) + 1 := by rw [IntWalk.i64_in _ (by omega)]
        have kz1 : (0 : Int) ≤ (k : Int) + 1 := by omega
        have kn1 : (k : Int) + 1 ≤ N := by omega
        clear hl1 hl2 HR hy1 hy2 hat hrel hr hno m0 m1 m2 m3 m4 m5 n0 n1 n2 n3 n4 n5 q0 hE hpw hux
        go_wp2_with fail
        go_region_law (first
          | (refine step_append (E := itE) (e := 40) (F := Non) (xs := []) (ys := ys1) _ rfl (.tmp 25) (.tmp 31) 49 rfl _ 48 Try.underlying49 info40 rfl (by decide) rfl (Own.empty _ _ _ _ _) (some ⟨b1, o1, none⟩) c (by rw [HY.out.1]; rfl) _ Non (hat1 _ (by upn)) (hr1 _ _) (fun _ h => h.elim) (Fin.non _) h63a h48a ?_; intro v2 w2 hu2 ho2; rw [List.nil_append] at ho2; obtain ⟨A2, c2, rfl, hc2, _⟩ := ho2.shape; have hu02 : Upd Non w w2 := Upd.trans (by upn) hu2; have q2 : w2.cell? ⟨p, 0, none⟩ = some (.slice (some ⟨b1, o1, none⟩) N c) := blk_at (HQ.out _ hu02) 0; have ho2' := scr_new (w := w) (by upn) ho2)
          | (refine step_append (E := itE) (e := 40) (F := New w w2) (xs := ys1) (ys := ys2) _ rfl (.tmp 32) (.tmp 39) 49 rfl _ 48 Try.underlying49 info40 rfl (by decide) rfl ho2' (if c = k + 1 then some ⟨b1, o1, none⟩ else some ⟨b1, o1 + (k + 1) * 6, none⟩) (c - (k + 1)) (by rw [HY.out.2.1]; rfl) _ Non (hat2 _ hu02) (hr2 _ _) (fun _ h => h.elim) Fin.new h63b h48b ?_; intro v3 w3 hu3 ho3; obtain ⟨hu03, ho3'⟩ := scr_next hu02 hu3 ho3; have hend := rrem_end (x := x) (F := F) (HQ.out _ (Upd.refl Non w)) hplt hu03 HY.out.2.2 ho3'; obtain ⟨A3, c3, rfl, hc3, _⟩ := ho3'.shape; rw [List.length_append] at hend; have hb3 := HQ.out _ hu03; have f3 : w3.frozen? ⟨p, 0, none⟩ = false := blk_free hb3 0; have q3 : w3.cell? ⟨p, 0, none⟩ = some (.slice (some ⟨b1, o1, none⟩) N c) := blk_at hb3 0))
        all_goals go_wp2
        all_goals (go_ret; exact hend)
      · have hE : eqB ⟨y.at_, y.flow, y.run, y.ref, y.turn, y.kind⟩ ⟨x.at_, x.flow, x.run, x.ref, x.turn, x.kind⟩ = false := by show decide (y = x) = false; simp [hyx]
        have hno' : ∀ j (hj : j < l.length), j < k + 1 → ¬ l[j] = x := fun j hj h1 => by
          rcases Nat.lt_or_ge j k with h2 | h2
          · exact hno.out j hj h2
          · obtain rfl : j = k := by omega
            rw [hy]; exact hyx
        have HN2 := Lib.hid hno'
        clear hyx hy hno'
        go_wp2_with fail
        go_quiet (fail)
        go_wp2_with fail
        go_roundw
        case rel => exact ⟨k + 1, by omega, by go_num, by upn, HN2⟩
        case measure => simp [intOf]; omega
    · obtain rfl : k = N := by omega
      have hrem : remR l x = (false, l) := rem_no hs fun j hj => hno.out j hj (by rw [← HN.out]; exact hj)
      have HA := Lib.hid hrem
      clear hrem
      go_wp2_with fail
      go_ret
      exact ⟨by rw [HA.out]; rfl, by rw [HA.out]; exact RStep.same h hux⟩
end Go.Proofs.Ytnaldifgnpnbhaa
