/-
  The reference's Take.
-/
import Derived.Test.YtnaldifgnpnbhaaRH3
namespace Go.Proofs.Ytnaldifgnpnbhaa
open Go.RowKit
/-! ### the reference's Take -/
theorem set6_blk40 {w : World} {b : Nat} {y : It} (x : It) (h : w.heap[b]? = some (.cells y.cells.toArray 40 (0, 0))) : (set6 w b x).heap[b]? = some (.cells x.cells.toArray 40 (0, 0)) := by
  have := blk_set (blk_set (blk_set (blk_set (blk_set (blk_set h 0 (.int .i64 x.at_)) 1 (.int .i64 x.flow)) 2 (.int .i64 x.run)) 3 (.int .i64 x.ref)) 4 (.int .i64 x.turn)) 5 (.int .i64 x.kind)
  simpa [It.cells, set6] using this
def RTakePost (w : World) (F : Nat → Prop) (p : Nat) (l : List It) (now : Int) (e : Ending) (w' : World) : Prop :=
  e = .returned (.tuple #[.agg (takeR l now).1.cells.toArray, .bool (takeR l now).2.1]) ∧ RStep w F p (takeR l now).2.2 w'
theorem rtake_end {w W w3 W6 : World} {p g0 : Nat} {F : Nat → Prop} {v0 v : Value} {l : List It} (hW : Upd Non w W) (hb : W.heap[p]? = some (.cells #[v0] 51 (0, 0))) (hp : p < w.heap.size) (hu : Upd Non W w3) (ho : Own itE 40 w3 (New W w3) v l)
    (h0 : w.heap.size ≤ g0) (h1 : g0 < W.heap.size) (h6 : Upd (fun q => q = g0) (w3.setCell ⟨p, 0, none⟩ v) W6) : RStep w F p l W6 := by
  have hs : Upd (fun x => x = p) w3 (w3.setCell ⟨p, 0, none⟩ v) := Upd.set (S := fun x => x = p) (Upd.refl _ w3) (p := ⟨p, 0, none⟩) (.inr rfl) _
  have hsz : (w3.setCell ⟨p, 0, none⟩ v).heap.size = w3.heap.size := by simp [World.setCell]
  have hWs := hW.size
  have hnp : ∀ k, New W w3 k → ¬ k = p := fun k hk e => by have := hk.1; omega
  have hr : RHp (w3.setCell ⟨p, 0, none⟩ v) (New W w3) p l := ⟨v, by have := blk_set ((hu.block p (blk_lt hb) id).trans hb) 0 v; simpa using this, ho.upd hs fun k hk => ⟨hk.2, hnp k hk⟩, fun h => hnp p h rfl, fun k hk => by rw [hsz]; exact hk.2⟩
  have h6s := h6.size
  refine ⟨(((hW.trans hu).mono fun _ _ h => h.elim).trans hs).trans' h6 (fun x hx e => by have e : x = g0 := e; omega), New W w3, hr.upd h6 (by omega) (fun k hk e => by have := hk.1; have e : k = g0 := e; omega), fun k hk => .inr ⟨by have := hk.1; omega, by have := hk.2; omega⟩⟩
theorem take_mid {w w2 : World} {p : Nat} {v0 : Value} {x : It} (hu : Upd Non w w2) (hb : w2.heap[p]? = some (.cells #[v0] 51 (0, 0))) (h0 : w2.heap[w.heap.size]? = some (.cells z0.cells.toArray 40 (0, 0))) (h1 : w2.heap[w.heap.size + 1]? = some (.cells x.cells.toArray 40 (0, 0))) (hp : p < w.heap.size) (v : Value) (y : It) :
    w2.frozen? ⟨p, 0, none⟩ = false ∧ w2.cell? ⟨p, 0, none⟩ = some v0 ∧ (w2.setCell ⟨p, 0, none⟩ v).heap[w.heap.size]? = some (.cells z0.cells.toArray 40 (0, 0)) ∧ (w2.setCell ⟨p, 0, none⟩ v).heap[w.heap.size + 1]? = some (.cells x.cells.toArray 40 (0, 0)) ∧ (set6 (w2.setCell ⟨p, 0, none⟩ v) w.heap.size y).heap[w.heap.size]? = some (.cells y.cells.toArray 40 (0, 0)) := by
  have hs : Upd (fun x => x = p) w2 (w2.setCell ⟨p, 0, none⟩ v) := Upd.set (S := fun x => x = p) (Upd.refl _ w2) (p := ⟨p, 0, none⟩) (.inr rfl) _
  have k0 := (hs.block w.heap.size (blk_lt h0) (by omega)).trans h0
  exact ⟨blk_free hb 0, blk_at hb 0, k0, (hs.block (w.heap.size + 1) (blk_lt h1) (by omega)).trans h1, set6_blk40 y k0⟩
set_option linter.all false in
set_option maxRecDepth 100000 in
set_option maxHeartbeats 2000000 in
theorem rtake_spec (w : World) (F : Nat → Prop) (p : Nat) (l : List It) (now : Int) (h : RHp w F p l) (hn : l.length ≤ 1048576) : Calls Try.prog 24 #[.pointer (some ⟨p, 0, none⟩), .int .i64 now] w (RTakePost w F p l now) := by
  obtain ⟨A, c, hb, hc, hm, hr⟩ := h.cells
  obtain ⟨_, _, ho, hnp, hfin⟩ := id h
  have hplt := h.lt
  obtain ⟨W, hW⟩ : ∃ W, W = w.alloc (.cells z0.cells.toArray 40) := ⟨_, rfl⟩
  have hu0 : Upd Non w W := by rw [hW]; exact (Upd.refl _ _).alloc _
  have HB : W.heap[w.heap.size]? = some (.cells z0.cells.toArray 40 (0, 0)) := by rw [hW]; exact heap_alloc_new w _
  have hls : w.heap.size < W.heap.size := blk_lt HB
  have hsz0 : W.heap.size = w.heap.size + 1 := by rw [hW]; exact Array.size_push _
  have q0 : W.cell? ⟨p, 0, none⟩ = some (.slice A l.length c) := (hu0.cell (p := ⟨p, 0, none⟩) hplt id).trans (blk_at hb 0)
  have hpW : p < W.heap.size := by omega
  have hb0 : ∀ i, W.frozen? ⟨w.heap.size, i, none⟩ = false := fun i => blk_free HB i
  have g0 : W.cell? ⟨w.heap.size, 0, none⟩ = some (.int .i64 0) := blk_at HB 0
  have g1 : W.cell? ⟨w.heap.size, 1, none⟩ = some (.int .i64 0) := blk_at HB 1
  have g2 : W.cell? ⟨w.heap.size, 2, none⟩ = some (.int .i64 0) := blk_at HB 2
  have g3 : W.cell? ⟨w.heap.size, 3, none⟩ = some (.int .i64 0) := blk_at HB 3
  have g4 : W.cell? ⟨w.heap.size, 4, none⟩ = some (.int .i64 0) := blk_at HB 4
  have g5 : W.cell? ⟨w.heap.size, 5, none⟩ = some (.int .i64 0) := blk_at HB 5
  have hsame : RStep w F p l W := RStep.same h hu0
  have hK' := And.intro g0 (And.intro g1 (And.intro g2 (And.intro g3 (And.intro g4 g5))))
  have HBB := Lib.hid HB
  have HSZ := Lib.hid hsz0
  clear HB hsz0
  simp only [z0, It.cells] at hW
  cases l with
  | nil =>
    have hfin : ∀ w', RStep w F p [] w' → RTakePost w F p [] now (.returned (.tuple #[.agg #[.int .i64 0, .int .i64 0, .int .i64 0, .int .i64 0, .int .i64 0, .int .i64 0], .bool false])) w' := fun w' hw => ⟨rfl, hw⟩
    have HF := Lib.hid (hfin _ hsame)
    simp only [List.length_nil] at q0
    clear hsame hfin
    subst hW
    go_enter Try.func24, Try.ntmps24
    go_wp2_with fail
    exact bodyPost_ret (v := .tuple #[.agg #[.int .i64 0, .int .i64 0, .int .i64 0, .int .i64 0, .int .i64 0, .int .i64 0], .bool false]) (by simp [results, Try.results24, go_sem, hK']) rfl HF.out
  | cons x xs =>
    obtain ⟨b1, o1, c1, e1, _, hb1, hyw, m0, m1, m2, m3, m4, m5⟩ := (hr.upd hu0 (Upd.fr_non hfin)).it (k := 0) (by simp)
    cases e1
    simp only [Nat.zero_mul, Nat.add_zero, List.getElem_cons_zero] at m0 m1 m2 m3 m4 m5
    by_cases hnow : now < x.at_
    · have htk : takeR (x :: xs) now = (z0, false, x :: xs) := by rw [takeR, if_pos hnow]
      have hfin : ∀ w', RStep w F p (x :: xs) w' → RTakePost w F p (x :: xs) now (.returned (.tuple #[.agg #[.int .i64 0, .int .i64 0, .int .i64 0, .int .i64 0, .int .i64 0, .int .i64 0], .bool false])) w' := fun w' hw => by unfold RTakePost; rw [htk]; exact ⟨rfl, hw⟩
      have HF := Lib.hid (hfin _ hsame)
      have t1 : decide (now < x.at_) = true := decide_eq_true hnow
      simp only [List.length_cons] at q0
      clear hsame htk hr hfin
      subst hW
      go_enter Try.func24, Try.ntmps24
      go_wp2_with fail
      exact bodyPost_ret (v := .tuple #[.agg #[.int .i64 0, .int .i64 0, .int .i64 0, .int .i64 0, .int .i64 0, .int .i64 0], .bool false]) (by simp [results, Try.results24, go_sem, hK']) rfl HF.out
    · have htk : takeR (x :: xs) now = (x, true, xs) := by rw [take_eq]; simp [hnow]
      have t1 : decide (now < x.at_) = false := decide_eq_false hnow
      obtain ⟨A0, c0', cs, ev, _, _, hat, hrel⟩ := id hr
      cases ev
      obtain ⟨N, hN⟩ : ∃ N, xs.length = N := ⟨_, rfl⟩
      have hc' : N + 1 ≤ c := by simpa [hN] using hc
      have hn' : N + 1 ≤ 1048576 := by simpa [hN] using hn
      have hr2 : ∀ W G, Rel itE W G xs (cs.drop 6) := fun W G => by have := (hrel.drop 1).flat (w' := W) (G := G) itE_flat; simpa [sz_itE] using this
      have hat2 : ∀ W, Upd Non w W → At W F (if c = 1 then some ⟨b1, o1, none⟩ else some ⟨b1, o1 + 6, none⟩) (cs.drop 6) := fun W hu => by
        have := hat.cut 1 c 6 (x :: xs).length hrel.length hc
        simp only [Option.map_some, add_mk, Nat.one_mul] at this
        exact this.keep fun x hx => hu.block x (hfin x hx) id
      have hend : ∀ W3 w2 W6 v, Upd Non w W3 → Upd Non W3 w2 → w.heap.size < W3.heap.size → Own itE 40 w2 (New W3 w2) v xs → Upd (fun q => q = w.heap.size) (w2.setCell ⟨p, 0, none⟩ v) W6 → RTakePost w F p (x :: xs) now (.returned (.tuple #[.agg #[.int .i64 x.at_, .int .i64 x.flow, .int .i64 x.run, .int .i64 x.ref, .int .i64 x.turn, .int .i64 x.kind], .bool true])) W6 := fun W3 w2 W6 v a1 a2 a3 a4 a5 => by
        unfold RTakePost
        rw [htk]
        exact ⟨rfl, rtake_end a1 ((a1.block p hplt id).trans hb) hplt a2 a4 (Nat.le_refl _) a3 a5⟩
      have hpw : ∀ W', Upd Non w W' → W'.heap[p]? = some (.cells #[.slice (some ⟨b1, o1, none⟩) (N + 1) c] 51 (0, 0)) := fun W' hu => by have := (hu.block p hplt id).trans hb; simpa [hN] using this
      have h63 : ([] : List It).length + xs.length ≤ maxLen := by rw [maxLen_eq]; simp; omega
      have h48 : (([] : List It).length + xs.length) * 48 ≤ 140737488355328 := by simp; omega
      simp only [List.length_cons, hN] at q0
      have HE := Lib.hid hend
      have HQ := Lib.hid hpw
      have HN := Lib.hid hN
      clear hend hpw hN hsame htk hr hat hrel hc hn hb
      subst hW
      have m0' := m0
      have hu3 : Upd Non w (((w.alloc (.cells #[.int .i64 0, .int .i64 0, .int .i64 0, .int .i64 0, .int .i64 0, .int .i64 0] 40)).alloc (.cells #[.int .i64 x.at_, .int .i64 x.flow, .int .i64 x.run, .int .i64 x.ref, .int .i64 x.turn, .int .i64 x.kind] 40)).alloc (.cells #[] 40)) := by upn
      have q3 : (((w.alloc (.cells #[.int .i64 0, .int .i64 0, .int .i64 0, .int .i64 0, .int .i64 0, .int .i64 0] 40)).alloc (.cells #[.int .i64 x.at_, .int .i64 x.flow, .int .i64 x.run, .int .i64 x.ref, .int .i64 x.turn, .int .i64 x.kind] 40)).alloc (.cells #[] 40)).cell? ⟨p, 0, none⟩ = some (.slice (some ⟨b1, o1, none⟩) (N + 1) c) := blk_at (HQ.out _ hu3) 0
      have B0 : (((w.alloc (.cells #[.int .i64 0, .int .i64 0, .int .i64 0, .int .i64 0, .int .i64 0, .int .i64 0] 40)).alloc (.cells #[.int .i64 x.at_, .int .i64 x.flow, .int .i64 x.run, .int .i64 x.ref, .int .i64 x.turn, .int .i64 x.kind] 40)).alloc (.cells #[] 40)).heap[w.heap.size]? = some (.cells z0.cells.toArray 40 (0, 0)) := keep_box (heap_alloc_new w _) (by upn)
      have B1 : (((w.alloc (.cells #[.int .i64 0, .int .i64 0, .int .i64 0, .int .i64 0, .int .i64 0, .int .i64 0] 40)).alloc (.cells #[.int .i64 x.at_, .int .i64 x.flow, .int .i64 x.run, .int .i64 x.ref, .int .i64 x.turn, .int .i64 x.kind] 40)).alloc (.cells #[] 40)).heap[w.heap.size + 1]? = some (.cells x.cells.toArray 40 (0, 0)) := keep_box (box_snd w _ x) (by upn)
      have hs3 : w.heap.size < (((w.alloc (.cells #[.int .i64 0, .int .i64 0, .int .i64 0, .int .i64 0, .int .i64 0, .int .i64 0] 40)).alloc (.cells #[.int .i64 x.at_, .int .i64 x.flow, .int .i64 x.run, .int .i64 x.ref, .int .i64 x.turn, .int .i64 x.kind] 40)).alloc (.cells #[] 40)).heap.size := by have := blk_lt B1; omega
      have kc1 : (1 : Int) ≤ c := by omega
      have kn1 : (1 : Int) ≤ (N : Int) + 1 := by omega
      have ww : ¬ p = w.heap.size := by omega
      have ww1 : ¬ p = w.heap.size + 1 := by omega
      clear g0 g1 g2 g3 g4 g5 hK' HBB hb0
      go_enter Try.func24, Try.ntmps24
      go_wp2_with (at_builtin; refine wpList_append (E := itE) (e := 40) (F := Non) (xs := []) (ys := xs) _ rfl (.tmp 32) (.tmp 37) 49 rfl _ 48 Try.underlying49 info40 rfl (by decide) rfl (Own.empty _ _ _ _ _) (if c = 1 then some ⟨b1, o1, none⟩ else some ⟨b1, o1 + 6, none⟩) (c - 1) (by rw [HN.out]; rfl) _ Non (hat2 _ hu3) (hr2 _ _) (fun _ h => h.elim) (Fin.non _) h63 h48 ?_; intro v2 w2 hu2 ho2; rw [List.nil_append] at ho2; have ho2' := scr_new (Upd.refl _ _) ho2; have hend := HE.out _ w2 (set6 (w2.setCell ⟨p, 0, none⟩ v2) w.heap.size x) v2 hu3 hu2 hs3 ho2' (set6_upd _ _ _); obtain ⟨A2, c2, rfl, hc2, _⟩ := ho2.shape; obtain ⟨f4, q4, K0, K1, G0⟩ := take_mid (hu3.trans hu2) (HQ.out _ (hu3.trans hu2)) (keep_box B0 hu2) (keep_box B1 hu2) hplt (.slice A2 xs.length c2) x; obtain ⟨k0, k1, k2, k3, k4, k5⟩ := box6 K1; obtain ⟨g0, g1, g2, g3, g4, g5⟩ := box6 K0; obtain ⟨j0, j1, j2, j3, j4, j5⟩ := box6 G0; have fr0 := fun i => blk_free K0 i; have hK' := And.intro j0 (And.intro j1 (And.intro j2 (And.intro j3 (And.intro j4 j5)))); clear j0 j1 j2 j3 j4 j5 G0 K0 K1; simp only [set6, z0] at hend hK' g0 g1 g2 g3 g4 g5)
      all_goals exact bodyPost_ret (v := .tuple #[.agg #[.int .i64 x.at_, .int .i64 x.flow, .int .i64 x.run, .int .i64 x.ref, .int .i64 x.turn, .int .i64 x.kind], .bool true]) (by simp [results, Try.results24, go_sem, hK']) rfl hend
end Go.Proofs.Ytnaldifgnpnbhaa
