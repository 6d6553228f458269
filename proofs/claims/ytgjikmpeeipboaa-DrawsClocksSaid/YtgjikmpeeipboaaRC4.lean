/-
  The reference's Due.
-/
import Derived.Test.YtgjikmpeeipboaaRC3
namespace Go.Proofs.Ytgjikmpeeipboaa
open Go.RowKit
def RDuePost (w : World) (F : Nat → Prop) (q : Nat) (t : Int) (L : List Alm) (e : Ending) (w' : World) : Prop :=
  ∃ v G, e = .returned v ∧ Rd intE w' G v (idsA (dueA L t)) ∧ (∀ k, G k → New w w' k) ∧ Upd (fun x => x = q) w w' ∧ ∃ F', RClk w' F' q t (restA L t) ∧ ∀ k, F' k → F k ∨ New w w' k
theorem due_all {D R : List Alm} {t : Int} (hD : ∀ y ∈ D, y.2 ≤ t) (hR : ∀ y ∈ R, ¬ y.2 ≤ t) : dueA (D ++ R) t = D ∧ restA (D ++ R) t = R := by
  unfold dueA restA
  rw [List.filter_append, List.filter_append]
  have d1 : D.filter (fun y => decide (y.2 ≤ t)) = D := List.filter_eq_self.2 fun y hy => decide_eq_true (hD y hy)
  have d2 : R.filter (fun y => decide (y.2 ≤ t)) = [] := List.filter_eq_nil_iff.2 fun y hy => by simpa using hR y hy
  have d3 : D.filter (fun y => !decide (y.2 ≤ t)) = [] := List.filter_eq_nil_iff.2 fun y hy => by simpa using hD y hy
  have d4 : R.filter (fun y => !decide (y.2 ≤ t)) = R := List.filter_eq_self.2 fun y hy => by simpa using hR y hy
  rw [d1, d2, d3, d4]
  exact ⟨List.append_nil _, rfl⟩
theorem srt_late {x : Alm} {R : List Alm} {t : Int} (hs : SrtA (x :: R)) (hx : ¬ x.2 ≤ t) : ∀ y ∈ x :: R, ¬ y.2 ≤ t := fun y hy => by
  rcases List.mem_cons.1 hy with rfl | hy
  · exact hx
  · have := ltA_iff.1 ((List.pairwise_cons.1 hs).1 y hy)
    omega
set_option maxRecDepth 100000 in
set_option maxHeartbeats 2000000 in
theorem rdue_spec (w : World) (F : Nat → Prop) (q : Nat) (t : Int) (L : List Alm) (h : RClk w F q t L) (hs : SrtA L) (hl : L.length ≤ 1000000) :
    Calls Try.prog 28 #[.pointer (some ⟨q, 0, none⟩)] w (RDuePost w F q t L) := by
  have hq := blk_lt h.choose_spec.1
  go_enter Try.func28, Try.ntmps28
  go_wp2
  go_loopg [3] L.length (fun g1 o wr => ∃ (D R : List Alm) (G F' : Nat → Prop), Hid (L = D ++ R) ∧ R.length = g1 ∧ D.length ≤ 1000000 ∧ (∀ y ∈ D, y.2 ≤ t) ∧ Own intE 3 wr G o (idsA D) ∧ (∀ k, G k → New w wr k) ∧ Upd (fun x => x = q) w wr ∧ RClk wr F' q t R ∧ (∀ k, F' k → F k ∨ New w wr k) ∧ ∀ k, G k → ¬ F' k)
  case atStart => exact ⟨[], L, Non, F, Lib.hid rfl, rfl, by simp, (fun y hy => by cases hy), Own.nil _ _ _ _, (fun k h => h.elim), Upd.refl _ _, h, (fun k hk => .inl hk), fun k h => h.elim⟩
  case round =>
    obtain ⟨D, R, G, F', hsplit, hlen, hD6, hD, ho, hG, hur, hc, hF', hGF⟩ := hrel
    have hLlen := congrArg List.length hsplit.out
    rw [List.length_append] at hLlen
    obtain ⟨A, c, hb, hcl, hcm, hr⟩ := hc.cells
    have hfinF := hc.choose_spec.2.2.2
    have c0 : wr.cell? ⟨q, 0, none⟩ = some (.int .i64 t) := blk_at hb 0
    have c1 : wr.cell? ⟨q, 1, none⟩ = some (.slice A R.length c) := blk_at hb 1
    obtain ⟨Ao, co, rfl, hco, hcom⟩ := ho.shape
    cases R with
    | nil =>
      have hfin : RDuePost w F q t L (.returned (.slice Ao (idsA D).length co)) wr.drew := by
        obtain ⟨e1, e2⟩ := due_all hD (R := []) (fun y h => by cases h)
        refine ⟨_, G, rfl, ?_, hG, hur.drew, F', ?_, hF'⟩
        · rw [hsplit.out, e1]; exact ho.rd.drew
        · rw [hsplit.out, e2]; exact hc
      have hfin2 : ∀ n, RDuePost w F q t L (.returned (.slice Ao (idsA D).length co)) (wr.drewN n) := fun n => by
        obtain ⟨e1, e2⟩ := due_all hD (R := []) (fun y h => by cases h)
        refine ⟨_, G, rfl, ?_, hG, hur.drewN n, F', ?_, hF'⟩
        · rw [hsplit.out, e1]; exact ho.rd.drewN n
        · rw [hsplit.out, e2]; exact hc
      clear hfin
      simp only [List.length_nil] at c1
      go_wp2_with fail
      go_quiet (fail)
      go_wp2_with fail
      go_ret
      exact hfin2 _
    | cons x R =>
      obtain ⟨b1, o1, c1', e1, _, hFb, m0, m1⟩ := hr.alm (k := 0) (by simp)
      cases e1
      simp only [List.getElem_cons_zero, Nat.zero_mul, Nat.add_zero] at m0 m1
      simp only [List.length_cons] at c1 hcl hLlen hlen
      obtain ⟨M, hM⟩ : ∃ M, R.length + 1 = M := ⟨_, rfl⟩
      have hM0 : 0 < M := by omega
      obtain rfl : M = gk := by rw [← hM]; exact hlen
      clear hlen
      rw [hM] at c1 hcl
      have HM := Lib.hid (And.intro hM hLlen)
      clear hM hLlen
      have hn0 : (0 : Int) < (M : Int) := by omega
      have t0 : decide ((0 : Int) < (M : Int)) = true := decide_eq_true hn0
      have t00 : decide (0 < M) = true := decide_eq_true hM0
      by_cases hx : x.2 ≤ t
      · have t1 : decide (x.2 ≤ t) = true := decide_eq_true hx
        obtain ⟨A0, c0', cs, ev, _, _, hat, hrel⟩ := id hr
        cases ev
        have hRl : R.length = M - 1 := by have := HM.out.1; omega
        have HR := Lib.hid hRl
        have hDl : (idsA D).length ≤ 1000000 := by simpa [idsA] using hD6
        have hD7 : D.length + 1 ≤ 1000000 := by have := HM.out.2; have := HM.out.1; omega
        have hM6 : M ≤ 1000000 := by have := HM.out.2; have := HM.out.1; omega
        have h63b : ([] : List Alm).length + R.length ≤ maxLen := by rw [maxLen_eq, hRl]; simp; omega
        have h48b : (([] : List Alm).length + R.length) * 16 ≤ 140737488355328 := by rw [hRl]; simp; omega
        have h63a : ∀ z : Int, (idsA D).length + [z].length ≤ maxLen := fun z => by rw [maxLen_eq]; simp; omega
        have h48a : ∀ z : Int, ((idsA D).length + [z].length) * 8 ≤ 140737488355328 := fun z => by simp; omega
        have hr2 : ∀ W H, Rel almE W H R (cs.drop 2) := fun W H => by
          have := hrel.drop 1
          simp only [List.drop_succ_cons, List.drop_zero] at this
          exact this.flat almE_flat
        have hx1 : idsA (D ++ [x]) = idsA D ++ [x.1] := by simp [idsA]
        have HX := Lib.hid hx1
        have hk1 : (1 : Int) ≤ M := by omega
        clear hRl hx1
        by_cases hck : c = 1
        · have hat2 : ∀ W, (∀ k, F' k → W.heap[k]? = wr.heap[k]?) → At W F' (some ⟨b1, o1, none⟩) (cs.drop 2) := fun W hu => by
            have := hat.cut 1 c 2 (R.length + 1) hrel.length (by rw [HM.out.1]; exact hcl)
            rw [if_pos hck] at this
            exact this.keep hu
          subst hck
          clear hat hrel hr
          have hR0 : R.length = 0 := by have := HR.out; omega
          have HR0 := Lib.hid hR0
          clear hR0
          go_wp2_with fail
          go_quiet (fail)
          have hW := (Upd.refl Non wr).drewN nq
          have ho4 := ho.drewN nq
          have hc4 := hc.upd hW id fun _ _ => id
          have d1 : (wr.drewN nq).cell? ⟨q, 1, none⟩ = some (.slice (some ⟨b1, o1, none⟩) M 1) := c1
          have n0 : (wr.drewN nq).cell? ⟨b1, o1, none⟩ = some (.int .i64 x.1) := m0
          have hb4 : (wr.drewN nq).heap[q]? = some (.cells #[.int .i64 t, .slice (some ⟨b1, o1, none⟩) M 1] 54 (0, 0)) := by rw [← HM.out.1]; exact hb
          have hsW : (wr.drewN nq).heap.size = wr.heap.size := rfl
          generalize wr.drewN nq = W4 at hW ho4 hc4 d1 n0 hb4 hsW ⊢
          have hq4 := blk_lt hb4
          have hb1l : b1 < W4.heap.size := World.block_lt_of_cell? W4 _ n0
          have hkF : ∀ (w5 : World), Upd G (W4.alloc (.cells #[.int .i64 x.1] 3)) w5 → ∀ k, F' k → (w5.alloc (.cells #[] 72)).heap[k]? = wr.heap[k]? := fun w5 hu5 k hk => by
            have h1 := hfinF k hk
            have h2 : k < W4.heap.size := by rw [hsW]; exact h1
            have h3 := hu5.size
            rw [World.size_alloc] at h3
            exact (Below.heap_alloc _ _ _ (by omega)).trans ((hu5.block k (by simp; omega) fun h => hGF k h hk).trans ((Below.heap_alloc _ _ _ h2).trans (hW.block k h1 id)))
          have hfG : Fin W4 G := fun k hk => by rw [hsW]; exact (hG k hk).2
          have hqG : ¬ G q := fun h => by have := (hG q h).1; omega
          have hat1 := at_box W4 #[.int .i64 x.1] 3
          have hal := ho4.alloc hfG (.cells #[.int .i64 x.1] 3)
          have hW5 : Upd G wr (W4.alloc (.cells #[.int .i64 x.1] 3)) := (hW.mono fun _ _ h => h.elim).alloc _
          have hfG5 : Fin (W4.alloc (.cells #[.int .i64 x.1] 3)) G := hfG.upd ((Upd.refl Non _).alloc _)
          have HSW := Lib.hid hsW
          clear hsW
          have hx1 := HX.out
          generalize x.1 = x1 at hat1 hal hW5 hfG5 hkF n0 m0 hx1 ⊢
          have HX1 := Lib.hid hx1
          clear hx1 HX
          go_wp2_with (first
            | (at_builtin; refine wpList_append (E := intE) (e := 3) (F := G) (xs := idsA D) (ys := [x1]) _ rfl (.tmp 24) (.tmp 32) 29 rfl (.int .i64 0) 8 Try.underlying29 info3 rfl (by decide) rfl hal (some ⟨W4.heap.size, 0, none⟩) 1 rfl [.int .i64 x1] Non hat1 ⟨[.int .i64 x1], [], rfl, rfl, rfl⟩ (fun k h => h.elim) hfG5 (h63a _) (h48a _) ?_; intro v5 w5 hu5 ho5; obtain ⟨A5, c5, rfl, hc5, _⟩ := ho5.shape; have hq5s := hu5.size; have hb5 : w5.heap[q]? = some (.cells #[.int .i64 t, .slice (some ⟨b1, o1, none⟩) M 1] 54 (0, 0)) := (hu5.block q (by simp; omega) hqG).trans ((Below.heap_alloc _ _ _ hq4).trans hb4); have hq5 := blk_lt hb5; have e1 : w5.cell? ⟨q, 1, none⟩ = some (.slice (some ⟨b1, o1, none⟩) M 1) := blk_at hb5 1)
            | (at_builtin; refine wpList_append (E := almE) (e := 72) (F := Non) (xs := []) (ys := R) _ rfl (.tmp 35) (.tmp 40) 52 rfl _ 16 Try.underlying52 info72 rfl (by decide) rfl (Own.empty _ _ _ _ _) (some ⟨b1, o1, none⟩) 0 (by rw [HR0.out]; rfl) _ Non (hat2 _ (hkF _ hu5)) (hr2 _ _) (fun _ h => h.elim) (Fin.non _) h63b h48b ?_; intro v7 w7 hu7 ho7; rw [List.nil_append] at ho7; have ho7' := scr_new ((Upd.refl Non w5).alloc _) ho7; have hu57 : Upd Non w5 w7 := ((Upd.refl Non w5).alloc _).trans hu7; obtain ⟨A7, c7, rfl, hc7, _⟩ := ho7'.shape; have hlay := rclk_lay hb5 hu57 ho7'; have f7 : w7.frozen? ⟨q, 1, none⟩ = false := blk_free ((hu57.block q hq5 id).trans hb5) 1; have q7 : w7.cell? ⟨q, 1, none⟩ = some (.slice (some ⟨b1, o1, none⟩) M 1) := blk_at ((hu57.block q hq5 id).trans hb5) 1))
          have hsz := HSW.out
          have hs5 := hu5.size
          rw [World.size_alloc] at hs5
          have hs7 := hlay.1.size
          have hwr := hur.size
          have hU5 : Upd (fun x => x = q) w w5 := (hur.trans' hW5 fun y hy h => by have := (hG y h).1; omega).trans' hu5 fun y hy h => by have := (hG y h).1; omega
          have hG5 : ∀ k, (G k ∨ Non k ∨ New (W4.alloc (.cells #[.int .i64 x1] 3)) w5 k) → w.heap.size ≤ k ∧ k < w5.heap.size := fun k hk => by
            rcases hk with h | h | h
            · have := hG k h; exact ⟨this.1, by have := this.2; omega⟩
            · exact h.elim
            · exact ⟨by have := h.1; rw [World.size_alloc] at this; omega, h.2⟩
          have hown := ho5.upd hlay.1 fun k hk => ⟨(hG5 k hk).2, fun e => by have e : k = q := e; have := (hG5 k hk).1; omega⟩
          rw [← HX1.out] at hown
          have hln : (idsA (D ++ [x])).length = (idsA D).length + 1 := by simp [idsA]
          have HLN := Lib.hid hln
          clear hln hs5 hsz
          go_roundg R.length
          case measure => rw [HR.out]; omega
          case rel =>
            refine ⟨D ++ [x], R, _, _, Lib.hid (by rw [hsplit.out]; simp), rfl, by simp; omega, fun y hy => ?_, ?_, fun k hk => ⟨(hG5 k hk).1, by have := (hG5 k hk).2; omega⟩, hU5.trans hlay.1, hlay.2, fun k hk => .inr ⟨by have := hk.1; have := hU5.size; omega, hk.2⟩, fun k hk h => by have := (hG5 k hk).2; have := h.1; omega⟩
            · rcases List.mem_append.1 hy with hy | hy
              · exact hD y hy
              · rw [List.mem_singleton.1 hy]; exact hx
            · have hz := hown
              rw [HLN.out] at hz
              exact hz
        · have hat2 : ∀ W, (∀ k, F' k → W.heap[k]? = wr.heap[k]?) → At W F' (some ⟨b1, o1 + 2, none⟩) (cs.drop 2) := fun W hu => by
            have := hat.cut 1 c 2 (R.length + 1) hrel.length (by rw [HM.out.1]; exact hcl)
            rw [if_neg hck] at this
            simp only [Option.map_some, add_mk] at this
            exact this.keep hu
          clear hat hrel hr
          go_wp2_with fail
          go_quiet (fail)
          have hW := (Upd.refl Non wr).drewN nq
          have ho4 := ho.drewN nq
          have hc4 := hc.upd hW id fun _ _ => id
          have d1 : (wr.drewN nq).cell? ⟨q, 1, none⟩ = some (.slice (some ⟨b1, o1, none⟩) M c) := c1
          have n0 : (wr.drewN nq).cell? ⟨b1, o1, none⟩ = some (.int .i64 x.1) := m0
          have hb4 : (wr.drewN nq).heap[q]? = some (.cells #[.int .i64 t, .slice (some ⟨b1, o1, none⟩) M c] 54 (0, 0)) := by rw [← HM.out.1]; exact hb
          have hsW : (wr.drewN nq).heap.size = wr.heap.size := rfl
          generalize wr.drewN nq = W4 at hW ho4 hc4 d1 n0 hb4 hsW ⊢
          have hq4 := blk_lt hb4
          have hb1l : b1 < W4.heap.size := World.block_lt_of_cell? W4 _ n0
          have hkF : ∀ (w5 : World), Upd G (W4.alloc (.cells #[.int .i64 x.1] 3)) w5 → ∀ k, F' k → (w5.alloc (.cells #[] 72)).heap[k]? = wr.heap[k]? := fun w5 hu5 k hk => by
            have h1 := hfinF k hk
            have h2 : k < W4.heap.size := by rw [hsW]; exact h1
            have h3 := hu5.size
            rw [World.size_alloc] at h3
            exact (Below.heap_alloc _ _ _ (by omega)).trans ((hu5.block k (by simp; omega) fun h => hGF k h hk).trans ((Below.heap_alloc _ _ _ h2).trans (hW.block k h1 id)))
          have hfG : Fin W4 G := fun k hk => by rw [hsW]; exact (hG k hk).2
          have hqG : ¬ G q := fun h => by have := (hG q h).1; omega
          have hat1 := at_box W4 #[.int .i64 x.1] 3
          have hal := ho4.alloc hfG (.cells #[.int .i64 x.1] 3)
          have hW5 : Upd G wr (W4.alloc (.cells #[.int .i64 x.1] 3)) := (hW.mono fun _ _ h => h.elim).alloc _
          have hfG5 : Fin (W4.alloc (.cells #[.int .i64 x.1] 3)) G := hfG.upd ((Upd.refl Non _).alloc _)
          have HSW := Lib.hid hsW
          clear hsW
          have hx1 := HX.out
          generalize x.1 = x1 at hat1 hal hW5 hfG5 hkF n0 m0 hx1 ⊢
          have HX1 := Lib.hid hx1
          clear hx1 HX
          go_wp2_with (first
            | (at_builtin; refine wpList_append (E := intE) (e := 3) (F := G) (xs := idsA D) (ys := [x1]) _ rfl (.tmp 24) (.tmp 32) 29 rfl (.int .i64 0) 8 Try.underlying29 info3 rfl (by decide) rfl hal (some ⟨W4.heap.size, 0, none⟩) 1 rfl [.int .i64 x1] Non hat1 ⟨[.int .i64 x1], [], rfl, rfl, rfl⟩ (fun k h => h.elim) hfG5 (h63a _) (h48a _) ?_; intro v5 w5 hu5 ho5; obtain ⟨A5, c5, rfl, hc5, _⟩ := ho5.shape; have hq5s := hu5.size; have hb5 : w5.heap[q]? = some (.cells #[.int .i64 t, .slice (some ⟨b1, o1, none⟩) M c] 54 (0, 0)) := (hu5.block q (by simp; omega) hqG).trans ((Below.heap_alloc _ _ _ hq4).trans hb4); have hq5 := blk_lt hb5; have e1 : w5.cell? ⟨q, 1, none⟩ = some (.slice (some ⟨b1, o1, none⟩) M c) := blk_at hb5 1)
            | (at_builtin; refine wpList_append (E := almE) (e := 72) (F := Non) (xs := []) (ys := R) _ rfl (.tmp 35) (.tmp 40) 52 rfl _ 16 Try.underlying52 info72 rfl (by decide) rfl (Own.empty _ _ _ _ _) (some ⟨b1, o1 + 2, none⟩) (c - 1) (by rw [HR.out]; rfl) _ Non (hat2 _ (hkF _ hu5)) (hr2 _ _) (fun _ h => h.elim) (Fin.non _) h63b h48b ?_; intro v7 w7 hu7 ho7; rw [List.nil_append] at ho7; have ho7' := scr_new ((Upd.refl Non w5).alloc _) ho7; have hu57 : Upd Non w5 w7 := ((Upd.refl Non w5).alloc _).trans hu7; obtain ⟨A7, c7, rfl, hc7, _⟩ := ho7'.shape; have hlay := rclk_lay hb5 hu57 ho7'; have f7 : w7.frozen? ⟨q, 1, none⟩ = false := blk_free ((hu57.block q hq5 id).trans hb5) 1; have q7 : w7.cell? ⟨q, 1, none⟩ = some (.slice (some ⟨b1, o1, none⟩) M c) := blk_at ((hu57.block q hq5 id).trans hb5) 1))
          have hsz := HSW.out
          have hs5 := hu5.size
          rw [World.size_alloc] at hs5
          have hs7 := hlay.1.size
          have hwr := hur.size
          have hU5 : Upd (fun x => x = q) w w5 := (hur.trans' hW5 fun y hy h => by have := (hG y h).1; omega).trans' hu5 fun y hy h => by have := (hG y h).1; omega
          have hG5 : ∀ k, (G k ∨ Non k ∨ New (W4.alloc (.cells #[.int .i64 x1] 3)) w5 k) → w.heap.size ≤ k ∧ k < w5.heap.size := fun k hk => by
            rcases hk with h | h | h
            · have := hG k h; exact ⟨this.1, by have := this.2; omega⟩
            · exact h.elim
            · exact ⟨by have := h.1; rw [World.size_alloc] at this; omega, h.2⟩
          have hown := ho5.upd hlay.1 fun k hk => ⟨(hG5 k hk).2, fun e => by have e : k = q := e; have := (hG5 k hk).1; omega⟩
          rw [← HX1.out] at hown
          have hln : (idsA (D ++ [x])).length = (idsA D).length + 1 := by simp [idsA]
          have HLN := Lib.hid hln
          clear hln hs5 hsz
          go_roundg R.length
          case measure => rw [HR.out]; omega
          case rel =>
            refine ⟨D ++ [x], R, _, _, Lib.hid (by rw [hsplit.out]; simp), rfl, by simp; omega, fun y hy => ?_, ?_, fun k hk => ⟨(hG5 k hk).1, by have := (hG5 k hk).2; omega⟩, hU5.trans hlay.1, hlay.2, fun k hk => .inr ⟨by have := hk.1; have := hU5.size; omega, hk.2⟩, fun k hk h => by have := (hG5 k hk).2; have := h.1; omega⟩
            · rcases List.mem_append.1 hy with hy | hy
              · exact hD y hy
              · rw [List.mem_singleton.1 hy]; exact hx
            · have hz := hown
              rw [HLN.out] at hz
              exact hz
      · have t1 : decide (x.2 ≤ t) = false := decide_eq_false hx
        have hsx : SrtA (x :: R) := by
          have := hs
          rw [hsplit.out] at this
          exact (List.pairwise_append.1 this).2.1
        have hfin2 : ∀ n, RDuePost w F q t L (.returned (.slice Ao (idsA D).length co)) (wr.drewN n) := fun n => by
          obtain ⟨e1, e2⟩ := due_all hD (srt_late hsx hx)
          refine ⟨_, G, rfl, ?_, hG, hur.drewN n, F', ?_, hF'⟩
          · rw [hsplit.out, e1]; exact ho.rd.drewN n
          · rw [hsplit.out, e2]; exact hc.upd ((Upd.refl Non _).drewN n) id fun _ _ => id
        clear hsx
        generalize x.2 = y2 at m1 t1
        go_wp2_with fail
        go_quiet (fail)
        go_wp2_with fail
        go_ret
        exact hfin2 _
end Go.Proofs.Ytgjikmpeeipboaa
