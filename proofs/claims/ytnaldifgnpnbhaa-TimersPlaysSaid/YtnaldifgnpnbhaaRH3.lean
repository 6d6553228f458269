/-
  The reference's Add.
-/
import Derived.Test.YtnaldifgnpnbhaaRH2
namespace Go.Proofs.Ytnaldifgnpnbhaa
open Go.RowKit
/-! ### the reference's Add -/
theorem step_bs1 {ops : Array Oper} {o : Oper} {a : Act} {K : Act → World → Prop} {Q : Exit → Act → World → Prop} {E' : Prop} (w : World) (x : It) (n : Tmp) (hg : o.guard = none) (hop : o.op = .buildSlice 49 1 #[(0, .tmp n)])
    (hx : a.tmps[n]?.getD undef = .agg #[.int .i64 x.at_, .int .i64 x.flow, .int .i64 x.run, .int .i64 x.ref, .int .i64 x.turn, .int .i64 x.kind])
    (hK : ∀ g R, g = w.heap.size → Upd Non w R → R.heap[g]? = some (.cells x.cells.toArray 40 (0, 0)) → K (a.put o.dst (.slice (some ⟨g, 0, none⟩) 1 1)) R) :
    if Region.wanted o (yielded ops a.tmps) = true then Oper.wp Try.prog o a w K Q else E' := by
  have hw : Region.wanted o (yielded ops a.tmps) = true := by simp [Region.wanted, hg]
  rw [if_pos hw]
  have := hK w.heap.size _ rfl ((Upd.refl _ _).alloc (.cells x.cells.toArray 40)) (heap_alloc_new w _)
  obtain ⟨dst, op, type, pos, after, guard⟩ := o
  simp only at hop hg this
  subst hop
  simp only [It.cells] at this
  go_simp
  exact this
theorem box6 {W : World} {g : Nat} {x : It} (h : W.heap[g]? = some (.cells x.cells.toArray 40 (0, 0))) :
    W.cell? ⟨g, 0, none⟩ = some (.int .i64 x.at_) ∧ W.cell? ⟨g, 1, none⟩ = some (.int .i64 x.flow) ∧ W.cell? ⟨g, 2, none⟩ = some (.int .i64 x.run) ∧ W.cell? ⟨g, 3, none⟩ = some (.int .i64 x.ref) ∧ W.cell? ⟨g, 4, none⟩ = some (.int .i64 x.turn) ∧ W.cell? ⟨g, 5, none⟩ = some (.int .i64 x.kind) :=
  ⟨blk_at h 0, blk_at h 1, blk_at h 2, blk_at h 3, blk_at h 4, blk_at h 5⟩
theorem keep_box {W W' : World} {g : Nat} {o : Obj} (h : W.heap[g]? = some o) (hu : Upd Non W W') : W'.heap[g]? = some o := (hu.block g (by have := (Array.getElem?_eq_some_iff.1 h).1; exact this) id).trans h
theorem box_fst (W : World) (o : Obj) (x : It) : ((W.alloc (.cells x.cells.toArray 40)).alloc o).heap[W.heap.size]? = some (.cells x.cells.toArray 40 (0, 0)) := keep_box (heap_alloc_new W _) ((Upd.refl _ _).alloc _)
theorem box_snd (W : World) (o : Obj) (x : It) : ((W.alloc o).alloc (.cells x.cells.toArray 40)).heap[W.heap.size + 1]? = some (.cells x.cells.toArray 40 (0, 0)) := by
  have h := heap_alloc_new (W.alloc o) (.cells x.cells.toArray 40)
  have e : (W.alloc o).heap.size = W.heap.size + 1 := Array.size_push _
  rw [e] at h
  exact h
def RAddPost (w : World) (F : Nat → Prop) (p : Nat) (l : List It) (x : It) (e : Ending) (w' : World) : Prop := e = .returned (.bool (addR l x).1) ∧ RStep w F p (addR l x).2 w'
theorem radd_end {w w3 : World} {F : Nat → Prop} {p : Nat} {v0 v : Value} {l l' : List It} {x : It} (hb : w.heap[p]? = some (.cells #[v0] 51 (0, 0))) (hp : p < w.heap.size) (hu : Upd Non w w3) (hr : addR l x = (true, l')) (ho : Own itE 40 w3 (New w w3) v l') :
    RAddPost w F p l x (.returned (.bool true)) (w3.setCell ⟨p, 0, none⟩ v) := by
  unfold RAddPost
  rw [hr]
  exact ⟨rfl, rh_lay (Upd.refl _ _) hb hp hu ho⟩
attribute [local go_sem ↓ high] eql40 neq40
set_option linter.all false in
set_option maxRecDepth 100000 in
set_option maxHeartbeats 4000000 in
theorem radd_spec (w : World) (F : Nat → Prop) (p : Nat) (l : List It) (x : It) (h : RHp w F p l) (hn : l.length ≤ 1048576) (hx : x.wf) :
    Calls Try.prog 21 #[.pointer (some ⟨p, 0, none⟩), .agg x.cells.toArray] w (RAddPost w F p l x) := by
  obtain ⟨A, c, hb, hc, hm, hr⟩ := h.cells
  obtain ⟨_, _, ho, hnp, hfin⟩ := id h
  have hplt := h.lt
  obtain ⟨W, hW⟩ : ∃ W, W = w.alloc (.cells x.cells.toArray 40) := ⟨_, rfl⟩
  have hu0 : Upd Non w W := by rw [hW]; exact (Upd.refl _ _).alloc _
  have HB : W.heap[w.heap.size]? = some (.cells x.cells.toArray 40 (0, 0)) := by rw [hW]; exact heap_alloc_new w _
  have hls : w.heap.size < W.heap.size := blk_lt HB
  obtain ⟨N, hN⟩ : ∃ N, l.length = N := ⟨_, rfl⟩
  rw [hN] at hb hc hn
  have hpl : ∀ W', Upd Non W W' → W'.cell? ⟨p, 0, none⟩ = some (.slice A N c) := fun W' hw => ((hu0.trans hw).cell (p := ⟨p, 0, none⟩) hplt id).trans (blk_at hb 0)
  have hbx := fun (W' : World) (hw : Upd Non W W') => box6 (keep_box HB hw)
  simp only [It.cells] at hW ⊢
  have HP := Lib.hid hpl
  have HX := Lib.hid hbx
  have HN := Lib.hid hN
  have HBB := Lib.hid hb
  clear hpl hbx hN hb ho
  go_enter Try.func21, Try.ntmps21
  go_wp2_with fail
  rw [← hW]
  clear hW
  go_loopw [5] (fun i wr => ∃ k : Nat, k ≤ N ∧ i = .int .i64 k ∧ Upd Non W wr ∧ Hid (∀ j (hj : j < l.length), j < k → ltB l[j] x = true)) (fun i _ => N - (intOf i).toNat)
  case atStart => exact ⟨0, Nat.zero_le _, rfl, Upd.refl _ _, Lib.hid (fun j _ hj => absurd hj (by omega))⟩
  case round =>
    obtain ⟨k, hk, rfl, hu, hlow⟩ := hrel
    have hux := hu0.trans hu
    have q0 := HP.out wr.drew hu.drew
    by_cases hlt : k < N
    · have hkL : k < l.length := by rw [HN.out]; exact hlt
      obtain ⟨b1, o1, c1, e1, _, hb1, hyw, m0, m1, m2, m3, m4, m5⟩ := (hr.upd hux (Upd.fr_non hfin)).it hkL
      rw [HN.out] at e1
      cases e1
      obtain ⟨y, hy⟩ : ∃ y, l[k] = y := ⟨_, rfl⟩
      rw [hy] at hyw m0 m1 m2 m3 m4 m5
      have hbW : b1 < wr.heap.size := World.block_lt_of_cell? wr _ m0
      have hcells : ∀ W', Upd Non wr W' → W'.cell? ⟨p, 0, none⟩ = some (.slice (some ⟨b1, o1, none⟩) N c) ∧ W'.cell? ⟨b1, o1 + k * 6, none⟩ = some (.int .i64 y.at_) ∧ W'.cell? ⟨b1, o1 + k * 6 + 1, none⟩ = some (.int .i64 y.flow) ∧ W'.cell? ⟨b1, o1 + k * 6 + 2, none⟩ = some (.int .i64 y.run) ∧ W'.cell? ⟨b1, o1 + k * 6 + 3, none⟩ = some (.int .i64 y.ref) ∧ W'.cell? ⟨b1, o1 + k * 6 + 4, none⟩ = some (.int .i64 y.turn) ∧ W'.cell? ⟨b1, o1 + k * 6 + 5, none⟩ = some (.int .i64 y.kind) ∧ W'.cell? ⟨w.heap.size, 0, none⟩ = some (.int .i64 x.at_) ∧ W'.cell? ⟨w.heap.size, 1, none⟩ = some (.int .i64 x.flow) ∧ W'.cell? ⟨w.heap.size, 2, none⟩ = some (.int .i64 x.run) ∧ W'.cell? ⟨w.heap.size, 3, none⟩ = some (.int .i64 x.ref) ∧ W'.cell? ⟨w.heap.size, 4, none⟩ = some (.int .i64 x.turn) ∧ W'.cell? ⟨w.heap.size, 5, none⟩ = some (.int .i64 x.kind) := fun W' hw =>
        ⟨HP.out W' (hu.trans hw), (hw.cell (p := ⟨b1, o1 + k * 6, none⟩) hbW id).trans m0, (hw.cell (p := ⟨b1, o1 + k * 6 + 1, none⟩) hbW id).trans m1, (hw.cell (p := ⟨b1, o1 + k * 6 + 2, none⟩) hbW id).trans m2, (hw.cell (p := ⟨b1, o1 + k * 6 + 3, none⟩) hbW id).trans m3, (hw.cell (p := ⟨b1, o1 + k * 6 + 4, none⟩) hbW id).trans m4, (hw.cell (p := ⟨b1, o1 + k * 6 + 5, none⟩) hbW id).trans m5, HX.out W' (hu.trans hw)⟩
      have S0 := hcells wr.drew (Upd.refl _ _).drew
      have HL := fun W' => rless_spec W' y x
      unfold RlPost at HL
      have HC := Lib.hid hcells
      have HY := Lib.hid hy
      clear hcells hy m0 m1 m2 m3 m4 m5
      cases hc1 : ltB y x
      · simp only [hc1, It.cells] at HL
        have HC1 := Lib.hid hc1
        clear hc1
        go_wp2_with fail
        go_region_held3 (fun W' => W'.cell? ⟨p, 0, none⟩ = some (.slice (some ⟨b1, o1, none⟩) N c) ∧ W'.cell? ⟨b1, o1 + k * 6, none⟩ = some (.int .i64 y.at_) ∧ W'.cell? ⟨b1, o1 + k * 6 + 1, none⟩ = some (.int .i64 y.flow) ∧ W'.cell? ⟨b1, o1 + k * 6 + 2, none⟩ = some (.int .i64 y.run) ∧ W'.cell? ⟨b1, o1 + k * 6 + 3, none⟩ = some (.int .i64 y.ref) ∧ W'.cell? ⟨b1, o1 + k * 6 + 4, none⟩ = some (.int .i64 y.turn) ∧ W'.cell? ⟨b1, o1 + k * 6 + 5, none⟩ = some (.int .i64 y.kind) ∧ W'.cell? ⟨w.heap.size, 0, none⟩ = some (.int .i64 x.at_) ∧ W'.cell? ⟨w.heap.size, 1, none⟩ = some (.int .i64 x.flow) ∧ W'.cell? ⟨w.heap.size, 2, none⟩ = some (.int .i64 x.run) ∧ W'.cell? ⟨w.heap.size, 3, none⟩ = some (.int .i64 x.ref) ∧ W'.cell? ⟨w.heap.size, 4, none⟩ = some (.int .i64 x.turn) ∧ W'.cell? ⟨w.heap.size, 5, none⟩ = some (.int .i64 x.kind))
          (first | exact S0 | exact Sa | go_keep)
          ((go_at_call 16; (with_reducible refine (HL _).mono ?_); rintro e wq ⟨rfl, huq⟩; have Sa := HC.out wq (((Upd.refl _ _).drew).trans huq)))
        obtain ⟨a0, a1, a2, a3, a4, a5, a6, a7, a8, a9, a10, a11, a12⟩ := Sa
        have hpos : pos l x = k := pos_eq l x k (by rw [HN.out]; exact hk) hlow.out (fun hj => by rw [HY.out]; exact HC1.out)
        have huWq : Upd Non W wq := (hu.drew).trans huq
        have hUq : Upd Non w wq := hu0.trans huWq
        by_cases hyx : y = x
        · have hE : eqB ⟨y.at_, y.flow, y.run, y.ref, y.turn, y.kind⟩ ⟨x.at_, x.flow, x.run, x.ref, x.turn, x.kind⟩ = true := by show decide (y = x) = true; simp [hyx]
          have hadd : addR l x = (false, l) := by unfold addR; rw [hpos, List.getElem?_eq_getElem hkL, HY.out, hyx, if_pos rfl]
          have HA := Lib.hid hadd
          clear hpos hyx hadd
          go_wp2_with fail
          go_quiet (fail)
          go_wp2
          go_ret
          exact ⟨by rw [HA.out]; rfl, by rw [HA.out]; exact RStep.same h (hUq.drewN _)⟩
        · have hE : eqB ⟨y.at_, y.flow, y.run, y.ref, y.turn, y.kind⟩ ⟨x.at_, x.flow, x.run, x.ref, x.turn, x.kind⟩ = false := by show decide (y = x) = false; simp [hyx]
          have hadd : addR l x = (true, l.take k ++ x :: l.drop k) := by unfold addR; rw [hpos, List.getElem?_eq_getElem hkL, HY.out, if_neg (by simp [hyx])]
          have HA := Lib.hid hadd
          have hck : ¬ c = k := by omega
          clear hpos hyx hadd
          go_wp2_with fail
          go_quiet (fail)
          have huW : Upd Non W (wq.drewN nq) := huWq.drewN _
          have hu6 : Upd Non w (wq.drewN nq) := hUq.drewN _
          generalize wq.drewN nq = W6 at huW hu6 ⊢
          clear a0 a1 a2 a3 a4 a5 a6 a7 a8 a9 a10 a11 a12 HL HC HC1 HY hE q0 S0 hlow huWq hUq
          obtain ⟨A0, c0', cs, ev, _, _, hat, hrel⟩ := id hr
          rw [HN.out] at ev
          cases ev
          obtain ⟨ys1, hy1⟩ : ∃ y, l.take k = y := ⟨_, rfl⟩
          obtain ⟨ys2, hy2⟩ : ∃ y, l.drop k = y := ⟨_, rfl⟩
          obtain ⟨ys3, hy3⟩ : ∃ y, ys1 ++ [x] = y := ⟨_, rfl⟩
          have hl1 : ys1.length = k := by rw [← hy1, List.length_take, HN.out]; omega
          have hl2 : ys2.length = N - k := by rw [← hy2, List.length_drop, HN.out]
          have hl2c : ys2.length = N - k := by rw [hl2]
          have hr1 : ∀ W G, Rel itE W G ys1 (cs.take (k * 6)) := fun W G => by rw [← hy1]; exact (hrel.take k).flat itE_flat
          have hr2 : ∀ W G, Rel itE W G ys2 (cs.drop (k * 6)) := fun W G => by rw [← hy2]; exact (hrel.drop k).flat itE_flat
          have hat1 : ∀ W, Upd Non w W → At W F (some ⟨b1, o1, none⟩) (cs.take (k * 6)) := fun W hu => (hat.take (k * 6)).keep fun x hx => hu.block x (hfin x hx) id
          have hat2 : ∀ W, Upd Non w W → At W F (some ⟨b1, o1 + k * 6, none⟩) (cs.drop (k * 6)) := fun W hu => by
            have := hat.cut k c 6 l.length hrel.length (by rw [HN.out]; exact hc)
            rw [if_neg hck] at this; simp only [Option.map_some, add_mk] at this
            exact this.keep fun x hx => hu.block x (hfin x hx) id
          have hpw : ∀ W', Upd Non w W' → W'.heap[p]? = some (.cells #[.slice (some ⟨b1, o1, none⟩) N c] 51 (0, 0)) := fun W' hu => (hu.block p hplt id).trans HBB.out
          have hadd3 : addR l x = (true, ys3 ++ ys2) := by rw [HA.out, ← hy3, hy1, hy2]; simp
          have HQ := Lib.hid hpw
          have HY := Lib.hid (And.intro hl1 (And.intro hl2c (And.intro hadd3 hy3)))
          have h63a : ([] : List It).length + ys1.length ≤ maxLen := by rw [maxLen_eq, hl1]; simp; omega
          have h48a : (([] : List It).length + ys1.length) * 48 ≤ 140737488355328 := by rw [hl1]; simp; omega
          have h63b : ys1.length + [x].length ≤ maxLen := by rw [maxLen_eq, hl1]; simp; omega
          have h48b : (ys1.length + [x].length) * 48 ≤ 140737488355328 := by rw [hl1]; simp; omega
          have h63c : ys3.length + ys2.length ≤ maxLen := by rw [maxLen_eq, ← hy3, List.length_append, hl1, hl2]; simp; omega
          have h48c : (ys3.length + ys2.length) * 48 ≤ 140737488355328 := by rw [← hy3, List.length_append, hl1, hl2]; simp; omega
          have hxr : ∀ W G, Rel itE W G [x] x.cells := fun W G => ⟨x.cells, [], by simp, ⟨rfl, hx⟩, rfl⟩
          have kz : (0 : Int) ≤ k := by omega
          have kc : (k : Int) ≤ c := by omega
          have kn : (k : Int) ≤ N := by omega
          obtain ⟨n0, n1, n2, n3, n4, n5⟩ := HX.out _ huW
          have q6 : W6.cell? ⟨p, 0, none⟩ = some (.slice (some ⟨b1, o1, none⟩) N c) := blk_at (HQ.out _ hu6) 0
          have hp6 : p < W6.heap.size := Nat.lt_of_lt_of_le hplt hu6.size
          have hlg : w.heap.size < W6.heap.size := Nat.lt_of_lt_of_le hls huW.size
          clear hl1 hl2 hl2c hadd3 hy1 hy2 hy3 hat hrel hr hpw
          go_wp2_with fail
          go_region_law (first
            | (refine step_append (E := itE) (e := 40) (F := Non) (xs := []) (ys := ys1) _ rfl (.tmp 45) (.tmp 51) 49 rfl _ 48 Try.underlying49 info40 rfl (by decide) rfl (Own.empty _ _ _ _ _) (some ⟨b1, o1, none⟩) c (by rw [HY.out.1]; rfl) _ Non (hat1 _ (by upn)) (hr1 _ _) (fun _ h => h.elim) (Fin.non _) h63a h48a ?_; intro v2 w2 hu2 ho2; rw [List.nil_append] at ho2; obtain ⟨A2, c2, rfl, hc2, _⟩ := ho2.shape; have hu02 : Upd Non w w2 := Upd.trans (by upn) hu2; have huW2 : Upd Non W w2 := Upd.trans (by upn) hu2; have q2 : w2.cell? ⟨p, 0, none⟩ = some (.slice (some ⟨b1, o1, none⟩) N c) := blk_at (HQ.out _ hu02) 0; obtain ⟨x0, x1, x2, x3, x4, x5⟩ := HX.out _ huW2; have ho2' := scr_new (w := w) (by upn) ho2; first | (have hbB := keep_box (g := W6.heap.size) (o := .cells x.cells.toArray 40 (0, 0)) (by exact box_fst _ _ x) hu2) | (have hbB := keep_box (g := W6.heap.size + 1) (o := .cells x.cells.toArray 40 (0, 0)) (by exact box_snd _ _ x) hu2) | skip)
            | (refine step_append (E := itE) (e := 40) (F := New w w2) (xs := ys1) (ys := [x]) _ rfl (.tmp 52) (.tmp 54) 49 rfl _ 48 Try.underlying49 info40 rfl (by decide) rfl (ho2'.upd (S := Non) (by upn) (fun k hk => ⟨hk.2, id⟩)) (some ⟨w2.heap.size, 0, none⟩) 1 rfl x.cells Non (at_cells (heap_alloc_new w2 _)) (hxr _ _) (fun _ h => h.elim) (Fin.new.upd (S := Non) (by upn)) h63b h48b ?_; intro v3 w3 hu3 ho3; obtain ⟨hu03, ho3'⟩ := scr_next2 hu02 (by upn) hu3 ho3; rw [HY.out.2.2.2] at ho3'; obtain ⟨A3, c3, rfl, hc3, _⟩ := ho3'.shape; have q3 : w3.cell? ⟨p, 0, none⟩ = some (.slice (some ⟨b1, o1, none⟩) N c) := blk_at (HQ.out _ hu03) 0)
            | (refine step_append (E := itE) (e := 40) (F := New w w2) (xs := ys1) (ys := [x]) _ rfl (.tmp 52) (.tmp 54) 49 rfl _ 48 Try.underlying49 info40 rfl (by decide) rfl (ho2'.upd (S := Non) (by upn) (fun k hk => ⟨hk.2, id⟩)) (some ⟨W6.heap.size, 0, none⟩) 1 rfl x.cells Non (at_cells hbB) (hxr _ _) (fun _ h => h.elim) (Fin.new.upd (S := Non) (by upn)) h63b h48b ?_; intro v3 w3 hu3 ho3; obtain ⟨hu03, ho3'⟩ := scr_next2 hu02 (by upn) hu3 ho3; rw [HY.out.2.2.2] at ho3'; obtain ⟨A3, c3, rfl, hc3, _⟩ := ho3'.shape; have q3 : w3.cell? ⟨p, 0, none⟩ = some (.slice (some ⟨b1, o1, none⟩) N c) := blk_at (HQ.out _ hu03) 0)
            | (refine step_append (E := itE) (e := 40) (F := New w w2) (xs := ys1) (ys := [x]) _ rfl (.tmp 52) (.tmp 54) 49 rfl _ 48 Try.underlying49 info40 rfl (by decide) rfl (ho2'.upd (S := Non) (by upn) (fun k hk => ⟨hk.2, id⟩)) (some ⟨W6.heap.size + 1, 0, none⟩) 1 rfl x.cells Non (at_cells hbB) (hxr _ _) (fun _ h => h.elim) (Fin.new.upd (S := Non) (by upn)) h63b h48b ?_; intro v3 w3 hu3 ho3; obtain ⟨hu03, ho3'⟩ := scr_next2 hu02 (by upn) hu3 ho3; rw [HY.out.2.2.2] at ho3'; obtain ⟨A3, c3, rfl, hc3, _⟩ := ho3'.shape; have q3 : w3.cell? ⟨p, 0, none⟩ = some (.slice (some ⟨b1, o1, none⟩) N c) := blk_at (HQ.out _ hu03) 0))
          all_goals go_wp2_with (at_builtin; refine wpList_append (E := itE) (e := 40) (F := New w w3) (xs := ys3) (ys := ys2) _ rfl (.tmp 57) (.tmp 63) 49 rfl _ 48 Try.underlying49 info40 rfl (by decide) rfl (ho3'.upd (S := Non) (by upn) (fun k hk => ⟨hk.2, id⟩)) (some ⟨b1, o1 + k * 6, none⟩) (c - k) (by rw [HY.out.2.1]; rfl) _ Non (hat2 _ (by upn)) (hr2 _ _) (fun _ h => h.elim) (Fin.new.upd (S := Non) (by upn)) h63c h48c ?_; intro v4 w4 hu4 ho4; obtain ⟨hu04, ho4'⟩ := scr_next2 hu03 (by upn) hu4 ho4; have hend := radd_end (x := x) (F := F) (HQ.out _ (Upd.refl Non w)) hplt hu04 HY.out.2.2.1 ho4'; obtain ⟨A4, c4, rfl, hc4, _⟩ := ho4'.shape; rw [List.length_append] at hend; have hb4 := HQ.out _ hu04; have f4 : w4.frozen? ⟨p, 0, none⟩ = false := blk_free hb4 0; have q4 : w4.cell? ⟨p, 0, none⟩ = some (.slice (some ⟨b1, o1, none⟩) N c) := blk_at hb4 0)
          all_goals (go_ret; exact hend)
      · simp only [hc1, It.cells] at HL
        have hlow' : ∀ j (hj : j < l.length), j < k + 1 → ltB l[j] x = true := fun j hj h1 => by
          rcases Nat.lt_or_ge j k with h2 | h2
          · exact hlow.out j hj h2
          · obtain rfl : j = k := by omega
            rw [HY.out]; exact hc1
        have HLW := Lib.hid hlow'
        clear hc1 hlow'
        go_wp2_with fail
        go_region_held3 (fun W' => W'.cell? ⟨p, 0, none⟩ = some (.slice (some ⟨b1, o1, none⟩) N c) ∧ W'.cell? ⟨b1, o1 + k * 6, none⟩ = some (.int .i64 y.at_) ∧ W'.cell? ⟨b1, o1 + k * 6 + 1, none⟩ = some (.int .i64 y.flow) ∧ W'.cell? ⟨b1, o1 + k * 6 + 2, none⟩ = some (.int .i64 y.run) ∧ W'.cell? ⟨b1, o1 + k * 6 + 3, none⟩ = some (.int .i64 y.ref) ∧ W'.cell? ⟨b1, o1 + k * 6 + 4, none⟩ = some (.int .i64 y.turn) ∧ W'.cell? ⟨b1, o1 + k * 6 + 5, none⟩ = some (.int .i64 y.kind) ∧ W'.cell? ⟨w.heap.size, 0, none⟩ = some (.int .i64 x.at_) ∧ W'.cell? ⟨w.heap.size, 1, none⟩ = some (.int .i64 x.flow) ∧ W'.cell? ⟨w.heap.size, 2, none⟩ = some (.int .i64 x.run) ∧ W'.cell? ⟨w.heap.size, 3, none⟩ = some (.int .i64 x.ref) ∧ W'.cell? ⟨w.heap.size, 4, none⟩ = some (.int .i64 x.turn) ∧ W'.cell? ⟨w.heap.size, 5, none⟩ = some (.int .i64 x.kind))
          (first | exact S0 | exact Sa | go_keep)
          ((go_at_call 16; (with_reducible refine (HL _).mono ?_); rintro e wq ⟨rfl, huq⟩; have Sa := HC.out wq (((Upd.refl _ _).drew).trans huq)))
        have huWq : Upd Non W wq := (hu.drew).trans huq
        go_wp2_with fail
        go_roundw
        case rel => exact ⟨k + 1, by omega, by go_num, by upn, HLW⟩
        case measure => simp [intOf]; omega
    · obtain rfl : k = N := by omega
      have hpos : pos l x = k := pos_eq l x k (by rw [HN.out]; exact hk) hlow.out (fun hj => absurd hj (by rw [HN.out]; omega))
      have hadd : addR l x = (true, l.take k ++ x :: l.drop k) := by unfold addR; rw [hpos, List.getElem?_eq_none (by rw [HN.out]; exact Nat.le_refl _), if_neg (by simp)]
      have HA := Lib.hid hadd
      clear hpos hadd
      have q0' := fun n => HP.out (wr.drewN n) (hu.drewN n)
      go_wp2_with fail
      go_quiet (fail)
      have hu5 : Upd Non W (wr.drewN nq) := hu.drewN _
      generalize wr.drewN nq = W5 at hu5 ⊢
      have q5 := HP.out W5.drew hu5.drew
      have q5' := fun n => HP.out (W5.drewN n) (hu5.drewN n)
      go_wp2_with fail
      go_quiet (fail)
      have huW : Upd Non W (W5.drewN nq) := hu5.drewN _
      have hu6 : Upd Non w (W5.drewN nq) := (hu0.trans hu5).drewN _
      generalize W5.drewN nq = W6 at huW hu6 ⊢
      clear q0 q0' q5 q5' hu5 hlow
      by_cases hck : c = k
      · obtain rfl : k = c := hck.symm
        obtain ⟨A0, c0', cs, ev, _, _, hat, hrel⟩ := id hr
        rw [HN.out] at ev
        cases ev
        obtain ⟨ys1, hy1⟩ : ∃ y, l.take k = y := ⟨_, rfl⟩
        obtain ⟨ys2, hy2⟩ : ∃ y, l.drop k = y := ⟨_, rfl⟩
        obtain ⟨ys3, hy3⟩ : ∃ y, ys1 ++ [x] = y := ⟨_, rfl⟩
        have hl1 : ys1.length = k := by rw [← hy1, List.length_take, HN.out]; omega
        have hl2 : ys2.length = k - k := by rw [← hy2, List.length_drop, HN.out]
        have hl2c : ys2.length = 0 := by rw [hl2]; omega
        have hr1 : ∀ W G, Rel itE W G ys1 (cs.take (k * 6)) := fun W G => by rw [← hy1]; exact (hrel.take k).flat itE_flat
        have hr2 : ∀ W G, Rel itE W G ys2 (cs.drop (k * 6)) := fun W G => by rw [← hy2]; exact (hrel.drop k).flat itE_flat
        have hat1 : ∀ W, Upd Non w W → At W F (A) (cs.take (k * 6)) := fun W hu => (hat.take (k * 6)).keep fun x hx => hu.block x (hfin x hx) id
        have hat2 : ∀ W, Upd Non w W → At W F (A) (cs.drop (k * 6)) := fun W hu => by
          have := hat.cut k k 6 l.length hrel.length (by rw [HN.out]; exact hc)
          rw [if_pos rfl] at this
          exact this.keep fun x hx => hu.block x (hfin x hx) id
        have hpw : ∀ W', Upd Non w W' → W'.heap[p]? = some (.cells #[.slice (A) k k] 51 (0, 0)) := fun W' hu => (hu.block p hplt id).trans HBB.out
        have hadd3 : addR l x = (true, ys3 ++ ys2) := by rw [HA.out, ← hy3, hy1, hy2]; simp
        have HQ := Lib.hid hpw
        have HY := Lib.hid (And.intro hl1 (And.intro hl2c (And.intro hadd3 hy3)))
        have h63a : ([] : List It).length + ys1.length ≤ maxLen := by rw [maxLen_eq, hl1]; simp; omega
        have h48a : (([] : List It).length + ys1.length) * 48 ≤ 140737488355328 := by rw [hl1]; simp; omega
        have h63b : ys1.length + [x].length ≤ maxLen := by rw [maxLen_eq, hl1]; simp; omega
        have h48b : (ys1.length + [x].length) * 48 ≤ 140737488355328 := by rw [hl1]; simp; omega
        have h63c : ys3.length + ys2.length ≤ maxLen := by rw [maxLen_eq, ← hy3, List.length_append, hl1, hl2]; simp; omega
        have h48c : (ys3.length + ys2.length) * 48 ≤ 140737488355328 := by rw [← hy3, List.length_append, hl1, hl2]; simp; omega
        have hxr : ∀ W G, Rel itE W G [x] x.cells := fun W G => ⟨x.cells, [], by simp, ⟨rfl, hx⟩, rfl⟩
        have kz : (0 : Int) ≤ k := by omega
        have kc : (k : Int) ≤ k := by omega
        have kn : (k : Int) ≤ k := by omega
        obtain ⟨n0, n1, n2, n3, n4, n5⟩ := HX.out _ huW
        have q6 : W6.cell? ⟨p, 0, none⟩ = some (.slice (A) k k) := blk_at (HQ.out _ hu6) 0
        have hp6 : p < W6.heap.size := Nat.lt_of_lt_of_le hplt hu6.size
        have hlg : w.heap.size < W6.heap.size := Nat.lt_of_lt_of_le hls huW.size
        clear hl1 hl2 hl2c hadd3 hy1 hy2 hy3 hat hrel hr hpw
        go_wp2_with fail
        go_region_law (first
          | (refine step_append (E := itE) (e := 40) (F := Non) (xs := []) (ys := ys1) _ rfl (.tmp 45) (.tmp 51) 49 rfl _ 48 Try.underlying49 info40 rfl (by decide) rfl (Own.empty _ _ _ _ _) (A) k (by rw [HY.out.1]; rfl) _ Non (hat1 _ (by upn)) (hr1 _ _) (fun _ h => h.elim) (Fin.non _) h63a h48a ?_; intro v2 w2 hu2 ho2; rw [List.nil_append] at ho2; obtain ⟨A2, c2, rfl, hc2, _⟩ := ho2.shape; have hu02 : Upd Non w w2 := Upd.trans (by upn) hu2; have huW2 : Upd Non W w2 := Upd.trans (by upn) hu2; have q2 : w2.cell? ⟨p, 0, none⟩ = some (.slice (A) k k) := blk_at (HQ.out _ hu02) 0; obtain ⟨x0, x1, x2, x3, x4, x5⟩ := HX.out _ huW2; have ho2' := scr_new (w := w) (by upn) ho2; first | (have hbB := keep_box (g := W6.heap.size) (o := .cells x.cells.toArray 40 (0, 0)) (by exact box_fst _ _ x) hu2) | (have hbB := keep_box (g := W6.heap.size + 1) (o := .cells x.cells.toArray 40 (0, 0)) (by exact box_snd _ _ x) hu2) | skip)
          | (refine step_append (E := itE) (e := 40) (F := New w w2) (xs := ys1) (ys := [x]) _ rfl (.tmp 52) (.tmp 54) 49 rfl _ 48 Try.underlying49 info40 rfl (by decide) rfl (ho2'.upd (S := Non) (by upn) (fun k hk => ⟨hk.2, id⟩)) (some ⟨w2.heap.size, 0, none⟩) 1 rfl x.cells Non (at_cells (heap_alloc_new w2 _)) (hxr _ _) (fun _ h => h.elim) (Fin.new.upd (S := Non) (by upn)) h63b h48b ?_; intro v3 w3 hu3 ho3; obtain ⟨hu03, ho3'⟩ := scr_next2 hu02 (by upn) hu3 ho3; rw [HY.out.2.2.2] at ho3'; obtain ⟨A3, c3, rfl, hc3, _⟩ := ho3'.shape; have q3 : w3.cell? ⟨p, 0, none⟩ = some (.slice (A) k k) := blk_at (HQ.out _ hu03) 0)
          | (refine step_append (E := itE) (e := 40) (F := New w w2) (xs := ys1) (ys := [x]) _ rfl (.tmp 52) (.tmp 54) 49 rfl _ 48 Try.underlying49 info40 rfl (by decide) rfl (ho2'.upd (S := Non) (by upn) (fun k hk => ⟨hk.2, id⟩)) (some ⟨W6.heap.size, 0, none⟩) 1 rfl x.cells Non (at_cells hbB) (hxr _ _) (fun _ h => h.elim) (Fin.new.upd (S := Non) (by upn)) h63b h48b ?_; intro v3 w3 hu3 ho3; obtain ⟨hu03, ho3'⟩ := scr_next2 hu02 (by upn) hu3 ho3; rw [HY.out.2.2.2] at ho3'; obtain ⟨A3, c3, rfl, hc3, _⟩ := ho3'.shape; have q3 : w3.cell? ⟨p, 0, none⟩ = some (.slice (A) k k) := blk_at (HQ.out _ hu03) 0)
          | (refine step_append (E := itE) (e := 40) (F := New w w2) (xs := ys1) (ys := [x]) _ rfl (.tmp 52) (.tmp 54) 49 rfl _ 48 Try.underlying49 info40 rfl (by decide) rfl (ho2'.upd (S := Non) (by upn) (fun k hk => ⟨hk.2, id⟩)) (some ⟨W6.heap.size + 1, 0, none⟩) 1 rfl x.cells Non (at_cells hbB) (hxr _ _) (fun _ h => h.elim) (Fin.new.upd (S := Non) (by upn)) h63b h48b ?_; intro v3 w3 hu3 ho3; obtain ⟨hu03, ho3'⟩ := scr_next2 hu02 (by upn) hu3 ho3; rw [HY.out.2.2.2] at ho3'; obtain ⟨A3, c3, rfl, hc3, _⟩ := ho3'.shape; have q3 : w3.cell? ⟨p, 0, none⟩ = some (.slice (A) k k) := blk_at (HQ.out _ hu03) 0))
        all_goals go_wp2_with (at_builtin; refine wpList_append (E := itE) (e := 40) (F := New w w3) (xs := ys3) (ys := ys2) _ rfl (.tmp 57) (.tmp 63) 49 rfl _ 48 Try.underlying49 info40 rfl (by decide) rfl (ho3'.upd (S := Non) (by upn) (fun k hk => ⟨hk.2, id⟩)) (A) (0) (by rw [HY.out.2.1]; rfl) _ Non (hat2 _ (by upn)) (hr2 _ _) (fun _ h => h.elim) (Fin.new.upd (S := Non) (by upn)) h63c h48c ?_; intro v4 w4 hu4 ho4; obtain ⟨hu04, ho4'⟩ := scr_next2 hu03 (by upn) hu4 ho4; have hend := radd_end (x := x) (F := F) (HQ.out _ (Upd.refl Non w)) hplt hu04 HY.out.2.2.1 ho4'; obtain ⟨A4, c4, rfl, hc4, _⟩ := ho4'.shape; rw [List.length_append] at hend; have hb4 := HQ.out _ hu04; have f4 : w4.frozen? ⟨p, 0, none⟩ = false := blk_free hb4 0; have q4 : w4.cell? ⟨p, 0, none⟩ = some (.slice (A) k k) := blk_at hb4 0)
        all_goals (go_ret; exact hend)
      · skip
        obtain ⟨A0, c0', cs, ev, _, _, hat, hrel⟩ := id hr
        rw [HN.out] at ev
        cases ev
        obtain ⟨ys1, hy1⟩ : ∃ y, l.take k = y := ⟨_, rfl⟩
        obtain ⟨ys2, hy2⟩ : ∃ y, l.drop k = y := ⟨_, rfl⟩
        obtain ⟨ys3, hy3⟩ : ∃ y, ys1 ++ [x] = y := ⟨_, rfl⟩
        have hl1 : ys1.length = k := by rw [← hy1, List.length_take, HN.out]; omega
        have hl2 : ys2.length = k - k := by rw [← hy2, List.length_drop, HN.out]
        have hl2c : ys2.length = 0 := by rw [hl2]; omega
        have hr1 : ∀ W G, Rel itE W G ys1 (cs.take (k * 6)) := fun W G => by rw [← hy1]; exact (hrel.take k).flat itE_flat
        have hr2 : ∀ W G, Rel itE W G ys2 (cs.drop (k * 6)) := fun W G => by rw [← hy2]; exact (hrel.drop k).flat itE_flat
        have hat1 : ∀ W, Upd Non w W → At W F (A) (cs.take (k * 6)) := fun W hu => (hat.take (k * 6)).keep fun x hx => hu.block x (hfin x hx) id
        have hat2 : ∀ W, Upd Non w W → At W F (A.map (·.add (k * 6))) (cs.drop (k * 6)) := fun W hu => by
          have := hat.cut k c 6 l.length hrel.length (by rw [HN.out]; exact hc)
          rw [if_neg hck] at this
          exact this.keep fun x hx => hu.block x (hfin x hx) id
        have hpw : ∀ W', Upd Non w W' → W'.heap[p]? = some (.cells #[.slice (A) k c] 51 (0, 0)) := fun W' hu => (hu.block p hplt id).trans HBB.out
        have hadd3 : addR l x = (true, ys3 ++ ys2) := by rw [HA.out, ← hy3, hy1, hy2]; simp
        have HQ := Lib.hid hpw
        have HY := Lib.hid (And.intro hl1 (And.intro hl2c (And.intro hadd3 hy3)))
        have h63a : ([] : List It).length + ys1.length ≤ maxLen := by rw [maxLen_eq, hl1]; simp; omega
        have h48a : (([] : List It).length + ys1.length) * 48 ≤ 140737488355328 := by rw [hl1]; simp; omega
        have h63b : ys1.length + [x].length ≤ maxLen := by rw [maxLen_eq, hl1]; simp; omega
        have h48b : (ys1.length + [x].length) * 48 ≤ 140737488355328 := by rw [hl1]; simp; omega
        have h63c : ys3.length + ys2.length ≤ maxLen := by rw [maxLen_eq, ← hy3, List.length_append, hl1, hl2]; simp; omega
        have h48c : (ys3.length + ys2.length) * 48 ≤ 140737488355328 := by rw [← hy3, List.length_append, hl1, hl2]; simp; omega
        have hxr : ∀ W G, Rel itE W G [x] x.cells := fun W G => ⟨x.cells, [], by simp, ⟨rfl, hx⟩, rfl⟩
        have kz : (0 : Int) ≤ k := by omega
        have kc : (k : Int) ≤ c := by omega
        have kn : (k : Int) ≤ k := by omega
        obtain ⟨n0, n1, n2, n3, n4, n5⟩ := HX.out _ huW
        have q6 : W6.cell? ⟨p, 0, none⟩ = some (.slice (A) k c) := blk_at (HQ.out _ hu6) 0
        have hp6 : p < W6.heap.size := Nat.lt_of_lt_of_le hplt hu6.size
        have hlg : w.heap.size < W6.heap.size := Nat.lt_of_lt_of_le hls huW.size
        clear hl1 hl2 hl2c hadd3 hy1 hy2 hy3 hat hrel hr hpw
        go_wp2_with fail
        go_region_law (first
          | (refine step_append (E := itE) (e := 40) (F := Non) (xs := []) (ys := ys1) _ rfl (.tmp 45) (.tmp 51) 49 rfl _ 48 Try.underlying49 info40 rfl (by decide) rfl (Own.empty _ _ _ _ _) (A) c (by rw [HY.out.1]; rfl) _ Non (hat1 _ (by upn)) (hr1 _ _) (fun _ h => h.elim) (Fin.non _) h63a h48a ?_; intro v2 w2 hu2 ho2; rw [List.nil_append] at ho2; obtain ⟨A2, c2, rfl, hc2, _⟩ := ho2.shape; have hu02 : Upd Non w w2 := Upd.trans (by upn) hu2; have huW2 : Upd Non W w2 := Upd.trans (by upn) hu2; have q2 : w2.cell? ⟨p, 0, none⟩ = some (.slice (A) k c) := blk_at (HQ.out _ hu02) 0; obtain ⟨x0, x1, x2, x3, x4, x5⟩ := HX.out _ huW2; have ho2' := scr_new (w := w) (by upn) ho2; first | (have hbB := keep_box (g := W6.heap.size) (o := .cells x.cells.toArray 40 (0, 0)) (by exact box_fst _ _ x) hu2) | (have hbB := keep_box (g := W6.heap.size + 1) (o := .cells x.cells.toArray 40 (0, 0)) (by exact box_snd _ _ x) hu2) | skip)
          | (refine step_append (E := itE) (e := 40) (F := New w w2) (xs := ys1) (ys := [x]) _ rfl (.tmp 52) (.tmp 54) 49 rfl _ 48 Try.underlying49 info40 rfl (by decide) rfl (ho2'.upd (S := Non) (by upn) (fun k hk => ⟨hk.2, id⟩)) (some ⟨w2.heap.size, 0, none⟩) 1 rfl x.cells Non (at_cells (heap_alloc_new w2 _)) (hxr _ _) (fun _ h => h.elim) (Fin.new.upd (S := Non) (by upn)) h63b h48b ?_; intro v3 w3 hu3 ho3; obtain ⟨hu03, ho3'⟩ := scr_next2 hu02 (by upn) hu3 ho3; rw [HY.out.2.2.2] at ho3'; obtain ⟨A3, c3, rfl, hc3, _⟩ := ho3'.shape; have q3 : w3.cell? ⟨p, 0, none⟩ = some (.slice (A) k c) := blk_at (HQ.out _ hu03) 0)
          | (refine step_append (E := itE) (e := 40) (F := New w w2) (xs := ys1) (ys := [x]) _ rfl (.tmp 52) (.tmp 54) 49 rfl _ 48 Try.underlying49 info40 rfl (by decide) rfl (ho2'.upd (S := Non) (by upn) (fun k hk => ⟨hk.2, id⟩)) (some ⟨W6.heap.size, 0, none⟩) 1 rfl x.cells Non (at_cells hbB) (hxr _ _) (fun _ h => h.elim) (Fin.new.upd (S := Non) (by upn)) h63b h48b ?_; intro v3 w3 hu3 ho3; obtain ⟨hu03, ho3'⟩ := scr_next2 hu02 (by upn) hu3 ho3; rw [HY.out.2.2.2] at ho3'; obtain ⟨A3, c3, rfl, hc3, _⟩ := ho3'.shape; have q3 : w3.cell? ⟨p, 0, none⟩ = some (.slice (A) k c) := blk_at (HQ.out _ hu03) 0)
          | (refine step_append (E := itE) (e := 40) (F := New w w2) (xs := ys1) (ys := [x]) _ rfl (.tmp 52) (.tmp 54) 49 rfl _ 48 Try.underlying49 info40 rfl (by decide) rfl (ho2'.upd (S := Non) (by upn) (fun k hk => ⟨hk.2, id⟩)) (some ⟨W6.heap.size + 1, 0, none⟩) 1 rfl x.cells Non (at_cells hbB) (hxr _ _) (fun _ h => h.elim) (Fin.new.upd (S := Non) (by upn)) h63b h48b ?_; intro v3 w3 hu3 ho3; obtain ⟨hu03, ho3'⟩ := scr_next2 hu02 (by upn) hu3 ho3; rw [HY.out.2.2.2] at ho3'; obtain ⟨A3, c3, rfl, hc3, _⟩ := ho3'.shape; have q3 : w3.cell? ⟨p, 0, none⟩ = some (.slice (A) k c) := blk_at (HQ.out _ hu03) 0))
        all_goals go_wp2_with (at_builtin; refine wpList_append (E := itE) (e := 40) (F := New w w3) (xs := ys3) (ys := ys2) _ rfl (.tmp 57) (.tmp 63) 49 rfl _ 48 Try.underlying49 info40 rfl (by decide) rfl (ho3'.upd (S := Non) (by upn) (fun k hk => ⟨hk.2, id⟩)) (A.map (·.add (k * 6))) (c - k) (by rw [HY.out.2.1]; rfl) _ Non (hat2 _ (by upn)) (hr2 _ _) (fun _ h => h.elim) (Fin.new.upd (S := Non) (by upn)) h63c h48c ?_; intro v4 w4 hu4 ho4; obtain ⟨hu04, ho4'⟩ := scr_next2 hu03 (by upn) hu4 ho4; have hend := radd_end (x := x) (F := F) (HQ.out _ (Upd.refl Non w)) hplt hu04 HY.out.2.2.1 ho4'; obtain ⟨A4, c4, rfl, hc4, _⟩ := ho4'.shape; rw [List.length_append] at hend; have hb4 := HQ.out _ hu04; have f4 : w4.frozen? ⟨p, 0, none⟩ = false := blk_free hb4 0; have q4 : w4.cell? ⟨p, 0, none⟩ = some (.slice (A) k c) := blk_at hb4 0)
        all_goals (go_ret; exact hend)
end Go.Proofs.Ytnaldifgnpnbhaa
