/-
  The walks of a clock that turn one alarm.
-/
import Derived.Test.YtgjikmpeeipboaaC1
namespace Go.Proofs.Ytgjikmpeeipboaa
open Go.RowKit
theorem newClock_spec (w : World) : Calls Try.prog 12 #[] w fun e w' => e = .returned (.pointer (some ⟨w.heap.size + 1, 0, none⟩)) ∧ Upd Non w w' ∧ ClkAt w' (w.heap.size + 1) w.heap.size 0 0 [] ∧ w'.heap.size = w.heap.size + 2 := by
  have hown : (w.alloc (.map #[] 0)).ownsMap Try.prog 3 (plainElem (H := Unit) Try.prog 3) w.heap.size 0 (.map []) := World.ownsMap_made w Try.prog 3 _
  have hfin : ∀ o : Obj, o = .cells #[.int .i64 0, .map (some w.heap.size)] 63 → Upd Non w ((w.alloc (.map #[] 0)).alloc o) ∧ ClkAt ((w.alloc (.map #[] 0)).alloc o) (w.heap.size + 1) w.heap.size 0 0 [] ∧ ((w.alloc (.map #[] 0)).alloc o).heap.size = w.heap.size + 2 := by
    rintro o rfl
    refine ⟨((Upd.refl _ _).alloc _).alloc _, ⟨?_, by omega, ⟨_, hown.alloc _, MapL.nil⟩, List.Pairwise.nil, fun y h => by cases h⟩, by simp⟩
    have := heap_alloc_new (w.alloc (.map #[] 0)) (.cells #[.int .i64 0, .map (some w.heap.size)] 63)
    simpa using this
  have hf := hfin _ rfl
  have hmm := @run_makeMap Try.prog
  clear hfin hown
  go_enter Try.func12, Try.ntmps12
  go_wp2
  go_ret
  exact ⟨by simp, hf⟩
theorem now_spec (w : World) (p b n : Nat) (t : Int) (L : List Alm) (h : ClkAt w p b n t L) : Calls Try.prog 17 #[.pointer (some ⟨p, 0, none⟩)] w fun e w' => e = .returned (.int .i64 t) ∧ w = w' := by
  have c0 : w.cell? ⟨p, 0, none⟩ = some (.int .i64 t) := blk_at h.1 0
  go_enter Try.func17, Try.ntmps17
  go_wp2
  go_ret
  exact ⟨rfl, rfl⟩

/-- the tick behind Tick -/
def tickT (t n : Int) : Int := if 1 ≤ n ∧ n ≤ 1048576 then t + n else t
def TickPost (w : World) (p b m : Nat) (t n : Int) (L : List Alm) (e : Ending) (w' : World) : Prop := e = .returned (.int .i64 (tickT t n)) ∧ Upd (fun k => k = p) w w' ∧ ClkAt w' p b m (tickT t n) L
theorem tick_spec (w : World) (p b m : Nat) (t n : Int) (L : List Alm) (h : ClkAt w p b m t L) (ht : 0 ≤ t ∧ t ≤ 1000000000000) : Calls Try.prog 14 #[.pointer (some ⟨p, 0, none⟩), .int .i64 n] w (TickPost w p b m t n L) := by
  have c0 : w.cell? ⟨p, 0, none⟩ = some (.int .i64 t) := blk_at h.1 0
  have f0 : w.frozen? ⟨p, 0, none⟩ = false := blk_free h.1 0
  by_cases h1 : 1 ≤ n
  · by_cases h2 : n ≤ 1048576
    · have t1 : decide (1 ≤ n) = true := decide_eq_true h1
      have t2 : decide (n ≤ 1048576) = true := decide_eq_true h2
      have hend : TickPost w p b m t n L (.returned (.int .i64 (t + n))) (w.setCell ⟨p, 0, none⟩ (.int .i64 (t + n))) := by
        simp only [TickPost, tickT, if_pos (show 1 ≤ n ∧ n ≤ 1048576 from ⟨h1, h2⟩)]
        have hu : Upd (fun k => k = p) w (w.setCell ⟨p, 0, none⟩ (.int .i64 (t + n))) := Upd.set (S := fun k => k = p) (Upd.refl _ w) (p := ⟨p, 0, none⟩) (.inr rfl) _
        obtain ⟨k1, k2, ⟨D, k3, k4⟩, k5⟩ := h
        refine ⟨trivial, hu, ?_, k2, ⟨D, owns_upd k3 (hu.block b k3.lt fun e => k2 e.symm), k4⟩, k5⟩
        have := blk_set k1 0 (.int .i64 (t + n))
        simpa using this
      clear h
      go_enter Try.func14, Try.ntmps14
      go_wp2
      go_ret
      exact hend
    · have t1 : decide (1 ≤ n) = true := decide_eq_true h1
      have t2 : decide (n ≤ 1048576) = false := decide_eq_false h2
      have hend : TickPost w p b m t n L (.returned (.int .i64 t)) w := by
        simp only [TickPost, tickT, if_neg (show ¬ (1 ≤ n ∧ n ≤ 1048576) from fun h => h2 h.2)]
        exact ⟨trivial, Upd.refl _ _, h⟩
      clear h
      go_enter Try.func14, Try.ntmps14
      go_wp2
      go_ret
      exact hend
  · have t1 : decide (1 ≤ n) = false := decide_eq_false h1
    have hend : TickPost w p b m t n L (.returned (.int .i64 t)) w := by
      simp only [TickPost, tickT, if_neg (show ¬ (1 ≤ n ∧ n ≤ 1048576) from fun h => h1 h.1)]
      exact ⟨trivial, Upd.refl _ _, h⟩
    clear h
    go_enter Try.func14, Try.ntmps14
    go_wp2
    go_ret
    exact hend

/-- may the alarm be set? -/
def setB (t at_ : Int) : Bool := decide (t < at_) && decide (at_ ≤ 1099511627776)
def setR (L : List Alm) (t id at_ : Int) : List Alm := if setB t at_ then insL (delL L id) (id, at_) else delL L id
def SetPost (w : World) (p b n : Nat) (t id at_ : Int) (L : List Alm) (e : Ending) (w' : World) : Prop := e = .returned (.bool (setB t at_)) ∧ Upd (fun k => k = b) w w' ∧ ClkAt w' p b (n + 1) t (setR L t id at_)
theorem clk_del {w w' : World} {p b n : Nat} {t : Int} {L : List Alm} {D : DataW Unit} {x : Int} (h : ClkAt w p b n t L) (hL : MapL D L) (hown : w'.ownsMap Try.prog 3 (plainElem Try.prog 3) b n (D.del (.int .i64 x))) (hu : Upd (fun k => k = b) w w') : ClkAt w' p b n t (delL L x) :=
  ⟨(hu.block p (blk_lt h.1) h.2.1).trans h.1, h.2.1, ⟨_, hown, hL.del x⟩, srt_delL h.2.2.2.1 x, fun y hy => h.2.2.2.2 y (mem_delL.1 hy).1⟩
theorem clk_put {w w' : World} {p b n : Nat} {t : Int} {L : List Alm} {D : DataW Unit} {x v : Int} (h : ClkAt w p b n t L) (hL : MapL D L) (hD : Maps.IsMap D) (hx : x ∉ idsA L) (bx : IB x) (bv : IB v) (hown : w'.ownsMap Try.prog 3 (plainElem Try.prog 3) b (n + 1) (D.put (.int .i64 x) (.lit (.int .i64 v)))) (hu : Upd (fun k => k = b) w w') : ClkAt w' p b (n + 1) t (insL L (x, v)) :=
  ⟨(hu.block p (blk_lt h.1) h.2.1).trans h.1, h.2.1, ⟨_, hown, (hL.put hD x v (key3.key (key3_of bx)) hx).perm (insL_perm L (x, v)).symm⟩, srt_insL h.2.2.2.1 hx, fun y hy => (List.mem_cons.1 ((insL_perm L (x, v)).mem_iff.1 hy)).elim (fun e => by rw [e]; exact ⟨bx, bv⟩) (h.2.2.2.2 y)⟩
theorem set_spec (w : World) (p b n : Nat) (t id at_ : Int) (L : List Alm) (h : ClkAt w p b n t L) (hi : IB id) (ha : IB at_) (hn : n < 1000000) : Calls Try.prog 13 #[.pointer (some ⟨p, 0, none⟩), .int .i64 id, .int .i64 at_] w (SetPost w p b n t id at_ L) := by
  have c0 : w.cell? ⟨p, 0, none⟩ = some (.int .i64 t) := blk_at h.1 0
  have c1 : w.cell? ⟨p, 1, none⟩ = some (.map (some b)) := blk_at h.1 1
  obtain ⟨D, hown, hL⟩ := h.2.2.1
  have hk := key3_of hi
  have hblk := h.1
  have hpb := h.2.1
  have hdel := fun (w1 : World) (ho : w1.ownsMap Try.prog 3 (plainElem Try.prog 3) b n (D.del (.int .i64 id))) hu => clk_del h hL ho hu
  have hput := fun (w1 : World) (hc : ClkAt w1 p b n t (delL L id)) (w2 : World) ho hu => clk_put hc (hL.del id) (hown.isMap.del _) (by rw [ids_delL]; simp) hi ha (w' := w2) (v := at_) ho hu
  have hnl : n < maxLen := by rw [maxLen_eq]; omega
  clear h
  by_cases h1 : at_ ≤ t
  · have t1 : decide (at_ ≤ t) = true := decide_eq_true h1
    have e1 : setB t at_ = false := by simp [setB]; omega
    have hend : ∀ w', Upd (fun k => k = b) w w' → ClkAt w' p b n t (delL L id) → SetPost w p b n t id at_ L (.returned (.bool false)) w' := fun w' hu hc => by
      simp only [SetPost, setR, e1]
      exact ⟨trivial, hu, by simpa using hc.mono (Nat.le_succ n)⟩
    clear e1 hput
    go_enter Try.func13, Try.ntmps13
    go_wp2_with (at_delete; refine wpList_delete_own _ rfl _ _ 32 3 rfl 3 key3 Try.underlying32 _ b n D rfl hown _ _ rfl hk ?_; intro w1 hown1 ht1; have hu1 := mapTurned_upd ht1; have d0 : w1.cell? ⟨p, 0, none⟩ = some (.int .i64 t) := (hu1.cell (p := ⟨p, 0, none⟩) (blk_lt hblk) hpb).trans c0; have d1 : w1.cell? ⟨p, 1, none⟩ = some (.map (some b)) := (hu1.cell (p := ⟨p, 1, none⟩) (blk_lt hblk) hpb).trans c1)
    go_ret
    exact hend _ hu1 (hdel _ hown1 hu1)
  by_cases h2 : 1099511627776 < at_
  · have t1 : decide (at_ ≤ t) = false := decide_eq_false h1
    have t2 : decide (1099511627776 < at_) = true := decide_eq_true h2
    have e1 : setB t at_ = false := by simp [setB]; omega
    have hend : ∀ w', Upd (fun k => k = b) w w' → ClkAt w' p b n t (delL L id) → SetPost w p b n t id at_ L (.returned (.bool false)) w' := fun w' hu hc => by
      simp only [SetPost, setR, e1]
      exact ⟨trivial, hu, by simpa using hc.mono (Nat.le_succ n)⟩
    clear e1 hput
    go_enter Try.func13, Try.ntmps13
    go_wp2_with (at_delete; refine wpList_delete_own _ rfl _ _ 32 3 rfl 3 key3 Try.underlying32 _ b n D rfl hown _ _ rfl hk ?_; intro w1 hown1 ht1; have hu1 := mapTurned_upd ht1; have d0 : w1.cell? ⟨p, 0, none⟩ = some (.int .i64 t) := (hu1.cell (p := ⟨p, 0, none⟩) (blk_lt hblk) hpb).trans c0; have d1 : w1.cell? ⟨p, 1, none⟩ = some (.map (some b)) := (hu1.cell (p := ⟨p, 1, none⟩) (blk_lt hblk) hpb).trans c1)
    go_ret
    exact hend _ hu1 (hdel _ hown1 hu1)
  · have t1 : decide (at_ ≤ t) = false := decide_eq_false h1
    have t2 : decide (1099511627776 < at_) = false := decide_eq_false h2
    have e1 : setB t at_ = true := by simp [setB]; omega
    have hend : ∀ w', Upd (fun k => k = b) w w' → ClkAt w' p b (n + 1) t (insL (delL L id) (id, at_)) → SetPost w p b n t id at_ L (.returned (.bool true)) w' := fun w' hu hc => by
      simp only [SetPost, setR, e1]
      exact ⟨trivial, hu, by simpa using hc⟩
    have hval : plainElem (H := Unit) Try.prog 3 (.int .i64 at_) = some (.lit (.int .i64 at_), []) := plainElem_int Try.underlying3 (WalkArith.wf_i64 ha)
    clear e1
    go_enter Try.func13, Try.ntmps13
    go_wp2_with (first
      | (at_delete; refine wpList_delete_own _ rfl _ _ 32 3 rfl 3 key3 Try.underlying32 _ b n D rfl hown _ _ rfl hk ?_; intro w1 hown1 ht1; have hu1 := mapTurned_upd ht1; have d0 : w1.cell? ⟨p, 0, none⟩ = some (.int .i64 t) := (hu1.cell (p := ⟨p, 0, none⟩) (blk_lt hblk) hpb).trans c0; have d1 : w1.cell? ⟨p, 1, none⟩ = some (.map (some b)) := (hu1.cell (p := ⟨p, 1, none⟩) (blk_lt hblk) hpb).trans c1)
      | (at_mapUpdate; refine wpList_mapUpdate_in _ rfl _ _ _ 32 rfl 3 3 key3 Try.underlying32 _ b n _ rfl hown1 hnl _ _ _ rfl rfl hk _ [] hval ?_; intro w2 hown2 ht2))
    go_ret
    have hu2 := mapTurned_upd ht2
    exact hend _ (hu1.trans hu2) (hput _ (hdel _ hown1 hu1) _ hown2 hu2)

def DropPost (w : World) (p b n : Nat) (t id : Int) (L : List Alm) (e : Ending) (w' : World) : Prop := e = .returned (.bool (L.any fun y => y.1 == id)) ∧ Upd (fun k => k = b) w w' ∧ ClkAt w' p b n t (delL L id)
theorem drop_spec (w : World) (p b n : Nat) (t id : Int) (L : List Alm) (h : ClkAt w p b n t L) (hi : IB id) : Calls Try.prog 26 #[.pointer (some ⟨p, 0, none⟩), .int .i64 id] w (DropPost w p b n t id L) := by
  have c1 : w.cell? ⟨p, 1, none⟩ = some (.map (some b)) := blk_at h.1 1
  obtain ⟨D, hown, hL⟩ := h.2.2.1
  have hk := key3_of hi
  have hhas : Maps.has D (.int .i64 id) = L.any fun y => y.1 == id := by
    rw [Bool.eq_iff_iff, hL.2.1 id]
    simp [idsA]
  have hz : ∀ W, (zeroValue 3).run Try.prog W = .ok (.int .i64 0) W := Try.zeroValue3
  have hend : ∀ w', w'.ownsMap Try.prog 3 (plainElem Try.prog 3) b n (D.del (.int .i64 id)) → Upd (fun k => k = b) w w' → DropPost w p b n t id L (.returned (.bool (L.any fun y => y.1 == id))) w' := fun w' ho hu => ⟨rfl, hu, clk_del h hL ho hu⟩
  clear h
  generalize (L.any fun y => y.1 == id) = r at hhas hend
  go_enter Try.func26, Try.ntmps26
  go_wp2_with (first
    | (at_delete; refine wpList_delete_own _ rfl _ _ 32 3 rfl 3 key3 Try.underlying32 _ b n D rfl hown _ _ rfl hk ?_; intro w1 hown1 ht1)
    | (at_lookup; refine wpList_lookup_own_ok_int _ rfl _ _ 32 rfl 3 3 _ key3 Try.underlying32 Try.underlying3 (hz _) b n D rfl hown _ _ rfl hk ?_; intro c hat hwc; rw [hhas]))
  go_ret
  exact hend _ hown1 (mapTurned_upd ht1)
end Go.Proofs.Ytgjikmpeeipboaa
