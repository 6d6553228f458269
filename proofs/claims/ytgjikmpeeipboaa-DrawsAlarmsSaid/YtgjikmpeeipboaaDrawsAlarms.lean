/-
  Alarms go off at their ticks, each once, by tick and id, however time goes by: the law DrawsAlarms returns true at every input.
-/
import Derived.Test.YtgjikmpeeipboaaO1
import Derived.Maps.RangeWalk
namespace Go.Proofs.Ytgjikmpeeipboaa
open Go.ChangeShapes Go.WideShapes Go.ChangeAt Go.RowKit
theorem set0_spec (w : World) (F : Nat → Prop) (v : Value) (xs : List Int) (h : Rd intW w F v xs) (j : Nat) (hj : j < xs.length) :
    Calls Try.prog 16 #[v, .int .i64 j] w fun e w' => e = .returned (.int .i64 xs[j]) ∧ w' = w := by
  obtain ⟨b, o, c, rfl, hc, _, m0, hib⟩ := h.intW hj
  clear hib h
  have t1 : decide ((j : Int) < 0) = false := decide_eq_false (by omega)
  have t2 : decide ((xs.length : Int) ≤ j) = false := decide_eq_false (by omega)
  generalize xs[j] = x at m0 ⊢
  generalize xs.length = N at hj hc t2 ⊢
  go_enter Try.func16, Try.ntmps16
  go_wp2
  go_ret
  exact ⟨rfl, rfl⟩
/-- each alarm is one that was set -/
def InvA (xs : List Int) (k : Nat) (L : List Alm) : Prop := ∀ y ∈ L, ∃ (j : Nat) (h : j < xs.length), j < k ∧ y.1 = (j : Int) ∧ y.2 = xs[j]
def OwnM (w : World) (b n : Nat) (L : List Alm) : Prop := ∃ D, w.ownsMap Try.prog 3 (plainElem Try.prog 3) b n D ∧ MapL D L
theorem OwnM.upd {S : Nat → Prop} {w w' : World} {b n : Nat} {L : List Alm} (h : OwnM w b n L) (hu : Upd S w w') (hb : ¬ S b) : OwnM w' b n L := by
  obtain ⟨D, h1, h2⟩ := h
  exact ⟨D, owns_upd h1 (hu.block b h1.lt hb), h2⟩
theorem OwnM.mono {w : World} {b n m : Nat} {L : List Alm} (h : OwnM w b n L) (hn : n ≤ m) : OwnM w b m L := by
  obtain ⟨D, h1, h2⟩ := h
  exact ⟨D, h1.mono hn, h2⟩
theorem OwnM.lt {w : World} {b n : Nat} {L : List Alm} (h : OwnM w b n L) : b < w.heap.size := by
  obtain ⟨D, h1, _⟩ := h
  exact h1.lt
theorem delL_none {L : List Alm} {x : Int} (h : x ∉ idsA L) : delL L x = L := by
  unfold delL
  refine List.filter_eq_self.2 fun y hy => ?_
  have : ¬ y.1 = x := fun e => h (e ▸ List.mem_map.2 ⟨y, hy, rfl⟩)
  simpa using this
theorem InvA.not {xs : List Int} {k : Nat} {L : List Alm} (h : InvA xs k L) : (k : Int) ∉ idsA L := fun hm => by
  obtain ⟨y, hy, e⟩ := List.mem_map.1 hm
  obtain ⟨j, hj, h1, h2, _⟩ := h y hy
  omega
theorem InvA.mono {xs : List Int} {k m : Nat} {L : List Alm} (h : InvA xs k L) (hk : k ≤ m) : InvA xs m L := fun y hy => by
  obtain ⟨j, hj, h1, h2⟩ := h y hy
  exact ⟨j, hj, by omega, h2⟩
theorem InvA.ins {xs : List Int} {k : Nat} {L : List Alm} (h : InvA xs k L) (hk : k < xs.length) : InvA xs (k + 1) (insL L ((k : Int), xs[k])) := fun y hy => by
  rcases List.mem_cons.1 ((insL_perm L _).mem_iff.1 hy) with rfl | hy
  · exact ⟨k, hk, by omega, rfl, rfl⟩
  · exact h.mono (Nat.le_succ k) y hy
theorem InvA.rest {xs : List Int} {k : Nat} {L : List Alm} (h : InvA xs k L) (t : Int) : InvA xs k (restA L t) := fun y hy => h y (List.mem_filter.1 hy).1
theorem setB0 {x : Int} (h : ¬ 1000 < x) : setB 0 x = decide (0 < x) := by
  unfold setB
  by_cases h0 : 0 < x
  · have : x ≤ 1099511627776 := by omega
    simp [h0, this]
  · simp [h0]
theorem setR_new {xs : List Int} {k : Nat} {L : List Alm} (h : InvA xs k L) {x : Int} (hx : ¬ 1000 < x) : setR L 0 k x = if 0 < x then insL L ((k : Int), x) else L := by
  unfold setR
  rw [delL_none h.not, setB0 hx]
  by_cases h0 : 0 < x <;> simp [h0]
theorem tmod50 (y : Int) : -50 < y.tmod 50 ∧ y.tmod 50 < 50 := ⟨Int.lt_tmod_of_pos y (by decide), Int.tmod_lt_of_pos y (by decide)⟩
/-- the j-th that is due, and what is left of the law's own map ahead of it -/
theorem due_at {L : List Alm} (hn : (idsA L).Nodup) (t : Int) (j : Nat) (hj : j < (dueA L t).length) :
    (dueA L t)[j] ∈ L ∧ (dueA L t)[j].2 ≤ t ∧ (dueA L t)[j] ∈ delIn L ((idsA (dueA L t)).take j) := by
  have hm := List.mem_filter.1 (List.getElem_mem hj)
  refine ⟨hm.1, of_decide_eq_true hm.2, List.mem_filter.2 ⟨hm.1, ?_⟩⟩
  have hnd : (idsA (dueA L t)).Nodup := (List.filter_sublist.map _).nodup hn
  have hjl : j < (idsA (dueA L t)).length := by simpa [idsA] using hj
  have e : (dueA L t)[j].1 = (idsA (dueA L t))[j] := by simp [idsA]
  rw [e]
  have : ¬ (idsA (dueA L t))[j] ∈ (idsA (dueA L t)).take j := fun h => by
    obtain ⟨i, hi, e2⟩ := List.mem_take_iff_getElem.1 h
    have := (List.pairwise_iff_getElem.1 hnd) i j (by omega) hjl (by omega)
    exact this e2
  simp [this]
theorem look_of {w : World} {b n : Nat} {D : DataW Unit} {L : List Alm} (h : w.ownsMap Try.prog 3 (plainElem Try.prog 3) b n D) (hL : MapL D L) {x : Int} (hx : IB x) :
    (Instr.lookup 32 (.map (some b)) (.int .i64 x) true).run Try.prog w = .ok (.tuple #[.int .i64 (valA L x), .bool (decide (x ∈ idsA L))]) w := by
  obtain ⟨v, ps, hrun, hv⟩ := h.look_ok key3 Try.underlying32 (Try.zeroValue3 w) (plainElem_int Try.underlying3 (by decide)) (key3_of hx)
  rw [hL.2.2] at hv
  obtain ⟨c, rfl, hc, _⟩ := plainElem_int_inv Try.underlying3 hv
  simp only [Prod.mk.injEq, DataW.lit.injEq, Lit.int.injEq, true_and] at hc
  rw [hrun, hc.1]
  have : Maps.has D (.int .i64 x) = decide (x ∈ idsA L) := by rw [Bool.eq_iff_iff, hL.2.1 x]; simp
  rw [this]
theorem nodup_delIn {L : List Alm} (h : (idsA L).Nodup) (l : List Int) : (idsA (delIn L l)).Nodup := (List.filter_sublist.map _).nodup h
theorem grown_upd {w w' : World} {r : Nat} (h : w.grownBy w' (some r)) : Upd (fun x => x = r) w w' :=
  ⟨h.os, h.tape, h.output, h.size, fun q hq hb => h.block q hq fun e => hb (by simpa using e)⟩
theorem grown_upd0 {w w' : World} (h : w.grownBy w' none) : Upd Non w w' :=
  ⟨h.os, h.tape, h.output, h.size, fun q hq _ => h.block q hq (by simp)⟩
theorem rest_late {D : DataW Unit} {L : List Alm} {t x c : Int} (h : MapL D (restA L t)) (hat : ∀ zd, D.atKey (.int .i64 x) zd = .lit (.int .i64 c)) : t < c := by
  have hx := (h.2.1 x).1 (Maps.has_true_of_atKey hat)
  obtain ⟨y, hy, rfl⟩ := List.mem_map.1 hx
  have h1 := h.2.2 y.1
  rw [hat, valA_mem h.1 hy] at h1
  have h2 := (List.mem_filter.1 hy).2
  simp at h1 h2
  omega
set_option maxRecDepth 100000 in
set_option maxHeartbeats 2000000 in
theorem alarms_walk (w : World) (v1 v2 : Value) (xs ys : List Int) (hxs : Rd intW w (Old w) v1 xs) (hys : Rd intW w (Old w) v2 ys) :
    Calls Try.prog 4 #[v1, v2] w fun e w' => e = .returned (.bool true) ∧ RowKit.Below w.heap.size w w' := by
  obtain ⟨A1, c1, rfl, hc1, hm1⟩ := hxs.shape
  obtain ⟨A2, c2, rfl, hc2, hm2⟩ := hys.shape
  generalize hN1 : xs.length = N1 at hc1 ⊢
  have HN1 := Lib.hid hN1
  clear hN1
  generalize hN2 : ys.length = N2 at hc2 ⊢
  have HN2 := Lib.hid hN2
  clear hN2
  by_cases h1 : 100 < N1
  · have t1 : decide ((100 : Int) < N1) = true := decide_eq_true (by omega)
    go_enter Try.func4, Try.ntmps4
    go_wp2_with ((with_reducible refine (known_spec w).mono ?_); rintro e w1 ⟨rfl, hu1⟩)
    go_ret
    exact ⟨rfl, hu1.below⟩
  by_cases h2 : 100 < N2
  · have t1 : decide ((100 : Int) < N1) = false := decide_eq_false (by omega)
    have t2 : decide ((100 : Int) < N2) = true := decide_eq_true (by omega)
    go_enter Try.func4, Try.ntmps4
    go_wp2_with ((with_reducible refine (known_spec w).mono ?_); rintro e w1 ⟨rfl, hu1⟩)
    go_ret
    exact ⟨rfl, hu1.below⟩
  have t1 : decide ((100 : Int) < N1) = false := decide_eq_false (by omega)
  have t2 : decide ((100 : Int) < N2) = false := decide_eq_false (by omega)
  have hmm := @run_makeMap Try.prog
  go_enter Try.func4, Try.ntmps4
  go_wp2_with ((with_reducible refine (known_spec w).mono ?_); rintro e w1 ⟨rfl, hu1⟩)
  refine (newClock_spec w1).mono ?_
  rintro e w2 ⟨rfl, hu2, hk2, hz2⟩
  have hm3 : OwnM (w2.alloc (.map #[] 0)) w2.heap.size 0 [] := ⟨_, World.ownsMap_made w2 Try.prog 3 _, MapL.nil⟩
  have hk3 : ClkAt (w2.alloc (.map #[] 0)) (w1.heap.size + 1) w1.heap.size 0 0 [] := hk2.upd ((Upd.refl Non w2).alloc _) id id
  have hu3 : Upd Non w (w2.alloc (.map #[] 0)) := (hu1.trans hu2).alloc _
  have hpb : w.heap.size ≤ w1.heap.size := hu1.size
  rw [hz2] at hm3
  obtain ⟨W3, hW3⟩ : ∃ W, W = w2.alloc (.map #[] 0) := ⟨_, rfl⟩
  rw [← hW3] at hm3 hk3 hu3
  have HW := Lib.hid hW3
  clear hW3 t1 t2
  go_wp2_with fail
  rw [← HW.out]
  clear HW hmm
  have hb23 : w1.heap.size + 2 ≠ w1.heap.size ∧ w1.heap.size + 2 ≠ w1.heap.size + 1 ∧ w.heap.size ≤ w1.heap.size + 2 := by omega
  have hpw : w.heap.size ≤ w1.heap.size + 1 := by omega
  generalize w1.heap.size + 2 = b2 at hm3 hb23 ⊢
  generalize w1.heap.size + 1 = p at hk3 hb23 hpw ⊢
  generalize w1.heap.size = b at hk3 hb23 hpb ⊢
  obtain ⟨hbb, hbp, hbw⟩ := hb23
  clear hu1 hu2 hk2 hz2
  go_loopw [7] (fun i wr => ∃ (k : Nat) (L : List Alm), k ≤ N1 ∧ i = .int .i64 k ∧ ClkAt wr p b k 0 L ∧ OwnM wr b2 k L ∧ InvA xs k L ∧ L.length ≤ k ∧ Upd Non w wr) (fun i _ => N1 - (intOf i).toNat)
  case atStart => exact ⟨0, [], by omega, rfl, hk3, hm3, (fun y h => by cases h), by simp, hu3⟩
  case round =>
    obtain ⟨k, L, hk, rfl, hck, hom, hinv, hLk, hur⟩ := hrel
    by_cases hkl : k < N1
    · have hkl' : k < xs.length := by rw [HN1.out]; exact hkl
      obtain ⟨b1, o1, c1', e1, _, hF1, m0, ibx⟩ := (hxs.upd hur (Upd.fr_non (Fin.old w))).intW hkl'
      rw [HN1.out] at e1
      cases e1
      have hInv2 := hinv.ins hkl'
      generalize xs[k] = x at m0 ibx hInv2
      have hb1 : b1 < w.heap.size := hF1
      by_cases g1 : 1000 < x
      · have t1 : decide (1000 < x) = true := decide_eq_true g1
        go_wp2_with fail
        go_roundw
        case rel => exact ⟨k + 1, L, by omega, by go_num, hck.mono (Nat.le_succ k), hom.mono (Nat.le_succ k), hinv.mono (Nat.le_succ k), by omega, hur⟩
        case measure => simp [intOf]; omega
      · have t1 : decide (1000 < x) = false := decide_eq_false g1
        have HS := set_spec wr p b k 0 k x L hck (by unfold IB; omega) ibx (by omega)
        unfold SetPost at HS
        rw [setR_new hinv g1, setB0 g1] at HS
        have m0' : ∀ W, Upd (fun q => q = b) wr W → W.cell? ⟨b1, o1 + k, none⟩ = some (.int .i64 x) := fun W hu => (hu.cell (p := ⟨b1, o1 + k, none⟩) (by show b1 < _; have := hur.size; omega) (by show ¬ b1 = b; omega)).trans m0
        by_cases g2 : 0 < x
        · have t2 : decide (0 < x) = true := decide_eq_true g2
          rw [t2, if_pos g2] at HS
          have hins := insL_perm L ((k : Int), x)
          obtain ⟨D2, ho2, hL2⟩ := hom
          have hkey := key3_of (x := (k : Int)) (by unfold IB; omega)
          have hval : plainElem (H := Unit) Try.prog 3 (.int .i64 x) = some (.lit (.int .i64 x), []) := plainElem_int Try.underlying3 (WalkArith.wf_i64 ibx)
          have hput := (hL2.put ho2.isMap (k : Int) x (key3.key hkey) hinv.not).perm hins.symm
          have hlen : (insL L ((k : Int), x)).length ≤ k + 1 := by rw [hins.length_eq]; simp; omega
          have HLL := Lib.hid (And.intro hput (And.intro hlen hInv2))
          clear hput hlen hInv2 hins
          generalize insL L ((k : Int), x) = L2 at HS HLL
          clear t2
          go_wp2_with (first
            | ((with_reducible refine HS.mono ?_); rintro e w5 ⟨rfl, hu5, hck5⟩; have m5 := m0' w5 hu5; have ho5 := owns_upd ho2 (hu5.block b2 ho2.lt hbb))
            | (at_mapUpdate; refine wpList_mapUpdate_in _ rfl _ _ _ 32 rfl 3 3 key3 Try.underlying32 _ b2 k _ rfl ho5 (by rw [maxLen_eq]; omega) _ _ _ rfl rfl hkey _ [] hval ?_; intro w6 ho6 ht6))
          go_roundw
          case rel =>
            have hu6 := mapTurned_upd ht6
            exact ⟨k + 1, L2, by omega, by go_num, hck5.upd hu6 (fun e => hbp e.symm) (fun e => hbb e.symm), ⟨_, ho6, HLL.out.1⟩, HLL.out.2.2, HLL.out.2.1, (hur.trans' hu5 fun q hq e => by have e : q = b := e; omega).trans' hu6 fun q hq e => by have e : q = b2 := e; omega⟩
          case measure => simp [intOf]; omega
        · have t2 : decide (0 < x) = false := decide_eq_false g2
          rw [t2, if_neg g2] at HS
          clear hInv2 t2
          go_wp2_with ((with_reducible refine HS.mono ?_); rintro e w5 ⟨rfl, hu5, hck5⟩)
          go_roundw
          case rel => exact ⟨k + 1, L, by omega, by go_num, hck5, (hom.upd hu5 hbb).mono (Nat.le_succ k), hinv.mono (Nat.le_succ k), by omega, hur.trans' hu5 fun q hq e => by have e : q = b := e; omega⟩
          case measure => simp [intOf]; omega
    · obtain rfl : k = N1 := by omega
      clear hk3 hm3 hu3
      obtain ⟨w4, hw4⟩ : ∃ W, W = wr := ⟨_, rfl⟩
      subst hw4
      go_wp2_with fail
      go_loopw [8, 9] (fun tv i wr => ∃ (q : Nat) (t : Int) (L : List Alm), q ≤ N2 ∧ i = .int .i64 q ∧ tv = .int .i64 t ∧ 0 ≤ t ∧ t ≤ 50 * q ∧ ClkAt wr p b k t L ∧ OwnM wr b2 k L ∧ InvA xs k L ∧ L.length ≤ k ∧ Upd Non w wr) (fun _ i _ => N2 - (intOf i).toNat)
      case atStart => exact ⟨0, 0, L, by omega, rfl, rfl, by omega, by omega, hck, hom, hinv, hLk, hur⟩
      case round =>
        clear hck hom hinv hLk hur
        obtain ⟨q, t, L, hq, rfl, rfl, ht0, htq, hck, hom, hinv, hLk, hur⟩ := hrel
        by_cases hql : q < N2
        · have hql' : q < ys.length := by rw [HN2.out]; exact hql
          obtain ⟨b1, o1, c1', e1, _, hF1, m0, iby⟩ := (hys.upd hur (Upd.fr_non (Fin.old w))).intW hql'
          rw [HN2.out] at e1
          cases e1
          have hmod := tmod50 ys[q]
          generalize ys[q] = y at m0 iby hmod
          obtain ⟨m, hmy⟩ : ∃ m, y.tmod 50 = m := ⟨_, rfl⟩
          rw [hmy] at hmod
          by_cases g1 : m < 1
          · have t1 : decide (m < 1) = true := decide_eq_true g1
            go_wp2_with fail
            go_roundw
            case rel => exact ⟨q + 1, t, L, by omega, by go_num, rfl, ht0, by omega, hck, hom, hinv, hLk, hur⟩
            case measure => simp [intOf]; omega
          · have t1 : decide (m < 1) = false := decide_eq_false g1
            have HT := tick_spec wr p b k t m L hck ⟨ht0, by omega⟩
            have e1 : tickT t m = t + m := by unfold tickT; rw [if_pos ⟨by omega, by omega⟩]
            unfold TickPost at HT
            rw [e1] at HT
            have hpwr := blk_lt hck.1
            clear e1
            go_wp2_with fail
            refine HT.mono ?_
            rintro e w5 ⟨rfl, hu5, hck5⟩
            have hom5 := hom.upd hu5 hbp
            have hu05 : Upd Non w w5 := hur.trans' hu5 fun x hx e => by have e : x = p := e; omega
            clear HT hck hom hu5 hmy m0 t1
            have ht2 : 0 ≤ t + m ∧ t + m ≤ 50 * (q + 1) := by omega
            have HD := due_spec w5 p b k (t + m) L hck5 (by omega)
            obtain ⟨t2, hT⟩ : ∃ t2, t2 = t + m := ⟨_, rfl⟩
            go_wp2_with fail
            rw [← hT] at HD hck5 ht2 ⊢
            clear hT
            refine HD.mono ?_
            rintro e w6 ⟨vv, rfl, hrd, hu6, hck6⟩
            have hom6 := hom5.upd hu6 hbb
            have hu06 : Upd Non w w6 := hu05.trans' hu6 fun x hx e => by have e : x = b := e; omega
            have hnd := hck5.2.2.1.choose_spec.2.1
            have hsr := hck5.2.2.2.1
            have hib := hck5.2.2.2.2
            have hs56 := hu6.size
            have hw5 := hu05.size
            have hFd : Fin w6 (New w5 w6) := Fin.new
            have hb2w5 := hom5.lt
            clear HD hom5 hck5 hu05 hu6
            obtain ⟨Av, cv, rfl, hcv, hmv⟩ := hrd.shape
            have hdr := delIn_due hnd t2
            obtain ⟨M, hM⟩ : ∃ M, (idsA (dueA L t2)).length = M := ⟨_, rfl⟩
            have hM2 : (dueA L t2).length = M := by rw [← hM]; simp [idsA]
            have hM6 : M ≤ 1000000 := by
              have := List.length_filter_le (fun y : Alm => decide (y.2 ≤ t2)) L
              unfold dueA at hM2
              omega
            rw [hM] at hcv ⊢
            have HM := Lib.hid hM
            clear hM
            go_wp2_with fail
            go_loopw [12] (fun i wr => ∃ j : Nat, j ≤ M ∧ i = .int .i64 j ∧ OwnM wr b2 k (delIn L ((idsA (dueA L t2)).take j)) ∧ Upd (fun x => x = b2) w6 wr) (fun i _ => M - (intOf i).toNat)
            case atStart => exact ⟨0, by omega, rfl, by rw [List.take_zero, delIn_nil]; exact hom6, Upd.refl _ _⟩
            case round =>
              obtain ⟨j, hj, rfl, ⟨D', ho', hL'⟩, hul⟩ := hrel
              by_cases hjl : j < M
              · have hjl' : j < (idsA (dueA L t2)).length := by rw [HM.out]; exact hjl
                have hjd : j < (dueA L t2).length := by rw [hM2]; exact hjl
                have hFq : Fr w6 (fun x => x = b2) (New w5 w6) := fun x hx => ⟨hFd x hx, fun e => by have := hx.1; have e : x = b2 := e; omega⟩
                obtain ⟨b4, o4, c4, e4, _, hF4, n0⟩ := (hrd.upd hul hFq).int hjl'
                rw [HM.out] at e4
                cases e4
                have eid : (idsA (dueA L t2))[j] = (dueA L t2)[j].1 := by simp [idsA]
                obtain ⟨hmL, hle, hmD⟩ := due_at hnd t2 j hjd
                have hyb := (hib _ hmL).1
                have hlook := look_of ho' hL' hyb
                have hval := valA_mem (nodup_delIn hnd ((idsA (dueA L t2)).take j)) hmD
                have hmem : decide ((dueA L t2)[j].1 ∈ idsA (delIn L ((idsA (dueA L t2)).take j))) = true := decide_eq_true (List.mem_map.2 ⟨_, hmD, rfl⟩)
                rw [hval, hmem] at hlook
                have hdel := delIn_step L (idsA (dueA L t2)) j hjl'
                have hLs := hL'.del (idsA (dueA L t2))[j]
                rw [hdel] at hLs
                rw [eid] at n0 hLs
                have hkey := key3_of hyb
                have g2 : decide (t2 < (dueA L t2)[j].2) = false := decide_eq_false (by omega)
                cases j with
                | zero =>
                  rw [Nat.add_zero] at n0
                  generalize (dueA L t2)[0].1 = y1 at n0 hlook hLs hkey hyb
                  generalize (dueA L t2)[0].2 = y2 at hlook g2 hle
                  have hoN : ∀ nn, (wr.drewN nn).ownsMap Try.prog 3 (plainElem Try.prog 3) b2 k D' := fun nn => ho'
                  clear hval hmem hdel hmD eid
                  go_wp2_with fail
                  go_quiet (fail)
                  go_wp2_with (at_delete; refine wpList_delete_own _ rfl _ _ 32 3 rfl 3 key3 Try.underlying32 _ b2 k D' rfl (hoN _) _ _ rfl hkey ?_; intro w7 ho7 ht7)
                  go_roundw
                  case rel => exact ⟨1, by omega, by go_num, ⟨_, ho7, hLs⟩, (hul.drewN nq).trans (mapTurned_upd ht7)⟩
                  case measure => simp [intOf]; omega
                | succ i =>
                  have hid : i < (dueA L t2).length := by omega
                  have hii : i < (idsA (dueA L t2)).length := by omega
                  obtain ⟨b5, o5, c5, e5, _, _, n1⟩ := (hrd.upd hul hFq).int hii
                  rw [HM.out] at e5
                  cases e5
                  have eiz : (idsA (dueA L t2))[i] = (dueA L t2)[i].1 := by simp [idsA]
                  rw [eiz] at n1
                  obtain ⟨hzL, _, _⟩ := due_at hnd t2 i hid
                  obtain ⟨jj, hjj, _, z1e, z2e⟩ := hinv _ hzL
                  have hzb := (hib _ hzL).1
                  have hlt := ltA_iff.1 ((List.pairwise_iff_getElem.1 (show SrtA (dueA L t2) from hsr.filter _)) i (i + 1) hid hjd (by omega))
                  have HZ : ∀ nn, Calls Try.prog 16 #[.slice A1 k c1, .int .i64 (dueA L t2)[i].1] (wr.drewN nn) fun e w' => e = .returned (.int .i64 (dueA L t2)[i].2) ∧ w' = wr.drewN nn := fun nn => by
                    have h0 : Rd intW (wr.drewN nn) (Old w) (.slice A1 xs.length c1) xs := by
                      refine hxs.upd (S := Non) ((hu06.trans' hul ?_).drewN nn) (Upd.fr_non (Fin.old w))
                      intro x hx e
                      have e : x = b2 := e
                      omega
                    have := set0_spec (wr.drewN nn) _ _ xs h0 jj hjj
                    rw [HN1.out] at this
                    rw [z1e, z2e]
                    exact this
                  clear z1e z2e hjj
                  generalize (dueA L t2)[i + 1].1 = y1 at n0 hlook hLs hkey hyb hlt
                  generalize (dueA L t2)[i + 1].2 = y2 at hlook g2 hle hlt
                  generalize (dueA L t2)[i].1 = z1 at n1 HZ hzb hlt
                  generalize (dueA L t2)[i].2 = z2 at HZ hlt
                  have hoN : ∀ nn, (wr.drewN nn).ownsMap Try.prog 3 (plainElem Try.prog 3) b2 k D' := fun nn => ho'
                  clear hval hmem hdel hmD eid eiz
                  have g3 : decide (y2 < z2) = false := decide_eq_false (by omega)
                  by_cases g4 : y2 = z2
                  · subst g4
                    have g5 : decide (y1 ≤ z1) = false := decide_eq_false (by omega)
                    go_wp2_with fail
                    go_quiet (first | (go_at_call 16; exact Calls.quiet_of_same (HZ _)))
                    go_wp2_with (at_delete; refine wpList_delete_own _ rfl _ _ 32 3 rfl 3 key3 Try.underlying32 _ b2 k D' rfl (hoN _) _ _ rfl hkey ?_; intro w7 ho7 ht7)
                    go_roundw
                    case rel => exact ⟨i + 1 + 1, by omega, by go_num, ⟨_, ho7, hLs⟩, (hul.drewN nq).trans (mapTurned_upd ht7)⟩
                    case measure => simp [intOf]; omega
                  · have g5 : (y2 == z2) = false := by simpa using g4
                    go_wp2_with fail
                    go_quiet (first | (go_at_call 16; exact Calls.quiet_of_same (HZ _)))
                    go_wp2_with (at_delete; refine wpList_delete_own _ rfl _ _ 32 3 rfl 3 key3 Try.underlying32 _ b2 k D' rfl (hoN _) _ _ rfl hkey ?_; intro w7 ho7 ht7)
                    go_roundw
                    case rel => exact ⟨i + 1 + 1, by omega, by go_num, ⟨_, ho7, hLs⟩, (hul.drewN nq).trans (mapTurned_upd ht7)⟩
                    case measure => simp [intOf]; omega
              · obtain rfl : j = M := by omega
                have htk : (idsA (dueA L t2)).take j = idsA (dueA L t2) := List.take_of_length_le (by rw [HM.out]; omega)
                rw [htk, hdr] at hL'
                have hck7 := hck6.upd hul (fun e => hbp e.symm) (fun e => hbb e.symm)
                have huf : Upd Non w wr := hu06.trans' hul fun x hx e => by have e : x = b2 := e; omega
                have hinv7 := hinv.rest t2
                have hlen7 : (restA L t2).length ≤ k := Nat.le_trans (List.length_filter_le _ _) hLk
                obtain ⟨w8, hw8⟩ : ∃ W, W = wr := ⟨_, rfl⟩
                subst hw8
                clear hrd hck6 hom6 hu06 hul hnd hsr hib hdr
                generalize hR : restA L t2 = R at hL' hck7 hinv7 hlen7
                have HR := Lib.hid hR
                clear hR htk
                go_wp2_with (at_range; refine wpList_range_own _ rfl _ 32 rfl 3 3 key3 Try.underlying32 _ b2 k D' rfl ho' ?_; intro w9 hrg hg9 hs9)
                have hu9 := grown_upd0 hg9
                have hr8 : w.heap.size ≤ w8.heap.size := huf.size
                have hpl8 := blk_lt hck7.1
                have hbl8 : b < w8.heap.size := by
                  obtain ⟨D8, ho8, _⟩ := hck7.2.2.1
                  exact ho8.lt
                have hb2l : b2 < w8.heap.size := ho'.lt
                generalize w8.heap.size = r at hrg hr8 hpl8 hbl8 hb2l ⊢
                clear hs9 hg9
                go_frame
                go_loopw [16] (fun _ wr => ∃ (left : Lit → Bool) (cnt : Nat), wr.ranges Try.prog 3 (plainElem Try.prog 3) b2 r k D' left cnt ∧ Upd (fun x => x = r) w9 wr) (fun _ wr => wr.rangeLeft b2 r)
                case atStart => exact ⟨_, _, hrg, Upd.refl _ _⟩
                case round =>
                  obtain ⟨left, cnt, hrg2, hu10⟩ := hrel
                  go_wp2_with (at_next; refine wpList_next_ranges_ii _ rfl _ rfl 3 3 .i64 .i64 key3 Try.underlying3 Try.underlying3 b2 r k _ _ _ rfl hrg2 ?_ ?_)
                  · intro hc0 hl0
                    go_wp2
                    go_roundw
                    case rel =>
                      refine ⟨q + 1, t2, R, by omega, by go_num, rfl, ht2.1, by omega, ?_, ⟨D', hrg2.owns, hL'⟩, hinv7, hlen7, ?_⟩
                      · exact ((hck7.upd hu9 id id).upd hu10 (fun e => by have e : p = r := e; omega) (fun e => by have e : b = r := e; omega))
                      · exact (huf.trans hu9).trans' hu10 fun x hx e => by have e : x = r := e; omega
                    case measure => simp [intOf]; omega
                  · intro x c w11 cnt2 hwx hwc hlk hat hrg3 hlt hg3 hs3 hen
                    have hlate := rest_late (by rw [HR.out]; exact hL') hat
                    have t3 : decide (c ≤ t2) = false := decide_eq_false (by omega)
                    have hm1 := hrg3.left_eq
                    have hm2 := hrg2.left_eq
                    have hu11 := grown_upd hg3
                    clear hs3 hat hlk hwx hwc hlate hg3
                    go_wp2
                    go_roundw
                    case rel => exact ⟨_, cnt2, hrg3, hu10.trans hu11⟩
                    case measure => rw [hm1, hm2]; exact hlt
        · obtain rfl : q = N2 := by omega
          have HW := now_spec wr p b k t L hck
          have e1 : (t == t) = true := by simp
          go_wp2_with ((with_reducible refine HW.mono ?_); rintro e w7 ⟨rfl, rfl⟩)
          go_ret
          exact ⟨rfl, hur.below⟩
set_option maxRecDepth 100000 in
theorem drawsAlarms_lifted (os : Os) (started : os.Started) (H : Type) (enc : TypeId × Value → H) :
    ReturnsInHanded {} Try.checked os 4 .any (Rows.drawsAlarmsSpec.pre6 enc Try.prog Try.f4 Rows.drawsAlarmsRow.domain false) (Rows.drawsAlarmsSpec.post enc Try.prog Try.f4 false true false false) := by
  refine returnsInHanded_of_change_sized (C := Try.checked) own started (by kernel_rfl) Try.func4
    (ChangeSpec.witness6 (enc := enc) (C := Try.checked) false ⟨#[], #[.slice none 0 0, .slice none 0 0], []⟩ 8 (by kernel_rfl) (by kernel_rfl) (by kernel_rfl) (by kernel_rfl)) ?_
  intro W base args ds gs before hval0 hW hcnd hsz0 _
  have hval : ∀ (j : Nat) t v, Try.f4.params[j]? = some t → args[j]? = some v → Value.okWide Try.prog W .any base t v := hval0
  have hW' := hW
  obtain ⟨p, q, hA0, hV, rfl, hfz, hnd⟩ := hW
  have hA : DataW.TrodAll enc Try.prog W 0 (fun _ => true) true Try.f4.params.toList args.toList ds p := hA0
  have hsz : (DataW.weightsEach Try.prog (Try.f4.params.toList ++ Rows.drawsAlarmsSpec.plain.varTypes Try.prog) (ds ++ gs)).all (· ≤ reachBytes) = true := hsz0
  rw [Try.params4] at hA hval hsz
  obtain ⟨v0, vs0, d0, ds0, p0, q0, hargs, rfl, rfl, h0, r0⟩ := trodAll_cons hA
  obtain ⟨v1, vs1, d1, ds1, p1, q1, rfl, rfl, rfl, h1, r1⟩ := trodAll_cons r0
  obtain ⟨rfl, rfl, rfl⟩ := trodAll_nil r1
  obtain rfl : args = #[v0, v1] := by cases args; simp_all
  obtain ⟨rfl, rfl⟩ := trodVars_none hV
  obtain ⟨a0, len0, cap0, rfl⟩ := okWide_slice Try.underlying29 (hval 0 29 v0 rfl rfl)
  have lt0 : ∀ x ∈ p0, x.block < W.heap.size := by obtain ⟨m, hm⟩ := h0; exact DataW.trod_lt m _ _ _ hm
  obtain ⟨x0, hx0, lx0⟩ := open_arg opens_intW Try.underlying29 (by kernel_rfl) rfl h0 (weights_of hsz (j := 0) rfl rfl)
  rw [show Try.prog.bytesOf 3 = 8 from by kernel_rfl] at lx0
  simp only [reachBytes] at lx0
  obtain ⟨a1, len1, cap1, rfl⟩ := okWide_slice Try.underlying29 (hval 1 29 v1 rfl rfl)
  have lt1 : ∀ x ∈ p1, x.block < W.heap.size := by obtain ⟨m, hm⟩ := h1; exact DataW.trod_lt m _ _ _ hm
  obtain ⟨x1, hx1, lx1⟩ := open_arg opens_intW Try.underlying29 (by kernel_rfl) rfl h1 (weights_of hsz (j := 1) rfl rfl)
  rw [show Try.prog.bytesOf 3 = 8 from by kernel_rfl] at lx1
  simp only [reachBytes] at lx1
  clear hA0 hval0
  refine (alarms_walk W _ _ x0 x1 hx0 hx1).mono fun e W' ⟨he, bel⟩ => ?_
  subst he
  exact ⟨_, rfl, _, _, _, [], _, [], hW', trodAll_mk1 (shut_bool Try.underlying4 _), (trodAll_cons_mk (Below.trod laidOut (by kernel_rfl) (of_decide_eq_true (by kernel_rfl)) h0 bel lt0) (trodAll_cons_mk (Below.trod laidOut (by kernel_rfl) (of_decide_eq_true (by kernel_rfl)) h1 bel lt1) trodAll_mk0)), rfl, bel.frame _, fun h => by cases h⟩

theorem drawsAlarms_over : Rows.drawsAlarmsRow.holds Try.pinned (OpenSpec.ofChange Rows.drawsAlarmsSpec) :=
  OpenClaim.holds_of_wide 4 Try.f4 rfl rfl rfl rfl rfl rfl rfl ⟨rfl, rfl, rfl, rfl, rfl⟩ rfl rfl rfl rfl rfl (by kernel_rfl) Try.func4 (by kernel_rfl)
    (of_decide_eq_true (by kernel_rfl)) (by unfold Func.isWrapper; first | (rw [if_pos (by decide +kernel)]; kernel_rfl) | (rw [if_neg (by decide +kernel)]; exact ⟨rfl, rfl⟩))
    (fun os started H enc _ => drawsAlarms_lifted os started H enc)

theorem drawsAlarms_holds : Rows.DrawsAlarmsSaid := drawsAlarms_over
#print axioms drawsAlarms_holds

end Go.Proofs.Ytgjikmpeeipboaa
