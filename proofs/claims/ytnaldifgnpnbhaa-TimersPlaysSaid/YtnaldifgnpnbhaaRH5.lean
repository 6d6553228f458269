/-
  The reference's Drop.
-/
import Derived.Test.YtnaldifgnpnbhaaRH4
import Derived.Test.YtnaldifgnpnbhaaT16
namespace Go.Proofs.Ytnaldifgnpnbhaa
open Go.RowKit
/-! ### the reference's Drop -/
def RDropPost (w : World) (F : Nat → Prop) (p : Nat) (l : List It) (fl ru : Int) (e : Ending) (w' : World) : Prop := e = .returned (.int .i64 ((l.length : Int) - (dropR l fl ru).length)) ∧ RStep w F p (dropR l fl ru) w'
theorem drop_take {l : List It} {fl ru : Int} {k : Nat} (hk : k < l.length) : dropR (l.take (k + 1)) fl ru = if ofRun fl ru l[k] then dropR (l.take k) fl ru else dropR (l.take k) fl ru ++ [l[k]] := by
  unfold dropR
  rw [List.take_succ_eq_append_getElem hk, List.filter_append]
  by_cases h : ofRun fl ru l[k] = true
  · simp [h]
  · simp [h]
set_option linter.all false in
set_option maxRecDepth 100000 in
set_option maxHeartbeats 2000000 in
theorem rdrop_spec (w : World) (F : Nat → Prop) (p : Nat) (l : List It) (fl ru : Int) (h : RHp w F p l) (hn : l.length ≤ 1048576) :
    Calls Try.prog 26 #[.pointer (some ⟨p, 0, none⟩), .int .i64 fl, .int .i64 ru] w (RDropPost w F p l fl ru) := by
  obtain ⟨A, c, hb, hc, hm, hr⟩ := h.cells
  obtain ⟨_, _, ho, hnp, hfin⟩ := id h
  have hplt := h.lt
  obtain ⟨N, hN⟩ : ∃ N, l.length = N := ⟨_, rfl⟩
  rw [hN] at hb hc hn
  have hpl : ∀ W', Upd Non w W' → W'.heap[p]? = some (.cells #[.slice A N c] 51 (0, 0)) := fun W' hw => (hw.block p hplt id).trans hb
  have HQ := Lib.hid hpl
  have HN := Lib.hid hN
  clear hpl hN hb ho
  go_enter Try.func26, Try.ntmps26
  go_wp2_with fail
  go_loopw [7, 8] (fun vv i wr => ∃ (k : Nat) (kp : List It) (A2 : Option Addr) (c2 : Nat), k ≤ N ∧ i = .int .i64 k ∧ vv = .slice A2 kp.length c2 ∧ Upd Non w wr ∧ kp.length ≤ k ∧ Hid (kp = dropR (l.take k) fl ru) ∧ Hid (Own itE 40 wr (New w wr) (.slice A2 kp.length c2) kp)) (fun _ i _ => N - (intOf i).toNat)
  case atStart => exact ⟨0, [], none, 0, Nat.zero_le _, rfl, rfl, Upd.refl _ _, Nat.le_refl _, Lib.hid rfl, Lib.hid (Own.empty _ _ _ _ _)⟩
  case round =>
    obtain ⟨k, kp, A2, c2, hk, rfl, rfl, hu, hkk, hkp, how⟩ := hrel
    have hbw := HQ.out wr hu
    have q0 : wr.cell? ⟨p, 0, none⟩ = some (.slice A N c) := blk_at hbw 0
    have hpw : p < wr.heap.size := blk_lt hbw
    by_cases hlt : k < N
    · have hkL : k < l.length := by rw [HN.out]; exact hlt
      obtain ⟨b1, o1, c1, e1, _, hb1, hyw, m0, m1, m2, m3, m4, m5⟩ := (hr.upd hu (Upd.fr_non hfin)).it hkL
      rw [HN.out] at e1
      cases e1
      have hstep := drop_take (fl := fl) (ru := ru) hkL
      obtain ⟨y, hy⟩ : ∃ y, l[k] = y := ⟨_, rfl⟩
      rw [hy] at hyw m0 m1 m2 m3 m4 m5 hstep
      clear hy
      have hbW : b1 < wr.heap.size := World.block_lt_of_cell? wr _ m0
      have hkeep : ofRun fl ru y = false → Hid (dropR (l.take (k + 1)) fl ru = kp ++ [y]) := fun e => Lib.hid (by rw [hstep, e, hkp.out]; rfl)
      have hgone : ofRun fl ru y = true → Hid (kp = dropR (l.take (k + 1)) fl ru) := fun e => Lib.hid (by rw [hstep, e, hkp.out]; rfl)
      have h63 : kp.length + [y].length ≤ maxLen := by rw [maxLen_eq]; simp; omega
      have h48 : (kp.length + [y].length) * 48 ≤ 140737488355328 := by simp; omega
      have hxr : ∀ W G, Rel itE W G [y] y.cells := fun W G => ⟨y.cells, [], by simp, ⟨rfl, hyw⟩, rfl⟩
      clear hstep
      by_cases hf : y.flow = fl
      · have t1 : (y.flow == fl) = true := by simpa using hf
        by_cases hq : y.run = ru
        · have HG := hgone (by unfold ofRun; simp [hf, hq])
          have t2 : (ru == ru) = true := by simp
          have t1' : (fl == fl) = true := by simp
          rw [hf] at m1
          rw [hq] at m2
          clear hgone hkeep hxr hf hq t1
          go_wp2_with fail
          go_roundw
          case rel => exact ⟨k + 1, kp, A2, c2, by omega, by go_num, rfl, hu, by omega, HG, how⟩
          case measure => simp [intOf]; omega
        · have HG := hkeep (by unfold ofRun; simp [hf, hq])
          have t2 : (y.run == ru) = false := by simpa using hq
          have HYY := Lib.hid (And.intro trivial hxr)
          clear hgone hkeep hxr hq t1
          subst hf
          have t1 : (y.flow == y.flow) = true := by simp
          go_wp2_with (at_builtin; refine wpList_append (E := itE) (e := 40) (F := New w wr) (xs := kp) (ys := [y]) _ rfl (.tmp 41) (.tmp 49) 49 rfl _ 48 Try.underlying49 info40 rfl (by decide) rfl (how.out.upd (S := Non) (by upn) (fun k hk => ⟨hk.2, id⟩)) (some ⟨wr.heap.size, 0, none⟩) 1 rfl y.cells Non (at_cells (heap_alloc_new wr _)) (HYY.out.2 _ _) (fun _ h => h.elim) (Fin.new.upd (S := Non) (by upn)) h63 h48 ?_; intro v3 w3 hu3 ho3; obtain ⟨hu03, ho3'⟩ := scr_next2 hu (by upn) hu3 ho3; obtain ⟨A3, c3, rfl, hc3, _⟩ := ho3'.shape)
          go_roundw
          case rel => exact ⟨k + 1, kp ++ [y], A3, c3, by omega, by go_num, by simp, hu03, by simp; omega, Lib.hid HG.out.symm, Lib.hid ho3'⟩
          case measure => simp [intOf]; omega
      · have HG := hkeep (by unfold ofRun; simp [hf])
        have t1 : (y.flow == fl) = false := by simpa using hf
        have HYY := Lib.hid (And.intro trivial hxr)
        clear hgone hkeep hxr hf
        go_wp2_with (at_builtin; refine wpList_append (E := itE) (e := 40) (F := New w wr) (xs := kp) (ys := [y]) _ rfl (.tmp 41) (.tmp 49) 49 rfl _ 48 Try.underlying49 info40 rfl (by decide) rfl (how.out.upd (S := Non) (by upn) (fun k hk => ⟨hk.2, id⟩)) (some ⟨wr.heap.size, 0, none⟩) 1 rfl y.cells Non (at_cells (heap_alloc_new wr _)) (HYY.out.2 _ _) (fun _ h => h.elim) (Fin.new.upd (S := Non) (by upn)) h63 h48 ?_; intro v3 w3 hu3 ho3; obtain ⟨hu03, ho3'⟩ := scr_next2 hu (by upn) hu3 ho3; obtain ⟨A3, c3, rfl, hc3, _⟩ := ho3'.shape)
        go_roundw
        case rel => exact ⟨k + 1, kp ++ [y], A3, c3, by omega, by go_num, by simp, hu03, by simp; omega, Lib.hid HG.out.symm, Lib.hid ho3'⟩
        case measure => simp [intOf]; omega
    · obtain rfl : k = N := by omega
      have hall : kp = dropR l fl ru := by rw [hkp.out, List.take_of_length_le (by rw [HN.out]; exact Nat.le_refl _)]
      have hend : RDropPost w F p l fl ru (.returned (.int .i64 ((k : Int) - kp.length))) (wr.setCell ⟨p, 0, none⟩ (.slice A2 kp.length c2)) := by
        unfold RDropPost
        rw [HN.out, ← hall]
        exact ⟨rfl, rh_lay (Upd.refl _ _) (HQ.out _ (Upd.refl _ _)) hplt hu how.out⟩
      have f0 : wr.frozen? ⟨p, 0, none⟩ = false := blk_free hbw 0
      have hcast : IntKind.i64.wrap ((k : Int) - kp.length) = (k : Int) - kp.length := by rw [IntKind.wrap_i64]; omega
      have HE := Lib.hid hend
      clear hend hall hkp how hlt
      go_wp2
      go_ret
      exact HE.out
end Go.Proofs.Ytnaldifgnpnbhaa
