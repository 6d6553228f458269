/-
  Nothing is taken ahead of its tick, and all that is due is, in order: the law TimersDue returns true at every input.
-/
import Derived.Test.YtnaldifgnpnbhaaT14
namespace Go.Proofs.Ytnaldifgnpnbhaa
open Go.Maps Go.ChangeShapes Go.WideShapes Go.ChangeAt Go.RowKit

theorem HOwn.out {w W W' : World} {F S : Nat → Prop} {p : Nat} {l : List It} (h : HOwn w W F p l) (hu : Upd S W W') (hS : ∀ q, S q → ¬ F q ∧ w.heap.size ≤ q) : HOwn w W' F p l :=
  ⟨h.1.upd hu fun q hq hs => (hS q hs).1 hq, h.2.1, h.2.2.trans' hu fun x hx hs => by have := (hS x hs).2; omega⟩
abbrev MapIt (w : World) (b n : Nat) (c : Nat) (S : It → Prop) : Prop := MapS Try.prog 33 4 kfI It.wf w b n c S

set_option maxRecDepth 100000 in
set_option maxHeartbeats 4000000 in
theorem due_walk (w : World) (v : Value) (l : List It) (now : Int) (h : Rd itE w (Old w) v l) (_hn : l.length ≤ 2932031007402) :
    Calls Try.prog 4 #[v, .int .i64 now] w fun e w' => e = .returned (.bool true) ∧ Below w.heap.size w w' := by
  obtain ⟨A, c, rfl, hc, _⟩ := h.shape
  have hwf : ∀ k (hk : k < l.length), l[k].wf := fun k hk => by
    obtain ⟨_, _, _, _, _, _, hw, _⟩ := h.it hk
    exact hw
  by_cases h250 : l.length ≤ 250
  · have hmm := @run_makeMap Try.prog
    go_enter Try.func4, Try.ntmps4
    go_wp2_with fail
    refine (tknown_spec w).mono ?_
    rintro e w1 ⟨rfl, hu1⟩
    go_wp2_with fail
    refine (new_spec w1).mono ?_
    rintro e w2 ⟨rfl, hu2, hh2⟩
    have ho2 : HOwn w w2 (fun q => q = w1.heap.size) w1.heap.size [] := ⟨hh2, fun q hq => by have hq : q = w1.heap.size := hq; have := hu1.size; omega, hu1.trans hu2⟩
    have ho3 := ho2.non ((Upd.refl Non w2).alloc (.map #[] 0))
    have hm3 : MapIt (w2.alloc (.map #[] 0)) w2.heap.size 0 0 (fun a => a ∈ l.take 0) := (MapS.made Try.prog 33 4 kfI It.wf w2).iff fun a _ => by simp
    have hF3 : ∀ q, (fun q => q = w1.heap.size) q → q ≠ w2.heap.size := fun q hq => by have := ho2.1.fin q hq; omega
    generalize hp : w1.heap.size = p at ho2 ho3 hF3 ⊢
    have hmb : w.heap.size ≤ w2.heap.size := (hu1.trans hu2).size
    clear ho2 hh2
    go_wp2_with fail
    generalize w2.heap.size = mb at hm3 hF3 hmb ⊢
    generalize w2.alloc (.map #[] 0) = w3 at ho3 hm3 ⊢
    go_loopw [7, 8] (fun d i wr => ∃ (k : Nat) (F : Nat → Prop) (xs : List It), k ≤ l.length ∧ i = .int .i64 k ∧ d = .int .i64 (dueN xs now) ∧ HOwn w wr F p xs ∧ Sorted xs ∧ xs.length ≤ k ∧ Hid (∀ a, a ∈ xs ↔ a ∈ l.take k) ∧ MapIt wr mb k xs.length (fun a => a ∈ l.take k) ∧ ¬ F mb) (fun _ i _ => l.length - (intOf i).toNat)
    case atStart => exact ⟨0, _, [], Nat.zero_le _, rfl, rfl, ho3, List.Pairwise.nil, Nat.zero_le _, Lib.hid (fun a => by simp), hm3, fun h => hF3 _ h rfl⟩
    case round =>
      clear ho3 hm3 hF3
      obtain ⟨k, F, xs, hk, rfl, rfl, ho, hso, hxl, hmem, hm, hFm⟩ := hrel
      have hux := ho.2.2
      have hdl := due_le xs now
      by_cases hlt : k < l.length
      · obtain ⟨b1, o1, c1, e1, _, hb1, hxw, m0, m1, m2, m3, m4, m5⟩ := (h.upd hux (Upd.fr_non (Fin.old w))).it hlt
        cases e1
        obtain ⟨x, hx⟩ : ∃ x, l[k] = x := ⟨_, rfl⟩
        rw [hx] at hxw m0 m1 m2 m3 m4 m5
        have hb1' : b1 < w.heap.size := hb1
        have hadd := add_spec wr.drew F p xs x (ho.non ((Upd.refl Non wr).drew)).1 (hso.srt (by omega) x) hxw
        have htk : ∀ a, a ∈ l.take (k + 1) ↔ a = x ∨ a ∈ xs := fun a => by rw [take_snoc l k hlt, hx, hmem.out]; simp [or_comm]
        have hlook := fun W (hW : MapIt W mb k xs.length (fun a => a ∈ l.take k)) => hW.lookup (t := 30) key_it Try.underlying30 Try.underlying4 zero4 x hxw
        clear hx
        by_cases hin : x ∈ xs
        · have hae := add_old hso hin
          have HA : Calls Try.prog 12 #[.pointer (some ⟨p, 0, none⟩), .agg #[.int .i64 x.at_, .int .i64 x.flow, .int .i64 x.run, .int .i64 x.ref, .int .i64 x.turn, .int .i64 x.kind]] wr.drew (fun e w' => e = .returned (.bool false) ∧ HStep 64 33 wr.drew F p xs w') :=
            hadd.mono fun e w' h => by unfold AddPost at h; rw [hae] at h; exact h
          have L0 := (hlook wr.drew (hm.keep rfl)).1 ((hmem.out x).1 hin)
          simp only [encI, It.cells] at L0
          have hmD : MapIt wr.drew mb k xs.length (fun a => a ∈ l.take k) := hm.keep rfl
          have hbW : b1 < wr.drew.heap.size := Nat.lt_of_lt_of_le hb1' hux.size
          have hbF : ¬ F b1 := fun hf => by have := ho.2.1 b1 hf; omega
          clear hadd hae
          go_wp2_with fail
          go_region_law (go_simp; go_at_call 12; (with_reducible refine HA.mono ?_); rintro e w5 ⟨rfl, hst⟩; have n0 := (hst.1.cell (p := ⟨b1, o1 + k * 6, none⟩) hbW hbF).trans m0; have n1 := (hst.1.cell (p := ⟨b1, o1 + k * 6 + 1, none⟩) hbW hbF).trans m1; have n2 := (hst.1.cell (p := ⟨b1, o1 + k * 6 + 2, none⟩) hbW hbF).trans m2; have n3 := (hst.1.cell (p := ⟨b1, o1 + k * 6 + 3, none⟩) hbW hbF).trans m3; have n4 := (hst.1.cell (p := ⟨b1, o1 + k * 6 + 4, none⟩) hbW hbF).trans m4; have n5 := (hst.1.cell (p := ⟨b1, o1 + k * 6 + 5, none⟩) hbW hbF).trans m5; have hm5 : MapIt w5 mb k xs.length (fun a => a ∈ l.take k) := hmD.upd hst.1 hFm; have L5 := (hlook w5 hm5).1 ((hmem.out x).1 hin); simp only [encI, It.cells] at L5)

          all_goals
            obtain ⟨w6, hrun, hu6, hS1, hS2⟩ := hm5.store (t := 30) key_it Try.underlying30 Try.underlying4 (by rw [maxLen_eq]; omega) x hxw
            simp only [encI, It.cells] at hrun
            have ho5 : HOwn w w5 (Ext F wr.drew w5) p xs := HOwn.step (ho.non ((Upd.refl Non wr).drew)) hst
            have hFm5 : ¬ Ext F wr.drew w5 mb := fun h => h.elim hFm fun h' => by have := h'.1; have h2 : mb < wr.heap.size := hm.lt; have h3 : wr.drew.heap.size = wr.heap.size := rfl; omega
            have ho6 : HOwn w w6 (Ext F wr.drew w5) p xs := ho5.out hu6 fun q hq => by have hq : q = mb := hq; rw [hq]; exact ⟨hFm5, hmb⟩
            have hm6 : MapIt w6 mb (k + 1) xs.length (fun a => a ∈ l.take (k + 1)) := (hS1 ((hmem.out x).1 hin)).iff fun a _ => by rw [htk a, hmem.out a]
            clear hS1 hS2 L0 hlook HA
            go_wp2_with (at_mapUpdate; refine wpList_mapUpdate_run _ rfl _ _ _ 30 rfl _ _ _ rfl rfl rfl hrun ?_)
            go_roundw
            case rel => exact ⟨k + 1, _, xs, by omega, by go_num, rfl, ho6, hso, by omega, Lib.hid (fun a => by rw [htk a]; exact ⟨.inr, fun h => h.elim (fun e => by rw [e]; exact hin) id⟩), hm6, hFm5⟩
            case measure => simp [intOf]; omega
        · obtain ⟨a1, a2, a3⟩ := add_new hso hin now
          obtain ⟨xs', hxs'⟩ : ∃ xs', (addR xs x).2 = xs' := ⟨_, rfl⟩
          have hae : addR xs x = (true, xs') := by rw [← a1, ← hxs']
          have hso' : Sorted xs' := by rw [← hxs']; exact sorted_add hso x
          have hmem' : ∀ a, a ∈ xs' ↔ a ∈ l.take (k + 1) := fun a => by rw [← hxs', add_mem hso, htk a]
          rw [hxs'] at a2 a3
          have HA2 := Lib.hid a2
          have HA3 := Lib.hid a3
          have HM := Lib.hid hmem'
          clear a1 a2 a3 hxs' hmem'
          by_cases hdue : x.at_ ≤ now
          · rw [if_pos hdue] at HA3
            have HA : Calls Try.prog 12 #[.pointer (some ⟨p, 0, none⟩), .agg #[.int .i64 x.at_, .int .i64 x.flow, .int .i64 x.run, .int .i64 x.ref, .int .i64 x.turn, .int .i64 x.kind]] wr.drew (fun e w' => e = .returned (.bool true) ∧ HStep 64 33 wr.drew F p xs' w') :=
              hadd.mono fun e w' h => by unfold AddPost at h; rw [hae] at h; exact h
            have L0 := (hlook wr.drew (hm.keep rfl)).2 (fun h => hin ((hmem.out x).2 h))
            simp only [encI, It.cells] at L0
            have hmD : MapIt wr.drew mb k xs.length (fun a => a ∈ l.take k) := hm.keep rfl
            have hbW : b1 < wr.drew.heap.size := Nat.lt_of_lt_of_le hb1' hux.size
            have hbF : ¬ F b1 := fun hf => by have := ho.2.1 b1 hf; omega
            clear hadd hae
            go_wp2_with fail
            go_region_law (go_simp; go_at_call 12; (with_reducible refine HA.mono ?_); rintro e w5 ⟨rfl, hst⟩; have n0 := (hst.1.cell (p := ⟨b1, o1 + k * 6, none⟩) hbW hbF).trans m0; have n1 := (hst.1.cell (p := ⟨b1, o1 + k * 6 + 1, none⟩) hbW hbF).trans m1; have n2 := (hst.1.cell (p := ⟨b1, o1 + k * 6 + 2, none⟩) hbW hbF).trans m2; have n3 := (hst.1.cell (p := ⟨b1, o1 + k * 6 + 3, none⟩) hbW hbF).trans m3; have n4 := (hst.1.cell (p := ⟨b1, o1 + k * 6 + 4, none⟩) hbW hbF).trans m4; have n5 := (hst.1.cell (p := ⟨b1, o1 + k * 6 + 5, none⟩) hbW hbF).trans m5; have hm5 : MapIt w5 mb k xs.length (fun a => a ∈ l.take k) := hmD.upd hst.1 hFm; have L5 := (hlook w5 hm5).2 (fun h => hin ((hmem.out x).2 h)); simp only [encI, It.cells] at L5)
  
            all_goals
              obtain ⟨w6, hrun, hu6, hS1, hS2⟩ := hm5.store (t := 30) key_it Try.underlying30 Try.underlying4 (by rw [maxLen_eq]; omega) x hxw
              simp only [encI, It.cells] at hrun
              have ho5 : HOwn w w5 (Ext F wr.drew w5) p xs' := HOwn.step (ho.non ((Upd.refl Non wr).drew)) hst
              have hFm5 : ¬ Ext F wr.drew w5 mb := fun h => h.elim hFm fun h' => by have := h'.1; have h2 : mb < wr.heap.size := hm.lt; have h3 : wr.drew.heap.size = wr.heap.size := rfl; omega
              have ho6 : HOwn w w6 (Ext F wr.drew w5) p xs' := ho5.out hu6 fun q hq => by have hq : q = mb := hq; rw [hq]; exact ⟨hFm5, hmb⟩
              have hm6 : MapIt w6 mb (k + 1) xs'.length (fun a => a ∈ l.take (k + 1)) := by rw [HA2.out]; exact (hS2 (fun h => hin ((hmem.out x).2 h))).iff fun a _ => by rw [htk a, hmem.out a]
              clear hS1 hS2 L0 hlook HA
              go_wp2_with (at_mapUpdate; refine wpList_mapUpdate_run _ rfl _ _ _ 30 rfl _ _ _ rfl rfl rfl hrun ?_)
              go_roundw
              case rel => exact ⟨k + 1, _, xs', by omega, by go_num, by rw [HA3.out]; go_num, ho6, hso', by rw [HA2.out]; omega, Lib.hid HM.out, hm6, hFm5⟩
              case measure => simp [intOf]; omega
  
          · rw [if_neg hdue] at HA3
            have HA : Calls Try.prog 12 #[.pointer (some ⟨p, 0, none⟩), .agg #[.int .i64 x.at_, .int .i64 x.flow, .int .i64 x.run, .int .i64 x.ref, .int .i64 x.turn, .int .i64 x.kind]] wr.drew (fun e w' => e = .returned (.bool true) ∧ HStep 64 33 wr.drew F p xs' w') :=
              hadd.mono fun e w' h => by unfold AddPost at h; rw [hae] at h; exact h
            have L0 := (hlook wr.drew (hm.keep rfl)).2 (fun h => hin ((hmem.out x).2 h))
            simp only [encI, It.cells] at L0
            have hmD : MapIt wr.drew mb k xs.length (fun a => a ∈ l.take k) := hm.keep rfl
            have hbW : b1 < wr.drew.heap.size := Nat.lt_of_lt_of_le hb1' hux.size
            have hbF : ¬ F b1 := fun hf => by have := ho.2.1 b1 hf; omega
            clear hadd hae
            go_wp2_with fail
            go_region_law (go_simp; go_at_call 12; (with_reducible refine HA.mono ?_); rintro e w5 ⟨rfl, hst⟩; have n0 := (hst.1.cell (p := ⟨b1, o1 + k * 6, none⟩) hbW hbF).trans m0; have n1 := (hst.1.cell (p := ⟨b1, o1 + k * 6 + 1, none⟩) hbW hbF).trans m1; have n2 := (hst.1.cell (p := ⟨b1, o1 + k * 6 + 2, none⟩) hbW hbF).trans m2; have n3 := (hst.1.cell (p := ⟨b1, o1 + k * 6 + 3, none⟩) hbW hbF).trans m3; have n4 := (hst.1.cell (p := ⟨b1, o1 + k * 6 + 4, none⟩) hbW hbF).trans m4; have n5 := (hst.1.cell (p := ⟨b1, o1 + k * 6 + 5, none⟩) hbW hbF).trans m5; have hm5 : MapIt w5 mb k xs.length (fun a => a ∈ l.take k) := hmD.upd hst.1 hFm; have L5 := (hlook w5 hm5).2 (fun h => hin ((hmem.out x).2 h)); simp only [encI, It.cells] at L5)
  
            all_goals
              obtain ⟨w6, hrun, hu6, hS1, hS2⟩ := hm5.store (t := 30) key_it Try.underlying30 Try.underlying4 (by rw [maxLen_eq]; omega) x hxw
              simp only [encI, It.cells] at hrun
              have ho5 : HOwn w w5 (Ext F wr.drew w5) p xs' := HOwn.step (ho.non ((Upd.refl Non wr).drew)) hst
              have hFm5 : ¬ Ext F wr.drew w5 mb := fun h => h.elim hFm fun h' => by have := h'.1; have h2 : mb < wr.heap.size := hm.lt; have h3 : wr.drew.heap.size = wr.heap.size := rfl; omega
              have ho6 : HOwn w w6 (Ext F wr.drew w5) p xs' := ho5.out hu6 fun q hq => by have hq : q = mb := hq; rw [hq]; exact ⟨hFm5, hmb⟩
              have hm6 : MapIt w6 mb (k + 1) xs'.length (fun a => a ∈ l.take (k + 1)) := by rw [HA2.out]; exact (hS2 (fun h => hin ((hmem.out x).2 h))).iff fun a _ => by rw [htk a, hmem.out a]
              clear hS1 hS2 L0 hlook HA
              go_wp2_with (at_mapUpdate; refine wpList_mapUpdate_run _ rfl _ _ _ 30 rfl _ _ _ rfl rfl rfl hrun ?_)
              go_roundw
              case rel => exact ⟨k + 1, _, xs', by omega, by go_num, by rw [HA3.out]; go_num, ho6, hso', by rw [HA2.out]; omega, Lib.hid HM.out, hm6, hFm5⟩
              case measure => simp [intOf]; omega
  
      · obtain rfl : k = l.length := by omega
        have hm' : MapIt wr mb l.length xs.length (fun a => a ∈ xs) := hm.iff fun a _ => (hmem.out a).symm
        have hxw : ∀ a ∈ xs, a.wf := fun a ha => by
          have := (hmem.out a).1 ha
          rw [List.take_length] at this
          obtain ⟨j, hj, rfl⟩ := List.getElem_of_mem this
          exact hwf j hj
        have HXW := Lib.hid hxw
        have HWF := Lib.hid hwf
        have HSO := Lib.hid hso
        have hB0 := heap_alloc_new wr (.cells #[.int .i64 0, .int .i64 0, .int .i64 0, .int .i64 0, .int .i64 0, .int .i64 0] 33)
        have hoA := ho.non ((Upd.refl Non wr).alloc (.cells #[.int .i64 0, .int .i64 0, .int .i64 0, .int .i64 0, .int .i64 0, .int .i64 0] 33))
        have hmA : MapIt (wr.alloc (.cells #[.int .i64 0, .int .i64 0, .int .i64 0, .int .i64 0, .int .i64 0, .int .i64 0] 33)) mb l.length xs.length (fun a => a ∈ xs) := hm'.upd ((Upd.refl Non wr).alloc _) id
        have hB1 : w.heap.size ≤ wr.heap.size := hux.size
        have hB2 : ¬ F wr.heap.size := fun hf => Nat.lt_irrefl _ (ho.1.fin _ hf)
        have hB3 : wr.heap.size ≠ mb := fun e => by have := hm.lt; omega
        clear hxw hwf hso hm' hm hmem ho hux
        go_wp2_with fail
        generalize wr.alloc (.cells #[.int .i64 0, .int .i64 0, .int .i64 0, .int .i64 0, .int .i64 0, .int .i64 0] 33) = wA at hB0 hoA hmA ⊢
        generalize wr.heap.size = B at hB0 hB1 hB2 hB3 ⊢
        go_loopw [10, 11, 12] (fun i _ _ wr => ∃ (n : Nat) (F : Nat → Prop) (lst : It), n ≤ dueN xs now ∧ i = .int .i64 n ∧ HOwn w wr F p (xs.drop n) ∧ MapIt wr mb l.length xs.length (fun a => a ∈ xs) ∧ ¬ F mb ∧ ¬ F B ∧ wr.heap[B]? = some (.cells lst.cells.toArray 33 (0, 0)) ∧ Hid (∀ hn : n - 1 < xs.length, 0 < n → lst = xs[n - 1])) (fun i _ _ _ => dueN xs now - (intOf i).toNat)
        case atStart => exact ⟨0, F, z0, Nat.zero_le _, rfl, hoA, hmA, hFm, hB2, hB0, Lib.hid (fun _ h => by omega)⟩
        case round =>
          clear hoA hmA hFm hB2 hB0
          obtain ⟨n, F, lst, hn, rfl, ho, hm, hFm, hFB, hB0, hlst⟩ := hrel
          have hF := ho.1.fin
          by_cases hlt : n < dueN xs now
          · have hnl : n < xs.length := by omega
            have htd := take_due HSO.out now n hlt hnl
            have hat := (due_iff now xs HSO.out n hnl).1 hlt
            have hmy : xs[n] ∈ xs := List.getElem_mem hnl
            have hwy := HXW.out _ hmy
            have hls : 0 < n → ltB lst xs[n] = true := fun h0 => by
              rw [hlst.out (by omega) h0]
              exact decide_eq_true (List.pairwise_iff_getElem.1 HSO.out (n - 1) n (by omega) hnl (by omega))
            have hgl : xs[n]? = some xs[n] := List.getElem?_eq_getElem hnl
            obtain ⟨y, hy⟩ : ∃ y, xs[n] = y := ⟨_, rfl⟩
            rw [hy] at htd hat hmy hwy hls hgl
            have HT : Calls Try.prog 13 #[.pointer (some ⟨p, 0, none⟩), .int .i64 now] wr (fun e w' => e = .returned (.tuple #[.agg #[.int .i64 y.at_, .int .i64 y.flow, .int .i64 y.run, .int .i64 y.ref, .int .i64 y.turn, .int .i64 y.kind], .bool true]) ∧ HStep 64 33 wr F p (xs.drop (n + 1)) w') :=
              (take_spec wr F p (xs.drop n) now ho.1 (fun x _ => Sorted.srt (HSO.out.sublist (List.drop_sublist _ _)) (by simp; omega) x)).mono fun e w' h => by unfold TakePost at h; rw [htd] at h; exact h
            have HG : Hid (xs[n]? = some y) := Lib.hid hgl
            clear htd hgl hy
            go_wp2_with fail
            refine HT.mono ?_
            rintro e w5 ⟨rfl, hst⟩
            have ho5 := ho.step hst
            have hB5 := (hst.1.block B (blk_lt hB0) hFB).trans hB0
            have hm5 : MapIt w5 mb l.length xs.length (fun a => a ∈ xs) := hm.upd hst.1 hFm
            have hFm5 : ¬ Ext F wr w5 mb := fun h => h.elim hFm fun h' => by have := h'.1; have h2 := hm.lt; omega
            have hFB5 : ¬ Ext F wr w5 B := fun h => h.elim hFB fun h' => by have := h'.1; have h2 := blk_lt hB0; omega
            have hBl := blk_lt hB5
            have uA := (Upd.refl Non w5).alloc (.cells #[.int .i64 y.at_, .int .i64 y.flow, .int .i64 y.run, .int .i64 y.ref, .int .i64 y.turn, .int .i64 y.kind] 33)
            have hC6 : (w5.alloc (.cells #[.int .i64 y.at_, .int .i64 y.flow, .int .i64 y.run, .int .i64 y.ref, .int .i64 y.turn, .int .i64 y.kind] 33)).heap[w5.heap.size]? = some (.cells y.cells.toArray 33 (0, 0)) := heap_alloc_new w5 _
            have hB6 := (uA.block B hBl id).trans hB5
            have hm6 : MapIt (w5.alloc (.cells #[.int .i64 y.at_, .int .i64 y.flow, .int .i64 y.run, .int .i64 y.ref, .int .i64 y.turn, .int .i64 y.kind] 33)) mb l.length xs.length (fun a => a ∈ xs) := hm5.upd uA id
            have ho6 := ho5.non uA
            have L6 := (hm6.lookup (t := 30) key_it Try.underlying30 Try.underlying4 zero4 y hwy).1 hmy
            simp only [encI, It.cells] at L6
            have hne5 : B ≠ w5.heap.size := by omega
            have hnow : ¬ now < y.at_ := by omega
            by_cases hn0 : n = 0
            · subst hn0
              have e0 : B < w5.heap.size := hBl
              have b0 : w5.cell? ⟨B, 0, none⟩ = some (.int .i64 lst.at_) := blk_at hB5 0
              have b1 : w5.cell? ⟨B, 1, none⟩ = some (.int .i64 lst.flow) := blk_at hB5 1
              have b2 : w5.cell? ⟨B, 2, none⟩ = some (.int .i64 lst.run) := blk_at hB5 2
              have b3 : w5.cell? ⟨B, 3, none⟩ = some (.int .i64 lst.ref) := blk_at hB5 3
              have b4 : w5.cell? ⟨B, 4, none⟩ = some (.int .i64 lst.turn) := blk_at hB5 4
              have b5 : w5.cell? ⟨B, 5, none⟩ = some (.int .i64 lst.kind) := blk_at hB5 5
              have f5 := fun j => blk_free hB5 j
              clear HT hst ho hm hls hB0 hC6 hB6 hm6
              go_wp2
              go_roundw
              case rel =>
                have hU := set6_upd w5 B y
                have ho7 := (ho5.out hU fun q hq => by have hq : q = B := hq; rw [hq]; exact ⟨hFB5, hB1⟩).non ((Upd.refl Non (set6 w5 B y)).alloc (.cells #[.int .i64 y.at_, .int .i64 y.flow, .int .i64 y.run, .int .i64 y.ref, .int .i64 y.turn, .int .i64 y.kind] 33))
                have hm7 : MapIt ((set6 w5 B y).alloc (.cells #[.int .i64 y.at_, .int .i64 y.flow, .int .i64 y.run, .int .i64 y.ref, .int .i64 y.turn, .int .i64 y.kind] 33)) mb l.length xs.length (fun a => a ∈ xs) := (hm5.upd hU (fun e => hB3 (by have e : mb = B := e; exact e.symm))).upd ((Upd.refl Non (set6 w5 B y)).alloc _) id
                have hB7 : ((set6 w5 B y).alloc (.cells #[.int .i64 y.at_, .int .i64 y.flow, .int .i64 y.run, .int .i64 y.ref, .int .i64 y.turn, .int .i64 y.kind] 33)).heap[B]? = some (.cells y.cells.toArray 33 (0, 0)) := (Below.heap_alloc _ _ _ (by rw [set6_size]; exact hBl)).trans (set6_blk y hB5)
                exact ⟨1, _, y, by omega, rfl, ho7, hm7, hFm5, hFB5, hB7, Lib.hid (fun hn _ => by have := HG.out; rw [List.getElem?_eq_getElem (by omega)] at this; simpa using this.symm)⟩
              case measure => simp [intOf]; omega
            · have HLs := less_spec (w5.alloc (.cells #[.int .i64 y.at_, .int .i64 y.flow, .int .i64 y.run, .int .i64 y.ref, .int .i64 y.turn, .int .i64 y.kind] 33)) lst y
              unfold LessPost at HLs
              rw [hls (by omega)] at HLs
              simp only [It.cells] at HLs
              have e0 : B < w5.heap.size := hBl
              have b0 : w5.cell? ⟨B, 0, none⟩ = some (.int .i64 lst.at_) := blk_at hB5 0
              have b1 : w5.cell? ⟨B, 1, none⟩ = some (.int .i64 lst.flow) := blk_at hB5 1
              have b2 : w5.cell? ⟨B, 2, none⟩ = some (.int .i64 lst.run) := blk_at hB5 2
              have b3 : w5.cell? ⟨B, 3, none⟩ = some (.int .i64 lst.ref) := blk_at hB5 3
              have b4 : w5.cell? ⟨B, 4, none⟩ = some (.int .i64 lst.turn) := blk_at hB5 4
              have b5 : w5.cell? ⟨B, 5, none⟩ = some (.int .i64 lst.kind) := blk_at hB5 5
              have f5 := fun j => blk_free hB5 j
              have hn0' : 0 < n := by omega
              have hs6 : (w5.alloc (.cells #[.int .i64 y.at_, .int .i64 y.flow, .int .i64 y.run, .int .i64 y.ref, .int .i64 y.turn, .int .i64 y.kind] 33)).heap.size = w5.heap.size + 1 := by simp
              clear HT hst ho hm hls hB0
              go_wp2_with fail
              refine HLs.mono ?_
              rintro e w7 ⟨rfl, hu7⟩
              have ho7 := ho6.non hu7
              have hm7 : MapIt w7 mb l.length xs.length (fun a => a ∈ xs) := hm6.upd hu7 id
              have hB7 := (hu7.block B (by omega) id).trans hB6
              have hC7 := (hu7.block w5.heap.size (by omega) id).trans hC6
              have hBl7 := blk_lt hB7
              have g0 : w7.cell? ⟨B, 0, none⟩ = some (.int .i64 lst.at_) := blk_at hB7 0
              have g1 : w7.cell? ⟨B, 1, none⟩ = some (.int .i64 lst.flow) := blk_at hB7 1
              have g2 : w7.cell? ⟨B, 2, none⟩ = some (.int .i64 lst.run) := blk_at hB7 2
              have g3 : w7.cell? ⟨B, 3, none⟩ = some (.int .i64 lst.ref) := blk_at hB7 3
              have g4 : w7.cell? ⟨B, 4, none⟩ = some (.int .i64 lst.turn) := blk_at hB7 4
              have g5 : w7.cell? ⟨B, 5, none⟩ = some (.int .i64 lst.kind) := blk_at hB7 5
              have f7 := fun j => blk_free hB7 j
              have d0 : w7.cell? ⟨w5.heap.size, 0, none⟩ = some (.int .i64 y.at_) := blk_at hC7 0
              have d1 : w7.cell? ⟨w5.heap.size, 1, none⟩ = some (.int .i64 y.flow) := blk_at hC7 1
              have d2 : w7.cell? ⟨w5.heap.size, 2, none⟩ = some (.int .i64 y.run) := blk_at hC7 2
              have d3 : w7.cell? ⟨w5.heap.size, 3, none⟩ = some (.int .i64 y.ref) := blk_at hC7 3
              have d4 : w7.cell? ⟨w5.heap.size, 4, none⟩ = some (.int .i64 y.turn) := blk_at hC7 4
              have d5 : w7.cell? ⟨w5.heap.size, 5, none⟩ = some (.int .i64 y.kind) := blk_at hC7 5
              have HB7 := Lib.hid hB7
              clear hB7 hC7 hB6 hC6 L6 HLs
              go_wp2
              go_roundw
              case rel =>
                have hU := set6_upd w7 B y
                have ho8 := ho7.out hU fun q hq => by have hq : q = B := hq; rw [hq]; exact ⟨hFB5, hB1⟩
                have hm8 : MapIt (set6 w7 B y) mb l.length xs.length (fun a => a ∈ xs) := hm7.upd hU (fun e => hB3 (by have e : mb = B := e; exact e.symm))
                have hB8 := set6_blk y HB7.out
                exact ⟨n + 1, _, y, by omega, by go_num, ho8, hm8, hFm5, hFB5, hB8, Lib.hid (fun hn _ => by have := HG.out; rw [List.getElem?_eq_getElem (by omega)] at this; simpa using this.symm)⟩
              case measure => simp [intOf]; omega
          · have hne : n = dueN xs now := by omega
            have htd := take_none HSO.out now n hne
            have hdl' := due_le xs now
            have HT : Calls Try.prog 13 #[.pointer (some ⟨p, 0, none⟩), .int .i64 now] wr (fun e w' => e = .returned (.tuple #[.agg #[.int .i64 0, .int .i64 0, .int .i64 0, .int .i64 0, .int .i64 0, .int .i64 0], .bool false]) ∧ HStep 64 33 wr F p (xs.drop n) w') :=
              (take_spec wr F p (xs.drop n) now ho.1 (fun x _ => Sorted.srt (HSO.out.sublist (List.drop_sublist _ _)) (by simp; omega) x)).mono fun e w' h => by unfold TakePost at h; rw [htd] at h; exact h
            clear htd
            go_wp2_with fail
            refine HT.mono ?_
            rintro e w5 ⟨rfl, hst⟩
            have ho5 := (ho.step hst).non ((Upd.refl Non w5).alloc (.cells #[.int .i64 0, .int .i64 0, .int .i64 0, .int .i64 0, .int .i64 0, .int .i64 0] 33))
            have hm5 : MapIt (w5.alloc (.cells #[.int .i64 0, .int .i64 0, .int .i64 0, .int .i64 0, .int .i64 0, .int .i64 0] 33)) mb l.length xs.length (fun a => a ∈ xs) := (hm.upd hst.1 hFm).upd ((Upd.refl Non w5).alloc _) id
            have HLn := len_spec _ _ p (xs.drop n) ho5.1
            have hln := fun ty => hm5.len (t := 30) Try.underlying30 ty
            have hdn : ((xs.drop n).length : Int) = (xs.length : Int) - (dueN xs now : Int) := by rw [List.length_drop, hne]; omega
            rw [hdn] at HLn
            clear HT hst ho hm hlst hB0
            go_wp2_with fail
            refine HLn.mono ?_
            rintro e w6 ⟨rfl, rfl⟩
            have hUf := ho5.2.2.below
            clear hdn
            go_wp2
            go_ret
            exact ⟨rfl, hUf⟩
  · go_enter Try.func4, Try.ntmps4
    go_wp2_with fail
    refine (tknown_spec w).mono ?_
    rintro e w1 ⟨rfl, hu1⟩
    go_wp2
    go_ret
    exact ⟨rfl, hu1.below⟩
set_option maxRecDepth 100000 in
theorem timersDue_lifted (os : Os) (started : os.Started) (H : Type) (enc : TypeId × Value → H) :
    ReturnsInHanded {} Try.checked os 4 .any (Rows.timersDueSpec.pre6 enc Try.prog Try.f4 Rows.timersDueRow.domain false) (Rows.timersDueSpec.post enc Try.prog Try.f4 false true false false) := by
  refine returnsInHanded_of_change_sized (C := Try.checked) own started (by kernel_rfl) Try.func4
    (ChangeSpec.witness6 (enc := enc) (C := Try.checked) false ⟨#[], #[.slice none 0 0, .int .i64 0], []⟩ 8 (by kernel_rfl) (by kernel_rfl) (by kernel_rfl) (by kernel_rfl)) ?_
  intro W base args ds gs before hval0 hW hcnd hsz0 _
  have hval : ∀ (j : Nat) t v, Try.f4.params[j]? = some t → args[j]? = some v → Value.okWide Try.prog W .any base t v := hval0
  have hW' := hW
  obtain ⟨p, q, hA0, hV, rfl, hfz, hnd⟩ := hW
  have hA : DataW.TrodAll enc Try.prog W 0 (fun _ => true) true Try.f4.params.toList args.toList ds p := hA0
  have hsz : (DataW.weightsEach Try.prog (Try.f4.params.toList ++ Rows.timersDueSpec.plain.varTypes Try.prog) (ds ++ gs)).all (· ≤ reachBytes) = true := hsz0
  rw [Try.params4] at hA hval hsz
  obtain ⟨v0, vs0, d0, ds0, p0, q0, hargs, rfl, rfl, h0, r0⟩ := trodAll_cons hA
  obtain ⟨v1, vs1, d1, ds1, p1, q1, rfl, rfl, rfl, h1, r1⟩ := trodAll_cons r0
  obtain ⟨rfl, rfl, rfl⟩ := trodAll_nil r1
  obtain rfl : args = #[v0, v1] := by cases args; simp_all
  obtain ⟨rfl, rfl⟩ := trodVars_none hV
  obtain ⟨a0, len0, cap0, rfl⟩ := okWide_slice Try.underlying27 (hval 0 27 v0 rfl rfl)
  have lt0 : ∀ x ∈ p0, x.block < W.heap.size := by obtain ⟨m, hm⟩ := h0; exact DataW.trod_lt m _ _ _ hm
  obtain ⟨x0, hx0, lx0⟩ := open_arg opens_it Try.underlying27 (by kernel_rfl) rfl h0 (weights_of hsz (j := 0) rfl rfl)
  rw [show Try.prog.bytesOf 33 = 48 from by kernel_rfl] at lx0
  simp only [reachBytes] at lx0
  obtain ⟨n1, rfl, rfl, rfl, w1⟩ := open_int Try.underlying3 (hval 1 3 v1 rfl rfl) h1
  have b1 := bounds_i64 w1
  clear hA0 hval0
  refine (due_walk W _ x0 n1 hx0 (by omega)).mono fun e W' ⟨he, bel⟩ => ?_
  subst he
  exact ⟨_, rfl, _, _, _, [], _, [], hW', trodAll_mk1 (shut_bool Try.underlying4 _), (trodAll_cons_mk (Below.trod laidOut (by kernel_rfl) (of_decide_eq_true (by kernel_rfl)) h0 bel lt0) (trodAll_cons_mk (shut_int Try.underlying3 w1) trodAll_mk0)), rfl, bel.frame _, fun h => by cases h⟩

theorem timersDue_over : Rows.timersDueRow.holds Try.pinned (OpenSpec.ofChange Rows.timersDueSpec) :=
  OpenClaim.holds_of_wide 4 Try.f4 rfl rfl rfl rfl rfl rfl rfl ⟨rfl, rfl, rfl, rfl, rfl⟩ rfl rfl rfl rfl rfl (by kernel_rfl) Try.func4 (by kernel_rfl)
    (of_decide_eq_true (by kernel_rfl)) (by unfold Func.isWrapper; first | (rw [if_pos (by decide +kernel)]; kernel_rfl) | (rw [if_neg (by decide +kernel)]; exact ⟨rfl, rfl⟩))
    (fun os started H enc _ => timersDue_lifted os started H enc)

theorem timersDue_holds : Rows.TimersDueSaid := timersDue_over
#print axioms timersDue_holds

end Go.Proofs.Ytnaldifgnpnbhaa
