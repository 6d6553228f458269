/-
  The reference's Drop.
-/
import Derived.Test.YtgjikmpeeipboaaRC1
namespace Go.Proofs.Ytgjikmpeeipboaa
open Go.RowKit
set_option maxRecDepth 100000 in
set_option maxHeartbeats 2000000 in
theorem rdrop_spec (w : World) (F : Nat → Prop) (q : Nat) (t ai : Int) (L : List Alm) (h : RClk w F q t L) (hn : (idsA L).Nodup) (hl : L.length ≤ 1000000) :
    Calls Try.prog 27 #[.pointer (some ⟨q, 0, none⟩), .int .i64 ai] w (RDropPost w F q t ai L) := by
  obtain ⟨A, c, hb, hc, hm, hr⟩ := h.cells
  obtain ⟨_, _, ho, hnq, hfin⟩ := id h
  have c1 : w.cell? ⟨q, 1, none⟩ = some (.slice A L.length c) := blk_at hb 1
  have hnone : (∀ j (hj : j < L.length), ¬ L[j].1 = ai) → RDropPost w F q t ai L (.returned (.bool false)) w := fun hno => by
    have h1 : ai ∉ idsA L := fun hm => by
      obtain ⟨y, hy, e⟩ := List.mem_map.1 hm
      obtain ⟨j, hj, rfl⟩ := List.mem_iff_getElem.1 hy
      exact hno j hj e
    have h2 : (L.any fun y => y.1 == ai) = false := by
      rw [List.any_eq_false]
      intro y hy e
      exact h1 (List.mem_map.2 ⟨y, hy, by simpa using e⟩)
    refine ⟨by rw [h2], Upd.refl _ _, F, by rw [delL_none0 h1]; exact h, fun k hk => .inl hk⟩
  obtain ⟨N, hN⟩ : ∃ N, L.length = N := ⟨_, rfl⟩
  rw [hN] at c1 hc hl
  have HN := Lib.hid hN
  clear hN ho
  go_enter Try.func27, Try.ntmps27
  go_wp2
  go_loopw [5] (fun i wr => wr = w ∧ ∃ k : Nat, k ≤ N ∧ i = .int .i64 k ∧ Hid (∀ j (hj : j < L.length), j < k → ¬ L[j].1 = ai)) (fun i _ => N - (intOf i).toNat)
  case atStart => exact ⟨rfl, 0, by omega, rfl, Lib.hid fun j hj h => absurd h (by omega)⟩
  case round =>
    obtain ⟨rfl, k, hk, rfl, hno⟩ := hrel
    by_cases hkl : k < N
    · have hkL : k < L.length := by rw [HN.out]; exact hkl
      obtain ⟨b1, o1, c1', e1, _, hF1, m0, m1⟩ := hr.alm hkL
      rw [HN.out] at e1
      cases e1
      by_cases hid : L[k].1 = ai
      · have t1 : (ai == ai) = true := by simp
        rw [hid] at m0
        have hdel := del_at hn hkL
        rw [hid] at hdel
        have hany : (L.any fun y => y.1 == ai) = true := by
          rw [List.any_eq_true]
          exact ⟨L[k], List.getElem_mem hkL, by simp [hid]⟩
        obtain ⟨A0, c0', cs, ev, _, _, hat, hrel⟩ := id hr
        cases ev
        obtain ⟨ys1, hy1⟩ : ∃ y, L.take k = y := ⟨_, rfl⟩
        obtain ⟨ys2, hy2⟩ : ∃ y, L.drop (k + 1) = y := ⟨_, rfl⟩
        have hl1 : ys1.length = k := by rw [← hy1, List.length_take]; omega
        have hl2 : ys2.length = N - (k + 1) := by rw [← hy2, List.length_drop, HN.out]
        have hr1 : ∀ W G, Rel almE W G ys1 (cs.take (k * 2)) := fun W G => by rw [← hy1]; exact (hrel.take k).flat almE_flat
        have hr2 : ∀ W G, Rel almE W G ys2 (cs.drop ((k + 1) * 2)) := fun W G => by rw [← hy2]; exact (hrel.drop (k + 1)).flat almE_flat
        have hat1 : ∀ W, Upd Non wr W → At W F (some ⟨b1, o1, none⟩) (cs.take (k * 2)) := fun W hu => (hat.take (k * 2)).keep fun x hx => hu.block x (hfin x hx) id
        have hat2 : ∀ W, Upd Non wr W → At W F (if c = k + 1 then some ⟨b1, o1, none⟩ else some ⟨b1, o1 + (k + 1) * 2, none⟩) (cs.drop ((k + 1) * 2)) := fun W hu => by
          have := hat.cut (k + 1) c 2 L.length hrel.length (by rw [HN.out]; exact hc)
          simp only [Option.map_some, add_mk] at this
          exact this.keep fun x hx => hu.block x (hfin x hx) id
        have hup : ∀ o, Upd Non wr ((wr.alloc o).drew) := fun o => ((Upd.refl _ _).alloc o).drew
        have hqlt := blk_lt hb
        rw [hy1, hy2] at hdel
        have HY := Lib.hid (And.intro hl1 (And.intro hl2 hdel))
        have h63a : ([] : List Alm).length + ys1.length ≤ maxLen := by rw [maxLen_eq, hl1]; simp; omega
        have h48a : (([] : List Alm).length + ys1.length) * 16 ≤ 140737488355328 := by rw [hl1]; simp; omega
        have h63b : ys1.length + ys2.length ≤ maxLen := by rw [maxLen_eq, hl1, hl2]; omega
        have h48b : (ys1.length + ys2.length) * 16 ≤ 140737488355328 := by rw [hl1, hl2]; omega
        have kz : (0 : Int) ≤ k := by omega
        have kc : (k : Int) ≤ c := by omega
        have kw : IntKind.i64.wrap ((k : Int) + 1) = (k : Int) + 1 := by rw [IntWalk.i64_in _ (by omega)]
        have kz1 : (0 : Int) ≤ (k : Int) + 1 := by omega
        have kn1 : (k : Int) + 1 ≤ N := by omega
        clear hl1 hl2 hdel hy1 hy2 hat hrel hr hno m1 hnone hn
        go_wp2_with fail
        go_region_law (first
          | (refine step_append (E := almE) (e := 72) (F := Non) (xs := []) (ys := ys1) _ rfl (.tmp 26) (.tmp 32) 52 rfl _ 16 Try.underlying52 info72 rfl (by decide) rfl (Own.empty _ _ _ _ _) (some ⟨b1, o1, none⟩) c (by rw [HY.out.1]; rfl) _ Non (hat1 _ (hup _)) (hr1 _ _) (fun _ h => h.elim) (Fin.non _) h63a h48a ?_; intro v2 w2 hu2 ho2; rw [List.nil_append] at ho2; obtain ⟨A2, c2, rfl, hc2, _⟩ := ho2.shape; have hu02 := (hup _).trans hu2; have q2 : w2.cell? ⟨q, 1, none⟩ = some (.slice (some ⟨b1, o1, none⟩) N c) := (hu02.cell (p := ⟨q, 1, none⟩) hqlt id).trans c1; have ho2' := scr_new (hup _) ho2)
          | (refine step_append (E := almE) (e := 72) (F := New wr w2) (xs := ys1) (ys := ys2) _ rfl (.tmp 33) (.tmp 40) 52 rfl _ 16 Try.underlying52 info72 rfl (by decide) rfl ho2' (if c = k + 1 then some ⟨b1, o1, none⟩ else some ⟨b1, o1 + (k + 1) * 2, none⟩) (c - (k + 1)) (by rw [HY.out.2.1]; rfl) _ Non (hat2 _ hu02) (hr2 _ _) (fun _ h => h.elim) Fin.new h63b h48b ?_; intro v3 w3 hu3 ho3; obtain ⟨hu03, ho3'⟩ := scr_next hu02 hu3 ho3; rw [← HY.out.2.2] at ho3'; obtain ⟨A3, c3, rfl, hc3, _⟩ := ho3'.shape; have hb3 := (hu03.block q hqlt id).trans hb; have f3 : w3.frozen? ⟨q, 1, none⟩ = false := blk_free hb3 1; have q3 : w3.cell? ⟨q, 1, none⟩ = some (.slice (some ⟨b1, o1, none⟩) L.length c) := blk_at hb3 1; have hend := rdrop_end (F := F) hb hu03 ho3' hany))
        all_goals go_wp2
        all_goals (go_ret; exact hend)
      · have t1 : (L[k].1 == ai) = false := by simpa using hid
        have hno' : ∀ j (hj : j < L.length), j < k + 1 → ¬ L[j].1 = ai := fun j hj h1 => by
          rcases Nat.lt_or_ge j k with h2 | h2
          · exact hno.out j hj h2
          · obtain rfl : j = k := by omega
            exact hid
        have HN2 := Lib.hid hno'
        clear hno' hid
        generalize L[k].1 = x at m0 t1
        go_wp2_with fail
        go_roundw
        case rel => exact ⟨by simp, k + 1, by omega, by go_num, HN2⟩
        case measure => simp [intOf]; omega
    · obtain rfl : k = N := by omega
      have hend := hnone fun j hj => hno.out j hj (by rw [← HN.out]; exact hj)
      go_wp2_with fail
      go_ret
      exact hend
end Go.Proofs.Ytgjikmpeeipboaa
