/-
  The reference's Set.
-/
import Derived.Test.YtgjikmpeeipboaaRC2
namespace Go.Proofs.Ytgjikmpeeipboaa
open Go.RowKit
theorem insL_at {L : List Alm} {p : Alm} {k : Nat} (h1 : ∀ j (hj : j < L.length), j < k → ltA L[j] p = true) (hk : k ≤ L.length) (h2 : ∀ hk : k < L.length, ltA L[k] p = false) : insL L p = L.take k ++ p :: L.drop k := by
  have key : ∀ (L : List Alm) (k : Nat), (∀ j (hj : j < L.length), j < k → ltA L[j] p = true) → k ≤ L.length → (∀ hk : k < L.length, ltA L[k] p = false) → L.takeWhile (ltA · p) = L.take k ∧ L.dropWhile (ltA · p) = L.drop k := by
    intro L
    induction L with
    | nil => intro k _ _ _; simp
    | cons a r ih =>
      intro k h1 hk h2
      cases k with
      | zero =>
        have := h2 (by simp)
        simp only [List.getElem_cons_zero] at this
        simp [List.takeWhile, List.dropWhile, this]
      | succ k =>
        have ha := h1 0 (by simp) (by omega)
        simp only [List.getElem_cons_zero] at ha
        obtain ⟨e1, e2⟩ := ih k (fun j hj hjk => by have := h1 (j + 1) (by simpa using hj) (by omega); simpa using this) (by simpa using hk) (fun hk' => by have := h2 (by simpa using hk'); simpa using this)
        simp [List.takeWhile, List.dropWhile, ha, e1, e2]
  obtain ⟨e1, e2⟩ := key L k h1 hk h2
  unfold insL
  rw [e1, e2]
def RSetPost (w : World) (F : Nat → Prop) (q : Nat) (t ai at_ : Int) (L : List Alm) (e : Ending) (w' : World) : Prop :=
  e = .returned (.bool (setB t at_)) ∧ Upd (fun x => x = q) w w' ∧ ∃ F', RClk w' F' q t (setR L t ai at_) ∧ ∀ k, F' k → F k ∨ New w w' k
theorem rset_end {w w1 w3 : World} {F : Nat → Prop} {q : Nat} {t ai at_ : Int} {v0 v : Value} {L : List Alm} (hu1 : Upd (fun x => x = q) w w1) (hb : w1.heap[q]? = some (.cells #[.int .i64 t, v0] 54 (0, 0))) (hu : Upd Non w1 w3) (hs : setB t at_ = true)
    (ho : Own almE 72 w3 (New w1 w3) v (insL (delL L ai) (ai, at_))) : RSetPost w F q t ai at_ L (.returned (.bool true)) (w3.setCell ⟨q, 1, none⟩ v) := by
  obtain ⟨h1, h2⟩ := rclk_lay hb hu ho
  exact ⟨by rw [hs], hu1.trans h1, _, by rw [setR, if_pos hs]; exact h2, fun k (hk : New w1 _ k) => .inr ⟨by have := hk.1; have := hu1.size; omega, hk.2⟩⟩
set_option maxRecDepth 100000 in
set_option maxHeartbeats 2000000 in
theorem rset_spec (w : World) (F : Nat → Prop) (q : Nat) (t ai at_ : Int) (L : List Alm) (h : RClk w F q t L) (hn : (idsA L).Nodup) (hl : L.length ≤ 1000000) :
    Calls Try.prog 25 #[.pointer (some ⟨q, 0, none⟩), .int .i64 ai, .int .i64 at_] w (RSetPost w F q t ai at_ L) := by
  have HD := rdrop_spec w F q t ai L h hn hl
  have hl1 : (delL L ai).length ≤ 1000000 := Nat.le_trans (List.length_filter_le _ _) hl
  have hset : ∀ w' F', setB t at_ = false → Upd (fun x => x = q) w w' → RClk w' F' q t (delL L ai) → (∀ k, F' k → F k ∨ New w w' k) → RSetPost w F q t ai at_ L (.returned (.bool false)) w' := fun w' F' h1 h2 h3 h4 => ⟨by rw [h1], h2, F', by rw [setR, h1]; exact h3, h4⟩
  by_cases g1 : at_ ≤ t
  · have t1 : decide (at_ ≤ t) = true := decide_eq_true g1
    have e1 : setB t at_ = false := by simp [setB]; omega
    go_enter Try.func25, Try.ntmps25
    go_wp2_with fail
    refine HD.mono ?_
    rintro e w1 ⟨rfl, hu1, F1, hc1, hF1⟩
    obtain ⟨A, c, hb, _, _, _⟩ := hc1.cells
    have c0 : w1.cell? ⟨q, 0, none⟩ = some (.int .i64 t) := blk_at hb 0
    have hend := hset w1 F1 e1 hu1 hc1 hF1
    clear hset e1
    go_wp2_with fail
    go_ret
    exact hend
  by_cases g2 : 1099511627776 < at_
  · have t1 : decide (at_ ≤ t) = false := decide_eq_false g1
    have t2 : decide (1099511627776 < at_) = true := decide_eq_true g2
    have e1 : setB t at_ = false := by simp [setB]; omega
    go_enter Try.func25, Try.ntmps25
    go_wp2_with fail
    refine HD.mono ?_
    rintro e w1 ⟨rfl, hu1, F1, hc1, hF1⟩
    obtain ⟨A, c, hb, _, _, _⟩ := hc1.cells
    have c0 : w1.cell? ⟨q, 0, none⟩ = some (.int .i64 t) := blk_at hb 0
    have hend := hset w1 F1 e1 hu1 hc1 hF1
    clear hset e1
    go_wp2_with fail
    go_ret
    exact hend
  have t1 : decide (at_ ≤ t) = false := decide_eq_false g1
  have t2 : decide (1099511627776 < at_) = false := decide_eq_false g2
  have e1 : setB t at_ = true := by simp [setB]; omega
  have hsetL : setR L t ai at_ = insL (delL L ai) (ai, at_) := by rw [setR, if_pos e1]
  clear hset
  go_enter Try.func25, Try.ntmps25
  go_wp2_with fail
  refine HD.mono ?_
  rintro e w1 ⟨rfl, hu1, F1, hc1, hF1⟩
  obtain ⟨A, c, hb, hc, hm, hr⟩ := hc1.cells
  obtain ⟨_, _, _, hnq, hfin⟩ := hc1
  have c0 : w1.cell? ⟨q, 0, none⟩ = some (.int .i64 t) := blk_at hb 0
  have c1 : w1.cell? ⟨q, 1, none⟩ = some (.slice A (delL L ai).length c) := blk_at hb 1
  have hend : ∀ (w3 : World) (v : Value), Upd Non w1 w3 → Own almE 72 w3 (New w1 w3) v (insL (delL L ai) (ai, at_)) → RSetPost w F q t ai at_ L (.returned (.bool true)) (w3.setCell ⟨q, 1, none⟩ v) := fun w3 v hu ho => rset_end hu1 hb hu e1 ho
  have HE := Lib.hid hend
  clear hend e1 hsetL
  generalize delL L ai = L1 at hl1 hb hc hr c1 HE
  obtain ⟨N, hN⟩ : ∃ N, L1.length = N := ⟨_, rfl⟩
  rw [hN] at c1 hc hl1
  have HN := Lib.hid hN
  clear hN HD hF1 hn hl h
  go_wp2_with fail
  go_loopw [7] (fun i wr => wr = w1 ∧ ∃ k : Nat, k ≤ N ∧ i = .int .i64 k ∧ Hid (∀ j (hj : j < L1.length), j < k → ltA L1[j] (ai, at_) = true)) (fun i _ => N - (intOf i).toNat)
  case atStart => exact ⟨by simp, 0, by omega, rfl, Lib.hid fun j hj h => absurd h (by omega)⟩
  case round =>
    obtain ⟨rfl, k, hk, rfl, hlt⟩ := hrel
    have hgoon : ∀ hkL : k < L1.length, ltA L1[k] (ai, at_) = true → Hid (∀ j (hj : j < L1.length), j < k + 1 → ltA L1[j] (ai, at_) = true) := fun hkL hy => Lib.hid fun j hj h1 => by
      rcases Nat.lt_or_ge j k with h2 | h2
      · exact hlt.out j hj h2
      · obtain rfl : j = k := by omega
        exact hy
    by_cases hkl : k < N
    · have hkL : k < L1.length := by rw [HN.out]; exact hkl
      obtain ⟨b1, o1, c1', e1, _, hFb, m0, m1⟩ := hr.alm hkL
      rw [HN.out] at e1
      cases e1
      have hgo := hgoon hkL
      clear hgoon
      by_cases g3 : L1[k].2 < at_
      · have HS := hgo (by rw [ltA_iff]; exact .inl g3)
        generalize L1[k].2 = y2 at m1 g3
        have t3 : decide (y2 < at_) = true := decide_eq_true g3
        clear hgo
        go_wp2_with fail
        go_roundw
        case rel => exact ⟨by simp, k + 1, by omega, by go_num, HS⟩
        case measure => simp [intOf]; omega
      · have t3 : decide (L1[k].2 < at_) = false := decide_eq_false g3
        by_cases g4 : L1[k].2 = at_
        · have t4 : (at_ == at_) = true := by simp
          by_cases g5 : L1[k].1 < ai
          · have HS := hgo (by rw [ltA_iff]; exact .inr ⟨g4, g5⟩)
            rw [g4] at m1 t3
            generalize L1[k].1 = y1 at m0 g5
            have t5 : decide (y1 < ai) = true := decide_eq_true g5
            clear hgo
            go_wp2_with fail
            go_roundw
            case rel => exact ⟨by simp, k + 1, by omega, by go_num, HS⟩
            case measure => simp [intOf]; omega
          · have t5 : decide (L1[k].1 < ai) = false := decide_eq_false g5
            have hck : ¬ c = k := by omega
            have hstop : ∀ hk' : k < L1.length, ltA L1[k] (ai, at_) = false := fun hk' => by
              cases hv : ltA L1[k] (ai, at_) with
              | false => rfl
              | true => rw [ltA_iff] at hv; simp only at hv; omega
            rw [g4] at m1 t3
            have hins : insL L1 (ai, at_) = L1.take k ++ (ai, at_) :: L1.drop k := insL_at hlt.out (by rw [HN.out]; exact hk) hstop
            obtain ⟨A0, c0', cs, ev, _, _, hat, hrel⟩ := id hr
            cases ev
            obtain ⟨ys1, hy1⟩ : ∃ y, L1.take k = y := ⟨_, rfl⟩
            obtain ⟨ys2, hy2⟩ : ∃ y, L1.drop k = y := ⟨_, rfl⟩
            have hl1' : ys1.length = k := by rw [← hy1, List.length_take, HN.out]; omega
            have hl2 : ys2.length = N - k := by rw [← hy2, List.length_drop, HN.out]
            have hr1 : ∀ W G, Rel almE W G ys1 (cs.take (k * 2)) := fun W G => by rw [← hy1]; exact (hrel.take k).flat almE_flat
            have hr2 : ∀ W G, Rel almE W G ys2 (cs.drop (k * 2)) := fun W G => by rw [← hy2]; exact (hrel.drop k).flat almE_flat
            have hat1 : ∀ W, Upd Non wr W → At W F1 (some ⟨b1, o1, none⟩) (cs.take (k * 2)) := fun W hu => (hat.take (k * 2)).keep fun x hx => hu.block x (hfin x hx) id
            have hat2 : ∀ W, Upd Non wr W → At W F1 (some ⟨b1, o1 + k * 2, none⟩) (cs.drop (k * 2)) := fun W hu => by
              have := hat.cut k c 2 L1.length hrel.length (by rw [HN.out]; exact hc)
              rw [if_neg hck] at this; simp only [Option.map_some, add_mk] at this
              exact this.keep fun x hx => hu.block x (hfin x hx) id
            have hqlt := blk_lt hb
            rw [hy1, hy2] at hins
            obtain ⟨ys3, hy3⟩ : ∃ y, ys1 ++ [((ai, at_) : Alm)] = y := ⟨_, rfl⟩
            have hins3 : insL L1 (ai, at_) = ys3 ++ ys2 := by rw [hins, ← hy3]; simp
            have HY := Lib.hid (And.intro hl1' (And.intro hl2 (And.intro hins3 hy3)))
            have h63a : ([] : List Alm).length + ys1.length ≤ maxLen := by rw [maxLen_eq, hl1']; simp; omega
            have h48a : (([] : List Alm).length + ys1.length) * 16 ≤ 140737488355328 := by rw [hl1']; simp; omega
            have h63b : ys1.length + [((ai, at_) : Alm)].length ≤ maxLen := by rw [maxLen_eq, hl1']; simp; omega
            have h48b : (ys1.length + [((ai, at_) : Alm)].length) * 16 ≤ 140737488355328 := by rw [hl1']; simp; omega
            have h63c : ys3.length + ys2.length ≤ maxLen := by rw [maxLen_eq, ← hy3, List.length_append, hl1', hl2]; simp; omega
            have h48c : (ys3.length + ys2.length) * 16 ≤ 140737488355328 := by rw [← hy3, List.length_append, hl1', hl2]; simp; omega
            have kz : (0 : Int) ≤ k := by omega
            have kc : (k : Int) ≤ c := by omega
            have kn : (k : Int) ≤ N := by omega
            clear hgo
            generalize L1[k].1 = y1 at m0 t5
            clear hl1' hl2 hins hins3 hy3 hy1 hy2 hat hrel hr
            go_wp2_with (first
              | (at_builtin; refine wpList_append (E := almE) (e := 72) (F := Non) (xs := []) (ys := ys1) _ rfl (.tmp 67) (.tmp 73) 52 rfl _ 16 Try.underlying52 info72 rfl (by decide) rfl (Own.empty _ _ _ _ _) (some ⟨b1, o1, none⟩) c (by rw [HY.out.1]; rfl) _ Non (hat1 _ ((Upd.refl _ _).alloc _)) (hr1 _ _) (fun _ h => h.elim) (Fin.non _) h63a h48a ?_; intro v2 w2 hu2 ho2; rw [List.nil_append] at ho2; obtain ⟨A2, c2, rfl, hc2, _⟩ := ho2.shape; have hu02 : Upd Non wr w2 := ((Upd.refl Non wr).alloc _).trans hu2; have ho2' := scr_new ((Upd.refl Non wr).alloc _) ho2)
              | (at_builtin; refine wpList_append (E := almE) (e := 72) (F := New wr w2) (xs := ys1) (ys := [(ai, at_)]) _ rfl (.tmp 74) (.tmp 78) 52 rfl _ 16 Try.underlying52 info72 rfl (by decide) rfl (ho2'.alloc Fin.new _) (some ⟨w2.heap.size, 0, none⟩) 1 rfl _ Non (at_box _ _ _) ⟨[.int .i64 ai, .int .i64 at_], [], rfl, rfl, rfl⟩ (fun _ h => h.elim) (Fin.new.upd ((Upd.refl Non _).alloc _)) h63b h48b ?_; intro v3 w3 hu3 ho3; rw [HY.out.2.2.2] at ho3; obtain ⟨hu03, ho3'⟩ := scr_next2 hu02 ((Upd.refl Non _).alloc _) hu3 ho3; obtain ⟨A3, c3, rfl, hc3, _⟩ := ho3'.shape; have q3 : w3.cell? ⟨q, 1, none⟩ = some (.slice (some ⟨b1, o1, none⟩) N c) := (hu03.cell (p := ⟨q, 1, none⟩) hqlt id).trans c1)
              | (at_builtin; refine wpList_append (E := almE) (e := 72) (F := New wr w3) (xs := ys3) (ys := ys2) _ rfl (.tmp 81) (.tmp 87) 52 rfl _ 16 Try.underlying52 info72 rfl (by decide) rfl ho3' (some ⟨b1, o1 + k * 2, none⟩) (c - k) (by rw [HY.out.2.1]; rfl) _ Non (hat2 _ hu03) (hr2 _ _) (fun _ h => h.elim) Fin.new h63c h48c ?_; intro v4 w4 hu4 ho4; obtain ⟨hu04, ho4'⟩ := scr_next hu03 hu4 ho4; rw [← HY.out.2.2.1] at ho4'; have hend := HE.out w4 v4 hu04 ho4'; obtain ⟨A4, c4, rfl, hc4, _⟩ := ho4'.shape; have f4 : w4.frozen? ⟨q, 1, none⟩ = false := blk_free ((hu04.block q hqlt id).trans hb) 1; have q4 : w4.cell? ⟨q, 1, none⟩ = some (.slice (some ⟨b1, o1, none⟩) N c) := (hu04.cell (p := ⟨q, 1, none⟩) hqlt id).trans c1))
            go_ret
            exact hend
        · have t4 : (L1[k].2 == at_) = false := by simpa using g4
          have hck : ¬ c = k := by omega
          have hstop : ∀ hk' : k < L1.length, ltA L1[k] (ai, at_) = false := fun hk' => by
            cases hv : ltA L1[k] (ai, at_) with
            | false => rfl
            | true => rw [ltA_iff] at hv; simp only at hv; omega
          have hins : insL L1 (ai, at_) = L1.take k ++ (ai, at_) :: L1.drop k := insL_at hlt.out (by rw [HN.out]; exact hk) hstop
          obtain ⟨A0, c0', cs, ev, _, _, hat, hrel⟩ := id hr
          cases ev
          obtain ⟨ys1, hy1⟩ : ∃ y, L1.take k = y := ⟨_, rfl⟩
          obtain ⟨ys2, hy2⟩ : ∃ y, L1.drop k = y := ⟨_, rfl⟩
          have hl1' : ys1.length = k := by rw [← hy1, List.length_take, HN.out]; omega
          have hl2 : ys2.length = N - k := by rw [← hy2, List.length_drop, HN.out]
          have hr1 : ∀ W G, Rel almE W G ys1 (cs.take (k * 2)) := fun W G => by rw [← hy1]; exact (hrel.take k).flat almE_flat
          have hr2 : ∀ W G, Rel almE W G ys2 (cs.drop (k * 2)) := fun W G => by rw [← hy2]; exact (hrel.drop k).flat almE_flat
          have hat1 : ∀ W, Upd Non wr W → At W F1 (some ⟨b1, o1, none⟩) (cs.take (k * 2)) := fun W hu => (hat.take (k * 2)).keep fun x hx => hu.block x (hfin x hx) id
          have hat2 : ∀ W, Upd Non wr W → At W F1 (some ⟨b1, o1 + k * 2, none⟩) (cs.drop (k * 2)) := fun W hu => by
            have := hat.cut k c 2 L1.length hrel.length (by rw [HN.out]; exact hc)
            rw [if_neg hck] at this; simp only [Option.map_some, add_mk] at this
            exact this.keep fun x hx => hu.block x (hfin x hx) id
          have hqlt := blk_lt hb
          rw [hy1, hy2] at hins
          obtain ⟨ys3, hy3⟩ : ∃ y, ys1 ++ [((ai, at_) : Alm)] = y := ⟨_, rfl⟩
          have hins3 : insL L1 (ai, at_) = ys3 ++ ys2 := by rw [hins, ← hy3]; simp
          have HY := Lib.hid (And.intro hl1' (And.intro hl2 (And.intro hins3 hy3)))
          have h63a : ([] : List Alm).length + ys1.length ≤ maxLen := by rw [maxLen_eq, hl1']; simp; omega
          have h48a : (([] : List Alm).length + ys1.length) * 16 ≤ 140737488355328 := by rw [hl1']; simp; omega
          have h63b : ys1.length + [((ai, at_) : Alm)].length ≤ maxLen := by rw [maxLen_eq, hl1']; simp; omega
          have h48b : (ys1.length + [((ai, at_) : Alm)].length) * 16 ≤ 140737488355328 := by rw [hl1']; simp; omega
          have h63c : ys3.length + ys2.length ≤ maxLen := by rw [maxLen_eq, ← hy3, List.length_append, hl1', hl2]; simp; omega
          have h48c : (ys3.length + ys2.length) * 16 ≤ 140737488355328 := by rw [← hy3, List.length_append, hl1', hl2]; simp; omega
          have kz : (0 : Int) ≤ k := by omega
          have kc : (k : Int) ≤ c := by omega
          have kn : (k : Int) ≤ N := by omega
          clear hgo
          generalize L1[k].2 = y2 at m1 t3 t4
          clear hl1' hl2 hins hins3 hy3 hy1 hy2 hat hrel hr
          go_wp2_with (first
            | (at_builtin; refine wpList_append (E := almE) (e := 72) (F := Non) (xs := []) (ys := ys1) _ rfl (.tmp 67) (.tmp 73) 52 rfl _ 16 Try.underlying52 info72 rfl (by decide) rfl (Own.empty _ _ _ _ _) (some ⟨b1, o1, none⟩) c (by rw [HY.out.1]; rfl) _ Non (hat1 _ ((Upd.refl _ _).alloc _)) (hr1 _ _) (fun _ h => h.elim) (Fin.non _) h63a h48a ?_; intro v2 w2 hu2 ho2; rw [List.nil_append] at ho2; obtain ⟨A2, c2, rfl, hc2, _⟩ := ho2.shape; have hu02 : Upd Non wr w2 := ((Upd.refl Non wr).alloc _).trans hu2; have ho2' := scr_new ((Upd.refl Non wr).alloc _) ho2)
            | (at_builtin; refine wpList_append (E := almE) (e := 72) (F := New wr w2) (xs := ys1) (ys := [(ai, at_)]) _ rfl (.tmp 74) (.tmp 78) 52 rfl _ 16 Try.underlying52 info72 rfl (by decide) rfl (ho2'.alloc Fin.new _) (some ⟨w2.heap.size, 0, none⟩) 1 rfl _ Non (at_box _ _ _) ⟨[.int .i64 ai, .int .i64 at_], [], rfl, rfl, rfl⟩ (fun _ h => h.elim) (Fin.new.upd ((Upd.refl Non _).alloc _)) h63b h48b ?_; intro v3 w3 hu3 ho3; rw [HY.out.2.2.2] at ho3; obtain ⟨hu03, ho3'⟩ := scr_next2 hu02 ((Upd.refl Non _).alloc _) hu3 ho3; obtain ⟨A3, c3, rfl, hc3, _⟩ := ho3'.shape; have q3 : w3.cell? ⟨q, 1, none⟩ = some (.slice (some ⟨b1, o1, none⟩) N c) := (hu03.cell (p := ⟨q, 1, none⟩) hqlt id).trans c1)
            | (at_builtin; refine wpList_append (E := almE) (e := 72) (F := New wr w3) (xs := ys3) (ys := ys2) _ rfl (.tmp 81) (.tmp 87) 52 rfl _ 16 Try.underlying52 info72 rfl (by decide) rfl ho3' (some ⟨b1, o1 + k * 2, none⟩) (c - k) (by rw [HY.out.2.1]; rfl) _ Non (hat2 _ hu03) (hr2 _ _) (fun _ h => h.elim) Fin.new h63c h48c ?_; intro v4 w4 hu4 ho4; obtain ⟨hu04, ho4'⟩ := scr_next hu03 hu4 ho4; rw [← HY.out.2.2.1] at ho4'; have hend := HE.out w4 v4 hu04 ho4'; obtain ⟨A4, c4, rfl, hc4, _⟩ := ho4'.shape; have f4 : w4.frozen? ⟨q, 1, none⟩ = false := blk_free ((hu04.block q hqlt id).trans hb) 1; have q4 : w4.cell? ⟨q, 1, none⟩ = some (.slice (some ⟨b1, o1, none⟩) N c) := (hu04.cell (p := ⟨q, 1, none⟩) hqlt id).trans c1))
          go_ret
          exact hend
    · obtain rfl : k = N := by omega
      have hstop : ∀ hk' : k < L1.length, ltA L1[k] (ai, at_) = false := fun hk' => absurd hk' (by rw [HN.out]; omega)
      have hk0 : k - k = 0 := Nat.sub_self k
      by_cases hck : c = k
      · obtain rfl : k = c := hck.symm
        have hins : insL L1 (ai, at_) = L1.take k ++ (ai, at_) :: L1.drop k := insL_at hlt.out (by rw [HN.out]; exact hk) hstop
        obtain ⟨A0, c0', cs, ev, _, _, hat, hrel⟩ := id hr
        cases ev
        obtain ⟨ys1, hy1⟩ : ∃ y, L1.take k = y := ⟨_, rfl⟩
        obtain ⟨ys2, hy2⟩ : ∃ y, L1.drop k = y := ⟨_, rfl⟩
        have hl1' : ys1.length = k := by rw [← hy1, List.length_take, HN.out]; omega
        have hl2 : ys2.length = 0 := by rw [← hy2, List.length_drop, HN.out]; exact hk0
        have hr1 : ∀ W G, Rel almE W G ys1 (cs.take (k * 2)) := fun W G => by rw [← hy1]; exact (hrel.take k).flat almE_flat
        have hr2 : ∀ W G, Rel almE W G ys2 (cs.drop (k * 2)) := fun W G => by rw [← hy2]; exact (hrel.drop k).flat almE_flat
        have hat1 : ∀ W, Upd Non wr W → At W F1 A (cs.take (k * 2)) := fun W hu => (hat.take (k * 2)).keep fun x hx => hu.block x (hfin x hx) id
        have hat2 : ∀ W, Upd Non wr W → At W F1 A (cs.drop (k * 2)) := fun W hu => by
          have := hat.cut k k 2 L1.length hrel.length (by rw [HN.out]; exact hc)
          rw [if_pos rfl] at this
          exact this.keep fun x hx => hu.block x (hfin x hx) id
        have hqlt := blk_lt hb
        rw [hy1, hy2] at hins
        obtain ⟨ys3, hy3⟩ : ∃ y, ys1 ++ [((ai, at_) : Alm)] = y := ⟨_, rfl⟩
        have hins3 : insL L1 (ai, at_) = ys3 ++ ys2 := by rw [hins, ← hy3]; simp
        have HY := Lib.hid (And.intro hl1' (And.intro hl2 (And.intro hins3 hy3)))
        have h63a : ([] : List Alm).length + ys1.length ≤ maxLen := by rw [maxLen_eq, hl1']; simp; omega
        have h48a : (([] : List Alm).length + ys1.length) * 16 ≤ 140737488355328 := by rw [hl1']; simp; omega
        have h63b : ys1.length + [((ai, at_) : Alm)].length ≤ maxLen := by rw [maxLen_eq, hl1']; simp; omega
        have h48b : (ys1.length + [((ai, at_) : Alm)].length) * 16 ≤ 140737488355328 := by rw [hl1']; simp; omega
        have h63c : ys3.length + ys2.length ≤ maxLen := by rw [maxLen_eq, ← hy3, List.length_append, hl1', hl2]; simp; omega
        have h48c : (ys3.length + ys2.length) * 16 ≤ 140737488355328 := by rw [← hy3, List.length_append, hl1', hl2]; simp; omega
        have kz : (0 : Int) ≤ k := by omega
        have kc : (k : Int) ≤ k := by omega
        have kn : (k : Int) ≤ k := by omega
        clear hl1' hl2 hins hins3 hy3 hy1 hy2 hat hrel hr
        go_wp2_with (first
          | (at_builtin; refine wpList_append (E := almE) (e := 72) (F := Non) (xs := []) (ys := ys1) _ rfl (.tmp 67) (.tmp 73) 52 rfl _ 16 Try.underlying52 info72 rfl (by decide) rfl (Own.empty _ _ _ _ _) A k (by rw [HY.out.1]; rfl) _ Non (hat1 _ ((Upd.refl _ _).alloc _)) (hr1 _ _) (fun _ h => h.elim) (Fin.non _) h63a h48a ?_; intro v2 w2 hu2 ho2; rw [List.nil_append] at ho2; obtain ⟨A2, c2, rfl, hc2, _⟩ := ho2.shape; have hu02 : Upd Non wr w2 := ((Upd.refl Non wr).alloc _).trans hu2; have ho2' := scr_new ((Upd.refl Non wr).alloc _) ho2)
          | (at_builtin; refine wpList_append (E := almE) (e := 72) (F := New wr w2) (xs := ys1) (ys := [(ai, at_)]) _ rfl (.tmp 74) (.tmp 78) 52 rfl _ 16 Try.underlying52 info72 rfl (by decide) rfl (ho2'.alloc Fin.new _) (some ⟨w2.heap.size, 0, none⟩) 1 rfl _ Non (at_box _ _ _) ⟨[.int .i64 ai, .int .i64 at_], [], rfl, rfl, rfl⟩ (fun _ h => h.elim) (Fin.new.upd ((Upd.refl Non _).alloc _)) h63b h48b ?_; intro v3 w3 hu3 ho3; rw [HY.out.2.2.2] at ho3; obtain ⟨hu03, ho3'⟩ := scr_next2 hu02 ((Upd.refl Non _).alloc _) hu3 ho3; obtain ⟨A3, c3, rfl, hc3, _⟩ := ho3'.shape; have q3 : w3.cell? ⟨q, 1, none⟩ = some (.slice A k k) := (hu03.cell (p := ⟨q, 1, none⟩) hqlt id).trans c1)
          | (at_builtin; refine wpList_append (E := almE) (e := 72) (F := New wr w3) (xs := ys3) (ys := ys2) _ rfl (.tmp 81) (.tmp 87) 52 rfl _ 16 Try.underlying52 info72 rfl (by decide) rfl ho3' A 0 (by rw [HY.out.2.1]; rfl) _ Non (hat2 _ hu03) (hr2 _ _) (fun _ h => h.elim) Fin.new h63c h48c ?_; intro v4 w4 hu4 ho4; obtain ⟨hu04, ho4'⟩ := scr_next hu03 hu4 ho4; rw [← HY.out.2.2.1] at ho4'; have hend := HE.out w4 v4 hu04 ho4'; obtain ⟨A4, c4, rfl, hc4, _⟩ := ho4'.shape; have f4 : w4.frozen? ⟨q, 1, none⟩ = false := blk_free ((hu04.block q hqlt id).trans hb) 1; have q4 : w4.cell? ⟨q, 1, none⟩ = some (.slice A k k) := (hu04.cell (p := ⟨q, 1, none⟩) hqlt id).trans c1))
        go_ret
        exact hend
      · trace_state
        have hins : insL L1 (ai, at_) = L1.take k ++ (ai, at_) :: L1.drop k := insL_at hlt.out (by rw [HN.out]; exact hk) hstop
        obtain ⟨A0, c0', cs, ev, _, _, hat, hrel⟩ := id hr
        cases ev
        obtain ⟨ys1, hy1⟩ : ∃ y, L1.take k = y := ⟨_, rfl⟩
        obtain ⟨ys2, hy2⟩ : ∃ y, L1.drop k = y := ⟨_, rfl⟩
        have hl1' : ys1.length = k := by rw [← hy1, List.length_take, HN.out]; omega
        have hl2 : ys2.length = 0 := by rw [← hy2, List.length_drop, HN.out]; exact hk0
        have hr1 : ∀ W G, Rel almE W G ys1 (cs.take (k * 2)) := fun W G => by rw [← hy1]; exact (hrel.take k).flat almE_flat
        have hr2 : ∀ W G, Rel almE W G ys2 (cs.drop (k * 2)) := fun W G => by rw [← hy2]; exact (hrel.drop k).flat almE_flat
        have hat1 : ∀ W, Upd Non wr W → At W F1 A (cs.take (k * 2)) := fun W hu => (hat.take (k * 2)).keep fun x hx => hu.block x (hfin x hx) id
        have hat2 : ∀ W, Upd Non wr W → At W F1 (A.map (·.add (k * 2))) (cs.drop (k * 2)) := fun W hu => by
          have := hat.cut k c 2 L1.length hrel.length (by rw [HN.out]; exact hc)
          rw [if_neg hck] at this
          exact this.keep fun x hx => hu.block x (hfin x hx) id
        have hqlt := blk_lt hb
        rw [hy1, hy2] at hins
        obtain ⟨ys3, hy3⟩ : ∃ y, ys1 ++ [((ai, at_) : Alm)] = y := ⟨_, rfl⟩
        have hins3 : insL L1 (ai, at_) = ys3 ++ ys2 := by rw [hins, ← hy3]; simp
        have HY := Lib.hid (And.intro hl1' (And.intro hl2 (And.intro hins3 hy3)))
        have h63a : ([] : List Alm).length + ys1.length ≤ maxLen := by rw [maxLen_eq, hl1']; simp; omega
        have h48a : (([] : List Alm).length + ys1.length) * 16 ≤ 140737488355328 := by rw [hl1']; simp; omega
        have h63b : ys1.length + [((ai, at_) : Alm)].length ≤ maxLen := by rw [maxLen_eq, hl1']; simp; omega
        have h48b : (ys1.length + [((ai, at_) : Alm)].length) * 16 ≤ 140737488355328 := by rw [hl1']; simp; omega
        have h63c : ys3.length + ys2.length ≤ maxLen := by rw [maxLen_eq, ← hy3, List.length_append, hl1', hl2]; simp; omega
        have h48c : (ys3.length + ys2.length) * 16 ≤ 140737488355328 := by rw [← hy3, List.length_append, hl1', hl2]; simp; omega
        have kz : (0 : Int) ≤ k := by omega
        have kc : (k : Int) ≤ c := by omega
        have kn : (k : Int) ≤ k := by omega
        clear hl1' hl2 hins hins3 hy3 hy1 hy2 hat hrel hr
        go_wp2_with (first
          | (at_builtin; refine wpList_append (E := almE) (e := 72) (F := Non) (xs := []) (ys := ys1) _ rfl (.tmp 67) (.tmp 73) 52 rfl _ 16 Try.underlying52 info72 rfl (by decide) rfl (Own.empty _ _ _ _ _) A c (by rw [HY.out.1]; rfl) _ Non (hat1 _ ((Upd.refl _ _).alloc _)) (hr1 _ _) (fun _ h => h.elim) (Fin.non _) h63a h48a ?_; intro v2 w2 hu2 ho2; rw [List.nil_append] at ho2; obtain ⟨A2, c2, rfl, hc2, _⟩ := ho2.shape; have hu02 : Upd Non wr w2 := ((Upd.refl Non wr).alloc _).trans hu2; have ho2' := scr_new ((Upd.refl Non wr).alloc _) ho2)
          | (at_builtin; refine wpList_append (E := almE) (e := 72) (F := New wr w2) (xs := ys1) (ys := [(ai, at_)]) _ rfl (.tmp 74) (.tmp 78) 52 rfl _ 16 Try.underlying52 info72 rfl (by decide) rfl (ho2'.alloc Fin.new _) (some ⟨w2.heap.size, 0, none⟩) 1 rfl _ Non (at_box _ _ _) ⟨[.int .i64 ai, .int .i64 at_], [], rfl, rfl, rfl⟩ (fun _ h => h.elim) (Fin.new.upd ((Upd.refl Non _).alloc _)) h63b h48b ?_; intro v3 w3 hu3 ho3; rw [HY.out.2.2.2] at ho3; obtain ⟨hu03, ho3'⟩ := scr_next2 hu02 ((Upd.refl Non _).alloc _) hu3 ho3; obtain ⟨A3, c3, rfl, hc3, _⟩ := ho3'.shape; have q3 : w3.cell? ⟨q, 1, none⟩ = some (.slice A k c) := (hu03.cell (p := ⟨q, 1, none⟩) hqlt id).trans c1)
          | (at_builtin; refine wpList_append (E := almE) (e := 72) (F := New wr w3) (xs := ys3) (ys := ys2) _ rfl (.tmp 81) (.tmp 87) 52 rfl _ 16 Try.underlying52 info72 rfl (by decide) rfl ho3' (A.map (·.add (k * 2))) (c - k) (by rw [HY.out.2.1]; rfl) _ Non (hat2 _ hu03) (hr2 _ _) (fun _ h => h.elim) Fin.new h63c h48c ?_; intro v4 w4 hu4 ho4; obtain ⟨hu04, ho4'⟩ := scr_next hu03 hu4 ho4; rw [← HY.out.2.2.1] at ho4'; have hend := HE.out w4 v4 hu04 ho4'; obtain ⟨A4, c4, rfl, hc4, _⟩ := ho4'.shape; have f4 : w4.frozen? ⟨q, 1, none⟩ = false := blk_free ((hu04.block q hqlt id).trans hb) 1; have q4 : w4.cell? ⟨q, 1, none⟩ = some (.slice A k c) := (hu04.cell (p := ⟨q, 1, none⟩) hqlt id).trans c1))
        go_ret
        exact hend

end Go.Proofs.Ytgjikmpeeipboaa
