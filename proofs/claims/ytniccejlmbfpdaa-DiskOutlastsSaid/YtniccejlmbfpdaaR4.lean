/-
  The walk of (*Log).Merge.
-/
import Derived.Test.YtniccejlmbfpdaaR3
namespace Go.Proofs.Ytniccejlmbfpdaa
open Go.RowKit
attribute [local go_sem] max2_int min2_int max_two min_two

/-- how many of l stand in the log from the place y on, one behind the other -/
def met (i t : Int) (es : List Ent) : Int → List Ent → Nat
  | _, [] => 0
  | y, e :: l => if matchB i t es y e.1 then met i t es (y + 1) l + 1 else 0
theorem met_le (i t : Int) (es : List Ent) : ∀ (l : List Ent) (y : Int), met i t es y l ≤ l.length
  | [], _ => Nat.le_refl _
  | e :: l, y => by
    have := met_le i t es l (y + 1)
    simp only [met, List.length_cons]
    split <;> omega
theorem met_yes (i t : Int) (es : List Ent) (l : List Ent) (y : Int) (k : Nat) (h : k < l.length) (hm : matchB i t es (y + k) l[k].1 = true) :
    met i t es (y + k) (l.drop k) = met i t es (y + (k + 1 : Nat)) (l.drop (k + 1)) + 1 := by
  rw [List.drop_eq_getElem_cons h]
  simp only [met, hm, if_true]
  rw [show y + (k : Int) + 1 = y + ((k + 1 : Nat) : Int) by omega]
theorem met_no (i t : Int) (es : List Ent) (l : List Ent) (y : Int) (k : Nat) (h : k < l.length) (hm : matchB i t es (y + k) l[k].1 = false) :
    met i t es (y + k) (l.drop k) = 0 := by
  rw [List.drop_eq_getElem_cons h]
  simp [met, hm]
theorem match_in {i t : Int} {es : List Ent} {x u : Int} (h : matchB i t es x u = true) : i ≤ x ∧ x ≤ i + es.length := by
  have h2 : (termOf i t es x).2 = true := by
    unfold matchB at h
    simp only [Bool.and_eq_true] at h
    exact h.1
  unfold termOf at h2
  split at h2
  · omega
  · split at h2
    · simp at h2
    · omega
theorem term_in {i t : Int} {es : List Ent} {x : Int} (h : (termOf i t es x).2 = true) : i ≤ x ∧ x ≤ i + es.length := by
  unfold termOf at h
  split at h
  · omega
  · split at h
    · simp at h
    · omega
/-- a log's blocks, its own and its entries' -/
def Ft (p : Nat) (F : Nat → Prop) : Nat → Prop := fun k => k = p ∨ F k
/-- what Merge answers, and the log behind it -/
def MergePost (w : World) (F : Nat → Prop) (p : Nat) (i t : Int) (es : List Ent) (x : Int) (l : List Ent) (e : Ending) (w' : World) : Prop :=
  ((termOf i t es x).2 && rises (max (termOf i t es x).1 1) l) = false ∧ e = .returned (.tuple #[.int .i64 0, .slice none 0 0, .int .i64 6]) ∧ Upd Non w w' ∨
  ((termOf i t es x).2 && rises (max (termOf i t es x).1 1) l) = true ∧ met i t es (x + 1) l = l.length ∧ e = .returned (.tuple #[.int .i64 0, .slice none 0 0, .int .i64 0]) ∧ Upd Non w w' ∨
  ((termOf i t es x).2 && rises (max (termOf i t es x).1 1) l) = true ∧ ∃ m v' F', met i t es (x + 1) l = m ∧ m < l.length ∧ (0 : Int) ≤ x - i + m ∧ x - i + m ≤ es.length ∧
    e = .returned (.tuple #[.int .i64 (x + 1 + m), v', .int .i64 0]) ∧ Upd (Ft p F) w w' ∧ Log w' F' p i t (es.take (x - i + m).toNat ++ l.drop m) ∧
    (∀ k, F' k → F k ∨ New w w' k) ∧ Rd entE w' (New w w') v' (l.drop m)

theorem Log.upd {w w' : World} {S F : Nat → Prop} {p : Nat} {i t : Int} {es : List Ent} (h : Log w F p i t es) (hu : Upd S w w') (hp : ¬ S p) (hf : ∀ k, F k → ¬ S k) : Log w' F p i t es := by
  obtain ⟨v, hb, ho, hn, hfin⟩ := h
  exact ⟨v, (hu.block p (blk_lt hb) hp).trans hb, ho.upd hu fun k hk => ⟨hfin k hk, hf k hk⟩, hn, hfin.upd hu⟩
theorem Log.non {w w' : World} {F : Nat → Prop} {p : Nat} {i t : Int} {es : List Ent} (h : Log w F p i t es) (hu : Upd Non w w') : Log w' F p i t es := h.upd hu id fun _ _ => id

theorem sep_two {w w1 : World} {F : Nat → Prop} (hF : Fin w F) : ∀ k, New w w1 k → k < w1.heap.size ∧ ¬ F k := fun k hk => ⟨hk.2, fun h => Nat.lt_irrefl _ (Nat.lt_of_lt_of_le (hF k h) hk.1)⟩

theorem merge_1 {w w' : World} {F : Nat → Prop} {p : Nat} {i t u : Int} {es l : List Ent} {x : Int} (hu : termOf i t es x = (u, false)) (hw : Upd Non w w') :
    MergePost w F p i t es x l (.returned (.tuple #[.int .i64 0, .slice none 0 0, .int .i64 6])) w' := .inl ⟨by rw [hu]; rfl, rfl, hw⟩
theorem merge_2 {w w' : World} {F : Nat → Prop} {p : Nat} {i t u : Int} {es l : List Ent} {x : Int} (hu : termOf i t es x = (u, true)) (hr : rises (max u 1) l = false) (hw : Upd Non w w') :
    MergePost w F p i t es x l (.returned (.tuple #[.int .i64 0, .slice none 0 0, .int .i64 6])) w' := .inl ⟨by rw [hu]; exact hr, rfl, hw⟩
theorem merge_3 {w w' : World} {F : Nat → Prop} {p : Nat} {i t u : Int} {es l : List Ent} {x : Int} (hu : termOf i t es x = (u, true)) (hr : rises (max u 1) l = true) (hm : met i t es (x + 1) l = l.length) (hw : Upd Non w w') :
    MergePost w F p i t es x l (.returned (.tuple #[.int .i64 0, .slice none 0 0, .int .i64 0])) w' := .inr (.inl ⟨by rw [hu]; exact hr, hm, rfl, hw⟩)

theorem merge_up {w W2 w4 w5 : World} {F : Nat → Prop} {p : Nat} {v : Value} (hW : Upd Non w W2) (h4 : Upd Non W2.drew w4) (h5 : Upd F w4 w5) : Upd (Ft p F) w (w5.setCell ⟨p, 2, none⟩ v) := by
  have a : Upd (Ft p F) w w4 := (hW.drew.trans h4).mono fun _ _ h => h.elim
  exact (a.trans (h5.mono fun _ _ h => .inr h)).set (.inr (.inl rfl)) v
theorem merge_4 {w W2 w4 w5 w7 : World} {F : Nat → Prop} {p : Nat} {i t u : Int} {es l ld nl : List Ent} {x : Int} {k K : Nat} {A5 : Option Addr} {c5 : Nat} {V v7 : Value}
    (hu : termOf i t es x = (u, true)) (hr : rises (max u 1) l = true) (hm : met i t es (x + 1) l = k) (hk : k < l.length) (hK : (K : Int) = x - i + k) (hle : K ≤ es.length)
    (hld : l.drop k = ld) (hn : es.take K ++ ld = nl) (hW : Upd Non w W2) (h4 : Upd Non W2.drew w4) (h5 : Upd F w4 w5) (hp : p < w.heap.size) (hLp : ¬ F p) (hLF : Fin W2 F)
    (hb5 : w5.heap[p]? = some (.cells #[.int .i64 i, .int .i64 t, V] 104 (0, 0)))
    (ho5 : Own entE 46 w5 (fun k => F k ∨ New W2.drew w4 k ∨ New w4 w5 k) (.slice A5 nl.length c5) nl)
    (h7 : Upd Non (w5.setCell ⟨p, 2, none⟩ (.slice A5 nl.length c5)) w7) (ho7 : Own entE 46 w7 (New (w5.setCell ⟨p, 2, none⟩ (.slice A5 nl.length c5)) w7) v7 ld) :
    MergePost w F p i t es x l (.returned (.tuple #[.int .i64 (x + 1 + k), v7, .int .i64 0])) w7 := by
  have hs1 := hW.size
  have hs4 := h4.size
  have hs5 := h5.size
  have hs7 := h7.size
  have hup := merge_up (p := p) (v := .slice A5 nl.length c5) hW h4 h5
  have hs6 := hup.size
  have e6 : (w5.setCell ⟨p, 2, none⟩ (.slice A5 nl.length c5)).heap.size = w5.heap.size := by simp [World.setCell]
  have e4 : W2.drew.heap.size = W2.heap.size := rfl
  refine .inr (.inr ⟨by rw [hu]; exact hr, k, v7, fun q => F q ∨ New W2.drew w4 q ∨ New w4 w5 q, hm, hk, by omega, by omega, rfl, hup.trans' h7 (fun _ _ h => h.elim), ?_, ?_, ?_⟩)
  · have hb6 := blk_set hb5 2 (.slice A5 nl.length c5)
    have hno : ¬ (F p ∨ New W2.drew w4 p ∨ New w4 w5 p) := by
      rintro (h | h | h)
      · exact hLp h
      · have := h.1; omega
      · have := h.1; omega
    have hfin : Fin w5 (fun q => F q ∨ New W2.drew w4 q ∨ New w4 w5 q) := by
      rintro q (h | h | h)
      · have := hLF q h; omega
      · have := h.2; omega
      · have := h.2; omega
    rw [show (x - i + (k : Int)).toNat = K by omega, hld, hn]
    refine ⟨_, (h7.block p (by omega) id).trans hb6, (ho5.keep fun q hq => ?_).upd h7 (Upd.fr_non ?_), hno, ?_⟩
    · exact Below.heap_setCell _ _ _ _ fun e => hno (by have e : q = p := e; rw [← e]; exact hq)
    · intro q hq; rw [e6]; exact hfin q hq
    · intro q hq; have := hfin q hq; omega
  · rintro q (h | h | h)
    · exact .inl h
    · have h1 := h.1
      have h2 := h.2
      exact .inr ⟨by omega, by omega⟩
    · have h1 := h.1
      have h2 := h.2
      exact .inr ⟨by omega, by omega⟩
  · rw [hld]
    refine ho7.rd.mono fun q hq => ?_
    have h1 := hq.1
    have h2 := hq.2
    exact ⟨by omega, by omega⟩

set_option maxHeartbeats 2000000 in
set_option maxRecDepth 100000 in
theorem merge_spec {w : World} {F G : Nat → Prop} {p : Nat} {i t : Int} {es l : List Ent} {v : Value} (h : Log w F p i t es) (h0 : 0 ≤ i) (h1 : i ≤ 2305843009213693952) (hl : es.length ≤ 4398046511104)
    (g : Rd entE w G v l) (hG : Fin w G) (hsep : ∀ k, G k → ¬ F k ∧ k ≠ p) (gl : l.length ≤ 4398046511104) (htot : es.length + l.length ≤ 4398046511104) (x : Int) (hx : x ≤ 4611686018427387904) :
    Calls Try.prog 23 #[.pointer (some ⟨p, 0, none⟩), .int .i64 x, v] w (MergePost w F p i t es x l) := by
  have H := term_spec h h0 (by omega) hl x (by omega)
  obtain ⟨A, c, hv, hc, hcm⟩ := g.shape
  subst hv
  obtain ⟨u, hu⟩ : ∃ u, termOf i t es x = u := ⟨_, rfl⟩
  obtain ⟨u, is⟩ := u
  have HU := Lib.hid hu
  have hin := fun hh => term_in (i := i) (t := t) (es := es) (x := x) hh
  rw [hu] at H hin
  dsimp only at H hin
  clear hu
  cases is
  · clear hin
    go_enter Try.func23, Try.ntmps23
    go_wp2_with fail
    refine H.mono ?_
    rintro e w1 ⟨rfl, n, rfl⟩
    go_wp2
    go_ret3
    exact merge_1 HU.out ((Upd.refl _ _).drewN n)
  · obtain ⟨hx0, hx1⟩ := hin rfl
    clear hin
    obtain ⟨r, hr⟩ : ∃ r, rises (max u 1) l = r := ⟨_, rfl⟩
    have HR := Lib.hid hr
    clear hr
    cases r
    · go_enter Try.func23, Try.ntmps23
      go_wp2_with fail
      refine H.mono ?_
      rintro e w1 ⟨rfl, n, rfl⟩
      go_wp2_with fail
      refine (rises_spec (w.drewN n) G _ u l (g.drewN n) hG gl).mono ?_
      rintro e w2 ⟨rfl, hu2⟩
      rw [HR.out]
      go_wp2
      go_ret3
      exact merge_2 HU.out HR.out (((Upd.refl _ _).drewN n).trans hu2)
    · go_enter Try.func23, Try.ntmps23
      go_wp2_with fail
      refine H.mono ?_
      rintro e w1 ⟨rfl, n, rfl⟩
      go_wp2_with fail
      refine (rises_spec (w.drewN n) G _ u l (g.drewN n) hG gl).mono ?_
      rintro e w2 ⟨rfl, hu2⟩
      rw [HR.out]
      have hw2 : Upd Non w w2 := ((Upd.refl _ _).drewN n).trans hu2
      clear hu2 H
      go_wp2_with fail
      go_loopw [31] (fun iv wr => ∃ k : Nat, k ≤ l.length ∧ iv = .int .i64 k ∧ Upd Non w wr ∧ Hid (met i t es (x + 1) l = k + met i t es (x + 1 + k) (l.drop k)) ∧ x - i + k ≤ es.length) (fun iv _ => l.length - (intOf iv).toNat)
      case atStart => exact ⟨0, Nat.zero_le _, rfl, hw2, Lib.hid (by simp), by omega⟩
      case round =>
        obtain ⟨k, hk, rfl, hur, hm, hb⟩ := hrel
        by_cases hlt : k < l.length
        · obtain ⟨b, off, c', dv, e1, _, hf, hdl, hd, c0, c1⟩ := (g.upd hur (Upd.fr_non hG)).ent hlt
          cases e1
          obtain ⟨A1, cA, rfl, _⟩ := hd.shape
          obtain ⟨q, hq⟩ : ∃ q, matchB i t es (x + 1 + k) l[k].1 = q := ⟨_, rfl⟩
          have HQ := Lib.hid hq
          clear hq
          go_wp2_with fail
          obtain ⟨hbu, hbs, hbb⟩ := box_facts wr #[.int .i64 l[k].1, .slice A1 l[k].2.length cA] 46
          generalize wr.alloc (.cells #[.int .i64 l[k].1, .slice A1 l[k].2.length cA] 46) = W at hbu hbs hbb ⊢
          have hWu := hur.trans hbu
          have hLW := h.non hWu
          refine (match_spec hLW h0 (by omega) hl _ _ (by omega)).mono ?_
          rintro e w3 ⟨rfl, n3, rfl⟩
          rw [HQ.out]
          cases q
          · have hm' : met i t es (x + 1) l = k := by rw [hm.out, met_no i t es l (x + 1) k hlt HQ.out]; omega
            have HM := Lib.hid hm'
            clear hm' hm
            obtain ⟨K, hK⟩ : ∃ K : Nat, (K : Int) = x - i + k := ⟨(x - i + k).toNat, by omega⟩
            have k1 : x + 1 + (k : Int) - (i + 1) = K := by omega
            have kle : K ≤ es.length := by omega
            have HK := Lib.hid hK
            clear hK
            go_wp2_with fail
            have gT : Rd entE W G (.slice (some ⟨b, off + k * 2, none⟩) (l.length - k) (l.length - k)) (l.drop k) := (g.upd hWu (Upd.fr_non hG)).tail k hlt
            have gTl : (l.drop k).length ≤ 4398046511104 := by rw [List.length_drop]; omega
            have hWu2 := hWu.drewN n3
            have gT2 := gT.drewN n3
            have hL2 := h.non hWu2
            have hG2 := hG.upd hWu2
            obtain ⟨ld, hld⟩ : ∃ ld, l.drop k = ld := ⟨_, rfl⟩
            rw [hld] at gT2 gTl
            have hldl : ld.length = l.length - k := by rw [← hld, List.length_drop]
            have h63 : (es.take K).length + ld.length ≤ 4398046511104 := by rw [List.length_take]; omega
            have HLD := Lib.hid hld
            obtain ⟨nl, hnl⟩ : ∃ nl, es.take K ++ ld = nl := ⟨_, rfl⟩
            have HN := Lib.hid hnl
            clear hnl
            clear hld hldl
            clear hLW gT hbu hbs hbb
            generalize W.drewN n3 = W2 at hWu2 gT2 hL2 hG2 ⊢
            obtain ⟨vl, hLb, hLo, hLp, hLF⟩ := hL2
            obtain ⟨AL, cL, rfl, hcL, _⟩ := hLo.shape
            have hL3 : Log W2.drew F p i t es := ⟨_, hLb, hLo.drew, hLp, hLF⟩
            have hLF2 : Fin W2.drew F := hLF
            have p2 : W2.drew.cell? ⟨p, 2, none⟩ = some (.slice AL es.length cL) := blk_at hLb 2
            have kz0 : (0 : Int) ≤ K := by omega
            have kzc : (K : Int) ≤ cL := by omega
            have kw : IntKind.i64.wrap (x + 1 + (k : Int) - (i + 1)) = K := by rw [IntWalk.i64_in _ (by omega)]; exact k1
            clear k1
            go_region_law (first
              | (go_simp; go_at_call 34; refine (first_spec hL3 h0 (by omega)).mono ?_; rintro e w4 ⟨rfl, rfl⟩)
              | (go_simp; go_at_call 58; refine (twins_spec W2.drew G _ ld gT2.drew (by exact hG2) gTl).mono ?_; rintro e w4 ⟨v4, rfl, hu4, ho4⟩; obtain ⟨A4, c4, cs4, rfl, _, _, hat4, hre4⟩ := ho4.rd; have hb4 := (hu4.block p (by exact blk_lt hLb) id).trans hLb; have p24 : w4.cell? ⟨p, 2, none⟩ = some (.slice AL es.length cL) := blk_at hb4 2)
              | (go_loud (refine step_append (E := entE) (e := 46) (F := F) (xs := es.take K) (ys := ld) _ rfl (.tmp 65) (.tmp 67) 22 rfl _ 32 Try.underlying22 info46 rfl (by decide) rfl ((hLo.drew.upd hu4 (Upd.fr_non hLF2)).head K kle) A4 c4 rfl cs4 (New W2.drew w4) hat4 hre4 (sep_two hLF2) (hLF2.upd hu4) (Nat.le_trans h63 (by decide)) (Nat.le_trans (Nat.mul_le_mul_right _ h63) (by decide)) ?_; intro v5 w5 hu5 ho5; rw [HN.out] at ho5; obtain ⟨A5, c5, rfl, hc5, _⟩ := ho5.shape; have hb5 := (hu5.block p (blk_lt hb4) hLp).trans hb4; have q2 : w5.cell? ⟨p, 2, none⟩ = some (.slice AL es.length cL) := blk_at hb5 2; have f2 : w5.frozen? ⟨p, 2, none⟩ = false := blk_free hb5 2)))
            all_goals
              have hpw : p < w.heap.size := blk_lt h.choose_spec.1
              have hup := merge_up (p := p) (v := .slice A5 nl.length c5) hWu2 hu4 hu5
              have gT6 := (gT2.drew.upd hu4 (Upd.fr_non (by exact hG2))).upd (((hu5.mono (T := Ft p F) fun _ _ h => .inr h)).set (p := ⟨p, 2, none⟩) (.inr (.inl rfl)) (.slice A5 nl.length c5)) (fun q hq => ⟨(show Fin w4 G from fun r hr => Nat.lt_of_lt_of_le (hG2 r hr) hu4.size) q hq, fun h => h.elim (hsep q hq).2 (hsep q hq).1⟩)
              have hG6 : Fin (w5.setCell ⟨p, 2, none⟩ (.slice A5 nl.length c5)) G := hG.upd hup
              go_wp2_with fail
              refine (twins_spec _ G _ ld gT6 hG6 gTl).mono ?_
              rintro e w7 ⟨v7, rfl, hu7, ho7⟩
              go_wp2
              go_ret3
              exact merge_4 HU.out HR.out HM.out hlt HK.out kle HLD.out HN.out hWu2 hu4 hu5 hpw hLp hLF hb5 ho5 hu7 ho7
          · have hm' : met i t es (x + 1) l = (k + 1 : Nat) + met i t es (x + 1 + (k + 1 : Nat)) (l.drop (k + 1)) := by
              rw [hm.out, met_yes i t es l (x + 1) k hlt HQ.out]
              omega
            have HM := Lib.hid hm'
            have hmi := (match_in HQ.out).2
            clear hm' hm
            go_wp2
            go_roundw
            case rel => exact ⟨k + 1, by omega, by go_num, hWu.drewN _, HM, by omega⟩
            case measure => simp [intOf]; omega
        · have hm' : met i t es (x + 1) l = l.length := by
            rw [hm.out, List.drop_of_length_le (by omega)]
            simp only [met]
            omega
          have HM := Lib.hid hm'
          clear hm' hm
          go_wp2
          go_ret3
          exact merge_3 HU.out HR.out HM.out hur

end Go.Proofs.Ytniccejlmbfpdaa
