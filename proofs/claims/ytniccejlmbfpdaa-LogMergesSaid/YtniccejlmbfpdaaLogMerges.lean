/-
  LogMerges, whatever two rows of entries and whatever cuts: the law returns true and leaves its arguments as they were.
-/
import Derived.Test.YtniccejlmbfpdaaR9
import Derived.Deep.DeepCutAuto
namespace Go.Proofs.Ytniccejlmbfpdaa
open Go.ChangeShapes Go.WideShapes Go.ChangeAt Go.RowKit
attribute [local go_sem] max2_int min2_int max_two min_two

theorem conv44 {w : World} {F : Nat → Prop} {v : Value} {d : List UInt8} (h : Rd byteE w F v d) : (convert 44 9 v).run Try.prog w = .ok (.string (str d)) w :=
  conv_bytes Try.underlying44 Try.underlying5 Try.underlying9 h
theorem getL_none (i : Int) (es : List Ent) (x : Int) (h : x ≤ i) : getL i es x (x + 1) = [] := by
  unfold getL; rw [show (x + 1 - i - 1).toNat = 0 by omega]; simp
theorem getL_one (i : Int) (es : List Ent) (k : Nat) (h : k < es.length) : getL i es (i + 1 + k) (i + 1 + k + 1) = [es[k]] := by
  unfold getL
  rw [show (i + 1 + (k : Int) - i - 1).toNat = k by omega, show (i + 1 + (k : Int) + 1 - i - 1).toNat = k + 1 by omega, List.take_succ_eq_append_getElem h, List.drop_left' (by simp; omega)]


theorem rises_mono : ∀ (l : List Ent) (t : Int), 1 ≤ t → rises t l = true → ∀ (m : Nat) (h : m < l.length), t ≤ l[m].1
  | [], _, _, _, m, h => absurd h (by simp)
  | e :: l, t, ht, hr, m, h => by
    simp only [rises, Bool.and_eq_true, Bool.not_eq_true', decide_eq_false_iff_not] at hr
    match m with
    | 0 => show t ≤ e.1; omega
    | m + 1 =>
      have hml : m < l.length := by simpa using h
      have := rises_mono l e.1 (by omega) hr.2 m hml
      show t ≤ l[m].1
      omega
theorem newOk_facts {i t : Int} {l : List Ent} (h : newOk i t l = true) : 0 ≤ i ∧ 0 ≤ t ∧ ∀ (m : Nat) (h : m < l.length), 1 ≤ l[m].1 := by
  simp only [newOk, Bool.and_eq_true, Bool.not_eq_true', decide_eq_false_iff_not] at h
  refine ⟨by omega, by omega, fun m hm => ?_⟩
  have := rises_mono l (max t 1) (by omega) h.2 m hm
  omega

theorem newOk_rises {l : List Ent} (h : newOk 0 0 l = true) : rises 1 l = true := by
  simp only [newOk, Bool.and_eq_true] at h
  exact h.2
theorem rises_take : ∀ (l : List Ent) (t : Int) (n : Nat), rises t l = true → rises t (l.take n) = true
  | [], _, _, _ => by simp [rises]
  | _ :: _, _, 0, _ => rfl
  | e :: l, t, n + 1, h => by
    simp only [rises, Bool.and_eq_true, List.take_succ_cons] at h ⊢
    exact ⟨h.1, rises_take l e.1 n h.2⟩
theorem rises_drop : ∀ (l : List Ent) (t : Int) (n : Nat) (h : n < l.length), rises t l = true → rises l[n].1 (l.drop (n + 1)) = true
  | [], _, _, h, _ => absurd h (by simp)
  | e :: l, t, 0, _, hr => by
    simp only [rises, Bool.and_eq_true] at hr
    exact hr.2
  | e :: l, t, n + 1, h, hr => by
    simp only [rises, Bool.and_eq_true] at hr
    exact rises_drop l e.1 n (by simpa using h) hr.2
/-- what is handed on rises from the term ahead of it -/
theorem rises_mid {l : List Ent} (h : newOk 0 0 l = true) (fr pa : Nat) (hfr : fr ≤ l.length) : rises (max (termOf 0 0 l fr).1 1) ((l.take pa).drop fr) = true := by
  have h1 := newOk_rises h
  rcases Nat.eq_zero_or_pos fr with h0 | h0
  · subst h0
    rw [show (termOf 0 0 l ((0 : Nat) : Int)).1 = 0 from by simp [termOf]]
    exact rises_take l 1 pa h1
  · have hk : fr - 1 < l.length := by omega
    have := termOf_in 0 0 l (fr - 1) hk
    rw [show (0 : Int) + 1 + ((fr - 1 : Nat) : Int) = fr by omega] at this
    rw [this]
    have hm := rises_mono l 1 (by omega) h1 (fr - 1) hk
    rw [show max l[fr - 1].1 1 = l[fr - 1].1 by omega]
    have hd := rises_drop l 1 (fr - 1) hk h1
    rw [show fr - 1 + 1 = fr by omega] at hd
    have := rises_take _ _ (pa - fr) hd
    rwa [List.drop_take]

def MInv (w : World) (mine theirs : List Ent) (p q : Nat) (G : Nat → Prop) (wr : World) : Prop :=
  ∃ es F, Upd Non w wr ∧ Log wr F p 0 0 es ∧ RLog wr G q 0 0 theirs ∧ (∀ k, Ft p F k → w.heap.size ≤ k ∧ ¬ Ft q G k) ∧ Mix mine theirs es ∧ es.length ≤ 4398046511000
theorem tmod_abs (x : Int) (n : Nat) : ∃ fr : Nat, fr ≤ n ∧ x.tmod (n + 1) < n + 1 ∧ -(n + 1 : Int) < x.tmod (n + 1) ∧ (fr : Int) = (if x.tmod (n + 1) < 0 then 0 - x.tmod (n + 1) else x.tmod (n + 1)) := by
  have h1 := Int.tmod_lt_of_pos x (show (0 : Int) < n + 1 by omega)
  have h2 : -(n + 1 : Int) < x.tmod (n + 1) := by
    have := Int.lt_tmod_of_pos x (show (0 : Int) < n + 1 by omega)
    omega
  split
  · exact ⟨(0 - x.tmod (n + 1)).toNat, by omega, h1, h2, by omega⟩
  · exact ⟨(x.tmod (n + 1)).toNat, by omega, h1, h2, by omega⟩

theorem merge_in {w W w10 : World} {mine theirs es : List Ent} {p q fr pa : Nat} {F G : Nat → Prop} {u : Int} {e : Ending} (hu : Upd Non w W) (hR : RLog W G q 0 0 theirs) (hpw : p < W.heap.size)
    (hsep : ∀ k, Ft p F k → w.heap.size ≤ k ∧ ¬ Ft q G k) (hL : Log W F p 0 0 es) (hmix : Mix mine theirs es) (hes : es.length ≤ 4398046511000) (lt : theirs.length ≤ 4398046511000) (h1 : fr ≤ pa) (h2 : pa ≤ theirs.length)
    (hte : termOf 0 0 es fr = (u, true)) (hris : rises (max u 1) ((theirs.take pa).drop fr) = true) (h : MergePost W F p 0 0 es fr ((theirs.take pa).drop fr) e w10) :
    ∃ a v es' F', e = .returned (.tuple #[.int .i64 a, v, .int .i64 0]) ∧ Upd Non w w10 ∧ Log w10 F' p 0 0 es' ∧ RLog w10 G q 0 0 theirs ∧ (∀ k, Ft p F' k → w.heap.size ≤ k ∧ ¬ Ft q G k) ∧ Mix mine theirs es' ∧ es'.length ≤ 4398046511000 ∧
      ∀ k, fr ≤ k → k < pa → ∃ e f, es'[k]? = some e ∧ theirs[k]? = some f ∧ e.1 = f.1 := by
  rcases h with ⟨hno, _⟩ | ⟨_, hmet, rfl, hu10⟩ | ⟨_, m, v', F2, hmet, hmlt, _, hle, rfl, hu10, hL10, hF2, _⟩
  · rw [hte] at hno
    dsimp only at hno
    rw [hris] at hno
    cases hno
  · exact ⟨0, _, es, F, rfl, hu.trans hu10, hL.non hu10, hR.non hu10, hsep, hmix, hes, merged_all h1 h2 hmet⟩
  · have hs10 := hu10.size
    have hsw := hu.size
    have hq : q < W.heap.size := blk_lt hR.choose_spec.1
    have hGf : Fin W G := hR.choose_spec.2.2.2
    obtain ⟨k1, k2, k3⟩ := merged_some (mine := mine) h1 h2 hmix hmet hmlt (by omega)
    rw [show ((fr : Int) - 0 + m).toNat = fr + m by omega] at hL10
    refine ⟨_, _, _, F2, rfl, hu.trans' hu10 (fun x hx h => ?_), hL10, ?_, ?_, k1, by rw [k2]; omega, k3⟩
    · have := (hsep x h).1; omega
    · refine hR.upd hu10 (fun h => (hsep q h).2 (.inl rfl)) fun k hk h => (hsep k h).2 (.inr hk)
    · rintro k (rfl | h)
      · exact hsep k (.inl rfl)
      · rcases hF2 k h with h | h
        · exact hsep k (.inr h)
        · have h3 := h.1
          refine ⟨by omega, ?_⟩
          rintro (rfl | h4)
          · omega
          · have := hGf k h4; omega

theorem size46 : (Try.prog.info? 46).map (·.size) = some entE.sz := by kernel_rfl

set_option maxHeartbeats 8000000 in
set_option maxRecDepth 100000 in
theorem merges_walk (w : World) (vm vt vc : Value) (mine theirs : List Ent) (cuts : List Int) (hm : Rd entE w (Old w) vm mine) (ht : Rd entE w (Old w) vt theirs) (hc : Rd intE w (Old w) vc cuts)
    (lm : mine.length ≤ 4398046511000) (lt : theirs.length ≤ 4398046511000) :
    Calls Try.prog 4 #[vm, vt, vc] w fun e w' => e = .returned (.bool true) ∧ Below w.heap.size w w' := by
  have hF := Fin.old w
  obtain ⟨Am, cm, rfl, hcm, _⟩ := hm.shape
  obtain ⟨At', ct, rfl, hct, _⟩ := ht.shape
  obtain ⟨Ac, cc, rfl, hcc, hcx⟩ := hc.shape
  rw [maxLen_eq] at hcx
  go_enter Try.func4, Try.ntmps4
  go_wp2_with fail
  refine (known_spec w).mono ?_
  rintro e w1 ⟨rfl, u1⟩
  have hm1 := hm.upd u1 (Upd.fr_non hF)
  have ht1 := ht.upd u1 (Upd.fr_non hF)
  have hF1 := hF.upd u1
  go_wp2_with fail
  refine (few_spec w1 _ _ _ mine [] hm1 (Rd.nil _ _ _) (by omega) (by simp)).mono ?_
  generalize fewB mine [] = fa
  rintro e w2 ⟨rfl, n2, rfl⟩
  cases fa
  · go_wp2
    go_ret
    exact ⟨rfl, (u1.drewN n2).below⟩
  · go_wp2_with fail
    refine (few_spec (w1.drewN n2) _ _ _ theirs [] (ht1.drewN n2) (Rd.nil _ _ _) (by omega) (by simp)).mono ?_
    generalize fewB theirs [] = fb
    rintro e w3 ⟨rfl, n3, rfl⟩
    cases fb
    · go_wp2
      go_ret
      exact ⟨rfl, (u1.drewN _).below⟩
    · have u3 := u1.drewN (n2 + n3)
      have hm3 := hm1.drewN (n2 + n3)
      have ht3 := ht1.drewN (n2 + n3)
      have hF3 : Fin (w1.drewN (n2 + n3)) (Old w) := hF1
      clear hm1 ht1 u1 hF1
      by_cases hcl : (100 : Int) < cuts.length
      · go_wp2
        go_ret
        exact ⟨rfl, u3.below⟩
      · go_wp2_with fail
        generalize w1.drewN (n2 + n3) = w4 at u3 hm3 ht3 hF3 ⊢
        refine (new_spec w4 _ _ 0 0 mine hm3 hF3 (by omega)).mono ?_
        rintro e w5 ⟨u5, hnew⟩
        have ht5 := ht3.upd u5 (Upd.fr_non hF3)
        have hF5 := hF3.upd u5
        have hu5 := u3.trans u5
        rcases hnew with ⟨_, rfl⟩ | ⟨_, p, F, rfl, hL, hp, hFp⟩
        · go_wp2_with fail
          refine (of_spec w5 (Old w) _ theirs ht5 hF5 (by omega)).mono ?_
          rintro e w6 ⟨v6, rfl, u6, ho6⟩
          go_wp2_with fail
          refine (rnew_spec w6 _ _ 0 0 theirs ho6.rd (fun k hk => hk.elim (fun h => h.2) (fun h => (hF5.upd u6) k h)) (by omega)).mono ?_
          rintro e w7 ⟨u7, ⟨_, rfl⟩ | ⟨_, q, G, rfl, hR, hq, hGq⟩⟩
          all_goals
            go_wp2
            go_ret
            exact ⟨rfl, ((hu5.trans u6).trans u7).below⟩
        · go_wp2_with fail
          refine (of_spec w5 (Old w) _ theirs ht5 hF5 (by omega)).mono ?_
          rintro e w6 ⟨v6, rfl, u6, ho6⟩
          go_wp2_with fail
          refine (rnew_spec w6 _ _ 0 0 theirs ho6.rd (fun k hk => hk.elim (fun h => h.2) (fun h => (hF5.upd u6) k h)) (by omega)).mono ?_
          rintro e w7 ⟨u7, ⟨_, rfl⟩ | ⟨hok, q, G, rfl, hR, hq, hGq⟩⟩
          · go_wp2
            go_ret
            exact ⟨rfl, ((hu5.trans u6).trans u7).below⟩
          · have hu := (hu5.trans u6).trans u7
            have hL7 := (hL.non u6).non u7
            have hlo : ∀ k, Ft p F k → w.heap.size ≤ k ∧ k < w5.heap.size := by
              have := u3.size
              rintro k (rfl | h)
              · have := hp.1; exact ⟨by omega, hp.2⟩
              · have := hFp k h; have h1 := this.1; exact ⟨by omega, this.2⟩
            have hsep : ∀ k, Ft q G k → w5.heap.size ≤ k := by
              have := u6.size
              rintro k (rfl | h)
              · have := hq.1; omega
              · have := (hGq k h).1; omega
            clear u3 u5 u6 hm3 ht3 hF3 ht5 hF5 hu5 ho6 hL hp hFp hq hGq
            have hmi : MInv w mine theirs p q G w7 := ⟨mine, F, hu, hL7, hR, fun k hk => ⟨(hlo k hk).1, fun h => by have := hsep k h; have := (hlo k hk).2; omega⟩, fun k e he => .inl he, lm⟩
            clear hu hL7 hlo hsep hR
            go_wp2_with fail
            go_loopw [11] (fun iv wr => ∃ i : Nat, i ≤ cuts.length ∧ iv = .int .i64 i ∧ MInv w mine theirs p q G wr) (fun iv _ => cuts.length - (intOf iv).toNat)
            case atStart => exact ⟨0, by omega, rfl, hmi⟩
            case round =>
              obtain ⟨i, hi, rfl, hmi⟩ := hrel
              by_cases hlt : i < cuts.length
              · obtain ⟨es, F, hur, hL, hR, hsep, hmix, hes⟩ := hmi
                obtain ⟨b, off, c', e1, _, _, c0⟩ := (hc.upd hur (Upd.fr_non hF)).int hlt
                cases e1
                generalize cuts[i] = X at c0
                obtain ⟨fr, hfr, hx1, hx2, hfv⟩ := tmod_abs X theirs.length
                have HV := Lib.hid hfv
                clear hfv
                go_upto_if 72 with fail
                go_cut [13] (fun s wx => s = .int .i64 fr ∧ wr = wx)
                case first =>
                  by_cases hx : X.tmod (theirs.length + 1) < 0
                  · have HV2 := HV.out
                    rw [if_pos hx] at HV2
                    have HV3 := Lib.hid HV2
                    clear HV2
                    go_wp2_with fail
                    go_meet
                    exact ⟨by rw [HV3.out]; first | rfl | (congr 1; omega), rfl⟩
                  · have HV2 := HV.out
                    rw [if_neg hx] at HV2
                    have HV3 := Lib.hid HV2
                    clear HV2
                    go_wp2_with fail
                    go_meet
                    exact ⟨by rw [HV3.out], rfl⟩
                case rest =>
                  obtain ⟨rfl, rfl⟩ := hcut
                  clear HV hx1 hx2 c0
                  obtain ⟨pa, hpa1, hpa2, hpa3, hpv⟩ : ∃ pa : Nat, fr ≤ pa ∧ pa ≤ theirs.length ∧ pa ≤ fr + 3 ∧ (pa : Int) = (if (theirs.length : Int) < fr + 3 then (theirs.length : Int) else fr + 3) := by
                    split
                    · exact ⟨theirs.length, hfr, Nat.le_refl _, by omega, rfl⟩
                    · exact ⟨fr + 3, by omega, by omega, by omega, by omega⟩
                  have HP := Lib.hid hpv
                  clear hpv
                  go_upto_if 79 with fail
                  go_cut [14] (fun s wx => s = .int .i64 pa ∧ wr = wx)
                  case first =>
                    by_cases hx : (theirs.length : Int) < fr + 3
                    · have HV2 := HP.out
                      rw [if_pos hx] at HV2
                      have HV3 := Lib.hid HV2
                      clear HV2
                      go_wp2_with fail
                      go_meet
                      exact ⟨by rw [HV3.out], rfl⟩
                    · have HV2 := HP.out
                      rw [if_neg hx] at HV2
                      have HV3 := Lib.hid HV2
                      clear HV2
                      go_wp2_with fail
                      go_meet
                      exact ⟨by rw [HV3.out], rfl⟩
                  case rest =>
                    obtain ⟨rfl, rfl⟩ := hcut
                    clear HP
                    have hul : (termOf 0 0 theirs fr).2 = true := by
                      unfold termOf
                      split
                      · rfl
                      · rw [if_neg (by omega)]
                    have hris := rises_mid hok fr pa hfr
                    have H21 := rterm_spec hR (by omega) (by omega) (by omega) fr (by omega)
                    generalize hU : termOf 0 0 theirs fr = U at H21 hul hris
                    obtain ⟨u, is⟩ := U
                    dsimp only at hul H21 hris
                    subst hul
                    clear hU
                    go_wp2_with fail
                    refine H21.mono ?_
                    rintro e w8 ⟨rfl, n8, rfl⟩
                    have hL8 := hL.non ((Upd.refl Non _).drewN n8)
                    have H22 := match_spec hL8 (by omega) (by omega) (by omega) fr u (by omega)
                    obtain ⟨m0, hm0⟩ : ∃ m0, matchB 0 0 es fr u = m0 := ⟨_, rfl⟩
                    rw [hm0] at H22
                    cases m0
                    · go_wp2_with fail
                      refine H22.mono ?_
                      rintro e w9 ⟨rfl, n9, rfl⟩
                      go_wp2
                      go_roundw
                      case rel => exact ⟨i + 1, by omega, by go_num, es, F, hur.drewN _, hL.non ((Upd.refl Non _).drewN _), hR.non ((Upd.refl Non _).drewN _), hsep, hmix, hes⟩
                      case measure => simp [intOf]; omega
                    · have hte : termOf 0 0 es fr = (u, true) := by
                        unfold matchB at hm0
                        simp only [Bool.and_eq_true, beq_iff_eq] at hm0
                        exact Prod.ext hm0.2 hm0.1
                      go_wp2_with fail
                      refine H22.mono ?_
                      rintro e w9 ⟨rfl, n9, rfl⟩
                      obtain ⟨SB, Sc, hsl, hSr⟩ := slice_of Try.underlying22 size46 (ht.upd hur (Upd.fr_non hF)) fr pa hpa1 hpa2
                      have hu9 := hur.drewN (n8 + n9)
                      have hL9 : Log (wr.drewN (n8 + n9)) F p 0 0 es := hL.non ((Upd.refl Non _).drewN _)
                      have hR9 : RLog (wr.drewN (n8 + n9)) G q 0 0 theirs := hR.non ((Upd.refl Non _).drewN _)
                      have hS9 := hSr.drewN (n8 + n9)
                      have hlen : ((theirs.take pa).drop fr).length = pa - fr := by simp; omega
                      have hl3 : es.length + ((theirs.take pa).drop fr).length ≤ 4398046511104 := by rw [hlen]; omega
                      clear hL8 hm0 hL hR H22 H21 hSr
                      go_wp2_with fail
                      clear hsl
                      generalize wr.drewN (n8 + n9) = W at hu9 hL9 hR9 hS9 ⊢
                      refine (merge_spec hL9 (by omega) (by omega) (by omega) hS9 (hF.upd hu9) (fun k hk => ⟨fun h => by have := (hsep k (.inr h)).1; have : k < w.heap.size := hk; omega, fun h => by have := (hsep k (.inl h)).1; have : k < w.heap.size := hk; omega⟩) (by omega) hl3 fr (by omega)).mono ?_
                      intro e w10 hmp
                      obtain ⟨a, v, es', F', rfl, hur, hL, hR, hsep, hmix, hes, hkk⟩ := merge_in hu9 hR9 (blk_lt hL9.choose_spec.1) hsep hL9 hmix hes lt hpa1 hpa2 hte hris hmp
                      clear hmp hte hL9 hR9 hS9 hu9
                      go_wp2_with fail
                      go_loopw [20] (fun kv wr => ∃ k : Nat, fr ≤ k ∧ k ≤ pa ∧ kv = .int .i64 k ∧ Upd Non w10 wr) (fun kv _ => pa - (intOf kv).toNat)
                      case atStart => exact ⟨fr, Nat.le_refl _, hpa1, rfl, Upd.refl _ _⟩
                      case round =>
                        obtain ⟨k, hk1, hk2, rfl, hu11⟩ := hrel
                        by_cases hlt2 : k < pa
                        · obtain ⟨e0, f0, he0, hf0, hef⟩ := hkk k hk1 hlt2
                          have hkl : k < es'.length := (List.getElem?_eq_some_iff.1 he0).1
                          have hkt : k < theirs.length := by omega
                          have hg : getL 0 es' ((k : Int) + 1) ((k : Int) + 2) = [e0] := by
                            have := getL_one 0 es' k hkl
                            rw [show (0 : Int) + 1 + (k : Int) = (k : Int) + 1 by omega, show (k : Int) + 1 + 1 = (k : Int) + 2 by omega] at this
                            rw [this, (List.getElem?_eq_some_iff.1 he0).2]
                          have HG := Lib.hid hg
                          have hma : matchB 0 0 es' ((k : Int) + 1) f0.1 = true := by
                            rw [show (k : Int) + 1 = 0 + 1 + (k : Int) by omega, match_at 0 0 es' k hkl, (List.getElem?_eq_some_iff.1 he0).2, hef]
                            simp
                          have hfr2 : e0.2 ≠ f0.2 → freshB mine k f0.1 = false := mix_fresh hmix he0 hf0 hef
                          have ht11 := ht.upd (hur.trans hu11) (Upd.fr_non hF)
                          have hm11 := hm.upd (hur.trans hu11) (Upd.fr_non hF)
                          have hFr : Fin wr (Old w) := hF.upd (hur.trans hu11)
                          obtain ⟨b2, off2, c2, dv, a1, _, hf, hdl, hd, c0, c1⟩ := ht11.ent hkt
                          cases a1
                          rw [show theirs[k] = f0 from (List.getElem?_eq_some_iff.1 hf0).2] at hdl hd c0
                          have hL11 := hL.non hu11
                          clear hg hkk he0 hf0
                          obtain ⟨T, d1⟩ := e0
                          obtain ⟨T', d2⟩ := f0
                          dsimp only at hef hma hfr2 hdl hd c0
                          subst hef
                          obtain ⟨A1, cA, rfl, _⟩ := hd.shape
                          go_wp2_with fail
                          refine (get_spec hL11 (by omega) (by omega) (by omega) _ _).mono ?_
                          rintro e w12 ⟨v12, rfl, u12, h12⟩
                          rw [HG.out] at h12
                          have hd12 := hd.upd u12 (Upd.fr_non hFr)
                          have hm12 := hm11.upd u12 (Upd.fr_non hFr)
                          have x0 := (u12.cell (p := ⟨b2, off2 + k * 2, none⟩) (by exact World.block_lt_of_cell? _ _ c0) id).trans c0
                          have x1 := (u12.cell (p := ⟨b2, off2 + k * 2 + 1, none⟩) (by exact World.block_lt_of_cell? _ _ c1) id).trans c1
                          obtain ⟨b8, o8, c8, d8, a8, _, _, _, hr8, y0, y1⟩ := h12.rd.ent (k := 0) (by simp)
                          cases a8
                          simp only [Nat.zero_mul, Nat.add_zero, List.getElem_cons_zero] at hr8 y0 y1
                          obtain ⟨A9, c9, rfl, _⟩ := hr8.shape
                          have s1 := fun n => conv44 (hd12.drewN n)
                          have s2 := fun n => conv44 (hr8.drewN n)
                          have hL12 := hL11.non u12
                          have H22 := Lib.hid fun n => match_spec (hL12.non ((Upd.refl Non _).drewN n)) (by omega) (by omega) (by omega) ((k : Int) + 1) T (by omega)
                          rw [hma] at H22
                          have H25 := Lib.hid fun n => fresh_spec (w12.drewN n) _ _ mine k T (hm12.drewN n)
                          have w1' : IntKind.i64.wrap ((k : Int) + 1) = (k : Int) + 1 := IntWalk.i64_in _ (by omega)
                          have k0 : (0 : Int) ≤ k := by omega
                          have k1 : (k : Int) < theirs.length := by omega
                          have hkn := conv44 hr8
                          by_cases hdd : d1 = d2
                          · subst hdd
                            have seq : ((str d1).toList == (str d1).toList) = true := by simp
                            clear hfr2
                            go_wp2
                            go_quiet (fail)
                            go_wp2
                            go_roundw
                            case rel => exact ⟨k + 1, by omega, by omega, by go_num, (hu11.trans u12).drewN _⟩
                            case measure => simp [intOf]; omega
                          · have hfr3 := hfr2 hdd
                            rw [hfr3] at H25
                            have seq : ((str d1).toList == (str d2).toList) = false := by rw [str_eq]; simpa using hdd
                            clear hfr2 hfr3
                            go_wp2
                            go_quiet ((first | (go_at_call 22; exact Calls.quiet_of (H22.out _)) | (go_at_call 25; exact Calls.quiet_of_same ((H25.out _).mono fun _ _ h => ⟨h.1, h.2.symm⟩))))
                            go_wp2
                            go_roundw
                            case rel => exact ⟨k + 1, by omega, by omega, by go_num, (hu11.trans u12).drewN _⟩
                            case measure => simp [intOf]; omega
                        · go_wp2
                          go_roundw
                          case rel => exact ⟨i + 1, by omega, by go_num, es', F', hur.trans hu11, hL.non hu11, hR.non hu11, hsep, hmix, hes⟩
                          case measure => simp [intOf]; omega
              · obtain ⟨es, F, hur, _⟩ := hmi
                go_wp2
                go_ret
                exact ⟨rfl, hur.below⟩
set_option maxRecDepth 100000 in
theorem logMerges_lifted (os : Os) (started : os.Started) (H : Type) (enc : TypeId × Value → H) :
    ReturnsInHanded {} Try.checked os 4 .any (Rows.logMergesSpec.pre6 enc Try.prog Try.f4 Rows.logMergesRow.domain false) (Rows.logMergesSpec.post enc Try.prog Try.f4 false true false false) := by
  refine returnsInHanded_of_change_sized (C := Try.checked) own started (by kernel_rfl) Try.func4
    (ChangeSpec.witness6 (enc := enc) (C := Try.checked) false ⟨#[], #[.slice none 0 0, .slice none 0 0, .slice none 0 0], []⟩ 8 (by kernel_rfl) (by kernel_rfl) (by kernel_rfl) (by kernel_rfl)) ?_
  intro W base args ds gs before hval0 hW hcnd hsz0 _
  have hval : ∀ (j : Nat) t v, Try.f4.params[j]? = some t → args[j]? = some v → Value.okWide Try.prog W .any base t v := hval0
  have hW' := hW
  obtain ⟨p, q, hA0, hV, rfl, hfz, hnd⟩ := hW
  have hA : DataW.TrodAll enc Try.prog W 0 (fun _ => true) true Try.f4.params.toList args.toList ds p := hA0
  have hsz : (DataW.weightsEach Try.prog (Try.f4.params.toList ++ Rows.logMergesSpec.plain.varTypes Try.prog) (ds ++ gs)).all (· ≤ reachBytes) = true := hsz0
  rw [Try.params4] at hA hval hsz
  obtain ⟨v0, vs0, d0, ds0, p0, q0, hargs, rfl, rfl, h0, r0⟩ := trodAll_cons hA
  obtain ⟨v1, vs1, d1, ds1, p1, q1, rfl, rfl, rfl, h1, r1⟩ := trodAll_cons r0
  obtain ⟨v2, vs2, d2, ds2, p2, q2, rfl, rfl, rfl, h2, r2⟩ := trodAll_cons r1
  obtain ⟨rfl, rfl, rfl⟩ := trodAll_nil r2
  obtain rfl : args = #[v0, v1, v2] := by cases args; simp_all
  obtain ⟨rfl, rfl⟩ := trodVars_none hV
  obtain ⟨a0, len0, cap0, rfl⟩ := okWide_slice Try.underlying22 (hval 0 22 v0 rfl rfl)
  have lt0 : ∀ x ∈ p0, x.block < W.heap.size := by obtain ⟨m, hm⟩ := h0; exact DataW.trod_lt m _ _ _ hm
  obtain ⟨x0, hx0, lx0⟩ := open_arg opens_ent Try.underlying22 (by kernel_rfl) rfl h0 (weights_of hsz (j := 0) rfl rfl)
  rw [show Try.prog.bytesOf 46 = 32 from by kernel_rfl] at lx0
  simp only [reachBytes] at lx0
  obtain ⟨a1, len1, cap1, rfl⟩ := okWide_slice Try.underlying22 (hval 1 22 v1 rfl rfl)
  have lt1 : ∀ x ∈ p1, x.block < W.heap.size := by obtain ⟨m, hm⟩ := h1; exact DataW.trod_lt m _ _ _ hm
  obtain ⟨x1, hx1, lx1⟩ := open_arg opens_ent Try.underlying22 (by kernel_rfl) rfl h1 (weights_of hsz (j := 1) rfl rfl)
  rw [show Try.prog.bytesOf 46 = 32 from by kernel_rfl] at lx1
  simp only [reachBytes] at lx1
  obtain ⟨a2, len2, cap2, rfl⟩ := okWide_slice Try.underlying33 (hval 2 33 v2 rfl rfl)
  have lt2 : ∀ x ∈ p2, x.block < W.heap.size := by obtain ⟨m, hm⟩ := h2; exact DataW.trod_lt m _ _ _ hm
  obtain ⟨x2, hx2, lx2⟩ := open_arg (opens_int Try.underlying3) Try.underlying33 (by kernel_rfl) rfl h2 (weights_of hsz (j := 2) rfl rfl)
  rw [show Try.prog.bytesOf 3 = 8 from by kernel_rfl] at lx2
  simp only [reachBytes] at lx2
  clear hA0 hval0
  refine (merges_walk W _ _ _ x0 x1 x2 hx0 hx1 hx2 (by omega) (by omega)).mono fun e W' ⟨he, bel⟩ => ?_
  subst he
  exact ⟨_, rfl, _, _, _, [], _, [], hW', trodAll_mk1 (shut_bool Try.underlying4 _), (trodAll_cons_mk (Below.trod laidOut (by kernel_rfl) (of_decide_eq_true (by kernel_rfl)) h0 bel lt0) (trodAll_cons_mk (Below.trod laidOut (by kernel_rfl) (of_decide_eq_true (by kernel_rfl)) h1 bel lt1) (trodAll_cons_mk (Below.trod laidOut (by kernel_rfl) (of_decide_eq_true (by kernel_rfl)) h2 bel lt2) trodAll_mk0))), rfl, bel.frame _, fun h => by cases h⟩

theorem logMerges_over : Rows.logMergesRow.holds Try.pinned (OpenSpec.ofChange Rows.logMergesSpec) :=
  OpenClaim.holds_of_wide 4 Try.f4 rfl rfl rfl rfl rfl rfl rfl ⟨rfl, rfl, rfl, rfl, rfl⟩ rfl rfl rfl rfl rfl (by kernel_rfl) Try.func4 (by kernel_rfl)
    (of_decide_eq_true (by kernel_rfl)) (by unfold Func.isWrapper; first | (rw [if_pos (by decide +kernel)]; kernel_rfl) | (rw [if_neg (by decide +kernel)]; exact ⟨rfl, rfl⟩))
    (fun os started H enc _ => logMerges_lifted os started H enc)

theorem logMerges_holds : Rows.LogMergesSaid := logMerges_over
#print axioms logMerges_holds

end Go.Proofs.Ytniccejlmbfpdaa
