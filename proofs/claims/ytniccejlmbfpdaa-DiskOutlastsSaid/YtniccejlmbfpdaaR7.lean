/-
  The walk of (*Log).Hint.
-/
import Derived.Test.YtniccejlmbfpdaaR6
namespace Go.Proofs.Ytniccejlmbfpdaa
open Go.RowKit
attribute [local go_sem] max2_int min2_int max_two min_two

/-- where the entries of term u that end at m begin -/
def runK (es : List Ent) (u : Int) : Nat → Nat
  | 0 => 0
  | m + 1 => if (es[m]?.map (·.1)) = some u then runK es u m else m + 1
def hintL (i : Int) (es : List Ent) (x : Int) : Int × Int :=
  if x < i + 1 then (0, i + 1) else if i + es.length < x then (0, i + es.length + 1) else
    (((es[(x - i - 1).toNat]?).map (·.1)).getD 0, i + 1 + (if 0 < ((es[(x - i - 1).toNat]?).map (·.1)).getD 0 then runK es (((es[(x - i - 1).toNat]?).map (·.1)).getD 0) (x - i - 1).toNat else (x - i - 1).toNat : Nat))
theorem hintL_ahead (i : Int) (es : List Ent) (x : Int) (h : x < i + 1) : hintL i es x = (0, i + 1) := by simp [hintL, h]
theorem hintL_past (i : Int) (es : List Ent) (x : Int) (h : ¬ x < i + 1) (h2 : i + es.length < x) : hintL i es x = (0, i + es.length + 1) := by simp [hintL, h, h2]
theorem hintL_in (i : Int) (es : List Ent) (m : Nat) (h : m < es.length) : hintL i es (i + 1 + m) = (es[m].1, i + 1 + (if 0 < es[m].1 then runK es es[m].1 m else m : Nat)) := by
  unfold hintL
  rw [if_neg (by omega), if_neg (by omega), show (i + 1 + (m : Int) - i - 1).toNat = m by omega, List.getElem?_eq_getElem h]
  rfl
theorem match_at (i t : Int) (es : List Ent) (m : Nat) (h : m < es.length) (u : Int) : matchB i t es (i + 1 + m) u = (es[m].1 == u) := by
  unfold matchB
  rw [termOf_in i t es m h]
  simp

set_option maxHeartbeats 2000000 in
set_option maxRecDepth 100000 in
theorem hint_spec {w : World} {F : Nat → Prop} {p : Nat} {i t : Int} {es : List Ent} (h : Log w F p i t es) (h0 : 0 ≤ i) (h1 : i ≤ 2305843009213693952) (hl : es.length ≤ 4398046511104) (x : Int) (hx : x ≤ 9223372036854775807) :
    Calls Try.prog 33 #[.pointer (some ⟨p, 0, none⟩), .int .i64 x] w (Same w (.tuple #[.int .i64 (hintL i es x).1, .int .i64 (hintL i es x).2])) := by
  have HD := fun n => h.non ((Upd.refl Non _).drewN n)
  have H17 := last_spec h h0 (by omega) hl
  have H35 := fun n => term_spec (HD n) h0 (by omega) hl x hx
  have H34 := fun n => first_spec (HD n) h0 (by omega)
  have HT := Lib.hid HD
  have HF := Lib.hid H34
  clear HD
  by_cases hx0 : x < i + 1
  · have e := hintL_ahead i es x hx0
    have E := Lib.hid e
    clear e
    go_enter Try.func33, Try.ntmps33
    go_wp2_with fail
    refine H17.mono ?_
    rintro e w1 ⟨rfl, n1, rfl⟩
    go_wp2_with fail
    refine (H35 n1).mono ?_
    rintro e w2 ⟨rfl, n2, rfl⟩
    go_wp2_with (go_at_call 34; refine (HF.out _).mono ?_; rintro e w4 ⟨rfl, rfl⟩)
    go_ret2
    rw [E.out]
    exact ⟨rfl, _, rfl⟩
  · by_cases hx1 : i + es.length < x
    · have e := hintL_past i es x hx0 hx1
      have E := Lib.hid e
      clear e
      go_enter Try.func33, Try.ntmps33
      go_wp2_with fail
      refine H17.mono ?_
      rintro e w1 ⟨rfl, n1, rfl⟩
      go_wp2_with fail
      refine (H35 n1).mono ?_
      rintro e w2 ⟨rfl, n2, rfl⟩
      go_wp2_with (go_at_call 34; refine (HF.out _).mono ?_; rintro e w4 ⟨rfl, rfl⟩)
      refine wp_loop_rounds 1 ?_
      rw [rounds_succ]
      go_wp2
      go_ret2
      rw [E.out]
      exact ⟨rfl, _, rfl⟩
    · obtain ⟨m, rfl⟩ : ∃ m : Nat, x = i + 1 + m := ⟨(x - i - 1).toNat, by omega⟩
      have hm : m < es.length := by omega
      have e := hintL_in i es m hm
      have eT := termOf_in i t es m hm
      generalize es[m].1 = u at e eT
      rw [eT] at H35
      have E := Lib.hid e
      clear e eT H34
      have HM := fun n y hy => match_spec (HT.out n) h0 (by omega) hl y u hy
      have H22 := Lib.hid HM
      clear HM
      by_cases hu : 0 < u
      · rw [if_pos hu] at E
        go_enter Try.func33, Try.ntmps33
        go_wp2_with fail
        refine H17.mono ?_
        rintro e w1 ⟨rfl, n1, rfl⟩
        go_wp2_with fail
        refine (H35 n1).mono ?_
        rintro e w2 ⟨rfl, n2, rfl⟩
        dsimp only
        have hb1 : i + 1 + (m : Int) ≤ i + es.length := by omega
        go_wp2_with (go_at_call 34; refine (HF.out _).mono ?_; rintro e w4 ⟨rfl, rfl⟩)
        clear hb1
        go_loopw [1] (fun iv wr => ∃ k : Nat, k ≤ m ∧ iv = .int .i64 (i + 1 + k) ∧ Hid (runK es u m = runK es u k) ∧ ∃ n, wr = w.drewN n) (fun iv _ => (intOf iv).toNat)
        case atStart => exact ⟨m, Nat.le_refl _, rfl, Lib.hid rfl, _, rfl⟩
        case round =>
          obtain ⟨k, hk, rfl, hr, n, rfl⟩ := hrel
          by_cases hk0 : k = 0
          · subst hk0
            have hfin : runK es u m = 0 := by rw [hr.out]; rfl
            have HFIN := Lib.hid hfin
            clear hfin hr
            go_wp2_with (go_at_call 34; refine (HF.out _).mono ?_; rintro e w4 ⟨rfl, rfl⟩)
            go_ret2
            rw [E.out, HFIN.out]
            exact ⟨by simp, _, rfl⟩
          · have hkl : k - 1 < es.length := by omega
            have hma : matchB i t es (i + 1 + (k : Int) - 1) u = (es[k - 1].1 == u) := by
              rw [show i + 1 + (k : Int) - 1 = i + 1 + ((k - 1 : Nat) : Int) by omega]
              exact match_at i t es (k - 1) hkl u
            have hstep : runK es u k = if es[k - 1].1 = u then runK es u (k - 1) else k := by
              obtain ⟨k', rfl⟩ : ∃ k', k = k' + 1 := ⟨k - 1, by omega⟩
              simp only [runK, Nat.add_sub_cancel, List.getElem?_eq_getElem (show k' < es.length by omega), Option.map_some, Option.some.injEq]
            obtain ⟨q, hq⟩ : ∃ q, (es[k - 1].1 == u) = q := ⟨_, rfl⟩
            rw [hq] at hma
            have HMA := Lib.hid hma
            clear hma
            cases q
            · have hfin : runK es u m = k := by rw [hr.out, hstep, if_neg (by simpa using hq)]
              have HFIN := Lib.hid hfin
              clear hfin hr hstep hq
              go_wp2_with (go_at_call 34; refine (HF.out _).mono ?_; rintro e w4 ⟨rfl, rfl⟩)
              refine (H22.out n _ (by omega)).mono ?_
              rintro e w5 ⟨rfl, n5, rfl⟩
              rw [HMA.out]
              go_wp2
              go_ret2
              rw [E.out, HFIN.out]
              exact ⟨rfl, _, rfl⟩
            · have hfin : runK es u m = runK es u (k - 1) := by rw [hr.out, hstep, if_pos (by simpa using hq)]
              have HFIN := Lib.hid hfin
              clear hfin hr hstep hq
              go_wp2_with (go_at_call 34; refine (HF.out _).mono ?_; rintro e w4 ⟨rfl, rfl⟩)
              refine (H22.out n _ (by omega)).mono ?_
              rintro e w5 ⟨rfl, n5, rfl⟩
              rw [HMA.out]
              go_wp2
              go_roundw
              case rel => exact ⟨k - 1, by omega, by congr 1; omega, HFIN, _, rfl⟩
              case measure => simp [intOf]; omega
      · rw [if_neg hu] at E
        have hd0 : decide (0 < u) = false := decide_eq_false hu
        go_enter Try.func33, Try.ntmps33
        go_wp2_with fail
        refine H17.mono ?_
        rintro e w1 ⟨rfl, n1, rfl⟩
        go_wp2_with fail
        refine (H35 n1).mono ?_
        rintro e w2 ⟨rfl, n2, rfl⟩
        dsimp only
        have hb1 : i + 1 + (m : Int) ≤ i + es.length := by omega
        go_wp2_with (go_at_call 34; refine (HF.out _).mono ?_; rintro e w4 ⟨rfl, rfl⟩)
        refine wp_loop_rounds 1 ?_
        rw [rounds_succ]
        go_wp2
        go_ret2
        rw [E.out]
        exact ⟨rfl, _, rfl⟩

end Go.Proofs.Ytniccejlmbfpdaa
