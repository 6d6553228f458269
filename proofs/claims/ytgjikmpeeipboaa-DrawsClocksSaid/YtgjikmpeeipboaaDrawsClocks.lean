/-
  Whatever acts: each answer, what is due, and when the next alarm is, are the reference's: the law DrawsClocks returns true at every input.
-/
import Derived.Test.YtgjikmpeeipboaaO1
import Derived.Test.YtgjikmpeeipboaaRC4
import Derived.Test.YtgjikmpeeipboaaV2
namespace Go.Proofs.Ytgjikmpeeipboaa
open Go.ChangeShapes Go.WideShapes Go.ChangeAt Go.RowKit
/-- F keeps away from the program's clock, and is of the call's own -/
def Sep (w : World) (p b : Nat) (F : Nat → Prop) : Prop := ∀ x, F x → x ≠ p ∧ x ≠ b ∧ w.heap.size ≤ x
theorem Sep.next {w w1 w2 : World} {p b : Nat} {F F' : Nat → Prop} (h : Sep w p b F) (hF : ∀ k, F' k → F k ∨ New w1 w2 k) (hp : p < w1.heap.size) (hb : b < w1.heap.size) (hw : w.heap.size ≤ w1.heap.size) : Sep w p b F' := fun x hx => by
  rcases hF x hx with h1 | h1
  · exact h x h1
  · exact ⟨by have := h1.1; omega, by have := h1.1; omega, by have := h1.1; omega⟩
theorem len_del (L : List Alm) (x : Int) : (delL L x).length ≤ L.length := List.length_filter_le _ _
theorem len_rest (L : List Alm) (t : Int) : (restA L t).length ≤ L.length := List.length_filter_le _ _
theorem len_set (L : List Alm) (t x a : Int) : (setR L t x a).length ≤ L.length + 1 := by
  unfold setR
  split
  · rw [(insL_perm _ _).length_eq]
    have := len_del L x
    simp; omega
  · have := len_del L x
    omega
theorem tick_le (t n : Int) (h : 0 ≤ t) : 0 ≤ tickT t n ∧ tickT t n ≤ t + 1048576 := by unfold tickT; split <;> omega
theorem ClkAt.nodup {w : World} {p b n : Nat} {t : Int} {L : List Alm} (h : ClkAt w p b n t L) : (idsA L).Nodup := by
  obtain ⟨_, _, ⟨D, _, hL⟩, _⟩ := h
  exact hL.1
theorem ClkAt.ltb {w : World} {p b n : Nat} {t : Int} {L : List Alm} (h : ClkAt w p b n t L) : b < w.heap.size := by
  obtain ⟨_, _, ⟨D, ho, _⟩, _⟩ := h
  exact ho.lt
theorem RClk.ltq {w : World} {F : Nat → Prop} {q : Nat} {t : Int} {L : List Alm} (h : RClk w F q t L) : q < w.heap.size := blk_lt h.choose_spec.1
set_option maxRecDepth 100000 in
set_option maxHeartbeats 4000000 in
theorem clocks_walk (w : World) (v : Value) (l : List N3) (hl : Rd n3E w (Old w) v l) :
    Calls Try.prog 7 #[v] w fun e w' => e = .returned (.bool true) ∧ RowKit.Below w.heap.size w w' := by
  obtain ⟨A, cp, rfl, hc1, hc2⟩ := hl.shape
  obtain ⟨N, hN⟩ : ∃ N, l.length = N := ⟨_, rfl⟩
  rw [hN] at hc1 ⊢
  have HN := Lib.hid hN
  clear hN
  by_cases h4 : 400 < N
  · have t1 : decide ((400 : Int) < N) = true := decide_eq_true (by omega)
    go_enter Try.func7, Try.ntmps7
    go_wp2_with ((with_reducible refine (known_spec w).mono ?_); rintro e w1 ⟨rfl, hu1⟩)
    go_ret
    exact ⟨rfl, hu1.below⟩
  have t1 : decide ((400 : Int) < N) = false := decide_eq_false (by omega)
  go_enter Try.func7, Try.ntmps7
  go_wp2_with ((with_reducible refine (known_spec w).mono ?_); rintro e w1 ⟨rfl, hu1⟩)
  refine (newClock_spec w1).mono ?_
  rintro e w2 ⟨rfl, hu2, hk2, hz2⟩
  have hr3 : RClk (w2.alloc (.cells #[.int .i64 0, .slice none 0 0] 54)) Non w2.heap.size 0 [] := ⟨_, heap_alloc_new w2 _, Own.nil _ _ _ _, id, Fin.non _⟩
  have hk3 : ClkAt (w2.alloc (.cells #[.int .i64 0, .slice none 0 0] 54)) (w1.heap.size + 1) w1.heap.size 0 0 [] := hk2.upd ((Upd.refl Non w2).alloc _) id id
  have hu3 : Upd Non w (w2.alloc (.cells #[.int .i64 0, .slice none 0 0] 54)) := (hu1.trans hu2).alloc _
  have hpb : w.heap.size ≤ w1.heap.size := hu1.size
  rw [hz2] at hr3
  obtain ⟨W3, hW3⟩ : ∃ W, W = w2.alloc (.cells #[.int .i64 0, .slice none 0 0] 54) := ⟨_, rfl⟩
  rw [← hW3] at hr3 hk3 hu3
  have HW := Lib.hid hW3
  clear hW3 t1
  go_wp2_with fail
  rw [← HW.out]
  clear HW
  have hsep : w1.heap.size + 1 ≠ w1.heap.size ∧ w1.heap.size + 1 ≠ w1.heap.size + 2 ∧ w1.heap.size ≠ w1.heap.size + 2 ∧ w.heap.size ≤ w1.heap.size + 1 ∧ w.heap.size ≤ w1.heap.size + 2 := by omega
  generalize w1.heap.size + 2 = q at hr3 hsep ⊢
  generalize w1.heap.size + 1 = p at hk3 hsep ⊢
  generalize w1.heap.size = b at hk3 hsep hpb ⊢
  obtain ⟨hpbn, hpq, hbq, hpw, hqw⟩ := hsep
  clear hu1 hu2 hk2 hz2
  go_loopw [5] (fun i wr => ∃ (k : Nat) (t : Int) (L : List Alm) (F : Nat → Prop), k ≤ N ∧ i = .int .i64 k ∧ ClkAt wr p b k t L ∧ RClk wr F q t L ∧ L.length ≤ k ∧ 0 ≤ t ∧ t ≤ 1048576 * k ∧ Sep w p b F ∧ Upd Non w wr) (fun i _ => N - (intOf i).toNat)
  case atStart => exact ⟨0, 0, [], Non, by omega, rfl, hk3, hr3, by simp, by omega, by omega, (fun x h => h.elim), hu3⟩
  case round =>
    obtain ⟨k, t, L, F, hk, rfl, hc, hr, hLk, ht0, htk, hsp, hur⟩ := hrel
    clear hk3 hr3 hu3
    by_cases hkl : k < N
    · have hkl' : k < l.length := by rw [HN.out]; exact hkl
      obtain ⟨b1, o1, c1, e1, _, hF1, ⟨m0, m1, m2⟩, iba, ibb, ibc⟩ := (hl.upd hur (Upd.fr_non (Fin.old w))).n3 (k := k) hkl'
      rw [HN.out] at e1
      cases e1
      generalize l[k] = x at m0 m1 m2 iba ibb ibc
      obtain ⟨xa, xb, xc⟩ := x
      simp only at m0 m1 m2 iba ibb ibc
      have hws := hur.size
      have hplt := blk_lt hc.1
      have hblt := hc.ltb
      have hqlt := hr.ltq
      have hu4 : Upd Non wr (wr.alloc (.cells #[.int .i64 xa, .int .i64 xb, .int .i64 xc] 56)) := (Upd.refl _ _).alloc _
      have hc4 := hc.upd hu4 id id
      have hr4 := hr.upd hu4 id (fun _ _ => id)
      have hra := heap_alloc_new wr (.cells #[.int .i64 xa, .int .i64 xb, .int .i64 xc] 56)
      have hu04 := hur.trans hu4
      have hnd := hc.nodup
      have hL6 : L.length ≤ 1000000 := by omega
      have hsrt := hc.2.2.2.1
      have hz4 : (wr.alloc (.cells #[.int .i64 xa, .int .i64 xb, .int .i64 xc] 56)).heap.size = wr.heap.size + 1 := by simp
      clear hc hr hur hu4
      obtain ⟨W4, hW4⟩ : ∃ W, W = wr.alloc (.cells #[.int .i64 xa, .int .i64 xb, .int .i64 xc] 56) := ⟨_, rfl⟩
      rw [← hW4] at hc4 hr4 hra hu04 hz4
      have HW4 := Lib.hid hW4
      clear hW4
      obtain ⟨ra, hrae⟩ : ∃ r, r = wr.heap.size := ⟨_, rfl⟩
      have HRA := Lib.hid hrae
      rw [← hrae] at hra
      have hrs : ra ≠ p ∧ ra ≠ b ∧ ra ≠ q ∧ ra < W4.heap.size ∧ p < W4.heap.size ∧ b < W4.heap.size ∧ q < W4.heap.size ∧ w.heap.size ≤ W4.heap.size := by omega
      obtain ⟨hrp, hrb, hrq, hrlt, hplt4, hblt4, hqlt4, hw4⟩ := hrs
      clear hrae
      have k0 : W4.cell? ⟨ra, 0, none⟩ = some (.int .i64 xa) := blk_at hra 0
      have k1 : W4.cell? ⟨ra, 1, none⟩ = some (.int .i64 xb) := blk_at hra 1
      have k2 : W4.cell? ⟨ra, 2, none⟩ = some (.int .i64 xc) := blk_at hra 2
      by_cases g1 : xa = 1
      · subst g1
        have HA : Calls Try.prog 14 #[.pointer (some ⟨p, 0, none⟩), .int .i64 xc] W4.drew fun e w' => e = .returned (.int .i64 (tickT t xc)) ∧ Upd (fun x => x = p) W4.drew w' ∧ ClkAt w' p b k (tickT t xc) L := tick_spec W4.drew p b k t xc L (hc4.upd ((Upd.refl Non _).drew) id id) ⟨ht0, by omega⟩
        have S0 : W4.drew.cell? ⟨ra, 2, none⟩ = some (.int .i64 xc) := k2
        have SA : ∀ W, Upd (fun x => x = p) W4.drew W → W.cell? ⟨ra, 2, none⟩ = some (.int .i64 xc) := fun W hu => (hu.cell (p := ⟨ra, 2, none⟩) hrlt (fun e => hrp e)).trans S0
        have SB : ∀ W W', Upd (fun x => x = p) W4.drew W → Upd (fun x => x = q) W W' → W'.cell? ⟨ra, 2, none⟩ = some (.int .i64 xc) := fun W W' hu0 hu => (hu.cell (p := ⟨ra, 2, none⟩) (Nat.lt_of_lt_of_le hrlt hu0.size) (fun e => hrq e)).trans (SA W hu0)
        have HB : ∀ W, Upd (fun x => x = p) W4.drew W → Calls Try.prog 24 #[.pointer (some ⟨q, 0, none⟩), .int .i64 xc] W fun e w' => e = .returned (.int .i64 (tickT t xc)) ∧ Upd (fun x => x = q) W w' ∧ RClk w' F q (tickT t xc) L := fun W hu => rtick_spec W F q t xc L (hr4.upd (((Upd.refl Non W4).drew.mono fun _ _ h => h.elim).trans hu) (fun e => by have e : q = p := e; omega) (fun x hx e => (hsp x hx).1 e)) ⟨ht0, by omega⟩
        have hfT : 0 ≤ tickT t xc ∧ tickT t xc ≤ 1048576 * ((k : Int) + 1) := by have := tick_le t xc ht0; omega
        have hfL : L.length ≤ k + 1 := by omega
        generalize hT : (tickT t xc) = t2 at HA HB hfT
        clear hT hc4 hr4
        go_wp2_with fail
        rw [← HW4.out, ← HRA.out]
        go_region_held3 (fun W' => W'.cell? ⟨ra, 2, none⟩ = some (.int .i64 xc))
          (first | exact S0 | exact Sa | exact Sb | go_keep)
          (first | (go_at_call 14; (with_reducible refine HA.mono ?_); rintro e w5 ⟨rfl, hu5, hc5⟩; have Sa := SA w5 hu5; have HB5 := HB w5 hu5) | (go_at_call 24; (with_reducible refine HB5.mono ?_); rintro e w6 ⟨rfl, hu6, hr6⟩; have Sb := SB w5 w6 hu5 hu6))
        all_goals (
          have hcN := (hc5.upd hu6 (fun e => hpq e) (fun e => hbq e)).mono (Nat.le_succ k)
          have hrN := hr6
          have hspN : Sep w p b F := hsp
          have huN : Upd Non w w6 := ((hu04.drew).trans' hu5 fun x hx e => by have e : x = p := e; omega).trans' hu6 fun x hx e => by have e : x = q := e; omega
          have hLN : L.length ≤ k + 1 := hfL
          have htN : 0 ≤ t2 ∧ t2 ≤ 1048576 * ((k : Int) + 1) := hfT
          have v9 : (t2 != t2) = false := by simp
          clear HA HB HB5 SA SB S0 Sa Sb hc5 hr6 hu5 hu6 hL6 hnd hsrt
          have hL6N : L.length ≤ 1000000 := by omega
          have HCN := cnext_spec w6 p b (k + 1) t2 L hcN hL6N
          unfold CNextPost at HCN
          have HRN := fun W (hu : Upd Non w6 W) => rnextc_spec W F q t2 L (hrN.upd hu id fun _ _ => id)
          have n9 : (nextV L != nextV L) = false := by simp
          have b9 : ((!L.isEmpty) != (!L.isEmpty)) = false := by simp
          have t9 : ((t2 : Int) != t2) = false := by simp
          generalize nextV L = nv at HCN HRN n9
          generalize (!L.isEmpty) = bv at HCN HRN b9
          go_wp2_with fail
          refine HCN.mono ?_
          rintro e w7 ⟨rfl, hu7⟩
          go_wp2_with fail
          refine (HRN w7 hu7).mono ?_
          rintro e w8 ⟨rfl, rfl⟩
          have hcF := hcN.upd hu7 id id
          have hrF := hrN.upd hu7 id fun _ _ => id
          have huF := huN.trans hu7
          have c07 : w7.cell? ⟨q, 0, none⟩ = some (.int .i64 t2) := by
            obtain ⟨_, hbq7, _⟩ := hrF
            exact blk_at hbq7 0
          have HNW : ∀ nn, Calls Try.prog 17 #[.pointer (some ⟨p, 0, none⟩)] (w7.drewN nn) fun e w' => e = .returned (.int .i64 t2) ∧ w' = w7.drewN nn := fun nn => (now_spec (w7.drewN nn) p b (k + 1) t2 L (hcF.upd ((Upd.refl Non _).drewN nn) id id)).mono fun _ _ h => ⟨h.1, h.2.symm⟩
          clear HCN HRN hcN hrN huN
          go_wp2_with fail
          go_quiet (first | (go_at_call 17; exact Calls.quiet_of_same (HNW _)))
          go_wp2_with fail
          go_roundw
          case rel => exact ⟨k + 1, t2, L, F, by omega, by go_num, hcF.upd ((Upd.refl Non _).drewN nq) id id, hrF.upd ((Upd.refl Non _).drewN nq) id fun _ _ => id, hLN, htN.1, by omega, hspN, huF.drewN nq⟩
          case measure => simp [intOf]; omega)
      by_cases g2 : xa = 2
      · subst g2
        have HA : Calls Try.prog 13 #[.pointer (some ⟨p, 0, none⟩), .int .i64 xb, .int .i64 xc] W4.drew fun e w' => e = .returned (.bool (setB t xc)) ∧ Upd (fun x => x = b) W4.drew w' ∧ ClkAt w' p b (k + 1) t (setR L t xb xc) := set_spec W4.drew p b k t xb xc L (hc4.upd ((Upd.refl Non _).drew) id id) ibb ibc (by omega)
        have S0 : W4.drew.cell? ⟨ra, 1, none⟩ = some (.int .i64 xb) ∧ W4.drew.cell? ⟨ra, 2, none⟩ = some (.int .i64 xc) := ⟨k1, k2⟩
        have SA : ∀ W, Upd (fun x => x = b) W4.drew W → W.cell? ⟨ra, 1, none⟩ = some (.int .i64 xb) ∧ W.cell? ⟨ra, 2, none⟩ = some (.int .i64 xc) := fun W hu => ⟨(hu.cell (p := ⟨ra, 1, none⟩) hrlt (fun e => hrb e)).trans S0.1, (hu.cell (p := ⟨ra, 2, none⟩) hrlt (fun e => hrb e)).trans S0.2⟩
        have SB : ∀ W W', Upd (fun x => x = b) W4.drew W → Upd (fun x => x = q) W W' → W'.cell? ⟨ra, 1, none⟩ = some (.int .i64 xb) ∧ W'.cell? ⟨ra, 2, none⟩ = some (.int .i64 xc) := fun W W' hu0 hu => ⟨(hu.cell (p := ⟨ra, 1, none⟩) (Nat.lt_of_lt_of_le hrlt hu0.size) (fun e => hrq e)).trans (SA W hu0).1, (hu.cell (p := ⟨ra, 2, none⟩) (Nat.lt_of_lt_of_le hrlt hu0.size) (fun e => hrq e)).trans (SA W hu0).2⟩
        have HB : ∀ W, Upd (fun x => x = b) W4.drew W → Calls Try.prog 25 #[.pointer (some ⟨q, 0, none⟩), .int .i64 xb, .int .i64 xc] W fun e w' => e = .returned (.bool (setB t xc)) ∧ Upd (fun x => x = q) W w' ∧ ∃ F', RClk w' F' q t (setR L t xb xc) ∧ ∀ k, F' k → F k ∨ New W w' k := fun W hu => rset_spec W F q t xb xc L (hr4.upd (((Upd.refl Non W4).drew.mono fun _ _ h => h.elim).trans hu) (fun e => by have e : q = b := e; omega) (fun x hx e => (hsp x hx).2.1 e)) hnd hL6
        have hfT : 0 ≤ t ∧ t ≤ 1048576 * ((k : Int) + 1) := by omega
        have hfL : (setR L t xb xc).length ≤ k + 1 := by have := len_set L t xb xc; omega
        generalize hV : (setB t xc) = vv at HA HB
        generalize hLL : (setR L t xb xc) = L2 at HA HB hfL
        clear hV hLL hc4 hr4
        go_wp2_with fail
        rw [← HW4.out, ← HRA.out]
        go_region_held3 (fun W' => W'.cell? ⟨ra, 1, none⟩ = some (.int .i64 xb) ∧ W'.cell? ⟨ra, 2, none⟩ = some (.int .i64 xc))
          (first | exact S0 | exact Sa | exact Sb | go_keep)
          (first | (go_at_call 13; (with_reducible refine HA.mono ?_); rintro e w5 ⟨rfl, hu5, hc5⟩; have Sa := SA w5 hu5; have HB5 := HB w5 hu5) | (go_at_call 25; (with_reducible refine HB5.mono ?_); rintro e w6 ⟨rfl, hu6, F6, hr6, hF6⟩; have Sb := SB w5 w6 hu5 hu6))
        all_goals (
          have hcN := (hc5.upd hu6 (fun e => hpq e) (fun e => hbq e))
          have hrN := hr6
          have hspN : Sep w p b F6 := hsp.next hF6 (by have := hu5.size; exact Nat.lt_of_lt_of_le hplt4 this) (by have := hu5.size; exact Nat.lt_of_lt_of_le hblt4 this) (by have := hu5.size; exact Nat.le_trans hw4 this)
          have huN : Upd Non w w6 := ((hu04.drew).trans' hu5 fun x hx e => by have e : x = b := e; omega).trans' hu6 fun x hx e => by have e : x = q := e; omega
          have hLN : L2.length ≤ k + 1 := hfL
          have htN : 0 ≤ t ∧ t ≤ 1048576 * ((k : Int) + 1) := hfT
          have v9 : (vv != vv) = false := by simp
          clear HA HB HB5 SA SB S0 Sa Sb hc5 hr6 hu5 hu6 hL6 hnd hsrt
          have hL6N : L2.length ≤ 1000000 := by omega
          have HCN := cnext_spec w6 p b (k + 1) t L2 hcN hL6N
          unfold CNextPost at HCN
          have HRN := fun W (hu : Upd Non w6 W) => rnextc_spec W F6 q t L2 (hrN.upd hu id fun _ _ => id)
          have n9 : (nextV L2 != nextV L2) = false := by simp
          have b9 : ((!L2.isEmpty) != (!L2.isEmpty)) = false := by simp
          have t9 : ((t : Int) != t) = false := by simp
          generalize nextV L2 = nv at HCN HRN n9
          generalize (!L2.isEmpty) = bv at HCN HRN b9
          go_wp2_with fail
          refine HCN.mono ?_
          rintro e w7 ⟨rfl, hu7⟩
          go_wp2_with fail
          refine (HRN w7 hu7).mono ?_
          rintro e w8 ⟨rfl, rfl⟩
          have hcF := hcN.upd hu7 id id
          have hrF := hrN.upd hu7 id fun _ _ => id
          have huF := huN.trans hu7
          have c07 : w7.cell? ⟨q, 0, none⟩ = some (.int .i64 t) := by
            obtain ⟨_, hbq7, _⟩ := hrF
            exact blk_at hbq7 0
          have HNW : ∀ nn, Calls Try.prog 17 #[.pointer (some ⟨p, 0, none⟩)] (w7.drewN nn) fun e w' => e = .returned (.int .i64 t) ∧ w' = w7.drewN nn := fun nn => (now_spec (w7.drewN nn) p b (k + 1) t L2 (hcF.upd ((Upd.refl Non _).drewN nn) id id)).mono fun _ _ h => ⟨h.1, h.2.symm⟩
          clear HCN HRN hcN hrN huN
          go_wp2_with fail
          go_quiet (first | (go_at_call 17; exact Calls.quiet_of_same (HNW _)))
          go_wp2_with fail
          go_roundw
          case rel => exact ⟨k + 1, t, L2, F6, by omega, by go_num, hcF.upd ((Upd.refl Non _).drewN nq) id id, hrF.upd ((Upd.refl Non _).drewN nq) id fun _ _ => id, hLN, htN.1, by omega, hspN, huF.drewN nq⟩
          case measure => simp [intOf]; omega)
      by_cases g3 : xa = 3
      · subst g3
        have HA : Calls Try.prog 26 #[.pointer (some ⟨p, 0, none⟩), .int .i64 xb] W4.drew fun e w' => e = .returned (.bool (L.any fun y => y.1 == xb)) ∧ Upd (fun x => x = b) W4.drew w' ∧ ClkAt w' p b k t (delL L xb) := drop_spec W4.drew p b k t xb L (hc4.upd ((Upd.refl Non _).drew) id id) ibb
        have S0 : W4.drew.cell? ⟨ra, 1, none⟩ = some (.int .i64 xb) := k1
        have SA : ∀ W, Upd (fun x => x = b) W4.drew W → W.cell? ⟨ra, 1, none⟩ = some (.int .i64 xb) := fun W hu => (hu.cell (p := ⟨ra, 1, none⟩) hrlt (fun e => hrb e)).trans S0
        have SB : ∀ W W', Upd (fun x => x = b) W4.drew W → Upd (fun x => x = q) W W' → W'.cell? ⟨ra, 1, none⟩ = some (.int .i64 xb) := fun W W' hu0 hu => (hu.cell (p := ⟨ra, 1, none⟩) (Nat.lt_of_lt_of_le hrlt hu0.size) (fun e => hrq e)).trans (SA W hu0)
        have HB : ∀ W, Upd (fun x => x = b) W4.drew W → Calls Try.prog 27 #[.pointer (some ⟨q, 0, none⟩), .int .i64 xb] W fun e w' => e = .returned (.bool (L.any fun y => y.1 == xb)) ∧ Upd (fun x => x = q) W w' ∧ ∃ F', RClk w' F' q t (delL L xb) ∧ ∀ k, F' k → F k ∨ New W w' k := fun W hu => rdrop_spec W F q t xb L (hr4.upd (((Upd.refl Non W4).drew.mono fun _ _ h => h.elim).trans hu) (fun e => by have e : q = b := e; omega) (fun x hx e => (hsp x hx).2.1 e)) hnd hL6
        have hfT : 0 ≤ t ∧ t ≤ 1048576 * ((k : Int) + 1) := by omega
        have hfL : (delL L xb).length ≤ k + 1 := by have := len_del L xb; omega
        generalize hV : (L.any fun y => y.1 == xb) = vv at HA HB
        generalize hLL : (delL L xb) = L2 at HA HB hfL
        clear hV hLL hc4 hr4
        go_wp2_with fail
        rw [← HW4.out, ← HRA.out]
        go_region_held3 (fun W' => W'.cell? ⟨ra, 1, none⟩ = some (.int .i64 xb))
          (first | exact S0 | exact Sa | exact Sb | go_keep)
          (first | (go_at_call 26; (with_reducible refine HA.mono ?_); rintro e w5 ⟨rfl, hu5, hc5⟩; have Sa := SA w5 hu5; have HB5 := HB w5 hu5) | (go_at_call 27; (with_reducible refine HB5.mono ?_); rintro e w6 ⟨rfl, hu6, F6, hr6, hF6⟩; have Sb := SB w5 w6 hu5 hu6))
        all_goals (
          have hcN := (hc5.upd hu6 (fun e => hpq e) (fun e => hbq e)).mono (Nat.le_succ k)
          have hrN := hr6
          have hspN : Sep w p b F6 := hsp.next hF6 (by have := hu5.size; exact Nat.lt_of_lt_of_le hplt4 this) (by have := hu5.size; exact Nat.lt_of_lt_of_le hblt4 this) (by have := hu5.size; exact Nat.le_trans hw4 this)
          have huN : Upd Non w w6 := ((hu04.drew).trans' hu5 fun x hx e => by have e : x = b := e; omega).trans' hu6 fun x hx e => by have e : x = q := e; omega
          have hLN : L2.length ≤ k + 1 := hfL
          have htN : 0 ≤ t ∧ t ≤ 1048576 * ((k : Int) + 1) := hfT
          have v9 : (vv != vv) = false := by simp
          clear HA HB HB5 SA SB S0 Sa Sb hc5 hr6 hu5 hu6 hL6 hnd hsrt
          have hL6N : L2.length ≤ 1000000 := by omega
          have HCN := cnext_spec w6 p b (k + 1) t L2 hcN hL6N
          unfold CNextPost at HCN
          have HRN := fun W (hu : Upd Non w6 W) => rnextc_spec W F6 q t L2 (hrN.upd hu id fun _ _ => id)
          have n9 : (nextV L2 != nextV L2) = false := by simp
          have b9 : ((!L2.isEmpty) != (!L2.isEmpty)) = false := by simp
          have t9 : ((t : Int) != t) = false := by simp
          generalize nextV L2 = nv at HCN HRN n9
          generalize (!L2.isEmpty) = bv at HCN HRN b9
          go_wp2_with fail
          refine HCN.mono ?_
          rintro e w7 ⟨rfl, hu7⟩
          go_wp2_with fail
          refine (HRN w7 hu7).mono ?_
          rintro e w8 ⟨rfl, rfl⟩
          have hcF := hcN.upd hu7 id id
          have hrF := hrN.upd hu7 id fun _ _ => id
          have huF := huN.trans hu7
          have c07 : w7.cell? ⟨q, 0, none⟩ = some (.int .i64 t) := by
            obtain ⟨_, hbq7, _⟩ := hrF
            exact blk_at hbq7 0
          have HNW : ∀ nn, Calls Try.prog 17 #[.pointer (some ⟨p, 0, none⟩)] (w7.drewN nn) fun e w' => e = .returned (.int .i64 t) ∧ w' = w7.drewN nn := fun nn => (now_spec (w7.drewN nn) p b (k + 1) t L2 (hcF.upd ((Upd.refl Non _).drewN nn) id id)).mono fun _ _ h => ⟨h.1, h.2.symm⟩
          clear HCN HRN hcN hrN huN
          go_wp2_with fail
          go_quiet (first | (go_at_call 17; exact Calls.quiet_of_same (HNW _)))
          go_wp2_with fail
          go_roundw
          case rel => exact ⟨k + 1, t, L2, F6, by omega, by go_num, hcF.upd ((Upd.refl Non _).drewN nq) id id, hrF.upd ((Upd.refl Non _).drewN nq) id fun _ _ => id, hLN, htN.1, by omega, hspN, huF.drewN nq⟩
          case measure => simp [intOf]; omega)
      by_cases g4 : xa = 4
      · subst g4
        have HA := due_spec W4 p b k t L hc4 hL6
        go_wp2_with fail
        rw [← HW4.out, ← HRA.out]
        refine HA.mono ?_
        rintro e w5 ⟨v5, rfl, hrd5, hu5, hc5⟩
        have hr5 := hr4.upd hu5 (fun e => by have e : q = b := e; omega) (fun x hx e => (hsp x hx).2.1 e)
        have HB := rdue_spec w5 F q t L hr5 hsrt hL6
        go_wp2_with fail
        refine HB.mono ?_
        rintro e w6 ⟨v6, G, rfl, hrd6, hG6, hu6, F6, hr6, hF6⟩
        have hz5 := hu5.size
        have hz6 := hu6.size
        have hrd5' := hrd5.upd hu6 (fun x hx => ⟨hx.2, fun e => by have e : x = q := e; have := hx.1; omega⟩)
        have hcN := (hc5.upd hu6 (fun e => hpq e) (fun e => hbq e)).mono (Nat.le_succ k)
        have hrN := hr6
        have hspN : Sep w p b F6 := hsp.next hF6 (Nat.lt_of_lt_of_le hplt4 hz5) (Nat.lt_of_lt_of_le hblt4 hz5) (Nat.le_trans hw4 hz5)
        have huN : Upd Non w w6 := (hu04.trans' hu5 fun x hx e => by have e : x = b := e; omega).trans' hu6 fun x hx e => by have e : x = q := e; omega
        have hLN : (restA L t).length ≤ k + 1 := by have := len_rest L t; omega
        have htN : 0 ≤ t ∧ t ≤ 1048576 * ((k : Int) + 1) := by omega
        have hFa : Fin w6 (New W4 w5) := fun x hx => by have := hx.2; omega
        have hFb : Fin w6 G := fun x hx => (hG6 x hx).2
        have hdl : (idsA (dueA L t)).length ≤ 1000000 := by
          have : (idsA (dueA L t)).length ≤ L.length := by simp only [idsA, dueA, List.length_map]; exact List.length_filter_le _ _
          omega
        obtain ⟨A5, c5, rfl, hc51, hc52⟩ := hrd5'.shape
        obtain ⟨A6, c6, rfl, hc61, hc62⟩ := hrd6.shape
        clear HA HB hrd5 hc5 hr5 hr6 hF6 hu5 hu6 hc4 hr4 hnd hsrt
        generalize restA L t = L2 at hcN hrN hLN
        generalize idsA (dueA L t) = dl at hrd5' hrd6 hdl hc51 hc61 ⊢
        obtain ⟨M, hM⟩ : ∃ M, dl.length = M := ⟨_, rfl⟩
        have HM := Lib.hid hM
        rw [hM] at hdl hc51 hc61 ⊢
        clear hM
        have l9 : ((M : Int) != M) = false := by simp
        go_wp2_with fail
        go_loopw [9] (fun i wr => ∃ j : Nat, j ≤ M ∧ i = .int .i64 j ∧ Upd Non w6 wr) (fun i _ => M - (intOf i).toNat)
        case atStart => exact ⟨0, by omega, rfl, Upd.refl _ _⟩
        case round =>
          obtain ⟨j, hj, rfl, huw⟩ := hrel
          by_cases hjl : j < M
          · have hjl' : j < dl.length := by rw [HM.out]; exact hjl
            obtain ⟨b5, o5, c5', e5, _, _, n5⟩ := (hrd5'.upd huw (Upd.fr_non hFa)).int hjl'
            obtain ⟨b6, o6, c6', e6, _, _, n6⟩ := (hrd6.upd huw (Upd.fr_non hFb)).int hjl'
            rw [HM.out] at e5 e6
            cases e5
            cases e6
            generalize dl[j] = y at n5 n6
            have y9 : (y != y) = false := by simp
            go_wp2_with fail
            go_quiet (fail)
            go_wp2_with fail
            go_roundw
            case rel => exact ⟨j + 1, by omega, by go_num, huw.drewN nq⟩
            case measure => simp [intOf]; omega
          · obtain rfl : j = M := by omega
            obtain ⟨w66, hw66⟩ : ∃ W, W = wr := ⟨_, rfl⟩
            subst hw66
            have hcN' := hcN.upd huw id id
            have hrN' := hrN.upd huw id fun _ _ => id
            have huN' := huN.trans huw
            clear hcN hrN huN hrd5' hrd6
            have hcN := hcN'
            have hrN := hrN'
            have huN := huN'
            clear hcN' hrN' huN'
            have hL6N : L2.length ≤ 1000000 := by omega
            have HCN := cnext_spec w66 p b (k + 1) t L2 hcN hL6N
            unfold CNextPost at HCN
            have HRN := fun W (hu : Upd Non w66 W) => rnextc_spec W F6 q t L2 (hrN.upd hu id fun _ _ => id)
            have n9 : (nextV L2 != nextV L2) = false := by simp
            have b9 : ((!L2.isEmpty) != (!L2.isEmpty)) = false := by simp
            have t9 : ((t : Int) != t) = false := by simp
            generalize nextV L2 = nv at HCN HRN n9
            generalize (!L2.isEmpty) = bv at HCN HRN b9
            go_wp2_with fail
            refine HCN.mono ?_
            rintro e w7 ⟨rfl, hu7⟩
            go_wp2_with fail
            refine (HRN w7 hu7).mono ?_
            rintro e w8 ⟨rfl, rfl⟩
            have hcF := hcN.upd hu7 id id
            have hrF := hrN.upd hu7 id fun _ _ => id
            have huF := huN.trans hu7
            have c07 : w7.cell? ⟨q, 0, none⟩ = some (.int .i64 t) := by
              obtain ⟨_, hbq7, _⟩ := hrF
              exact blk_at hbq7 0
            have HNW : ∀ nn, Calls Try.prog 17 #[.pointer (some ⟨p, 0, none⟩)] (w7.drewN nn) fun e w' => e = .returned (.int .i64 t) ∧ w' = w7.drewN nn := fun nn => (now_spec (w7.drewN nn) p b (k + 1) t L2 (hcF.upd ((Upd.refl Non _).drewN nn) id id)).mono fun _ _ h => ⟨h.1, h.2.symm⟩
            clear HCN HRN hcN hrN huN
            go_wp2_with fail
            go_quiet (first | (go_at_call 17; exact Calls.quiet_of_same (HNW _)))
            go_wp2_with fail
            go_roundw
            case rel => exact ⟨k + 1, t, L2, F6, by omega, by go_num, hcF.upd ((Upd.refl Non _).drewN nq) id id, hrF.upd ((Upd.refl Non _).drewN nq) id fun _ _ => id, hLN, htN.1, by omega, hspN, huF.drewN nq⟩
            case measure => simp [intOf]; omega
      · have g1' : (xa == 1) = false := by simpa using g1
        have g2' : (xa == 2) = false := by simpa using g2
        have g3' : (xa == 3) = false := by simpa using g3
        have g4' : (xa == 4) = false := by simpa using g4
        have hcN := hc4.mono (Nat.le_succ k)
        have hrN := hr4
        have hspN := hsp
        have huN := hu04
        have hLN : L.length ≤ k + 1 := by omega
        have htN : 0 ≤ t ∧ t ≤ 1048576 * ((k : Int) + 1) := by omega
        clear hc4 hr4
        have hL6N : L.length ≤ 1000000 := by omega
        have HCN := cnext_spec W4 p b (k + 1) t L hcN hL6N
        unfold CNextPost at HCN
        have HRN := fun W (hu : Upd Non W4 W) => rnextc_spec W F q t L (hrN.upd hu id fun _ _ => id)
        have n9 : (nextV L != nextV L) = false := by simp
        have b9 : ((!L.isEmpty) != (!L.isEmpty)) = false := by simp
        have t9 : ((t : Int) != t) = false := by simp
        generalize nextV L = nv at HCN HRN n9
        generalize (!L.isEmpty) = bv at HCN HRN b9
        go_wp2_with fail
        rw [← HW4.out, ← HRA.out]
        refine HCN.mono ?_
        rintro e w7 ⟨rfl, hu7⟩
        go_wp2_with fail
        refine (HRN w7 hu7).mono ?_
        rintro e w8 ⟨rfl, rfl⟩
        have hcF := hcN.upd hu7 id id
        have hrF := hrN.upd hu7 id fun _ _ => id
        have huF := huN.trans hu7
        have c07 : w7.cell? ⟨q, 0, none⟩ = some (.int .i64 t) := by
          obtain ⟨_, hbq7, _⟩ := hrF
          exact blk_at hbq7 0
        have HNW : ∀ nn, Calls Try.prog 17 #[.pointer (some ⟨p, 0, none⟩)] (w7.drewN nn) fun e w' => e = .returned (.int .i64 t) ∧ w' = w7.drewN nn := fun nn => (now_spec (w7.drewN nn) p b (k + 1) t L (hcF.upd ((Upd.refl Non _).drewN nn) id id)).mono fun _ _ h => ⟨h.1, h.2.symm⟩
        clear HCN HRN hcN hrN huN
        go_wp2_with fail
        go_quiet (first | (go_at_call 17; exact Calls.quiet_of_same (HNW _)))
        go_wp2_with fail
        go_roundw
        case rel => exact ⟨k + 1, t, L, F, by omega, by go_num, hcF.upd ((Upd.refl Non _).drewN nq) id id, hrF.upd ((Upd.refl Non _).drewN nq) id fun _ _ => id, hLN, htN.1, by omega, hspN, huF.drewN nq⟩
        case measure => simp [intOf]; omega
    · obtain rfl : k = N := by omega
      go_wp2_with fail
      go_ret
      exact ⟨rfl, hur.below⟩
set_option maxRecDepth 100000 in
theorem drawsClocks_lifted (os : Os) (started : os.Started) (H : Type) (enc : TypeId × Value → H) :
    ReturnsInHanded {} Try.checked os 7 .any (Rows.drawsClocksSpec.pre6 enc Try.prog Try.f7 Rows.drawsClocksRow.domain false) (Rows.drawsClocksSpec.post enc Try.prog Try.f7 false true false false) := by
  refine returnsInHanded_of_change_sized (C := Try.checked) own started (by kernel_rfl) Try.func7
    (ChangeSpec.witness6 (enc := enc) (C := Try.checked) false ⟨#[], #[.slice none 0 0], []⟩ 8 (by kernel_rfl) (by kernel_rfl) (by kernel_rfl) (by kernel_rfl)) ?_
  intro W base args ds gs before hval0 hW hcnd hsz0 _
  have hval : ∀ (j : Nat) t v, Try.f7.params[j]? = some t → args[j]? = some v → Value.okWide Try.prog W .any base t v := hval0
  have hW' := hW
  obtain ⟨p, q, hA0, hV, rfl, hfz, hnd⟩ := hW
  have hA : DataW.TrodAll enc Try.prog W 0 (fun _ => true) true Try.f7.params.toList args.toList ds p := hA0
  have hsz : (DataW.weightsEach Try.prog (Try.f7.params.toList ++ Rows.drawsClocksSpec.plain.varTypes Try.prog) (ds ++ gs)).all (· ≤ reachBytes) = true := hsz0
  rw [Try.params7] at hA hval hsz
  obtain ⟨v0, vs0, d0, ds0, p0, q0, hargs, rfl, rfl, h0, r0⟩ := trodAll_cons hA
  obtain ⟨rfl, rfl, rfl⟩ := trodAll_nil r0
  obtain rfl : args = #[v0] := by cases args; simp_all
  obtain ⟨rfl, rfl⟩ := trodVars_none hV
  obtain ⟨a0, len0, cap0, rfl⟩ := okWide_slice Try.underlying50 (hval 0 50 v0 rfl rfl)
  have lt0 : ∀ x ∈ p0, x.block < W.heap.size := by obtain ⟨m, hm⟩ := h0; exact DataW.trod_lt m _ _ _ hm
  obtain ⟨x0, hx0, lx0⟩ := open_arg opens_d56 Try.underlying50 (by kernel_rfl) rfl h0 (weights_of hsz (j := 0) rfl rfl)
  rw [show Try.prog.bytesOf 56 = 24 from by kernel_rfl] at lx0
  simp only [reachBytes] at lx0
  clear hA0 hval0
  refine (clocks_walk W _ x0 hx0).mono fun e W' ⟨he, bel⟩ => ?_
  subst he
  exact ⟨_, rfl, _, _, _, [], _, [], hW', trodAll_mk1 (shut_bool Try.underlying4 _), (trodAll_cons_mk (Below.trod laidOut (by kernel_rfl) (of_decide_eq_true (by kernel_rfl)) h0 bel lt0) trodAll_mk0), rfl, bel.frame _, fun h => by cases h⟩

theorem drawsClocks_over : Rows.drawsClocksRow.holds Try.pinned (OpenSpec.ofChange Rows.drawsClocksSpec) :=
  OpenClaim.holds_of_wide 7 Try.f7 rfl rfl rfl rfl rfl rfl rfl ⟨rfl, rfl, rfl, rfl, rfl⟩ rfl rfl rfl rfl rfl (by kernel_rfl) Try.func7 (by kernel_rfl)
    (of_decide_eq_true (by kernel_rfl)) (by unfold Func.isWrapper; first | (rw [if_pos (by decide +kernel)]; kernel_rfl) | (rw [if_neg (by decide +kernel)]; exact ⟨rfl, rfl⟩))
    (fun os started H enc _ => drawsClocks_lifted os started H enc)

theorem drawsClocks_holds : Rows.DrawsClocksSaid := drawsClocks_over
#print axioms drawsClocks_holds

end Go.Proofs.Ytgjikmpeeipboaa
