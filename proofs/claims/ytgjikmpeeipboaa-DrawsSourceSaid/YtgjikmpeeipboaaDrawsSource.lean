/-
  Whatever seed and whatever draws: each number is the reference's, as is how many were drawn, and twins go the same way: the law DrawsSource returns true at every input.
-/
import Derived.Test.YtgjikmpeeipboaaO1
import Derived.Test.YtgjikmpeeipboaaS2
namespace Go.Proofs.Ytgjikmpeeipboaa
open Go.ChangeShapes Go.WideShapes Go.ChangeAt Go.RowKit
set_option maxRecDepth 100000 in
set_option maxHeartbeats 2000000 in
theorem source_walk (w : World) (sd : Int) (v : Value) (l : List N3) (bs : 0 ≤ sd ∧ sd ≤ 18446744073709551615) (hl : Rd n3E w (Old w) v l) :
    Calls Try.prog 5 #[.int .u64 sd, v] w fun e w' => e = .returned (.bool true) ∧ RowKit.Below w.heap.size w w' := by
  obtain ⟨A, cp, rfl, hc1, hc2⟩ := hl.shape
  have hcm : (cp : Int) ≤ 9223372036854775807 := by rw [maxLen_eq] at hc2; omega
  generalize hN : l.length = N at hc1 ⊢
  have HN := Lib.hid hN
  clear hN
  by_cases h4 : 400 < N
  · have t1 : decide ((400 : Int) < N) = true := decide_eq_true (by omega)
    go_enter Try.func5, Try.ntmps5
    go_wp2_with ((with_reducible refine (known_spec w).mono ?_); rintro e w1 ⟨rfl, hu1⟩)
    go_ret
    exact ⟨rfl, hu1.below⟩
  have t1 : decide ((400 : Int) < N) = false := decide_eq_false (by omega)
  go_enter Try.func5, Try.ntmps5
  go_wp2_with ((with_reducible refine (known_spec w).mono ?_); rintro e w1 ⟨rfl, hu1⟩)
  refine (new_spec w1 sd bs).mono ?_
  rintro e w2 ⟨rfl, hu2, hs2⟩
  have hux := hu1.trans hu2
  have hp := hu1.size
  have hplt := blk_lt hs2.1
  generalize w1.heap.size = p at hs2 hp hplt ⊢
  clear hu1 hu2 t1
  have hq3 : SrcAt (w2.alloc (.cells #[.int .u64 sd, .int .i64 0] 42)) 42 w2.heap.size sd 0 := ⟨heap_alloc_new w2 _, bs⟩
  have hs3 : SrcAt (w2.alloc (.cells #[.int .u64 sd, .int .i64 0] 42)) 61 p sd 0 := hs2.upd ((Upd.refl Non w2).alloc _) id
  have hu3 : Upd Non w (w2.alloc (.cells #[.int .u64 sd, .int .i64 0] 42)) := hux.alloc _
  have hqp : p < w2.heap.size := hplt
  obtain ⟨W3, hW3⟩ : ∃ W, W = w2.alloc (.cells #[.int .u64 sd, .int .i64 0] 42) := ⟨_, rfl⟩
  rw [← hW3] at hq3 hs3 hu3
  have HW := Lib.hid hW3
  clear hW3
  go_wp2_with fail
  rw [← HW.out]
  clear HW
  generalize w2.heap.size = q at hq3 hqp ⊢
  clear hs2 hux hplt
  go_loopw [5, 7] (fun pv i wr => ∃ (k pp : Nat) (s c : Int), k ≤ N ∧ i = .int .i64 k ∧ pv = .pointer (some ⟨pp, 0, none⟩) ∧ SrcAt wr 61 pp s c ∧ SrcAt wr 42 q s c ∧ pp ≠ q ∧ w.heap.size ≤ pp ∧ 0 ≤ c ∧ c ≤ k ∧ Upd Non w wr) (fun _ i _ => N - (intOf i).toNat)
  case atStart => exact ⟨0, p, sd, 0, by omega, rfl, rfl, hs3, hq3, by omega, hp, by omega, by omega, hu3⟩
  case round =>
    obtain ⟨k, pp, s, c, hk, rfl, rfl, hs, hq, hpq, hpw, hc0, hck, hur⟩ := hrel
    by_cases hkl : k < N
    · have hkl' : k < l.length := by rw [HN.out]; exact hkl
      obtain ⟨b1, o1, c1, e1, _, hF1, ⟨m0, m1, m2⟩, iba, ibb, ibc⟩ := (hl.upd hur (Upd.fr_non (Fin.old w))).n3 (k := k) hkl'
      rw [HN.out] at e1
      cases e1
      generalize l[k] = x at m0 m1 m2 iba ibb ibc
      obtain ⟨xa, xb, xc⟩ := x
      simp only at m0 m1 m2 iba ibb ibc
      have hb1 : b1 < w.heap.size := hF1
      have hqw : w.heap.size ≤ q := by omega
      have hFIN : ∀ (W : World) (pp' : Nat) (s' c' : Int), SrcAt W 61 pp' s' c' → SrcAt W 42 q s' c' → True := fun _ _ _ _ _ _ => trivial
      clear hFIN hs3 hq3 hu3
      by_cases g1 : xa = 1
      · subst g1
        have HA := next_spec wr pp s c hs (by omega)
        go_wp2_with fail
        refine HA.mono ?_
        rintro e w5 ⟨rfl, hd5⟩
        have hq5 := hq.upd hd5.1 (fun e => by have e : q = pp := e; omega)
        go_wp2_with fail
        refine (rnext_spec w5 q s c hq5 (by omega)).mono ?_
        rintro e w6 ⟨rfl, hd6⟩
        have hsN := hd5.2.upd hd6.1 (fun e => hpq e)
        have hqN := hd6.2
        have hsN' := trivial
        have hu6 : Upd Non w w6 := (hur.trans' hd5.1 fun x hx e => by have e : x = pp := e; omega).trans' hd6.1 fun x hx e => by have e : x = q := e; omega
        clear HA
        generalize stepU s = s2 at hsN hqN ⊢
        have t8 : (mixU s2 != mixU s2) = false := by simp
        have c23 := count_spec w6.drew pp _ _ (hsN.drew)
        have S9 : w6.drew.cell? ⟨q, 1, none⟩ = some (.int .i64 (c + 1)) := blk_at hqN.1 1
        have t9 : (((c + 1) : Int) != (c + 1)) = false := by simp
        clear hsN' 
        go_wp2_with fail
        go_region_held3 (fun W' => W'.cell? ⟨q, 1, none⟩ = some (.int .i64 (c + 1)))
          (first | exact S9 | go_keep)
          (first | (go_at_call 23; (with_reducible refine c23.mono ?_); rintro e w9 ⟨rfl, rfl⟩))
        all_goals (
          go_wp2
          go_roundw
          case rel => exact ⟨k + 1, pp, s2, c + 1, by omega, by go_num, rfl, hsN.drew, hqN.drew, hpq, hpw, by omega, by omega, hu6.drew⟩
          case measure => simp [intOf]; omega)
      by_cases g2 : xa = 2
      · subst g2
        have HA : Calls Try.prog 11 #[.pointer (some ⟨pp, 0, none⟩), .int .i64 xb] wr.drew fun e w' => e = .returned (.int .i64 (belowV s xb)) ∧ Upd (fun k => k = pp) wr.drew w' ∧ SrcAt w' 61 pp (belowS s xb) (belowC c xb) := (below_spec wr.drew pp s c xb hs.drew (by omega) ibb.2)
        have S0 : wr.drew.cell? ⟨b1, o1 + k * 3 + 1, none⟩ = some (.int .i64 xb) := m1
        have hcb : 0 ≤ belowC c xb ∧ belowC c xb ≤ c + 1 := by unfold belowC; split <;> omega
        have SA : ∀ W, Upd (fun x => x = pp) wr.drew W → W.cell? ⟨b1, o1 + k * 3 + 1, none⟩ = some (.int .i64 xb) := fun W hu => (hu.cell (p := ⟨b1, o1 + k * 3 + 1, none⟩) (by show b1 < _; have := hur.size; have h0 : wr.drew.heap.size = wr.heap.size := rfl; omega) (fun e => by have e : b1 = pp := e; omega)).trans S0
        have SB : ∀ W W', Upd (fun x => x = pp) wr.drew W → Upd (fun x => x = q) W W' → W'.cell? ⟨b1, o1 + k * 3 + 1, none⟩ = some (.int .i64 xb) := fun W W' hu0 hu => by
          have hsz := hu0.size
          have hws : w.heap.size ≤ wr.drew.heap.size := hur.size
          exact (hu.cell (p := ⟨b1, o1 + k * 3 + 1, none⟩) (by show b1 < _; omega) (fun e => by have e : b1 = q := e; omega)).trans (SA W hu0)
        have HB : ∀ W, Upd (fun x => x = pp) wr.drew W → Calls Try.prog 20 #[.pointer (some ⟨q, 0, none⟩), .int .i64 xb] W fun e w' => e = .returned (.int .i64 (belowV s xb)) ∧ Upd (fun k => k = q) W w' ∧ SrcAt w' 42 q (belowS s xb) (belowC c xb) := fun W hu => rbelow_spec W q s c xb (hq.drew.upd hu (fun e => by have e : q = pp := e; omega)) (by omega) ibb.2
        clear hs
        generalize hV : belowV s xb = vv at HA HB
        generalize hS : belowS s xb = s2 at HA HB
        generalize hC : belowC c xb = c2 at HA HB hcb
        clear hV hS hC
        go_wp2_with fail
        go_region_held3 (fun W' => W'.cell? ⟨b1, o1 + k * 3 + 1, none⟩ = some (.int .i64 xb))
          (first | exact S0 | exact Sa | exact Sb | go_keep)
          (first | (go_at_call 11; (with_reducible refine HA.mono ?_); rintro e w5 ⟨rfl, hu5, hs5⟩; have Sa := SA w5 hu5; have HB5 := HB w5 hu5) | (go_at_call 20; (with_reducible refine HB5.mono ?_); rintro e w6 ⟨rfl, hu6, hq6⟩; have Sb := SB w5 w6 hu5 hu6))
        all_goals (
          have hsN := hs5.upd hu6 (fun e => hpq e)
          have hqN := hq6
          have hsN' := trivial
          have huN : Upd Non w w6 := ((hur.drew).trans' hu5 fun x hx e => by have e : x = pp := e; omega).trans' hu6 fun x hx e => by have e : x = q := e; omega
          have t8 : ((vv : Int) != vv) = false := by simp
          have c23 := count_spec w6.drew pp _ _ (hsN.drew)
          have S9 : w6.drew.cell? ⟨q, 1, none⟩ = some (.int .i64 c2) := blk_at hqN.1 1
          have t9 : ((c2 : Int) != c2) = false := by simp
          clear hsN' 
          go_wp2_with fail
          go_region_held3 (fun W' => W'.cell? ⟨q, 1, none⟩ = some (.int .i64 c2))
            (first | exact S9 | go_keep)
            (first | (go_at_call 23; (with_reducible refine c23.mono ?_); rintro e w9 ⟨rfl, rfl⟩))
          all_goals (
            go_wp2
            go_roundw
            case rel => exact ⟨k + 1, pp, s2, c2, by omega, by go_num, rfl, hsN.drew, hqN.drew, hpq, hpw, by omega, by omega, huN.drew⟩
            case measure => simp [intOf]; omega))
      by_cases g3 : xa = 3
      · subst g3
        have HA : Calls Try.prog 10 #[.pointer (some ⟨pp, 0, none⟩), .int .i64 xb, .int .i64 xc] wr.drew fun e w' => e = .returned (.int .i64 (betV s xb xc)) ∧ Upd (fun k => k = pp) wr.drew w' ∧ SrcAt w' 61 pp (betS s xb xc) (betC c xb xc) := (between_spec wr.drew pp s c xb xc hs.drew (by omega) ibb ibc)
        have S0 : wr.drew.cell? ⟨b1, o1 + k * 3 + 1, none⟩ = some (.int .i64 xb) ∧ wr.drew.cell? ⟨b1, o1 + k * 3 + 2, none⟩ = some (.int .i64 xc) := ⟨m1, m2⟩
        have hcb : 0 ≤ betC c xb xc ∧ betC c xb xc ≤ c + 1 := by unfold betC; split <;> omega
        have SA : ∀ W, Upd (fun x => x = pp) wr.drew W → W.cell? ⟨b1, o1 + k * 3 + 1, none⟩ = some (.int .i64 xb) ∧ W.cell? ⟨b1, o1 + k * 3 + 2, none⟩ = some (.int .i64 xc) := fun W hu => ⟨(hu.cell (p := ⟨b1, o1 + k * 3 + 1, none⟩) (by show b1 < _; have := hur.size; have h0 : wr.drew.heap.size = wr.heap.size := rfl; omega) (fun e => by have e : b1 = pp := e; omega)).trans S0.1, (hu.cell (p := ⟨b1, o1 + k * 3 + 2, none⟩) (by show b1 < _; have := hur.size; have h0 : wr.drew.heap.size = wr.heap.size := rfl; omega) (fun e => by have e : b1 = pp := e; omega)).trans S0.2⟩
        have SB : ∀ W W', Upd (fun x => x = pp) wr.drew W → Upd (fun x => x = q) W W' → W'.cell? ⟨b1, o1 + k * 3 + 1, none⟩ = some (.int .i64 xb) ∧ W'.cell? ⟨b1, o1 + k * 3 + 2, none⟩ = some (.int .i64 xc) := fun W W' hu0 hu => by
          have hsz := hu0.size
          have hws : w.heap.size ≤ wr.drew.heap.size := hur.size
          exact ⟨(hu.cell (p := ⟨b1, o1 + k * 3 + 1, none⟩) (by show b1 < _; omega) (fun e => by have e : b1 = q := e; omega)).trans (SA W hu0).1, (hu.cell (p := ⟨b1, o1 + k * 3 + 2, none⟩) (by show b1 < _; omega) (fun e => by have e : b1 = q := e; omega)).trans (SA W hu0).2⟩
        have HB : ∀ W, Upd (fun x => x = pp) wr.drew W → Calls Try.prog 21 #[.pointer (some ⟨q, 0, none⟩), .int .i64 xb, .int .i64 xc] W fun e w' => e = .returned (.int .i64 (betV s xb xc)) ∧ Upd (fun k => k = q) W w' ∧ SrcAt w' 42 q (betS s xb xc) (betC c xb xc) := fun W hu => rbetween_spec W q s c xb xc (hq.drew.upd hu (fun e => by have e : q = pp := e; omega)) (by omega) ibb ibc
        clear hs
        generalize hV : betV s xb xc = vv at HA HB
        generalize hS : betS s xb xc = s2 at HA HB
        generalize hC : betC c xb xc = c2 at HA HB hcb
        clear hV hS hC
        go_wp2_with fail
        go_region_held3 (fun W' => W'.cell? ⟨b1, o1 + k * 3 + 1, none⟩ = some (.int .i64 xb) ∧ W'.cell? ⟨b1, o1 + k * 3 + 2, none⟩ = some (.int .i64 xc))
          (first | exact S0 | exact Sa | exact Sb | go_keep)
          (first | (go_at_call 10; (with_reducible refine HA.mono ?_); rintro e w5 ⟨rfl, hu5, hs5⟩; have Sa := SA w5 hu5; have HB5 := HB w5 hu5) | (go_at_call 21; (with_reducible refine HB5.mono ?_); rintro e w6 ⟨rfl, hu6, hq6⟩; have Sb := SB w5 w6 hu5 hu6))
        all_goals (
          have hsN := hs5.upd hu6 (fun e => hpq e)
          have hqN := hq6
          have hsN' := trivial
          have huN : Upd Non w w6 := ((hur.drew).trans' hu5 fun x hx e => by have e : x = pp := e; omega).trans' hu6 fun x hx e => by have e : x = q := e; omega
          have t8 : ((vv : Int) != vv) = false := by simp
          have c23 := count_spec w6.drew pp _ _ (hsN.drew)
          have S9 : w6.drew.cell? ⟨q, 1, none⟩ = some (.int .i64 c2) := blk_at hqN.1 1
          have t9 : ((c2 : Int) != c2) = false := by simp
          clear hsN' 
          go_wp2_with fail
          go_region_held3 (fun W' => W'.cell? ⟨q, 1, none⟩ = some (.int .i64 c2))
            (first | exact S9 | go_keep)
            (first | (go_at_call 23; (with_reducible refine c23.mono ?_); rintro e w9 ⟨rfl, rfl⟩))
          all_goals (
            go_wp2
            go_roundw
            case rel => exact ⟨k + 1, pp, s2, c2, by omega, by go_num, rfl, hsN.drew, hqN.drew, hpq, hpw, by omega, by omega, huN.drew⟩
            case measure => simp [intOf]; omega))
      by_cases g4 : xa = 4
      · subst g4
        have HA := twin_spec wr pp s c hs
        have hws := hur.size
        have hqlt := blk_lt hq.1
        go_wp2_with fail
        refine HA.mono ?_
        rintro e w5 ⟨rfl, hu5, hs5⟩
        have hq5 := hq.upd hu5 id
        have hsP := hs.upd hu5 id
        have hpl := blk_lt hs.1
        have hu5' := hur.trans hu5
        generalize wr.heap.size = p2 at hs5 hws hqlt hpl ⊢
        clear HA
        go_wp2_with fail
        refine (next_spec w5 pp s c hsP (by omega)).mono ?_
        rintro e w6 ⟨rfl, hd6⟩
        have hsN := hs5.upd hd6.1 (fun e => by have e : p2 = pp := e; omega)
        have hqN := hq5.upd hd6.1 (fun e => by have e : q = pp := e; omega)
        have hsN' := trivial
        have huN : Upd Non w w6 := hu5'.trans' hd6.1 fun x hx e => by have e : x = pp := e; omega
        clear hs hq hs5 hq5 hsP hd6 hu5 hu5'
        have c23 := count_spec w6.drew p2 _ _ (hsN.drew)
        have S9 : w6.drew.cell? ⟨q, 1, none⟩ = some (.int .i64 c) := blk_at hqN.1 1
        have t9 : ((c : Int) != c) = false := by simp
        clear hsN' 
        go_wp2_with fail
        go_region_held3 (fun W' => W'.cell? ⟨q, 1, none⟩ = some (.int .i64 c))
          (first | exact S9 | go_keep)
          (first | (go_at_call 23; (with_reducible refine c23.mono ?_); rintro e w9 ⟨rfl, rfl⟩))
        all_goals (
          go_wp2
          go_roundw
          case rel => exact ⟨k + 1, p2, s, c, by omega, by go_num, rfl, hsN.drew, hqN.drew, by omega, by omega, by omega, by omega, huN.drew⟩
          case measure => simp [intOf]; omega)
      · have g1' : (xa == 1) = false := by simpa using g1
        have g2' : (xa == 2) = false := by simpa using g2
        have g3' : (xa == 3) = false := by simpa using g3
        have g4' : (xa == 4) = false := by simpa using g4
        have hsN := hs
        have hqN := hq
        have hsN' := trivial
        have c23 := count_spec wr.drew pp _ _ (hsN.drew)
        have S9 : wr.drew.cell? ⟨q, 1, none⟩ = some (.int .i64 c) := blk_at hqN.1 1
        have t9 : ((c : Int) != c) = false := by simp
        clear hsN' 
        go_wp2_with fail
        go_region_held3 (fun W' => W'.cell? ⟨q, 1, none⟩ = some (.int .i64 c))
          (first | exact S9 | go_keep)
          (first | (go_at_call 23; (with_reducible refine c23.mono ?_); rintro e w9 ⟨rfl, rfl⟩))
        all_goals (
          go_wp2
          go_roundw
          case rel => exact ⟨k + 1, pp, s, c, by omega, by go_num, rfl, hsN.drew, hqN.drew, hpq, hpw, by omega, by omega, hur.drew⟩
          case measure => simp [intOf]; omega)
    · obtain rfl : k = N := by omega
      go_wp2_with fail
      go_ret
      exact ⟨rfl, hur.below⟩
set_option maxRecDepth 100000 in
theorem drawsSource_lifted (os : Os) (started : os.Started) (H : Type) (enc : TypeId × Value → H) :
    ReturnsInHanded {} Try.checked os 5 .any (Rows.drawsSourceSpec.pre6 enc Try.prog Try.f5 Rows.drawsSourceRow.domain false) (Rows.drawsSourceSpec.post enc Try.prog Try.f5 false true false false) := by
  refine returnsInHanded_of_change_sized (C := Try.checked) own started (by kernel_rfl) Try.func5
    (ChangeSpec.witness6 (enc := enc) (C := Try.checked) false ⟨#[], #[.int .u64 0, .slice none 0 0], []⟩ 8 (by kernel_rfl) (by kernel_rfl) (by kernel_rfl) (by kernel_rfl)) ?_
  intro W base args ds gs before hval0 hW hcnd hsz0 _
  have hval : ∀ (j : Nat) t v, Try.f5.params[j]? = some t → args[j]? = some v → Value.okWide Try.prog W .any base t v := hval0
  have hW' := hW
  obtain ⟨p, q, hA0, hV, rfl, hfz, hnd⟩ := hW
  have hA : DataW.TrodAll enc Try.prog W 0 (fun _ => true) true Try.f5.params.toList args.toList ds p := hA0
  have hsz : (DataW.weightsEach Try.prog (Try.f5.params.toList ++ Rows.drawsSourceSpec.plain.varTypes Try.prog) (ds ++ gs)).all (· ≤ reachBytes) = true := hsz0
  rw [Try.params5] at hA hval hsz
  obtain ⟨v0, vs0, d0, ds0, p0, q0, hargs, rfl, rfl, h0, r0⟩ := trodAll_cons hA
  obtain ⟨v1, vs1, d1, ds1, p1, q1, rfl, rfl, rfl, h1, r1⟩ := trodAll_cons r0
  obtain ⟨rfl, rfl, rfl⟩ := trodAll_nil r1
  obtain rfl : args = #[v0, v1] := by cases args; simp_all
  obtain ⟨rfl, rfl⟩ := trodVars_none hV
  obtain ⟨n0, rfl, rfl, rfl, w0⟩ := open_int Try.underlying22 (hval 0 22 v0 rfl rfl) h0
  have b0 := bounds_u64 w0
  obtain ⟨a1, len1, cap1, rfl⟩ := okWide_slice Try.underlying39 (hval 1 39 v1 rfl rfl)
  have lt1 : ∀ x ∈ p1, x.block < W.heap.size := by obtain ⟨m, hm⟩ := h1; exact DataW.trod_lt m _ _ _ hm
  obtain ⟨x1, hx1, lx1⟩ := open_arg opens_d44 Try.underlying39 (by kernel_rfl) rfl h1 (weights_of hsz (j := 1) rfl rfl)
  rw [show Try.prog.bytesOf 44 = 24 from by kernel_rfl] at lx1
  simp only [reachBytes] at lx1
  clear hA0 hval0
  refine (source_walk W n0 _ x1 b0 hx1).mono fun e W' ⟨he, bel⟩ => ?_
  subst he
  exact ⟨_, rfl, _, _, _, [], _, [], hW', trodAll_mk1 (shut_bool Try.underlying4 _), (trodAll_cons_mk (shut_int Try.underlying22 w0) (trodAll_cons_mk (Below.trod laidOut (by kernel_rfl) (of_decide_eq_true (by kernel_rfl)) h1 bel lt1) trodAll_mk0)), rfl, bel.frame _, fun h => by cases h⟩

theorem drawsSource_over : Rows.drawsSourceRow.holds Try.pinned (OpenSpec.ofChange Rows.drawsSourceSpec) :=
  OpenClaim.holds_of_wide 5 Try.f5 rfl rfl rfl rfl rfl rfl rfl ⟨rfl, rfl, rfl, rfl, rfl⟩ rfl rfl rfl rfl rfl (by kernel_rfl) Try.func5 (by kernel_rfl)
    (of_decide_eq_true (by kernel_rfl)) (by unfold Func.isWrapper; first | (rw [if_pos (by decide +kernel)]; kernel_rfl) | (rw [if_neg (by decide +kernel)]; exact ⟨rfl, rfl⟩))
    (fun os started H enc _ => drawsSource_lifted os started H enc)

theorem drawsSource_holds : Rows.DrawsSourceSaid := drawsSource_over
#print axioms drawsSource_holds

end Go.Proofs.Ytgjikmpeeipboaa
