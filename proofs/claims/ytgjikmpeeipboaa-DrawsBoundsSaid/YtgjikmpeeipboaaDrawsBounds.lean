/-
  A number that is drawn between two is between them, one below a bound is below it: the law DrawsBounds returns true at every input.
-/
import Derived.Test.YtgjikmpeeipboaaO1
namespace Go.Proofs.Ytgjikmpeeipboaa
open Go.ChangeShapes Go.WideShapes Go.ChangeAt Go.RowKit
theorem betV_ge (s lo hi : Int) : ¬ betV s lo hi < lo := by
  unfold betV
  split
  · rename_i h
    obtain ⟨h1, h2, h3, h4⟩ := h
    have := belowV_b s (hi - lo + 1) (by omega)
    omega
  · omega
theorem betV_le (s lo hi : Int) (h : lo ≤ hi) : ¬ hi < betV s lo hi := by
  unfold betV
  split
  · have := belowV_b s (hi - lo + 1) (by omega)
    omega
  · omega
set_option maxRecDepth 100000 in
set_option maxHeartbeats 1000000 in
theorem bounds_walk (w : World) (sd lo hi n : Int) (bs : 0 ≤ sd ∧ sd ≤ 18446744073709551615) (bl : IB lo) (bh : IB hi) (bn : IB n) :
    Calls Try.prog 3 #[.int .u64 sd, .int .i64 lo, .int .i64 hi, .int .i64 n] w fun e w' => e = .returned (.bool true) ∧ RowKit.Below w.heap.size w w' := by
  have bl' := bl
  have bh' := bh
  have bn' := bn
  unfold IB at bl' bh' bn'
  go_enter Try.func3, Try.ntmps3
  go_wp2_with fail
  refine (known_spec w).mono ?_
  rintro e w1 ⟨rfl, hu1⟩
  go_wp2_with fail
  refine (new_spec w1 sd bs).mono ?_
  rintro e w2 ⟨rfl, hu2, hs2⟩
  have hux := hu1.trans hu2
  have hp := hu1.size
  generalize w1.heap.size = p at hs2 hp ⊢
  clear hu1 hu2
  go_wp2_with fail
  go_loopw [10] (fun i wr => ∃ (k : Nat) (s c : Int), k ≤ 20 ∧ i = .int .i64 k ∧ SrcAt wr 61 p s c ∧ 0 ≤ c ∧ c ≤ 2 * k ∧ Upd Non w wr) (fun i _ => 20 - (intOf i).toNat)
  case atStart => exact ⟨0, sd, 0, by omega, rfl, hs2, by omega, by omega, hux⟩
  case round =>
    obtain ⟨k, s, c, hk, rfl, hs, hc0, hc1, hur⟩ := hrel
    by_cases hkl : k < 20
    · go_wp2_with fail
      refine (between_spec wr p s c lo hi hs ⟨hc0, by omega⟩ bl bh).mono ?_
      rintro e w3 ⟨rfl, hu3, hs3⟩
      have hc3 : 0 ≤ betC c lo hi ∧ betC c lo hi ≤ c + 1 := by unfold betC; split <;> omega
      have g1 := betV_ge s lo hi
      have g2 := betV_le s lo hi
      generalize betV s lo hi = v at g1 g2 ⊢
      generalize betS s lo hi = s3 at hs3
      generalize betC c lo hi = c3 at hs3 hc3
      go_wp2_with fail
      refine (below_spec w3 p s3 c3 n hs3 ⟨hc3.1, by omega⟩ bn'.2).mono ?_
      rintro e w4 ⟨rfl, hu4, hs4⟩
      have hc4 : 0 ≤ belowC c3 n ∧ belowC c3 n ≤ c3 + 1 := by unfold belowC; split <;> omega
      have g3 : (1 ≤ n → 0 ≤ belowV s3 n ∧ belowV s3 n < n) ∧ (n < 1 → belowV s3 n = 0) := ⟨belowV_b s3 n, fun h => by rw [belowV, if_pos h]⟩
      generalize belowV s3 n = u at g3 ⊢
      generalize belowS s3 n = s4 at hs4
      generalize belowC c3 n = c4 at hs4 hc4
      have hu5 : Upd Non w w4 := (hur.trans' hu3 fun x hx e => by have e : x = p := e; omega).trans' hu4 fun x hx e => by have e : x = p := e; omega
      have t1 : decide (v < lo) = false := decide_eq_false (by omega)
      by_cases h1 : lo ≤ hi <;> by_cases h2 : 1 ≤ n
      · have t2 : decide (lo ≤ hi) = true := decide_eq_true h1
        have t3 : decide (hi < v) = false := decide_eq_false (by have := g2 h1; omega)
        have t4 : decide (u < 0) = false := decide_eq_false (by have := g3.1 h2; omega)
        have t5 : decide (0 < n) = true := decide_eq_true (by omega)
        have t6 : decide (n ≤ u) = false := decide_eq_false (by have := g3.1 h2; omega)
        have t7 : decide (n < 1) = false := decide_eq_false (by omega)
        clear g1 g2 g3
        go_wp2_with fail
        go_roundw
        case rel => exact ⟨k + 1, s4, c4, by omega, by go_num, hs4, hc4.1, by omega, hu5⟩
        case measure => simp [intOf]; omega
      · obtain rfl := g3.2 (by omega)
        have t2 : decide (lo ≤ hi) = true := decide_eq_true h1
        have t3 : decide (hi < v) = false := decide_eq_false (by have := g2 h1; omega)
        have t5 : decide (0 < n) = false := decide_eq_false (by omega)
        have t7 : decide (n < 1) = true := decide_eq_true (by omega)
        clear g1 g2 g3
        go_wp2_with fail
        go_roundw
        case rel => exact ⟨k + 1, s4, c4, by omega, by go_num, hs4, hc4.1, by omega, hu5⟩
        case measure => simp [intOf]; omega
      · have t2 : decide (lo ≤ hi) = false := decide_eq_false h1
        have t4 : decide (u < 0) = false := decide_eq_false (by have := g3.1 h2; omega)
        have t5 : decide (0 < n) = true := decide_eq_true (by omega)
        have t6 : decide (n ≤ u) = false := decide_eq_false (by have := g3.1 h2; omega)
        have t7 : decide (n < 1) = false := decide_eq_false (by omega)
        clear g1 g2 g3
        go_wp2_with fail
        go_roundw
        case rel => exact ⟨k + 1, s4, c4, by omega, by go_num, hs4, hc4.1, by omega, hu5⟩
        case measure => simp [intOf]; omega
      · obtain rfl := g3.2 (by omega)
        have t2 : decide (lo ≤ hi) = false := decide_eq_false h1
        have t5 : decide (0 < n) = false := decide_eq_false (by omega)
        have t7 : decide (n < 1) = true := decide_eq_true (by omega)
        clear g1 g2 g3
        go_wp2_with fail
        go_roundw
        case rel => exact ⟨k + 1, s4, c4, by omega, by go_num, hs4, hc4.1, by omega, hu5⟩
        case measure => simp [intOf]; omega
    · obtain rfl : k = 20 := by omega
      go_wp2_with fail
      go_ret
      exact ⟨rfl, hur.below⟩
set_option maxRecDepth 100000 in
theorem drawsBounds_lifted (os : Os) (started : os.Started) (H : Type) (enc : TypeId × Value → H) :
    ReturnsInHanded {} Try.checked os 3 .any (Rows.drawsBoundsSpec.pre6 enc Try.prog Try.f3 Rows.drawsBoundsRow.domain false) (Rows.drawsBoundsSpec.post enc Try.prog Try.f3 false true false false) := by
  refine returnsInHanded_of_change_sized (C := Try.checked) own started (by kernel_rfl) Try.func3
    (ChangeSpec.witness6 (enc := enc) (C := Try.checked) false ⟨#[], #[.int .u64 0, .int .i64 0, .int .i64 0, .int .i64 0], []⟩ 8 (by kernel_rfl) (by kernel_rfl) (by kernel_rfl) (by kernel_rfl)) ?_
  intro W base args ds gs before hval0 hW hcnd hsz0 _
  have hval : ∀ (j : Nat) t v, Try.f3.params[j]? = some t → args[j]? = some v → Value.okWide Try.prog W .any base t v := hval0
  have hW' := hW
  obtain ⟨p, q, hA0, hV, rfl, hfz, hnd⟩ := hW
  have hA : DataW.TrodAll enc Try.prog W 0 (fun _ => true) true Try.f3.params.toList args.toList ds p := hA0
  have hsz : (DataW.weightsEach Try.prog (Try.f3.params.toList ++ Rows.drawsBoundsSpec.plain.varTypes Try.prog) (ds ++ gs)).all (· ≤ reachBytes) = true := hsz0
  rw [Try.params3] at hA hval hsz
  obtain ⟨v0, vs0, d0, ds0, p0, q0, hargs, rfl, rfl, h0, r0⟩ := trodAll_cons hA
  obtain ⟨v1, vs1, d1, ds1, p1, q1, rfl, rfl, rfl, h1, r1⟩ := trodAll_cons r0
  obtain ⟨v2, vs2, d2, ds2, p2, q2, rfl, rfl, rfl, h2, r2⟩ := trodAll_cons r1
  obtain ⟨v3, vs3, d3, ds3, p3, q3, rfl, rfl, rfl, h3, r3⟩ := trodAll_cons r2
  obtain ⟨rfl, rfl, rfl⟩ := trodAll_nil r3
  obtain rfl : args = #[v0, v1, v2, v3] := by cases args; simp_all
  obtain ⟨rfl, rfl⟩ := trodVars_none hV
  obtain ⟨n0, rfl, rfl, rfl, w0⟩ := open_int Try.underlying22 (hval 0 22 v0 rfl rfl) h0
  have b0 := bounds_u64 w0
  obtain ⟨n1, rfl, rfl, rfl, w1⟩ := open_int Try.underlying3 (hval 1 3 v1 rfl rfl) h1
  have b1 := bounds_i64 w1
  obtain ⟨n2, rfl, rfl, rfl, w2⟩ := open_int Try.underlying3 (hval 2 3 v2 rfl rfl) h2
  have b2 := bounds_i64 w2
  obtain ⟨n3, rfl, rfl, rfl, w3⟩ := open_int Try.underlying3 (hval 3 3 v3 rfl rfl) h3
  have b3 := bounds_i64 w3
  clear hA0 hval0
  refine (bounds_walk W n0 n1 n2 n3 b0 b1 b2 b3).mono fun e W' ⟨he, bel⟩ => ?_
  subst he
  exact ⟨_, rfl, _, _, _, [], _, [], hW', trodAll_mk1 (shut_bool Try.underlying4 _), (trodAll_cons_mk (shut_int Try.underlying22 w0) (trodAll_cons_mk (shut_int Try.underlying3 w1) (trodAll_cons_mk (shut_int Try.underlying3 w2) (trodAll_cons_mk (shut_int Try.underlying3 w3) trodAll_mk0)))), rfl, bel.frame _, fun h => by cases h⟩

theorem drawsBounds_over : Rows.drawsBoundsRow.holds Try.pinned (OpenSpec.ofChange Rows.drawsBoundsSpec) :=
  OpenClaim.holds_of_wide 3 Try.f3 rfl rfl rfl rfl rfl rfl rfl ⟨rfl, rfl, rfl, rfl, rfl⟩ rfl rfl rfl rfl rfl (by kernel_rfl) Try.func3 (by kernel_rfl)
    (of_decide_eq_true (by kernel_rfl)) (by unfold Func.isWrapper; first | (rw [if_pos (by decide +kernel)]; kernel_rfl) | (rw [if_neg (by decide +kernel)]; exact ⟨rfl, rfl⟩))
    (fun os started H enc _ => drawsBounds_lifted os started H enc)

theorem drawsBounds_holds : Rows.DrawsBoundsSaid := drawsBounds_over
#print axioms drawsBounds_holds

end Go.Proofs.Ytgjikmpeeipboaa
