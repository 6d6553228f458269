/-
  A twin of a source goes the same way, whatever the other does: the law DrawsTwins returns true at every input.
-/
import Derived.Test.YtgjikmpeeipboaaO1
namespace Go.Proofs.Ytgjikmpeeipboaa
open Go.ChangeShapes Go.WideShapes Go.ChangeAt Go.RowKit
/-- the state behind k draws -/
def itU : Nat → Int → Int
  | 0, s => s
  | k + 1, s => stepU (itU k s)
def rowU (a : Nat) (s : Int) (k : Nat) : List Int := (List.range k).map fun i => mixU (itU (a + i + 1) s)
theorem rowU_step (a : Nat) (s : Int) (k : Nat) : rowU a s (k + 1) = rowU a s k ++ [mixU (stepU (itU (a + k) s))] := by
  simp only [rowU, List.range_succ, List.map_append, List.map_cons, List.map_nil]
  rfl
theorem rowU_len (a : Nat) (s : Int) (k : Nat) : (rowU a s k).length = k := by simp [rowU]
theorem rowU_get (a : Nat) (s : Int) (n k : Nat) (h : k < (rowU a s n).length) : (rowU a s n)[k] = mixU (stepU (itU (a + k) s)) := by
  simp only [rowU, List.getElem_map, List.getElem_range]
  rfl
def u64E : Elt Int where
  sz := 1
  ok := fun _ _ x l => l = [.int .u64 x]
  len := fun h => by rw [h]; rfl
  one := fun h u hu => by rw [h] at hu; simp at hu; subst hu; rfl
  keep := fun _ h => h
  mono := fun _ h => h
theorem Rd.u64 {w : World} {F : Nat → Prop} {v : Value} {xs : List Int} (h : Rd u64E w F v xs) {k : Nat} (hk : k < xs.length) : ∃ b o c, v = .slice (some ⟨b, o, none⟩) xs.length c ∧ xs.length ≤ c ∧ F b ∧ w.cell? ⟨b, o + k, none⟩ = some (.int .u64 xs[k]) := by
  obtain ⟨b, o, c, l, hv, hc, hf, hl, hg⟩ := h.get hk (by decide)
  have hl : l = [.int .u64 xs[k]] := hl
  subst hl
  exact ⟨b, o, c, hv, hc, hf, by simpa [u64E] using hg 0 (by decide)⟩
theorem info22 : (Try.prog.info? 22).map (fun i => (i.zero, i.size, i.bytes)) = some (some (.int .u64 0), 1, 8) := by kernel_rfl
set_option maxRecDepth 100000 in
set_option maxHeartbeats 1000000 in
theorem twins_walk (w : World) (sd ah n : Int) (bs : 0 ≤ sd ∧ sd ≤ 18446744073709551615) (ba : IB ah) (bn : IB n) :
    Calls Try.prog 6 #[.int .u64 sd, .int .i64 ah, .int .i64 n] w fun e w' => e = .returned (.bool true) ∧ RowKit.Below w.heap.size w w' := by
  unfold IB at ba bn
  by_cases h1 : ah < 0
  · have t1 : decide (ah < 0) = true := decide_eq_true h1
    go_enter Try.func6, Try.ntmps6
    go_wp2_with ((with_reducible refine (known_spec w).mono ?_); rintro e w1 ⟨rfl, hu1⟩)
    go_ret
    exact ⟨rfl, hu1.below⟩
  by_cases h2 : 500 < ah
  · have t1 : decide (ah < 0) = false := decide_eq_false h1
    have t2 : decide (500 < ah) = true := decide_eq_true h2
    go_enter Try.func6, Try.ntmps6
    go_wp2_with ((with_reducible refine (known_spec w).mono ?_); rintro e w1 ⟨rfl, hu1⟩)
    go_ret
    exact ⟨rfl, hu1.below⟩
  by_cases h3 : n < 0
  · have t1 : decide (ah < 0) = false := decide_eq_false h1
    have t2 : decide (500 < ah) = false := decide_eq_false h2
    have t3 : decide (n < 0) = true := decide_eq_true h3
    go_enter Try.func6, Try.ntmps6
    go_wp2_with ((with_reducible refine (known_spec w).mono ?_); rintro e w1 ⟨rfl, hu1⟩)
    go_ret
    exact ⟨rfl, hu1.below⟩
  by_cases h4 : 200 < n
  · have t1 : decide (ah < 0) = false := decide_eq_false h1
    have t2 : decide (500 < ah) = false := decide_eq_false h2
    have t3 : decide (n < 0) = false := decide_eq_false h3
    have t4 : decide (200 < n) = true := decide_eq_true h4
    go_enter Try.func6, Try.ntmps6
    go_wp2_with ((with_reducible refine (known_spec w).mono ?_); rintro e w1 ⟨rfl, hu1⟩)
    go_ret
    exact ⟨rfl, hu1.below⟩
  obtain ⟨a, rfl⟩ : ∃ a : Nat, ah = a := ⟨ah.toNat, by omega⟩
  obtain ⟨m, rfl⟩ : ∃ m : Nat, n = m := ⟨n.toNat, by omega⟩
  have ha : a ≤ 500 := by omega
  have hm : m ≤ 200 := by omega
  have t1 : decide ((a : Int) < 0) = false := decide_eq_false h1
  have t2 : decide ((500 : Int) < a) = false := decide_eq_false h2
  have t3 : decide ((m : Int) < 0) = false := decide_eq_false h3
  have t4 : decide ((200 : Int) < m) = false := decide_eq_false h4
  go_enter Try.func6, Try.ntmps6
  go_wp2_with ((with_reducible refine (known_spec w).mono ?_); rintro e w1 ⟨rfl, hu1⟩)
  refine (new_spec w1 sd bs).mono ?_
  rintro e w2 ⟨rfl, hu2, hs2⟩
  have hux := hu1.trans hu2
  have hp := hu1.size
  generalize w1.heap.size = p at hs2 hp ⊢
  clear hu1 hu2 t1 t2 t3 t4
  go_wp2_with fail
  go_loopw [8] (fun i wr => ∃ k : Nat, k ≤ a ∧ i = .int .i64 k ∧ SrcAt wr 61 p (itU k sd) k ∧ Upd Non w wr) (fun i _ => a - (intOf i).toNat)
  case atStart => exact ⟨0, by omega, rfl, hs2, hux⟩
  case round =>
    obtain ⟨k, hk, rfl, hs, hur⟩ := hrel
    by_cases hkl : k < a
    · go_wp2_with fail
      refine (next_spec wr p _ _ hs (by omega)).mono ?_
      rintro e w3 ⟨rfl, hu3, hs3⟩
      go_wp2_with fail
      go_roundw
      case rel => exact ⟨k + 1, by omega, by go_num, by simpa [itU] using hs3, hur.trans' hu3 fun x hx e => by have e : x = p := e; omega⟩
      case measure => simp [intOf]; omega
    · obtain rfl : k = a := by omega
      go_wp2_with fail
      refine (twin_spec wr p _ _ hs).mono ?_
      rintro e w3 ⟨rfl, hu3, hq3⟩
      have hs3 := hs.upd hu3 id
      have hpq : p < wr.heap.size := blk_lt hs.1
      have hq : w.heap.size ≤ wr.heap.size := hur.size
      have hu0 := hur.trans hu3
      generalize wr.heap.size = q at hq3 hpq hq ⊢
      clear hur hu3 hs hs2 hux
      have hqlt := blk_lt hq3.1
      go_wp2_with fail
      refine (count_spec w3 q _ _ hq3).mono ?_
      rintro e w4 ⟨rfl, rfl⟩
      go_wp2_with fail
      refine (count_spec w3 p _ _ hs3).mono ?_
      rintro e w4 ⟨rfl, rfl⟩
      go_wp2_with fail
      go_loopw [10, 11] (fun l i wr => ∃ j : Nat, j ≤ m ∧ i = .int .i64 j ∧ SrcAt wr 61 p (itU (k + j) sd) (k + j) ∧ SrcAt wr 61 q (itU k sd) k ∧ Own u64E 22 wr (New w3 wr) l (rowU k sd j) ∧ Upd (fun x => x = p) w3 wr) (fun _ i _ => m - (intOf i).toNat)
      case atStart => exact ⟨0, by omega, rfl, by simpa using hs3, hq3, Own.nil _ _ _ _, Upd.refl _ _⟩
      case round =>
        obtain ⟨j, hj, rfl, hs4, hq4, ho, hur⟩ := hrel
        by_cases hjl : j < m
        · have hsr := hur.size
          go_wp2_with fail
          refine (next_spec wr p _ _ hs4 (by omega)).mono ?_
          rintro e w5 ⟨rfl, hu5, hs5⟩
          have hs5z := hu5.size
          have hFr : Fr wr (fun x => x = p) (New w3 wr) := fun x hx => ⟨hx.2, fun e => by have := hx.1; have e : x = p := e; omega⟩
          have ho5 := (ho.upd hu5 hFr).mono (G := New w3 w5) fun x hx => ⟨hx.1, by have := hx.2; omega⟩
          have hal : Own u64E 22 (w5.alloc (.cells #[.int .u64 (mixU (stepU (itU (k + j) sd)))] 22)) (New w3 w5) u10 (rowU k sd j) := ho5.alloc Fin.new _
          have hat : At (w5.alloc (.cells #[.int .u64 (mixU (stepU (itU (k + j) sd)))] 22)) (fun x => x = w5.heap.size) (some ⟨w5.heap.size, 0, none⟩) [.int .u64 (mixU (stepU (itU (k + j) sd)))] := at_box w5 #[.int .u64 (mixU (stepU (itU (k + j) sd)))] 22
          have hFw : Fin (w5.alloc (.cells #[.int .u64 (mixU (stepU (itU (k + j) sd)))] 22)) (New w3 w5) := fun x hx => by have := hx.2; simp; omega
          have hstep := rowU_step k sd j
          have hrl := rowU_len k sd j
          have hu6 : Upd (fun x => x = p) w3 (w5.alloc (.cells #[.int .u64 (mixU (stepU (itU (k + j) sd)))] 22)) := (hur.trans hu5).alloc _
          have hu7 : Upd Non w5 (w5.alloc (.cells #[.int .u64 (mixU (stepU (itU (k + j) sd)))] 22)) := (Upd.refl _ _).alloc _
          have hsz7 : (w5.alloc (.cells #[.int .u64 (mixU (stepU (itU (k + j) sd)))] 22)).heap.size = w5.heap.size + 1 := by simp
          have hnx : itU (k + (j + 1)) sd = stepU (itU (k + j) sd) := rfl
          have hq5 := hq4.upd hu5 (by intro e; have e : q = p := e; omega)
          have HS := Lib.hid (And.intro hstep hnx)
          clear hstep hnx
          generalize mixU (stepU (itU (k + j) sd)) = mx at hal hat hFw HS hu6 hu7 hsz7 ⊢
          go_wp2_with (at_builtin; refine wpList_append (E := u64E) (e := 22) (F := New w3 w5) (ys := [mx]) _ rfl (.tmp 56) (.tmp 59) 48 rfl (.int .u64 0) 8 Try.underlying48 info22 rfl (by decide) rfl hal (some ⟨w5.heap.size, 0, none⟩) 1 rfl [.int .u64 mx] Non hat ⟨[.int .u64 mx], [], rfl, rfl, rfl⟩ (fun x h => h.elim) hFw (by rw [maxLen_eq, hrl]; simp; omega) (by rw [hrl]; simp; omega) ?_; intro v' w6 hu' ho')
          go_roundw
          case rel =>
            have h1 := HS.out.1
            have h2 := HS.out.2
            refine ⟨j + 1, by omega, by go_num, ?_, ?_, ?_, hu6.trans' hu' fun x hx h => by have := h.1; omega⟩
            · have := (hs5.upd hu7 id).upd hu' (fun h => by have := h.1; omega)
              rw [h2]
              simpa [Int.add_assoc] using this
            · exact (hq5.upd hu7 id).upd hu' (fun h => by have := h.1; omega)
            · rw [h1]
              refine ho'.mono fun x hx => ?_
              have hsu := hu'.size
              rcases hx with hx | hx | hx
              · exact ⟨hx.1, by have := hx.2; omega⟩
              · exact hx.elim
              · exact ⟨by have := hx.1; omega, hx.2⟩
          case measure => simp [intOf]; omega
        · obtain rfl : j = m := by omega
          go_wp2_with fail
          refine (next_spec wr p _ _ hs4 (by omega)).mono ?_
          rintro e w5 ⟨rfl, hu5, hs5⟩
          have hFr : Fr wr (fun x => x = p) (New w3 wr) := fun x hx => ⟨hx.2, fun e => by have := hx.1; have e : x = p := e; omega⟩
          have hrd := (ho.upd hu5 hFr).rd
          have hq5 := hq4.upd hu5 (by intro e; have e : q = p := e; omega)
          have hu6 : Upd Non w w5 := (hu0.trans' hur fun x hx e => by have e : x = p := e; omega).trans' hu5 fun x hx e => by have e : x = p := e; omega
          have hFn : Fin w5 (New w3 wr) := fun x hx => by have := hx.2; have := hu5.size; omega
          have hrl := rowU_len k sd j
          have hsr := hur.size
          clear hs4 hq4 ho hur hu5 hs3 hq3 hu0 hFr
          obtain ⟨w3', hw3'⟩ : ∃ W, W = wr := ⟨_, rfl⟩
          subst hw3'
          go_wp2_with fail
          go_loopw [12] (fun i wr => ∃ x : Nat, x ≤ j ∧ i = .int .i64 x ∧ SrcAt wr 61 q (itU (k + x) sd) (k + x) ∧ Upd (fun y => y = q) w5 wr) (fun i _ => j - (intOf i).toNat)
          case atStart => exact ⟨0, by omega, rfl, by simpa using hq5, Upd.refl _ _⟩
          case round =>
            obtain ⟨x, hx, rfl, hq6, hur⟩ := hrel
            by_cases hxl : x < j
            · have hFq : Fr w5 (fun y => y = q) (New w3 w3') := fun y hy => ⟨hFn y hy, fun e => by have := hy.1; have e : y = q := e; omega⟩
              obtain ⟨b1, o1, c1, e1, _, hF1, m0⟩ := (hrd.upd hur hFq).u64 (k := x) (by rw [hrl]; exact hxl)
              cases e1
              rw [rowU_get] at m0
              have HN := next_spec wr.drew q _ _ hq6.drew (by omega)
              have hb1 : b1 < wr.heap.size := World.block_lt_of_cell? wr _ m0
              have hb2 : b1 ≠ q := by have := hF1.1; omega
              have S0 : wr.drew.cell? ⟨b1, o1 + x, none⟩ = some (.int .u64 (mixU (stepU (itU (k + x) sd)))) := m0
              have SA : ∀ W, Drawn wr.drew 61 q (itU (k + x) sd) (k + x) W → W.cell? ⟨b1, o1 + x, none⟩ = some (.int .u64 (mixU (stepU (itU (k + x) sd)))) := fun W hW => (hW.1.cell (p := ⟨b1, o1 + x, none⟩) hb1 hb2).trans S0
              have hnx : itU (k + (x + 1)) sd = stepU (itU (k + x) sd) := rfl
              have HS := Lib.hid hnx
              clear hnx
              rw [hrl]
              go_wp2_with fail
              go_region_held3 (fun W' => W'.cell? ⟨b1, o1 + x, none⟩ = some (.int .u64 (mixU (stepU (itU (k + x) sd)))))
                (first | exact S0 | exact Sa | go_keep)
                (first | (go_at_call 18; (with_reducible refine HN.mono ?_); rintro e w7 ⟨rfl, hd⟩; have Sa := SA w7 hd))
              all_goals (
                go_wp2
                go_roundw
                case rel => exact ⟨x + 1, by omega, by go_num, by rw [HS.out]; simpa [Int.add_assoc] using hd.2, (hur.drew).trans hd.1⟩
                case measure => simp [intOf]; omega)
            · obtain rfl : x = j := by omega
              have hs7 := hs5.upd hur (fun e => by have e : p = q := e; omega)
              have huf : Upd Non w wr := hu6.trans' hur fun y hy e => by have e : y = q := e; omega
              have H1 := count_spec wr p _ _ hs7
              have H2 := count_spec wr q _ _ hq6
              have e0 : ((k : Int) + (x : Int) + 1 == (k : Int) + (x : Int) + 1) = true := by simp
              have e1 : ((k : Int) + (x : Int) == (k : Int) + (x : Int)) = true := by simp
              go_wp2_with fail
              refine H1.mono ?_
              rintro e w7 ⟨rfl, rfl⟩
              go_wp2_with fail
              refine H2.mono ?_
              rintro e w7 ⟨rfl, rfl⟩
              go_wp2_with fail
              go_ret
              exact ⟨rfl, huf.below⟩
set_option maxRecDepth 100000 in
theorem drawsTwins_lifted (os : Os) (started : os.Started) (H : Type) (enc : TypeId × Value → H) :
    ReturnsInHanded {} Try.checked os 6 .any (Rows.drawsTwinsSpec.pre6 enc Try.prog Try.f6 Rows.drawsTwinsRow.domain false) (Rows.drawsTwinsSpec.post enc Try.prog Try.f6 false true false false) := by
  refine returnsInHanded_of_change_sized (C := Try.checked) own started (by kernel_rfl) Try.func6
    (ChangeSpec.witness6 (enc := enc) (C := Try.checked) false ⟨#[], #[.int .u64 0, .int .i64 0, .int .i64 0], []⟩ 8 (by kernel_rfl) (by kernel_rfl) (by kernel_rfl) (by kernel_rfl)) ?_
  intro W base args ds gs before hval0 hW hcnd hsz0 _
  have hval : ∀ (j : Nat) t v, Try.f6.params[j]? = some t → args[j]? = some v → Value.okWide Try.prog W .any base t v := hval0
  have hW' := hW
  obtain ⟨p, q, hA0, hV, rfl, hfz, hnd⟩ := hW
  have hA : DataW.TrodAll enc Try.prog W 0 (fun _ => true) true Try.f6.params.toList args.toList ds p := hA0
  have hsz : (DataW.weightsEach Try.prog (Try.f6.params.toList ++ Rows.drawsTwinsSpec.plain.varTypes Try.prog) (ds ++ gs)).all (· ≤ reachBytes) = true := hsz0
  rw [Try.params6] at hA hval hsz
  obtain ⟨v0, vs0, d0, ds0, p0, q0, hargs, rfl, rfl, h0, r0⟩ := trodAll_cons hA
  obtain ⟨v1, vs1, d1, ds1, p1, q1, rfl, rfl, rfl, h1, r1⟩ := trodAll_cons r0
  obtain ⟨v2, vs2, d2, ds2, p2, q2, rfl, rfl, rfl, h2, r2⟩ := trodAll_cons r1
  obtain ⟨rfl, rfl, rfl⟩ := trodAll_nil r2
  obtain rfl : args = #[v0, v1, v2] := by cases args; simp_all
  obtain ⟨rfl, rfl⟩ := trodVars_none hV
  obtain ⟨n0, rfl, rfl, rfl, w0⟩ := open_int Try.underlying22 (hval 0 22 v0 rfl rfl) h0
  have b0 := bounds_u64 w0
  obtain ⟨n1, rfl, rfl, rfl, w1⟩ := open_int Try.underlying3 (hval 1 3 v1 rfl rfl) h1
  have b1 := bounds_i64 w1
  obtain ⟨n2, rfl, rfl, rfl, w2⟩ := open_int Try.underlying3 (hval 2 3 v2 rfl rfl) h2
  have b2 := bounds_i64 w2
  clear hA0 hval0
  refine (twins_walk W n0 n1 n2 b0 b1 b2).mono fun e W' ⟨he, bel⟩ => ?_
  subst he
  exact ⟨_, rfl, _, _, _, [], _, [], hW', trodAll_mk1 (shut_bool Try.underlying4 _), (trodAll_cons_mk (shut_int Try.underlying22 w0) (trodAll_cons_mk (shut_int Try.underlying3 w1) (trodAll_cons_mk (shut_int Try.underlying3 w2) trodAll_mk0))), rfl, bel.frame _, fun h => by cases h⟩

theorem drawsTwins_over : Rows.drawsTwinsRow.holds Try.pinned (OpenSpec.ofChange Rows.drawsTwinsSpec) :=
  OpenClaim.holds_of_wide 6 Try.f6 rfl rfl rfl rfl rfl rfl rfl ⟨rfl, rfl, rfl, rfl, rfl⟩ rfl rfl rfl rfl rfl (by kernel_rfl) Try.func6 (by kernel_rfl)
    (of_decide_eq_true (by kernel_rfl)) (by unfold Func.isWrapper; first | (rw [if_pos (by decide +kernel)]; kernel_rfl) | (rw [if_neg (by decide +kernel)]; exact ⟨rfl, rfl⟩))
    (fun os started H enc _ => drawsTwins_lifted os started H enc)

theorem drawsTwins_holds : Rows.DrawsTwinsSaid := drawsTwins_over
#print axioms drawsTwins_holds

end Go.Proofs.Ytgjikmpeeipboaa
