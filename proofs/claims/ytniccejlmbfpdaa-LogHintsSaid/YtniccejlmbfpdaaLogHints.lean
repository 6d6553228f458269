/-
  LogHints, whatever row of entries and place: the law returns true and leaves its arguments as they were.
-/
import Derived.Test.YtniccejlmbfpdaaR7
import Derived.Test.YtniccejlmbfpdaaBase2
namespace Go.Proofs.Ytniccejlmbfpdaa
open Go.ChangeShapes Go.WideShapes Go.ChangeAt Go.RowKit
attribute [local go_sem] max2_int min2_int max_two min_two

theorem rises_mono : ∀ (l : List Ent) (t : Int), 1 ≤ t → rises t l = true → ∀ (m : Nat) (h : m < l.length), t ≤ l[m].1
  | [], _, _, _, m, h => absurd h (by simp)
  | e :: l, t, ht, hr, m, h => by
    simp only [rises, Bool.and_eq_true, Bool.not_eq_true', decide_eq_false_iff_not] at hr
    match m with
    | 0 => show t ≤ e.1; omega
    | m + 1 =>
      have hml : m < l.length := by simpa using h
      have := rises_mono l e.1 (by omega) hr.2 m hml
      show t ≤ l[m].1
      omega
theorem newOk_facts {i t : Int} {l : List Ent} (h : newOk i t l = true) : 0 ≤ i ∧ 0 ≤ t ∧ ∀ (m : Nat) (h : m < l.length), 1 ≤ l[m].1 := by
  simp only [newOk, Bool.and_eq_true, Bool.not_eq_true', decide_eq_false_iff_not] at h
  refine ⟨by omega, by omega, fun m hm => ?_⟩
  have := rises_mono l (max t 1) (by omega) h.2 m hm
  omega
theorem runK_le (es : List Ent) (u : Int) : ∀ m, runK es u m ≤ m
  | 0 => Nat.le_refl _
  | m + 1 => by
    have := runK_le es u m
    simp only [runK]
    split <;> omega
theorem runK_all (es : List Ent) (u : Int) : ∀ (m j : Nat), runK es u m ≤ j → j < m → (es[j]?.map (·.1)) = some u
  | 0, _, _, h => absurd h (by omega)
  | m + 1, j, h1, h2 => by
    simp only [runK] at h1
    split at h1
    · rename_i hm
      rcases Nat.lt_or_ge j m with h | h
      · exact runK_all es u m j h1 h
      · obtain rfl : j = m := by omega
        exact hm
    · omega
theorem runK_stop (es : List Ent) (u : Int) : ∀ (m : Nat), 0 < runK es u m → (es[runK es u m - 1]?.map (·.1)) ≠ some u
  | 0, h => absurd h (by simp [runK])
  | m + 1, h => by
    simp only [runK] at h ⊢
    split
    · rename_i hm
      rw [if_pos hm] at h
      exact runK_stop es u m h
    · rename_i hm
      exact hm

set_option maxHeartbeats 4000000 in
set_option maxRecDepth 100000 in
theorem hints_walk (w : World) (vl : Value) (i t x : Int) (l : List Ent) (hl : Rd entE w (Old w) vl l) (ll : l.length ≤ 4398046511104) :
    Calls Try.prog 6 #[.int .i64 i, .int .i64 t, vl, .int .i64 x] w fun e w' => e = .returned (.bool true) ∧ Below w.heap.size w w' := by
  have hF := Fin.old w
  obtain ⟨A, c, rfl, hc, _⟩ := hl.shape
  go_enter Try.func6, Try.ntmps6
  go_wp2_with fail
  refine (known_spec w).mono ?_
  rintro e w1 ⟨rfl, u1⟩
  have hl1 := hl.upd u1 (Upd.fr_non hF)
  have hF1 := hF.upd u1
  go_wp2_with fail
  refine (few_spec w1 _ _ _ l [] hl1 (Rd.nil _ _ _) ll (by simp)).mono ?_
  generalize fewB l [] = fa
  rintro e w2 ⟨rfl, n2, rfl⟩
  have u2 := u1.drewN n2
  have hl2 := hl1.drewN n2
  have hF2 : Fin (w1.drewN n2) (Old w) := hF1
  clear hl1 u1 hF1
  generalize w1.drewN n2 = w4 at u2 hl2 hF2 ⊢
  cases fa
  · go_wp2
    go_ret
    exact ⟨rfl, u2.below⟩
  · by_cases hi : (1099511627776 : Int) < i
    · go_wp2
      go_ret
      exact ⟨rfl, u2.below⟩
    · by_cases hx : (2199023255552 : Int) < x
      · go_wp2
        go_ret
        exact ⟨rfl, u2.below⟩
      · go_wp2_with fail
        refine (new_spec w4 _ _ i t l hl2 hF2 ll).mono ?_
        rintro e w5 ⟨u5, ⟨_, rfl⟩ | ⟨hok, p, F, rfl, hL, hp, hFp⟩⟩
        · go_wp2
          go_ret
          exact ⟨rfl, (u2.trans u5).below⟩
        · obtain ⟨hi0, ht0, hall⟩ := newOk_facts hok
          have hu := u2.trans u5
          clear hok hp hFp u2 u5 hl2 hF2
          have H33 := hint_spec hL hi0 (by omega) ll x (by omega)
          have HD := fun n => hL.non ((Upd.refl Non _).drewN n)
          have HL := Lib.hid fun n => last_spec (HD n) hi0 (by omega) ll
          have HF := Lib.hid fun n => first_spec (HD n) hi0 (by omega)
          have HM := Lib.hid fun n y u (hy : y ≤ 9223372036854775807) => match_spec (HD n) hi0 (by omega) ll y u hy
          have HT := Lib.hid fun n y (hy : y ≤ 9223372036854775807) => term_spec (HD n) hi0 (by omega) ll y hy
          clear HD
          by_cases hx0 : x < i + 1
          · rw [hintL_ahead i l x hx0] at H33
            have hx2 : ¬ i + l.length < x := by omega
            go_wp2_with fail
            refine H33.mono ?_
            rintro e w6 ⟨rfl, n6, rfl⟩
            go_wp2_with fail
            refine (HL.out _).mono ?_
            rintro e w7 ⟨rfl, n7, rfl⟩
            go_wp2_with (go_at_call 34; refine (HF.out _).mono ?_; rintro e w8 ⟨rfl, rfl⟩)
            go_ret
            exact ⟨rfl, (hu.drewN _).below⟩
          · by_cases hx1 : i + l.length < x
            · rw [hintL_past i l x hx0 hx1] at H33
              go_wp2_with fail
              refine H33.mono ?_
              rintro e w6 ⟨rfl, n6, rfl⟩
              go_wp2_with fail
              refine (HL.out _).mono ?_
              rintro e w7 ⟨rfl, n7, rfl⟩
              go_wp2
              go_ret
              exact ⟨rfl, (hu.drewN _).below⟩
            · obtain ⟨m, rfl⟩ : ∃ m : Nat, x = i + 1 + m := ⟨(x - i - 1).toNat, by omega⟩
              have hm : m < l.length := by omega
              have hpos := hall m hm
              have hi := hintL_in i l m hm
              rw [if_pos (by omega)] at hi
              rw [hi] at H33
              have hum : l[m]?.map (·.1) = some l[m].1 := by rw [List.getElem?_eq_getElem hm]; rfl
              generalize l[m].1 = u at hpos hi H33 hum
              clear hi
              have hle := runK_le l u m
              have hra := fun j => runK_all l u m j
              have hst := runK_stop l u m
              generalize runK l u m = r at hle hra hst H33
              have hd1 : decide (m < r) = false := decide_eq_false (by omega)
              have hd2 : decide (i + 1 + (r : Int) < i + 1) = false := decide_eq_false (by omega)
              go_wp2_with fail
              refine H33.mono ?_
              rintro e w6 ⟨rfl, n6, rfl⟩
              go_wp2_with fail
              refine (HL.out _).mono ?_
              rintro e w7 ⟨rfl, n7, rfl⟩
              dsimp only
              go_wp2_with (go_at_call 34; refine (HF.out _).mono ?_; rintro e w8 ⟨rfl, rfl⟩)
              go_loopw [15] (fun iv wr => ∃ j : Nat, r ≤ j ∧ j ≤ m + 1 ∧ iv = .int .i64 (i + 1 + j) ∧ ∃ n, wr = w5.drewN n) (fun iv _ => (i + 1 + m + 1 - intOf iv).toNat)
              case atStart => exact ⟨r, Nat.le_refl _, by omega, rfl, _, rfl⟩
              case round =>
                obtain ⟨j, hrj, hjm, rfl, n, rfl⟩ := hrel
                by_cases hj : j ≤ m
                · have hma : matchB i t l (i + 1 + j) u = true := by
                    have hjl : j < l.length := by omega
                    rw [match_at i t l j hjl]
                    have : l[j]?.map (·.1) = some u := by
                      rcases Nat.lt_or_ge j m with h | h
                      · exact hra j hrj h
                      · obtain rfl : j = m := by omega
                        exact hum
                    rw [List.getElem?_eq_getElem hjl] at this
                    simpa using this
                  have HMA := Lib.hid hma
                  clear hma hum hra hst
                  go_wp2_with fail
                  refine (HM.out n _ u (by omega)).mono ?_
                  rintro e w8 ⟨rfl, n8, rfl⟩
                  rw [HMA.out]
                  go_wp2
                  go_roundw
                  case rel => first | exact ⟨j + 1, by omega, by omega, by congr 1; omega, _, rfl⟩ | ((repeat apply Exists.intro); refine ⟨?_, rfl⟩; exact ⟨j + 1, by omega, by omega, by congr 1; omega, _, rfl⟩)
                  case measure => simp [intOf]; omega
                · clear hum hra
                  by_cases hr0 : r = 0
                  · subst hr0
                    clear hst
                    go_wp2_with fail
                    refine (HT.out n _ (by omega)).mono ?_
                    generalize termOf i t l _ = X
                    obtain ⟨a, b⟩ := X
                    rintro e w8 ⟨rfl, n8, rfl⟩
                    dsimp only
                    go_wp2_with fail
                    have k1 : ((i : Int) + 1 == i + 1) = true := by simp
                    refine ((HF.out (n + n8)).mono ?_)
                    rintro e w9 ⟨rfl, rfl⟩
                    go_wp2
                    go_ret
                    exact ⟨rfl, (hu.drewN _).below⟩
                  · have hrl : r - 1 < l.length := by omega
                    have ht := termOf_in i t l (r - 1) hrl
                    have hst := hst (by omega)
                    rw [List.getElem?_eq_getElem hrl] at hst
                    have hne : l[r - 1].1 ≠ u := fun h => hst (by rw [← h]; rfl)
                    clear hst
                    generalize l[r - 1].1 = y at ht hne
                    have hne2 : (y == u) = false := by simpa using hne
                    have hne3 : (y != u) = true := bne_iff_ne.2 hne
                    have hT := HT.out n (i + 1 + (r : Int) - 1) (by omega)
                    rw [show i + 1 + (r : Int) - 1 = i + 1 + ((r - 1 : Nat) : Int) by omega, ht] at hT
                    rw [show i + 1 + ((r - 1 : Nat) : Int) = i + 1 + (r : Int) - 1 by omega] at hT
                    have k1 : ((i : Int) + 1 + r == i + 1) = false := by simp; omega
                    clear ht
                    go_wp2_with fail
                    refine hT.mono ?_
                    rintro e w8 ⟨rfl, n8, rfl⟩
                    dsimp only
                    go_wp2_with fail
                    refine ((HF.out (n + n8)).mono ?_)
                    rintro e w9 ⟨rfl, rfl⟩
                    go_wp2
                    go_ret
                    exact ⟨rfl, (hu.drewN _).below⟩
set_option maxRecDepth 100000 in
theorem logHints_lifted (os : Os) (started : os.Started) (H : Type) (enc : TypeId × Value → H) :
    ReturnsInHanded {} Try.checked os 6 .any (Rows.logHintsSpec.pre6 enc Try.prog Try.f6 Rows.logHintsRow.domain false) (Rows.logHintsSpec.post enc Try.prog Try.f6 false true false false) := by
  refine returnsInHanded_of_change_sized (C := Try.checked) own started (by kernel_rfl) Try.func6
    (ChangeSpec.witness6 (enc := enc) (C := Try.checked) false ⟨#[], #[.int .i64 0, .int .i64 0, .slice none 0 0, .int .i64 0], []⟩ 8 (by kernel_rfl) (by kernel_rfl) (by kernel_rfl) (by kernel_rfl)) ?_
  intro W base args ds gs before hval0 hW hcnd hsz0 _
  have hval : ∀ (j : Nat) t v, Try.f6.params[j]? = some t → args[j]? = some v → Value.okWide Try.prog W .any base t v := hval0
  have hW' := hW
  obtain ⟨p, q, hA0, hV, rfl, hfz, hnd⟩ := hW
  have hA : DataW.TrodAll enc Try.prog W 0 (fun _ => true) true Try.f6.params.toList args.toList ds p := hA0
  have hsz : (DataW.weightsEach Try.prog (Try.f6.params.toList ++ Rows.logHintsSpec.plain.varTypes Try.prog) (ds ++ gs)).all (· ≤ reachBytes) = true := hsz0
  rw [Try.params6] at hA hval hsz
  obtain ⟨v0, vs0, d0, ds0, p0, q0, hargs, rfl, rfl, h0, r0⟩ := trodAll_cons hA
  obtain ⟨v1, vs1, d1, ds1, p1, q1, rfl, rfl, rfl, h1, r1⟩ := trodAll_cons r0
  obtain ⟨v2, vs2, d2, ds2, p2, q2, rfl, rfl, rfl, h2, r2⟩ := trodAll_cons r1
  obtain ⟨v3, vs3, d3, ds3, p3, q3, rfl, rfl, rfl, h3, r3⟩ := trodAll_cons r2
  obtain ⟨rfl, rfl, rfl⟩ := trodAll_nil r3
  obtain rfl : args = #[v0, v1, v2, v3] := by cases args; simp_all
  obtain ⟨rfl, rfl⟩ := trodVars_none hV
  obtain ⟨n0, rfl, rfl, rfl, w0⟩ := open_int Try.underlying3 (hval 0 3 v0 rfl rfl) h0
  have b0 := bounds_i64 w0
  obtain ⟨n1, rfl, rfl, rfl, w1⟩ := open_int Try.underlying3 (hval 1 3 v1 rfl rfl) h1
  have b1 := bounds_i64 w1
  obtain ⟨a2, len2, cap2, rfl⟩ := okWide_slice Try.underlying22 (hval 2 22 v2 rfl rfl)
  have lt2 : ∀ x ∈ p2, x.block < W.heap.size := by obtain ⟨m, hm⟩ := h2; exact DataW.trod_lt m _ _ _ hm
  obtain ⟨x2, hx2, lx2⟩ := open_arg opens_ent Try.underlying22 (by kernel_rfl) rfl h2 (weights_of hsz (j := 2) rfl rfl)
  rw [show Try.prog.bytesOf 46 = 32 from by kernel_rfl] at lx2
  simp only [reachBytes] at lx2
  obtain ⟨n3, rfl, rfl, rfl, w3⟩ := open_int Try.underlying3 (hval 3 3 v3 rfl rfl) h3
  have b3 := bounds_i64 w3
  clear hA0 hval0
  refine (hints_walk W _ n0 n1 n3 x2 hx2 (by omega)).mono fun e W' ⟨he, bel⟩ => ?_
  subst he
  exact ⟨_, rfl, _, _, _, [], _, [], hW', trodAll_mk1 (shut_bool Try.underlying4 _), (trodAll_cons_mk (shut_int Try.underlying3 w0) (trodAll_cons_mk (shut_int Try.underlying3 w1) (trodAll_cons_mk (Below.trod laidOut (by kernel_rfl) (of_decide_eq_true (by kernel_rfl)) h2 bel lt2) (trodAll_cons_mk (shut_int Try.underlying3 w3) trodAll_mk0)))), rfl, bel.frame _, fun h => by cases h⟩

theorem logHints_over : Rows.logHintsRow.holds Try.pinned (OpenSpec.ofChange Rows.logHintsSpec) :=
  OpenClaim.holds_of_wide 6 Try.f6 rfl rfl rfl rfl rfl rfl rfl ⟨rfl, rfl, rfl, rfl, rfl⟩ rfl rfl rfl rfl rfl (by kernel_rfl) Try.func6 (by kernel_rfl)
    (of_decide_eq_true (by kernel_rfl)) (by unfold Func.isWrapper; first | (rw [if_pos (by decide +kernel)]; kernel_rfl) | (rw [if_neg (by decide +kernel)]; exact ⟨rfl, rfl⟩))
    (fun os started H enc _ => logHints_lifted os started H enc)

theorem logHints_holds : Rows.LogHintsSaid := logHints_over
#print axioms logHints_holds

end Go.Proofs.Ytniccejlmbfpdaa
