/-
  LogCompacts, whatever row of entries and place: the law returns true and leaves its arguments as they were.
-/
import Derived.Test.YtniccejlmbfpdaaR6
import Derived.Test.YtniccejlmbfpdaaBase2
namespace Go.Proofs.Ytniccejlmbfpdaa
open Go.ChangeShapes Go.WideShapes Go.ChangeAt Go.RowKit
attribute [local go_sem] max2_int min2_int max_two min_two

theorem conv44 {w : World} {F : Nat → Prop} {v : Value} {d : List UInt8} (h : Rd byteE w F v d) : (convert 44 9 v).run Try.prog w = .ok (.string (str d)) w :=
  conv_bytes Try.underlying44 Try.underlying5 Try.underlying9 h
theorem getL_none (i : Int) (es : List Ent) (x : Int) (h : x ≤ i) : getL i es x (x + 1) = [] := by
  unfold getL; rw [show (x + 1 - i - 1).toNat = 0 by omega]; simp
theorem getL_one (i : Int) (es : List Ent) (k : Nat) (h : k < es.length) : getL i es (i + 1 + k) (i + 1 + k + 1) = [es[k]] := by
  unfold getL
  rw [show (i + 1 + (k : Int) - i - 1).toNat = k by omega, show (i + 1 + (k : Int) + 1 - i - 1).toNat = k + 1 by omega, List.take_succ_eq_append_getElem h, List.drop_left' (by simp; omega)]

theorem compacted (l : List Ent) (k j : Nat) (T : Int) (h1 : k < j) (h2 : j ≤ l.length) :
    termOf k T (l.drop k) j = ((l[j - 1]'(by omega)).1, true) ∧ getL k (l.drop k) j (j + 1) = [l[j - 1]'(by omega)] := by
  obtain ⟨m, rfl⟩ : ∃ m, j = k + 1 + m := ⟨j - k - 1, by omega⟩
  have hm : m < (l.drop k).length := by rw [List.length_drop]; omega
  have e0 : (l.drop k)[m] = l[k + 1 + m - 1]'(by omega) := by
    rw [List.getElem_drop]; congr 1; omega
  have e1 := termOf_in k T (l.drop k) m hm
  have e2 := getL_one k (l.drop k) m hm
  rw [e0] at e1 e2
  rw [show ((k : Int) + 1 + (m : Int)) = ((k + 1 + m : Nat) : Int) by omega] at e1 e2
  exact ⟨e1, e2⟩

set_option maxHeartbeats 4000000 in
set_option maxRecDepth 100000 in
theorem compacts_walk (w : World) (vl : Value) (l : List Ent) (x : Int) (hl : Rd entE w (Old w) vl l) (ll : l.length ≤ 4398046511104) :
    Calls Try.prog 8 #[vl, .int .i64 x] w fun e w' => e = .returned (.bool true) ∧ Below w.heap.size w w' := by
  have hF := Fin.old w
  obtain ⟨A, c, rfl, hc, _⟩ := hl.shape
  go_enter Try.func8, Try.ntmps8
  go_wp2_with fail
  refine (known_spec w).mono ?_
  rintro e w1 ⟨rfl, u1⟩
  have hl1 := hl.upd u1 (Upd.fr_non hF)
  have hF1 := hF.upd u1
  go_wp2_with fail
  refine (few_spec w1 _ _ _ l [] hl1 (Rd.nil _ _ _) ll (by simp)).mono ?_
  generalize fewB l [] = fa
  rintro e w2 ⟨rfl, n2, rfl⟩
  cases fa
  · go_wp2
    go_ret
    exact ⟨rfl, (u1.drewN n2).below⟩
  · have u2 := u1.drewN n2
    have hl2 := hl1.drewN n2
    have hF2 : Fin (w1.drewN n2) (Old w) := hF1
    clear hl1 u1 hF1
    go_wp2_with fail
    generalize w1.drewN n2 = w4 at u2 hl2 hF2 ⊢
    refine (new_spec w4 _ _ 0 0 l hl2 hF2 ll).mono ?_
    rintro e w5 ⟨u5, ⟨_, rfl⟩ | ⟨_, p, F, rfl, hL, hp, hFp⟩⟩
    · go_wp2
      go_ret
      exact ⟨rfl, (u2.trans u5).below⟩
    · go_wp2_with fail
      refine (compact_spec hL (by decide) (by decide) ll x).mono ?_
      rintro e w6 (⟨hno, rfl, u6⟩ | ⟨hin, rfl, u6, hM⟩)
      · have hx : x < 1 ∨ (l.length : Int) < x := by
          unfold inLog at hno
          simp at hno
          omega
        have u := (u2.trans u5).trans u6
        by_cases hx1 : x < 1
        · go_wp2
          go_ret
          exact ⟨rfl, u.below⟩
        · have hx2 : (l.length : Int) < x := by omega
          go_wp2
          go_ret
          exact ⟨rfl, u.below⟩
      · have hx : 0 < x ∧ x ≤ (l.length : Int) := by simpa [inLog] using hin
        obtain ⟨hx0, hx1⟩ := hx
        have hu : Upd Non w w6 := (u2.trans u5).trans' u6 fun y hy h => by
          have h2 := u2.size
          rcases h with h | h
          · have := hp.1; omega
          · have := (hFp y h).1; omega
        have hl6 := hl.upd hu (Upd.fr_non hF)
        have hF6 := hF.upd hu
        obtain ⟨k, hk⟩ : ∃ k : Nat, x = (k : Int) := ⟨x.toNat, by omega⟩
        have hLk : Log w6 (Ext F w5 w6) p k (termOf 0 0 l x).1 (l.drop k) := by
          have := hM
          rw [show (x - 0).toNat = k by omega] at this
          rw [← hk]
          exact this
        have hT : (termOf 0 0 l x).1 = (l[k - 1]'(by omega)).1 := by
          have := termOf_in 0 0 l (k - 1) (by omega)
          rw [show (0 : Int) + 1 + ((k - 1 : Nat) : Int) = x by omega] at this
          rw [this]
        rw [hT] at hLk
        subst hk
        clear hM hT
        go_wp2_with fail
        go_loopw [7] (fun iv wr => ∃ j : Nat, j ≤ l.length + 2 ∧ iv = .int .i64 j ∧ Upd Non w6 wr) (fun iv _ => l.length + 2 - (intOf iv).toNat)
        case atStart => exact ⟨0, by omega, rfl, Upd.refl _ _⟩
        case round =>
          obtain ⟨j, hj, rfl, hur⟩ := hrel
          have hLr := hLk.non hur
          have hlr := hl6.upd hur (Upd.fr_non hF6)
          have hFr : Fin wr (Old w) := hF6.upd hur
          by_cases hjl : j ≤ l.length + 1
          · by_cases hjk : j < k
            · have e1 : termOf k l[k - 1].1 (l.drop k) j = (0, false) := termOf_no _ _ _ _ (.inl (by omega))
              have e2 : getL k (l.drop k) j (j + 1) = [] := getL_none _ _ _ (by omega)
              have E2 := Lib.hid e2
              clear e2
              go_wp2_with fail
              refine (term_spec hLr (by omega) (by omega) (by rw [List.length_drop]; omega) j (by omega)).mono ?_
              rintro e w7 ⟨rfl, n7, rfl⟩
              rw [e1]
              clear e1
              have hLs := hLr.non ((Upd.refl _ _).drewN n7)
              go_wp2_with fail
              refine (get_spec hLs (by omega) (by omega) (by rw [List.length_drop]; omega) j (j + 1)).mono ?_
              rintro e w8 ⟨v8, rfl, u8, h8⟩
              rw [E2.out] at h8
              obtain ⟨A8, c8, rfl, _⟩ := h8.shape
              go_wp2
              go_roundw
              case rel => exact ⟨j + 1, by omega, by go_num, (hur.drewN n7).trans u8⟩
              case measure => simp [intOf]; omega
            · by_cases hjk2 : j = k
              · subst hjk2
                have e1 : termOf j l[j - 1].1 (l.drop j) j = (l[j - 1].1, true) := termOf_at _ _ _
                have e2 : getL j (l.drop j) j (j + 1) = [] := getL_none _ _ _ (by omega)
                have E2 := Lib.hid e2
                clear e2
                obtain ⟨b, off, c', dv, a1, _, hf, hdl, hd, c0, c1⟩ := hlr.ent (k := j - 1) (by omega)
                cases a1
                have i0 : (0 : Int) ≤ (j : Int) - 1 := by omega
                have i1 : (j : Int) - 1 < l.length := by omega
                have i2 : ((j : Int) - 1).toNat = j - 1 := by omega
                generalize (l[j - 1]'(by omega)).1 = T at e1 hLr c0
                go_wp2_with fail
                refine (term_spec hLr (by omega) (by omega) (by rw [List.length_drop]; omega) j (by omega)).mono ?_
                rintro e w7 ⟨rfl, n7, rfl⟩
                rw [e1]
                clear e1
                have hLs := hLr.non ((Upd.refl _ _).drewN n7)
                go_wp2_with fail
                refine (get_spec hLs (by omega) (by omega) (by rw [List.length_drop]; omega) j (j + 1)).mono ?_
                rintro e w8 ⟨v8, rfl, u8, h8⟩
                rw [E2.out] at h8
                obtain ⟨A8, c8, rfl, _⟩ := h8.shape
                go_wp2
                go_roundw
                case rel => exact ⟨j + 1, by omega, by go_num, (hur.drewN n7).trans u8⟩
                case measure => simp [intOf]; omega
              · by_cases hjn : j ≤ l.length
                · obtain ⟨e1, e2⟩ := compacted l k j l[k - 1].1 (by omega) hjn
                  obtain ⟨b, off, c', dv, a1, _, hf, hdl, hd, c0, c1⟩ := hlr.ent (k := j - 1) (by omega)
                  cases a1
                  have i0 : (0 : Int) ≤ (j : Int) - 1 := by omega
                  have i1 : (j : Int) - 1 < l.length := by omega
                  have i2 : ((j : Int) - 1).toNat = j - 1 := by omega
                  have hne : ((j : Int) == (k : Int)) = false := by simp; omega
                  have hdl2 : (l.drop k).length ≤ 4398046511104 := by rw [List.length_drop]; omega
                  generalize l[j - 1]'(by omega) = X at e1 e2 hdl hd c0 c1
                  have E2 := Lib.hid e2
                  clear e2
                  go_wp2_with fail
                  refine (term_spec hLr (by omega) (by omega) hdl2 j (by omega)).mono ?_
                  rintro e w7 ⟨rfl, n7, rfl⟩
                  rw [e1]
                  clear e1
                  have hLs := hLr.non ((Upd.refl _ _).drewN n7)
                  go_wp2_with fail
                  refine (get_spec hLs (by omega) (by omega) hdl2 j (j + 1)).mono ?_
                  rintro e w8 ⟨v8, rfl, u8, h8⟩
                  rw [E2.out] at h8
                  obtain ⟨A1, cA, rfl, _⟩ := hd.shape
                  have hd8 := (hd.drewN n7).upd u8 (Upd.fr_non (by exact hFr))
                  have x0 := (u8.cell (p := ⟨b, off + (j - 1) * 2, none⟩) (by exact World.block_lt_of_cell? _ _ c0) id).trans c0
                  have x1 := (u8.cell (p := ⟨b, off + (j - 1) * 2 + 1, none⟩) (by exact World.block_lt_of_cell? _ _ c1) id).trans c1
                  obtain ⟨b8, o8, c8, d8, a8, _, _, _, hr8, y0, y1⟩ := h8.rd.ent (k := 0) (by simp)
                  cases a8
                  simp only [Nat.zero_mul, Nat.add_zero, List.getElem_cons_zero] at hr8 y0 y1
                  obtain ⟨A9, c9, rfl, _⟩ := hr8.shape
                  have s1 := fun n => conv44 (hd8.drewN n)
                  have s2 := fun n => conv44 (hr8.drewN n)
                  have seq : ((str X.2).toList == (str X.2).toList) = true := by simp
                  have w1' : IntKind.i64.wrap ((j : Int) - 1) = (j : Int) - 1 := IntWalk.i64_in _ (by omega)
                  go_wp2
                  go_quiet (fail)
                  go_wp2
                  go_roundw
                  case rel => exact ⟨j + 1, by omega, by go_num, ((hur.drewN n7).trans u8).drewN _⟩
                  case measure => simp [intOf]; omega
                · have e1 : termOf k l[k - 1].1 (l.drop k) j = (0, false) := termOf_no _ _ _ _ (.inr (by rw [List.length_drop]; omega))
                  have hdl2 : (l.drop k).length ≤ 4398046511104 := by rw [List.length_drop]; omega
                  have hne : ((j : Int) == (k : Int)) = false := by simp; omega
                  go_wp2_with fail
                  refine (term_spec hLr (by omega) (by omega) hdl2 j (by omega)).mono ?_
                  rintro e w7 ⟨rfl, n7, rfl⟩
                  rw [e1]
                  clear e1
                  go_wp2
                  go_roundw
                  case rel => exact ⟨j + 1, by omega, by go_num, hur.drewN n7⟩
                  case measure => simp [intOf]; omega
          · obtain ⟨n, hn⟩ : ∃ n, (l.drop k).length = n := ⟨_, rfl⟩
            have hn2 : (n : Int) = l.length - k := by rw [← hn, List.length_drop]; omega
            have hk1 : (1 : Int) ≤ k := by omega
            have hkw : IntKind.i64.wrap ((l.length : Int) - k) = (n : Int) := by rw [IntWalk.i64_in _ (by omega)]; exact hn2.symm
            have H39 := len_spec hLr
            rw [hn] at H39
            clear hn hn2
            go_wp2_with fail
            refine (first_spec hLr (by omega) (by omega)).mono ?_
            rintro e w7 ⟨rfl, rfl⟩
            go_wp2_with fail
            refine H39.mono ?_
            rintro e w8 ⟨rfl, rfl⟩
            go_wp2
            go_ret
            exact ⟨rfl, (hu.trans hur).below⟩
set_option maxRecDepth 100000 in
theorem logCompacts_lifted (os : Os) (started : os.Started) (H : Type) (enc : TypeId × Value → H) :
    ReturnsInHanded {} Try.checked os 8 .any (Rows.logCompactsSpec.pre6 enc Try.prog Try.f8 Rows.logCompactsRow.domain false) (Rows.logCompactsSpec.post enc Try.prog Try.f8 false true false false) := by
  refine returnsInHanded_of_change_sized (C := Try.checked) own started (by kernel_rfl) Try.func8
    (ChangeSpec.witness6 (enc := enc) (C := Try.checked) false ⟨#[], #[.slice none 0 0, .int .i64 0], []⟩ 8 (by kernel_rfl) (by kernel_rfl) (by kernel_rfl) (by kernel_rfl)) ?_
  intro W base args ds gs before hval0 hW hcnd hsz0 _
  have hval : ∀ (j : Nat) t v, Try.f8.params[j]? = some t → args[j]? = some v → Value.okWide Try.prog W .any base t v := hval0
  have hW' := hW
  obtain ⟨p, q, hA0, hV, rfl, hfz, hnd⟩ := hW
  have hA : DataW.TrodAll enc Try.prog W 0 (fun _ => true) true Try.f8.params.toList args.toList ds p := hA0
  have hsz : (DataW.weightsEach Try.prog (Try.f8.params.toList ++ Rows.logCompactsSpec.plain.varTypes Try.prog) (ds ++ gs)).all (· ≤ reachBytes) = true := hsz0
  rw [Try.params8] at hA hval hsz
  obtain ⟨v0, vs0, d0, ds0, p0, q0, hargs, rfl, rfl, h0, r0⟩ := trodAll_cons hA
  obtain ⟨v1, vs1, d1, ds1, p1, q1, rfl, rfl, rfl, h1, r1⟩ := trodAll_cons r0
  obtain ⟨rfl, rfl, rfl⟩ := trodAll_nil r1
  obtain rfl : args = #[v0, v1] := by cases args; simp_all
  obtain ⟨rfl, rfl⟩ := trodVars_none hV
  obtain ⟨a0, len0, cap0, rfl⟩ := okWide_slice Try.underlying22 (hval 0 22 v0 rfl rfl)
  have lt0 : ∀ x ∈ p0, x.block < W.heap.size := by obtain ⟨m, hm⟩ := h0; exact DataW.trod_lt m _ _ _ hm
  obtain ⟨x0, hx0, lx0⟩ := open_arg opens_ent Try.underlying22 (by kernel_rfl) rfl h0 (weights_of hsz (j := 0) rfl rfl)
  rw [show Try.prog.bytesOf 46 = 32 from by kernel_rfl] at lx0
  simp only [reachBytes] at lx0
  obtain ⟨n1, rfl, rfl, rfl, w1⟩ := open_int Try.underlying3 (hval 1 3 v1 rfl rfl) h1
  have b1 := bounds_i64 w1
  clear hA0 hval0
  refine (compacts_walk W _ x0 n1 hx0 (by omega)).mono fun e W' ⟨he, bel⟩ => ?_
  subst he
  exact ⟨_, rfl, _, _, _, [], _, [], hW', trodAll_mk1 (shut_bool Try.underlying4 _), (trodAll_cons_mk (Below.trod laidOut (by kernel_rfl) (of_decide_eq_true (by kernel_rfl)) h0 bel lt0) (trodAll_cons_mk (shut_int Try.underlying3 w1) trodAll_mk0)), rfl, bel.frame _, fun h => by cases h⟩

theorem logCompacts_over : Rows.logCompactsRow.holds Try.pinned (OpenSpec.ofChange Rows.logCompactsSpec) :=
  OpenClaim.holds_of_wide 8 Try.f8 rfl rfl rfl rfl rfl rfl rfl ⟨rfl, rfl, rfl, rfl, rfl⟩ rfl rfl rfl rfl rfl (by kernel_rfl) Try.func8 (by kernel_rfl)
    (of_decide_eq_true (by kernel_rfl)) (by unfold Func.isWrapper; first | (rw [if_pos (by decide +kernel)]; kernel_rfl) | (rw [if_neg (by decide +kernel)]; exact ⟨rfl, rfl⟩))
    (fun os started H enc _ => logCompacts_lifted os started H enc)

theorem logCompacts_holds : Rows.LogCompactsSaid := logCompacts_over
#print axioms logCompacts_holds

end Go.Proofs.Ytniccejlmbfpdaa
