/-
  LogNewer, whatever two rows of entries: the law returns true and leaves its arguments as they were.
-/
import Derived.Test.YtniccejlmbfpdaaLaw
namespace Go.Proofs.Ytniccejlmbfpdaa
open Go.ChangeShapes Go.WideShapes Go.ChangeAt Go.RowKit
attribute [local go_sem] max2_int min2_int max_two min_two

/-- the law's last line, as plain numbers -/
theorem newer_both (a b : List Ent) : ((newer 0 0 a b.length (lastT 0 b) || newer 0 0 b a.length (lastT 0 a)) &&
    ((newer 0 0 a b.length (lastT 0 b) && newer 0 0 b a.length (lastT 0 a)) == (((a.length : Int) == (b.length : Int)) && lastT 0 a == lastT 0 b))) = true := by
  unfold newer
  generalize lastT 0 a = x
  generalize lastT 0 b = y
  generalize (a.length : Int) = m
  generalize (b.length : Int) = n
  rcases Int.lt_trichotomy x y with h | h | h
  · have h1 : (y == x) = false := by simp; omega
    have h2 : (x == y) = false := by simp; omega
    simp [h, h1, h2, show ¬ y < x by omega]
  · subst h
    rcases Int.lt_trichotomy m n with h | h | h
    · simp [show m ≤ n by omega, show ¬ n ≤ m by omega, show ¬ m = n by omega]
    · subst h; simp
    · simp [show n ≤ m by omega, show ¬ m ≤ n by omega, show ¬ m = n by omega]
  · have h1 : (y == x) = false := by simp; omega
    have h2 : (x == y) = false := by simp; omega
    simp [h, h1, h2, show ¬ x < y by omega]

set_option maxHeartbeats 4000000 in
set_option maxRecDepth 100000 in
theorem newer_walk (w : World) (va vb : Value) (a b : List Ent) (ha : Rd entE w (Old w) va a) (hb : Rd entE w (Old w) vb b) (la : a.length ≤ 4398046511104) (lb : b.length ≤ 4398046511104) :
    Calls Try.prog 3 #[va, vb] w fun e w' => e = .returned (.bool true) ∧ Below w.heap.size w w' := by
  have hF := Fin.old w
  go_enter Try.func3, Try.ntmps3
  go_wp2_with fail
  refine (known_spec w).mono ?_
  rintro e w1 ⟨rfl, u1⟩
  have ha1 := ha.upd u1 (Upd.fr_non hF)
  have hb1 := hb.upd u1 (Upd.fr_non hF)
  have hF1 := hF.upd u1
  go_wp2_with fail
  refine (few_spec w1 _ _ _ a [] ha1 (Rd.nil _ _ _) la (by simp)).mono ?_
  generalize fewB a [] = fa
  rintro e w2 ⟨rfl, n2, rfl⟩
  cases fa
  · go_wp2
    go_ret
    exact ⟨rfl, (u1.drewN n2).below⟩
  · go_wp2_with fail
    refine (few_spec (w1.drewN n2) _ _ _ b [] (hb1.drewN n2) (Rd.nil _ _ _) lb (by simp)).mono ?_
    generalize fewB b [] = fb
    rintro e w3 ⟨rfl, n3, rfl⟩
    cases fb
    · go_wp2
      go_ret
      exact ⟨rfl, (u1.drewN _).below⟩
    · have u3 := u1.drewN (n2 + n3)
      have ha3 := ha1.drewN (n2 + n3)
      have hb3 := hb1.drewN (n2 + n3)
      have hF3 : Fin (w1.drewN (n2 + n3)) (Old w) := hF1
      clear ha1 hb1 u1 hF1
      go_wp2_with fail
      generalize w1.drewN (n2 + n3) = w4 at u3 ha3 hb3 hF3 ⊢
      refine (new_spec w4 _ _ 0 0 a ha3 hF3 la).mono ?_
      rintro e w5 ⟨u5, ⟨_, rfl⟩ | ⟨_, p, F, rfl, hL, hp, hFp⟩⟩
      · go_wp2_with fail
        refine (new_spec w5 _ _ 0 0 b (hb3.upd u5 (Upd.fr_non hF3)) (hF3.upd u5) lb).mono ?_
        rintro e w6 ⟨u6, ⟨_, rfl⟩ | ⟨_, q, G, rfl, hM, hq, hGq⟩⟩
        all_goals
          go_wp2
          go_ret
          exact ⟨rfl, ((u3.trans u5).trans u6).below⟩
      · go_wp2_with fail
        refine (new_spec w5 _ _ 0 0 b (hb3.upd u5 (Upd.fr_non hF3)) (hF3.upd u5) lb).mono ?_
        rintro e w6 ⟨u6, ⟨_, rfl⟩ | ⟨_, q, G, rfl, hM, hq, hGq⟩⟩
        · go_wp2
          go_ret
          exact ⟨rfl, ((u3.trans u5).trans u6).below⟩
        · have u := (u3.trans u5).trans u6
          have hL6 := hL.non u6
          clear u3 u5 u6 hL
          go_wp2_with fail
          refine (last_spec hL6 (by decide) (by decide) la).mono ?_
          rintro e w7 ⟨rfl, n7, rfl⟩
          have hM7 := hM.non ((Upd.refl Non _).drewN n7)
          go_wp2_with fail
          refine (last_spec hM7 (by decide) (by decide) lb).mono ?_
          rintro e w8 ⟨rfl, n8, rfl⟩
          have hL8 : Log (w6.drewN (n7 + n8)) F p 0 0 a := hL6.non ((Upd.refl Non _).drewN _)
          go_wp2_with fail
          refine (newer_spec hL8 (by decide) (by decide) la b.length (lastT 0 b)).mono ?_
          rintro e w9 ⟨rfl, n9, rfl⟩
          have hM9 : Log (w6.drewN (n7 + n8 + n9)) G q 0 0 b := hM.non ((Upd.refl Non _).drewN _)
          have K := newer_both a b
          generalize newer 0 0 a b.length (lastT 0 b) = P at K ⊢
          go_wp2_with fail
          refine (newer_spec hM9 (by decide) (by decide) lb a.length (lastT 0 a)).mono ?_
          rintro e w10 ⟨rfl, n10, rfl⟩
          generalize newer 0 0 b a.length (lastT 0 a) = Q at K ⊢
          have u2 := u.drewN (n7 + n8 + n9 + n10)
          clear hL8 hM9 hM7 hL6 hM
          obtain ⟨e1, he1⟩ : ∃ e, ((a.length : Int) == (b.length : Int)) = e := ⟨_, rfl⟩
          obtain ⟨e2, he2⟩ : ∃ e, (lastT 0 a == lastT 0 b) = e := ⟨_, rfl⟩
          rw [he1, he2] at K
          cases P <;> cases Q <;> cases e1 <;> cases e2 <;> simp at K
          all_goals
            go_wp2
            go_ret
            exact ⟨rfl, u2.below⟩
set_option maxRecDepth 100000 in
theorem newer_lifted (os : Os) (started : os.Started) (H : Type) (enc : TypeId × Value → H) :
    ReturnsInHanded {} Try.checked os 3 .any (Rows.logNewerSpec.pre6 enc Try.prog Try.f3 Rows.logNewerRow.domain false) (Rows.logNewerSpec.post enc Try.prog Try.f3 false true false false) := by
  refine returnsInHanded_of_change_sized (C := Try.checked) own started (by kernel_rfl) Try.func3
    (ChangeSpec.witness6 (enc := enc) (C := Try.checked) false ⟨#[], #[.slice none 0 0, .slice none 0 0], []⟩ 8 (by kernel_rfl) (by kernel_rfl) (by kernel_rfl) (by kernel_rfl)) ?_
  intro W base args ds gs before hval0 hW hcnd hsz0 _
  have hval : ∀ (j : Nat) t v, Try.f3.params[j]? = some t → args[j]? = some v → Value.okWide Try.prog W .any base t v := hval0
  have hW' := hW
  obtain ⟨p, q, hA0, hV, rfl, hfz, hnd⟩ := hW
  have hA : DataW.TrodAll enc Try.prog W 0 (fun _ => true) true Try.f3.params.toList args.toList ds p := hA0
  have hsz : (DataW.weightsEach Try.prog (Try.f3.params.toList ++ Rows.logNewerSpec.plain.varTypes Try.prog) (ds ++ gs)).all (· ≤ reachBytes) = true := hsz0
  rw [Try.params3] at hA hval hsz
  obtain ⟨v0, vs0, d0, ds0, p0, q0, hargs, rfl, rfl, h0, r0⟩ := trodAll_cons hA
  obtain ⟨v1, vs1, d1, ds1, p1, q1, rfl, rfl, rfl, h1, r1⟩ := trodAll_cons r0
  obtain ⟨rfl, rfl, rfl⟩ := trodAll_nil r1
  obtain rfl : args = #[v0, v1] := by cases args; simp_all
  obtain ⟨rfl, rfl⟩ := trodVars_none hV
  obtain ⟨a0, len0, cap0, rfl⟩ := okWide_slice Try.underlying22 (hval 0 22 v0 rfl rfl)
  obtain ⟨a1, len1, cap1, rfl⟩ := okWide_slice Try.underlying22 (hval 1 22 v1 rfl rfl)
  have lt0 : ∀ x ∈ p0, x.block < W.heap.size := by obtain ⟨m, hm⟩ := h0; exact DataW.trod_lt m _ _ _ hm
  have lt1 : ∀ x ∈ p1, x.block < W.heap.size := by obtain ⟨m, hm⟩ := h1; exact DataW.trod_lt m _ _ _ hm
  have hb46 : Try.prog.bytesOf 46 = 32 := by kernel_rfl
  obtain ⟨xs, hx, lx⟩ := open_arg opens_ent Try.underlying22 (by kernel_rfl) rfl h0 (weights_of hsz (j := 0) rfl rfl)
  obtain ⟨ys, hy, ly⟩ := open_arg opens_ent Try.underlying22 (by kernel_rfl) rfl h1 (weights_of hsz (j := 1) rfl rfl)
  rw [hb46] at lx ly
  simp only [reachBytes] at lx ly
  clear hA0 hval0
  refine (newer_walk W _ _ xs ys hx hy (by omega) (by omega)).mono fun e W' ⟨he, bel⟩ => ?_
  subst he
  exact ⟨_, rfl, _, _, _, [], _, [], hW', trodAll_mk1 (shut_bool Try.underlying4 _), (trodAll_cons_mk (Below.trod laidOut (by kernel_rfl) (of_decide_eq_true (by kernel_rfl)) h0 bel lt0) (trodAll_cons_mk (Below.trod laidOut (by kernel_rfl) (of_decide_eq_true (by kernel_rfl)) h1 bel lt1) trodAll_mk0)), rfl, bel.frame _, fun h => by cases h⟩

theorem newer_over : Rows.logNewerRow.holds Try.pinned (OpenSpec.ofChange Rows.logNewerSpec) :=
  OpenClaim.holds_of_wide 3 Try.f3 rfl rfl rfl rfl rfl rfl rfl ⟨rfl, rfl, rfl, rfl, rfl⟩ rfl rfl rfl rfl rfl (by kernel_rfl) Try.func3 (by kernel_rfl)
    (of_decide_eq_true (by kernel_rfl)) (by unfold Func.isWrapper; first | (rw [if_pos (by decide +kernel)]; kernel_rfl) | (rw [if_neg (by decide +kernel)]; exact ⟨rfl, rfl⟩))
    (fun os started H enc _ => newer_lifted os started H enc)

theorem logNewer_holds : Rows.LogNewerSaid := newer_over
#print axioms logNewer_holds
end Go.Proofs.Ytniccejlmbfpdaa
