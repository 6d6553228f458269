/-
  TimersPlays: any acts: each answer, and all items, behind each.
-/
import Derived.Test.YtnaldifgnpnbhaaRO1
import Derived.Test.YtnaldifgnpnbhaaRH6
import Derived.Test.YtnaldifgnpnbhaaT14
import Derived.Test.YtnaldifgnpnbhaaOpen
import Derived.Test.YtnaldifgnpnbhaaRows
namespace Go.Proofs.Ytnaldifgnpnbhaa
open Go.ChangeShapes Go.WideShapes Go.ChangeAt Go.RowKit
set_option linter.all false in
set_option maxRecDepth 100000 in
set_option maxHeartbeats 8000000 in
theorem plays_walk (w : World) (v : Value) (l : List Act1) (hl : Rd actE w (Old w) v l) :
    Calls Try.prog 6 #[v] w fun e w' => e = .returned (.bool true) ∧ RowKit.Below w.heap.size w w' := by
  obtain ⟨A, cp, rfl, hc1, hc2⟩ := hl.shape
  obtain ⟨N, hN⟩ : ∃ N, l.length = N := ⟨_, rfl⟩
  rw [hN] at hc1 ⊢
  have HN := Lib.hid hN
  clear hN
  by_cases h4 : 250 < N
  · have t1 : decide ((250 : Int) < N) = true := decide_eq_true (by omega)
    go_enter Try.func6, Try.ntmps6
    go_wp2_with ((with_reducible refine (tknown_spec w).mono ?_); rintro e w1 ⟨rfl, hu1⟩)
    go_ret
    exact ⟨rfl, hu1.below⟩
  have t1 : decide ((250 : Int) < N) = false := decide_eq_false (by omega)
  go_enter Try.func6, Try.ntmps6
  go_wp2_with ((with_reducible refine (tknown_spec w).mono ?_); rintro e w1 ⟨rfl, hu1⟩)
  refine (new_spec w1).mono ?_
  rintro e w2 ⟨rfl, hu2, hk2⟩
  have hplt := hk2.lt
  have hr3 : RHp (w2.alloc (.cells #[.slice none 0 0] 51)) Non w2.heap.size [] := ⟨_, heap_alloc_new w2 _, Own.empty _ _ _ _ _, id, Fin.non _⟩
  have hpb : w.heap.size ≤ w1.heap.size := hu1.size
  have hT3 : Two w (w2.alloc (.cells #[.slice none 0 0] 51)) (fun q => q = w1.heap.size) w1.heap.size [] Non w2.heap.size [] := ⟨hk2.upd (S := Non) ((Upd.refl Non w2).alloc _) (fun _ _ h => h), hr3, (hu1.trans hu2).alloc _, fun x hx => by have e : x = w1.heap.size := hx; omega, fun _ h => h.elim, by have := hu2.size; omega, fun h => by have e : w2.heap.size = w1.heap.size := h; omega, fun _ h => h.elim⟩
  obtain ⟨W3, hW3⟩ : ∃ W, W = w2.alloc (.cells #[.slice none 0 0] 51) := ⟨_, rfl⟩
  rw [← hW3] at hT3
  have HW := Lib.hid hW3
  clear hW3 t1 hr3 hk2
  go_wp2_with fail
  rw [← HW.out]
  clear HW
  have F0 : ∃ F : Nat → Prop, Two w W3 F w1.heap.size [] Non w2.heap.size [] := ⟨_, hT3⟩
  clear hT3
  generalize w2.heap.size = q at F0 ⊢
  generalize w1.heap.size = p at F0 ⊢
  clear hu1 hu2 hplt hpb
  go_loopw [5] (fun i wr => ∃ (k : Nat) (L : List It) (F Fr : Nat → Prop), k ≤ N ∧ i = .int .i64 k ∧ Two w wr F p L Fr q L ∧ L.length ≤ k ∧ Sorted L) (fun i _ => N - (intOf i).toNat)
  case atStart => obtain ⟨F, h⟩ := F0; exact ⟨0, [], F, Non, by omega, rfl, h, by simp, List.Pairwise.nil⟩
  case round =>
    obtain ⟨k, L, F, Fr, hk, rfl, hT, hLk, hso⟩ := hrel
    clear F0
    by_cases hkl : k < N
    · have hkl' : k < l.length := by rw [HN.out]; exact hkl
      have hur := hT.2.2.1
      obtain ⟨b1, o1, c1, e1, _, hF1, xw, xnb, m0, m1, m2, m3, m4, m5, m6, m7⟩ := (hl.upd hur (Upd.fr_non (Fin.old w))).act (k := k) hkl'
      rw [HN.out] at e1
      cases e1
      generalize l[k] = x at xw xnb m0 m1 m2 m3 m4 m5 m6 m7
      obtain ⟨xo, xi, xn⟩ := x
      simp only at xw xnb m0 m1 m2 m3 m4 m5 m6 m7
      have hT4 := hT.non ((Upd.refl Non wr).alloc (.cells #[.int .i64 xo, .int .i64 xi.at_, .int .i64 xi.flow, .int .i64 xi.run, .int .i64 xi.ref, .int .i64 xi.turn, .int .i64 xi.kind, .int .i64 xn] 53))
      have hra := heap_alloc_new wr (.cells #[.int .i64 xo, .int .i64 xi.at_, .int .i64 xi.flow, .int .i64 xi.run, .int .i64 xi.ref, .int .i64 xi.turn, .int .i64 xi.kind, .int .i64 xn] 53)
      have hfn := hT.1.fin
      have hqn := hT.2.1.lt
      have hz4 : (wr.alloc (.cells #[.int .i64 xo, .int .i64 xi.at_, .int .i64 xi.flow, .int .i64 xi.run, .int .i64 xi.ref, .int .i64 xi.turn, .int .i64 xi.kind, .int .i64 xn] 53)).heap.size = wr.heap.size + 1 := by simp
      clear hT hur
      obtain ⟨W4, hW4⟩ : ∃ W, W = wr.alloc (.cells #[.int .i64 xo, .int .i64 xi.at_, .int .i64 xi.flow, .int .i64 xi.run, .int .i64 xi.ref, .int .i64 xi.turn, .int .i64 xi.kind, .int .i64 xn] 53) := ⟨_, rfl⟩
      rw [← hW4] at hT4 hra hz4
      have HW4 := Lib.hid hW4
      clear hW4
      obtain ⟨ra, hrae⟩ : ∃ r, r = wr.heap.size := ⟨_, rfl⟩
      have HRA := Lib.hid hrae
      rw [← hrae] at hra
      have hraF : ¬ F ra := fun h => by have := hfn ra h; omega
      have hraq : ra ≠ q := by omega
      have hralt : ra < W4.heap.size := by omega
      clear hrae hz4 hfn hqn
      have k0 : W4.cell? ⟨ra, 0, none⟩ = some (.int .i64 xo) := blk_at hra 0
      have hkeep : ∀ W, (∃ S, Upd S W4 W ∧ ¬ S ra) → (W.cell? ⟨ra, 1, none⟩ = some (.int .i64 xi.at_) ∧ W.cell? ⟨ra, 2, none⟩ = some (.int .i64 xi.flow) ∧ W.cell? ⟨ra, 3, none⟩ = some (.int .i64 xi.run) ∧ W.cell? ⟨ra, 4, none⟩ = some (.int .i64 xi.ref) ∧ W.cell? ⟨ra, 5, none⟩ = some (.int .i64 xi.turn) ∧ W.cell? ⟨ra, 6, none⟩ = some (.int .i64 xi.kind)) ∧ W.cell? ⟨ra, 7, none⟩ = some (.int .i64 xn) := fun W ⟨S, hu, hs⟩ => by
        have hb := (hu.block ra hralt hs).trans hra
        exact ⟨⟨blk_at hb 1, blk_at hb 2, blk_at hb 3, blk_at hb 4, blk_at hb 5, blk_at hb 6⟩, blk_at hb 7⟩
      by_cases g1 : xo = 1
      · subst g1
        obtain ⟨rv, hrv⟩ : ∃ r, (addR L xi).1 = r := ⟨_, rfl⟩
        obtain ⟨L2, hL2⟩ : ∃ L2, (addR L xi).2 = L2 := ⟨_, rfl⟩
        have hsN : Sorted L2 := by rw [← hL2]; exact sorted_add hso xi
        have hLN : L2.length ≤ k + 1 := by rw [← hL2]; have := add_len L xi; omega
        have HA : Calls Try.prog 12 #[.pointer (some ⟨p, 0, none⟩), .agg #[.int .i64 xi.at_, .int .i64 xi.flow, .int .i64 xi.run, .int .i64 xi.ref, .int .i64 xi.turn, .int .i64 xi.kind]] W4.drew fun e w' => e = .returned (.bool rv) ∧ HStep 64 33 W4.drew F p L2 w' :=
          (add_spec W4.drew F p L xi (hT4.1.upd (Upd.refl Non _).drew fun _ _ h => h) (hso.srt (by omega) xi) xw).mono fun e w' h => by unfold AddPost at h; rw [hrv, hL2] at h; exact h
        have S0 := (hkeep W4.drew ⟨Non, (Upd.refl _ _).drew, id⟩).1
        have SA : ∀ W, HStep 64 33 W4.drew F p L2 W → W.cell? ⟨ra, 1, none⟩ = some (.int .i64 xi.at_) ∧ W.cell? ⟨ra, 2, none⟩ = some (.int .i64 xi.flow) ∧ W.cell? ⟨ra, 3, none⟩ = some (.int .i64 xi.run) ∧ W.cell? ⟨ra, 4, none⟩ = some (.int .i64 xi.ref) ∧ W.cell? ⟨ra, 5, none⟩ = some (.int .i64 xi.turn) ∧ W.cell? ⟨ra, 6, none⟩ = some (.int .i64 xi.kind) := fun W hs => (hkeep W ⟨F, ((Upd.refl Non W4).drew.mono fun _ _ h => h.elim).trans hs.1, hraF⟩).1
        have SB : ∀ W W', HStep 64 33 W4.drew F p L2 W → Upd Non W W' → W'.cell? ⟨ra, 1, none⟩ = some (.int .i64 xi.at_) ∧ W'.cell? ⟨ra, 2, none⟩ = some (.int .i64 xi.flow) ∧ W'.cell? ⟨ra, 3, none⟩ = some (.int .i64 xi.run) ∧ W'.cell? ⟨ra, 4, none⟩ = some (.int .i64 xi.ref) ∧ W'.cell? ⟨ra, 5, none⟩ = some (.int .i64 xi.turn) ∧ W'.cell? ⟨ra, 6, none⟩ = some (.int .i64 xi.kind) := fun W W' hs hu => (hkeep W' ⟨F, (((Upd.refl Non W4).drew.mono fun _ _ h => h.elim).trans hs.1).trans (hu.mono fun _ _ h => h.elim), hraF⟩).1
        have SC : ∀ W W' W'', HStep 64 33 W4.drew F p L2 W → Upd Non W W' → Upd (fun x => x = q) W' W'' → W''.cell? ⟨ra, 1, none⟩ = some (.int .i64 xi.at_) ∧ W''.cell? ⟨ra, 2, none⟩ = some (.int .i64 xi.flow) ∧ W''.cell? ⟨ra, 3, none⟩ = some (.int .i64 xi.run) ∧ W''.cell? ⟨ra, 4, none⟩ = some (.int .i64 xi.ref) ∧ W''.cell? ⟨ra, 5, none⟩ = some (.int .i64 xi.turn) ∧ W''.cell? ⟨ra, 6, none⟩ = some (.int .i64 xi.kind) := fun W W' W'' hs hu hq => (hkeep W'' ⟨fun x => F x ∨ x = q, ((((Upd.refl Non W4).drew.mono fun _ _ h => h.elim).trans (hs.1.mono fun _ _ h => Or.inl h)).trans (hu.mono fun _ _ h => h.elim)).trans (hq.mono fun _ _ h => Or.inr h), fun h => h.elim hraF hraq⟩).1
        have HO := fun W' => of_spec W' xi
        unfold OfPost at HO
        have HB : ∀ W5 W6, HStep 64 33 W4.drew F p L2 W5 → Upd Non W5 W6 → Calls Try.prog 21 #[.pointer (some ⟨q, 0, none⟩), .agg #[.int .i64 xi.at_, .int .i64 xi.flow, .int .i64 xi.run, .int .i64 xi.ref, .int .i64 xi.turn, .int .i64 xi.kind]] W6 fun e w' => e = .returned (.bool rv) ∧ Upd (fun x => x = q) W6 w' ∧ ∃ Fr', Two w w' (Ext F W4.drew W5) p L2 Fr' q L2 := fun W5 W6 hs hu => by
          have h6 := ((hT4.non (Upd.refl Non _).drew).a hs).non hu
          exact (radd_spec W6 Fr q L xi h6.2.1 (by omega) xw).mono fun e w' h => by
            unfold RAddPost at h; rw [hrv, hL2] at h; exact ⟨h.1, h.2.1, h6.b h.2⟩
        have v9 : (rv != rv) = false := by simp
        simp only [It.cells] at HO
        clear hrv hL2 hkeep
        go_wp2_with fail
        rw [← HW4.out, ← HRA.out]
        go_region_held3 (fun W' => W'.cell? ⟨ra, 1, none⟩ = some (.int .i64 xi.at_) ∧ W'.cell? ⟨ra, 2, none⟩ = some (.int .i64 xi.flow) ∧ W'.cell? ⟨ra, 3, none⟩ = some (.int .i64 xi.run) ∧ W'.cell? ⟨ra, 4, none⟩ = some (.int .i64 xi.ref) ∧ W'.cell? ⟨ra, 5, none⟩ = some (.int .i64 xi.turn) ∧ W'.cell? ⟨ra, 6, none⟩ = some (.int .i64 xi.kind))
          (first | exact S0 | exact Sa | exact Sb | exact Sc | go_keep)
          (first | (go_at_call 12; (with_reducible refine HA.mono ?_); rintro e w5 ⟨rfl, hs5⟩; have Sa := SA w5 hs5; have HB5 := fun w6 h => HB w5 w6 hs5 h) | (go_at_call 17; (with_reducible refine (HO _).mono ?_); rintro e w6 ⟨rfl, hu6⟩; have Sb := SB w5 w6 hs5 hu6; have HB6 := HB5 w6 hu6) | (go_at_call 21; (with_reducible refine HB6.mono ?_); rintro e w7 ⟨rfl, hq7, Fr7, hTN⟩; have Sc := SC w5 w6 w7 hs5 hu6 hq7))
        all_goals (
          clear HA HB HB5 HB6 SA SB SC S0 Sa Sb Sc HO hs5 hu6 hq7 hT4
          have HLK := looks_spec w7 (Ext F W4.drew w5) Fr7 p q L2 hTN.1 hTN.2.1 (by omega)
          go_wp2_with fail
          refine HLK.mono ?_
          rintro e w9 ⟨rfl, hu9⟩
          have hTF := hTN.non hu9
          clear HLK hTN
          go_wp2_with fail
          go_roundw
          case rel => exact ⟨k + 1, L2, (Ext F W4.drew w5), Fr7, by omega, by go_num, hTF, hLN, hsN⟩
          case measure => simp [intOf]; omega)
      by_cases g2 : xo = 2
      · subst g2
        obtain ⟨rv, hrv⟩ : ∃ r, (remR L xi).1 = r := ⟨_, rfl⟩
        obtain ⟨L2, hL2⟩ : ∃ L2, (remR L xi).2 = L2 := ⟨_, rfl⟩
        have hsN : Sorted L2 := by rw [← hL2]; exact sorted_rem hso xi
        have hLN : L2.length ≤ k + 1 := by rw [← hL2]; have := len_rem L xi; omega
        have HA : Calls Try.prog 22 #[.pointer (some ⟨p, 0, none⟩), .agg #[.int .i64 xi.at_, .int .i64 xi.flow, .int .i64 xi.run, .int .i64 xi.ref, .int .i64 xi.turn, .int .i64 xi.kind]] W4.drew fun e w' => e = .returned (.bool rv) ∧ HStep 64 33 W4.drew F p L2 w' :=
          (remove_spec W4.drew F p L xi (hT4.1.upd (Upd.refl Non _).drew fun _ _ h => h) (hso.srt (by omega) xi)).mono fun e w' h => by unfold RemPost at h; rw [hrv, hL2] at h; exact h
        have S0 := (hkeep W4.drew ⟨Non, (Upd.refl _ _).drew, id⟩).1
        have SA : ∀ W, HStep 64 33 W4.drew F p L2 W → W.cell? ⟨ra, 1, none⟩ = some (.int .i64 xi.at_) ∧ W.cell? ⟨ra, 2, none⟩ = some (.int .i64 xi.flow) ∧ W.cell? ⟨ra, 3, none⟩ = some (.int .i64 xi.run) ∧ W.cell? ⟨ra, 4, none⟩ = some (.int .i64 xi.ref) ∧ W.cell? ⟨ra, 5, none⟩ = some (.int .i64 xi.turn) ∧ W.cell? ⟨ra, 6, none⟩ = some (.int .i64 xi.kind) := fun W hs => (hkeep W ⟨F, ((Upd.refl Non W4).drew.mono fun _ _ h => h.elim).trans hs.1, hraF⟩).1
        have SB : ∀ W W', HStep 64 33 W4.drew F p L2 W → Upd Non W W' → W'.cell? ⟨ra, 1, none⟩ = some (.int .i64 xi.at_) ∧ W'.cell? ⟨ra, 2, none⟩ = some (.int .i64 xi.flow) ∧ W'.cell? ⟨ra, 3, none⟩ = some (.int .i64 xi.run) ∧ W'.cell? ⟨ra, 4, none⟩ = some (.int .i64 xi.ref) ∧ W'.cell? ⟨ra, 5, none⟩ = some (.int .i64 xi.turn) ∧ W'.cell? ⟨ra, 6, none⟩ = some (.int .i64 xi.kind) := fun W W' hs hu => (hkeep W' ⟨F, (((Upd.refl Non W4).drew.mono fun _ _ h => h.elim).trans hs.1).trans (hu.mono fun _ _ h => h.elim), hraF⟩).1
        have SC : ∀ W W' W'', HStep 64 33 W4.drew F p L2 W → Upd Non W W' → Upd (fun x => x = q) W' W'' → W''.cell? ⟨ra, 1, none⟩ = some (.int .i64 xi.at_) ∧ W''.cell? ⟨ra, 2, none⟩ = some (.int .i64 xi.flow) ∧ W''.cell? ⟨ra, 3, none⟩ = some (.int .i64 xi.run) ∧ W''.cell? ⟨ra, 4, none⟩ = some (.int .i64 xi.ref) ∧ W''.cell? ⟨ra, 5, none⟩ = some (.int .i64 xi.turn) ∧ W''.cell? ⟨ra, 6, none⟩ = some (.int .i64 xi.kind) := fun W W' W'' hs hu hq => (hkeep W'' ⟨fun x => F x ∨ x = q, ((((Upd.refl Non W4).drew.mono fun _ _ h => h.elim).trans (hs.1.mono fun _ _ h => Or.inl h)).trans (hu.mono fun _ _ h => h.elim)).trans (hq.mono fun _ _ h => Or.inr h), fun h => h.elim hraF hraq⟩).1
        have HO := fun W' => of_spec W' xi
        unfold OfPost at HO
        have HB : ∀ W5 W6, HStep 64 33 W4.drew F p L2 W5 → Upd Non W5 W6 → Calls Try.prog 23 #[.pointer (some ⟨q, 0, none⟩), .agg #[.int .i64 xi.at_, .int .i64 xi.flow, .int .i64 xi.run, .int .i64 xi.ref, .int .i64 xi.turn, .int .i64 xi.kind]] W6 fun e w' => e = .returned (.bool rv) ∧ Upd (fun x => x = q) W6 w' ∧ ∃ Fr', Two w w' (Ext F W4.drew W5) p L2 Fr' q L2 := fun W5 W6 hs hu => by
          have h6 := ((hT4.non (Upd.refl Non _).drew).a hs).non hu
          exact (rrem_spec W6 Fr q L xi h6.2.1 hso (by omega)).mono fun e w' h => by
            unfold RRemPost at h; rw [hrv, hL2] at h; exact ⟨h.1, h.2.1, h6.b h.2⟩
        have v9 : (rv != rv) = false := by simp
        simp only [It.cells] at HO
        clear hrv hL2 hkeep
        go_wp2_with fail
        rw [← HW4.out, ← HRA.out]
        go_region_held3 (fun W' => W'.cell? ⟨ra, 1, none⟩ = some (.int .i64 xi.at_) ∧ W'.cell? ⟨ra, 2, none⟩ = some (.int .i64 xi.flow) ∧ W'.cell? ⟨ra, 3, none⟩ = some (.int .i64 xi.run) ∧ W'.cell? ⟨ra, 4, none⟩ = some (.int .i64 xi.ref) ∧ W'.cell? ⟨ra, 5, none⟩ = some (.int .i64 xi.turn) ∧ W'.cell? ⟨ra, 6, none⟩ = some (.int .i64 xi.kind))
          (first | exact S0 | exact Sa | exact Sb | exact Sc | go_keep)
          (first | (go_at_call 22; (with_reducible refine HA.mono ?_); rintro e w5 ⟨rfl, hs5⟩; have Sa := SA w5 hs5; have HB5 := fun w6 h => HB w5 w6 hs5 h) | (go_at_call 17; (with_reducible refine (HO _).mono ?_); rintro e w6 ⟨rfl, hu6⟩; have Sb := SB w5 w6 hs5 hu6; have HB6 := HB5 w6 hu6) | (go_at_call 23; (with_reducible refine HB6.mono ?_); rintro e w7 ⟨rfl, hq7, Fr7, hTN⟩; have Sc := SC w5 w6 w7 hs5 hu6 hq7))
        all_goals (
          clear HA HB HB5 HB6 SA SB SC S0 Sa Sb Sc HO hs5 hu6 hq7 hT4
          have HLK := looks_spec w7 (Ext F W4.drew w5) Fr7 p q L2 hTN.1 hTN.2.1 (by omega)
          go_wp2_with fail
          refine HLK.mono ?_
          rintro e w9 ⟨rfl, hu9⟩
          have hTF := hTN.non hu9
          clear HLK hTN
          go_wp2_with fail
          go_roundw
          case rel => exact ⟨k + 1, L2, (Ext F W4.drew w5), Fr7, by omega, by go_num, hTF, hLN, hsN⟩
          case measure => simp [intOf]; omega)
      by_cases g3 : xo = 3
      · subst g3
        obtain ⟨y, hy⟩ : ∃ r, (takeR L xn).1 = r := ⟨_, rfl⟩
        obtain ⟨rv, hrv⟩ : ∃ r, (takeR L xn).2.1 = r := ⟨_, rfl⟩
        obtain ⟨L2, hL2⟩ : ∃ L2, (takeR L xn).2.2 = L2 := ⟨_, rfl⟩
        have hsN : Sorted L2 := by rw [← hL2]; exact sorted_take hso xn
        have hLN : L2.length ≤ k + 1 := by rw [← hL2]; have := len_take L xn; omega
        have HA : Calls Try.prog 13 #[.pointer (some ⟨p, 0, none⟩), .int .i64 xn] W4 fun e w' => e = .returned (.tuple #[.agg #[.int .i64 y.at_, .int .i64 y.flow, .int .i64 y.run, .int .i64 y.ref, .int .i64 y.turn, .int .i64 y.kind], .bool rv]) ∧ HStep 64 33 W4 F p L2 w' :=
          (take_spec W4 F p L xn hT4.1 (fun x _ => hso.srt (by omega) x)).mono fun e w' h => by unfold TakePost at h; rw [hy, hrv, hL2] at h; exact h
        have S0 : W4.cell? ⟨ra, 7, none⟩ = some (.int .i64 xn) := (hkeep W4 ⟨Non, Upd.refl _ _, id⟩).2
        have SA : ∀ W W', HStep 64 33 W4 F p L2 W → Upd Non W W' → W'.cell? ⟨ra, 7, none⟩ = some (.int .i64 xn) := fun W W' hs hu => (hkeep W' ⟨F, hs.1.trans (hu.mono fun _ _ h => h.elim), hraF⟩).2
        have HO := fun W' => of_spec W' y
        unfold OfPost at HO
        have HB : ∀ W5 W6, HStep 64 33 W4 F p L2 W5 → Upd Non W5 W6 → Calls Try.prog 24 #[.pointer (some ⟨q, 0, none⟩), .int .i64 xn] W6 fun e w' => e = .returned (.tuple #[.agg #[.int .i64 y.at_, .int .i64 y.flow, .int .i64 y.run, .int .i64 y.ref, .int .i64 y.turn, .int .i64 y.kind], .bool rv]) ∧ Upd (fun x => x = q) W6 w' ∧ ∃ Fr', Two w w' (Ext F W4 W5) p L2 Fr' q L2 := fun W5 W6 hs hu => by
          have h6 := (hT4.a hs).non hu
          exact (rtake_spec W6 Fr q L xn h6.2.1 (by omega)).mono fun e w' h => by
            unfold RTakePost at h; rw [hy, hrv, hL2] at h; exact ⟨h.1, h.2.1, h6.b h.2⟩
        have hqW : q < W4.heap.size := hT4.2.1.lt
        have v9 : (rv != rv) = false := by simp
        have v8 : (rv == rv) = true := by simp
        have hE : eqB ⟨y.at_, y.flow, y.run, y.ref, y.turn, y.kind⟩ ⟨y.at_, y.flow, y.run, y.ref, y.turn, y.kind⟩ = true := by show decide (y = y) = true; simp
        simp only [It.cells] at HO
        have HHE := Lib.hid hE
        clear hy hrv hL2 hkeep hE
        go_wp2_with fail
        rw [← HW4.out, ← HRA.out]
        with_reducible refine HA.mono ?_
        rintro e w5 ⟨rfl, hs5⟩
        have hs5z := hs5.1.size
        have B1 : (w5.alloc (.cells #[.int .i64 y.at_, .int .i64 y.flow, .int .i64 y.run, .int .i64 y.ref, .int .i64 y.turn, .int .i64 y.kind] 33)).heap[w5.heap.size]? = some (.cells y.cells.toArray 33 (0, 0)) := heap_alloc_new _ _
        have S1 := SA w5 (w5.alloc (.cells #[.int .i64 y.at_, .int .i64 y.flow, .int .i64 y.run, .int .i64 y.ref, .int .i64 y.turn, .int .i64 y.kind] 33)) hs5 ((Upd.refl _ _).alloc _)
        have HB5 := HB w5 (w5.alloc (.cells #[.int .i64 y.at_, .int .i64 y.flow, .int .i64 y.run, .int .i64 y.ref, .int .i64 y.turn, .int .i64 y.kind] 33)) hs5 ((Upd.refl _ _).alloc _)
        have hsb : (w5.alloc (.cells #[.int .i64 y.at_, .int .i64 y.flow, .int .i64 y.run, .int .i64 y.ref, .int .i64 y.turn, .int .i64 y.kind] 33)).heap.size = w5.heap.size + 1 := by simp
        clear HA HB SA S0
        go_wp2_with fail
        with_reducible refine HB5.mono ?_
        rintro e w6 ⟨rfl, hq6, Fr6, hT6⟩
        have B2 := (hq6.block w5.heap.size (by omega) (by omega)).trans B1
        have C2 : (w6.alloc (.cells #[.int .i64 y.at_, .int .i64 y.flow, .int .i64 y.run, .int .i64 y.ref, .int .i64 y.turn, .int .i64 y.kind] 40)).heap[w6.heap.size]? = some (.cells y.cells.toArray 40 (0, 0)) := heap_alloc_new _ _
        have B3 : (w6.alloc (.cells #[.int .i64 y.at_, .int .i64 y.flow, .int .i64 y.run, .int .i64 y.ref, .int .i64 y.turn, .int .i64 y.kind] 40)).heap[w5.heap.size]? = some (.cells y.cells.toArray 33 (0, 0)) := keep_box B2 ((Upd.refl _ _).alloc _)
        have hT7 := hT6.non ((Upd.refl Non w6).alloc (.cells #[.int .i64 y.at_, .int .i64 y.flow, .int .i64 y.run, .int .i64 y.ref, .int .i64 y.turn, .int .i64 y.kind] 40))
        clear HB5 S1 B1 B2 hq6 hT6 hT4 hsb
        go_wp2_with fail
        generalize w6.alloc (.cells #[.int .i64 y.at_, .int .i64 y.flow, .int .i64 y.run, .int .i64 y.ref, .int .i64 y.turn, .int .i64 y.kind] 40) = W7 at C2 B3 hT7 ⊢
        have hz5 : w5.heap.size = w5.heap.size := rfl
        obtain ⟨ga, hga⟩ : ∃ g, w5.heap.size = g := ⟨_, rfl⟩
        obtain ⟨gb, hgb⟩ : ∃ g, w6.heap.size = g := ⟨_, rfl⟩
        rw [hga] at B3 ⊢
        rw [hgb] at C2 ⊢
        have hS : ∀ W', Upd Non W7 W' → W'.cell? ⟨ga, 0, none⟩ = some (.int .i64 y.at_) ∧ W'.cell? ⟨ga, 1, none⟩ = some (.int .i64 y.flow) ∧ W'.cell? ⟨ga, 2, none⟩ = some (.int .i64 y.run) ∧ W'.cell? ⟨ga, 3, none⟩ = some (.int .i64 y.ref) ∧ W'.cell? ⟨ga, 4, none⟩ = some (.int .i64 y.turn) ∧ W'.cell? ⟨ga, 5, none⟩ = some (.int .i64 y.kind) ∧ W'.cell? ⟨gb, 0, none⟩ = some (.int .i64 y.at_) ∧ W'.cell? ⟨gb, 1, none⟩ = some (.int .i64 y.flow) ∧ W'.cell? ⟨gb, 2, none⟩ = some (.int .i64 y.run) ∧ W'.cell? ⟨gb, 3, none⟩ = some (.int .i64 y.ref) ∧ W'.cell? ⟨gb, 4, none⟩ = some (.int .i64 y.turn) ∧ W'.cell? ⟨gb, 5, none⟩ = some (.int .i64 y.kind) := fun W' hw => by
          obtain ⟨a0, a1, a2, a3, a4, a5⟩ := box6a (keep_box B3 hw)
          obtain ⟨b0, b1, b2, b3, b4, b5⟩ := box6a (keep_box C2 hw)
          exact ⟨a0, a1, a2, a3, a4, a5, b0, b1, b2, b3, b4, b5⟩
        have S0 := hS W7.drew (Upd.refl _ _).drew
        have hE := HHE.out
        have HC := Lib.hid hS
        clear hS hga hgb B3 C2 hz5
        go_region_held3 (fun W' => W'.cell? ⟨ga, 0, none⟩ = some (.int .i64 y.at_) ∧ W'.cell? ⟨ga, 1, none⟩ = some (.int .i64 y.flow) ∧ W'.cell? ⟨ga, 2, none⟩ = some (.int .i64 y.run) ∧ W'.cell? ⟨ga, 3, none⟩ = some (.int .i64 y.ref) ∧ W'.cell? ⟨ga, 4, none⟩ = some (.int .i64 y.turn) ∧ W'.cell? ⟨ga, 5, none⟩ = some (.int .i64 y.kind) ∧ W'.cell? ⟨gb, 0, none⟩ = some (.int .i64 y.at_) ∧ W'.cell? ⟨gb, 1, none⟩ = some (.int .i64 y.flow) ∧ W'.cell? ⟨gb, 2, none⟩ = some (.int .i64 y.run) ∧ W'.cell? ⟨gb, 3, none⟩ = some (.int .i64 y.ref) ∧ W'.cell? ⟨gb, 4, none⟩ = some (.int .i64 y.turn) ∧ W'.cell? ⟨gb, 5, none⟩ = some (.int .i64 y.kind))
          (first | exact S0 | exact Sa | go_keep)
          ((go_at_call 17; (with_reducible refine (HO _).mono ?_); rintro e w8 ⟨rfl, hu8⟩; have Sa := HC.out w8 (((Upd.refl _ _).drew).trans hu8)))
        have hTN := hT7.non (((Upd.refl Non W7).drew).trans hu8)
        clear HO HC S0 Sa hu8 hT7 hE
        have HLK := looks_spec w8 (Ext F W4 w5) Fr6 p q L2 hTN.1 hTN.2.1 (by omega)
        go_wp2_with fail
        refine HLK.mono ?_
        rintro e w9 ⟨rfl, hu9⟩
        have hTF := hTN.non hu9
        clear HLK hTN
        go_wp2_with fail
        go_roundw
        case rel => exact ⟨k + 1, L2, (Ext F W4 w5), Fr6, by omega, by go_num, hTF, hLN, hsN⟩
        case measure => simp [intOf]; omega
      by_cases g4 : xo = 4
      · subst g4
        obtain ⟨rv, hrv⟩ : ∃ r, ((L.length : Int) - (dropR L xi.flow xi.run).length) = r := ⟨_, rfl⟩
        obtain ⟨L2, hL2⟩ : ∃ L2, dropR L xi.flow xi.run = L2 := ⟨_, rfl⟩
        have hsN : Sorted L2 := by rw [← hL2]; exact sorted_drop hso _ _
        have hLN : L2.length ≤ k + 1 := by rw [← hL2]; have := len_drop L xi.flow xi.run; omega
        have HA : Calls Try.prog 25 #[.pointer (some ⟨p, 0, none⟩), .int .i64 xi.flow, .int .i64 xi.run] W4.drew fun e w' => e = .returned (.int .i64 rv) ∧ HStep 64 33 W4.drew F p L2 w' :=
          (drop_spec W4.drew F p L xi.flow xi.run (hT4.1.upd (Upd.refl Non _).drew fun _ _ h => h) (by omega)).mono fun e w' h => by unfold DropPost at h; rw [hrv, hL2] at h; exact h
        have S0 : W4.drew.cell? ⟨ra, 2, none⟩ = some (.int .i64 xi.flow) ∧ W4.drew.cell? ⟨ra, 3, none⟩ = some (.int .i64 xi.run) := by have := (hkeep W4.drew ⟨Non, (Upd.refl _ _).drew, id⟩).1; exact ⟨this.2.1, this.2.2.1⟩
        have SA : ∀ W, HStep 64 33 W4.drew F p L2 W → W.cell? ⟨ra, 2, none⟩ = some (.int .i64 xi.flow) ∧ W.cell? ⟨ra, 3, none⟩ = some (.int .i64 xi.run) := fun W hs => by have := (hkeep W ⟨F, ((Upd.refl Non W4).drew.mono fun _ _ h => h.elim).trans hs.1, hraF⟩).1; exact ⟨this.2.1, this.2.2.1⟩
        have SC : ∀ W W'', HStep 64 33 W4.drew F p L2 W → Upd (fun x => x = q) W W'' → W''.cell? ⟨ra, 2, none⟩ = some (.int .i64 xi.flow) ∧ W''.cell? ⟨ra, 3, none⟩ = some (.int .i64 xi.run) := fun W W'' hs hq => by have := (hkeep W'' ⟨fun x => F x ∨ x = q, (((Upd.refl Non W4).drew.mono fun _ _ h => h.elim).trans (hs.1.mono fun _ _ h => Or.inl h)).trans (hq.mono fun _ _ h => Or.inr h), fun h => h.elim hraF hraq⟩).1; exact ⟨this.2.1, this.2.2.1⟩
        have HB : ∀ W5, HStep 64 33 W4.drew F p L2 W5 → Calls Try.prog 26 #[.pointer (some ⟨q, 0, none⟩), .int .i64 xi.flow, .int .i64 xi.run] W5 fun e w' => e = .returned (.int .i64 rv) ∧ Upd (fun x => x = q) W5 w' ∧ ∃ Fr', Two w w' (Ext F W4.drew W5) p L2 Fr' q L2 := fun W5 hs => by
          have h6 := (hT4.non (Upd.refl Non _).drew).a hs
          exact (rdrop_spec W5 Fr q L xi.flow xi.run h6.2.1 (by omega)).mono fun e w' h => by
            unfold RDropPost at h; rw [hrv, hL2] at h; exact ⟨h.1, h.2.1, h6.b h.2⟩
        have v9 : (rv != rv) = false := by simp
        clear hrv hL2 hkeep
        go_wp2_with fail
        rw [← HW4.out, ← HRA.out]
        go_region_held3 (fun W' => W'.cell? ⟨ra, 2, none⟩ = some (.int .i64 xi.flow) ∧ W'.cell? ⟨ra, 3, none⟩ = some (.int .i64 xi.run))
          (first | exact S0 | exact Sa | exact Sc | go_keep)
          (first | (go_at_call 25; (with_reducible refine HA.mono ?_); rintro e w5 ⟨rfl, hs5⟩; have Sa := SA w5 hs5; have HB5 := HB w5 hs5) | (go_at_call 26; (with_reducible refine HB5.mono ?_); rintro e w7 ⟨rfl, hq7, Fr7, hTN⟩; have Sc := SC w5 w7 hs5 hq7))
        all_goals (
          clear HA HB HB5 SA SC S0 Sa Sc hs5 hq7 hT4
          have HLK := looks_spec w7 (Ext F W4.drew w5) Fr7 p q L2 hTN.1 hTN.2.1 (by omega)
          go_wp2_with fail
          refine HLK.mono ?_
          rintro e w9 ⟨rfl, hu9⟩
          have hTF := hTN.non hu9
          clear HLK hTN
          go_wp2_with fail
          go_roundw
          case rel => exact ⟨k + 1, L2, (Ext F W4.drew w5), Fr7, by omega, by go_num, hTF, hLN, hsN⟩
          case measure => simp [intOf]; omega)
      have t1 : (xo == 1) = false := by simpa using g1
      have t2 : (xo == 2) = false := by simpa using g2
      have t3 : (xo == 3) = false := by simpa using g3
      have t4 : (xo == 4) = false := by simpa using g4
      have hTN := hT4
      have hsN := hso
      have hLN : L.length ≤ k + 1 := by omega
      clear hkeep hT4
      go_wp2_with fail
      rw [← HW4.out]
      have HLK := looks_spec W4 F Fr p q L hTN.1 hTN.2.1 (by omega)
      go_wp2_with fail
      refine HLK.mono ?_
      rintro e w9 ⟨rfl, hu9⟩
      have hTF := hTN.non hu9
      clear HLK hTN
      go_wp2_with fail
      go_roundw
      case rel => exact ⟨k + 1, L, F, Fr, by omega, by go_num, hTF, hLN, hsN⟩
      case measure => simp [intOf]; omega
    · obtain rfl : k = N := by omega
      go_wp2_with fail
      go_ret
      exact ⟨rfl, hT.2.2.1.below⟩
set_option maxRecDepth 100000 in
theorem timersPlays_lifted (os : Os) (started : os.Started) (H : Type) (enc : TypeId × Value → H) :
    ReturnsInHanded {} Try.checked os 6 .any (Rows.timersPlaysSpec.pre6 enc Try.prog Try.f6 Rows.timersPlaysRow.domain false) (Rows.timersPlaysSpec.post enc Try.prog Try.f6 false true false false) := by
  refine returnsInHanded_of_change_sized (C := Try.checked) own started (by kernel_rfl) Try.func6
    (ChangeSpec.witness6 (enc := enc) (C := Try.checked) false ⟨#[], #[.slice none 0 0], []⟩ 8 (by kernel_rfl) (by kernel_rfl) (by kernel_rfl) (by kernel_rfl)) ?_
  intro W base args ds gs before hval0 hW hcnd hsz0 _
  have hval : ∀ (j : Nat) t v, Try.f6.params[j]? = some t → args[j]? = some v → Value.okWide Try.prog W .any base t v := hval0
  have hW' := hW
  obtain ⟨p, q, hA0, hV, rfl, hfz, hnd⟩ := hW
  have hA : DataW.TrodAll enc Try.prog W 0 (fun _ => true) true Try.f6.params.toList args.toList ds p := hA0
  have hsz : (DataW.weightsEach Try.prog (Try.f6.params.toList ++ Rows.timersPlaysSpec.plain.varTypes Try.prog) (ds ++ gs)).all (· ≤ reachBytes) = true := hsz0
  rw [Try.params6] at hA hval hsz
  obtain ⟨v0, vs0, d0, ds0, p0, q0, hargs, rfl, rfl, h0, r0⟩ := trodAll_cons hA
  obtain ⟨rfl, rfl, rfl⟩ := trodAll_nil r0
  obtain rfl : args = #[v0] := by cases args; simp_all
  obtain ⟨rfl, rfl⟩ := trodVars_none hV
  obtain ⟨a0, len0, cap0, rfl⟩ := okWide_slice Try.underlying47 (hval 0 47 v0 rfl rfl)
  have lt0 : ∀ x ∈ p0, x.block < W.heap.size := by obtain ⟨m, hm⟩ := h0; exact DataW.trod_lt m _ _ _ hm
  obtain ⟨x0, hx0, lx0⟩ := open_arg opens_act Try.underlying47 (by kernel_rfl) rfl h0 (weights_of hsz (j := 0) rfl rfl)
  rw [show Try.prog.bytesOf 53 = 64 from by kernel_rfl] at lx0
  simp only [reachBytes] at lx0
  clear hA0 hval0
  refine (plays_walk W _ x0 hx0).mono fun e W' ⟨he, bel⟩ => ?_
  subst he
  exact ⟨_, rfl, _, _, _, [], _, [], hW', trodAll_mk1 (shut_bool Try.underlying4 _), (trodAll_cons_mk (Below.trod laidOut (by kernel_rfl) (of_decide_eq_true (by kernel_rfl)) h0 bel lt0) trodAll_mk0), rfl, bel.frame _, fun h => by cases h⟩

theorem timersPlays_over : Rows.timersPlaysRow.holds Try.pinned (OpenSpec.ofChange Rows.timersPlaysSpec) :=
  OpenClaim.holds_of_wide 6 Try.f6 rfl rfl rfl rfl rfl rfl rfl ⟨rfl, rfl, rfl, rfl, rfl⟩ rfl rfl rfl rfl rfl (by kernel_rfl) Try.func6 (by kernel_rfl)
    (of_decide_eq_true (by kernel_rfl)) (by unfold Func.isWrapper; first | (rw [if_pos (by decide +kernel)]; kernel_rfl) | (rw [if_neg (by decide +kernel)]; exact ⟨rfl, rfl⟩))
    (fun os started H enc _ => timersPlays_lifted os started H enc)

theorem timersPlays_holds : Rows.TimersPlaysSaid := timersPlays_over
#print axioms timersPlays_holds

end Go.Proofs.Ytnaldifgnpnbhaa
