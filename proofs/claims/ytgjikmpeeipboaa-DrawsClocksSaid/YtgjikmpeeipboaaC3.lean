/-
  The order of alarms, as the program compares.
-/
import Derived.Test.YtgjikmpeeipboaaC2
import Derived.Test.YtgjikmpeeipboaaL1
namespace Go.Proofs.Ytgjikmpeeipboaa
open Go.RowKit
theorem isNaN_spec (w : World) (x : Int) : Calls Try.prog 44 #[.int .i64 x] w fun e w' => e = .returned (.bool false) ∧ w = w' := by
  have h : ((x == x) = true) := by simp
  go_enter Try.func44, Try.ntmps44
  go_wp2
  go_ret
  exact ⟨rfl, rfl⟩
def cmpI (a b : Int) : Int := if a < b then -1 else if b < a then 1 else 0
theorem compare_spec (w : World) (a b : Int) : Calls Try.prog 35 #[.int .i64 a, .int .i64 b] w fun e w' => e = .returned (.int .i64 (cmpI a b)) ∧ w = w' := by
  have H := fun x => isNaN_spec w x
  by_cases h1 : a < b
  · have e1 : cmpI a b = -1 := by simp [cmpI, h1]
    have t1 : decide (a < b) = true := decide_eq_true h1
    rw [e1]
    go_enter Try.func35, Try.ntmps35
    go_wp2_with ((with_reducible refine (H _).mono ?_); rintro e w' ⟨rfl, rfl⟩)
    go_ret
    exact ⟨rfl, rfl⟩
  by_cases h2 : b < a
  · have e1 : cmpI a b = 1 := by simp [cmpI, h1, h2]
    have t1 : decide (a < b) = false := decide_eq_false h1
    have t2 : decide (b < a) = true := decide_eq_true h2
    rw [e1]
    go_enter Try.func35, Try.ntmps35
    go_wp2_with ((with_reducible refine (H _).mono ?_); rintro e w' ⟨rfl, rfl⟩)
    go_ret
    exact ⟨rfl, rfl⟩
  · have e1 : cmpI a b = 0 := by simp [cmpI, h1, h2]
    have t1 : decide (a < b) = false := decide_eq_false h1
    have t2 : decide (b < a) = false := decide_eq_false h2
    rw [e1]
    go_enter Try.func35, Try.ntmps35
    go_wp2_with ((with_reducible refine (H _).mono ?_); rintro e w' ⟨rfl, rfl⟩)
    go_ret
    exact ⟨rfl, rfl⟩
def orI (a b : Int) : Int := if a = 0 then b else a
theorem or_spec (w : World) (g c : Nat) (x y : Int) (h0 : w.cell? ⟨g, 0, none⟩ = some (.int .i64 x)) (h1 : w.cell? ⟨g, 1, none⟩ = some (.int .i64 y)) :
    Calls Try.prog 34 #[.slice (some ⟨g, 0, none⟩) 2 c] w fun e w' => e = .returned (.int .i64 (orI x y)) ∧ w = w' := by
  by_cases hx : x = 0
  · have ex : orI x y = y := by simp [orI, hx]
    rw [ex]
    subst hx
    have n0 : ((0 : Int) != 0) = false := rfl
    go_enter Try.func34, Try.ntmps34
    go_wp2
    go_loopw [8] (fun vi wr => wr = w ∧ (vi = .int .i64 0 ∨ vi = .int .i64 1 ∨ (vi = .int .i64 2 ∧ y = 0))) (fun vi _ => 2 - (intOf vi).toNat)
    case atStart => exact ⟨rfl, .inl rfl⟩
    case round =>
      obtain ⟨rfl, rfl | rfl | ⟨rfl, hy⟩⟩ := hrel
      · go_wp2
        go_roundw
        case rel => exact ⟨by simp, .inr (.inl (by simp))⟩
        case measure => decide
      · by_cases hy : y = 0
        · subst hy
          go_wp2
          go_roundw
          case rel => exact ⟨by simp, .inr (.inr (by simp))⟩
          case measure => decide
        · have n1 : (y != 0) = true := by simpa using hy
          go_wp2
          go_ret
          exact ⟨rfl, rfl⟩
      · subst hy
        go_wp2
        go_ret
        exact ⟨rfl, rfl⟩
  · have ex : orI x y = x := by simp [orI, hx]
    rw [ex]
    have n0 : (x != 0) = true := by simpa using hx
    go_enter Try.func34, Try.ntmps34
    go_wp2
    go_loopw [8] (fun vi wr => wr = w ∧ vi = .int .i64 0) (fun vi _ => 2 - (intOf vi).toNat)
    case atStart => exact ⟨rfl, rfl⟩
    case round =>
      obtain ⟨rfl, rfl⟩ := hrel
      go_wp2
      go_ret
      exact ⟨rfl, rfl⟩

/-- the order in which alarms are told -/
def cfA (f : Int → Int) (x y : Int) : Int := orI (cmpI (f x) (f y)) (cmpI x y)
/-- what the closure sees: the box that it is bound to -/
def Sees (w : World) (B p b : Nat) (D : DataW Unit) : Prop :=
  w.cell? ⟨B, 0, none⟩ = some (.pointer (some ⟨p, 0, none⟩)) ∧ w.cell? ⟨p, 1, none⟩ = some (.map (some b)) ∧ ∃ n, w.ownsMap Try.prog 3 (plainElem Try.prog 3) b n D
def CmpPost (f : Int → Int) (x y : Int) (w : World) (e : Ending) (w' : World) : Prop := e = .returned (.int .i64 (cfA f x y)) ∧ ∃ q os, w' = Sort.grow (w.drewN q) os
theorem sees_facts {W : World} {B p b : Nat} {D : DataW Unit} {L : List Alm} (hs : Sees W B p b D) (hL : MapL D L) {x y : Int} (hx : IB x) (hy : IB y) :
    W.cell? ⟨B, 0, none⟩ = some (.pointer (some ⟨p, 0, none⟩)) ∧ W.cell? ⟨p, 1, none⟩ = some (.map (some b)) ∧ (Instr.lookup 32 (.map (some b)) (.int .i64 x) false).run Try.prog W = .ok (.int .i64 (valA L x)) W ∧ (Instr.lookup 32 (.map (some b)) (.int .i64 y) false).run Try.prog W = .ok (.int .i64 (valA L y)) W := by
  obtain ⟨hB, hp, n, hown⟩ := hs
  have hz : ∀ W, (zeroValue 3).run Try.prog W = .ok (.int .i64 0) W := Try.zeroValue3
  obtain ⟨c1, r1, a1, _⟩ := hown.lookup_int key3 Try.underlying32 Try.underlying3 (hz _) (key3_of hx)
  obtain ⟨c2, r2, a2, _⟩ := hown.lookup_int key3 Try.underlying32 Try.underlying3 (hz _) (key3_of hy)
  rw [hL.2.2] at a1 a2
  simp only [DataW.lit.injEq, Lit.int.injEq, true_and] at a1 a2
  subst a1 a2
  exact ⟨hB, hp, r1, r2⟩
theorem Sees.upd {S : Nat → Prop} {w w' : World} {B p b : Nat} {D : DataW Unit} (h : Sees w B p b D) (hu : Upd S w w') (hB : ¬ S B) (hp : ¬ S p) (hb : ¬ S b) : Sees w' B p b D := by
  obtain ⟨h1, h2, n, h3⟩ := h
  exact ⟨(hu.cell (p := ⟨B, 0, none⟩) (World.block_lt_of_cell? w _ h1) hB).trans h1, (hu.cell (p := ⟨p, 1, none⟩) (World.block_lt_of_cell? w _ h2) hp).trans h2, n, owns_upd h3 (hu.block b h3.lt hb)⟩
set_option maxHeartbeats 1000000 in
theorem cmp_spec (w : World) (B p b : Nat) (D : DataW Unit) (L : List Alm) (hs : Sees w B p b D) (hL : MapL D L) (x y : Int) (hx : IB x) (hy : IB y) :
    Calls Try.prog 33 #[.int .i64 x, .int .i64 y, .pointer (some ⟨B, 0, none⟩)] w (CmpPost (valA L) x y w) := by
  have hend : ∀ o, CmpPost (valA L) x y w (.returned (.int .i64 (orI (cmpI (valA L x) (valA L y)) (cmpI x y)))) ((w.alloc o).drew) := fun o => ⟨rfl, 1, #[o], by rw [Sort.alloc_eq_grow]; rfl⟩
  have S0 := sees_facts (hs.upd ((Upd.refl Non w).drew) id id id) hL hx hy
  have S1 := fun o => sees_facts (hs.upd (((Upd.refl Non w).alloc o).drew) id id id) hL hx hy
  have HC := fun W a b => compare_spec W a b
  have HO := or_spec ((w.alloc (.cells #[.int .i64 (cmpI (valA L x) (valA L y)), .int .i64 (cmpI x y)] 3)).drew) w.heap.size 2 (cmpI (valA L x) (valA L y)) (cmpI x y) (blk_at (heap_alloc_new w _) 0) (blk_at (heap_alloc_new w _) 1)
  obtain ⟨hB, hp, n, hown⟩ := hs
  generalize valA L x = vx at *
  generalize valA L y = vy at *
  go_enter Try.func33, Try.ntmps33
  go_wp2_with fail
  go_region_held3 (fun W' => W'.cell? ⟨B, 0, none⟩ = some (.pointer (some ⟨p, 0, none⟩)) ∧ W'.cell? ⟨p, 1, none⟩ = some (.map (some b)) ∧ (Instr.lookup 32 (.map (some b)) (.int .i64 x) false).run Try.prog W' = .ok (.int .i64 vx) W' ∧ (Instr.lookup 32 (.map (some b)) (.int .i64 y) false).run Try.prog W' = .ok (.int .i64 vy) W')
    (first | exact S0 | exact S1 _ | go_keep)
    (first | (go_at_call 35; (with_reducible refine (HC _ _ _).mono ?_); rintro e w' ⟨rfl, rfl⟩) | (go_at_call 34; (with_reducible refine HO.mono ?_); rintro e w' ⟨rfl, rfl⟩))
  all_goals (go_wp2; go_ret; exact hend _)
end Go.Proofs.Ytgjikmpeeipboaa
