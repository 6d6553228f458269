/-
  The reference's Between.
-/
import Derived.Test.YtgjikmpeeipboaaS1
namespace Go.Proofs.Ytgjikmpeeipboaa
open Go.RowKit
theorem near_spec (w : World) (v : Int) : Calls Try.prog 38 #[.int .i64 v] w fun e w' => e = .returned (.bool (decide (-1099511627776 ≤ v) && decide (v ≤ 1099511627776))) ∧ w = w' := by
  by_cases h : -1099511627776 ≤ v
  · have t1 : decide (-1099511627776 ≤ v) = true := decide_eq_true h
    rw [t1]
    go_enter Try.func38, Try.ntmps38
    go_wp2
    go_ret
    exact ⟨rfl, rfl⟩
  · have t1 : decide (-1099511627776 ≤ v) = false := decide_eq_false h
    rw [t1]
    go_enter Try.func38, Try.ntmps38
    go_wp2
    go_ret
    exact ⟨rfl, rfl⟩
theorem rbetween_spec (w : World) (p : Nat) (s c lo hi : Int) (h : SrcAt w 42 p s c) (hc : 0 ≤ c ∧ c ≤ 1000000) (hl : IB lo) (hh : IB hi) : Calls Try.prog 21 #[.pointer (some ⟨p, 0, none⟩), .int .i64 lo, .int .i64 hi] w (BetPost w 42 p s c lo hi) := by
  unfold IB at hl hh
  have hsame := fun (hn : ¬ inR lo hi) => bet_same h hn
  have HN := fun W v => near_spec W v
  by_cases a1 : -1099511627776 ≤ lo ∧ lo ≤ 1099511627776
  · have n1 : (decide (-1099511627776 ≤ lo) && decide (lo ≤ 1099511627776)) = true := by simp [a1.1, a1.2]
    have HN1 := fun W => HN W lo
    rw [n1] at HN1
    by_cases a2 : -1099511627776 ≤ hi ∧ hi ≤ 1099511627776
    · have n2 : (decide (-1099511627776 ≤ hi) && decide (hi ≤ 1099511627776)) = true := by simp [a2.1, a2.2]
      have HN2 := fun W => HN W hi
      rw [n2] at HN2
      by_cases h1 : hi < lo
      · have hend := hsame fun hr => hr.1 h1
        have t1 : decide (hi < lo) = true := decide_eq_true h1
        clear hsame HN
        go_enter Try.func21, Try.ntmps21
        go_wp2_with (first | ((with_reducible refine (HN1 _).mono ?_); rintro e w' ⟨rfl, rfl⟩) | ((with_reducible refine (HN2 _).mono ?_); rintro e w' ⟨rfl, rfl⟩))
        go_ret
        exact hend
      by_cases h4 : 1099511627776 ≤ hi - lo
      · have hend := hsame fun hr => hr.2.2.2 h4
        have t1 : decide (hi < lo) = false := decide_eq_false h1
        have t4 : decide (1099511627776 ≤ hi - lo) = true := decide_eq_true h4
        clear hsame HN
        go_enter Try.func21, Try.ntmps21
        go_wp2_with (first | ((with_reducible refine (HN1 _).mono ?_); rintro e w' ⟨rfl, rfl⟩) | ((with_reducible refine (HN2 _).mono ?_); rintro e w' ⟨rfl, rfl⟩))
        go_ret
        exact hend
      · have hr : inR lo hi := ⟨h1, by omega, by omega, h4⟩
        have t1 : decide (hi < lo) = false := decide_eq_false h1
        have t4 : decide (1099511627776 ≤ hi - lo) = false := decide_eq_false h4
        have hb := belowV_b s (hi - lo + 1) (by omega)
        have hend := fun w' (hp : BelowPost w 42 p s c (hi - lo + 1) (.returned (.int .i64 (belowV s (hi - lo + 1)))) w') => bet_in hr hp
        have H := rbelow_spec w p s c (hi - lo + 1) h hc (by omega)
        have H2 : Calls Try.prog 20 #[.pointer (some ⟨p, 0, none⟩), .int .i64 (hi - lo + 1)] w fun e w' => e = .returned (.int .i64 (belowV s (hi - lo + 1))) ∧ BelowPost w 42 p s c (hi - lo + 1) (.returned (.int .i64 (belowV s (hi - lo + 1)))) w' := H.mono fun e w' hp => ⟨hp.1, rfl, hp.2⟩
        clear hsame H hr HN
        generalize belowV s (hi - lo + 1) = v at H2 hend hb
        go_enter Try.func21, Try.ntmps21
        go_wp2_with (first | ((with_reducible refine (HN1 _).mono ?_); rintro e w' ⟨rfl, rfl⟩) | ((with_reducible refine (HN2 _).mono ?_); rintro e w' ⟨rfl, rfl⟩) | ((with_reducible refine H2.mono ?_); rintro e w' ⟨rfl, hd⟩))
        go_ret
        exact hend _ hd
    · have n2 : (decide (-1099511627776 ≤ hi) && decide (hi ≤ 1099511627776)) = false := by simp; omega
      have HN2 := fun W => HN W hi
      rw [n2] at HN2
      have hend := hsame fun hr => by obtain ⟨r1, r2, r3, r4⟩ := hr; omega
      clear hsame HN
      go_enter Try.func21, Try.ntmps21
      go_wp2_with (first | ((with_reducible refine (HN1 _).mono ?_); rintro e w' ⟨rfl, rfl⟩) | ((with_reducible refine (HN2 _).mono ?_); rintro e w' ⟨rfl, rfl⟩))
      go_ret
      exact hend
  · have n1 : (decide (-1099511627776 ≤ lo) && decide (lo ≤ 1099511627776)) = false := by simp; omega
    have HN1 := fun W => HN W lo
    rw [n1] at HN1
    have hend := hsame fun hr => by obtain ⟨r1, r2, r3, r4⟩ := hr; omega
    clear hsame HN
    go_enter Try.func21, Try.ntmps21
    go_wp2_with ((with_reducible refine (HN1 _).mono ?_); rintro e w' ⟨rfl, rfl⟩)
    go_ret
    exact hend
end Go.Proofs.Ytgjikmpeeipboaa
