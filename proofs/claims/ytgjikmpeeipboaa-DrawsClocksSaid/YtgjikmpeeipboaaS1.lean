/-
  The source of draws.
-/
import Derived.Test.YtgjikmpeeipboaaBase
import Derived.Test.YtgjikmpeeipboaaChecked
import Derived.OpenShut
namespace Go.Proofs.Ytgjikmpeeipboaa
open Go.RowKit
/-- a whole number of the machine -/
def IB (x : Int) : Prop := -9223372036854775808 ≤ x ∧ x ≤ 9223372036854775807
/-- what a draw makes of a state -/
def mixU (u : Int) : Int :=
  bits BinOp.xor IntKind.u64 (IntKind.u64.wrap (bits BinOp.xor IntKind.u64 (IntKind.u64.wrap (bits BinOp.xor IntKind.u64 u (u / 1073741824) * 13787848793156543929)) (IntKind.u64.wrap (bits BinOp.xor IntKind.u64 u (u / 1073741824) * 13787848793156543929) / 134217728) * 10723151780598845931))
    (IntKind.u64.wrap (bits BinOp.xor IntKind.u64 (IntKind.u64.wrap (bits BinOp.xor IntKind.u64 u (u / 1073741824) * 13787848793156543929)) (IntKind.u64.wrap (bits BinOp.xor IntKind.u64 u (u / 1073741824) * 13787848793156543929) / 134217728) * 10723151780598845931) / 2147483648)
def stepU (s : Int) : Int := IntKind.u64.wrap (s + 11400714819323198485)
theorem wrap_u64b (x : Int) : 0 ≤ IntKind.u64.wrap x ∧ IntKind.u64.wrap x ≤ 18446744073709551615 := bounds_u64 (wf_wrap _ _)
theorem stepU_b (s : Int) : 0 ≤ stepU s ∧ stepU s ≤ 18446744073709551615 := wrap_u64b _
theorem mixU_b (u : Int) : 0 ≤ mixU u ∧ mixU u ≤ 18446744073709551615 := bounds_u64 (wf_bits _ _ _ _)
theorem u64_back {v : Int} (h : 0 ≤ v ∧ v ≤ 18446744073709551615) : IntKind.u64.wrap (wrap64 v) = v := by
  simp only [IntKind.wrap, IntKind.bits, IntKind.signed, wrap64]
  simp
  omega
theorem u64_id {v : Int} (h : 0 ≤ v ∧ v ≤ 18446744073709551615) : IntKind.u64.wrap v = v := by
  simp only [IntKind.wrap, IntKind.bits, IntKind.signed]
  simp
  omega

/-- the block of a source -/
def SrcAt (w : World) (T : TypeId) (p : Nat) (s c : Int) : Prop := w.heap[p]? = some (.cells #[.int .u64 s, .int .i64 c] T (0, 0)) ∧ (0 ≤ s ∧ s ≤ 18446744073709551615)
theorem SrcAt.upd {S : Nat → Prop} {w w' : World} {T : TypeId} {p : Nat} {s c : Int} (h : SrcAt w T p s c) (hu : Upd S w w') (hp : ¬ S p) : SrcAt w' T p s c :=
  ⟨(hu.block p (blk_lt h.1) hp).trans h.1, h.2⟩
theorem SrcAt.drew {w : World} {T : TypeId} {p : Nat} {s c : Int} (h : SrcAt w T p s c) : SrcAt w.drew T p s c := h

theorem hash_spec (w : World) (v : Int) : Calls Try.prog 36 #[.int .i64 v] w fun e w' => e = .returned (.int .u64 (mixU (IntKind.u64.wrap v))) ∧ w = w' := by
  go_enter Try.func36, Try.ntmps36
  go_wp2
  go_ret
  exact ⟨rfl, rfl⟩
theorem mix_spec (w : World) (v : Int) : Calls Try.prog 37 #[.int .u64 v] w fun e w' => e = .returned (.int .u64 (mixU v)) ∧ w = w' := by
  go_enter Try.func37, Try.ntmps37
  go_wp2
  go_ret
  exact ⟨rfl, rfl⟩

theorem new_spec (w : World) (s : Int) (h : 0 ≤ s ∧ s ≤ 18446744073709551615) : Calls Try.prog 9 #[.int .u64 s] w fun e w' => e = .returned (.pointer (some ⟨w.heap.size, 0, none⟩)) ∧ Upd Non w w' ∧ SrcAt w' 61 w.heap.size s 0 := by
  go_enter Try.func9, Try.ntmps9
  go_wp2
  go_ret
  exact ⟨rfl, (Upd.refl _ _).alloc _, heap_alloc_new w _, h⟩
theorem count_spec (w : World) (p : Nat) (s c : Int) (h : SrcAt w 61 p s c) : Calls Try.prog 23 #[.pointer (some ⟨p, 0, none⟩)] w fun e w' => e = .returned (.int .i64 c) ∧ w = w' := by
  have c1 : w.cell? ⟨p, 1, none⟩ = some (.int .i64 c) := blk_at h.1 1
  go_enter Try.func23, Try.ntmps23
  go_wp2
  go_ret
  exact ⟨rfl, rfl⟩
theorem twin_spec (w : World) (p : Nat) (s c : Int) (h : SrcAt w 61 p s c) : Calls Try.prog 22 #[.pointer (some ⟨p, 0, none⟩)] w fun e w' => e = .returned (.pointer (some ⟨w.heap.size, 0, none⟩)) ∧ Upd Non w w' ∧ SrcAt w' 61 w.heap.size s c := by
  have c0 : w.cell? ⟨p, 0, none⟩ = some (.int .u64 s) := blk_at h.1 0
  have c1 : w.cell? ⟨p, 1, none⟩ = some (.int .i64 c) := blk_at h.1 1
  have hlt := blk_lt h.1
  go_enter Try.func22, Try.ntmps22
  go_wp2
  go_ret
  exact ⟨rfl, (Upd.refl _ _).alloc _, heap_alloc_new w _, h.2⟩

/-- the source behind one draw -/
def Drawn (w : World) (T : TypeId) (p : Nat) (s c : Int) (w' : World) : Prop := Upd (fun k => k = p) w w' ∧ SrcAt w' T p (stepU s) (c + 1)
theorem next_end {w : World} {T : TypeId} {p : Nat} {s c : Int} (h : SrcAt w T p s c) : Drawn w T p s c ((w.setCell ⟨p, 0, none⟩ (.int .u64 (stepU s))).setCell ⟨p, 1, none⟩ (.int .i64 (c + 1))) := by
  refine ⟨(Upd.set (S := fun k => k = p) (Upd.refl _ w) (p := ⟨p, 0, none⟩) (.inr rfl) _).set (p := ⟨p, 1, none⟩) (.inr rfl) _, ?_, stepU_b s⟩
  have := blk_set (blk_set h.1 0 (.int .u64 (stepU s))) 1 (.int .i64 (c + 1))
  simpa using this
theorem next_spec (w : World) (p : Nat) (s c : Int) (h : SrcAt w 61 p s c) (hc : 0 ≤ c ∧ c ≤ 1000000) : Calls Try.prog 18 #[.pointer (some ⟨p, 0, none⟩)] w fun e w' => e = .returned (.int .u64 (mixU (stepU s))) ∧ Drawn w 61 p s c w' := by
  have c0 : w.cell? ⟨p, 0, none⟩ = some (.int .u64 s) := blk_at h.1 0
  have c1 : w.cell? ⟨p, 1, none⟩ = some (.int .i64 c) := blk_at h.1 1
  have f0 : ∀ i, w.frozen? ⟨p, i, none⟩ = false := fun i => blk_free h.1 i
  have hw : IntKind.u64.wrap (s + 11400714819323198485) = stepU s := rfl
  have hw1 : IntKind.i64.wrap (c + 1) = c + 1 := by rw [IntKind.wrap_i64]; omega
  have hend := next_end h
  have hb := stepU_b s
  have H := fun w => hash_spec w (wrap64 (stepU s))
  rw [u64_back hb] at H
  go_enter Try.func18, Try.ntmps18
  go_wp2_with ((with_reducible refine (H _).mono ?_); rintro e w' ⟨rfl, rfl⟩)
  go_ret
  exact ⟨rfl, hend⟩
theorem rnext_spec (w : World) (p : Nat) (s c : Int) (h : SrcAt w 42 p s c) (hc : 0 ≤ c ∧ c ≤ 1000000) : Calls Try.prog 19 #[.pointer (some ⟨p, 0, none⟩)] w fun e w' => e = .returned (.int .u64 (mixU (stepU s))) ∧ Drawn w 42 p s c w' := by
  have c0 : w.cell? ⟨p, 0, none⟩ = some (.int .u64 s) := blk_at h.1 0
  have c1 : w.cell? ⟨p, 1, none⟩ = some (.int .i64 c) := blk_at h.1 1
  have f0 : ∀ i, w.frozen? ⟨p, i, none⟩ = false := fun i => blk_free h.1 i
  have hw : IntKind.u64.wrap (s + 11400714819323198485) = stepU s := rfl
  have hw1 : IntKind.i64.wrap (c + 1) = c + 1 := by rw [IntKind.wrap_i64]; omega
  have hend := next_end h
  have hb := stepU_b s
  have H := fun w => mix_spec w (stepU s)
  go_enter Try.func19, Try.ntmps19
  go_wp2_with ((with_reducible refine (H _).mono ?_); rintro e w' ⟨rfl, rfl⟩)
  go_ret
  exact ⟨rfl, hend⟩

/-- what Below draws: its answer, the state, the count -/
def belowV (s n : Int) : Int := if n < 1 then 0 else mixU (stepU s) % n
def belowS (s n : Int) : Int := if n < 1 then s else stepU s
def belowC (c n : Int) : Int := if n < 1 then c else c + 1
def BelowPost (w : World) (T : TypeId) (p : Nat) (s c n : Int) (e : Ending) (w' : World) : Prop := e = .returned (.int .i64 (belowV s n)) ∧ Upd (fun k => k = p) w w' ∧ SrcAt w' T p (belowS s n) (belowC c n)
theorem rem_facts {m n : Int} (h1 : 1 ≤ n) (h2 : n ≤ 9223372036854775807) : IntKind.u64.wrap n = n ∧ IntKind.i64.wrap (m % n) = m % n ∧ IntKind.u64.wrap (m % n) = m % n ∧ 0 ≤ m % n ∧ m % n < n ∧ m % n ≤ 9223372036854775807 := by
  have a1 := Int.emod_nonneg m (show n ≠ 0 by omega)
  have a2 := Int.emod_lt_of_pos m (show 0 < n by omega)
  refine ⟨u64_id (by omega), ?_, u64_id (by omega), a1, a2, by omega⟩
  rw [IntKind.wrap_i64]; omega
theorem below_post {w w' : World} {T : TypeId} {p : Nat} {s c n : Int} (h : Drawn w T p s c w') (hn : 1 ≤ n) : BelowPost w T p s c n (.returned (.int .i64 (mixU (stepU s) % n))) w' := by
  have h1 : ¬ n < 1 := by omega
  simp only [BelowPost, belowV, belowS, belowC, if_neg h1]
  exact ⟨trivial, h.1, h.2⟩
theorem below_same {w : World} {T : TypeId} {p : Nat} {s c n : Int} (h : SrcAt w T p s c) (hn : n < 1) : BelowPost w T p s c n (.returned (.int .i64 0)) w := by
  simp only [BelowPost, belowV, belowS, belowC, if_pos hn]
  exact ⟨trivial, Upd.refl _ _, h⟩
theorem below_spec (w : World) (p : Nat) (s c n : Int) (h : SrcAt w 61 p s c) (hc : 0 ≤ c ∧ c ≤ 1000000) (hn : n ≤ 9223372036854775807) : Calls Try.prog 11 #[.pointer (some ⟨p, 0, none⟩), .int .i64 n] w (BelowPost w 61 p s c n) := by
  rcases Int.lt_or_le n 1 with h1 | h1
  · have hend := below_same h h1
    have ht : decide (n < 1) = true := decide_eq_true h1
    go_enter Try.func11, Try.ntmps11
    go_wp2
    go_ret
    exact hend
  · have ht : decide (n < 1) = false := decide_eq_false (by omega)
    have hend := fun w' (h : Drawn w 61 p s c w') => below_post (n := n) h h1
    have H := next_spec w p s c h hc
    obtain ⟨e1, e2, e3, e4, e5, e6⟩ := rem_facts (m := mixU (stepU s)) h1 hn
    have e8 : wrap64 ((mixU (stepU s)).tmod n) = mixU (stepU s) % n := by rw [Int.tmod_eq_emod_of_nonneg (mixU_b _).1]; unfold wrap64; omega
    have e7 : (n == 0) = false := by simp; omega
    go_enter Try.func11, Try.ntmps11
    go_wp2_with ((with_reducible refine H.mono ?_); rintro e w' ⟨rfl, hd⟩)
    go_ret
    have := hend _ hd
    rw [← e8] at this
    exact this
theorem rbelow_spec (w : World) (p : Nat) (s c n : Int) (h : SrcAt w 42 p s c) (hc : 0 ≤ c ∧ c ≤ 1000000) (hn : n ≤ 9223372036854775807) : Calls Try.prog 20 #[.pointer (some ⟨p, 0, none⟩), .int .i64 n] w (BelowPost w 42 p s c n) := by
  rcases Int.lt_or_le n 1 with h1 | h1
  · have hend := below_same h h1
    have ht : decide (n < 1) = true := decide_eq_true h1
    go_enter Try.func20, Try.ntmps20
    go_wp2
    go_ret
    exact hend
  · have ht : decide (n < 1) = false := decide_eq_false (by omega)
    have hend := fun w' (h : Drawn w 42 p s c w') => below_post (n := n) h h1
    have H := rnext_spec w p s c h hc
    obtain ⟨e1, e2, e3, e4, e5, e6⟩ := rem_facts (m := mixU (stepU s)) h1 hn
    have e8 : wrap64 ((mixU (stepU s)).tmod n) = mixU (stepU s) % n := by rw [Int.tmod_eq_emod_of_nonneg (mixU_b _).1]; unfold wrap64; omega
    have e7 : (n == 0) = false := by simp; omega
    go_enter Try.func20, Try.ntmps20
    go_wp2_with ((with_reducible refine H.mono ?_); rintro e w' ⟨rfl, hd⟩)
    go_ret
    have := hend _ hd
    rw [← e8] at this
    exact this

/-- what Between draws -/
def inR (lo hi : Int) : Prop := ¬ hi < lo ∧ ¬ lo < -1099511627776 ∧ ¬ 1099511627776 < hi ∧ ¬ 1099511627776 ≤ hi - lo
instance (lo hi : Int) : Decidable (inR lo hi) := by unfold inR; infer_instance
def betV (s lo hi : Int) : Int := if inR lo hi then lo + belowV s (hi - lo + 1) else lo
def betS (s lo hi : Int) : Int := if inR lo hi then stepU s else s
def betC (c lo hi : Int) : Int := if inR lo hi then c + 1 else c
def BetPost (w : World) (T : TypeId) (p : Nat) (s c lo hi : Int) (e : Ending) (w' : World) : Prop := e = .returned (.int .i64 (betV s lo hi)) ∧ Upd (fun k => k = p) w w' ∧ SrcAt w' T p (betS s lo hi) (betC c lo hi)
theorem bet_same {w : World} {T : TypeId} {p : Nat} {s c lo hi : Int} (h : SrcAt w T p s c) (hn : ¬ inR lo hi) : BetPost w T p s c lo hi (.returned (.int .i64 lo)) w := by
  simp only [BetPost, betV, betS, betC, if_neg hn]
  exact ⟨trivial, Upd.refl _ _, h⟩
theorem bet_in {w w' : World} {T : TypeId} {p : Nat} {s c lo hi : Int} (hn : inR lo hi) {v : Int} (h : BelowPost w T p s c (hi - lo + 1) (.returned (.int .i64 v)) w') : BetPost w T p s c lo hi (.returned (.int .i64 (lo + v))) w' := by
  obtain ⟨h1, h2, h3, h4⟩ := hn
  have hb : ¬ (hi - lo + 1 < 1) := by omega
  obtain ⟨e, hu, hs⟩ := h
  simp only [belowS, belowC, if_neg hb] at hs
  simp only [BetPost, betV, betS, betC, if_pos (show inR lo hi from ⟨h1, h2, h3, h4⟩)]
  cases e
  exact ⟨rfl, hu, hs⟩
theorem belowV_b (s n : Int) (h : 1 ≤ n) : 0 ≤ belowV s n ∧ belowV s n < n := by
  unfold belowV
  rw [if_neg (by omega)]
  exact ⟨Int.emod_nonneg _ (by omega), Int.emod_lt_of_pos _ (by omega)⟩
theorem between_spec (w : World) (p : Nat) (s c lo hi : Int) (h : SrcAt w 61 p s c) (hc : 0 ≤ c ∧ c ≤ 1000000) (hl : IB lo) (hh : IB hi) : Calls Try.prog 10 #[.pointer (some ⟨p, 0, none⟩), .int .i64 lo, .int .i64 hi] w (BetPost w 61 p s c lo hi) := by
  unfold IB at hl hh
  have hsame := fun (hn : ¬ inR lo hi) => bet_same h hn
  by_cases h1 : hi < lo
  · have hend := hsame fun hr => hr.1 h1
    have t1 : decide (hi < lo) = true := decide_eq_true h1
    clear hsame
    go_enter Try.func10, Try.ntmps10
    go_wp2
    go_ret
    exact hend
  by_cases h2 : lo < -1099511627776
  · have hend := hsame fun hr => hr.2.1 h2
    have t1 : decide (hi < lo) = false := decide_eq_false h1
    have t2 : decide (lo < -1099511627776) = true := decide_eq_true h2
    clear hsame
    go_enter Try.func10, Try.ntmps10
    go_wp2
    go_ret
    exact hend
  by_cases h3 : 1099511627776 < hi
  · have hend := hsame fun hr => hr.2.2.1 h3
    have t1 : decide (hi < lo) = false := decide_eq_false h1
    have t2 : decide (lo < -1099511627776) = false := decide_eq_false h2
    have t3 : decide (1099511627776 < hi) = true := decide_eq_true h3
    clear hsame
    go_enter Try.func10, Try.ntmps10
    go_wp2
    go_ret
    exact hend
  by_cases h4 : 1099511627776 ≤ hi - lo
  · have hend := hsame fun hr => hr.2.2.2 h4
    have t1 : decide (hi < lo) = false := decide_eq_false h1
    have t2 : decide (lo < -1099511627776) = false := decide_eq_false h2
    have t3 : decide (1099511627776 < hi) = false := decide_eq_false h3
    have t4 : decide (1099511627776 ≤ hi - lo) = true := decide_eq_true h4
    clear hsame
    go_enter Try.func10, Try.ntmps10
    go_wp2
    go_ret
    exact hend
  · have hr : inR lo hi := ⟨h1, h2, h3, h4⟩
    have t1 : decide (hi < lo) = false := decide_eq_false h1
    have t2 : decide (lo < -1099511627776) = false := decide_eq_false h2
    have t3 : decide (1099511627776 < hi) = false := decide_eq_false h3
    have t4 : decide (1099511627776 ≤ hi - lo) = false := decide_eq_false h4
    have hb := belowV_b s (hi - lo + 1) (by omega)
    have hend := fun w' (hp : BelowPost w 61 p s c (hi - lo + 1) (.returned (.int .i64 (belowV s (hi - lo + 1)))) w') => bet_in hr hp
    have H := below_spec w p s c (hi - lo + 1) h hc (by omega)
    have H2 : Calls Try.prog 11 #[.pointer (some ⟨p, 0, none⟩), .int .i64 (hi - lo + 1)] w fun e w' => e = .returned (.int .i64 (belowV s (hi - lo + 1))) ∧ BelowPost w 61 p s c (hi - lo + 1) (.returned (.int .i64 (belowV s (hi - lo + 1)))) w' := H.mono fun e w' hp => ⟨hp.1, rfl, hp.2⟩
    clear hsame H hr
    generalize belowV s (hi - lo + 1) = v at H2 hend hb
    go_enter Try.func10, Try.ntmps10
    go_wp2_with ((with_reducible refine H2.mono ?_); rintro e w' ⟨rfl, hd⟩)
    go_ret
    exact hend _ hd
end Go.Proofs.Ytgjikmpeeipboaa
