/-
  The walk of disk.New.
-/
import Derived.Test.YtniccejlmbfpdaaD4
import Derived.Laws.MakeOwn
import Derived.Deep.DeepCutAuto
namespace Go.Proofs.Ytniccejlmbfpdaa
open Go.RowKit
attribute [local go_sem] max2_int min2_int max_two min_two

theorem made_bytes (N : Nat) : madeCells (Value.cells (.int .u8 0)) (N * 1) = ((List.replicate N (0 : UInt8)).map bv).toArray := by
  have h : (madeCells #[.int .u8 0] (N * 1)).toList = List.replicate (N * 1) (.int .u8 0) := toList_madeCells_one _ _
  have e : madeCells (Value.cells (.int .u8 0)) (N * 1) = ((madeCells #[.int .u8 0] (N * 1)).toList).toArray := by rw [Array.toArray_toList]; rfl
  rw [e, h, List.map_replicate, Nat.mul_one]
  rfl
theorem make_bytes (w : World) (N : Nat) (h : N ≤ 1073741824) : (Instr.makeSlice 44 (.int .i64 N) (.int .i64 N)).run Try.prog w = .ok (.slice (some ⟨w.heap.size, 0, none⟩) N N) (w.alloc (.cells ((List.replicate N (0 : UInt8)).map bv).toArray 5)) := by
  obtain ⟨i, hi, hz⟩ := Option.map_eq_some_iff.1 info5
  simp only [Prod.mk.injEq] at hz
  obtain ⟨hz0, hz1, hz2⟩ := hz
  have hs : i.size = 1 := by rw [hz1]; rfl
  have := run_make (P := Try.prog) w 44 5 i (.int .u8 0) Try.underlying44 hi hz0 .i64 .i64 N N (by omega) (Int.le_refl _) (by rw [hz2]; omega) (by omega)
  simp only [Int.toNat_natCast, hs, made_bytes] at this
  exact this

def NewDPost (w : World) (x y : Int) (e : Ending) (w' : World) : Prop :=
  Upd Non w w' ∧ ((¬ (1 ≤ x ∧ x ≤ 16384 ∧ 64 ≤ y ∧ y ≤ 1024) ∧ e = .returned (.tuple #[.pointer none, .int .i64 1])) ∨
    ((1 ≤ x ∧ x ≤ 16384 ∧ 64 ≤ y ∧ y ≤ 1024) ∧ ∃ n s p g : Nat, x = n ∧ y = s ∧ e = .returned (.tuple #[.pointer (some ⟨p, 0, none⟩), .int .i64 0]) ∧ DiskAt w' Non p g (newD n s) ∧ Good n (newD n s) ∧ New w w' p ∧ New w w' g))

theorem newd_done (w : World) (n s N : Nat) (hN : n * s = N) (h1 : 1 ≤ n) (h2 : n ≤ 16384) (h3 : 64 ≤ s) (h4 : s ≤ 1024) :
    NewDPost w n s (.returned (.tuple #[.pointer (some ⟨w.heap.size + 1, 0, none⟩), .int .i64 0])) ((w.alloc (.cells (Array.replicate N (bv 0)) 5)).alloc (.cells #[.bool false, .int .i64 0, .slice none 0 0, .int .i64 s, .slice (some ⟨w.heap.size, 0, none⟩) N N, .slice none 0 0, .int .i64 0] 59)) := by
  have hl : (newD n s).kept.length = N := by simp [newD, hN]
  have hm : ((newD n s).kept.map bv).toArray = Array.replicate N (bv 0) := by simp [newD, hN]
  have hp := heap_alloc_new (w.alloc (.cells (Array.replicate N (bv 0)) 5)) (.cells #[.bool false, .int .i64 0, .slice none 0 0, .int .i64 s, .slice (some ⟨w.heap.size, 0, none⟩) N N, .slice none 0 0, .int .i64 0] 59)
  rw [World.size_alloc] at hp
  have hg := (Below.heap_alloc (w.alloc (.cells (Array.replicate N (bv 0)) 5)) (.cells #[.bool false, .int .i64 0, .slice none 0 0, .int .i64 s, .slice (some ⟨w.heap.size, 0, none⟩) N N, .slice none 0 0, .int .i64 0] 59) w.heap.size (by simp)).trans (heap_alloc_new w (.cells (Array.replicate N (bv 0)) 5))
  exact ⟨((Upd.refl _ _).alloc _).alloc _, .inr ⟨⟨by omega, by omega, by omega, by omega⟩, n, s, _, _, rfl, rfl, rfl,
    ⟨.slice none 0 0, .slice none 0 0, Non, Non, by rw [hl]; exact hp, by rw [hm]; exact hg, Rd.nil _ _ _, Own.nil _ _ _ _, id, id, by omega, Fin.non _, fun _ h => h.elim, fun _ h => h.elim⟩, Good.new h1 h2 h3 h4, ⟨by omega, by simp⟩, ⟨by omega, by simp; omega⟩⟩⟩
set_option maxRecDepth 100000 in
theorem newd_spec (w : World) (x y : Int) : Calls Try.prog 27 #[.int .i64 x, .int .i64 y] w (NewDPost w x y) := by
  by_cases hall : 1 ≤ x ∧ x ≤ 16384 ∧ 64 ≤ y ∧ y ≤ 1024
  · obtain ⟨h1, h2, h3, h4⟩ := hall
    obtain ⟨n, rfl⟩ : ∃ n : Nat, x = n := ⟨x.toNat, by omega⟩
    obtain ⟨s, rfl⟩ : ∃ s : Nat, y = s := ⟨y.toNat, by omega⟩
    have hm : n * s ≤ 16384 * 1024 := Nat.mul_le_mul (by omega) (by omega)
    obtain ⟨N, hN⟩ : ∃ N, n * s = N := ⟨_, rfl⟩
    have hN' : (n : Int) * s = (N : Int) := by rw [← hN, Int.natCast_mul]
    have hmk := make_bytes w N (by omega)
    have HN := Lib.hid hN
    have hNl : N ≤ 16777216 := by omega
    clear hN hm
    go_enter Try.func27, Try.ntmps27
    go_wp2
    go_ret2
    exact newd_done w n s N HN.out (by omega) (by omega) (by omega) (by omega)
  · have hno : NewDPost w x y (.returned (.tuple #[.pointer none, .int .i64 1])) w := ⟨Upd.refl _ _, .inl ⟨hall, rfl⟩⟩
    by_cases h1 : x < 1
    · go_enter Try.func27, Try.ntmps27
      go_wp2
      go_ret2
      exact hno
    · by_cases h2 : x > 16384
      · go_enter Try.func27, Try.ntmps27
        go_wp2
        go_ret2
        exact hno
      · by_cases h3 : y < 64
        · go_enter Try.func27, Try.ntmps27
          go_wp2
          go_ret2
          exact hno
        · have h4 : y > 1024 := by omega
          go_enter Try.func27, Try.ntmps27
          go_wp2
          go_ret2
          exact hno
end Go.Proofs.Ytniccejlmbfpdaa
