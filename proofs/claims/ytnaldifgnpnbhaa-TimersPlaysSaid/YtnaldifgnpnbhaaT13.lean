/-
  Maps keyed by items.
-/
import Derived.Test.YtnaldifgnpnbhaaT12
import Derived.DeepKeys4
namespace Go.Proofs.Ytnaldifgnpnbhaa
open Go.RowKit Go.Maps

def kfI (x : It) : Lit := .string (keyBytes [.int .i64 x.at_, .int .i64 x.flow, .int .i64 x.run, .int .i64 x.ref, .int .i64 x.turn, .int .i64 x.kind])
def encI (x : It) : Value := .agg x.cells.toArray
theorem keyLits_3 (d : Nat) (n : Int) (h : IB n) : Try.prog.keyLits (d + 1) 3 [.int .i64 n] = some [.int .i64 n] := by
  have hw := WalkArith.wf_i64 h
  simp [Program.keyLits, Try.underlying3, hw]
theorem keyOf_it (x : It) (hx : x.wf) : keyOf Try.prog 33 (encI x) = some (kfI x) := by
  have h1 : Try.prog.keyType 33 = true := by kernel_rfl
  have h2 : Try.prog.cellsOf 33 = 6 := by kernel_rfl
  have h3 : Try.prog.cellsOf 3 = 1 := by kernel_rfl
  obtain ⟨d, hd⟩ : ∃ d, Try.prog.types.size + 1 = (d + 1) + 1 := ⟨Try.prog.types.size - 1, by have : 1 ≤ Try.prog.types.size := of_decide_eq_true (by kernel_rfl); omega⟩
  obtain ⟨b0, b1, b2, b3, b4, b5⟩ := hx
  have hk := fun n h => keyLits_3 d n h
  have hl : Try.prog.keyLits (Try.prog.types.size + 1) 33 x.cells = some [.int .i64 x.at_, .int .i64 x.flow, .int .i64 x.run, .int .i64 x.ref, .int .i64 x.turn, .int .i64 x.kind] := by
    rw [hd]
    unfold Program.keyLits
    rw [Try.underlying33]
    simp [It.cells, h2, h3, hk, b0, b1, b2, b3, b4, b5]
  unfold keyOf
  rw [Try.underlying33]
  simp only
  rw [h1]
  have hf : Value.formed Try.prog 33 (encI x) = true := by
    unfold Value.formed encI
    rw [Try.underlying33]
    simp [It.cells, h2]
  rw [hf]
  simp only [Bool.and_self, if_true]
  show (Try.prog.keyLits (Try.prog.types.size + 1) 33 (encI x).cells.toList).map _ = _
  have hc : (encI x).cells.toList = x.cells := rfl
  rw [hc, hl]
  rfl
theorem key_it : KeyK Try.prog 33 encI kfI It.wf :=
  ⟨Keyed.of_law (deep_law_laid laidOut (m := 3) (by decide) (of_decide_eq_true (by kernel_rfl)) (by kernel_rfl) (by kernel_rfl)), keyOf_it, fun a b _ _ h => by
    cases a; cases b
    simp [encI, It.cells] at h
    simp [h]⟩
end Go.Proofs.Ytnaldifgnpnbhaa
