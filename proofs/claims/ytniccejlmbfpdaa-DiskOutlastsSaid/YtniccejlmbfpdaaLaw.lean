/-
  What the rows of this seat share: how entries and acts are opened.
-/
import Derived.Test.YtniccejlmbfpdaaR5
import Derived.Test.YtniccejlmbfpdaaOpen
namespace Go.Proofs.Ytniccejlmbfpdaa
open Go.ChangeShapes Go.WideShapes Go.ChangeAt Go.RowKit

theorem opens_ent : Opens Try.prog 46 entE := by
  intro H enc w base spare held fuel cs x h hw
  obtain ⟨hl, hf⟩ := open_fields Try.underlying46 (by kernel_rfl) (by kernel_rfl) h hw
  obtain ⟨v0, y0, n0, c0, t0, w0⟩ := hf 0 _ rfl
  obtain ⟨v1, y1, n1, c1, t1, w1⟩ := hf 1 _ rfl
  obtain ⟨i, e0, _⟩ := DataW.trod_int Try.underlying3 t0
  obtain ⟨v1', xs, e1, hr, hb⟩ := open_slice_of (opens_byte Try.underlying5) Try.underlying44 (by kernel_rfl) t1 w1
  simp at e0 e1
  subst e0 e1
  have hcs : cs = [.int .i64 i, v1] := by
    match cs, hl with
    | [a, b], _ => simp at c0 c1; subst c0 c1; rfl
  have h5 : Try.prog.bytesOf 5 = 1 := by kernel_rfl
  rw [h5] at hb
  exact ⟨(i, xs), v1, hcs, by simp only [reachBytes] at hb; show xs.length ≤ _; omega, hr⟩

theorem own : ownKnob Try.prog.godebug = none := by kernel_rfl
theorem laidOut : laidOutB Try.prog = true := by kernel_rfl
end Go.Proofs.Ytniccejlmbfpdaa
