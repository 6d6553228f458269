/-
  How the arguments of this seat's laws are opened.
-/
import Derived.Test.YtnaldifgnpnbhaaT11
namespace Go.Proofs.Ytnaldifgnpnbhaa
open Go.ChangeShapes Go.WideShapes Go.ChangeAt Go.RowKit

theorem own : ownKnob Try.prog.godebug = none := by kernel_rfl
theorem laidOut : laidOutB Try.prog = true := by kernel_rfl
/-- whole numbers in their bounds -/
def intW : Elt Int where
  sz := 1
  ok := fun _ _ x l => l = [.int .i64 x] ∧ IB x
  len := fun h => by rw [h.1]; rfl
  one := fun h u hu => by rw [h.1] at hu; simp at hu; subst hu; rfl
  keep := fun _ h => h
  mono := fun _ h => h
theorem opens_intW : Opens Try.prog 3 intW := by
  intro H enc w base spare held fuel cs x h _
  obtain ⟨n, rfl, _, hw⟩ := DataW.trod_int Try.underlying3 h
  exact ⟨n, rfl, bounds_i64 hw⟩
theorem Rel.intW {w : World} {F : Nat → Prop} : ∀ {xs : List Int} {cs : List Value}, Rel intW w F xs cs → Rel intE w F xs cs ∧ ∀ x ∈ xs, IB x
  | [], _, h => ⟨h, by simp⟩
  | _ :: _, _, h => by
    obtain ⟨l, r, e, ⟨ho, hb⟩, hr⟩ := h
    obtain ⟨h1, h2⟩ := hr.intW
    exact ⟨⟨l, r, e, ho, h1⟩, fun x hx => (List.mem_cons.1 hx).elim (fun e => by rw [e]; exact hb) (h2 x)⟩
theorem Rd.intW {w : World} {F : Nat → Prop} {v : Value} {xs : List Int} (h : Rd intW w F v xs) : Rd intE w F v xs ∧ ∀ x ∈ xs, IB x := by
  obtain ⟨A, c, cs, h1, h2, h3, h4, h5⟩ := h
  exact ⟨⟨A, c, cs, h1, h2, h3, h4, h5.intW.1⟩, h5.intW.2⟩

theorem opens_it : Opens Try.prog 33 itE := by
  intro H enc w base spare held fuel cs x h hw
  obtain ⟨hl, hf⟩ := open_fields Try.underlying33 (by kernel_rfl) (by kernel_rfl) h hw
  obtain ⟨v0, y0, n0, c0, t0, w0⟩ := hf 0 _ rfl
  obtain ⟨v1, y1, n1, c1, t1, w1⟩ := hf 1 _ rfl
  obtain ⟨v2, y2, n2, c2, t2, w2⟩ := hf 2 _ rfl
  obtain ⟨v3, y3, n3, c3, t3, w3⟩ := hf 3 _ rfl
  obtain ⟨v4, y4, n4, c4, t4, w4⟩ := hf 4 _ rfl
  obtain ⟨v5, y5, n5, c5, t5, w5⟩ := hf 5 _ rfl
  obtain ⟨i0, e0, _, b0⟩ := DataW.trod_int Try.underlying3 t0
  obtain ⟨i1, e1, _, b1⟩ := DataW.trod_int Try.underlying3 t1
  obtain ⟨i2, e2, _, b2⟩ := DataW.trod_int Try.underlying3 t2
  obtain ⟨i3, e3, _, b3⟩ := DataW.trod_int Try.underlying3 t3
  obtain ⟨i4, e4, _, b4⟩ := DataW.trod_int Try.underlying3 t4
  obtain ⟨i5, e5, _, b5⟩ := DataW.trod_int Try.underlying3 t5
  simp at e0 e1 e2 e3 e4 e5
  subst e0 e1 e2 e3 e4 e5
  have hcs : cs = [.int .i64 i0, .int .i64 i1, .int .i64 i2, .int .i64 i3, .int .i64 i4, .int .i64 i5] := by
    match cs, hl with
    | [a, b, c, d, e, f], _ => simp at c0 c1 c2 c3 c4 c5; subst c0 c1 c2 c3 c4 c5; rfl
  exact ⟨⟨i0, i1, i2, i3, i4, i5⟩, hcs, bounds_i64 b0, bounds_i64 b1, bounds_i64 b2, bounds_i64 b3, bounds_i64 b4, bounds_i64 b5⟩
end Go.Proofs.Ytnaldifgnpnbhaa
