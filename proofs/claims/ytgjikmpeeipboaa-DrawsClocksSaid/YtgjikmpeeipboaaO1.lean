/-
  How the arguments of this seat's laws are opened.
-/
import Derived.Test.YtgjikmpeeipboaaC6
import Derived.Test.YtgjikmpeeipboaaOpen
import Derived.Test.YtgjikmpeeipboaaRows
namespace Go.Proofs.Ytgjikmpeeipboaa
open Go.ChangeShapes Go.WideShapes Go.ChangeAt Go.RowKit
theorem own : ownKnob Try.prog.godebug = none := by kernel_rfl
theorem laidOut : laidOutB Try.prog = true := by kernel_rfl
/-- whole numbers in their bounds -/
def intW : Elt Int where
  sz := 1
  ok := fun _ _ x l => l = [.int .i64 x] ∧ IB x
  len := fun h => by rw [h.1]; rfl
  one := fun h u hu => by rw [h.1] at hu; simp at hu; subst hu; rfl
  keep := fun _ h => h
  mono := fun _ h => h
theorem opens_intW : Opens Try.prog 3 intW := by
  intro H enc w base spare held fuel cs x h _
  obtain ⟨n, rfl, _, hw⟩ := DataW.trod_int Try.underlying3 h
  exact ⟨n, rfl, bounds_i64 hw⟩
theorem Rd.intW {w : World} {F : Nat → Prop} {v : Value} {xs : List Int} (h : Rd intW w F v xs) {k : Nat} (hk : k < xs.length) : ∃ b o c, v = .slice (some ⟨b, o, none⟩) xs.length c ∧ xs.length ≤ c ∧ F b ∧ w.cell? ⟨b, o + k, none⟩ = some (.int .i64 xs[k]) ∧ IB xs[k] := by
  obtain ⟨b, o, c, l, hv, hc, hf, ⟨hl, hb⟩, hg⟩ := h.get hk (by decide)
  subst hl
  exact ⟨b, o, c, hv, hc, hf, by simpa [Ytgjikmpeeipboaa.intW] using hg 0 (by decide), hb⟩

/-- three whole numbers -/
structure N3 where
  a : Int
  b : Int
  c : Int
def n3E : Elt N3 where
  sz := 3
  ok := fun _ _ x l => l = [.int .i64 x.a, .int .i64 x.b, .int .i64 x.c] ∧ IB x.a ∧ IB x.b ∧ IB x.c
  len := fun h => by rw [h.1]; rfl
  one := fun h u hu => by
    rw [h.1] at hu
    simp at hu
    rcases hu with rfl | rfl | rfl <;> rfl
  keep := fun _ h => h
  mono := fun _ h => h
theorem opens_n3 {t : TypeId} {f0 f1 f2 : Field} (hs : Try.prog.underlying t = some (.struct #[f0, f1, f2])) (hone : Go.Deep.oneCellFields Try.prog #[f0, f1, f2] = true) (hC : Try.prog.cellsOf t = 3) (h0 : f0.type = 3) (h1 : f1.type = 3) (h2 : f2.type = 3) : Opens Try.prog t n3E := by
  intro H enc w base spare held fuel cs x h hw
  obtain ⟨hl, hf⟩ := open_fields hs hone hC h hw
  obtain ⟨v0, y0, n0, c0, t0, w0⟩ := hf 0 _ rfl
  obtain ⟨v1, y1, n1, c1, t1, w1⟩ := hf 1 _ rfl
  obtain ⟨v2, y2, n2, c2, t2, w2⟩ := hf 2 _ rfl
  have t0' : DataW.trod enc Try.prog w base spare held n0 3 [v0] = some y0 := by rw [← h0]; exact t0
  have t1' : DataW.trod enc Try.prog w base spare held n1 3 [v1] = some y1 := by rw [← h1]; exact t1
  have t2' : DataW.trod enc Try.prog w base spare held n2 3 [v2] = some y2 := by rw [← h2]; exact t2
  obtain ⟨i0, e0, _, b0⟩ := DataW.trod_int Try.underlying3 t0'
  obtain ⟨i1, e1, _, b1⟩ := DataW.trod_int Try.underlying3 t1'
  obtain ⟨i2, e2, _, b2⟩ := DataW.trod_int Try.underlying3 t2'
  simp at e0 e1 e2
  subst e0 e1 e2
  have hcs : cs = [.int .i64 i0, .int .i64 i1, .int .i64 i2] := by
    match cs, hl with
    | [a, b, c], _ => simp at c0 c1 c2; subst c0 c1 c2; rfl
  exact ⟨⟨i0, i1, i2⟩, hcs, bounds_i64 b0, bounds_i64 b1, bounds_i64 b2⟩
theorem opens_d44 : Opens Try.prog 44 n3E := opens_n3 Try.underlying44 (by kernel_rfl) (by kernel_rfl) rfl rfl rfl
theorem opens_d56 : Opens Try.prog 56 n3E := opens_n3 Try.underlying56 (by kernel_rfl) (by kernel_rfl) rfl rfl rfl
theorem Rd.n3 {w : World} {F : Nat → Prop} {v : Value} {xs : List N3} (h : Rd n3E w F v xs) {k : Nat} (hk : k < xs.length) : ∃ b o c, v = .slice (some ⟨b, o, none⟩) xs.length c ∧ xs.length ≤ c ∧ F b ∧
    (w.cell? ⟨b, o + k * 3, none⟩ = some (.int .i64 xs[k].a) ∧ w.cell? ⟨b, o + k * 3 + 1, none⟩ = some (.int .i64 xs[k].b) ∧ w.cell? ⟨b, o + k * 3 + 2, none⟩ = some (.int .i64 xs[k].c)) ∧ IB xs[k].a ∧ IB xs[k].b ∧ IB xs[k].c := by
  obtain ⟨b, o, c, l, hv, hc, hf, ⟨hl, hb⟩, hg⟩ := h.get hk (by decide)
  subst hl
  exact ⟨b, o, c, hv, hc, hf, ⟨by simpa [n3E] using hg 0 (by decide), by simpa [n3E, Nat.add_assoc] using hg 1 (by decide), by simpa [n3E, Nat.add_assoc] using hg 2 (by decide)⟩, hb⟩
end Go.Proofs.Ytgjikmpeeipboaa
