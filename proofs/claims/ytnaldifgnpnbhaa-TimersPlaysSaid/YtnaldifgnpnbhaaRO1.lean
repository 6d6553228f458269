/-
  Acts, and two heaps beside each other.
-/
import Derived.Test.YtnaldifgnpnbhaaRH6
import Derived.Test.YtnaldifgnpnbhaaT12
import Derived.Test.YtnaldifgnpnbhaaRows
namespace Go.Proofs.Ytnaldifgnpnbhaa
open Go.RowKit
open Go.ChangeShapes Go.WideShapes Go.ChangeAt
/-- the fields of a struct, however many cells each takes -/
theorem open_fieldsW {P : Program} {t : TypeId} {fs : Array Field} (hs : P.underlying t = some (.struct fs))
    {H : Type} {enc : TypeId × Value → H} {w : World} {base : Nat} {spare : Nat → Bool} {held : Bool} {fuel : Nat} {cs : List Value} {x : DataW H × List MemPlace}
    (h : DataW.trod enc P w base spare held fuel t cs = some x) (hw : ∀ n ∈ x.1.weights P t, n ≤ reachBytes) :
    cs.length = P.cellsOf t ∧ ∀ (i : Nat) (f : Field), fs[i]? = some f → ∃ y n, DataW.trod enc P w base spare held n f.type ((cs.drop f.offset).take (P.cellsOf f.type)) = some y ∧ ∀ m ∈ y.1.weights P f.type, m ≤ reachBytes := by
  obtain ⟨xs, n, _, rfl, hcl, hxl, hf⟩ := DataW.trod_struct hs h
  refine ⟨hcl, fun i f hi => ?_⟩
  have hlt : i < fs.size := (Array.getElem?_eq_some_iff.1 hi).1
  have h1 := hf i f hi
  have hx : xs[i]? = some (xs[i]'(by omega)) := List.getElem?_eq_getElem (by omega)
  refine ⟨_, n, h1.trans hx, fun m hm => hw m ?_⟩
  show m ∈ (DataW.agg (xs.map (·.1))).weights P t
  simp only [DataW.weights, hs]
  refine DataW.weights_mem_each (j := i) (t := f.type) (d := (xs[i]'(by omega)).1) ?_ ?_ m hm
  · simp [hi]
  · simp [hx]
/-- an act of the play -/
structure Act1 where
  op : Int
  it : It
  now : Int
def actE : Elt Act1 where
  sz := 8
  ok := fun _ _ x l => l = .int .i64 x.op :: (x.it.cells ++ [.int .i64 x.now]) ∧ x.it.wf ∧ IB x.now
  len := fun h => by rw [h.1]; rfl
  one := fun h u hu => by
    rw [h.1] at hu
    simp [It.cells] at hu
    rcases hu with rfl | rfl | rfl | rfl | rfl | rfl | rfl | rfl <;> rfl
  keep := fun _ h => h
  mono := fun _ h => h
theorem opens_act : Opens Try.prog 53 actE := by
  intro H enc w base spare held fuel cs x h hw
  obtain ⟨hl, hf⟩ := open_fieldsW Try.underlying53 h hw
  obtain ⟨y0, n0, t0, w0⟩ := hf 0 _ rfl
  obtain ⟨y1, n1, t1, w1⟩ := hf 1 _ rfl
  obtain ⟨y2, n2, t2, w2⟩ := hf 2 _ rfl
  have c3 : Try.prog.cellsOf 3 = 1 := by kernel_rfl
  have c33 : Try.prog.cellsOf 33 = 6 := by kernel_rfl
  have c53 : Try.prog.cellsOf 53 = 8 := by kernel_rfl
  have t0' : DataW.trod enc Try.prog w base spare held n0 3 ((cs.drop 0).take 1) = some y0 := by rw [← c3]; exact t0
  have t1' : DataW.trod enc Try.prog w base spare held n1 33 ((cs.drop 1).take 6) = some y1 := by rw [← c33]; exact t1
  have t2' : DataW.trod enc Try.prog w base spare held n2 3 ((cs.drop 7).take 1) = some y2 := by rw [← c3]; exact t2
  rw [c53] at hl
  obtain ⟨i0, e0, _, b0⟩ := DataW.trod_int Try.underlying3 t0'
  obtain ⟨x1, e1, wf1⟩ := opens_it t1' w1
  obtain ⟨i2, e2, _, b2⟩ := DataW.trod_int Try.underlying3 t2'
  have hcs : cs = .int .i64 i0 :: (x1.cells ++ [.int .i64 i2]) := by
    match cs, hl with
    | [a, b, c, d, e, f, g, k], _ => simp at e0 e1 e2; subst e0 e2; rw [← e1]; rfl
  exact ⟨⟨i0, x1, i2⟩, hcs, wf1, bounds_i64 b2⟩
theorem Rd.act {w : World} {F : Nat → Prop} {v : Value} {xs : List Act1} (h : Rd actE w F v xs) {k : Nat} (hk : k < xs.length) : ∃ b o c, v = .slice (some ⟨b, o, none⟩) xs.length c ∧ xs.length ≤ c ∧ F b ∧ xs[k].it.wf ∧ IB xs[k].now ∧
    w.cell? ⟨b, o + k * 8, none⟩ = some (.int .i64 xs[k].op) ∧ w.cell? ⟨b, o + k * 8 + 1, none⟩ = some (.int .i64 xs[k].it.at_) ∧ w.cell? ⟨b, o + k * 8 + 2, none⟩ = some (.int .i64 xs[k].it.flow) ∧ w.cell? ⟨b, o + k * 8 + 3, none⟩ = some (.int .i64 xs[k].it.run) ∧ w.cell? ⟨b, o + k * 8 + 4, none⟩ = some (.int .i64 xs[k].it.ref) ∧ w.cell? ⟨b, o + k * 8 + 5, none⟩ = some (.int .i64 xs[k].it.turn) ∧ w.cell? ⟨b, o + k * 8 + 6, none⟩ = some (.int .i64 xs[k].it.kind) ∧ w.cell? ⟨b, o + k * 8 + 7, none⟩ = some (.int .i64 xs[k].now) := by
  obtain ⟨b, o, c, l, hv, hc, hf, ⟨hl, hb1, hb2⟩, hg⟩ := h.get hk (by decide)
  subst hl
  refine ⟨b, o, c, hv, hc, hf, hb1, hb2, ?_, ?_, ?_, ?_, ?_, ?_, ?_, ?_⟩
  · simpa [actE, It.cells] using hg 0 (by decide)
  · simpa [actE, It.cells, Nat.add_assoc] using hg 1 (by decide)
  · simpa [actE, It.cells, Nat.add_assoc] using hg 2 (by decide)
  · simpa [actE, It.cells, Nat.add_assoc] using hg 3 (by decide)
  · simpa [actE, It.cells, Nat.add_assoc] using hg 4 (by decide)
  · simpa [actE, It.cells, Nat.add_assoc] using hg 5 (by decide)
  · simpa [actE, It.cells, Nat.add_assoc] using hg 6 (by decide)
  · simpa [actE, It.cells, Nat.add_assoc] using hg 7 (by decide)
/-! ### two heaps beside each other -/
def Two (w W : World) (F : Nat → Prop) (p : Nat) (la : List It) (Fr : Nat → Prop) (q : Nat) (lb : List It) : Prop :=
  HeapAt 64 33 W F p la ∧ RHp W Fr q lb ∧ Upd Non w W ∧ (∀ x, F x → w.heap.size ≤ x) ∧ (∀ x, Fr x → w.heap.size ≤ x) ∧ w.heap.size ≤ q ∧ ¬ F q ∧ ∀ x, Fr x → ¬ F x
theorem RHp.fin {w : World} {F : Nat → Prop} {p : Nat} {l : List It} (h : RHp w F p l) : Fin w F := by
  obtain ⟨_, _, _, _, h⟩ := h
  exact h
theorem Two.non {w W W' : World} {F Fr : Nat → Prop} {p q : Nat} {la lb : List It} (h : Two w W F p la Fr q lb) (hu : Upd Non W W') : Two w W' F p la Fr q lb := by
  obtain ⟨h1, h2, h3, h4⟩ := h
  exact ⟨h1.upd hu fun _ _ h => h, h2.upd hu id fun _ _ => id, h3.trans hu, h4⟩
theorem Two.a {w W W' : World} {F Fr : Nat → Prop} {p q : Nat} {la la' lb : List It} (h : Two w W F p la Fr q lb) (hs : HStep 64 33 W F p la' W') : Two w W' (Ext F W W') p la' Fr q lb := by
  obtain ⟨_, h2, h3, h4, h5, h6, h7, h8⟩ := h
  have hql := h2.lt
  have hfr := h2.fin
  have hws := h3.size
  refine ⟨hs.2, h2.upd hs.1 h7 h8, h3.trans' hs.1 (fun x hx e => by have := h4 x e; omega), fun x hx => ?_, h5, h6, fun hx => ?_, fun x hf hx => ?_⟩
  · rcases hx with hx | hx
    · exact h4 x hx
    · have := hx.1; omega
  · rcases hx with hx | hx
    · exact h7 hx
    · have := hx.1; omega
  · rcases hx with hx | hx
    · exact h8 x hf hx
    · have := hx.1; have := hfr x hf; omega
theorem Two.b {w W W' : World} {F Fr : Nat → Prop} {p q : Nat} {la lb lb' : List It} (h : Two w W F p la Fr q lb) (hs : RStep W Fr q lb' W') : ∃ Fr', Two w W' F p la Fr' q lb' := by
  obtain ⟨h1, h2, h3, h4, h5, h6, h7, h8⟩ := h
  obtain ⟨hu, F', hr, hF'⟩ := hs
  have hws := h3.size
  have hfin := h1.fin
  refine ⟨F', h1.upd hu (fun x hx e => h7 (by have e : x = q := e; rw [← e]; exact hx)), hr, h3.trans' hu (fun x hx e => by have e : x = q := e; omega), h4, fun x hx => ?_, h6, h7, fun x hx hf => ?_⟩
  · rcases hF' x hx with hx | hx
    · exact h5 x hx
    · have := hx.1; omega
  · rcases hF' x hx with hx | hx
    · exact h8 x hx hf
    · have := hx.1; have := hfin x hf; omega
theorem sorted_rem {l : List It} (hs : Sorted l) (x : It) : Sorted (remR l x).2 := by
  unfold remR
  split
  · have h : (l.take (pos l x) ++ l.drop (pos l x + 1)).Sublist l := by
      conv => rhs; rw [← List.take_append_drop (pos l x) l]
      exact (List.Sublist.refl _).append (by rw [← List.drop_drop]; exact List.drop_sublist _ _)
    exact hs.sublist h
  · exact hs
theorem sorted_take {l : List It} (hs : Sorted l) (now : Int) : Sorted (takeR l now).2.2 := by
  rw [take_eq]
  cases l with
  | nil => exact hs
  | cons x xs => 
    simp only
    split
    · exact hs
    · exact (List.pairwise_cons.1 hs).2
theorem sorted_drop {l : List It} (hs : Sorted l) (fl ru : Int) : Sorted (dropR l fl ru) := hs.sublist List.filter_sublist
theorem len_rem (l : List It) (x : It) : (remR l x).2.length ≤ l.length := by
  unfold remR
  split
  · simp; omega
  · exact Nat.le_refl _
theorem len_take (l : List It) (now : Int) : (takeR l now).2.2.length ≤ l.length := by
  rw [take_eq]
  cases l with
  | nil => simp
  | cons x xs => simp only; split <;> simp
theorem len_drop (l : List It) (fl ru : Int) : (dropR l fl ru).length ≤ l.length := List.length_filter_le _ _
end Go.Proofs.Ytnaldifgnpnbhaa
