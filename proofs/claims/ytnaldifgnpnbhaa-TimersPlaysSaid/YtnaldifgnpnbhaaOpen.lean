/-
  How an argument's reading becomes a list: whatever type its elements have. Plain theorems over any program.
-/
import Derived.Test.YtnaldifgnpnbhaaBase
import Derived.ProofKit
import Derived.OpenShut
import Derived.SizedLaws
import Derived.Deep.Slices
import Derived.Deep.Fields
import Derived.ChangeSame
namespace Go.Proofs.Ytnaldifgnpnbhaa
open Go.RowKit Go.Deep

/-- what is there when the call begins -/
def Old (w : World) : Nat → Prop := fun k => k < w.heap.size
theorem Fin.old (w : World) : Fin w (Old w) := fun _ h => h

/-- What reads as a t is an element of kind E. -/
def Opens (P : Program) (t : TypeId) {α : Type} (E : Elt α) : Prop :=
  ∀ {H : Type} {enc : TypeId × Value → H} {w : World} {base : Nat} {spare : Nat → Bool} {held : Bool} {fuel : Nat} {cs : List Value} {x : DataW H × List MemPlace},
    DataW.trod enc P w base spare held fuel t cs = some x → (∀ n ∈ x.1.weights P t, n ≤ reachBytes) → ∃ a, E.ok w (Old w) a cs

theorem opens_byte {P : Program} {t : TypeId} (ht : P.underlying t = some (.int .u8)) : Opens P t byteE := by
  intro H enc w base spare held fuel cs x h _
  obtain ⟨n, rfl, _, hw⟩ := DataW.trod_int ht h
  have hb : 0 ≤ n ∧ n ≤ 255 := bounds_u8 hw
  refine ⟨UInt8.ofNat n.toNat, ?_⟩
  show [Value.int .u8 n] = [bv _]
  simp only [bv, UInt8.toNat_ofNat']
  congr 2
  omega
theorem opens_int {P : Program} {t : TypeId} (ht : P.underlying t = some (.int .i64)) : Opens P t intE := by
  intro H enc w base spare held fuel cs x h _
  obtain ⟨n, rfl, _, hw⟩ := DataW.trod_int ht h
  exact ⟨n, rfl⟩
theorem opens_bool {P : Program} {t : TypeId} (ht : P.underlying t = some .bool) : Opens P t boolE := by
  intro H enc w base spare held fuel cs x h _
  obtain ⟨n, rfl, _⟩ := DataW.trod_bool ht h
  exact ⟨n, rfl⟩

theorem weights_all {H : Type} {P : Program} {e : TypeId} {l : List (DataW H)} {d : DataW H} (h : d ∈ l) : ∀ n ∈ d.weights P e, n ∈ DataW.weightsAll P e l := by
  induction l with
  | nil => cases h
  | cons y r ih =>
    intro n hn
    simp only [DataW.weightsAll, List.mem_append]
    rcases List.mem_cons.1 h with rfl | h
    · exact .inl hn
    · exact .inr (ih h n hn)

theorem open_slice_of {P : Program} {t e : TypeId} {α : Type} {E : Elt α} (hE : Opens P e E) (ht : P.underlying t = some (.slice e)) (hC : P.cellsOf e = E.sz)
    {H : Type} {enc : TypeId × Value → H} {w : World} {base : Nat} {spare : Nat → Bool} {held : Bool} {fuel : Nat} {cs : List Value} {x : DataW H × List MemPlace}
    (h : DataW.trod enc P w base spare held fuel t cs = some x) (hw : ∀ n ∈ x.1.weights P t, n ≤ reachBytes) :
    ∃ v xs, cs = [v] ∧ Rd E w (Old w) v xs ∧ xs.length * P.bytesOf e ≤ reachBytes := by
  rcases open_slice ht h with ⟨rfl, rfl⟩ | ⟨a, len, cap, m, n, D, Pl, rfl, _, hl, hm, hmm, rfl, hi⟩
  · exact ⟨_, [], rfl, Rd.nil _ _ _, by simp⟩
  · have hlm : len ≤ m := by rw [hmm]; split <;> omega
    rw [hC] at hi
    have hweights : ∀ k, (DataW.slice ((List.range len).map D) ((List.range (m - len)).map fun j => D (len + j))).weights P t = k → k = ((List.range len).map D).length.add ((List.range (m - len)).map fun j => D (len + j)).length * P.bytesOf e :: (DataW.weightsAll P e ((List.range len).map D) ++ DataW.weightsAll P e ((List.range (m - len)).map fun j => D (len + j))) := by
      rintro k rfl
      simp only [DataW.weights, ht]
      rfl
    have hw0 := hweights _ rfl
    have hwe : ∀ i, i < len → ∀ n ∈ (D i).weights P e, n ≤ reachBytes := fun i hil n hn => by
      refine hw n ?_
      rw [hw0]
      exact List.mem_cons_of_mem _ (List.mem_append.2 (.inl (weights_all (List.mem_map.2 ⟨i, List.mem_range.2 hil, rfl⟩) n hn)))
    have hlen : len * P.bytesOf e ≤ reachBytes := by
      have := hw _ (by rw [hw0]; exact List.mem_cons_self ..)
      refine Nat.le_trans (Nat.mul_le_mul_right _ ?_) this
      show len ≤ _ + _
      simp
    have step : ∀ k, k ≤ len → ∃ (xs : List α) (ds : List Value), xs.length = k ∧ Rel E w (Old w) xs ds ∧ ∀ j, j < ds.length → w.cell? (a.add j) = ds[j]? := by
      intro k
      induction k with
      | zero => exact fun _ => ⟨[], [], rfl, rfl, fun j hj => absurd hj (by simp)⟩
      | succ k ih =>
        intro hk
        obtain ⟨xs, ds, h1, h2, h3⟩ := ih (by omega)
        obtain ⟨cs', hc, htr⟩ := hi k (by omega)
        obtain ⟨_, hcl, hat⟩ := World.cells?_some hc
        obtain ⟨y, hy⟩ := hE htr (hwe k (by omega))
        refine ⟨xs ++ [y], ds ++ cs', by simp [h1], h2.append ⟨cs', [], by simp, hy, rfl⟩, fun j hj => ?_⟩
        have hdl := h2.length
        rw [h1] at hdl
        by_cases hj' : j < ds.length
        · rw [List.getElem?_append_left hj', h3 j hj']
        · rw [List.getElem?_append_right (by omega)]
          have := hat (j - ds.length) (by simp at hj; omega)
          rw [← this, Go.Deep.add_add, ← hdl]
          congr 2
          omega
    obtain ⟨xs, ds, h1, h2, h3⟩ := step len (Nat.le_refl _)
    refine ⟨_, xs, rfl, ⟨some a, cap, ds, by rw [h1], by omega, hm, fun hpos => ?_, h2⟩, by rw [h1]; exact hlen⟩
    have h0 := h3 0 hpos
    rw [List.getElem?_eq_getElem hpos] at h0
    have hsp : a.spot = none := by simpa [Addr.add] using World.cell?_spot h0
    obtain ⟨b, o, s⟩ := a
    simp only at hsp
    subst hsp
    have hb := World.block_lt_of_cell? w _ h0
    rw [add_mk] at hb
    refine ⟨b, o, rfl, hb, fun j hj => ?_⟩
    have := h3 j hj
    rwa [add_mk] at this

/-- an argument that is a slice -/
theorem open_arg {P : Program} {t e : TypeId} {α : Type} {E : Elt α} (hE : Opens P e E) (ht : P.underlying t = some (.slice e)) (hC : P.cellsOf e = E.sz)
    {H : Type} {enc : TypeId × Value → H} {w : World} {base : Nat} {spare : Nat → Bool} {held : Bool} {v : Value} {d : DataW H} {p : List MemPlace}
    (hv : v.cells = #[v]) (h : DataW.Trod enc P w base spare held t v d p) (hw : ∀ n ∈ d.weights P t, n ≤ reachBytes) :
    ∃ xs, Rd E w (Old w) v xs ∧ xs.length * P.bytesOf e ≤ reachBytes := by
  obtain ⟨fuel, hf⟩ := h
  rw [hv] at hf
  obtain ⟨v', xs, e1, h1, h2⟩ := open_slice_of hE ht hC hf hw
  simp at e1
  subst e1
  exact ⟨xs, h1, h2⟩

/-- the weights of one argument among several -/
theorem weights_of {H : Type} {P : Program} {ts : List TypeId} {ds : List (DataW H)} (h : (DataW.weightsEach P ts ds).all (· ≤ reachBytes) = true) {j : Nat} {t : TypeId} {d : DataW H} (ht : ts[j]? = some t) (hd : ds[j]? = some d) :
    ∀ n ∈ d.weights P t, n ≤ reachBytes := fun n hn => by
  have := List.all_eq_true.1 h n (DataW.weights_mem_each ht hd n hn)
  simpa using this

/-- the fields of a struct's cells, each of one cell -/
theorem open_fields {P : Program} {t : TypeId} {fs : Array Field} (hs : P.underlying t = some (.struct fs)) (hone : oneCellFields P fs = true) (hC : P.cellsOf t = fs.size)
    {H : Type} {enc : TypeId × Value → H} {w : World} {base : Nat} {spare : Nat → Bool} {held : Bool} {fuel : Nat} {cs : List Value} {x : DataW H × List MemPlace}
    (h : DataW.trod enc P w base spare held fuel t cs = some x) (hw : ∀ n ∈ x.1.weights P t, n ≤ reachBytes) :
    cs.length = fs.size ∧ ∀ (i : Nat) (f : Field), fs[i]? = some f → ∃ v y n, cs[i]? = some v ∧ DataW.trod enc P w base spare held n f.type [v] = some y ∧ ∀ m ∈ y.1.weights P f.type, m ≤ reachBytes := by
  obtain ⟨xs, n, _, rfl, hcl, hxl, hf⟩ := DataW.trod_struct hs h
  rw [hC] at hcl
  refine ⟨hcl, fun i f hi => ?_⟩
  obtain ⟨ho, hk⟩ := hone_of hone i f hi
  have hlt : i < fs.size := (Array.getElem?_eq_some_iff.1 hi).1
  have h1 := hf i f hi
  rw [ho, hk] at h1
  have e1 : (cs.drop i).take 1 = [cs[i]'(by omega)] := by
    rw [List.drop_eq_getElem_cons (by omega)]
    rfl
  rw [e1] at h1
  have hx : xs[i]? = some (xs[i]'(by omega)) := List.getElem?_eq_getElem (by omega)
  refine ⟨_, _, n, List.getElem?_eq_getElem (by omega), h1.trans hx, fun m hm => hw m ?_⟩
  show m ∈ (DataW.agg (xs.map (·.1))).weights P t
  simp only [DataW.weights, hs]
  refine DataW.weights_mem_each (j := i) (t := f.type) (d := (xs[i]'(by omega)).1) ?_ ?_ m hm
  · simp [hi]
  · simp [hx]
end Go.Proofs.Ytnaldifgnpnbhaa
