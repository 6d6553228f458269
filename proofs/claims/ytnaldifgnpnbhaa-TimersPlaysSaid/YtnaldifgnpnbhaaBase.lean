/-
  Words about memory that the proofs of this seat share: which blocks have changed, a slice that reads as a list, a slice whose spare room is its own, append. Plain theorems over any program.
-/
import Derived.WalkKit
import Derived.WalkSpells
import Derived.WalkLawsBesides
import Derived.Below
import Derived.Laws.OwnMore
import Derived.Deep.AppendLies
import Derived.Deep.Draws
import Derived.Deep.RegionHeld3
import Derived.Deep.RegionWith
import Derived.Deep.LoopGhost
import Derived.Maps.AppendAt
import Derived.Deep.QuietTactic
import Derived.BigQuiet
import Derived.KernelRfl
import Derived.Lib.Hide
import Derived.Laws.BytesArg
import Derived.Outline
import Derived.Deep.RegionLaw
namespace Go.Proofs.Ytnaldifgnpnbhaa
open Go.RowKit

/-- The blocks that were there and are not among S are as they were. -/
structure Upd (S : Nat → Prop) (w w' : World) : Prop where
  os : w'.os = w.os
  tape : w'.tape = w.tape
  output : w'.output = w.output
  size : w.heap.size ≤ w'.heap.size
  block : ∀ k, k < w.heap.size → ¬ S k → w'.heap[k]? = w.heap[k]?

def Non : Nat → Prop := fun _ => False
/-- what F holds, and what is new behind w -/
def Ext (F : Nat → Prop) (w w' : World) : Nat → Prop := fun k => F k ∨ (w.heap.size ≤ k ∧ k < w'.heap.size)
def New (w w' : World) : Nat → Prop := fun k => w.heap.size ≤ k ∧ k < w'.heap.size

section
variable {S T : Nat → Prop} {a b c w w' : World}
theorem Upd.refl (S : Nat → Prop) (w : World) : Upd S w w := ⟨rfl, rfl, rfl, Nat.le_refl _, fun _ _ _ => rfl⟩
theorem Upd.trans' (h : Upd S a b) (k : Upd T b c) (hT : ∀ x, x < a.heap.size → T x → S x) : Upd S a c :=
  ⟨k.os.trans h.os, k.tape.trans h.tape, k.output.trans h.output, Nat.le_trans h.size k.size,
    fun i hi hs => (k.block i (Nat.lt_of_lt_of_le hi h.size) fun ht => hs (hT i hi ht)).trans (h.block i hi hs)⟩
theorem Upd.trans (h : Upd S a b) (k : Upd S b c) : Upd S a c := h.trans' k fun _ _ h => h
theorem Upd.mono (h : Upd S a b) (hs : ∀ x, x < a.heap.size → S x → T x) : Upd T a b :=
  ⟨h.os, h.tape, h.output, h.size, fun i hi ht => h.block i hi fun h' => ht (hs i hi h')⟩
theorem Upd.alloc (h : Upd S a w) (o : Obj) : Upd S a (w.alloc o) :=
  h.trans ⟨rfl, rfl, rfl, by simp, fun k hk _ => Below.heap_alloc _ _ _ hk⟩
theorem Upd.drew (h : Upd S a w) : Upd S a w.drew := ⟨h.os, h.tape, h.output, h.size, h.block⟩
theorem Upd.drewN (h : Upd S a w) (n : Nat) : Upd S a (w.drewN n) := ⟨h.os, h.tape, h.output, h.size, h.block⟩
theorem Upd.set (h : Upd S a w) {p : Addr} (hp : a.heap.size ≤ p.block ∨ S p.block) (u : Value) : Upd S a (w.setCell p u) :=
  h.trans' (T := fun k => k = p.block) ⟨rfl, rfl, rfl, by simp [World.setCell], fun k _ hk => Below.heap_setCell _ _ _ _ hk⟩
    fun x hx e => by
      have e : x = p.block := e
      subst e
      exact hp.resolve_left (by omega)
theorem Upd.below (h : Upd Non a b) : Below a.heap.size a b := ⟨h.os, h.tape, h.output, h.size, fun k hk => h.block k hk fun h => h⟩
theorem Upd.of_below (h : Below a.heap.size a b) : Upd S a b := ⟨h.os, h.tape, h.output, h.size, fun k hk _ => h.block k hk⟩
theorem Upd.cell (h : Upd S w w') {p : Addr} (hp : p.block < w.heap.size) (hs : ¬ S p.block) : w'.cell? p = w.cell? p :=
  World.cell?_of_block (h.block _ hp hs)
theorem Upd.frozen (h : Upd S w w') {p : Addr} (hp : p.block < w.heap.size) (hs : ¬ S p.block) : w'.frozen? p = w.frozen? p :=
  World.frozen?_of_block (h.block _ hp hs)
end

/-- F lies among the blocks that are there, and meets none of S. -/
def Fr (w : World) (S F : Nat → Prop) : Prop := ∀ k, F k → k < w.heap.size ∧ ¬ S k
/-- F lies among the blocks that are there -/
def Fin (w : World) (F : Nat → Prop) : Prop := ∀ k, F k → k < w.heap.size

theorem add_mk (b o n : Nat) : (⟨b, o, none⟩ : Addr).add n = ⟨b, o + n, none⟩ := by unfold Addr.add; split <;> simp_all

/-- The cells cs lie at A, in a block of F. -/
def At (w : World) (F : Nat → Prop) (A : Option Addr) (cs : List Value) : Prop :=
  0 < cs.length → ∃ b o, A = some ⟨b, o, none⟩ ∧ F b ∧ ∀ j, j < cs.length → w.cell? ⟨b, o + j, none⟩ = cs[j]?

section
variable {w w' : World} {F G S : Nat → Prop} {A : Option Addr} {cs ds : List Value}
theorem At.keep (h : At w F A cs) (hk : ∀ k, F k → w'.heap[k]? = w.heap[k]?) : At w' F A cs := fun hn => by
  obtain ⟨b, o, e, hf, hc⟩ := h hn
  exact ⟨b, o, e, hf, fun j hj => (World.cell?_of_block (hk _ hf)).trans (hc j hj)⟩
theorem At.mono (h : At w F A cs) (hk : ∀ k, F k → G k) : At w G A cs := fun hn => by
  obtain ⟨b, o, e, hf, hc⟩ := h hn
  exact ⟨b, o, e, hk _ hf, hc⟩
theorem At.nil (A : Option Addr) : At w F A [] := fun h => absurd h (by simp)
theorem At.get (h : At w F A cs) {j : Nat} (hj : j < cs.length) : ∃ b o, A = some ⟨b, o, none⟩ ∧ F b ∧ w.cell? ⟨b, o + j, none⟩ = cs[j]? := by
  obtain ⟨b, o, e, hf, hc⟩ := h (by omega)
  exact ⟨b, o, e, hf, hc j hj⟩
theorem At.cut (h : At w F A cs) (k cap : Nat) (sz n : Nat) (hl : cs.length = n * sz) (hc : n ≤ cap) :
    At w F (if cap = k then A else A.map (·.add (k * sz))) (cs.drop (k * sz)) := fun hn => by
  have hl2 : 0 < n * sz - k * sz := by simpa [hl] using hn
  have hlt : k < n := by
    rcases Nat.lt_or_ge k n with h | h
    · exact h
    · have : n * sz ≤ k * sz := Nat.mul_le_mul_right _ h
      omega
  obtain ⟨b, o, rfl, hf, hcell⟩ := h (by omega)
  rw [if_neg (by omega)]
  refine ⟨b, o + k * sz, by simp [add_mk], hf, fun j hj => ?_⟩
  rw [List.getElem?_drop, Nat.add_assoc]
  exact hcell _ (by simp at hj; omega)
theorem At.take (h : At w F A cs) (k : Nat) : At w F A (cs.take k) := fun hn => by
  have hl : 0 < min k cs.length := by simpa using hn
  obtain ⟨b, o, rfl, hf, hcell⟩ := h (by omega)
  refine ⟨b, o, rfl, hf, fun j hj => ?_⟩
  have hj' : j < min k cs.length := by simpa using hj
  rw [hcell _ (by omega), List.getElem?_take, if_pos (by omega)]
theorem At.news (h : At w F A cs) {ad : Addr} (e : A = some ad) : ∀ j u, cs[j]? = some u → w.cell? (ad.add j) = some u := fun j u hu => by
  have hj := (List.getElem?_eq_some_iff.1 hu).1
  obtain ⟨b, o, e', _, hc⟩ := h (by omega)
  rw [e] at e'
  cases e'
  rw [add_mk, hc j hj, hu]
end

/-- What an element is, as cells. -/
structure Elt (α : Type) where
  sz : Nat
  ok : World → (Nat → Prop) → α → List Value → Prop
  len : ∀ {w F x l}, ok w F x l → l.length = sz
  one : ∀ {w F x l}, ok w F x l → ∀ u ∈ l, u.oneCell' = true
  keep : ∀ {w w' F x l}, (∀ k, F k → w'.heap[k]? = w.heap[k]?) → ok w F x l → ok w' F x l
  mono : ∀ {w F G x l}, (∀ k, F k → G k) → ok w F x l → ok w G x l

/-- cells that are elements, one behind the other -/
def Rel {α : Type} (E : Elt α) (w : World) (F : Nat → Prop) : List α → List Value → Prop
  | [], cs => cs = []
  | x :: xs, cs => ∃ l r, cs = l ++ r ∧ E.ok w F x l ∧ Rel E w F xs r

section
variable {α : Type} {E : Elt α} {w w' : World} {F G S : Nat → Prop}
theorem Rel.length : ∀ {xs : List α} {cs : List Value}, Rel E w F xs cs → cs.length = xs.length * E.sz
  | [], cs, h => by have h : cs = [] := h; simp [h]
  | x :: xs, cs, h => by
    obtain ⟨l, r, rfl, ho, hr⟩ := h
    have := hr.length
    have hl := E.len ho
    simp only [List.length_append, List.length_cons, hl, this, Nat.add_mul]
    omega
theorem Rel.keep (hk : ∀ k, F k → w'.heap[k]? = w.heap[k]?) : ∀ {xs : List α} {cs : List Value}, Rel E w F xs cs → Rel E w' F xs cs
  | [], _, h => h
  | _ :: _, _, h => by
    obtain ⟨l, r, e, ho, hr⟩ := h
    exact ⟨l, r, e, E.keep hk ho, hr.keep hk⟩
theorem Rel.mono (hk : ∀ k, F k → G k) : ∀ {xs : List α} {cs : List Value}, Rel E w F xs cs → Rel E w G xs cs
  | [], _, h => h
  | _ :: _, _, h => by
    obtain ⟨l, r, e, ho, hr⟩ := h
    exact ⟨l, r, e, E.mono hk ho, hr.mono hk⟩
theorem Rel.append : ∀ {xs ys : List α} {cs ds : List Value}, Rel E w F xs cs → Rel E w F ys ds → Rel E w F (xs ++ ys) (cs ++ ds)
  | [], _, cs, _, h, k => by have h : cs = [] := h; simpa [h] using k
  | _ :: _, _, _, _, h, k => by
    obtain ⟨l, r, rfl, ho, hr⟩ := h
    exact ⟨l, r ++ _, by simp, ho, hr.append k⟩
theorem Rel.one : ∀ {xs : List α} {cs : List Value}, Rel E w F xs cs → ∀ u ∈ cs, u.oneCell' = true
  | [], cs, h, u, hu => by have h : cs = [] := h; simp [h] at hu
  | _ :: _, _, h, u, hu => by
    obtain ⟨l, r, rfl, ho, hr⟩ := h
    rcases List.mem_append.1 hu with h | h
    · exact E.one ho u h
    · exact hr.one u h
theorem Rel.drop : ∀ {xs : List α} {cs : List Value}, Rel E w F xs cs → ∀ k, Rel E w F (xs.drop k) (cs.drop (k * E.sz))
  | [], cs, h, k => by have h : cs = [] := h; simp [h, Rel]
  | x :: xs, cs, h, 0 => by simpa using h
  | x :: xs, cs, h, k + 1 => by
    obtain ⟨l, r, rfl, ho, hr⟩ := h
    have e : (l ++ r).drop ((k + 1) * E.sz) = r.drop (k * E.sz) := by
      rw [Nat.add_mul, Nat.one_mul, Nat.add_comm, ← List.drop_drop, ← E.len ho, List.drop_left]
    rw [e]
    exact hr.drop k
theorem Rel.take : ∀ {xs : List α} {cs : List Value}, Rel E w F xs cs → ∀ k, Rel E w F (xs.take k) (cs.take (k * E.sz))
  | [], cs, h, k => by have h : cs = [] := h; simp [h, Rel]
  | x :: xs, cs, h, 0 => by simp [Rel]
  | x :: xs, cs, h, k + 1 => by
    obtain ⟨l, r, rfl, ho, hr⟩ := h
    refine ⟨l, r.take (k * E.sz), ?_, ho, hr.take k⟩
    rw [Nat.add_mul, Nat.one_mul, Nat.add_comm, ← E.len ho, List.take_append, List.take_of_length_le (by omega)]
    congr 2
    omega
theorem Rel.get {xs : List α} {cs : List Value} (h : Rel E w F xs cs) {k : Nat} (hk : k < xs.length) : ∃ l, E.ok w F xs[k] l ∧ ∀ i, i < E.sz → cs[k * E.sz + i]? = l[i]? := by
  have hd := h.drop k
  rw [List.drop_eq_getElem_cons hk] at hd
  obtain ⟨l, r, e, ho, _⟩ := hd
  refine ⟨l, ho, fun i hi => ?_⟩
  rw [← List.getElem?_drop, e, List.getElem?_append_left (by rw [E.len ho]; exact hi)]
end

/-- The slice value v reads as the elements xs. -/
def Rd {α : Type} (E : Elt α) (w : World) (F : Nat → Prop) (v : Value) (xs : List α) : Prop :=
  ∃ A c cs, v = .slice A xs.length c ∧ xs.length ≤ c ∧ c ≤ maxLen ∧ At w F A cs ∧ Rel E w F xs cs

/-- The slice value v reads as xs; where there is spare room, it is its own. e: the element type. -/
def Own {α : Type} (E : Elt α) (e : TypeId) (w : World) (F : Nat → Prop) (v : Value) (xs : List α) : Prop :=
  ∃ A c cs D, v = .slice A xs.length c ∧ xs.length ≤ c ∧ c ≤ maxLen ∧ At w F A cs ∧ (∀ k, D k → F k) ∧ Rel E w D xs cs ∧
    (xs.length < c → ∃ g cur, A = some ⟨g, 0, none⟩ ∧ F g ∧ ¬ D g ∧ w.heap[g]? = some (.cells cur e (0, 0)) ∧ c * E.sz ≤ cur.size)

section
variable {α : Type} {E : Elt α} {e : TypeId} {w w' : World} {F G S : Nat → Prop} {v : Value} {xs ys : List α}
theorem Rd.keep (h : Rd E w F v xs) (hk : ∀ k, F k → w'.heap[k]? = w.heap[k]?) : Rd E w' F v xs := by
  obtain ⟨A, c, cs, hv, h1, h2, h3, h4⟩ := h
  exact ⟨A, c, cs, hv, h1, h2, h3.keep hk, h4.keep hk⟩
theorem Rd.mono (h : Rd E w F v xs) (hk : ∀ k, F k → G k) : Rd E w G v xs := by
  obtain ⟨A, c, cs, hv, h1, h2, h3, h4⟩ := h
  exact ⟨A, c, cs, hv, h1, h2, h3.mono hk, h4.mono hk⟩
theorem Rd.upd (h : Rd E w F v xs) (hu : Upd S w w') (hf : Fr w S F) : Rd E w' F v xs := h.keep fun k hk => hu.block k (hf k hk).1 (hf k hk).2
theorem Rd.nil (E : Elt α) (w : World) (F : Nat → Prop) : Rd E w F (.slice none 0 0) [] := ⟨none, 0, [], rfl, by simp, by simp, At.nil _, rfl⟩
theorem Own.keep (h : Own E e w F v xs) (hk : ∀ k, F k → w'.heap[k]? = w.heap[k]?) : Own E e w' F v xs := by
  obtain ⟨A, c, cs, D, hv, h1, h2, h3, h4, h5, h6⟩ := h
  refine ⟨A, c, cs, D, hv, h1, h2, h3.keep hk, h4, h5.keep fun k hD => hk k (h4 k hD), fun hl => ?_⟩
  obtain ⟨g, cur, hA, hF, hD, hg, hs⟩ := h6 hl
  exact ⟨g, cur, hA, hF, hD, (hk g hF).trans hg, hs⟩
theorem Own.mono (h : Own E e w F v xs) (hk : ∀ k, F k → G k) : Own E e w G v xs := by
  obtain ⟨A, c, cs, D, hv, h1, h2, h3, h4, h5, h6⟩ := h
  refine ⟨A, c, cs, D, hv, h1, h2, h3.mono hk, fun k hD => hk k (h4 k hD), h5, fun hl => ?_⟩
  obtain ⟨g, cur, hA, hF, hD, hg, hs⟩ := h6 hl
  exact ⟨g, cur, hA, hk g hF, hD, hg, hs⟩
theorem Own.upd (h : Own E e w F v xs) (hu : Upd S w w') (hf : Fr w S F) : Own E e w' F v xs := h.keep fun k hk => hu.block k (hf k hk).1 (hf k hk).2
theorem Own.nil (E : Elt α) (e : TypeId) (w : World) (F : Nat → Prop) : Own E e w F (.slice none 0 0) [] :=
  ⟨none, 0, [], Non, rfl, by simp, by simp, At.nil _, fun _ h => h.elim, rfl, fun h => absurd h (by simp)⟩
theorem Own.rd (h : Own E e w F v xs) : Rd E w F v xs := by
  obtain ⟨A, c, cs, D, hv, h1, h2, h3, h4, h5, h6⟩ := h
  exact ⟨A, c, cs, hv, h1, h2, h3, h5.mono h4⟩
/-- an element's cells -/
theorem Rd.get (h : Rd E w F v xs) {k : Nat} (hk : k < xs.length) (hs : 0 < E.sz) : ∃ b o c l, v = .slice (some ⟨b, o, none⟩) xs.length c ∧ xs.length ≤ c ∧ F b ∧ E.ok w F xs[k] l ∧ ∀ i, i < E.sz → w.cell? ⟨b, o + (k * E.sz + i), none⟩ = l[i]? := by
  obtain ⟨A, c, cs, rfl, h1, h2, h3, h4⟩ := h
  have hl := h4.length
  have hlt : ∀ i, i < E.sz → k * E.sz + i < cs.length := fun i hi => by
    have := Nat.mul_le_mul_right E.sz (show k + 1 ≤ xs.length from hk)
    rw [Nat.add_mul, Nat.one_mul] at this
    omega
  obtain ⟨b, o, rfl, hf, hc⟩ := h3 (by have := hlt 0 hs; omega)
  obtain ⟨l, ho, hg⟩ := h4.get hk
  exact ⟨b, o, c, l, rfl, h1, hf, ho, fun i hi => (hc _ (hlt i hi)).trans (hg i hi)⟩
end

/-! ### append -/
theorem maxLen_eq : maxLen = 9223372036854775807 := rfl

section
variable {α : Type} {E : Elt α} {e : TypeId} {F G S : Nat → Prop} {v : Value} {xs ys : List α} {P : Program}

theorem upd_setRow (w : World) (g : Nat) (cs : Array Value) : Upd (fun k => k = g) w (w.setRow g cs) :=
  ⟨rfl, rfl, rfl, by simp [World.setRow], fun k _ hk => by simp only [World.setRow, Array.getElem?_modify]; rw [if_neg (fun h => hk h.symm)]⟩

theorem run_first {cs : List Value} {w : World} {A : Option Addr} {n c sz : Nat} (h : At w F A cs) (hl : cs.length = n * sz) (_hs : 0 < sz) : (Builtin.firstCells sz n (.slice A n c)).run P w = .ok cs.toArray w := by
  rcases A with _ | ad
  · have h0 : cs = [] := by
      rcases Nat.eq_zero_or_pos cs.length with h0 | h0
      · exact List.eq_nil_of_length_eq_zero h0
      · obtain ⟨_, _, h, _⟩ := h h0
        cases h
    rw [run_firstCells_none, h0]
  · exact run_firstCells_some w sz n ad n c cs hl (h.news rfl)

/-- append onto a slice that is its own where it has room: what comes is there behind it. -/
theorem run_append (w : World) (t ty : TypeId) (z : Value) (bytes : Nat) (ht : P.underlying t = some (.slice e))
    (hinfo : (P.info? e).map (fun i => (i.zero, i.size, i.bytes)) = some (some z, E.sz, bytes)) (hz : z.cells.size = E.sz) (hs : 0 < E.sz)
    (own : Own E e w F v xs) {A : Option Addr} {c : Nat} {ds : List Value} {D' : Nat → Prop} (src : At w G A ds) (rel : Rel E w D' ys ds) (hsep : ∀ k, D' k → k < w.heap.size ∧ ¬ F k) (hF : Fin w F)
    (h63 : xs.length + ys.length ≤ maxLen) (h48 : (xs.length + ys.length) * bytes ≤ 140737488355328) :
    ∃ v' w', (Builtin.append_ #[t, t] ty #[v, .slice A ys.length c]).run P w = .ok v' w' ∧ Upd F w w' ∧
      Own E e w' (fun k => F k ∨ D' k ∨ New w w' k) v' (xs ++ ys) := by
  obtain ⟨i, hi, hzz⟩ := Option.map_eq_some_iff.1 hinfo
  simp only [Prod.mk.injEq] at hzz
  obtain ⟨hz0, hz1, hz2⟩ := hzz
  obtain ⟨B, cap, cs, D, rfl, h1, h2, h3, h4, h5, h6⟩ := own
  have hdl := rel.length
  have hcl := h5.length
  have hfs := fun w' (h : At w' G A ds) => run_first (P := P) (c := c) h hdl hs
  by_cases hroom : xs.length + ys.length ≤ cap
  · by_cases hm : ys = []
    · subst hm
      have hd : ds = [] := rel
      subst hd
      have hfs := hfs w src
      refine ⟨.slice B xs.length cap, w, ?_, Upd.refl _ _, B, cap, cs, D, by simp, by simpa using h1, h2, h3.mono fun k hk => .inl hk, fun k hk => .inl (h4 k hk), by simpa using h5, fun hl => ?_⟩
      · simp only [List.length_nil] at hfs hroom ⊢
        rcases B with _ | b <;> simp [Builtin.append_, run_underlying ht, sizeOf, typeInfo, hi, Builtin.lenOf, hz1, hfs, h1, storeCells]
      · obtain ⟨g, cur, hA, hF', hD, hg, hcs⟩ := h6 (by simpa using hl)
        exact ⟨g, cur, hA, .inl hF', hD, hg, hcs⟩
    · have hy : 0 < ys.length := List.length_pos_iff.2 hm
      obtain ⟨g, cur, rfl, hFg, hDg, hg, hsz⟩ := h6 (by omega)
      have hle : (xs.length + ys.length) * E.sz ≤ cap * E.sz := Nat.mul_le_mul_right _ hroom
      rw [Nat.add_mul] at hle
      have hfit : xs.length * E.sz + ds.length ≤ cur.size := by omega
      have hst := run_storeCells_at P g (xs.length * E.sz) e ds 0 cur w hg (by simpa using hfit) rel.one
      have hadd : (⟨g, 0, none⟩ : Addr).add (xs.length * E.sz) = ⟨g, xs.length * E.sz, none⟩ := by unfold Addr.add; split <;> simp_all
      have hfs := hfs w src
      have hat : cur.toList.take (xs.length * E.sz) = cs := by
        apply List.ext_getElem?
        intro j
        rw [List.getElem?_take]
        split
        · rename_i hj
          obtain ⟨_, _, e1, _, e2⟩ := h3.get (j := j) (by omega)
          cases e1
          rw [Nat.zero_add, cell_of_row w g j cur e (0, 0) hg] at e2
          simpa using e2
        · rw [List.getElem?_eq_none (by omega)]
      let cur' : Array Value := (cur.toList.take (xs.length * E.sz) ++ ds ++ cur.toList.drop (xs.length * E.sz + ds.length)).toArray
      have hb : (w.setRow g cur').heap[g]? = some (.cells cur' e (0, 0)) := setRow_heap w g cur _ e _ hg
      have hu := upd_setRow w g cur'
      refine ⟨.slice (some ⟨g, 0, none⟩) (xs.length + ys.length) cap, w.setRow g cur', ?_, hu.mono (fun x _ hx => by rw [hx]; exact hFg), some ⟨g, 0, none⟩, cap, cs ++ ds, fun k => D k ∨ D' k, by simp, by simpa using hroom, h2, fun _ => ⟨_, _, rfl, .inl hFg, fun j hj => ?_⟩, ?_, ?_, fun _ => ⟨g, cur', rfl, .inl hFg, ?_, hb, ?_⟩⟩
      · simp only [Nat.add_zero] at hst
        simp [Builtin.append_, run_underlying ht, sizeOf, typeInfo, hi, Builtin.lenOf, hz1, hfs, hroom, hadd, hst, cur']
      · rw [Nat.zero_add, cell_of_row _ g j cur' e (0, 0) hb]
        show (cur.toList.take (xs.length * E.sz) ++ ds ++ cur.toList.drop (xs.length * E.sz + ds.length)).toArray[j]? = _
        rw [hat, List.getElem?_toArray, List.getElem?_append_left hj]
      · rintro k (hk | hk)
        · exact .inl (h4 k hk)
        · exact .inr (.inl hk)
      · refine Rel.append ((h5.keep fun k hk => ?_).mono fun k hk => .inl hk) ((rel.keep fun k hk => ?_).mono fun k hk => .inr hk)
        · exact hu.block k (hF k (h4 k hk)) fun e => hDg (by have e : k = g := e; subst e; exact hk)
        · exact hu.block k (hsep k hk).1 fun e => (hsep k hk).2 (by have e : k = g := e; subst e; exact hFg)
      · rintro (h | h)
        · exact hDg h
        · exact (hsep g h).2 hFg
      · show cap * E.sz ≤ (cur.toList.take (xs.length * E.sz) ++ ds ++ cur.toList.drop (xs.length * E.sz + ds.length)).toArray.size
        simp only [List.size_toArray, List.length_append, List.length_take, List.length_drop, Array.length_toList]
        omega
  · have h63' : ¬ (9223372036854775807 < ((xs.length : Int) + (ys.length : Int))) := by rw [maxLen_eq] at h63; omega
    have h48' : ¬ (281474976710656 < Builtin.nextslicecap (xs.length + ys.length) cap * i.bytes) := by
      have := growslice_fits (need := xs.length + ys.length) (old := cap) (bytes := i.bytes) (by omega) (by rw [hz2]; exact h48)
      omega
    have hfs := hfs w.drew (src.keep fun _ _ => rfl)
    have hfo := run_first (P := P) (c := cap) (h3.keep (w' := w.drew) fun _ _ => rfl) hcl hs
    let new : Array Value := (cs.toArray ++ ds.toArray ++ Builtin.zeroCells z.cells (grownCap w (xs.length + ys.length) cap e - (xs.length + ys.length)))
    have hnew : (w.drew.alloc (.cells new e)).heap[w.heap.size]? = some (.cells new e (0, 0)) := heap_alloc_new w.drew _
    have hsize : (w.drew.alloc (.cells new e)).heap.size = w.heap.size + 1 := by simp
    have hcap := grownCap_ge w (xs.length + ys.length) cap e
    have hu : Upd Non w (w.drew.alloc (.cells new e)) := ((Upd.refl Non w).drew).alloc _
    have hno : ∀ k, ¬ Non k := fun _ h => h
    have hN : New w (w.drew.alloc (.cells new e)) w.heap.size := ⟨Nat.le_refl _, by rw [hsize]; omega⟩
    refine ⟨.slice (some ⟨w.heap.size, 0, none⟩) (xs.length + ys.length) (grownCap w (xs.length + ys.length) cap e), w.drew.alloc (.cells new e), ?_, hu.mono (fun _ _ h => h.elim), some ⟨w.heap.size, 0, none⟩, grownCap w (xs.length + ys.length) cap e, cs ++ ds, fun k => D k ∨ D' k, by simp, by simpa using hcap, grownCap_le_maxLen w _ _ _ h63, fun _ => ⟨_, _, rfl, .inr (.inr hN), fun j hj => ?_⟩, ?_, ?_, fun _ => ⟨w.heap.size, new, rfl, .inr (.inr hN), ?_, hnew, ?_⟩⟩
    · simp [Builtin.append_, run_underlying ht, sizeOf, typeInfo, zeroValue, hi, hz0, hz1, Builtin.lenOf, hroom, h63', h48', Question.forced, hfs, hfo, newRow, grownCap, new]
    · rw [Nat.zero_add, cell_of_row _ _ j new e (0, 0) hnew]
      show (cs.toArray ++ ds.toArray ++ _ : Array Value)[j]? = _
      rw [Array.getElem?_append_left (by simpa using hj)]
      simp
    · rintro k (hk | hk)
      · exact .inl (h4 k hk)
      · exact .inr (.inl hk)
    · refine Rel.append ((h5.keep fun k hk => ?_).mono fun k hk => .inl hk) ((rel.keep fun k hk => ?_).mono fun k hk => .inr hk)
      · exact hu.block k (hF k (h4 k hk)) (hno k)
      · exact hu.block k (hsep k hk).1 (hno k)
    · rintro (h | h)
      · exact Nat.lt_irrefl _ (hF _ (h4 _ h))
      · exact Nat.lt_irrefl _ (hsep _ h).1
    · show _ ≤ (cs.toArray ++ ds.toArray ++ Builtin.zeroCells z.cells (grownCap w (xs.length + ys.length) cap e - (xs.length + ys.length))).size
      simp only [Array.size_append, List.size_toArray, hcl, hdl, Builtin.zeroCells, Array.size_map, Array.size_range, hz]
      rw [← Nat.add_mul, ← Nat.add_mul]
      exact Nat.mul_le_mul_right _ (by omega)

theorem wp_append {o : Oper} {a : Act} {K : Act → World → Prop} {Q : Exit → Act → World → Prop} (w : World) (s x : Operand) (t : TypeId)
    (ho : o.op = .call { callee := .builtin .append, args := #[s, x], argTypes := #[t, t] })
    (z : Value) (bytes : Nat) (ht : P.underlying t = some (.slice e))
    (hinfo : (P.info? e).map (fun i => (i.zero, i.size, i.bytes)) = some (some z, E.sz, bytes)) (hz : z.cells.size = E.sz) (hs : 0 < E.sz)
    (hev : a.eval s = v) (own : Own E e w F v xs) (A : Option Addr) (c : Nat) (hex : a.eval x = .slice A ys.length c) (ds : List Value) (D' : Nat → Prop) (src : At w G A ds) (rel : Rel E w D' ys ds) (hsep : ∀ k, D' k → k < w.heap.size ∧ ¬ F k) (hF : Fin w F)
    (h63 : xs.length + ys.length ≤ maxLen) (h48 : (xs.length + ys.length) * bytes ≤ 140737488355328)
    (h : ∀ v' w', Upd F w w' → Own E e w' (fun k => F k ∨ D' k ∨ New w w' k) v' (xs ++ ys) → K (a.put o.dst v') w') : o.wp P a w K Q := by
  obtain ⟨v', w', hrun, h2, h3⟩ := run_append (P := P) w t o.type z bytes ht hinfo hz hs own (c := c) src rel hsep hF h63 h48
  unfold Oper.wp execOp
  simp only [ho, resolve, invoke, builtin, Sem.run_bind, Sem.run_pure, Result.andThen_ok, List.map_toArray, List.map_cons, List.map_nil, hev, hex, hrun]
  exact h v' w' h2 h3

theorem wpList_append {ops : Array Oper} {rest : List Oper} {o : Oper} {a : Act} {Q : Exit → Act → World → Prop} (w : World) (hgd : o.guard = none) (s x : Operand) (t : TypeId)
    (ho : o.op = .call { callee := .builtin .append, args := #[s, x], argTypes := #[t, t] })
    (z : Value) (bytes : Nat) (ht : P.underlying t = some (.slice e))
    (hinfo : (P.info? e).map (fun i => (i.zero, i.size, i.bytes)) = some (some z, E.sz, bytes)) (hz : z.cells.size = E.sz) (hs : 0 < E.sz)
    (hev : a.eval s = v) (own : Own E e w F v xs) (A : Option Addr) (c : Nat) (hex : a.eval x = .slice A ys.length c) (ds : List Value) (D' : Nat → Prop) (src : At w G A ds) (rel : Rel E w D' ys ds) (hsep : ∀ k, D' k → k < w.heap.size ∧ ¬ F k) (hF : Fin w F)
    (h63 : xs.length + ys.length ≤ maxLen) (h48 : (xs.length + ys.length) * bytes ≤ 140737488355328)
    (h : ∀ v' w', Upd F w w' → Own E e w' (fun k => F k ∨ D' k ∨ New w w' k) v' (xs ++ ys) → wpList P ops Q rest (a.put o.dst v') w') : wpList P ops Q (o :: rest) a w :=
  wpList_plain hgd fun _ hK => wp_append w s x t ho z bytes ht hinfo hz hs hev own A c hex ds D' src rel hsep hF h63 h48 fun v' w' h2 h3 => hK _ _ (h v' w' h2 h3)

theorem step_append {ops : Array Oper} {o : Oper} {a : Act} {K : Act → World → Prop} {Q : Exit → Act → World → Prop} {E' : Prop} (w : World) (hgd : o.guard = none) (s x : Operand) (t : TypeId)
    (ho : o.op = .call { callee := .builtin .append, args := #[s, x], argTypes := #[t, t] })
    (z : Value) (bytes : Nat) (ht : P.underlying t = some (.slice e))
    (hinfo : (P.info? e).map (fun i => (i.zero, i.size, i.bytes)) = some (some z, E.sz, bytes)) (hz : z.cells.size = E.sz) (hs : 0 < E.sz)
    (hev : a.eval s = v) (own : Own E e w F v xs) (A : Option Addr) (c : Nat) (hex : a.eval x = .slice A ys.length c) (ds : List Value) (D' : Nat → Prop) (src : At w G A ds) (rel : Rel E w D' ys ds) (hsep : ∀ k, D' k → k < w.heap.size ∧ ¬ F k) (hF : Fin w F)
    (h63 : xs.length + ys.length ≤ maxLen) (h48 : (xs.length + ys.length) * bytes ≤ 140737488355328)
    (h : ∀ v' w', Upd F w w' → Own E e w' (fun k => F k ∨ D' k ∨ New w w' k) v' (xs ++ ys) → K (a.put o.dst v') w') :
    if Region.wanted o (yielded ops a.tmps) = true then Oper.wp P o a w K Q else E' := by
  have hw : Region.wanted o (yielded ops a.tmps) = true := by simp [Region.wanted, hgd]
  rw [if_pos hw]
  exact wp_append w s x t ho z bytes ht hinfo hz hs hev own A c hex ds D' src rel hsep hF h63 h48 h
end

/-! ### kinds of elements -/
def bv (x : UInt8) : Value := .int .u8 (x.toNat : Int)
def byteE : Elt UInt8 where
  sz := 1
  ok := fun _ _ x l => l = [bv x]
  len := fun h => by rw [h]; rfl
  one := fun h u hu => by rw [h] at hu; simp at hu; subst hu; rfl
  keep := fun _ h => h
  mono := fun _ h => h
def intE : Elt Int where
  sz := 1
  ok := fun _ _ x l => l = [.int .i64 x]
  len := fun h => by rw [h]; rfl
  one := fun h u hu => by rw [h] at hu; simp at hu; subst hu; rfl
  keep := fun _ h => h
  mono := fun _ h => h
def boolE : Elt Bool where
  sz := 1
  ok := fun _ _ x l => l = [.bool x]
  len := fun h => by rw [h]; rfl
  one := fun h u hu => by rw [h] at hu; simp at hu; subst hu; rfl
  keep := fun _ h => h
  mono := fun _ h => h
abbrev Ent := Int × List UInt8
/-- a number, and bytes -/
def entE : Elt Ent where
  sz := 2
  ok := fun w F x l => ∃ dv, l = [.int .i64 x.1, dv] ∧ x.2.length ≤ 140737488355328 ∧ Rd byteE w F dv x.2
  len := fun h => by obtain ⟨dv, rfl, _⟩ := h; rfl
  one := fun h u hu => by
    obtain ⟨dv, rfl, _, A, c, cs, rfl, _⟩ := h
    simp at hu
    rcases hu with rfl | rfl <;> rfl
  keep := fun hk h => by
    obtain ⟨dv, e, hl, h⟩ := h
    exact ⟨dv, e, hl, h.keep hk⟩
  mono := fun hk h => by
    obtain ⟨dv, e, hl, h⟩ := h
    exact ⟨dv, e, hl, h.mono hk⟩
theorem sz_byteE : byteE.sz = 1 := rfl
theorem sz_entE : entE.sz = 2 := rfl

section
variable {w : World} {F : Nat → Prop} {v : Value}
theorem Rd.shape {α : Type} {E : Elt α} {xs : List α} (h : Rd E w F v xs) : ∃ A c, v = .slice A xs.length c ∧ xs.length ≤ c ∧ c ≤ maxLen := by
  obtain ⟨A, c, cs, hv, h1, h2, _⟩ := h
  exact ⟨A, c, hv, h1, h2⟩
theorem Own.shape {α : Type} {E : Elt α} {e : TypeId} {xs : List α} (h : Own E e w F v xs) : ∃ A c, v = .slice A xs.length c ∧ xs.length ≤ c ∧ c ≤ maxLen := h.rd.shape
theorem Rd.ent {xs : List Ent} (h : Rd entE w F v xs) {k : Nat} (hk : k < xs.length) : ∃ b o c dv, v = .slice (some ⟨b, o, none⟩) xs.length c ∧ xs.length ≤ c ∧ F b ∧ xs[k].2.length ≤ 140737488355328 ∧ Rd byteE w F dv xs[k].2 ∧
    w.cell? ⟨b, o + k * 2, none⟩ = some (.int .i64 xs[k].1) ∧ w.cell? ⟨b, o + k * 2 + 1, none⟩ = some dv := by
  obtain ⟨b, o, c, l, hv, hc, hf, ⟨dv, rfl, hl, hr⟩, hg⟩ := h.get hk (by decide)
  exact ⟨b, o, c, dv, hv, hc, hf, hl, hr, by simpa [entE] using hg 0 (by decide), by simpa [entE, Nat.add_assoc] using hg 1 (by decide)⟩
theorem Rd.byte {xs : List UInt8} (h : Rd byteE w F v xs) {k : Nat} (hk : k < xs.length) : ∃ b o c, v = .slice (some ⟨b, o, none⟩) xs.length c ∧ xs.length ≤ c ∧ F b ∧ w.cell? ⟨b, o + k, none⟩ = some (bv xs[k]) := by
  obtain ⟨b, o, c, l, hv, hc, hf, hl, hg⟩ := h.get hk (by decide)
  have hl : l = [bv xs[k]] := hl
  subst hl
  exact ⟨b, o, c, hv, hc, hf, by simpa [byteE] using hg 0 (by decide)⟩
end

/-- elements that lead nowhere -/
def Elt.flat {α : Type} (E : Elt α) : Prop := ∀ {w w' F G x l}, E.ok w F x l → E.ok w' G x l
theorem byteE_flat : byteE.flat := fun h => h
theorem intE_flat : intE.flat := fun h => h
theorem boolE_flat : boolE.flat := fun h => h
theorem Rel.flat {α : Type} {E : Elt α} (hE : E.flat) {w w' : World} {F G : Nat → Prop} : ∀ {xs : List α} {cs : List Value}, Rel E w F xs cs → Rel E w' G xs cs
  | [], _, h => h
  | _ :: _, _, h => by
    obtain ⟨l, r, e, ho, hr⟩ := h
    exact ⟨l, r, e, hE ho, hr.flat hE⟩
theorem Own.empty {α : Type} (E : Elt α) (e : TypeId) (w : World) (F : Nat → Prop) (A : Option Addr) : Own E e w F (.slice A 0 0) [] :=
  ⟨A, 0, [], Non, rfl, by simp, by simp, At.nil _, fun _ h => h.elim, rfl, fun h => absurd h (by simp)⟩
theorem Own.mono' {α : Type} {E : Elt α} {e : TypeId} {w : World} {F G : Nat → Prop} {v : Value} {xs : List α} (h : Own E e w F v xs) (hk : ∀ k, F k → G k) : Own E e w G v xs := h.mono hk
theorem Rd.mono' {α : Type} {E : Elt α} {w : World} {F G : Nat → Prop} {v : Value} {xs : List α} (h : Rd E w F v xs) (hk : ∀ k, F k → G k) : Rd E w G v xs := h.mono hk
theorem alloc_keep {w : World} {F : Nat → Prop} (hF : Fin w F) (o : Obj) : ∀ k, F k → (w.alloc o).heap[k]? = w.heap[k]? := fun k hk => Below.heap_alloc w o k (hF k hk)
theorem Fin.non (w : World) : Fin w Non := fun _ h => h.elim

theorem Upd.fr_non {w : World} {F : Nat → Prop} (hF : Fin w F) : Fr w Non F := fun k hk => ⟨hF k hk, fun h => h⟩
theorem Fin.upd {w w' : World} {F S : Nat → Prop} (hF : Fin w F) (hu : Upd S w w') : Fin w' F := fun k hk => Nat.lt_of_lt_of_le (hF k hk) hu.size
theorem Fin.new {w w' : World} : Fin w' (New w w') := fun _ hk => hk.2
theorem take_snoc {α : Type} (l : List α) (k : Nat) (h : k < l.length) : l.take (k + 1) = l.take k ++ [l[k]] := by
  rw [List.take_succ_eq_append_getElem h]

theorem box_facts (w : World) (cs : Array Value) (t : TypeId) : Upd Non w (w.alloc (.cells cs t)) ∧ (w.alloc (.cells cs t)).heap.size = w.heap.size + 1 ∧ (w.alloc (.cells cs t)).heap[w.heap.size]? = some (.cells cs t (0, 0)) :=
  ⟨(Upd.refl _ _).alloc _, by simp, heap_alloc_new w _⟩
theorem blk_at {w : World} {g : Nat} {t : TypeId} {cs : Array Value} (h : w.heap[g]? = some (.cells cs t (0, 0))) (i : Nat) : w.cell? ⟨g, i, none⟩ = cs[i]? := cell_of_row w g i cs t (0, 0) h
theorem blk_free {w : World} {g : Nat} {t : TypeId} {cs : Array Value} (h : w.heap[g]? = some (.cells cs t (0, 0))) (i : Nat) : w.frozen? ⟨g, i, none⟩ = false := by simp [World.frozen?, h]
theorem blk_lt {w : World} {g : Nat} {o : Obj} (h : w.heap[g]? = some o) : g < w.heap.size := (Array.getElem?_eq_some_iff.1 h).1
theorem blk_set {w : World} {g : Nat} {t : TypeId} {cs : Array Value} (h : w.heap[g]? = some (.cells cs t (0, 0))) (i : Nat) (u : Value) : (w.setCell ⟨g, i, none⟩ u).heap[g]? = some (.cells (cs.setIfInBounds i u) t (0, 0)) := by
  simp [World.setCell, Array.getElem?_modify, h]

section
variable {α : Type} {E : Elt α} {e : TypeId} {w : World} {F : Nat → Prop} {v : Value} {xs : List α}
theorem Rd.drew (h : Rd E w F v xs) : Rd E w.drew F v xs := h.keep fun _ _ => rfl
theorem Rd.drewN (h : Rd E w F v xs) (n : Nat) : Rd E (w.drewN n) F v xs := h.keep fun _ _ => rfl
theorem Own.drew (h : Own E e w F v xs) : Own E e w.drew F v xs := h.keep fun _ _ => rfl
theorem Own.drewN (h : Own E e w F v xs) (n : Nat) : Own E e (w.drewN n) F v xs := h.keep fun _ _ => rfl
theorem Rd.alloc (h : Rd E w F v xs) (hF : Fin w F) (o : Obj) : Rd E (w.alloc o) F v xs := h.keep (alloc_keep hF o)
theorem Own.alloc (h : Own E e w F v xs) (hF : Fin w F) (o : Obj) : Own E e (w.alloc o) F v xs := h.keep (alloc_keep hF o)
end

/-- a new block of one element's cells, as append reads it -/
theorem at_box (w : World) (cs : Array Value) (t : TypeId) : At (w.alloc (.cells cs t)) (fun k => k = w.heap.size) (some ⟨w.heap.size, 0, none⟩) cs.toList := fun _ =>
  ⟨_, _, rfl, rfl, fun j _ => by rw [Nat.zero_add, blk_at (heap_alloc_new w _) j]; simp⟩
theorem ent_rel {w : World} {D : Nat → Prop} {x : Ent} {dv : Value} (hr : Rd byteE w D dv x.2) (hl : x.2.length ≤ 140737488355328) : Rel entE w D [x] [.int .i64 x.1, dv] :=
  ⟨_, [], by simp, ⟨dv, rfl, hl, hr⟩, rfl⟩
theorem Upd.after {w wr W w2 : World} (hu : Upd Non w wr) (h1 : Upd Non wr W) (h2 : Upd (New w wr) W w2) : Upd Non w w2 :=
  (hu.trans h1).trans' h2 fun x hx h => absurd hx (by have := h.1; omega)

theorem sep_new {w wr W w1 : World} {o : Obj} (h : wr.heap.size ≤ W.heap.size) : ∀ k, New W w1 k → k < (w1.alloc o).heap.size ∧ ¬ New w wr k := fun k hk =>
  ⟨by have := hk.2; simp; omega, fun h' => by have := hk.1; have := h'.2; omega⟩
theorem take_len {α : Type} (es : List α) (k : Nat) (h : k < es.length) (x : α) (N B : Nat) (hl : es.length ≤ N) (hN : N ≤ maxLen) (hB : N * B ≤ 140737488355328) :
    (es.take k).length + [x].length ≤ maxLen ∧ ((es.take k).length + [x].length) * B ≤ 140737488355328 := by
  have : (es.take k).length + [x].length ≤ N := by simp; omega
  exact ⟨by omega, Nat.le_trans (Nat.mul_le_mul_right _ this) hB⟩

/-! ### max and min of two whole numbers -/
theorem max2_int (k k' : IntKind) (x y : Int) : Builtin.max2 (.int k x) (.int k' y) = pure (.int k (max x y)) := by
  simp only [Builtin.max2, gt_iff_lt]
  congr 2
  split <;> omega
theorem min2_int (k k' : IntKind) (x y : Int) : Builtin.min2 (.int k x) (.int k' y) = pure (.int k (min x y)) := by
  simp only [Builtin.min2]
  congr 2
  split <;> omega
theorem max_two (ats : Array TypeId) (ty : TypeId) (a b : Value) : Builtin.max_ ats ty #[a, b] = (Builtin.max2 a b >>= fun s => pure s) := by simp only [Builtin.max_, List.foldlM_cons, List.foldlM_nil]
theorem min_two (ats : Array TypeId) (ty : TypeId) (a b : Value) : Builtin.min_ ats ty #[a, b] = (Builtin.min2 a b >>= fun s => pure s) := by simp only [Builtin.min_, List.foldlM_cons, List.foldlM_nil]

/-- what is left of a slice from k on -/
theorem Rd.tail {α : Type} {E : Elt α} {w : World} {F : Nat → Prop} {xs : List α} {b o c : Nat} (h : Rd E w F (.slice (some ⟨b, o, none⟩) xs.length c) xs) (k : Nat) (hk : k < xs.length) :
    Rd E w F (.slice (some ⟨b, o + k * E.sz, none⟩) (xs.length - k) (xs.length - k)) (xs.drop k) := by
  obtain ⟨A, c', cs, hv, h1, h2, h3, h4⟩ := h
  cases hv
  have hcut := h3.cut k c E.sz xs.length h4.length h1
  rw [if_neg (by omega)] at hcut
  simp only [Option.map_some, add_mk] at hcut
  exact ⟨_, xs.length - k, _, by rw [List.length_drop], by rw [List.length_drop]; exact Nat.le_refl _, by omega, hcut, h4.drop k⟩
/-- the first k of a slice, without room behind -/
theorem Own.head {α : Type} {E : Elt α} {e : TypeId} {w : World} {F : Nat → Prop} {xs : List α} {A : Option Addr} {c : Nat} (h : Own E e w F (.slice A xs.length c) xs) (k : Nat) (hk : k ≤ xs.length) :
    Own E e w F (.slice A k k) (xs.take k) := by
  obtain ⟨A', c', cs, D, hv, h1, h2, h3, h4, h5, h6⟩ := h
  cases hv
  have hl : (xs.take k).length = k := by simp; omega
  refine ⟨A, k, _, D, by rw [hl], by omega, by omega, h3.take (k * E.sz), h4, h5.take k, fun hh => absurd hh (by omega)⟩

/-- a literal's slice -/
theorem rd_box {α : Type} {E : Elt α} (w : World) (cs : Array Value) (t : TypeId) (xs : List α) (hr : Rel E (w.alloc (.cells cs t)) (New w (w.alloc (.cells cs t))) xs cs.toList) (hn : xs.length ≤ maxLen) :
    Rd E (w.alloc (.cells cs t)) (New w (w.alloc (.cells cs t))) (.slice (some ⟨w.heap.size, 0, none⟩) xs.length xs.length) xs :=
  ⟨_, _, _, rfl, Nat.le_refl _, hn, (at_box w cs t).mono fun k hk => by subst hk; exact ⟨Nat.le_refl _, by simp⟩, hr⟩

/-- the middle of a slice, without room behind -/
theorem Own.mid {α : Type} {E : Elt α} {e : TypeId} {w : World} {F : Nat → Prop} {xs : List α} {A : Option Addr} {c : Nat} (h : Own E e w F (.slice A xs.length c) xs) (lo hi : Nat) (h1 : lo < hi) (h2 : hi ≤ xs.length) :
    Rd E w F (.slice (A.map fun x => x.add (lo * E.sz)) (hi - lo) (hi - lo)) ((xs.take hi).drop lo) := by
  obtain ⟨A', c', cs, hv, k1, k2, k3, k4⟩ := (h.head hi h2).rd
  have hl : (xs.take hi).length = hi := by simp; omega
  rw [hl] at hv k1
  cases hv
  have hcut := k3.cut lo hi E.sz hi (by rw [k4.length, hl]) (Nat.le_refl _)
  rw [if_neg (by omega)] at hcut
  exact ⟨_, hi - lo, _, by rw [List.length_drop, hl], by rw [List.length_drop, hl]; exact Nat.le_refl _, by omega, hcut, k4.drop lo⟩
end Go.Proofs.Ytnaldifgnpnbhaa
