/-
  A clock's alarms: as a list, in memory.
-/
import Derived.Test.YtgjikmpeeipboaaS1
import Derived.Maps.OwnOps
import Derived.Maps.OwnSet
import Derived.Lib.SlKeysI
namespace Go.Proofs.Ytgjikmpeeipboaa
open Go.RowKit
/-! ### alarms as a list: (id, tick) -/
abbrev Alm := Int × Int
def valA (L : List Alm) (x : Int) : Int := ((L.find? fun y => y.1 == x).map (·.2)).getD 0
def idsA (L : List Alm) : List Int := L.map (·.1)
theorem valA_mem : ∀ {L : List Alm} (_ : (idsA L).Nodup) {y : Alm} (_ : y ∈ L), valA L y.1 = y.2
  | [], _, y, h => by cases h
  | z :: r, hn, y, h => by
    have hn' : z.1 ∉ idsA r ∧ (idsA r).Nodup := List.nodup_cons.1 hn
    rcases List.mem_cons.1 h with rfl | h
    · simp [valA]
    · have hne : z.1 ≠ y.1 := fun e => hn'.1 (e ▸ List.mem_map.2 ⟨y, h, rfl⟩)
      have := valA_mem hn'.2 h
      simpa [valA, List.find?_cons, hne] using this
theorem valA_not {L : List Alm} {x : Int} (h : x ∉ idsA L) : valA L x = 0 := by
  have : L.find? (fun y => y.1 == x) = none := List.find?_eq_none.2 fun y hy e => h (List.mem_map.2 ⟨y, hy, by simpa using e⟩)
  simp [valA, this]
theorem valA_perm {L L' : List Alm} (hn : (idsA L).Nodup) (hp : L.Perm L') (x : Int) : valA L x = valA L' x := by
  have hn' : (idsA L').Nodup := (hp.map _).nodup_iff.1 hn
  by_cases h : x ∈ idsA L
  · obtain ⟨y, hy, rfl⟩ := List.mem_map.1 h
    rw [valA_mem hn hy, valA_mem hn' (hp.mem_iff.1 hy)]
  · rw [valA_not h, valA_not fun h' => h ((hp.map _).mem_iff.2 h')]

/-- The datum D reads as the alarms L. -/
def MapL (D : DataW Unit) (L : List Alm) : Prop :=
  (idsA L).Nodup ∧ (∀ x, Maps.has D (.int .i64 x) = true ↔ x ∈ idsA L) ∧ ∀ x, D.atKey (.int .i64 x) (.lit (.int .i64 0)) = .lit (.int .i64 (valA L x))
theorem MapL.perm {D : DataW Unit} {L L' : List Alm} (h : MapL D L) (hp : L.Perm L') : MapL D L' :=
  ⟨(hp.map _).nodup_iff.1 h.1, fun x => (h.2.1 x).trans (hp.map _).mem_iff, fun x => by rw [h.2.2 x, valA_perm h.1 hp]⟩
theorem MapL.nil : MapL (.map []) [] := ⟨List.nodup_nil, fun x => by simp [Maps.has, idsA], fun x => rfl⟩
/-- without an id -/
def delL (L : List Alm) (x : Int) : List Alm := L.filter fun y => !(y.1 == x)
theorem mem_delL {L : List Alm} {x : Int} {y : Alm} : y ∈ delL L x ↔ y ∈ L ∧ y.1 ≠ x := by simp [delL, List.mem_filter]
theorem ids_delL {L : List Alm} {x z : Int} : z ∈ idsA (delL L x) ↔ z ∈ idsA L ∧ z ≠ x := by
  simp only [idsA, List.mem_map, mem_delL]
  constructor
  · rintro ⟨y, ⟨h1, h2⟩, rfl⟩; exact ⟨⟨y, h1, rfl⟩, h2⟩
  · rintro ⟨⟨y, h1, rfl⟩, h2⟩; exact ⟨y, ⟨h1, h2⟩, rfl⟩
theorem nodup_delL {L : List Alm} (h : (idsA L).Nodup) (x : Int) : (idsA (delL L x)).Nodup := (List.filter_sublist.map _).nodup h
theorem MapL.del {D : DataW Unit} {L : List Alm} (h : MapL D L) (x : Int) : MapL (D.del (.int .i64 x)) (delL L x) := by
  refine ⟨nodup_delL h.1 x, fun z => ?_, fun z => ?_⟩
  · by_cases e : z = x
    · subst e
      rw [Maps.has_del_same, ids_delL]; simp
    · rw [Maps.has_del_other (by simpa using e), h.2.1 z, ids_delL]; simp [e]
  · by_cases e : z = x
    · subst e
      rw [Maps.atKey_del_same, valA_not (by rw [ids_delL]; simp)]
    · rw [Maps.atKey_del_other (by simpa using e), h.2.2 z]
      by_cases hz : z ∈ idsA L
      · obtain ⟨y, hy, rfl⟩ := List.mem_map.1 hz
        rw [valA_mem h.1 hy, valA_mem (nodup_delL h.1 x) (mem_delL.2 ⟨hy, e⟩)]
      · rw [valA_not hz, valA_not fun h' => hz (ids_delL.1 h').1]
theorem MapL.put {D : DataW Unit} {L : List Alm} (h : MapL D L) (hD : Maps.IsMap D) (x v : Int) (hk : WideAt.IsKeyLit (.int .i64 x)) (hx : x ∉ idsA L) : MapL (D.put (.int .i64 x) (.lit (.int .i64 v))) ((x, v) :: L) := by
  have hn : (idsA ((x, v) :: L)).Nodup := List.nodup_cons.2 ⟨hx, h.1⟩
  refine ⟨hn, fun z => ?_, fun z => ?_⟩
  · by_cases e : z = x
    · subst e
      rw [Maps.has_put_same hD hk]; simp [idsA]
    · rw [Maps.has_put_other (by simpa using e), h.2.1 z]; simp [idsA, e]
  · by_cases e : z = x
    · subst e
      rw [Maps.atKey_put_same hD hk, valA_mem hn (y := (z, v)) (by simp)]
    · rw [Maps.atKey_put_other (by simpa using e), h.2.2 z]
      have : ¬ x = z := fun e' => e e'.symm
      simp [valA, this]

/-! ### by tick, then id -/
def ltA (a b : Alm) : Bool := decide (a.2 < b.2) || (decide (a.2 = b.2) && decide (a.1 < b.1))
def SrtA (L : List Alm) : Prop := L.Pairwise fun a b => ltA a b = true
theorem ltA_iff {a b : Alm} : ltA a b = true ↔ a.2 < b.2 ∨ a.2 = b.2 ∧ a.1 < b.1 := by simp [ltA]
theorem ltA_trans {a b c : Alm} (h : ltA a b = true) (k : ltA b c = true) : ltA a c = true := by
  rw [ltA_iff] at *; omega
theorem ltA_total {a b : Alm} (h : ltA a b = false) (hne : a.1 ≠ b.1) : ltA b a = true := by
  have h : ¬ (ltA a b = true) := by simp [h]
  rw [ltA_iff] at *; omega
def insL (L : List Alm) (p : Alm) : List Alm := L.takeWhile (ltA · p) ++ p :: L.dropWhile (ltA · p)
theorem insL_perm (L : List Alm) (p : Alm) : (insL L p).Perm (p :: L) := by
  unfold insL
  refine (List.perm_middle).trans (List.Perm.cons p ?_)
  rw [List.takeWhile_append_dropWhile]
theorem srt_delL {L : List Alm} (h : SrtA L) (x : Int) : SrtA (delL L x) := h.filter _
theorem srt_insL : ∀ {L : List Alm} (_ : SrtA L) {p : Alm} (_ : p.1 ∉ idsA L), SrtA (insL L p)
  | [], _, p, _ => by simp [insL, SrtA]
  | a :: r, h, p, hp => by
    obtain ⟨h1, h2⟩ := List.pairwise_cons.1 h
    have hpa : ¬ p.1 = a.1 := fun e => hp (by simp [idsA, e])
    have hpr : p.1 ∉ idsA r := fun e => hp (List.mem_cons_of_mem _ e)
    cases hlt : ltA a p
    · have e : insL (a :: r) p = p :: a :: r := by simp [insL, hlt]
      rw [e]
      have hap := ltA_total hlt fun e => hpa e.symm
      refine List.pairwise_cons.2 ⟨fun y hy => ?_, h⟩
      rcases List.mem_cons.1 hy with rfl | hy
      · exact hap
      · exact ltA_trans hap (h1 y hy)
    · have e : insL (a :: r) p = a :: insL r p := by simp [insL, hlt]
      rw [e]
      refine List.pairwise_cons.2 ⟨fun y hy => ?_, srt_insL h2 hpr⟩
      rcases List.mem_cons.1 ((insL_perm r p).mem_iff.1 hy) with rfl | hy
      · exact hlt
      · exact h1 y hy

/-! ### in memory -/
/-- A clock at p, its alarms in block b: now t, alarms L; n: how many stores at most. -/
def ClkAt (w : World) (p b n : Nat) (t : Int) (L : List Alm) : Prop :=
  w.heap[p]? = some (.cells #[.int .i64 t, .map (some b)] 63 (0, 0)) ∧ p ≠ b ∧ (∃ D, w.ownsMap Try.prog 3 (plainElem Try.prog 3) b n D ∧ MapL D L) ∧ SrtA L ∧ ∀ y ∈ L, IB y.1 ∧ IB y.2
theorem owns_upd {w w' : World} {k e : TypeId} {b n : Nat} {D : DataW Unit} (h : w.ownsMap Try.prog k (plainElem Try.prog e) b n D) (hb : w'.heap[b]? = w.heap[b]?) : w'.ownsMap Try.prog k (plainElem Try.prog e) b n D := by
  obtain ⟨es, cl, h1, h2⟩ := h
  exact ⟨es, cl, hb.trans h1, h2⟩
theorem ClkAt.upd {S : Nat → Prop} {w w' : World} {p b n : Nat} {t : Int} {L : List Alm} (h : ClkAt w p b n t L) (hu : Upd S w w') (hp : ¬ S p) (hb : ¬ S b) : ClkAt w' p b n t L := by
  obtain ⟨h1, h2, ⟨D, h3, h4⟩, h5⟩ := h
  exact ⟨(hu.block p (blk_lt h1) hp).trans h1, h2, ⟨D, owns_upd h3 (hu.block b h3.lt hb), h4⟩, h5⟩
theorem ClkAt.mono {w : World} {p b n m : Nat} {t : Int} {L : List Alm} (h : ClkAt w p b n t L) (hn : n ≤ m) : ClkAt w p b m t L := by
  obtain ⟨h1, h2, ⟨D, h3, h4⟩, h5⟩ := h
  exact ⟨h1, h2, ⟨D, h3.mono hn, h4⟩, h5⟩
theorem mapTurned_upd {w w' : World} {b : Nat} (h : w.mapTurned w' b) : Upd (fun k => k = b) w w' :=
  have g := h.grown
  ⟨g.os, g.tape, g.output, g.size, fun q hq hb => g.block q hq fun e => hb (by simpa using e)⟩
theorem key3 : Maps.Keyed Try.prog 3 := Maps.int_keyed Try.underlying3
theorem key3_of {x : Int} (h : IB x) : keyOf Try.prog 3 (.int .i64 x) = some (.int .i64 x) := Maps.keyOf_int_mk Try.underlying3 (WalkArith.wf_i64 h)
theorem size_of {w : World} {b n : Nat} {D : DataW Unit} {L : List Alm} (h : w.ownsMap Try.prog 3 (plainElem Try.prog 3) b n D) (hL : MapL D L) : (idsA L).Perm (intKeys D) ∧ Maps.size D = L.length := by
  have hc : CollectedI D (fun _ => false) (idsA L) := ⟨hL.1, fun x => by rw [← hL.2.1 x]; simp⟩
  have hp := hc.perm h key3 Try.underlying3 fun _ => rfl
  refine ⟨hp, ?_⟩
  have := hp.length_eq
  obtain ⟨es, rfl⟩ := h.isMap
  simp only [intKeys, List.length_map, idsA] at this
  rw [Maps.size_eq, this]
end Go.Proofs.Ytgjikmpeeipboaa
