/-
  Maps of bools that the call itself makes: which keys bear true. Plain theorems over any program.
-/
import Derived.Test.YtnaldifgnpnbhaaBase
import Derived.Maps.OwnOps
import Derived.Maps.OwnSet
namespace Go.Proofs.Ytnaldifgnpnbhaa
open Go.RowKit Go.Maps

/-- how keys of one type are told: enc, their values; kf, as which datum they read; ok: which are well formed -/
structure KeyK (P : Program) (k : TypeId) {α : Type} (enc : α → Value) (kf : α → Lit) (ok : α → Prop) : Prop where
  K : Keyed P k
  of : ∀ a, ok a → keyOf P k (enc a) = some (kf a)
  inj : ∀ a b, ok a → ok b → enc a = enc b → a = b
/-- Block b is a map in which just the keys of S bear true; it has c entries. -/
def MapS (P : Program) (k e : TypeId) {α : Type} (kf : α → Lit) (ok : α → Prop) (w : World) (b n c : Nat) (S : α → Prop) : Prop :=
  ∃ D : DataW Unit, w.ownsMap P k (plainElem P e) b n D ∧ Maps.size D = c ∧
    ∀ a, ok a → (S a → D.atKey (kf a) (.lit (.bool false)) = .lit (.bool true) ∧ Maps.has D (kf a) = true) ∧ (¬ S a → D.atKey (kf a) (.lit (.bool false)) = .lit (.bool false) ∧ Maps.has D (kf a) = false)

section
variable {P : Program} {k e t : TypeId} {α : Type} {enc : α → Value} {kf : α → Lit} {ok : α → Prop} {w w' : World} {b n c : Nat} {S : α → Prop}
theorem MapS.made (P : Program) (k e : TypeId) (kf : α → Lit) (ok : α → Prop) (w : World) : MapS P k e kf ok (w.alloc (.map #[] 0)) w.heap.size 0 0 (fun _ => False) :=
  ⟨.map [], World.ownsMap_made w P k _, rfl, fun _ _ => ⟨fun h => h.elim, fun _ => ⟨rfl, rfl⟩⟩⟩
theorem MapS.keep (h : MapS P k e kf ok w b n c S) (hb : w'.heap[b]? = w.heap[b]?) : MapS P k e kf ok w' b n c S := by
  obtain ⟨D, ⟨es, cl, h1, h2⟩, h3⟩ := h
  exact ⟨D, ⟨es, cl, hb.trans h1, h2⟩, h3⟩
theorem MapS.lt (h : MapS P k e kf ok w b n c S) : b < w.heap.size := by
  obtain ⟨D, h, _⟩ := h
  exact h.lt
theorem MapS.upd {T : Nat → Prop} (h : MapS P k e kf ok w b n c S) (hu : Upd T w w') (hb : ¬ T b) : MapS P k e kf ok w' b n c S := h.keep (hu.block b h.lt hb)
theorem MapS.mono (h : MapS P k e kf ok w b n c S) {n' : Nat} (hn : n ≤ n') : MapS P k e kf ok w b n' c S := by
  obtain ⟨D, h1, h2⟩ := h
  exact ⟨D, h1.mono hn, h2⟩
theorem MapS.iff (h : MapS P k e kf ok w b n c S) {S' : α → Prop} (hs : ∀ a, ok a → (S a ↔ S' a)) : MapS P k e kf ok w b n c S' := by
  obtain ⟨D, h1, h2, h3⟩ := h
  exact ⟨D, h1, h2, fun a ha => ⟨fun h => (h3 a ha).1 ((hs a ha).2 h), fun h => (h3 a ha).2 fun h' => h ((hs a ha).1 h')⟩⟩
theorem plainElem_bool_inv (he : P.underlying e = some .bool) {v : Value} {z : DataW Unit × List MemPlace} (h : plainElem P e v = some z) : ∃ x, v = .bool x ∧ z = (.lit (.bool x), []) := by
  unfold plainElem at h
  rw [he] at h
  cases v <;> simp at h
  exact ⟨_, rfl, h.symm⟩
/-- m[k] -/
theorem MapS.lookup (h : MapS P k e kf ok w b n c S) (K : KeyK P k enc kf ok) (ht : P.underlying t = some (.map k e)) (he : P.underlying e = some .bool) (hz : ∀ w, (zeroValue e).run P w = .ok (.bool false) w) (a : α) (ha : ok a) :
    (S a → (Instr.lookup t (.map (some b)) (enc a) false).run P w = .ok (.bool true) w) ∧ (¬ S a → (Instr.lookup t (.map (some b)) (enc a) false).run P w = .ok (.bool false) w) := by
  obtain ⟨D, h1, h2, h3⟩ := h
  obtain ⟨v, ps, hrun, hv⟩ := h1.lookup K.K ht (hz w) (plainElem_bool he false) (K.of a ha)
  obtain ⟨x, rfl, hx⟩ := plainElem_bool_inv he hv
  simp only [Prod.mk.injEq] at hx
  refine ⟨fun hs => ?_, fun hs => ?_⟩
  · rw [hrun]
    have := ((h3 a ha).1 hs).1
    rw [this] at hx
    simp at hx
    rw [hx.1]
  · rw [hrun]
    have := ((h3 a ha).2 hs).1
    rw [this] at hx
    simp at hx
    rw [hx.1]
/-- m[k] = true -/
theorem MapS.store (h : MapS P k e kf ok w b n c S) (K : KeyK P k enc kf ok) (ht : P.underlying t = some (.map k e)) (he : P.underlying e = some .bool) (hn : n < maxLen) (x : α) (hx : ok x) :
    ∃ w', (Instr.mapUpdate t (.map (some b)) (enc x) (.bool true)).run P w = .ok () w' ∧ Upd (fun q => q = b) w w' ∧
      (S x → MapS P k e kf ok w' b (n + 1) c (fun a => a = x ∨ S a)) ∧ (¬ S x → MapS P k e kf ok w' b (n + 1) (c + 1) (fun a => a = x ∨ S a)) := by
  obtain ⟨D, h1, h2, h3⟩ := h
  obtain ⟨w', hrun, h1', hg⟩ := h1.update K.K ht hn (K.of x hx) (plainElem_bool he true)
  have hu : Upd (fun q => q = b) w w' := ⟨hg.os, hg.tape, hg.output, hg.size, fun q hq hb => hg.block q hq fun e => hb (by simpa using e)⟩
  have hD := h1.isMap
  have hk := K.K.key (K.of x hx)
  have hsz := size_put (k := kf x) (h1.tidy K.K) (.lit (.bool true))
  have hall : ∀ a, ok a → ((a = x ∨ S a) → (D.put (kf x) (.lit (.bool true))).atKey (kf a) (.lit (.bool false)) = .lit (.bool true) ∧ Maps.has (D.put (kf x) (.lit (.bool true))) (kf a) = true) ∧
      (¬ (a = x ∨ S a) → (D.put (kf x) (.lit (.bool true))).atKey (kf a) (.lit (.bool false)) = .lit (.bool false) ∧ Maps.has (D.put (kf x) (.lit (.bool true))) (kf a) = false) := fun a ha => by
    by_cases hax : a = x
    · subst hax
      exact ⟨fun _ => ⟨atKey_put_same hD hk _ _, has_put_same hD hk _⟩, fun h => absurd (.inl rfl) h⟩
    · have hne : kf a ≠ kf x := fun e => hax (K.inj a x ha hx (K.K.inj (K.of a ha) (by rw [e]; exact K.of x hx)))
      rw [atKey_put_other hne, has_put_other hne]
      exact ⟨fun h => (h3 a ha).1 (h.resolve_left hax), fun h => (h3 a ha).2 fun h' => h (.inr h')⟩
  refine ⟨w', hrun, hu, fun hs => ⟨_, h1', ?_, hall⟩, fun hs => ⟨_, h1', ?_, hall⟩⟩
  · rw [hsz, ((h3 x hx).1 hs).2, if_pos rfl, h2]
  · rw [hsz, ((h3 x hx).2 hs).2, if_neg (by simp), h2]
/-- len(m) -/
theorem MapS.len (h : MapS P k e kf ok w b n c S) (ht : P.underlying t = some (.map k e)) (ty : TypeId) : (Builtin.len_ #[t] ty #[.map (some b)]).run P w = .ok (.int .i64 c) w := by
  obtain ⟨D, h1, h2, _⟩ := h
  rw [← h2]
  exact h1.len ht ty
theorem wpList_mapUpdate_run {ops : Array Oper} {rest : List Oper} {o : Oper} {a : Act} {Q : Exit → Act → World → Prop} (w : World) (hg : o.guard = none) (m x v : Operand) (t : TypeId) (hop : o.op = Op.mapUpdate t m x v)
    (vm vx vv : Value) (hm : a.eval m = vm) (hx : a.eval x = vx) (hv : a.eval v = vv) {w' : World} (hr : (Instr.mapUpdate t vm vx vv).run P w = .ok () w') (hK : wpList P ops Q rest (a.put o.dst undef) w') : wpList P ops Q (o :: rest) a w := by
  refine wpList_plain hg fun K' hK' => ?_
  unfold Oper.wp
  simp [execOp, hop, hm, hx, hv, hr, Result.andThen]
  exact hK' _ _ hK
end
/-- keys that are whole numbers -/
def encInt (x : Int) : Value := .int .i64 x
theorem key_int {P : Program} {k : TypeId} (hk : P.underlying k = some (.int .i64)) : KeyK P k encInt (fun x => .int .i64 x) (fun x => -9223372036854775808 ≤ x ∧ x ≤ 9223372036854775807) :=
  ⟨int_keyed hk, fun a ha => keyOf_int_mk hk (WalkArith.wf_i64 (by omega)), fun a b _ _ h => by simpa [encInt] using h⟩
end Go.Proofs.Ytnaldifgnpnbhaa
