/-
  More words: bytes as a string; comparing strings.
-/
import Derived.Test.YtnaldifgnpnbhaaBase
namespace Go.Proofs.Ytnaldifgnpnbhaa
open Go.RowKit

def str (d : List UInt8) : ByteArray := ⟨d.toArray⟩
theorem baToList_loop (b : ByteArray) : ∀ (n i : Nat) (r : List UInt8), b.size - i = n → ByteArray.toList.loop b i r = r.reverse ++ b.data.toList.drop i
  | 0, i, r, h => by
    unfold ByteArray.toList.loop
    have hs : b.data.toList.length = b.size := rfl
    rw [if_neg (by omega), List.drop_of_length_le (by omega), List.append_nil]
  | n + 1, i, r, h => by
    unfold ByteArray.toList.loop
    have hs : b.data.toList.length = b.size := rfl
    rw [if_pos (by omega), baToList_loop b n (i + 1) _ (by omega), List.drop_eq_getElem_cons (i := i) (by omega)]
    have hi : i < b.data.size := by show i < b.size; omega
    simp [ByteArray.get!, getElem!_pos b.data i hi]
theorem str_toList (d : List UInt8) : (str d).toList = d := by
  unfold ByteArray.toList
  rw [baToList_loop _ _ 0 [] rfl]
  simp [str]
theorem str_eq (a b : List UInt8) : ((str a).toList == (str b).toList) = (a == b) := by rw [str_toList, str_toList]

theorem conv_bytes {P : Program} {src e dst : TypeId} (hs : P.underlying src = some (.slice e)) (he : P.underlying e = some (.int .u8)) (hd : P.underlying dst = some .string)
    {w : World} {F : Nat → Prop} {v : Value} {d : List UInt8} (h : Rd byteE w F v d) : (convert src dst v).run P w = .ok (.string (str d)) w := by
  have hb : ∀ (d : List UInt8) cs, Rel byteE w F d cs → cs = d.map bv := by
    intro d
    induction d with
    | nil => intro cs h; exact h
    | cons x xs ih =>
      intro cs h
      obtain ⟨l, r, rfl, ho, hr⟩ := h
      have ho : l = [bv x] := ho
      rw [ho, ih r hr]
      rfl
  obtain ⟨A, c, cs, rfl, h1, h2, h3, h4⟩ := h
  obtain rfl := hb d cs h4
  rcases Nat.eq_zero_or_pos d.length with h0 | h0
  · obtain rfl := List.eq_nil_of_length_eq_zero h0
    rw [run_convert_bytes_string w src dst e _ _ _ hs he hd]
    rcases A with _ | a <;> simp [Conv.bytesToString, str] <;> rfl
  · obtain ⟨b, o, rfl, _, hc⟩ := h3 (by simpa using h0)
    have hx : strOfNums (d.map fun x => (x.toNat : Int)) = str d := by
      simp only [strOfNums, str, List.map_map]
      congr 2
      conv => rhs; rw [← List.map_id d]
      apply List.map_congr_left
      intro x _
      simp
    rw [← hx]
    refine run_convert_bytes_arg w src e hs he b o d.length c _ (by simp) (fun i hi => ?_) dst hd
    rw [hc i (by simpa using hi)]
    simp [bv, List.getD, hi]
/-! ### a slice whose array lies in X, and what its elements lead to in D -/
def OwnX {α : Type} (E : Elt α) (e : TypeId) (w : World) (X D : Nat → Prop) (v : Value) (xs : List α) : Prop :=
  ∃ A c cs, v = .slice A xs.length c ∧ xs.length ≤ c ∧ c ≤ maxLen ∧ At w X A cs ∧ Rel E w D xs cs ∧
    (xs.length < c → ∃ g cur, A = some ⟨g, 0, none⟩ ∧ X g ∧ w.heap[g]? = some (.cells cur e (0, 0)) ∧ c * E.sz ≤ cur.size)
section
variable {α : Type} {E : Elt α} {e : TypeId} {w w' : World} {X D X' D' S : Nat → Prop} {v : Value} {xs : List α}
theorem OwnX.keep (h : OwnX E e w X D v xs) (hx : ∀ k, X k → w'.heap[k]? = w.heap[k]?) (hd : ∀ k, D k → w'.heap[k]? = w.heap[k]?) : OwnX E e w' X D v xs := by
  obtain ⟨A, c, cs, hv, h1, h2, h3, h5, h6⟩ := h
  refine ⟨A, c, cs, hv, h1, h2, h3.keep hx, h5.keep hd, fun hl => ?_⟩
  obtain ⟨g, cur, hA, hF, hg, hs⟩ := h6 hl
  exact ⟨g, cur, hA, hF, (hx g hF).trans hg, hs⟩
theorem OwnX.mono (h : OwnX E e w X D v xs) (hx : ∀ k, X k → X' k) (hd : ∀ k, D k → D' k) : OwnX E e w X' D' v xs := by
  obtain ⟨A, c, cs, hv, h1, h2, h3, h5, h6⟩ := h
  refine ⟨A, c, cs, hv, h1, h2, h3.mono hx, h5.mono hd, fun hl => ?_⟩
  obtain ⟨g, cur, hA, hF, hg, hs⟩ := h6 hl
  exact ⟨g, cur, hA, hx g hF, hg, hs⟩
theorem OwnX.upd (h : OwnX E e w X D v xs) (hu : Upd S w w') (hx : Fr w S X) (hd : Fr w S D) : OwnX E e w' X D v xs :=
  h.keep (fun k hk => hu.block k (hx k hk).1 (hx k hk).2) (fun k hk => hu.block k (hd k hk).1 (hd k hk).2)
theorem OwnX.drew (h : OwnX E e w X D v xs) : OwnX E e w.drew X D v xs := h.keep (fun _ _ => rfl) fun _ _ => rfl
theorem OwnX.alloc (h : OwnX E e w X D v xs) (hx : Fin w X) (hd : Fin w D) (o : Obj) : OwnX E e (w.alloc o) X D v xs := h.keep (alloc_keep hx o) (alloc_keep hd o)
theorem OwnX.nil (E : Elt α) (e : TypeId) (w : World) (X D : Nat → Prop) (A : Option Addr) : OwnX E e w X D (.slice A 0 0) [] :=
  ⟨A, 0, [], rfl, by simp, by simp, At.nil _, rfl, fun h => absurd h (by simp)⟩
theorem OwnX.shape (h : OwnX E e w X D v xs) : ∃ A c, v = .slice A xs.length c ∧ xs.length ≤ c ∧ c ≤ maxLen := by
  obtain ⟨A, c, cs, hv, h1, h2, _⟩ := h
  exact ⟨A, c, hv, h1, h2⟩
theorem OwnX.own (h : OwnX E e w X D v xs) (hs : ∀ k, D k → ¬ X k) : Own E e w (fun k => X k ∨ D k) v xs := by
  obtain ⟨A, c, cs, hv, h1, h2, h3, h5, h6⟩ := h
  refine ⟨A, c, cs, D, hv, h1, h2, h3.mono fun _ h => .inl h, fun _ h => .inr h, h5, fun hl => ?_⟩
  obtain ⟨g, cur, hA, hF, hg, hs'⟩ := h6 hl
  exact ⟨g, cur, hA, .inl hF, fun hd => hs g hd hF, hg, hs'⟩
theorem OwnX.rd (h : OwnX E e w X D v xs) : Rd E w (fun k => X k ∨ D k) v xs := by
  obtain ⟨A, c, cs, hv, h1, h2, h3, h5, h6⟩ := h
  exact ⟨A, c, cs, hv, h1, h2, h3.mono fun _ h => .inl h, h5.mono fun _ h => .inr h⟩
end
section
variable {α : Type} {E : Elt α} {e : TypeId} {X D G S : Nat → Prop} {v : Value} {xs ys : List α} {P : Program}
/-- append onto a slice that is its own where it has room: what comes is there behind it. -/
theorem run_appendX (w : World) (t ty : TypeId) (z : Value) (bytes : Nat) (ht : P.underlying t = some (.slice e))
    (hinfo : (P.info? e).map (fun i => (i.zero, i.size, i.bytes)) = some (some z, E.sz, bytes)) (hz : z.cells.size = E.sz) (hs : 0 < E.sz)
    (own : OwnX E e w X D v xs) {A : Option Addr} {c : Nat} {ds : List Value} {D' : Nat → Prop} (src : At w G A ds) (rel : Rel E w D' ys ds) (hsep : ∀ k, D k ∨ D' k → k < w.heap.size ∧ ¬ X k) (_hX : Fin w X)
    (h63 : xs.length + ys.length ≤ maxLen) (h48 : (xs.length + ys.length) * bytes ≤ 140737488355328) :
    ∃ v' w', (Builtin.append_ #[t, t] ty #[v, .slice A ys.length c]).run P w = .ok v' w' ∧ Upd X w w' ∧
      OwnX E e w' (Ext X w w') (fun k => D k ∨ D' k) v' (xs ++ ys) := by
  obtain ⟨i, hi, hzz⟩ := Option.map_eq_some_iff.1 hinfo
  simp only [Prod.mk.injEq] at hzz
  obtain ⟨hz0, hz1, hz2⟩ := hzz
  obtain ⟨B, cap, cs, rfl, h1, h2, h3, h5, h6⟩ := own
  have hdl := rel.length
  have hcl := h5.length
  have hfs := fun w' (h : At w' G A ds) => run_first (P := P) (c := c) h hdl hs
  by_cases hroom : xs.length + ys.length ≤ cap
  · by_cases hm : ys = []
    · subst hm
      have hd : ds = [] := rel
      subst hd
      have hfs := hfs w src
      refine ⟨.slice B xs.length cap, w, ?_, Upd.refl _ _, B, cap, cs, by simp, by simpa using h1, h2, h3.mono fun k hk => .inl hk, by simpa using h5.mono fun k hk => .inl hk, fun hl => ?_⟩
      · simp only [List.length_nil] at hfs hroom ⊢
        rcases B with _ | b <;> simp [Builtin.append_, run_underlying ht, sizeOf, typeInfo, hi, Builtin.lenOf, hz1, hfs, h1, storeCells]
      · obtain ⟨g, cur, hA, hF', hg, hcs⟩ := h6 (by simpa using hl)
        exact ⟨g, cur, hA, .inl hF', hg, hcs⟩
    · have hy : 0 < ys.length := List.length_pos_iff.2 hm
      obtain ⟨g, cur, rfl, hFg, hg, hsz⟩ := h6 (by omega)
      have hle : (xs.length + ys.length) * E.sz ≤ cap * E.sz := Nat.mul_le_mul_right _ hroom
      rw [Nat.add_mul] at hle
      have hfit : xs.length * E.sz + ds.length ≤ cur.size := by omega
      have hst := run_storeCells_at P g (xs.length * E.sz) e ds 0 cur w hg (by simpa using hfit) rel.one
      have hadd : (⟨g, 0, none⟩ : Addr).add (xs.length * E.sz) = ⟨g, xs.length * E.sz, none⟩ := by unfold Addr.add; split <;> simp_all
      have hfs := hfs w src
      have hat : cur.toList.take (xs.length * E.sz) = cs := by
        apply List.ext_getElem?
        intro j
        rw [List.getElem?_take]
        split
        · rename_i hj
          obtain ⟨_, _, e1, _, e2⟩ := h3.get (j := j) (by omega)
          cases e1
          rw [Nat.zero_add, cell_of_row w g j cur e (0, 0) hg] at e2
          simpa using e2
        · rw [List.getElem?_eq_none (by omega)]
      let cur' : Array Value := (cur.toList.take (xs.length * E.sz) ++ ds ++ cur.toList.drop (xs.length * E.sz + ds.length)).toArray
      have hb : (w.setRow g cur').heap[g]? = some (.cells cur' e (0, 0)) := setRow_heap w g cur _ e _ hg
      have hu := upd_setRow w g cur'
      refine ⟨.slice (some ⟨g, 0, none⟩) (xs.length + ys.length) cap, w.setRow g cur', ?_, hu.mono (fun x _ hx => by rw [hx]; exact hFg), some ⟨g, 0, none⟩, cap, cs ++ ds, by simp, by simpa using hroom, h2, fun _ => ⟨_, _, rfl, .inl hFg, fun j hj => ?_⟩, ?_, fun _ => ⟨g, cur', rfl, .inl hFg, hb, ?_⟩⟩
      · simp only [Nat.add_zero] at hst
        simp [Builtin.append_, run_underlying ht, sizeOf, typeInfo, hi, Builtin.lenOf, hz1, hfs, hroom, hadd, hst, cur']
      · rw [Nat.zero_add, cell_of_row _ g j cur' e (0, 0) hb]
        show (cur.toList.take (xs.length * E.sz) ++ ds ++ cur.toList.drop (xs.length * E.sz + ds.length)).toArray[j]? = _
        rw [hat, List.getElem?_toArray, List.getElem?_append_left hj]
      · refine Rel.append ((h5.keep fun k hk => ?_).mono fun k hk => .inl hk) ((rel.keep fun k hk => ?_).mono fun k hk => .inr hk)
        · exact hu.block k (hsep k (.inl hk)).1 fun e => (hsep k (.inl hk)).2 (by have e : k = g := e; subst e; exact hFg)
        · exact hu.block k (hsep k (.inr hk)).1 fun e => (hsep k (.inr hk)).2 (by have e : k = g := e; subst e; exact hFg)
      · show cap * E.sz ≤ (cur.toList.take (xs.length * E.sz) ++ ds ++ cur.toList.drop (xs.length * E.sz + ds.length)).toArray.size
        simp only [List.size_toArray, List.length_append, List.length_take, List.length_drop, Array.length_toList]
        omega
  · have h63' : ¬ (9223372036854775807 < ((xs.length : Int) + (ys.length : Int))) := by rw [maxLen_eq] at h63; omega
    have h48' : ¬ (281474976710656 < Builtin.nextslicecap (xs.length + ys.length) cap * i.bytes) := by
      have := growslice_fits (need := xs.length + ys.length) (old := cap) (bytes := i.bytes) (by omega) (by rw [hz2]; exact h48)
      omega
    have hfs := hfs w.drew (src.keep fun _ _ => rfl)
    have hfo := run_first (P := P) (c := cap) (h3.keep (w' := w.drew) fun _ _ => rfl) hcl hs
    let new : Array Value := (cs.toArray ++ ds.toArray ++ Builtin.zeroCells z.cells (grownCap w (xs.length + ys.length) cap e - (xs.length + ys.length)))
    have hnew : (w.drew.alloc (.cells new e)).heap[w.heap.size]? = some (.cells new e (0, 0)) := heap_alloc_new w.drew _
    have hsize : (w.drew.alloc (.cells new e)).heap.size = w.heap.size + 1 := by simp
    have hcap := grownCap_ge w (xs.length + ys.length) cap e
    have hu : Upd Non w (w.drew.alloc (.cells new e)) := ((Upd.refl Non w).drew).alloc _
    have hno : ∀ k, ¬ Non k := fun _ h => h
    have hN : New w (w.drew.alloc (.cells new e)) w.heap.size := ⟨Nat.le_refl _, by rw [hsize]; omega⟩
    refine ⟨.slice (some ⟨w.heap.size, 0, none⟩) (xs.length + ys.length) (grownCap w (xs.length + ys.length) cap e), w.drew.alloc (.cells new e), ?_, hu.mono (fun _ _ h => h.elim), some ⟨w.heap.size, 0, none⟩, grownCap w (xs.length + ys.length) cap e, cs ++ ds, by simp, by simpa using hcap, grownCap_le_maxLen w _ _ _ h63, fun _ => ⟨_, _, rfl, .inr hN, fun j hj => ?_⟩, ?_, fun _ => ⟨w.heap.size, new, rfl, .inr hN, hnew, ?_⟩⟩
    · simp [Builtin.append_, run_underlying ht, sizeOf, typeInfo, zeroValue, hi, hz0, hz1, Builtin.lenOf, hroom, h63', h48', Question.forced, hfs, hfo, newRow, grownCap, new]
    · rw [Nat.zero_add, cell_of_row _ _ j new e (0, 0) hnew]
      show (cs.toArray ++ ds.toArray ++ _ : Array Value)[j]? = _
      rw [Array.getElem?_append_left (by simpa using hj)]
      simp
    · refine Rel.append ((h5.keep fun k hk => ?_).mono fun k hk => .inl hk) ((rel.keep fun k hk => ?_).mono fun k hk => .inr hk)
      · exact hu.block k (hsep k (.inl hk)).1 (hno k)
      · exact hu.block k (hsep k (.inr hk)).1 (hno k)
    · show _ ≤ (cs.toArray ++ ds.toArray ++ Builtin.zeroCells z.cells (grownCap w (xs.length + ys.length) cap e - (xs.length + ys.length))).size
      simp only [Array.size_append, List.size_toArray, hcl, hdl, Builtin.zeroCells, Array.size_map, Array.size_range, hz]
      rw [← Nat.add_mul, ← Nat.add_mul]
      exact Nat.mul_le_mul_right _ (by omega)

theorem wp_appendX {o : Oper} {a : Act} {K : Act → World → Prop} {Q : Exit → Act → World → Prop} (w : World) (s x : Operand) (t : TypeId)
    (ho : o.op = .call { callee := .builtin .append, args := #[s, x], argTypes := #[t, t] })
    (z : Value) (bytes : Nat) (ht : P.underlying t = some (.slice e))
    (hinfo : (P.info? e).map (fun i => (i.zero, i.size, i.bytes)) = some (some z, E.sz, bytes)) (hz : z.cells.size = E.sz) (hs : 0 < E.sz)
    (hev : a.eval s = v) (own : OwnX E e w X D v xs) (A : Option Addr) (c : Nat) (hex : a.eval x = .slice A ys.length c) (ds : List Value) (D' : Nat → Prop) (src : At w G A ds) (rel : Rel E w D' ys ds) (hsep : ∀ k, D k ∨ D' k → k < w.heap.size ∧ ¬ X k) (hX : Fin w X)
    (h63 : xs.length + ys.length ≤ maxLen) (h48 : (xs.length + ys.length) * bytes ≤ 140737488355328)
    (h : ∀ v' w', Upd X w w' → OwnX E e w' (Ext X w w') (fun k => D k ∨ D' k) v' (xs ++ ys) → K (a.put o.dst v') w') : o.wp P a w K Q := by
  obtain ⟨v', w', hrun, h2, h3⟩ := run_appendX (P := P) w t o.type z bytes ht hinfo hz hs own (c := c) src rel hsep hX h63 h48
  unfold Oper.wp execOp
  simp only [ho, resolve, invoke, builtin, Sem.run_bind, Sem.run_pure, Result.andThen_ok, List.map_toArray, List.map_cons, List.map_nil, hev, hex, hrun]
  exact h v' w' h2 h3

theorem wpList_appendX {ops : Array Oper} {rest : List Oper} {o : Oper} {a : Act} {Q : Exit → Act → World → Prop} (w : World) (hgd : o.guard = none) (s x : Operand) (t : TypeId)
    (ho : o.op = .call { callee := .builtin .append, args := #[s, x], argTypes := #[t, t] })
    (z : Value) (bytes : Nat) (ht : P.underlying t = some (.slice e))
    (hinfo : (P.info? e).map (fun i => (i.zero, i.size, i.bytes)) = some (some z, E.sz, bytes)) (hz : z.cells.size = E.sz) (hs : 0 < E.sz)
    (hev : a.eval s = v) (own : OwnX E e w X D v xs) (A : Option Addr) (c : Nat) (hex : a.eval x = .slice A ys.length c) (ds : List Value) (D' : Nat → Prop) (src : At w G A ds) (rel : Rel E w D' ys ds) (hsep : ∀ k, D k ∨ D' k → k < w.heap.size ∧ ¬ X k) (hX : Fin w X)
    (h63 : xs.length + ys.length ≤ maxLen) (h48 : (xs.length + ys.length) * bytes ≤ 140737488355328)
    (h : ∀ v' w', Upd X w w' → OwnX E e w' (Ext X w w') (fun k => D k ∨ D' k) v' (xs ++ ys) → wpList P ops Q rest (a.put o.dst v') w') : wpList P ops Q (o :: rest) a w :=
  wpList_plain hgd fun _ hK => wp_appendX w s x t ho z bytes ht hinfo hz hs hev own A c hex ds D' src rel hsep hX h63 h48 fun v' w' h2 h3 => hK _ _ (h v' w' h2 h3)

theorem step_appendX {ops : Array Oper} {o : Oper} {a : Act} {K : Act → World → Prop} {Q : Exit → Act → World → Prop} {E' : Prop} (w : World) (hgd : o.guard = none) (s x : Operand) (t : TypeId)
    (ho : o.op = .call { callee := .builtin .append, args := #[s, x], argTypes := #[t, t] })
    (z : Value) (bytes : Nat) (ht : P.underlying t = some (.slice e))
    (hinfo : (P.info? e).map (fun i => (i.zero, i.size, i.bytes)) = some (some z, E.sz, bytes)) (hz : z.cells.size = E.sz) (hs : 0 < E.sz)
    (hev : a.eval s = v) (own : OwnX E e w X D v xs) (A : Option Addr) (c : Nat) (hex : a.eval x = .slice A ys.length c) (ds : List Value) (D' : Nat → Prop) (src : At w G A ds) (rel : Rel E w D' ys ds) (hsep : ∀ k, D k ∨ D' k → k < w.heap.size ∧ ¬ X k) (hX : Fin w X)
    (h63 : xs.length + ys.length ≤ maxLen) (h48 : (xs.length + ys.length) * bytes ≤ 140737488355328)
    (h : ∀ v' w', Upd X w w' → OwnX E e w' (Ext X w w') (fun k => D k ∨ D' k) v' (xs ++ ys) → K (a.put o.dst v') w') :
    if Region.wanted o (yielded ops a.tmps) = true then Oper.wp P o a w K Q else E' := by
  have hw : Region.wanted o (yielded ops a.tmps) = true := by simp [Region.wanted, hgd]
  rw [if_pos hw]
  exact wp_appendX w s x t ho z bytes ht hinfo hz hs hev own A c hex ds D' src rel hsep hX h63 h48 h
end



theorem New.ext {w a b : World} (h : a.heap.size ≤ b.heap.size) {F : Nat → Prop} (hF : ∀ k, F k → New w a k) (hs : w.heap.size ≤ a.heap.size) : ∀ k, Ext F a b k → New w b k := by
  rintro k (hk | hk)
  · have h1 := (hF k hk).1
    have h2 := (hF k hk).2
    exact ⟨h1, by omega⟩
  · have h1 := hk.1
    have h2 := hk.2
    exact ⟨by omega, h2⟩

theorem Rd.int {w : World} {F : Nat → Prop} {v : Value} {xs : List Int} (h : Rd intE w F v xs) {k : Nat} (hk : k < xs.length) : ∃ b o c, v = .slice (some ⟨b, o, none⟩) xs.length c ∧ xs.length ≤ c ∧ F b ∧ w.cell? ⟨b, o + k, none⟩ = some (.int .i64 xs[k]) := by
  obtain ⟨b, o, c, l, hv, hc, hf, hl, hg⟩ := h.get hk (by decide)
  have hl : l = [.int .i64 xs[k]] := hl
  subst hl
  exact ⟨b, o, c, hv, hc, hf, by simpa [intE] using hg 0 (by decide)⟩
theorem Rd.bool {w : World} {F : Nat → Prop} {v : Value} {xs : List Bool} (h : Rd boolE w F v xs) {k : Nat} (hk : k < xs.length) : ∃ b o c, v = .slice (some ⟨b, o, none⟩) xs.length c ∧ xs.length ≤ c ∧ F b ∧ w.cell? ⟨b, o + k, none⟩ = some (.bool xs[k]) := by
  obtain ⟨b, o, c, l, hv, hc, hf, hl, hg⟩ := h.get hk (by decide)
  have hl : l = [.bool xs[k]] := hl
  subst hl
  exact ⟨b, o, c, hv, hc, hf, by simpa [boolE] using hg 0 (by decide)⟩

/-- s[lo:hi], the address not looked into -/
theorem slice_of {α : Type} {E : Elt α} {P : Program} {t e : TypeId} (ht : P.underlying t = some (.slice e)) (hinfo : (P.info? e).map (·.size) = some E.sz)
    {w : World} {F : Nat → Prop} {xs : List α} {A : Option Addr} {c : Nat} (h : Rd E w F (.slice A xs.length c) xs) (lo hi : Nat) (h1 : lo ≤ hi) (h2 : hi ≤ xs.length) :
    ∃ B c', (∀ w', (Instr.slice t (.slice A xs.length c) (some (.int .i64 lo)) (some (.int .i64 hi)) none).run P w' = .ok (.slice B (hi - lo) c') w') ∧ Rd E w F (.slice B (hi - lo) c') ((xs.take hi).drop lo) := by
  obtain ⟨A', c0, cs, hv, k1, k2, k3, k4⟩ := h
  cases hv
  obtain ⟨i, hi', hsz⟩ := Option.map_eq_some_iff.1 hinfo
  have hl : (xs.take hi).length = hi := by simp; omega
  refine ⟨if c = lo then A else A.map (·.add (lo * E.sz)), c - lo, fun w' => ?_, ?_⟩
  · have hq1 : (0 : Int) ≤ (lo : Int) ∧ (lo : Int) ≤ ((hi : Nat) : Int) := by omega
    have hq2 : (0 : Int) ≤ (hi : Int) ∧ (hi : Int) ≤ ((c : Nat) : Int) := by omega
    simp [Instr.slice, run_underlying ht, Instr.sliceBounds, Instr.sliceBound, sizeOf, typeInfo, hi', hsz, asIntOf, show hi ≤ c by omega, h1]
  · have hk := (k3.take (hi * E.sz))
    refine ⟨_, c - lo, (cs.take (hi * E.sz)).drop (lo * E.sz), by rw [List.length_drop, hl], by rw [List.length_drop, hl]; omega, by omega, ?_, ?_⟩
    · have hlen : (cs.take (hi * E.sz)).length = hi * E.sz := by rw [List.length_take, k4.length]; exact Nat.min_eq_left (Nat.mul_le_mul_right _ h2)
      rcases Nat.lt_or_ge lo hi with hlt | hge
      · have := hk.cut lo c E.sz hi hlen (by omega)
        exact this
      · have : (cs.take (hi * E.sz)).drop (lo * E.sz) = [] := List.drop_of_length_le (by rw [hlen]; exact Nat.mul_le_mul_right _ hge)
        rw [this]
        exact At.nil _
    · have := (k4.take hi).drop lo
      exact this
end Go.Proofs.Ytnaldifgnpnbhaa
