/-
  Slices of the call's own that begin at their block's head, as blocks of cells: append, append of made zeros, copy, clear. Plain theorems over any program.
-/
import Derived.Test.YtnaldifgnpnbhaaBase2
import Derived.Lib.AppendZeros
import Derived.Laws.CopyRow
namespace Go.Proofs.Ytnaldifgnpnbhaa
open Go.RowKit

/-- The slice value v reads as xs; it begins at the head of block g, which is known whole; what the elements lead to lies in D. -/
def Buf {α : Type} (E : Elt α) (e : TypeId) (w : World) (g : Nat) (D : Nat → Prop) (v : Value) (xs : List α) : Prop :=
  (v = .slice none 0 0 ∧ xs = []) ∨ ∃ c cs rest, v = .slice (some ⟨g, 0, none⟩) xs.length c ∧ w.heap[g]? = some (.cells (cs ++ rest).toArray e (0, 0)) ∧ Rel E w D xs cs ∧ (cs ++ rest).length = c * E.sz ∧ xs.length ≤ c ∧ c ≤ maxLen

section
variable {α : Type} {E : Elt α} {e : TypeId} {w w' : World} {g : Nat} {D D' S : Nat → Prop} {v : Value} {xs ys : List α} {P : Program}
theorem Buf.keep (h : Buf E e w g D v xs) (hg : w'.heap[g]? = w.heap[g]?) (hd : ∀ k, D k → w'.heap[k]? = w.heap[k]?) : Buf E e w' g D v xs := by
  rcases h with h | ⟨c, cs, rest, h1, h2, h3, h4⟩
  · exact .inl h
  · exact .inr ⟨c, cs, rest, h1, hg.trans h2, h3.keep hd, h4⟩
theorem Buf.mono (h : Buf E e w g D v xs) (hd : ∀ k, D k → D' k) : Buf E e w g D' v xs := by
  rcases h with h | ⟨c, cs, rest, h1, h2, h3, h4⟩
  · exact .inl h
  · exact .inr ⟨c, cs, rest, h1, h2, h3.mono hd, h4⟩
theorem Buf.nil (E : Elt α) (e : TypeId) (w : World) (g : Nat) (D : Nat → Prop) : Buf E e w g D (.slice none 0 0) [] := .inl ⟨rfl, rfl⟩
theorem Buf.shape (h : Buf E e w g D v xs) : ∃ A c, v = .slice A xs.length c ∧ xs.length ≤ c ∧ c ≤ maxLen ∧ (A = none ∧ c = 0 ∧ xs = [] ∨ A = some ⟨g, 0, none⟩) := by
  rcases h with ⟨rfl, rfl⟩ | ⟨c, cs, rest, h1, h2, h3, h4, h5, h6⟩
  · exact ⟨none, 0, rfl, by simp, by simp, .inl ⟨rfl, rfl, rfl⟩⟩
  · exact ⟨_, c, h1, h5, h6, .inr rfl⟩
theorem Buf.upd (h : Buf E e w g D v xs) (hu : Upd S w w') (hg : g < w.heap.size ∧ ¬ S g) (hd : Fr w S D) : Buf E e w' g D v xs :=
  h.keep (hu.block g hg.1 hg.2) fun k hk => hu.block k (hd k hk).1 (hd k hk).2
/-- where it lies -/
theorem Buf.lt (h : Buf E e w g D v xs) (hx : xs ≠ []) : g < w.heap.size := by
  rcases h with ⟨_, h⟩ | ⟨c, cs, rest, h1, h2, _⟩
  · exact absurd h hx
  · exact blk_lt h2
theorem Buf.upd' (h : Buf E e w g D v xs) (hu : Upd S w w') (hg : ¬ S g) (hd : Fr w S D) : Buf E e w' g D v xs := by
  rcases h with h | ⟨c, cs, rest, h1, h2, h3, h4⟩
  · exact .inl h
  · exact .inr ⟨c, cs, rest, h1, (hu.block g (blk_lt h2) hg).trans h2, h3.keep (fun k hk => hu.block k (hd k hk).1 (hd k hk).2), h4⟩
theorem Buf.rd (h : Buf E e w g D v xs) : Rd E w (fun q => q = g ∨ D q) v xs := by
  rcases h with ⟨rfl, rfl⟩ | ⟨c, cs, rest, h1, h2, h3, h4, h5, h6⟩
  · exact Rd.nil _ _ _
  · refine ⟨_, c, cs, h1, h5, h6, fun _ => ⟨g, 0, rfl, .inl rfl, fun j hj => ?_⟩, h3.mono fun _ h => .inr h⟩
    rw [Nat.zero_add, blk_at h2]
    simp [List.getElem?_append_left hj]

theorem run_copyB (w : World) (dT sT ty elem : TypeId) (k g o dLen dCap : Nat) (a : Addr) (sLen sCap : Nat) (cur : List Value) (t : TypeId) (cs : List Value)
    (hu : P.underlying dT = some (.slice elem)) (hs : (P.info? elem).map (·.size) = some k)
    (hg : w.heap[g]? = some (.cells cur.toArray t (0, 0))) (hn : cs.length = Nat.min sLen dLen * k)
    (hsrc : ∀ j v, cs[j]? = some v → w.cell? (a.add j) = some v) (hfit : o + cs.length ≤ cur.length) (h1 : ∀ v ∈ cs, v.oneCell' = true) :
    (Builtin.copy_ #[dT, sT] ty #[.slice (some ⟨g, o, none⟩) dLen dCap, .slice (some a) sLen sCap]).run P w =
      .ok (goInt (Nat.min sLen dLen)) (w.setRow g (cur.take o ++ cs ++ cur.drop (o + cs.length)).toArray) := by
  have hl := run_loadCells_list (P := P) w a cs hsrc
  have hst := run_storeCells_at P g o t cs 0 cur.toArray w hg (by simpa using hfit) h1
  obtain ⟨i, hi, hz⟩ := Option.map_eq_some_iff.1 hs
  simp only [Nat.add_zero] at hst
  simp [Builtin.copy_, run_underlying hu, Builtin.lenOf, Builtin.firstCells, sizeOf, typeInfo, hi, hz, ← hn, hl, hst]

theorem run_clearB (w : World) (dT ty elem : TypeId) (z : Value) (g o n c : Nat) (cur : List Value) (t : TypeId)
    (hu : P.underlying dT = some (.slice elem)) (hs : (P.info? elem).bind (·.zero) = some z) (hg : w.heap[g]? = some (.cells cur.toArray t (0, 0))) (hn : 0 < n)
    (hfit : o + (Builtin.zeroCells z.cells n).size ≤ cur.length) (h1 : ∀ v ∈ (Builtin.zeroCells z.cells n).toList, v.oneCell' = true) :
    (Builtin.clear_ #[dT] ty #[.slice (some ⟨g, o, none⟩) n c]).run P w = .ok (.tuple #[]) (w.setRow g (cur.take o ++ (Builtin.zeroCells z.cells n).toList ++ cur.drop (o + (Builtin.zeroCells z.cells n).size)).toArray) := by
  have hst := run_storeCells_at P g o t (Builtin.zeroCells z.cells n).toList 0 cur.toArray w hg (by simpa using hfit) h1
  obtain ⟨i, hi, hz⟩ := Option.bind_eq_some_iff.1 hs
  obtain ⟨m, rfl⟩ : ∃ m, n = m + 1 := ⟨n - 1, by omega⟩
  simp only [Nat.add_zero] at hst
  simp [Builtin.clear_, run_underlying hu, zeroValue, typeInfo, hi, hz, hst]
end

section
variable {α : Type} {E : Elt α} {e : TypeId} {g : Nat} {D G : Nat → Prop} {v : Value} {xs ys : List α} {P : Program}
/-- where a slice of the call's own lies behind an append -/
def At2 (g g' : Nat) (w w' : World) : Prop := g' = g ∨ (g' = w.heap.size ∧ w'.heap.size = w.heap.size + 1)

theorem run_appendB (w : World) (t ty : TypeId) (z : Value) (bytes : Nat) (ht : P.underlying t = some (.slice e))
    (hinfo : (P.info? e).map (fun i => (i.zero, i.size, i.bytes)) = some (some z, E.sz, bytes)) (hz : z.cells.size = E.sz) (hs : 0 < E.sz)
    (own : Buf E e w g D v xs) {A : Option Addr} {c : Nat} {ds : List Value} (src : At w G A ds) (rel : Rel E w D ys ds) (hD : ∀ k, D k → k < w.heap.size ∧ k ≠ g)
    (h63 : xs.length + ys.length ≤ maxLen) (h48 : (xs.length + ys.length) * bytes ≤ 140737488355328) :
    ∃ v' w' g', (Builtin.append_ #[t, t] ty #[v, .slice A ys.length c]).run P w = .ok v' w' ∧ Upd (fun q => q = g) w w' ∧ Buf E e w' g' D v' (xs ++ ys) ∧ At2 g g' w w' := by
  obtain ⟨i, hi, hzz⟩ := Option.map_eq_some_iff.1 hinfo
  simp only [Prod.mk.injEq] at hzz
  obtain ⟨hz0, hz1, hz2⟩ := hzz
  have hdl := rel.length
  have hfs := fun w' (h : At w' G A ds) => run_first (P := P) (c := c) h hdl hs
  -- the parts of what is there
  have hparts : ∃ B cap cs rest, v = .slice B xs.length cap ∧ xs.length ≤ cap ∧ cap ≤ maxLen ∧ Rel E w D xs cs ∧ At w (fun q => q = g) B cs ∧
      (0 < cap → B = some ⟨g, 0, none⟩ ∧ w.heap[g]? = some (.cells (cs ++ rest).toArray e (0, 0)) ∧ (cs ++ rest).length = cap * E.sz) ∧ (cap = 0 → v = .slice none 0 0 ∧ xs = [] ∨ B = some ⟨g, 0, none⟩) ∧ (B = some ⟨g, 0, none⟩ → w.heap[g]? = some (.cells (cs ++ rest).toArray e (0, 0)) ∧ (cs ++ rest).length = cap * E.sz) := by
    rcases own with ⟨rfl, rfl⟩ | ⟨cap, cs, rest, h1, h2, h3, h4, h5, h6⟩
    · exact ⟨none, 0, [], [], rfl, by simp, by simp, rfl, At.nil _, fun h => absurd h (by simp), fun _ => .inl ⟨rfl, rfl⟩, fun h => by cases h⟩
    · refine ⟨_, cap, cs, rest, h1, h5, h6, h3, fun _ => ⟨g, 0, rfl, rfl, fun j hj => ?_⟩, fun _ => ⟨rfl, h2, h4⟩, fun _ => .inr rfl, fun _ => ⟨h2, h4⟩⟩
      rw [Nat.zero_add, blk_at h2]
      simp [List.getElem?_append_left hj]
  obtain ⟨B, cap, cs, rest, rfl, h1, h2, h5, h3, hblk, hnil, hbl⟩ := hparts
  have hcl := h5.length
  by_cases hroom : xs.length + ys.length ≤ cap
  · by_cases hm : ys = []
    · subst hm
      have hd : ds = [] := rel
      subst hd
      have hfs := hfs w src
      refine ⟨.slice B xs.length cap, w, g, ?_, Upd.refl _ _, ?_, .inl rfl⟩
      · simp only [List.length_nil] at hfs hroom ⊢
        rcases B with _ | b <;> simp [Builtin.append_, run_underlying ht, sizeOf, typeInfo, hi, Builtin.lenOf, hz1, hfs, h1, storeCells]
      · rw [List.append_nil]; exact own
    · have hy : 0 < ys.length := List.length_pos_iff.2 hm
      obtain ⟨rfl, hg, hsz⟩ := hblk (by omega)
      have hle : (xs.length + ys.length) * E.sz ≤ cap * E.sz := Nat.mul_le_mul_right _ hroom
      rw [Nat.add_mul] at hle
      have hrl : rest.length = cap * E.sz - cs.length := by simp at hsz; omega
      have hst := run_storeCells_at P g (xs.length * E.sz) e ds 0 (cs ++ rest).toArray w hg (by simp; omega) rel.one
      have hadd : (⟨g, 0, none⟩ : Addr).add (xs.length * E.sz) = ⟨g, xs.length * E.sz, none⟩ := by unfold Addr.add; split <;> simp_all
      have hfs := hfs w src
      have hcur : ((cs ++ rest).toArray.toList.take (xs.length * E.sz) ++ ds ++ (cs ++ rest).toArray.toList.drop (xs.length * E.sz + ds.length)) = (cs ++ ds) ++ rest.drop ds.length := by
        simp only [← hcl]
        rw [show cs.length + ds.length = cs.length + ds.length from rfl, ← List.drop_drop]
        simp
      have hb := setRow_heap w g (cs ++ rest).toArray ((cs ++ ds) ++ rest.drop ds.length).toArray e (0, 0) hg
      have hu := upd_setRow w g ((cs ++ ds) ++ rest.drop ds.length).toArray
      refine ⟨.slice (some ⟨g, 0, none⟩) (xs.length + ys.length) cap, w.setRow g ((cs ++ ds) ++ rest.drop ds.length).toArray, g, ?_, hu, .inr ⟨cap, cs ++ ds, rest.drop ds.length, by simp, hb, ?_, ?_, by simpa using hroom, h2⟩, .inl rfl⟩
      · simp only [Nat.add_zero] at hst
        rw [hcur] at hst
        simp only [Builtin.append_]
        simp [run_underlying ht, sizeOf, typeInfo, hi, Builtin.lenOf, hz1, hfs, hroom, hadd, hst]
      · refine Rel.append (h5.keep fun k hk => ?_) (rel.keep fun k hk => ?_)
        · exact hu.block k (hD k hk).1 (hD k hk).2
        · exact hu.block k (hD k hk).1 (hD k hk).2
      · simp only [List.length_append, List.length_drop, hrl]; omega
  · have h63' : ¬ (9223372036854775807 < ((xs.length : Int) + (ys.length : Int))) := by rw [maxLen_eq] at h63; omega
    have h48' : ¬ (281474976710656 < Builtin.nextslicecap (xs.length + ys.length) cap * i.bytes) := by
      have := growslice_fits (need := xs.length + ys.length) (old := cap) (bytes := i.bytes) (by omega) (by rw [hz2]; exact h48)
      omega
    have hfs := hfs w.drew (src.keep fun _ _ => rfl)
    have hfo := run_first (P := P) (c := cap) (h3.keep (w' := w.drew) fun _ _ => rfl) hcl hs
    let new : Array Value := (cs.toArray ++ ds.toArray ++ Builtin.zeroCells z.cells (grownCap w (xs.length + ys.length) cap e - (xs.length + ys.length)))
    have hnew : (w.drew.alloc (.cells new e)).heap[w.heap.size]? = some (.cells new e (0, 0)) := heap_alloc_new w.drew _
    have hsize : (w.drew.alloc (.cells new e)).heap.size = w.heap.size + 1 := by simp
    have hcap := grownCap_ge w (xs.length + ys.length) cap e
    have hu : Upd Non w (w.drew.alloc (.cells new e)) := ((Upd.refl Non w).drew).alloc _
    have hnl : new = ((cs ++ ds) ++ (Builtin.zeroCells z.cells (grownCap w (xs.length + ys.length) cap e - (xs.length + ys.length))).toList).toArray := by simp [new]
    refine ⟨.slice (some ⟨w.heap.size, 0, none⟩) (xs.length + ys.length) (grownCap w (xs.length + ys.length) cap e), w.drew.alloc (.cells new e), w.heap.size, ?_, hu.mono (fun _ _ h => h.elim), .inr ⟨grownCap w (xs.length + ys.length) cap e, cs ++ ds, (Builtin.zeroCells z.cells (grownCap w (xs.length + ys.length) cap e - (xs.length + ys.length))).toList, by simp, by rw [← hnl]; exact hnew, ?_, ?_, by simpa using hcap, grownCap_le_maxLen w _ _ _ h63⟩, .inr ⟨rfl, hsize⟩⟩
    · simp [Builtin.append_, run_underlying ht, sizeOf, typeInfo, zeroValue, hi, hz0, hz1, Builtin.lenOf, hroom, h63', h48', Question.forced, hfs, hfo, newRow, grownCap, new]
    · refine Rel.append (h5.keep fun k hk => ?_) (rel.keep fun k hk => ?_)
      · exact hu.block k (hD k hk).1 fun h => h
      · exact hu.block k (hD k hk).1 fun h => h
    · simp only [List.length_append, hcl, hdl, Array.length_toList, Builtin.zeroCells, Array.size_map, Array.size_range, hz]
      rw [← Nat.add_mul, ← Nat.add_mul]
      congr 1
      omega
end

section
variable {α : Type} {E : Elt α} {e : TypeId} {D G F : Nat → Prop} {P : Program}
theorem run_append_zerosB (w : World) (t tn ty : TypeId) (z : Value) (sz bytes : Nat) (ht : P.underlying t = some (.slice e)) (htn : P.underlying tn = some (.int .i64))
    (hinfo : (P.info? e).map (fun i => (i.zero, i.size, i.bytes)) = some (some z, sz, bytes)) (hs : 0 < sz)
    {A : Option Addr} (n m cap : Nat) {cs : List Value} (hcl : cs.length = n * sz) (hat : At w F A cs) (hm : 0 < m) (hroom : cap < n + m)
    (h63 : n + m ≤ maxLen) (h48 : (n + m) * bytes ≤ 140737488355328) :
    (Builtin.append_ #[t, tn] ty #[.slice A n cap, .int .i64 m]).run P w =
      .ok (.slice (some ⟨w.heap.size, 0, none⟩) (n + m) (grownCap w (n + m) cap e)) (w.drew.alloc (.cells (cs ++ ((Builtin.zeroCells z.cells m).toList ++ (Builtin.zeroCells z.cells (grownCap w (n + m) cap e - (n + m))).toList)).toArray e)) := by
  obtain ⟨i, hi, hzz⟩ := Option.map_eq_some_iff.1 hinfo
  simp only [Prod.mk.injEq] at hzz
  obtain ⟨hz0, hz1, hz2⟩ := hzz
  have hb : m * bytes ≤ (n + m) * bytes := Nat.mul_le_mul_right _ (by omega)
  have hw : IntKind.i64.wrap (m : Int) = m := by rw [IntKind.wrap_i64]; rw [maxLen_eq] at h63; omega
  have hneg : ¬ ((m : Int) < 0) := by omega
  have hns : ¬ (m * sz = 0) := Nat.mul_ne_zero (by omega) (by omega)
  have harr : ∀ a b : Array Value, (cs ++ (a.toList ++ b.toList)).toArray = cs.toArray ++ (a ++ b) := fun a b => by rw [← Array.toList_inj]; simp
  rw [harr]
  have h48i : ¬ (281474976710656 < (m : Int) * (i.bytes : Int)) := by
    rw [← Int.natCast_mul, hz2]
    omega
  have h63' : ¬ (9223372036854775807 < ((n : Int) + (m : Int))) := by rw [maxLen_eq] at h63; omega
  have h48' : ¬ (281474976710656 < Builtin.nextslicecap (n + m) cap * i.bytes) := by
    have := growslice_fits (need := n + m) (old := cap) (bytes := i.bytes) (by omega) (by rw [hz2]; exact h48)
    omega
  have hfo := run_first (P := P) (c := cap) (hat.keep (w' := w.drew) fun _ _ => rfl) hcl hs
  have hro : ¬ (n + m ≤ cap) := by omega
  simp [Builtin.append_, run_underlying ht, run_underlying htn, sizeOf, typeInfo, zeroValue, hi, hz0, hz1, asInt, asIntOf, hw, hneg, hns, hro, h63', h48', h48i, Question.forced, hfo, newRow, grownCap]
theorem zeroCells_len (z : Value) (sz n : Nat) (hz : z.cells.size = sz) : (Builtin.zeroCells z.cells n).toList.length = n * sz := by simp [Builtin.zeroCells, hz]
theorem wp_copy_run (w : World) {o : Oper} {a : Act} {K : Act → World → Prop} {Q : Exit → Act → World → Prop} (d s : Operand) (t t' : TypeId)
    (ho : o.op = .call { callee := .builtin .copy, args := #[d, s], argTypes := #[t, t'] }) (v u : Value) (hd : a.eval d = v) (hs : a.eval s = u) {v' : Value} {w' : World}
    (hr : (Builtin.copy_ #[t, t'] o.type #[v, u]).run P w = .ok v' w') (h : K (a.put o.dst v') w') : o.wp P a w K Q := by
  unfold Oper.wp execOp
  simp only [ho, resolve, invoke, builtin, Sem.run_bind, Sem.run_pure, Result.andThen_ok, List.map_toArray, List.map_cons, List.map_nil, hd, hs, hr]
  exact h
theorem wpList_copy_run (w : World) {ops : Array Oper} {rest : List Oper} {o : Oper} {a : Act} {Q : Exit → Act → World → Prop} (hgd : o.guard = none) (d s : Operand) (t t' : TypeId)
    (ho : o.op = .call { callee := .builtin .copy, args := #[d, s], argTypes := #[t, t'] }) (v u : Value) (hd : a.eval d = v) (hs : a.eval s = u) {v' : Value} {w' : World}
    (hr : (Builtin.copy_ #[t, t'] o.type #[v, u]).run P w = .ok v' w') (h : wpList P ops Q rest (a.put o.dst v') w') : wpList P ops Q (o :: rest) a w :=
  wpList_plain hgd fun _ hK => wp_copy_run w d s t t' ho v u hd hs hr (hK _ _ h)
theorem step_copy_run {ops : Array Oper} {o : Oper} {a : Act} {w : World} {K : Act → World → Prop} {Q : Exit → Act → World → Prop} {E' : Prop}
    (hg : o.guard = none) (d x : Operand) (dT sT : TypeId) (hop : o.op = Op.call { callee := Callee.builtin Builtin.copy, args := #[d, x], argTypes := #[dT, sT] })
    (v u : Value) (hd : a.eval d = v) (hx : a.eval x = u) {v' : Value} {w' : World} (hr : (Builtin.copy_ #[dT, sT] o.type #[v, u]).run P w = .ok v' w') (hK : K (a.put o.dst v') w') :
    if Region.wanted o (yielded ops a.tmps) = true then Oper.wp P o a w K Q else E' := by
  have hw : Region.wanted o (yielded ops a.tmps) = true := by simp [Region.wanted, hg]
  rw [if_pos hw]
  exact wp_copy_run w d x dT sT hop v u hd hx hr hK
theorem step_append_run {ops : Array Oper} {o : Oper} {a : Act} {w : World} {K : Act → World → Prop} {Q : Exit → Act → World → Prop} {E' : Prop}
    (hg : o.guard = none) (d x : Operand) (dT sT : TypeId) (hop : o.op = Op.call { callee := Callee.builtin Builtin.append, args := #[d, x], argTypes := #[dT, sT] })
    (v u : Value) (hd : a.eval d = v) (hx : a.eval x = u) {v' : Value} {w' : World} (hr : (Builtin.append_ #[dT, sT] o.type #[v, u]).run P w = .ok v' w') (hK : K (a.put o.dst v') w') :
    if Region.wanted o (yielded ops a.tmps) = true then Oper.wp P o a w K Q else E' := by
  have hw : Region.wanted o (yielded ops a.tmps) = true := by simp [Region.wanted, hg]
  rw [if_pos hw]
  exact Lib.wp_append_run w d x dT sT hop v u hd hx v' w' hr hK
theorem wp_clear_run (w : World) {o : Oper} {a : Act} {K : Act → World → Prop} {Q : Exit → Act → World → Prop} (d : Operand) (t : TypeId)
    (ho : o.op = .call { callee := .builtin .clear, args := #[d], argTypes := #[t] }) (v : Value) (hd : a.eval d = v) {v' : Value} {w' : World}
    (hr : (Builtin.clear_ #[t] o.type #[v]).run P w = .ok v' w') (h : K (a.put o.dst v') w') : o.wp P a w K Q := by
  unfold Oper.wp execOp
  simp only [ho, resolve, invoke, builtin, Sem.run_bind, Sem.run_pure, Result.andThen_ok, List.map_toArray, List.map_cons, List.map_nil, hd, hr]
  exact h
theorem wpList_clear_run (w : World) {ops : Array Oper} {rest : List Oper} {o : Oper} {a : Act} {Q : Exit → Act → World → Prop} (hgd : o.guard = none) (d : Operand) (t : TypeId)
    (ho : o.op = .call { callee := .builtin .clear, args := #[d], argTypes := #[t] }) (v : Value) (hd : a.eval d = v) {v' : Value} {w' : World}
    (hr : (Builtin.clear_ #[t] o.type #[v]).run P w = .ok v' w') (h : wpList P ops Q rest (a.put o.dst v') w') : wpList P ops Q (o :: rest) a w :=
  wpList_plain hgd fun _ hK => wp_clear_run w d t ho v hd hr (hK _ _ h)
end
end Go.Proofs.Ytnaldifgnpnbhaa
