/-
  The walks of IndexFunc and DeleteFunc at items, at the closure of Drop; Drop.
-/
import Derived.Test.YtnaldifgnpnbhaaT14
namespace Go.Proofs.Ytnaldifgnpnbhaa
open Go.RowKit Go.Maps

/-- is an item of that run? -/
def ofRun (fl ru : Int) (x : It) : Bool := x.flow == fl && x.run == ru
/-- what the closure has caught -/
def Caught (w : World) (fb rb : Nat) (fl ru : Int) : Prop := w.cell? ⟨fb, 0, none⟩ = some (.int .i64 fl) ∧ w.cell? ⟨rb, 0, none⟩ = some (.int .i64 ru)
def GonePost (w : World) (r : Bool) (e : Ending) (w' : World) : Prop := e = .returned (.bool r) ∧ Upd Non w w'
theorem gone_spec (w : World) (x : It) (fb rb : Nat) (fl ru : Int) (h : Caught w fb rb fl ru) :
    Calls Try.prog 36 #[.agg x.cells.toArray, .pointer (some ⟨fb, 0, none⟩), .pointer (some ⟨rb, 0, none⟩)] w (GonePost w (ofRun fl ru x)) := by
  obtain ⟨h1, h2⟩ := h
  have hl1 := World.block_lt_of_cell? w _ h1
  have hl2 := World.block_lt_of_cell? w _ h2
  have a1 := fun o => ((((Upd.refl Non w).alloc o).cell (p := ⟨fb, 0, none⟩) hl1 id).trans h1)
  have a2 := fun o => ((((Upd.refl Non w).alloc o).cell (p := ⟨rb, 0, none⟩) hl2 id).trans h2)
  have hfin : ∀ w', Upd Non w w' → GonePost w (ofRun fl ru x) (.returned (.bool (x.flow == fl && x.run == ru))) w' := fun w' hw' => ⟨rfl, hw'⟩
  simp only [It.cells]
  by_cases hf : x.flow = fl
  · have hf' : (x.flow == fl) = true := by simpa using hf
    rw [hf'] at hfin
    simp only [Bool.true_and] at hfin
    subst hf
    clear hf'
    go_enter Try.func36, Try.ntmps36
    go_wp2
    go_ret
    exact hfin _ ((Upd.refl _ _).alloc _)
  · have hf' : (x.flow == fl) = false := by simpa using hf
    rw [hf'] at hfin
    simp only [Bool.false_and] at hfin
    go_enter Try.func36, Try.ntmps36
    go_wp2
    go_ret
    exact hfin _ ((Upd.refl _ _).alloc _)

/-- the first that is -/
def idxF (p : It → Bool) (l : List It) : Int := if l.findIdx p < l.length then (l.findIdx p : Int) else -1
def IdxPost (w : World) (r : Int) (e : Ending) (w' : World) : Prop := e = .returned (.int .i64 r) ∧ Upd Non w w'
set_option maxRecDepth 100000 in
set_option maxHeartbeats 1000000 in
theorem index_spec (w : World) (F : Nat → Prop) (v : Value) (l : List It) (fb rb : Nat) (fl ru : Int) (h : Rd itE w F v l) (hF : Fin w F) (hn : l.length ≤ 1048576) (hc : Caught w fb rb fl ru) :
    Calls Try.prog 44 #[v, .func (.func 36) #[] #[.pointer (some ⟨fb, 0, none⟩), .pointer (some ⟨rb, 0, none⟩)]] w (IdxPost w (idxF (ofRun fl ru) l)) := by
  obtain ⟨A, c, rfl, hcl, _⟩ := h.shape
  obtain ⟨r, hr⟩ : ∃ r, idxF (ofRun fl ru) l = r := ⟨_, rfl⟩
  rw [hr]
  have HR := Lib.hid hr
  clear hr
  have hl1 := World.block_lt_of_cell? w _ hc.1
  have hl2 := World.block_lt_of_cell? w _ hc.2
  go_enter Try.func44, Try.ntmps44
  go_wp2
  go_loopw [5, 8] (fun _ i wr => ∃ k : Nat, k ≤ l.length ∧ i = .int .i64 k ∧ Upd Non w wr ∧ Hid (∀ j (hj : j < l.length), j < k → ofRun fl ru l[j] = false)) (fun _ i _ => l.length - (intOf i).toNat)
  case atStart => exact ⟨0, Nat.zero_le _, rfl, Upd.refl _ _, Lib.hid (fun j hj h => by omega)⟩
  case round =>
    obtain ⟨k, hk, rfl, hu, hno⟩ := hrel
    by_cases hlt : k < l.length
    · obtain ⟨b1, o1, c1, e1, _, hb1, hxw, m0, m1, m2, m3, m4, m5⟩ := (h.upd hu (Upd.fr_non hF)).it hlt
      cases e1
      obtain ⟨x, hx⟩ : ∃ x, l[k] = x := ⟨_, rfl⟩
      rw [hx] at hxw m0 m1 m2 m3 m4 m5
      have HX := Lib.hid hx
      clear hx
      have HG := gone_spec wr x fb rb fl ru ⟨(hu.cell (p := ⟨fb, 0, none⟩) hl1 id).trans hc.1, (hu.cell (p := ⟨rb, 0, none⟩) hl2 id).trans hc.2⟩
      simp only [It.cells] at HG
      obtain ⟨g, hg⟩ : ∃ g, ofRun fl ru x = g := ⟨_, rfl⟩
      rw [hg] at HG
      have HGG := Lib.hid hg
      clear hg
      cases g
      · have hno' : ∀ j (hj : j < l.length), j < k + 1 → ofRun fl ru l[j] = false := fun j hj h => by
          rcases Nat.lt_or_ge j k with h' | h'
          · exact hno.out j hj h'
          · obtain rfl : j = k := by omega
            rw [HX.out]; exact HGG.out
        have HN := Lib.hid hno'
        clear hno' hno
        go_wp2_with fail
        refine HG.mono ?_
        rintro e w1 ⟨rfl, hu1⟩
        go_wp2
        go_roundw
        case rel => exact ⟨k + 1, by omega, by go_num, hu.trans hu1, HN⟩
        case measure => simp [intOf]; omega
      · have hfi : l.findIdx (ofRun fl ru) = k := by
          rw [List.findIdx_eq hlt]
          exact ⟨by rw [HX.out]; exact HGG.out, fun j hj => hno.out j (by omega) hj⟩
        have hrr : r = k := by rw [← HR.out, idxF, hfi, if_pos hlt]
        have HRR := Lib.hid hrr
        clear hrr hfi hno
        go_wp2_with fail
        refine HG.mono ?_
        rintro e w1 ⟨rfl, hu1⟩
        go_wp2
        go_ret
        exact ⟨by rw [HRR.out]; rfl, hu.trans hu1⟩
    · have hfi : ¬ l.findIdx (ofRun fl ru) < l.length := fun h => by
        have h1 := List.findIdx_getElem (w := h)
        have h2 := hno.out (l.findIdx (ofRun fl ru)) h (by omega)
        rw [h2] at h1
        cases h1
      have hrr : r = -1 := by rw [← HR.out, idxF, if_neg hfi]
      have HRR := Lib.hid hrr
      clear hrr hfi hno
      obtain rfl : k = l.length := by omega
      go_wp2
      go_ret
      exact ⟨by rw [HRR.out]; rfl, hu⟩

/-! ### items as cells -/
def cellsL (l : List It) : List Value := l.flatMap It.cells
theorem cellsL_len (l : List It) : (cellsL l).length = l.length * 6 := by
  induction l with
  | nil => rfl
  | cons x xs ih => simp only [cellsL, List.flatMap_cons, List.length_append, List.length_cons] at *; rw [ih]; simp [It.cells]; omega
theorem cellsL_append (a b : List It) : cellsL (a ++ b) = cellsL a ++ cellsL b := by simp [cellsL]
theorem Rel.cellsL {w : World} {F : Nat → Prop} : ∀ {xs : List It} {cs : List Value}, Rel itE w F xs cs → cs = cellsL xs ∧ ∀ x ∈ xs, x.wf
  | [], cs, h => ⟨h, by simp⟩
  | x :: xs, _, h => by
    obtain ⟨l, r, rfl, ⟨rfl, hw⟩, hr⟩ := h
    obtain ⟨e, h2⟩ := hr.cellsL
    exact ⟨by rw [e]; rfl, fun y hy => (List.mem_cons.1 hy).elim (fun e => by rw [e]; exact hw) (h2 y)⟩
theorem rel_cellsL {w : World} {F : Nat → Prop} : ∀ (xs : List It), (∀ x ∈ xs, x.wf) → Rel itE w F xs (cellsL xs)
  | [], _ => rfl
  | x :: xs, h => ⟨x.cells, cellsL xs, rfl, ⟨rfl, h x (by simp)⟩, rel_cellsL xs fun y hy => h y (by simp [hy])⟩
/-- an item is laid at a place of a block -/
def set6o (w : World) (b o : Nat) (x : It) : World := (((((w.setCell ⟨b, o, none⟩ (.int .i64 x.at_)).setCell ⟨b, o + 1, none⟩ (.int .i64 x.flow)).setCell ⟨b, o + 2, none⟩ (.int .i64 x.run)).setCell ⟨b, o + 3, none⟩ (.int .i64 x.ref)).setCell ⟨b, o + 4, none⟩ (.int .i64 x.turn)).setCell ⟨b, o + 5, none⟩ (.int .i64 x.kind)
theorem set6o_upd (w : World) (b o : Nat) (x : It) : Upd (fun q => q = b) w (set6o w b o x) :=
  (((((Upd.set (S := fun q => q = b) (Upd.refl _ _) (p := ⟨b, o, none⟩) (.inr rfl) _).set (p := ⟨b, o + 1, none⟩) (.inr rfl) _).set (p := ⟨b, o + 2, none⟩) (.inr rfl) _).set (p := ⟨b, o + 3, none⟩) (.inr rfl) _).set (p := ⟨b, o + 4, none⟩) (.inr rfl) _).set (p := ⟨b, o + 5, none⟩) (.inr rfl) _
theorem cellsL_set (zs : List It) (rest : List Value) (i : Nat) (x : It) (hi : i < zs.length) :
    (((((((cellsL zs ++ rest).set (i * 6) (.int .i64 x.at_)).set (i * 6 + 1) (.int .i64 x.flow)).set (i * 6 + 2) (.int .i64 x.run)).set (i * 6 + 3) (.int .i64 x.ref)).set (i * 6 + 4) (.int .i64 x.turn)).set (i * 6 + 5) (.int .i64 x.kind)) = cellsL (zs.set i x) ++ rest := by
  have hz : zs = zs.take i ++ zs[i] :: zs.drop (i + 1) := by rw [← List.drop_eq_getElem_cons hi, List.take_append_drop]
  have hs : zs.set i x = zs.take i ++ x :: zs.drop (i + 1) := List.set_eq_take_append_cons_drop .. |>.trans (by rw [if_pos hi])
  have hl : (cellsL (zs.take i)).length = i * 6 := by rw [cellsL_len]; simp; omega
  rw [hs]
  conv => lhs; rw [hz]
  rw [cellsL_append, cellsL_append]
  have e1 : ∀ y : It, cellsL (y :: zs.drop (i + 1)) = y.cells ++ cellsL (zs.drop (i + 1)) := fun y => rfl
  rw [e1, e1]
  simp only [List.append_assoc]
  have hset : ∀ (k : Nat) (v : Value) (b : List Value), (cellsL (zs.take i) ++ b).set (i * 6 + k) v = cellsL (zs.take i) ++ b.set k v := fun k v b => by
    rw [List.set_append_right _ _ (by omega), hl]
    congr 2
    omega
  have hset0 : ∀ (v : Value) (b : List Value), (cellsL (zs.take i) ++ b).set (i * 6) v = cellsL (zs.take i) ++ b.set 0 v := fun v b => hset 0 v b
  rw [hset0, hset, hset, hset, hset, hset]
  simp [It.cells]
theorem set6o_blk {w : World} {b i : Nat} {zs : List It} {rest : List Value} (x : It) (h : w.heap[b]? = some (.cells (cellsL zs ++ rest).toArray 33 (0, 0))) (hi : i < zs.length) :
    (set6o w b (i * 6) x).heap[b]? = some (.cells (cellsL (zs.set i x) ++ rest).toArray 33 (0, 0)) := by
  have := blk_set (blk_set (blk_set (blk_set (blk_set (blk_set h (i * 6) (.int .i64 x.at_)) (i * 6 + 1) (.int .i64 x.flow)) (i * 6 + 2) (.int .i64 x.run)) (i * 6 + 3) (.int .i64 x.ref)) (i * 6 + 4) (.int .i64 x.turn)) (i * 6 + 5) (.int .i64 x.kind)
  rw [← cellsL_set zs rest i x hi]
  simpa [set6o] using this
theorem blk_six {w : World} {b : Nat} {zs : List It} {rest : List Value} (h : w.heap[b]? = some (.cells (cellsL zs ++ rest).toArray 33 (0, 0))) (i : Nat) (hi : i < zs.length) :
    Six w b (i * 6) zs[i] := by
  have hz : zs = zs.take i ++ zs[i] :: zs.drop (i + 1) := by rw [← List.drop_eq_getElem_cons hi, List.take_append_drop]
  have hl : (cellsL (zs.take i)).length = i * 6 := by rw [cellsL_len]; simp; omega
  have hc : cellsL zs ++ rest = cellsL (zs.take i) ++ (zs[i].cells ++ (cellsL (zs.drop (i + 1)) ++ rest)) := by
    have hz' := congrArg cellsL hz
    rw [cellsL_append, show cellsL (zs[i] :: zs.drop (i + 1)) = zs[i].cells ++ cellsL (zs.drop (i + 1)) from rfl] at hz'
    rw [hz', List.append_assoc, List.append_assoc]
  have hk : ∀ k, k < 6 → w.cell? ⟨b, i * 6 + k, none⟩ = zs[i].cells[k]? := fun k hk => by
    rw [blk_at h, List.getElem?_toArray, hc, List.getElem?_append_right (by omega), hl, show i * 6 + k - i * 6 = k by omega, List.getElem?_append_left (by simp [It.cells]; omega)]
  exact ⟨hk 0 (by omega), hk 1 (by omega), hk 2 (by omega), hk 3 (by omega), hk 4 (by omega), hk 5 (by omega)⟩

theorem take_set_self {α : Type} (l : List α) (i : Nat) (x : α) : (l.set i x).take i = l.take i := by
  apply List.ext_getElem?
  intro k
  rw [List.getElem?_take, List.getElem?_take]
  split
  · rw [List.getElem?_set, if_neg (by omega)]
  · rfl
theorem zeros_one (m : Nat) : ∀ v ∈ (Builtin.zeroCells (Value.agg #[.int .i64 0, .int .i64 0, .int .i64 0, .int .i64 0, .int .i64 0, .int .i64 0]).cells m).toList, v.oneCell' = true := by
  intro v hv
  simp only [Builtin.zeroCells, Array.toList_map, List.mem_map] at hv
  obtain ⟨i, _, rfl⟩ := hv
  have h6 : i % 6 < 6 := Nat.mod_lt _ (by decide)
  show (Value.oneCell' ((#[Value.int .i64 0, .int .i64 0, .int .i64 0, .int .i64 0, .int .i64 0, .int .i64 0] : Array Value)[i % 6]!)) = true
  generalize i % 6 = j at h6
  match j, h6 with
  | 0, _ => rfl
  | 1, _ => rfl
  | 2, _ => rfl
  | 3, _ => rfl
  | 4, _ => rfl
  | 5, _ => rfl
theorem idx_take (p : It → Bool) (l : List It) (i : Nat) (h : l.findIdx p = i) (hi : i < l.length) : (l.take i).filter (fun x => !p x) = l.take i ∧ p l[i] = true := by
  subst h
  refine ⟨List.filter_eq_self.2 fun x hx => ?_, List.findIdx_getElem (w := hi)⟩
  obtain ⟨j, hj, rfl⟩ := List.getElem_of_mem hx
  rw [List.getElem_take]
  have := List.not_of_lt_findIdx (p := p) (xs := l) (i := j) (by simp at hj; omega)
  simpa using this
def DfPost (w : World) (g : Nat) (l' : List It) (e : Ending) (w' : World) : Prop := ∃ v', e = .returned v' ∧ Upd (fun q => q = g) w w' ∧ Buf itE 33 w' g Non v' l'

set_option maxRecDepth 100000 in
set_option maxHeartbeats 2000000 in
theorem delfunc_spec (w : World) (g : Nat) (v : Value) (l : List It) (fb rb : Nat) (fl ru : Int) (hb : Buf itE 33 w g Non v l) (hn : l.length ≤ 1048576) (hc : Caught w fb rb fl ru) (hfg : fb ≠ g) (hrg : rb ≠ g) :
    Calls Try.prog 35 #[v, .func (.func 36) #[] #[.pointer (some ⟨fb, 0, none⟩), .pointer (some ⟨rb, 0, none⟩)]] w (DfPost w g (l.filter fun x => !ofRun fl ru x)) := by
  have HI := fun F hF (h : Rd itE w F v l) => index_spec w F v l fb rb fl ru h hF hn hc
  obtain ⟨A, c, rfl, hcl, hcm, hA⟩ := hb.shape
  by_cases hix : l.findIdx (ofRun fl ru) < l.length
  · -- some are
    rcases hb with ⟨_, h⟩ | ⟨c', cs, rest, e1, hg, hrel, hlen, _, _⟩
    · subst h; simp at hix
    cases e1
    obtain ⟨rfl, hwf⟩ := hrel.cellsL
    rw [sz_itE] at hlen
    have hgl := blk_lt hg
    have hrd : Rd itE w (fun q => q = g) (.slice (some ⟨g, 0, none⟩) l.length c) l := (Buf.rd (D := Non) (.inr ⟨c, cellsL l, rest, rfl, hg, rel_cellsL l hwf, by rw [sz_itE]; exact hlen, hcl, hcm⟩)).mono fun q hq => hq.elim id fun h => h.elim
    have HI' := HI (fun q => q = g) (fun q hq => by have hq : q = g := hq; omega) hrd
    obtain ⟨i, hi⟩ : ∃ i, l.findIdx (ofRun fl ru) = i := ⟨_, rfl⟩
    rw [hi] at hix
    have hidx : idxF (ofRun fl ru) l = i := by rw [idxF, hi, if_pos hix]
    rw [hidx] at HI'
    obtain ⟨hpre, hat⟩ := idx_take _ l i hi hix
    obtain ⟨n, hln⟩ : ∃ n, l.length = n := ⟨_, rfl⟩
    rw [hln] at hix hn hcl
    have hrl : rest.length = c * 6 - n * 6 := by rw [List.length_append, cellsL_len, hln] at hlen; omega
    rw [maxLen_eq] at hcm
    have hl1 := World.block_lt_of_cell? w _ hc.1
    have hl2 := World.block_lt_of_cell? w _ hc.2
    -- what the loop starts from
    have hstart : ∃ zs : List It, zs.length = n ∧ w.heap[g]? = some (.cells (cellsL zs ++ rest).toArray 33 (0, 0)) ∧ zs.take i = (l.take (i + 1)).filter (fun x => !ofRun fl ru x) ∧ zs.drop (i + 1) = l.drop (i + 1) ∧ (∀ x ∈ zs, x.wf) :=
      ⟨l, hln, hg, by rw [take_snoc l i (by omega), List.filter_append, hpre]; simp [hat], rfl, hwf⟩
    have hlast : ∀ j (hj : j < l.length), (l.take (j + 1)).filter (fun x => !ofRun fl ru x) = (l.take j).filter (fun x => !ofRun fl ru x) ++ (if ofRun fl ru l[j] = true then [] else [l[j]]) := fun j hj => by
      rw [take_snoc l j hj, List.filter_append]
      cases h : ofRun fl ru l[j] <;> simp [h]
    have HL := Lib.hid hlast
    have HW := Lib.hid hwf
    have HLN := Lib.hid hln
    clear hpre hat hidx hi HI hlen hrd hlast hwf hg hrel
    rw [hln] at HI' ⊢
    clear hln
    have hne1 : ((i : Int) == -1) = false := by rw [beq_eq_false_iff_ne]; omega
    go_enter Try.func35, Try.ntmps35
    go_wp2_with fail
    refine HI'.mono ?_
    rintro e w1 ⟨rfl, hu1⟩
    obtain ⟨zs0, hz0, hg0, ht0, hd0, hw0⟩ := hstart
    have hg1 := (hu1.block g hgl id).trans hg0
    go_wp2_with fail
    go_loopw [5, 6, 7] (fun iv jv _ wr => ∃ (i' j : Nat) (zs : List It), i' < j ∧ j ≤ n ∧ iv = .int .i64 i' ∧ jv = .int .i64 j ∧ zs.length = n ∧ wr.heap[g]? = some (.cells (cellsL zs ++ rest).toArray 33 (0, 0)) ∧ Hid (zs.take i' = (l.take j).filter (fun x => !ofRun fl ru x)) ∧ Hid (zs.drop j = l.drop j) ∧ Hid (∀ x ∈ zs, x.wf) ∧ Upd (fun q => q = g) w wr) (fun _ jv _ _ => n - (intOf jv).toNat)
    case atStart => exact ⟨i, i + 1, zs0, by omega, by omega, rfl, by go_num, hz0, hg1, Lib.hid ht0, Lib.hid hd0, Lib.hid hw0, hu1.mono fun _ _ h => h.elim⟩
    case round =>
      clear hz0 hg0 ht0 hd0 hw0 hg1
      obtain ⟨i', j, zs, hij, hj, rfl, rfl, hz, hgr, ht, hd, hw, hu⟩ := hrel
      by_cases hlt : j < n
      · have hjl : j < l.length := by rw [HLN.out]; exact hlt
        have hzj : zs[j]'(by omega) = l[j] := by
          have h1 := hd.out
          rw [List.drop_eq_getElem_cons (by omega), List.drop_eq_getElem_cons hjl] at h1
          exact (List.cons.inj h1).1
        have hd' : zs.drop (j + 1) = l.drop (j + 1) := by
          have h1 := hd.out
          rw [List.drop_eq_getElem_cons (by omega), List.drop_eq_getElem_cons hjl] at h1
          exact (List.cons.inj h1).2
        have hsix := blk_six hgr j (by omega)
        have hxw := hw.out _ (List.getElem_mem (show j < zs.length by omega))
        have hstep := HL.out j hjl
        rw [hzj] at hsix hxw
        obtain ⟨x, hx⟩ : ∃ x, l[j] = x := ⟨_, rfl⟩
        rw [hx] at hsix hxw hstep
        obtain ⟨m0, m1, m2, m3, m4, m5⟩ := hsix
        have uA := (Upd.refl Non wr).alloc (.cells #[.int .i64 x.at_, .int .i64 x.flow, .int .i64 x.run, .int .i64 x.ref, .int .i64 x.turn, .int .i64 x.kind] 33)
        have hBx := heap_alloc_new wr (.cells #[.int .i64 x.at_, .int .i64 x.flow, .int .i64 x.run, .int .i64 x.ref, .int .i64 x.turn, .int .i64 x.kind] 33)
        have hCA : Caught (wr.alloc (.cells #[.int .i64 x.at_, .int .i64 x.flow, .int .i64 x.run, .int .i64 x.ref, .int .i64 x.turn, .int .i64 x.kind] 33)) fb rb fl ru := ⟨((hu.alloc _).cell (p := ⟨fb, 0, none⟩) hl1 hfg).trans hc.1, ((hu.alloc _).cell (p := ⟨rb, 0, none⟩) hl2 hrg).trans hc.2⟩
        have HG := gone_spec (wr.alloc (.cells #[.int .i64 x.at_, .int .i64 x.flow, .int .i64 x.run, .int .i64 x.ref, .int .i64 x.turn, .int .i64 x.kind] 33)) x fb rb fl ru hCA
        have hgA := (uA.block g (blk_lt hgr) id).trans hgr
        have hne : g ≠ wr.heap.size := by have := blk_lt hgr; omega
        have hsA : (wr.alloc (.cells #[.int .i64 x.at_, .int .i64 x.flow, .int .i64 x.run, .int .i64 x.ref, .int .i64 x.turn, .int .i64 x.kind] 33)).heap.size = wr.heap.size + 1 := by simp
        simp only [It.cells] at HG
        obtain ⟨r, hr⟩ : ∃ r, ofRun fl ru x = r := ⟨_, rfl⟩
        rw [hr] at HG hstep
        have HST := Lib.hid hstep
        have HD := Lib.hid hd'
        clear hr hx hzj hd' hstep hd hCA
        cases r
        · -- it stays
          go_wp2_with fail
          refine HG.mono ?_
          rintro e w2 ⟨rfl, hu2⟩
          have hg2 := (hu2.block g (by rw [hsA]; have := blk_lt hgr; omega) id).trans hgA
          have hB2 := (hu2.block wr.heap.size (by omega) id).trans hBx
          obtain ⟨q0, q1, q2, q3, q4, q5⟩ := blk_six hg2 i' (by omega)
          have f2 := fun k => blk_free hg2 k
          have d0 : w2.cell? ⟨wr.heap.size, 0, none⟩ = some (.int .i64 x.at_) := blk_at hB2 0
          have d1 : w2.cell? ⟨wr.heap.size, 1, none⟩ = some (.int .i64 x.flow) := blk_at hB2 1
          have d2 : w2.cell? ⟨wr.heap.size, 2, none⟩ = some (.int .i64 x.run) := blk_at hB2 2
          have d3 : w2.cell? ⟨wr.heap.size, 3, none⟩ = some (.int .i64 x.ref) := blk_at hB2 3
          have d4 : w2.cell? ⟨wr.heap.size, 4, none⟩ = some (.int .i64 x.turn) := blk_at hB2 4
          have d5 : w2.cell? ⟨wr.heap.size, 5, none⟩ = some (.int .i64 x.kind) := blk_at hB2 5
          have HG2 := Lib.hid hg2
          clear hg2 hB2 hgA hBx HG m0 m1 m2 m3 m4 m5
          go_wp2
          go_roundw
          case rel =>
            have h1 := set6o_blk x HG2.out (show i' < zs.length by omega)
            have h2 : Upd (fun q => q = g) w (set6o w2 g (i' * 6) x) := ((hu.alloc _).trans (hu2.mono fun _ _ h => h.elim)).trans (set6o_upd w2 g (i' * 6) x)
            refine ⟨i' + 1, j + 1, zs.set i' x, by omega, by omega, by go_num, by go_num, by simp [hz], h1, Lib.hid ?_, Lib.hid ?_, Lib.hid ?_, h2⟩
            · rw [HST.out, ← ht.out, List.take_succ_eq_append_getElem (by simp; omega), take_set_self]
              simp
            · rw [List.drop_set_of_lt (by omega)]; exact HD.out
            · intro y hy
              rcases List.mem_or_eq_of_mem_set hy with h | h
              · exact hw.out y h
              · rw [h]; exact hxw
          case measure => simp [intOf]; omega
        · -- it goes
          go_wp2_with fail
          refine HG.mono ?_
          rintro e w2 ⟨rfl, hu2⟩
          have hg2 := (hu2.block g (by rw [hsA]; have := blk_lt hgr; omega) id).trans hgA
          have HG2 := Lib.hid hg2
          clear hg2 hgA hBx HG m0 m1 m2 m3 m4 m5
          go_wp2
          go_roundw
          case rel => exact ⟨i', j + 1, zs, by omega, by omega, rfl, by go_num, hz, HG2.out, Lib.hid (by rw [HST.out]; simp [ht.out]), HD, hw, (hu.alloc _).trans (hu2.mono fun _ _ h => h.elim)⟩
          case measure => simp [intOf]; omega
      · obtain rfl : j = n := by omega
        have hfl : zs.take i' = l.filter (fun x => !ofRun fl ru x) := by rw [ht.out, List.take_of_length_le (by rw [HLN.out]; exact Nat.le_refl _)]
        have hsplit : cellsL zs = cellsL (zs.take i') ++ cellsL (zs.drop i') := by rw [← cellsL_append, List.take_append_drop]
        have hla : (cellsL (zs.take i')).length = i' * 6 := by rw [cellsL_len]; simp; omega
        have hlb : (cellsL (zs.drop i')).length = (j - i') * 6 := by rw [cellsL_len]; simp [hz]
        let z : Value := .agg #[.int .i64 0, .int .i64 0, .int .i64 0, .int .i64 0, .int .i64 0, .int .i64 0]
        obtain ⟨Z, hZ⟩ : ∃ Z, Z = (Builtin.zeroCells z.cells (j - i')).toList := ⟨_, rfl⟩
        have hzl : Z.length = (j - i') * 6 := by rw [hZ]; exact zeroCells_len z 6 _ rfl
        have hz1 : ∀ u ∈ Z, u.oneCell' = true := by rw [hZ]; exact zeros_one _
        have hclr : ∀ ty c', (Builtin.clear_ #[27] ty #[.slice (some ⟨g, i' * 6, none⟩) (j - i') c']).run Try.prog wr = .ok (.tuple #[]) (wr.setRow g (cellsL (zs.take i') ++ (Z ++ rest)).toArray) := fun ty c' => by
          have hsz : (Builtin.zeroCells z.cells (j - i')).size = (j - i') * 6 := by rw [← hzl, hZ]; simp
          have := run_clearB (P := Try.prog) wr 27 ty 33 z g (i' * 6) (j - i') c' (cellsL zs ++ rest) 33 Try.underlying27 (by kernel_rfl) hgr (by omega) (by rw [hsz, List.length_append, cellsL_len, hz]; omega) (by rw [← hZ]; exact hz1)
          rw [this, ← hZ, hsz, hsplit, List.append_assoc (cellsL (zs.take i')), List.take_left' hla, ← List.drop_drop, List.drop_left' hla, List.drop_left' hlb, List.append_assoc]
        have hb2 := setRow_heap wr g (cellsL zs ++ rest).toArray (cellsL (zs.take i') ++ (Z ++ rest)).toArray 33 (0, 0) hgr
        have hfin : DfPost w g (l.filter fun x => !ofRun fl ru x) (.returned (.slice (some ⟨g, 0, none⟩) i' c)) (wr.setRow g (cellsL (zs.take i') ++ (Z ++ rest)).toArray) := by
          rw [← hfl]
          have hlt' : (zs.take i').length = i' := by simp; omega
          refine ⟨_, rfl, hu.trans (upd_setRow wr g _), .inr ⟨c, cellsL (zs.take i'), Z ++ rest, by rw [hlt'], hb2, rel_cellsL _ (fun y hy => hw.out y (List.mem_of_mem_take hy)), ?_, by omega, by rw [maxLen_eq]; omega⟩⟩
          simp only [List.length_append, hla, hzl, hrl, sz_itE]; omega
        obtain ⟨L2, hL2⟩ : ∃ L2, L2 = cellsL (zs.take i') ++ (Z ++ rest) := ⟨_, rfl⟩
        rw [← hL2] at hclr hfin
        clear hL2 hb2 hsplit hla hlb hZ hzl hz1 hfl ht hd hw hgr
        have hb4 : ¬ (c = i') := by omega
        have hb5 : ¬ (c = 0) := by omega
        have hb6 : (i' : Int) ≤ (j : Int) := by omega
        have hb7 : i' ≤ c := by omega
        go_wp2_with (at_builtin; refine wpList_clear_run _ rfl _ 27 rfl _ rfl (hclr _ _) ?_)
        go_wp2
        go_ret
        exact hfin
  · -- none is
    have hidx : idxF (ofRun fl ru) l = -1 := by rw [idxF, if_neg hix]
    have hall : l.filter (fun x => !ofRun fl ru x) = l := List.filter_eq_self.2 fun x hx => by
      obtain ⟨j, hj, rfl⟩ := List.getElem_of_mem hx
      have := List.not_of_lt_findIdx (p := ofRun fl ru) (xs := l) (i := j) (by omega)
      simpa using this
    have hrd : ∃ F, Fin w F ∧ Rd itE w F (.slice A l.length c) l := by
      by_cases hl : l = []
      · subst hl
        rcases hA with ⟨rfl, rfl, _⟩ | rfl
        · exact ⟨Non, Fin.non _, Rd.nil _ _ _⟩
        · exact ⟨Non, Fin.non _, ⟨_, c, [], rfl, by simp, hcm, At.nil _, rfl⟩⟩
      · exact ⟨fun q => q = g, fun q hq => by have hq : q = g := hq; rw [hq]; exact hb.lt hl, hb.rd.mono fun q hq => hq.elim id fun h => h.elim⟩
    obtain ⟨F, hF, hr⟩ := hrd
    have HI' := HI F hF hr
    rw [hidx] at HI'
    have hfin : ∀ w', Upd Non w w' → DfPost w g (l.filter fun x => !ofRun fl ru x) (.returned (.slice A l.length c)) w' := fun w' hw' => by
      rw [hall]
      exact ⟨_, rfl, hw'.mono fun _ _ h => h.elim, hb.upd' hw' id (fun k hk => hk.elim)⟩
    clear hidx hall HI hr hb hix
    go_enter Try.func35, Try.ntmps35
    go_wp2_with fail
    refine HI'.mono ?_
    rintro e w1 ⟨rfl, hu1⟩
    go_wp2
    go_ret
    exact hfin _ hu1
end Go.Proofs.Ytnaldifgnpnbhaa
