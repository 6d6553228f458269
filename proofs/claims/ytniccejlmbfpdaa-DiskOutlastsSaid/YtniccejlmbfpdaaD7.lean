/-
  The walk of (*Disk).Read.
-/
import Derived.RangeFuncNested
import Derived.RangeFuncBound
import Derived.RangeFuncCalls
import Derived.RangeFuncLeaves
import Derived.Shelf.Abstract
import Derived.Shelf.RegionOpen
import Derived.OwnWalkIn
import Derived.TacticsInMore
import Derived.LoopNIn
import Derived.LoopIn
import Derived.Test.YtniccejlmbfpdaaD6
import Derived.Deep.DeepCutAuto
namespace Go.Proofs.Ytniccejlmbfpdaa
open Go.RowKit Go.Shelf
attribute [local go_sem] Oper.semAt_some

theorem wpList_appendR {P : Program} {ops : Array Oper} {rest : List Oper} {o : Oper} {a : Go.Act} {Q : Exit → Go.Act → World → Prop} (w : World) (hgd : o.guard = none) (s x : Operand) (t : TypeId)
    (ho : o.op = .call { callee := .builtin .append, args := #[s, x], argTypes := #[t, t] }) (v u : Value) (hev : a.eval s = v) (hex : a.eval x = u) {v' : Value} {w' : World}
    (hr : (Builtin.append_ #[t, t] o.type #[v, u]).run P w = .ok v' w') (h : wpList P ops Q rest (a.put o.dst v') w') : wpList P ops Q (o :: rest) a w :=
  wpList_plain hgd fun _ hK => by
    unfold Oper.wp execOp
    simp only [ho, resolve, invoke, builtin, Sem.run_bind, Sem.run_pure, Result.andThen_ok, List.map_toArray, List.map_cons, List.map_nil, hev, hex, hr]
    exact hK _ _ h

/-- the cells of a slice may be written -/
def Fzn (W : World) (v : Value) : Prop := ∀ b o n c, v = .slice (some ⟨b, o, none⟩) n c → ∀ j, j < n → W.frozen? ⟨b, o + j, none⟩ = false

set_option maxRecDepth 100000 in
theorem clone_bytesF (w : World) (F : Nat → Prop) (v : Value) (d : List UInt8) (h : Rd byteE w F v d) (hF : Fin w F) (hl : d.length ≤ 140737488355328) :
    Calls Try.prog 63 #[v] w fun e w' => ∃ v', e = .returned v' ∧ Upd Non w w' ∧ Rd byteE w' (New w w') v' d ∧ Fzn w' v' := by
  rcases Nat.eq_zero_or_pos d.length with h0 | h0
  · refine (clone_bytes w F v d h hF hl).mono ?_
    rintro e w' ⟨v', rfl, hu, hr⟩
    refine ⟨v', rfl, hu, hr, fun b o n c e j hj => ?_⟩
    obtain ⟨A, c', e', _⟩ := hr.shape
    rw [e'] at e
    simp only [Value.slice.injEq] at e
    omega
  · obtain ⟨A, c, cs, rfl, h1, h2, h3, h4⟩ := h
    have hcl : cs.length = d.length := by rw [h4.length]; simp [byteE]
    obtain ⟨b, o, rfl, hf, hc⟩ := h3 (by omega)
    have hn := nil44
    obtain ⟨i, hi, hzz⟩ := Option.map_eq_some_iff.1 info5
    simp only [Prod.mk.injEq] at hzz
    obtain ⟨hz0, hz1, hz2⟩ := hzz
    have hs1 : i.size = 1 := by rw [hz1]; rfl
    have hal := Upd.alloc (Upd.refl Non w) (.cells #[] 5)
    have hcw : ∀ j, j < cs.length → (w.alloc (.cells #[] 5)).cell? ⟨b, o + j, none⟩ = cs[j]? := fun j hj => (hal.cell (p := ⟨b, o + j, none⟩) (hF b hf) id).trans (hc j hj)
    have hcap := growslice_fits (need := d.length) (old := 0) (bytes := 1) (by omega) (by omega)
    have hrun := run_append_grow (P := Try.prog) (w.alloc (.cells #[] 5)) 44 44 5 i (.int .u8 0) Try.underlying44 hi hz0 ⟨w.heap.size, 0, none⟩ 0 0 [] (by simp) (by simp) ⟨b, o, none⟩ d.length c cs (by rw [hcl, hs1]; omega)
      (fun j v hv => by
        have hj := (List.getElem?_eq_some_iff.1 hv).1
        rw [add_mk, hcw j hj, hv]) (by omega) (by omega) (by rw [Nat.zero_add, hz2]; omega)
    simp only [Nat.zero_add] at hrun
    go_enter Try.func63, Try.ntmps63
    go_wp2_with (at_builtin; refine wpList_appendR _ rfl (.tmp 5) (.tmp 6) 44 rfl _ _ rfl rfl hrun ?_)
    go_ret
    generalize hcapv : grownCap (w.alloc (.cells #[] 5)) d.length 0 5 = cap
    have hge : d.length ≤ cap := by rw [← hcapv]; exact grownCap_ge _ _ _ _
    have hle : cap ≤ maxLen := by rw [← hcapv]; exact grownCap_le_maxLen _ _ _ _ (by rw [maxLen_eq]; omega)
    generalize hz : Builtin.zeroCells #[Value.int .u8 0] (cap - d.length) = zs
    have hb := heap_alloc_new (w.alloc (.cells #[] 5)) (.cells (cs.toArray ++ zs) 5)
    rw [World.size_alloc] at hb
    have hbd : (((w.alloc (.cells #[] 5)).alloc (.cells (cs.toArray ++ zs) 5)).drew).heap[w.heap.size + 1]? = some (.cells (cs.toArray ++ zs) 5 (0, 0)) := hb
    have hsz : (((w.alloc (.cells #[] 5)).alloc (.cells (cs.toArray ++ zs) 5)).drew).heap.size = w.heap.size + 2 := by show ((w.alloc (.cells #[] 5)).alloc (.cells (cs.toArray ++ zs) 5)).heap.size = _; simp
    refine ⟨_, rfl, (hal.alloc _).drew, ⟨_, cap, cs, rfl, hge, hle, fun _ => ⟨w.heap.size + 1, 0, rfl, ⟨by omega, by omega⟩, fun j hj => ?_⟩, h4.flat byteE_flat⟩, fun b' o' n' c' e j hj => ?_⟩
    · rw [Nat.zero_add, blk_at hbd j, Array.getElem?_append_left (by simpa using hj)]
      simp
    · cases e
      exact blk_free hbd _

/-- the last write that waits for a sector -/
def lastW (x : Int) (es : List Ent) : Option (List UInt8) := (es.reverse.find? fun y => y.1 == x).map (·.2)
theorem lastW_none (x : Int) (es : List Ent) (h : ∀ k (hk : k < es.length), es[k].1 ≠ x) : lastW x es = none := by
  unfold lastW
  rw [List.find?_eq_none.2 ?_]
  · rfl
  · intro y hy
    obtain ⟨k, hk, rfl⟩ := List.getElem_of_mem (List.mem_reverse.1 hy)
    simpa using h k hk
theorem lastW_some (x : Int) (es : List Ent) (k : Nat) (hk : k < es.length) (hx : es[k].1 = x) (h : ∀ j (hj : j < es.length), k < j → es[j].1 ≠ x) : lastW x es = some es[k].2 := by
  have e : es = es.take k ++ es[k] :: es.drop (k + 1) := by rw [← List.drop_eq_getElem_cons hk, List.take_append_drop]
  unfold lastW
  conv => lhs; rw [e]
  rw [List.reverse_append, List.reverse_cons, List.append_assoc, List.find?_append, List.find?_eq_none.2 ?_]
  · simp [hx]
  · intro y hy
    obtain ⟨j, hj, rfl⟩ := List.getElem_of_mem (List.mem_reverse.1 hy)
    rw [List.getElem_drop]
    simpa using h (k + 1 + j) (by simp at hj; omega) (by omega)
def readD (n : Nat) (d : Dk) (x : Int) : Int × List UInt8 :=
  if check n d x true = 0 then (0, (lastW x d.pend).getD ((d.kept.drop (x.toNat * d.size)).take d.size)) else (check n d x true, [])
def ReadPostF (w : World) (n : Nat) (d : Dk) (x : Int) (e : Ending) (w' : World) : Prop :=
  Upd Non w w' ∧ ∃ v, e = .returned (.tuple #[v, .int .i64 (readD n d x).1]) ∧ Rd byteE w' (New w w') v (readD n d x).2 ∧ Fzn w' v
def ReadPost (w : World) (n : Nat) (d : Dk) (x : Int) (e : Ending) (w' : World) : Prop :=
  Upd Non w w' ∧ ∃ v, e = .returned (.tuple #[v, .int .i64 (readD n d x).1]) ∧ Rd byteE w' (New w w') v (readD n d x).2

/-- bytes that read as b, in a block from lo on -/
def Byt (lo : Nat) (W : World) (v : Value) (b : List UInt8) : Prop :=
  ∃ A c, v = .slice A b.length c ∧ b.length ≤ c ∧ c ≤ maxLen ∧ (0 < b.length → ∃ q o, A = some ⟨q, o, none⟩ ∧ lo ≤ q ∧ ∀ j (hj : j < b.length), W.cell? ⟨q, o + j, none⟩ = some (bv b[j]) ∧ W.frozen? ⟨q, o + j, none⟩ = false)
theorem bytes_cs {w : World} {D : Nat → Prop} : ∀ (d : List UInt8) cs, Rel byteE w D d cs → cs = d.map bv
  | [], _, h => h
  | x :: xs, cs, h => by
    obtain ⟨l, r, rfl, ho, hr⟩ := h
    have ho : l = [bv x] := ho
    rw [ho, bytes_cs xs r hr]
    rfl
theorem Byt.of {W : World} {F : Nat → Prop} {v : Value} {b : List UInt8} {lo : Nat} (h : Rd byteE W F v b) (hF : ∀ q, F q → lo ≤ q) (hz : Fzn W v) : Byt lo W v b := by
  obtain ⟨A, c, cs, rfl, h1, h2, h3, h4⟩ := h
  obtain rfl := bytes_cs b cs h4
  refine ⟨A, c, rfl, h1, h2, fun hp => ?_⟩
  obtain ⟨q, o, rfl, hf, hc⟩ := h3 (by simpa using hp)
  exact ⟨q, o, rfl, hF q hf, fun j hj => ⟨by rw [hc j (by simpa using hj)]; simp [hj], hz q o _ _ rfl j hj⟩⟩
theorem Byt.rd {W : World} {v : Value} {b : List UInt8} {lo : Nat} (h : Byt lo W v b) : Rd byteE W (fun q => lo ≤ q ∧ q < W.heap.size) v b := by
  obtain ⟨A, c, rfl, h1, h2, h3⟩ := h
  refine ⟨A, c, b.map bv, rfl, h1, h2, fun hp => ?_, bytes_rel _ _ _⟩
  obtain ⟨q, o, rfl, hq, hc⟩ := h3 (by simpa using hp)
  have hp' : 0 < b.length := by simpa using hp
  exact ⟨q, o, rfl, ⟨hq, World.block_lt_of_cell? W _ (hc 0 hp').1⟩, fun j hj => by rw [(hc j (by simpa using hj)).1]; simp [show j < b.length by simpa using hj]⟩
theorem Byt.kept {lo : Nat} {A B : World} {row : Option Nat} {v : Value} {b : List UInt8} (h : Byt lo A v b) (hg : A.grownBy B row) (hr : ∀ r, row = some r → ∃ o : Obj, A.heap[r]? = some o ∧ o.isCells = false) : Byt lo B v b := by
  obtain ⟨A', c, rfl, h1, h2, h3⟩ := h
  refine ⟨A', c, rfl, h1, h2, fun hp => ?_⟩
  obtain ⟨q, o, rfl, hq, hc⟩ := h3 hp
  exact ⟨q, o, rfl, hq, fun j hj => ⟨cell_kept (hc j hj).1 hg hr, (frozen_kept (hc j hj).1 hg hr).trans (hc j hj).2⟩⟩
theorem Byt.upd {lo : Nat} {S : Nat → Prop} {A B : World} {v : Value} {b : List UInt8} (h : Byt lo A v b) (hu : Upd S A B) (hs : ∀ q, lo ≤ q → q < A.heap.size → ¬ S q) : Byt lo B v b := by
  obtain ⟨A', c, rfl, h1, h2, h3⟩ := h
  refine ⟨A', c, rfl, h1, h2, fun hp => ?_⟩
  obtain ⟨q, o, rfl, hq, hc⟩ := h3 hp
  have hl := World.block_lt_of_cell? A _ (hc 0 hp).1
  exact ⟨q, o, rfl, hq, fun j hj => ⟨(hu.cell (p := ⟨q, o + j, none⟩) hl (hs q hq hl)).trans (hc j hj).1, (hu.frozen (p := ⟨q, o + j, none⟩) hl (hs q hq hl)).trans (hc j hj).2⟩⟩
theorem Byt.mono {lo lo' : Nat} {A : World} {v : Value} {b : List UInt8} (h : Byt lo A v b) (hl : lo' ≤ lo) : Byt lo' A v b := by
  obtain ⟨A', c, rfl, h1, h2, h3⟩ := h
  refine ⟨A', c, rfl, h1, h2, fun hp => ?_⟩
  obtain ⟨q, o, rfl, hq, hc⟩ := h3 hp
  exact ⟨q, o, rfl, Nat.le_trans hl hq, hc⟩
theorem Byt.fzn {lo : Nat} {A : World} {v : Value} {b : List UInt8} (h : Byt lo A v b) : Fzn A v := by
  obtain ⟨A', c, rfl, h1, h2, h3⟩ := h
  intro b' o' n' c' e j hj
  cases e
  obtain ⟨q, o, e, hq, hc⟩ := h3 (by omega)
  cases e
  exact (hc j hj).2
theorem Upd.keepsFrom {B : Nat} {W W' : World} (h : Upd Non W W') : KeepsFrom B W W' := ⟨h.size, fun k _ _ hk _ => (h.block k (blk_lt hk) id).trans hk⟩

/-- what waits, as a walk that goes backward meets it -/
theorem pend_dv {w : World} {F : Nat → Prop} {A : Option Addr} {c : Nat} {es : List Ent} (h : Rd entE w F (.slice A es.length c) es) :
    ∃ (Ad : Nat → Option Addr) (cd : Nat → Nat), (∀ k, Rd byteE w F (.slice (Ad k) (es[k]?.getD (0, [])).2.length (cd k)) (es[k]?.getD (0, [])).2 ∧ (es[k]?.getD (0, [])).2.length ≤ 140737488355328) ∧
      (0 < es.length → ∃ b o, A = some ⟨b, o, none⟩ ∧ F b ∧ ∀ k, k < es.length → w.cell? ⟨b, o + k * 2, none⟩ = some (.int .i64 (es[k]?.getD (0, [])).1) ∧ w.cell? ⟨b, o + k * 2 + 1, none⟩ = some (.slice (Ad k) (es[k]?.getD (0, [])).2.length (cd k))) := by
  have step : ∀ k : Nat, ∃ x : Option Addr × Nat, (Rd byteE w F (.slice x.1 (es[k]?.getD (0, [])).2.length x.2) (es[k]?.getD (0, [])).2 ∧ (es[k]?.getD (0, [])).2.length ≤ 140737488355328) ∧
      (k < es.length → ∃ b o, A = some ⟨b, o, none⟩ ∧ F b ∧ w.cell? ⟨b, o + k * 2, none⟩ = some (.int .i64 (es[k]?.getD (0, [])).1) ∧ w.cell? ⟨b, o + k * 2 + 1, none⟩ = some (.slice x.1 (es[k]?.getD (0, [])).2.length x.2)) := by
    intro k
    by_cases hk : k < es.length
    · obtain ⟨b, o, c', dv, e1, _, hf, hl, hr, h0, h1⟩ := h.ent hk
      obtain ⟨A1, c1, rfl, _⟩ := hr.shape
      cases e1
      simp only [List.getElem?_eq_getElem hk, Option.getD_some]
      exact ⟨(A1, c1), ⟨hr, hl⟩, fun _ => ⟨b, o, rfl, hf, h0, h1⟩⟩
    · simp only [List.getElem?_eq_none (show es.length ≤ k by omega), Option.getD_none]
      exact ⟨(none, 0), ⟨Rd.nil _ _ _, by simp⟩, fun h => absurd h hk⟩
  refine ⟨fun k => (step k).choose.1, fun k => (step k).choose.2, fun k => (step k).choose_spec.1, fun hp => ?_⟩
  obtain ⟨b, o, e, hf, _⟩ := (step 0).choose_spec.2 hp
  refine ⟨b, o, e, hf, fun k hk => ?_⟩
  obtain ⟨b', o', e', _, h0, h1⟩ := (step k).choose_spec.2 hk
  rw [e] at e'
  cases e'
  exact ⟨h0, h1⟩

theorem mem_upto {len m j : Nat} : j ∈ upto len m ↔ ∃ i, i < m ∧ len - 1 - i = j := by simp [upto]
theorem DiskAt.below {w w' : World} {F : Nat → Prop} {p g n₀ : Nat} {d : Dk} (h : DiskAt w F p g d) (hb : Below n₀ w w') (hn : w.heap.size ≤ n₀) : DiskAt w' F p g d :=
  h.non ⟨hb.os, hb.tape, hb.output, hb.size, fun k hk _ => hb.block k (Nat.lt_of_lt_of_le hk hn)⟩
theorem sector_at {w : World} {F : Nat → Prop} {p g n : Nat} {d : Dk} (h : DiskAt w F p g d) (hg : Good n d) (k : Nat) (hk : k < n) :
    Rd byteE w (fun q => q = g) (.slice (some ⟨g, k * d.size, none⟩) d.size d.size) ((d.kept.drop (k * d.size)).take d.size) := by
  have hm := Nat.mul_le_mul_right d.size (show k + 1 ≤ n from hk)
  rw [Nat.add_mul, Nat.one_mul, ← hg.len] at hm
  have hl : ((d.kept.drop (k * d.size)).take d.size).length = d.size := by rw [List.length_take, List.length_drop]; omega
  refine ⟨some ⟨g, k * d.size, none⟩, d.size, (((d.kept.drop (k * d.size)).take d.size).map bv), by rw [hl], by omega, by rw [maxLen_eq]; have := hg.s2; omega, fun _ => ⟨g, k * d.size, rfl, rfl, fun j hj => ?_⟩, bytes_rel _ _ _⟩
  have hj' : j < d.size := by rw [List.length_map, hl] at hj; exact hj
  rw [blk_at h.sep.2.2.2.2.1]
  simp only [List.getElem?_toArray, List.getElem?_map, List.getElem?_take, List.getElem?_drop, if_pos hj']

set_option maxRecDepth 100000 in
set_option maxHeartbeats 2000000 in
theorem read_specF {w : World} {F : Nat → Prop} {p g n : Nat} {d : Dk} (h : DiskAt w F p g d) (hg : Good n d) (x : Int) :
    Calls Try.prog 31 #[.pointer (some ⟨p, 0, none⟩), .int .i64 x] w (ReadPostF w n d x) := by
  refine (callsIn_wide (n := 9)).1 ?_
  refine callsIn_of_wp_marks Try.func31 rfl trivial ?_ rfl
  simp only [Try.ntmps31, List.size_toArray, List.length_cons, List.length_nil, Nat.reduceAdd, Nat.reduceSub, Array.replicate_succ, Array.replicate_zero, List.push_toArray, List.append_toArray, List.nil_append, List.cons_append]
  obtain ⟨r, hr⟩ : ∃ r, check n d x true = r := ⟨_, rfl⟩
  have bS := ((Boxed.new w 3 (.int .i64 x)).alloc (.cells #[.slice none 0 0] 44)).alloc (.cells #[.int .i64 0] 26)
  have bR := (Boxed.new (w.alloc (.cells #[.int .i64 x] 3)) 44 (.slice none 0 0)).alloc (.cells #[.int .i64 0] 26)
  have bE := Boxed.new ((w.alloc (.cells #[.int .i64 x] 3)).alloc (.cells #[.slice none 0 0] 44)) 26 (.int .i64 0)
  simp only [World.size_alloc] at bR bE
  have hu0 : Upd Non w (((w.alloc (.cells #[.int .i64 x] 3)).alloc (.cells #[.slice none 0 0] 44)).alloc (.cells #[.int .i64 0] 26)) := (((Upd.refl _ _).alloc _).alloc _).alloc _
  have hz0 : (((w.alloc (.cells #[.int .i64 x] 3)).alloc (.cells #[.slice none 0 0] 44)).alloc (.cells #[.int .i64 0] 26)).heap.size = w.heap.size + 3 := by simp
  gi_wp2_with fail
  refine ⟨trivial, ?_⟩
  generalize ((w.alloc (.cells #[.int .i64 x] 3)).alloc (.cells #[.slice none 0 0] 44)).alloc (.cells #[.int .i64 0] 26) = W0 at bS bR bE hu0 hz0 ⊢
  refine (callsIn_wide.2 (check_spec (h.non hu0) hg x true)).mono ?_
  rintro e w1 ⟨rfl, n1, rfl⟩
  have bS1 : Boxed (W0.drewN n1) w.heap.size 3 (.int .i64 x) := bS
  have bR1 : Boxed (W0.drewN n1) (w.heap.size + 1) 44 (.slice none 0 0) := bR
  have bE1 : Boxed (W0.drewN n1) (w.heap.size + 1 + 1) 26 (.int .i64 0) := bE
  have hu1 : Upd Non w (W0.drewN n1) := hu0.drewN n1
  have hz1 : (W0.drewN n1).heap.size = w.heap.size + 3 := hz0
  clear bS bR bE hu0 hz0
  generalize W0.drewN n1 = W1 at bS1 bR1 bE1 hu1 hz1 ⊢
  have sc := bS1.cell
  have rc := bR1.cell
  have rf := bR1.frozen
  have ec := bE1.cell
  have ef := bE1.frozen
  rw [hr]
  by_cases h0 : r = 0
  · subst h0
    have hd1 := h.non hu1
    obtain ⟨Ak, ck, Ap, cp, c0, c1, c2, c3, c4, c5, c6⟩ := hd1.cells
    obtain ⟨hrp, hcp⟩ := hd1.reads c5
    obtain ⟨hFp, hFg, hpg, hFw, hgb, hpw⟩ := hd1.sep
    have hm := hg.many
    gi_wp2_with fail
    refine ⟨trivial, ?_⟩
    refine (back_in Fence.wide 8 trivial rfl _ _ _ _).mono ?_
    rintro e w2 ⟨rfl, rfl⟩
    gi_wp2_with fail
    have bB := Boxed.new W1 57 (.slice Ap d.pend.length cp)
    rw [hz1] at bB
    have hu2 : Upd Non W1 (W1.alloc (.cells #[.slice Ap d.pend.length cp] 57)) := (Upd.refl _ _).alloc _
    have hz2 : (W1.alloc (.cells #[.slice Ap d.pend.length cp] 57)).heap.size = W1.heap.size + 1 := by simp
    have bS2 := bS1.alloc (.cells #[.slice Ap d.pend.length cp] 57)
    have bR2 := bR1.alloc (.cells #[.slice Ap d.pend.length cp] 57)
    have bE2 := bE1.alloc (.cells #[.slice Ap d.pend.length cp] 57)
    have hrp2 := hrp.upd hu2 (Upd.fr_non hFw)
    have hF2 := hFw.upd hu2
    generalize W1.alloc (.cells #[.slice Ap d.pend.length cp] 57) = W2 at bB hu2 hz2 bS2 bR2 bE2 hrp2 hF2 ⊢
    obtain ⟨Ad, cd, hdv, hcs⟩ := pend_dv hrp2
    have s0 : w.heap.size < W2.heap.size := by omega
    have s1 : w.heap.size + 1 < W2.heap.size := by omega
    have s2 : w.heap.size + 1 + 1 < W2.heap.size := by omega
    obtain ⟨xs, hxs⟩ : ∃ xs : Nat → Int, xs = fun k => (d.pend[k]?.getD (0, [])).1 := ⟨_, rfl⟩
    obtain ⟨bs, hbs⟩ : ∃ bs : Nat → List UInt8, bs = fun k => (d.pend[k]?.getD (0, [])).2 := ⟨_, rfl⟩
    have hstops := back_stops Fence.wide 8 trivial rfl (by omega) (w.heap.size + 3) W2.heap.size (.slice Ap d.pend.length cp) d.pend (fun k => .slice (Ad k) (d.pend[k]?.getD (0, [])).2.length (cd k)) (fun _ => rfl) hm W2 (by omega) (Nat.le_refl _) bB.cell Ap cp rfl hcp (fun hp => by
      obtain ⟨b, o, e, hf, hc⟩ := hcs hp
      exact ⟨b, o, e, hF2 b hf, hc⟩)
    refine wpIn_rangeFunc_ownH (n := 9) rfl (by decide) (gf := 84) (lb := #[.pointer (some ⟨w.heap.size + 3, 0, none⟩)]) rfl trivial (enters_of Try.func84 (by kernel_rfl) rfl)
      hstops belowK_t (belowK_b (Nat.le_refl _)) (Below.refl _ _) (fun _ => rfl)
      (fun pre W => (∀ k ∈ pre, (d.pend[k]?.getD (0, [])).1 ≠ x) ∧ Below W2.heap.size W2 W)
      (fun cc pre W => (cc = .ret ∧ ∃ ini k, pre = ini ++ [k] ∧ (∀ j ∈ ini, (d.pend[j]?.getD (0, [])).1 ≠ x) ∧ (d.pend[k]?.getD (0, [])).1 = x ∧ ∃ v, W.cell? ⟨w.heap.size + 1, 0, none⟩ = some v ∧ W.cell? ⟨w.heap.size + 1 + 1, 0, none⟩ = some (.int .i64 0) ∧ Byt w.heap.size W v (d.pend[k]?.getD (0, [])).2) ∧ Below w.heap.size w W)
      ?hI ?hIx ⟨by simp, Below.refl _ _⟩
      (fun k a' W => ∃ Bx, W2.heap.size ≤ Bx ∧ W.cell? ⟨Bx, 0, none⟩ = some (.int .i64 (d.pend[k]?.getD (0, [])).1) ∧ W.cell? ⟨Bx, 1, none⟩ = some (.slice (Ad k) (d.pend[k]?.getD (0, [])).2.length (cd k)) ∧ a' = { tmps := #[.pointer (some ⟨p, 0, none⟩), .int .i64 x, undef, .pointer (some ⟨w.heap.size, 0, none⟩), .pointer (some ⟨w.heap.size + 1, 0, none⟩), .pointer (some ⟨w.heap.size + 1 + 1, 0, none⟩), .int .i64 0, undef, .pointer (some ⟨Bx, 0, none⟩), .pointer (some ⟨p, 0, none⟩), .int .i64 x, .int .i64 0, .int .i64 0, .bool false, undef, .pointer (some ⟨p, 0, none⟩), .pointer (some ⟨p, 0, none⟩), .pointer (some ⟨p, 5, none⟩), .slice Ap d.pend.length cp, .func (.func 84) #[] #[.pointer (some ⟨w.heap.size + 3, 0, none⟩)], .int .i64 k, .agg #[.int .i64 (d.pend[k]?.getD (0, [])).1, .slice (Ad k) (d.pend[k]?.getD (0, [])).2.length (cd k)], undef, undef, undef, undef, undef, undef, undef, undef, undef, undef, undef], defers := [] })
      ?hAx ?assign ?body ?done ?stop
    case hI => exact OwnFrom.and (ownFrom_pure _ _) (ownFrom_below (Nat.le_refl _) (Nat.le_refl _))
    case hIx => exact fun c => OwnFrom.and (fun s A B row hs hg hr => by obtain ⟨hc, ini, k, e1, e2, e3, v, e4, e5, e6⟩ := hs; exact ⟨hc, ini, k, e1, e2, e3, v, cell_kept e4 hg (fun r e => (hr r e).2), cell_kept e5 hg (fun r e => (hr r e).2), e6.kept hg (fun r e => (hr r e).2)⟩) (ownFrom_below (Nat.le_refl _) (by omega))
    case hAx => exact fun k a' s A B row hs hg hr => by obtain ⟨Bx, e1, e2, e3, e4⟩ := hs; exact ⟨Bx, e1, cell_kept e2 hg (fun r e => (hr r e).2), cell_kept e3 hg (fun r e => (hr r e).2), e4⟩
    case assign =>
      rintro l pre k W K hI hK
      dsimp only [encW]
      gi_wp2
      have hs := blk_at (heap_alloc_new W (.cells #[.int .i64 (d.pend[k]?.getD (0, [])).1, .slice (Ad k) (d.pend[k]?.getD (0, [])).2.length (cd k)] 111))
      exact hK _ _ ((KeepsOthers.alloc _ _).from _) ((Below.refl _ W).alloc hI.2.size _) ⟨hI.1, hI.2.alloc hI.2.size _⟩ ⟨W.heap.size, hI.2.size, hs 0, hs 1, rfl⟩
    case body =>
      rintro l pre k a' W hl hrec ⟨hno, hB⟩ ⟨Bx, hBx, x0, x1, rfl⟩ hlen
      have bSW : Boxed W w.heap.size 3 (.int .i64 x) := (hB.block _ s0).trans bS2
      have bRW : Boxed W (w.heap.size + 1) 44 (.slice none 0 0) := (hB.block _ s1).trans bR2
      have bEW : Boxed W (w.heap.size + 1 + 1) 26 (.int .i64 0) := (hB.block _ s2).trans bE2
      have sc2 := bSW.cell
      have rc2 := bRW.cell
      have rf2 := bRW.frozen
      have ec2 := bEW.cell
      have ef2 := bEW.frozen
      by_cases hx : (d.pend[k]?.getD (0, [])).1 = x
      · have hdk := (hdv k).1.keep fun q hq => hB.block q (hF2 q hq)
        have hFk : Fin W F := fun q hq => Nat.lt_of_lt_of_le (hF2 q hq) hB.size
        have hdl := (hdv k).2
        have hBw : Below w.heap.size w W := (hu1.trans hu2).below.trans (hB.mono (Nat.le_of_lt s0))
        obtain ⟨bk, hbk⟩ : ∃ bk, (d.pend[k]?.getD (0, [])).2 = bk := ⟨_, rfl⟩
        rw [hbk] at hdk hdl x1
        have HBK := Lib.hid hbk
        obtain ⟨xk, hxk⟩ : ∃ xk, (d.pend[k]?.getD (0, [])).1 = xk := ⟨_, rfl⟩
        rw [hxk] at x0 hx
        have HXK := Lib.hid hxk
        rw [hbk, hxk]
        clear hbk hxk
        gi_wp2_with fail
        refine ⟨trivial, ?_⟩
        refine (CallsIn.inRound l (callsIn_wide.2 (clone_bytesF W F _ bk hdk hFk hdl))).mono ?_
        rintro e w4 ⟨v4, rfl, hu4, hr4, hz4⟩
        obtain ⟨A4, c4, rfl, _⟩ := hr4.shape
        have bR4 : Boxed w4 (w.heap.size + 1) 44 (.slice none 0 0) := (hu4.block _ bRW.lt id).trans bRW
        have bE4 : Boxed w4 (w.heap.size + 1 + 1) 26 (.int .i64 0) := (hu4.block _ bEW.lt id).trans bEW
        have rc4 := bR4.cell
        have rf4 := bR4.frozen
        have ec4 := bE4.cell
        have ef4 := bE4.frozen
        have hlR := bRW.lt
        have hlE := bEW.lt
        gi_wp2_with fail
        refine ⟨(hu4.keepsFrom.trans ((KeepsOthers.setCell _ _ _).from _)).trans ((KeepsOthers.setCell _ _ _).from _), ⟨rfl, pre, k, rfl, hno, HXK.out.trans hx, .slice A4 bk.length c4, ((bR4.set _).other (by omega) _).cell, ((bE4.other (by omega) _).set _).cell, ?_⟩, ((hBw.trans (hu4.below.mono (by have := hB.size; omega))).setCell (p := ⟨w.heap.size + 1, 0, none⟩) (by show w.heap.size ≤ w.heap.size + 1; omega) _).setCell (p := ⟨w.heap.size + 1 + 1, 0, none⟩) (by show w.heap.size ≤ w.heap.size + 1 + 1; omega) _⟩
        rw [HBK.out]
        exact ((Byt.of hr4 (fun q hq => hq.1) hz4).upd (S := fun q => q = w.heap.size + 1 ∨ q = w.heap.size + 1 + 1) (Upd.set (Upd.set (Upd.refl _ _) (p := ⟨w.heap.size + 1, 0, none⟩) (.inr (.inl rfl)) _) (p := ⟨w.heap.size + 1 + 1, 0, none⟩) (.inr (.inr rfl)) _) (fun q hq _ h => by omega)).mono (by omega)
      · gi_wp2_with fail
        exact ⟨KeepsFrom.refl _ _, Below.refl _ _, fun j hj => (List.mem_append.1 hj).elim (hno j) (fun e => by rw [List.mem_singleton.1 e]; exact hx), hB⟩
    case done =>
      rintro D ys W hD rfl ⟨hno, hB⟩ hK
      have bSW : Boxed W w.heap.size 3 (.int .i64 x) := (hB.block _ s0).trans bS2
      have bRW : Boxed W (w.heap.size + 1) 44 (.slice none 0 0) := (hB.block _ s1).trans bR2
      have bEW : Boxed W (w.heap.size + 1 + 1) 26 (.int .i64 0) := (hB.block _ s2).trans bE2
      have sc2 := bSW.cell
      have hnone : lastW x d.pend = none := lastW_none x d.pend fun k hk => by
        have := hno k (mem_upto.2 ⟨d.pend.length - 1 - k, by omega, by omega⟩)
        rwa [List.getElem?_eq_getElem hk, Option.getD_some] at this
      obtain ⟨hoff, hx0, hx1, _⟩ := check_ok hr
      obtain ⟨xk, rfl⟩ : ∃ xk : Nat, x = xk := ⟨x.toNat, by omega⟩
      have hread : readD n d xk = (0, (d.kept.drop (xk * d.size)).take d.size) := by rw [readD, if_pos hr, hnone]; rfl
      obtain ⟨sb, hsb⟩ : ∃ sb, (d.kept.drop (xk * d.size)).take d.size = sb := ⟨_, rfl⟩
      rw [hsb] at hread
      have HSB := Lib.hid hsb
      have HR := Lib.hid hread
      have hsbl : sb.length ≤ 1024 := by rw [← hsb, List.length_take]; have := hg.s2; omega
      clear hread hnone hr hsb
      have hdW : DiskAt W F p g d := (hd1.non hu2).below hB (Nat.le_refl _)
      have hxn : xk < n := by omega
      have hszk := hg.s2
      gi_wp2_with fail
      refine ⟨trivial, ?_⟩
      refine (callsIn_wide.2 (place_spec hdW hg xk hxn)).mono ?_
      rintro e w4 ⟨rfl, n4, rfl⟩
      have hdW4 := hdW.non ((Upd.refl Non _).drewN n4)
      have hsec := sector_at hdW4 hg xk hxn
      rw [HSB.out] at hsec
      have hg4 : g < (W.drewN n4).heap.size := blk_lt hdW4.sep.2.2.2.2.1
      gi_wp2_with fail
      refine ⟨trivial, ?_⟩
      refine (callsIn_wide.2 (clone_bytesF (W.drewN n4) (fun q => q = g) _ _ hsec (fun q hq => by have hq : q = g := hq; omega) (by omega))).mono ?_
      rintro e w5 ⟨v5, rfl, hu5, hr5, hz5⟩
      have hlR := bRW.lt
      have hlE := bEW.lt
      have bR5 : Boxed w5 (w.heap.size + 1) 44 (.slice none 0 0) := (hu5.block _ hlR id).trans bRW
      have bE5 : Boxed w5 (w.heap.size + 1 + 1) 26 (.int .i64 0) := (hu5.block _ hlE id).trans bEW
      obtain ⟨A5, c5', rfl, _⟩ := hr5.shape
      have rc5 := bR5.cell
      have rf5 := bR5.frozen
      have ec5 := bE5.cell
      have ef5 := bE5.frozen
      have hK5 : w5.heap[D]? = some (.deferred (some [])) := (hu5.block _ (blk_lt hK) id).trans hK
      have hBw : Below w.heap.size w w5 := ((hu1.trans hu2).below.trans (hB.mono (Nat.le_of_lt s0))).trans ((Upd.below (((Upd.refl Non W).drewN n4).trans hu5)).mono (by have := hB.size; omega))
      have hby : Byt (W.drewN n4).heap.size w5 _ _ := Byt.of hr5 (fun q hq => hq.1) hz5
      gi_wp2_with fail
      have hK6 := (KeepsOthers.setCell w5 ⟨w.heap.size + 1, 0, none⟩ (.slice A5 sb.length c5')).same D _ hK5 rfl
      have hK7 := (KeepsOthers.setCell (w5.setCell ⟨w.heap.size + 1, 0, none⟩ (.slice A5 sb.length c5')) ⟨w.heap.size + 1 + 1, 0, none⟩ (.int .i64 0)).same D _ hK6 rfl
      refine ⟨by simp, .inl ⟨_, _, rfl, run_takeDeferred hK7, ?_⟩⟩
      have hrow : ∀ r, some D = some r → ∃ o : Obj, ((w5.setCell ⟨w.heap.size + 1, 0, none⟩ (.slice A5 sb.length c5')).setCell ⟨w.heap.size + 1 + 1, 0, none⟩ (.int .i64 0)).heap[r]? = some o ∧ o.isCells = false := fun r e => by cases e; exact ⟨_, hK7, rfl⟩
      have hc4 := cell_kept ((bR5.set (.slice A5 sb.length c5')).other (B' := w.heap.size + 1 + 1) (by omega) (.int .i64 0)).cell (grownBy_putObj' _ D (.deferred none)) hrow
      have hc5 := cell_kept ((bE5.other (B' := w.heap.size + 1) (by omega) (.slice A5 sb.length c5')).set (.int .i64 0)).cell (grownBy_putObj' _ D (.deferred none)) hrow
      have hby7 := ((hby.upd (S := fun q => q = w.heap.size + 1 ∨ q = w.heap.size + 1 + 1) (Upd.set (Upd.set (Upd.refl _ _) (p := ⟨w.heap.size + 1, 0, none⟩) (.inr (.inl rfl)) (.slice A5 sb.length c5')) (p := ⟨w.heap.size + 1 + 1, 0, none⟩) (.inr (.inr rfl)) (.int .i64 0)) (fun q hq _ h => by have : (W.drewN n4).heap.size = W.heap.size := rfl; omega)).mono (show w.heap.size ≤ _ by have : (W.drewN n4).heap.size = W.heap.size := rfl; omega)).kept (grownBy_putObj' _ D (.deferred none)) hrow
      have hB7 := (hBw.setCell (p := ⟨w.heap.size + 1, 0, none⟩) (by show w.heap.size ≤ w.heap.size + 1; omega) (.slice A5 sb.length c5')).setCell (p := ⟨w.heap.size + 1 + 1, 0, none⟩) (by show w.heap.size ≤ w.heap.size + 1 + 1; omega) (.int .i64 0)
      refine ⟨.tuple #[.slice A5 sb.length c5', .int .i64 0], ?_, Upd.of_below (hB7.trans (belowK_b (w := w) (Nat.le_refl _) _ D _ _ (by omega) hK7 rfl rfl)), .slice A5 sb.length c5', by rw [HR.out], ?_⟩
      · simp [results, Try.f31, go_sem, hc4, hc5]
      · rw [HR.out]; exact ⟨hby7.rd, hby7.fzn⟩
    case stop =>
      rintro D cc pre W hD ⟨m, hm, hpre⟩ ⟨⟨rfl, ini, k, e1, e2, e3, v, e4, e5, e6⟩, hB⟩ hK
      obtain ⟨m', rfl⟩ : ∃ m', m = m' + 1 := by
        cases m with
        | zero => simp [upto] at hpre; rw [hpre] at e1; simp at e1
        | succ m' => exact ⟨m', rfl⟩
      rw [hpre, upto_succ] at e1
      obtain ⟨rfl, e5'⟩ := List.append_inj' e1 rfl
      obtain rfl : d.pend.length - 1 - m' = k := by simpa using e5'
      have hkl : d.pend.length - 1 - m' < d.pend.length := by omega
      have hsome : lastW x d.pend = some d.pend[d.pend.length - 1 - m'].2 := lastW_some x d.pend _ hkl (by rwa [List.getElem?_eq_getElem hkl, Option.getD_some] at e3) fun j hj hjk => by
        have := e2 j (mem_upto.2 ⟨d.pend.length - 1 - j, by omega, by omega⟩)
        rwa [List.getElem?_eq_getElem hj, Option.getD_some] at this
      have hread : readD n d x = (0, (d.pend[d.pend.length - 1 - m']?.getD (0, [])).2) := by rw [readD, if_pos hr, hsome, List.getElem?_eq_getElem hkl]; rfl
      have HR := Lib.hid hread
      clear hread hsome
      gi_wp2_with fail
      refine ⟨by simp, .inl ⟨_, _, rfl, run_takeDeferred hK, ?_⟩⟩
      have hrow : ∀ r, some D = some r → ∃ o : Obj, W.heap[r]? = some o ∧ o.isCells = false := fun r e => by cases e; exact ⟨_, hK, rfl⟩
      have hc4 := cell_kept e4 (grownBy_putObj' W D (.deferred none)) hrow
      have hc5 := cell_kept e5 (grownBy_putObj' W D (.deferred none)) hrow
      have hby := e6.kept (grownBy_putObj' W D (.deferred none)) hrow
      refine ⟨.tuple #[v, .int .i64 0], ?_, Upd.of_below (hB.trans (belowK_b (w := w) (Nat.le_refl _) W D _ _ (by omega) hK rfl rfl)), v, by rw [HR.out], ?_⟩
      · simp [results, Try.f31, go_sem, hc4, hc5]
      · rw [HR.out]; exact ⟨hby.rd, hby.fzn⟩
  · gi_wp2
    have q4 := ((bR1.set (.slice none 0 0)).other (B' := w.heap.size + 1 + 1) (by omega) (.int .i64 r)).cell
    have q5 := ((bE1.other (B' := w.heap.size + 1) (by omega) (.slice none 0 0)).set (.int .i64 r)).cell
    refine ⟨.tuple #[.slice none 0 0, .int .i64 r], ?_, (hu1.set (p := ⟨w.heap.size + 1, 0, none⟩) (.inl (by show w.heap.size ≤ w.heap.size + 1; omega)) _).set (p := ⟨w.heap.size + 1 + 1, 0, none⟩) (.inl (by show w.heap.size ≤ w.heap.size + 1 + 1; omega)) _, .slice none 0 0, ?_, ?_⟩
    · simp [results, Try.f31, go_sem, q4, q5]
    · rw [readD, hr, if_neg h0]
    · rw [readD, hr, if_neg h0]; exact ⟨Rd.nil _ _ _, fun b o n c e => by cases e⟩

theorem read_spec {w : World} {F : Nat → Prop} {p g n : Nat} {d : Dk} (h : DiskAt w F p g d) (hg : Good n d) (x : Int) :
    Calls Try.prog 31 #[.pointer (some ⟨p, 0, none⟩), .int .i64 x] w (ReadPost w n d x) :=
  (read_specF h hg x).mono fun _ _ ⟨hu, v, e, hr, _⟩ => ⟨hu, v, e, hr⟩
theorem bytes_specF {w : World} {F : Nat → Prop} {p g n : Nat} {d : Dk} (h : DiskAt w F p g d) (hg : Good n d) : Calls Try.prog 37 #[.pointer (some ⟨p, 0, none⟩)] w fun e w' => ∃ v', e = .returned v' ∧ Upd Non w w' ∧ Rd byteE w' (New w w') v' d.kept ∧ Fzn w' v' := by
  obtain ⟨Ak, ck, Ap, cp, c0, c1, c2, c3, c4, c5, c6⟩ := h.cells
  have hgw : g < w.heap.size := blk_lt h.sep.2.2.2.2.1
  have hsm := hg.small
  go_enter Try.func37, Try.ntmps37
  go_wp2_with fail
  refine (clone_bytesF w _ _ _ (bytes_at h hg) (fun q hq => by have hq : q = g := hq; omega) (by omega)).mono ?_
  rintro e w1 ⟨v1, rfl, hu1, hr1, hz1⟩
  go_wp2
  go_ret
  exact ⟨_, rfl, hu1, hr1, hz1⟩
end Go.Proofs.Ytniccejlmbfpdaa
