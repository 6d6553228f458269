/-
  Acts upon a disk; the walks of the law package few and data.
-/
import Derived.Test.YtniccejlmbfpdaaD8
import Derived.Test.YtniccejlmbfpdaaLaw
import Derived.Deep.DeepCutAuto
namespace Go.Proofs.Ytniccejlmbfpdaa
open Go.RowKit
attribute [local go_sem] max2_int min2_int max_two min_two

/-- an act upon a disk -/
structure DAct where
  op : Int
  sector : Int
  fill : UInt8
  bytes : List UInt8
  n : Int
  keep : List Bool
def dactE : Elt DAct where
  sz := 6
  ok := fun w F x l => ∃ bv' kv, l = [.int .i64 x.op, .int .i64 x.sector, .int .u8 (x.fill.toNat : Int), bv', .int .i64 x.n, kv] ∧ Rd byteE w F bv' x.bytes ∧ Rd boolE w F kv x.keep ∧ x.bytes.length ≤ 140737488351232 ∧ x.keep.length ≤ 140737488351232 ∧
    (-9223372036854775808 ≤ x.n ∧ x.n ≤ 9223372036854775807)
  len := fun h => by obtain ⟨bv', kv, rfl, _⟩ := h; rfl
  one := fun h u hu => by
    obtain ⟨bv', kv, rfl, ⟨A, c, cs, rfl, _⟩, ⟨A2, c2, cs2, rfl, _⟩, _⟩ := h
    simp at hu
    rcases hu with rfl | rfl | rfl | rfl | rfl | rfl <;> rfl
  keep := fun hk h => by
    obtain ⟨bv', kv, e, h1, h2, h3⟩ := h
    exact ⟨bv', kv, e, h1.keep hk, h2.keep hk, h3⟩
  mono := fun hk h => by
    obtain ⟨bv', kv, e, h1, h2, h3⟩ := h
    exact ⟨bv', kv, e, h1.mono hk, h2.mono hk, h3⟩
theorem Rd.dact {w : World} {F : Nat → Prop} {v : Value} {xs : List DAct} (h : Rd dactE w F v xs) {k : Nat} (hk : k < xs.length) : ∃ b o c A1 c1 A2 c2, v = .slice (some ⟨b, o, none⟩) xs.length c ∧ xs.length ≤ c ∧ F b ∧
    Rd byteE w F (.slice A1 xs[k].bytes.length c1) xs[k].bytes ∧ Rd boolE w F (.slice A2 xs[k].keep.length c2) xs[k].keep ∧ xs[k].bytes.length ≤ 140737488351232 ∧ xs[k].keep.length ≤ 140737488351232 ∧ (-9223372036854775808 ≤ xs[k].n ∧ xs[k].n ≤ 9223372036854775807) ∧
    w.cell? ⟨b, o + k * 6, none⟩ = some (.int .i64 xs[k].op) ∧ w.cell? ⟨b, o + k * 6 + 1, none⟩ = some (.int .i64 xs[k].sector) ∧ w.cell? ⟨b, o + k * 6 + 2, none⟩ = some (.int .u8 (xs[k].fill.toNat : Int)) ∧
    w.cell? ⟨b, o + k * 6 + 3, none⟩ = some (.slice A1 xs[k].bytes.length c1) ∧ w.cell? ⟨b, o + k * 6 + 4, none⟩ = some (.int .i64 xs[k].n) ∧ w.cell? ⟨b, o + k * 6 + 5, none⟩ = some (.slice A2 xs[k].keep.length c2) := by
  obtain ⟨b, o, c, l, hv, hc, hf, ⟨bv', kv, rfl, h1, h2, h3, h4, h5⟩, hg⟩ := h.get hk (by decide)
  obtain ⟨A1, c1, rfl, _⟩ := h1.shape
  obtain ⟨A2, c2, rfl, _⟩ := h2.shape
  refine ⟨b, o, c, A1, c1, A2, c2, hv, hc, hf, h1, h2, h3, h4, h5, ?_, ?_, ?_, ?_, ?_, ?_⟩
  · simpa [dactE] using hg 0 (by decide)
  · simpa [dactE, Nat.add_assoc] using hg 1 (by decide)
  · simpa [dactE, Nat.add_assoc] using hg 2 (by decide)
  · simpa [dactE, Nat.add_assoc] using hg 3 (by decide)
  · simpa [dactE, Nat.add_assoc] using hg 4 (by decide)
  · simpa [dactE, Nat.add_assoc] using hg 5 (by decide)

def dtot : List DAct → Nat
  | [] => 0
  | a :: r => a.bytes.length + a.keep.length + dtot r
theorem dtot_append (a b : List DAct) : dtot (a ++ b) = dtot a + dtot b := by
  induction a with
  | nil => simp [dtot]
  | cons x xs ih => simp [dtot, ih]; omega
theorem dtot_take (l : List DAct) (k : Nat) (h : k < l.length) : dtot (l.take (k + 1)) = dtot (l.take k) + (l[k].bytes.length + l[k].keep.length) := by
  rw [take_snoc l k h, dtot_append]; simp [dtot]
theorem dtot_le (l : List DAct) (N : Nat) (h : ∀ a ∈ l, a.bytes.length ≤ N ∧ a.keep.length ≤ N) : dtot l ≤ l.length * (2 * N) := by
  induction l with
  | nil => simp [dtot]
  | cons x xs ih =>
    have := ih fun a ha => h a (by simp [ha])
    have := h x (by simp)
    simp only [dtot, List.length_cons, Nat.add_mul, Nat.one_mul]
    omega

def FewPost (w : World) (l : List DAct) (e : Ending) (w' : World) : Prop :=
  Upd Non w w' ∧ ∃ r, e = .returned (.bool r) ∧ (r = true → l.length ≤ 200 ∧ dtot l ≤ 32768)
set_option maxRecDepth 100000 in
set_option maxHeartbeats 1000000 in
theorem dfew_spec (w : World) (F : Nat → Prop) (v : Value) (l : List DAct) (h : Rd dactE w F v l) (hF : Fin w F) (hl : l.length ≤ 4398046511104) : Calls Try.prog 40 #[v] w (FewPost w l) := by
  obtain ⟨A, c, rfl, hc, _⟩ := h.shape
  have hall : ∀ k (hk : k < l.length), l[k].bytes.length ≤ 140737488351232 ∧ l[k].keep.length ≤ 140737488351232 := fun k hk => by
    obtain ⟨_, _, _, _, _, _, _, _, _, _, _, _, h1, h2, _⟩ := h.dact hk
    exact ⟨h1, h2⟩
  go_enter Try.func40, Try.ntmps40
  go_wp2
  go_loopw [3, 4] (fun s i wr => ∃ (k : Nat) (u : Int), k ≤ l.length ∧ i = .int .i64 k ∧ s = .int .i64 u ∧ Hid (l.length ≤ 200 → u = dtot (l.take k)) ∧ Upd Non w wr) (fun _ i _ => l.length - (intOf i).toNat)
  case atStart => exact ⟨0, 0, Nat.zero_le _, rfl, rfl, Lib.hid (fun _ => by simp [dtot]), Upd.refl _ _⟩
  case round =>
    obtain ⟨k, u, hk, rfl, rfl, hu, hup⟩ := hrel
    by_cases hlt : k < l.length
    · obtain ⟨b, o, c', A1, c1, A2, c2, e1, _, hf, hr1, hr2, hb1, hb2, _, m0, m1, m2, m3, m4, m5⟩ := (h.upd hup (Upd.fr_non hF)).dact hlt
      cases e1
      obtain ⟨y, hy⟩ : ∃ y : Int, wrap64 (wrap64 (u + (l[k].bytes.length : Int)) + (l[k].keep.length : Int)) = y := ⟨_, rfl⟩
      have hstep : l.length ≤ 200 → y = dtot (l.take (k + 1)) := fun h200 => by
        have hd := dtot_le (l.take k) 140737488351232 fun a ha => by
          obtain ⟨j, hj, rfl⟩ := List.getElem_of_mem ha
          rw [List.getElem_take]
          exact hall j (by simp at hj; omega)
        have hu' := hu.out h200
        have hlk : (l.take k).length ≤ 200 := by simp; omega
        have hm := Nat.mul_le_mul_right (2 * 140737488351232) hlk
        rw [← hy, dtot_take l k hlt, IntWalk.wrap64_in (u + (l[k].bytes.length : Int)) (by omega), IntWalk.wrap64_in _ (by omega)]
        omega
      have HS := Lib.hid hstep
      clear hstep
      have HY := Lib.hid hy
      go_wp2
      go_quiet (fail)
      go_wp2
      go_roundw
      case rel => exact ⟨k + 1, y, by omega, by go_num, by rw [← HY.out], HS, hup.drewN _⟩
      case measure => simp [intOf]; omega
    · obtain ⟨r, hr⟩ : ∃ r, (decide (l.length ≤ 200) && decide (u ≤ 32768)) = r := ⟨_, rfl⟩
      have hfin : r = true → l.length ≤ 200 ∧ dtot l ≤ 32768 := fun h => by
        rw [← hr, Bool.and_eq_true, decide_eq_true_eq, decide_eq_true_eq] at h
        have := hu.out h.1
        rw [List.take_of_length_le (by omega)] at this
        exact ⟨h.1, by omega⟩
      by_cases h1 : l.length ≤ 200
      · by_cases h2 : u ≤ 32768
        · go_wp2
          go_ret
          exact ⟨hup, true, rfl, fun _ => hfin (by rw [← hr]; simp [h1, h2])⟩
        · go_wp2
          go_ret
          exact ⟨hup, false, rfl, fun h => by cases h⟩
      · go_wp2
        go_ret
        exact ⟨hup, false, rfl, fun h => by cases h⟩

/-- what an act writes, the i-th byte -/
def fillB (a : DAct) (i : Nat) : UInt8 := a.fill + UInt8.ofNat i
def dataL (a : DAct) (s : Nat) : List UInt8 := if 0 < a.bytes.length then a.bytes else (List.range s).map (fillB a)
theorem fillB_num (a : DAct) (i : Nat) : ((a.fill.toNat : Int) + (i : Int) % 256) % 256 = ((fillB a i).toNat : Int) := by
  simp [fillB, UInt8.toNat_add, UInt8.toNat_ofNat']
def DataPost (w : World) (F : Nat → Prop) (a : DAct) (s : Nat) (e : Ending) (w' : World) : Prop :=
  Upd Non w w' ∧ ∃ v, e = .returned v ∧ Rd byteE w' (fun q => F q ∨ New w w' q) v (dataL a s)
set_option maxRecDepth 100000 in
set_option maxHeartbeats 1000000 in
theorem data_spec (w : World) (F : Nat → Prop) (a : DAct) (A1 A2 : Option Addr) (c1 c2 s : Nat) (h1 : Rd byteE w F (.slice A1 a.bytes.length c1) a.bytes) (hF : Fin w F) (hs : s ≤ 1024) :
    Calls Try.prog 41 #[.agg #[.int .i64 a.op, .int .i64 a.sector, .int .u8 (a.fill.toNat : Int), .slice A1 a.bytes.length c1, .int .i64 a.n, .slice A2 a.keep.length c2], .int .i64 s] w (DataPost w F a s) := by
  obtain ⟨hbu, hbs, hbb⟩ := box_facts w #[.int .i64 a.op, .int .i64 a.sector, .int .u8 (a.fill.toNat : Int), .slice A1 a.bytes.length c1, .int .i64 a.n, .slice A2 a.keep.length c2] 74
  have b2 := blk_at hbb 2
  have b3 := blk_at hbb 3
  have hr1 := h1.upd hbu (Upd.fr_non hF)
  by_cases hp : 0 < a.bytes.length
  · have hd : dataL a s = a.bytes := by rw [dataL, if_pos hp]
    have HD := Lib.hid hd
    clear hd
    go_enter Try.func41, Try.ntmps41
    go_wp2
    go_ret
    exact ⟨hbu, _, rfl, by rw [HD.out]; exact hr1.mono fun q hq => .inl hq⟩
  · have hd : dataL a s = (List.range s).map (fillB a) := by rw [dataL, if_neg hp]
    have HD := Lib.hid hd
    clear hd
    have hmk := fun w => make_bytes w s (by omega)
    obtain ⟨z, hz⟩ : ∃ z, z = List.replicate s (0 : UInt8) := ⟨_, rfl⟩
    have hzl : z.length = s := by rw [hz]; simp
    rw [← hz] at hmk
    clear hz
    go_enter Try.func41, Try.ntmps41
    go_wp2_with fail
    generalize w.alloc (.cells #[.int .i64 a.op, .int .i64 a.sector, .int .u8 (a.fill.toNat : Int), .slice A1 a.bytes.length c1, .int .i64 a.n, .slice A2 a.keep.length c2] 74) = W at hbu hbs hbb b2 b3 ⊢
    have hb2 := blk_free hbb 2
    have hu0 : Upd Non w (W.alloc (.cells (z.map bv).toArray 5)) := hbu.alloc _
    have hq0 := heap_alloc_new W (.cells (z.map bv).toArray 5)
    have hbb0 := (Below.heap_alloc W (.cells (z.map bv).toArray 5) w.heap.size (blk_lt hbb)).trans hbb
    have hzz : (W.alloc (.cells (z.map bv).toArray 5)).heap.size = W.heap.size + 1 := by simp
    generalize W.alloc (.cells (z.map bv).toArray 5) = W1 at hu0 hq0 hbb0 hzz ⊢
    have hsW : W.heap.size = w.heap.size + 1 := hbs
    rw [hsW] at hq0 hzz
    go_loopw [6] (fun i wr => ∃ (k : Nat) (r : List UInt8), k ≤ s ∧ i = .int .i64 k ∧ r.length = s ∧ Hid (∀ j, j < k → r[j]? = some (fillB a j)) ∧ Upd (fun q => q = w.heap.size + 1) W1 wr ∧ wr.heap[w.heap.size + 1]? = some (.cells (r.map bv).toArray 5 (0, 0))) (fun i _ => s - (intOf i).toNat)
    case atStart => exact ⟨0, z, Nat.zero_le _, rfl, hzl, Lib.hid (fun j hj => by omega), Upd.refl _ _, hq0⟩
    case round =>
      obtain ⟨k, r, hk, rfl, hrl, hr, hup, hq⟩ := hrel
      have x2 : wr.cell? ⟨w.heap.size, 2, none⟩ = some (.int .u8 (a.fill.toNat : Int)) := blk_at ((hup.block _ (blk_lt hbb0) (by show w.heap.size ≠ w.heap.size + 1; omega)).trans hbb0) 2
      by_cases hlt : k < s
      · have xk : wr.cell? ⟨w.heap.size + 1, k, none⟩ = some (.int .u8 ((r[k]'(by omega)).toNat : Int)) := row_cell hq (by omega)
        have xf : wr.frozen? ⟨w.heap.size + 1, k, none⟩ = false := blk_free hq k
        have hfn := fillB_num a k
        have hst := row_set (i := k) hq (fillB a k)
        go_wp2_with fail
        go_wp2
        go_roundw
        case rel => exact ⟨k + 1, r.set k (fillB a k), by omega, by go_num, by simpa using hrl, Lib.hid (fun j hj => by
          rw [List.getElem?_set]
          by_cases hjk : k = j
          · rw [if_pos hjk, if_pos (by omega), hjk]
          · rw [if_neg hjk]; exact hr.out j (by omega)), hup.set (.inr (by rfl)) _, hst⟩
        case measure => simp [intOf]; omega
      · have hrr : r = (List.range s).map (fillB a) := by
          apply List.ext_getElem?
          intro j
          by_cases hj : j < s
          · rw [hr.out j (by omega)]; simp [hj]
          · rw [List.getElem?_eq_none (by omega), List.getElem?_eq_none (by simp; omega)]
        have HR := Lib.hid hrr
        clear hrr
        go_wp2
        go_ret
        have hrd := rd_row hq (by rw [hrl, maxLen_eq]; omega)
        rw [hrl] at hrd
        refine ⟨hu0.trans' hup (fun x hx e => by have e : x = w.heap.size + 1 := e; omega), _, rfl, ?_⟩
        rw [HD.out, ← HR.out]
        exact hrd.mono fun q hq => .inr (by have hq : q = w.heap.size + 1 := hq; have := hup.size; exact ⟨by omega, by omega⟩)

theorem opens_dact : Opens Try.prog 74 dactE := by
  intro H enc w base spare held fuel cs x h hw
  obtain ⟨hl, hf⟩ := open_fields Try.underlying74 (by kernel_rfl) (by kernel_rfl) h hw
  obtain ⟨v0, y0, n0, c0, t0, w0⟩ := hf 0 _ rfl
  obtain ⟨v1, y1, n1, c1, t1, w1⟩ := hf 1 _ rfl
  obtain ⟨v2, y2, n2, c2, t2, w2⟩ := hf 2 _ rfl
  obtain ⟨v3, y3, n3, c3, t3, w3⟩ := hf 3 _ rfl
  obtain ⟨v4, y4, n4, c4, t4, w4⟩ := hf 4 _ rfl
  obtain ⟨v5, y5, n5, c5, t5, w5⟩ := hf 5 _ rfl
  obtain ⟨i0, e0, _⟩ := DataW.trod_int Try.underlying3 t0
  obtain ⟨i1, e1, _⟩ := DataW.trod_int Try.underlying3 t1
  obtain ⟨i2, e2, _, hw2⟩ := DataW.trod_int Try.underlying5 t2
  obtain ⟨v3', xs, e3, hr3, hb3⟩ := open_slice_of (opens_byte Try.underlying5) Try.underlying44 (by kernel_rfl) t3 w3
  obtain ⟨i4, e4, _, hw4⟩ := DataW.trod_int Try.underlying3 t4
  obtain ⟨v5', ys, e5, hr5, hb5⟩ := open_slice_of (opens_bool Try.underlying4) Try.underlying49 (by kernel_rfl) t5 w5
  simp at e0 e1 e2 e3 e4 e5
  subst e0 e1 e2 e3 e4 e5
  have hcs : cs = [.int .i64 i0, .int .i64 i1, .int .u8 i2, v3, .int .i64 i4, v5] := by
    match cs, hl with
    | [a, b, c, d, e, f], _ => simp at c0 c1 c2 c3 c4 c5; subst c0 c1 c2 c3 c4 c5; rfl
  have h5 : Try.prog.bytesOf 5 = 1 := by kernel_rfl
  have h4 : Try.prog.bytesOf 4 = 1 := by kernel_rfl
  rw [h5] at hb3
  rw [h4] at hb5
  simp only [reachBytes] at hb3 hb5
  have hb2 : 0 ≤ i2 ∧ i2 ≤ 255 := bounds_u8 hw2
  have hb4 := bounds_i64 hw4
  refine ⟨⟨i0, i1, UInt8.ofNat i2.toNat, xs, i4, ys⟩, v3, v5, ?_, hr3, hr5, ?_, ?_, ?_⟩
  · rw [hcs]
    have : ((UInt8.ofNat i2.toNat).toNat : Int) = i2 := by simp [UInt8.toNat_ofNat']; omega
    rw [this]
  · show xs.length ≤ _; omega
  · show ys.length ≤ _; omega
  · show _ ≤ i4 ∧ i4 ≤ _; omega
end Go.Proofs.Ytniccejlmbfpdaa
