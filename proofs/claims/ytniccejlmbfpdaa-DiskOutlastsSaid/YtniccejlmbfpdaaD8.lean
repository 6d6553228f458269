/-
  A disk of the call itself; the walk of the law package known.
-/
import Derived.Test.YtniccejlmbfpdaaD7
namespace Go.Proofs.Ytniccejlmbfpdaa
open Go.RowKit
attribute [local go_sem] max2_int min2_int max_two min_two

/-- A disk that has come into being since w. -/
def Mine (w W : World) (F : Nat → Prop) (p g n : Nat) (d : Dk) : Prop :=
  (DiskAt W F p g d ∧ ∀ q, F q → w.heap.size ≤ q) ∧ Good n d ∧ w.heap.size ≤ p ∧ w.heap.size ≤ g ∧ Upd Non w W
section
variable {w W : World} {F : Nat → Prop} {p g n : Nat} {d : Dk}
theorem Mine.non {W' : World} (h : Mine w W F p g n d) (hu : Upd Non W W') : Mine w W' F p g n d := by
  obtain ⟨⟨hd, hF⟩, hg, hp, hgg, huw⟩ := h
  exact ⟨⟨hd.non hu, hF⟩, hg, hp, hgg, huw.trans hu⟩
theorem Mine.lt (h : Mine w W F p g n d) : p < W.heap.size ∧ g < W.heap.size ∧ p ≠ g := by
  obtain ⟨⟨hd, hF⟩, _⟩ := h
  exact ⟨hd.sep.2.2.2.2.2, blk_lt hd.sep.2.2.2.2.1, hd.sep.2.2.1⟩
theorem newOf (w W : World) (hu : Upd Non w W) (n s : Nat) (h1 : 1 ≤ n) (h2 : n ≤ 16384) (h3 : 64 ≤ s) (h4 : s ≤ 1024) :
    Calls Try.prog 27 #[.int .i64 n, .int .i64 s] W fun e W' => ∃ p g : Nat, e = .returned (.tuple #[.pointer (some ⟨p, 0, none⟩), .int .i64 0]) ∧ Upd Non W W' ∧ Mine w W' Non p g n (newD n s) := by
  refine (newd_spec W n s).mono ?_
  rintro e W' ⟨hu', ⟨hno, _⟩ | ⟨_, n', s', p, g, e1, e2, rfl, hd, hg, hp, hgg⟩⟩
  · exact absurd ⟨by omega, by omega, by omega, by omega⟩ hno
  · obtain rfl : n' = n := by omega
    obtain rfl : s' = s := by omega
    exact ⟨p, g, rfl, hu', ⟨hd, fun _ h => h.elim⟩, hg, Nat.le_trans hu.size hp.1, Nat.le_trans hu.size hgg.1, hu.trans hu'⟩
theorem Mine.write {K : Nat → Prop} {x : Int} {b : List UInt8} {v : Value} (h : Mine w W F p g n d) (hK : Rd byteE W K v b) (hKF : Fr W (fun q => q = p) K) (hpl : d.pend.length < 1048576) (hwl : d.writes < 1048576) (hbl : b.length ≤ 140737488355328) :
    Calls Try.prog 28 #[.pointer (some ⟨p, 0, none⟩), .int .i64 x, v] W fun e W' => e = .returned (.int .i64 (writeD n d x b).1) ∧ Mine w W' (Ext F W W') p g n (writeD n d x b).2 ∧ Upd (Dft p g F) W W' := by
  obtain ⟨⟨hd, hF⟩, hg, hp, hgg, huw⟩ := h
  refine (write_spec (x := x) hd hg hK hKF hpl hwl hbl).mono ?_
  rintro e W' ⟨rfl, hu, hd'⟩
  refine ⟨rfl, ⟨⟨hd', fun q hq => hq.elim (hF q) fun h => Nat.le_trans huw.size h.1⟩, hg.write x b hpl hwl, hp, hgg, huw.trans' hu ?_⟩, hu⟩
  rintro q hq (rfl | rfl | h)
  · omega
  · omega
  · have := hF q h; omega
theorem Mine.cut {K : Nat → Prop} {v : Value} {keep : List Bool} (h : Mine w W F p g n d) (hK : Rd boolE W K v keep) (hKF : Fr W (fun q => q = g) K) :
    Calls Try.prog 29 #[.pointer (some ⟨p, 0, none⟩), v] W fun e W' => e = .returned (.tuple #[]) ∧ Mine w W' F p g n (cutD d keep) ∧ Upd (fun q => q = p ∨ q = g) W W' := by
  obtain ⟨⟨hd, hF⟩, hg, hp, hgg, huw⟩ := h
  refine (cut_spec hd hg hK hKF).mono ?_
  rintro e W' ⟨rfl, hu, hd'⟩
  refine ⟨rfl, ⟨⟨hd', hF⟩, hg.cut _, hp, hgg, huw.trans' hu ?_⟩, hu⟩
  rintro q hq (rfl | rfl) <;> omega
theorem Mine.on (h : Mine w W F p g n d) :
    Calls Try.prog 30 #[.pointer (some ⟨p, 0, none⟩)] W fun e W' => e = .returned (.tuple #[]) ∧ Mine w W' F p g n { d with off := false } ∧ Upd (fun q => q = p) W W' := by
  obtain ⟨⟨hd, hF⟩, hg, hp, hgg, huw⟩ := h
  refine (on_spec hd).mono ?_
  rintro e W' ⟨rfl, hu, hd'⟩
  refine ⟨rfl, ⟨⟨hd', hF⟩, hg.on, hp, hgg, huw.trans' hu ?_⟩, hu⟩
  rintro q hq rfl
  omega
theorem Mine.sync (h : Mine w W F p g n d) :
    Calls Try.prog 36 #[.pointer (some ⟨p, 0, none⟩)] W fun e W' => e = .returned (.int .i64 (syncD d).1) ∧ Mine w W' F p g n (syncD d).2 ∧ Upd (fun q => q = p ∨ q = g) W W' := by
  obtain ⟨⟨hd, hF⟩, hg, hp, hgg, huw⟩ := h
  refine (sync_spec hd hg).mono ?_
  rintro e W' ⟨rfl, hu, hd'⟩
  refine ⟨rfl, ⟨⟨hd', hF⟩, hg.sync, hp, hgg, huw.trans' hu ?_⟩, hu⟩
  rintro q hq (rfl | rfl) <;> omega
theorem Mine.arm {K : Nat → Prop} {v : Value} {keep : List Bool} {x : Int} (h : Mine w W F p g n d) (hx : x ≤ 9223372036854775807) (hK : Rd boolE W K v keep) (hF : Fin W K) (hl : keep.length ≤ 70368744177664) :
    Calls Try.prog 43 #[.pointer (some ⟨p, 0, none⟩), .int .i64 x, v] W fun e W' => e = .returned (.tuple #[]) ∧ Mine w W' (Ext F W W') p g n { d with armed := max x 1, keep := keep } := by
  obtain ⟨⟨hd, hFF⟩, hg, hp, hgg, huw⟩ := h
  refine (arm_spec hd x hK hF hl).mono ?_
  rintro e W' ⟨rfl, hu, hd'⟩
  refine ⟨rfl, ⟨hd', fun q hq => hq.elim (hFF q) fun h => Nat.le_trans huw.size h.1⟩, hg.arm x hx keep, hp, hgg, huw.trans' hu ?_⟩
  rintro q hq rfl
  omega
theorem Mine.read (h : Mine w W F p g n d) (x : Int) : Calls Try.prog 31 #[.pointer (some ⟨p, 0, none⟩), .int .i64 x] W (ReadPost W n d x) := by
  obtain ⟨⟨hd, hF⟩, hg, hp, hgg, huw⟩ := h
  exact read_spec hd hg x
theorem Mine.readF (h : Mine w W F p g n d) (x : Int) : Calls Try.prog 31 #[.pointer (some ⟨p, 0, none⟩), .int .i64 x] W (ReadPostF W n d x) := by
  obtain ⟨⟨hd, hF⟩, hg, hp, hgg, huw⟩ := h
  exact read_specF hd hg x
theorem Mine.bytesF (h : Mine w W F p g n d) : Calls Try.prog 37 #[.pointer (some ⟨p, 0, none⟩)] W fun e w' => ∃ v', e = .returned v' ∧ Upd Non W w' ∧ Rd byteE w' (New W w') v' d.kept ∧ Fzn w' v' := by
  obtain ⟨⟨hd, hF⟩, hg, _⟩ := h
  exact bytes_specF hd hg
theorem Mine.off (h : Mine w W F p g n d) : Calls Try.prog 44 #[.pointer (some ⟨p, 0, none⟩)] W fun e w' => e = .returned (.bool d.off) ∧ W = w' := by
  obtain ⟨⟨hd, hF⟩, _⟩ := h
  exact off_spec hd
theorem Mine.wrote (h : Mine w W F p g n d) : Calls Try.prog 32 #[.pointer (some ⟨p, 0, none⟩)] W fun e w' => e = .returned (.int .i64 d.writes) ∧ W = w' := by
  obtain ⟨⟨hd, hF⟩, _⟩ := h
  exact writes_spec hd
theorem Mine.pends (h : Mine w W F p g n d) : Calls Try.prog 42 #[.pointer (some ⟨p, 0, none⟩)] W fun e w' => e = .returned (.int .i64 d.pend.length) ∧ W = w' := by
  obtain ⟨⟨hd, hF⟩, _⟩ := h
  exact pending_spec hd
theorem Mine.bytes (h : Mine w W F p g n d) : Calls Try.prog 37 #[.pointer (some ⟨p, 0, none⟩)] W fun e w' => ∃ v', e = .returned v' ∧ Upd Non W w' ∧ Rd byteE w' (New W w') v' d.kept := by
  obtain ⟨⟨hd, hF⟩, hg, _⟩ := h
  exact bytes_spec hd hg
end

theorem Mine.set {w W : World} {F : Nat → Prop} {p g n : Nat} {d : Dk} (h : Mine w W F p g n d) {a : Addr} (hq : w.heap.size ≤ a.block) (h1 : ¬ F a.block) (h2 : a.block ≠ p) (h3 : a.block ≠ g) (v : Value) : Mine w (W.setCell a v) F p g n d := by
  obtain ⟨⟨⟨vk, vp, K, G, r1, r2, r3, r4, r5, r6, r7, r8, hK, hG⟩, hF⟩, hg, hp, hgg, huw⟩ := h
  have hu : Upd (fun q => q = a.block) W (W.setCell a v) := Upd.set (S := fun q => q = a.block) (Upd.refl _ _) (p := a) (.inr (by rfl)) v
  have hne : ∀ q, F q → q ≠ a.block := fun q hq e => h1 (by rw [← e]; exact hq)
  exact ⟨⟨⟨vk, vp, K, G, (hu.block p (blk_lt r1) (fun e => h2 (by have e : p = a.block := e; exact e.symm))).trans r1, (hu.block g (blk_lt r2) (fun e => h3 (by have e : g = a.block := e; exact e.symm))).trans r2,
    r3.upd hu (fun q hq => ⟨r8 q (hK q hq).1, hne q (hK q hq).1⟩), r4.upd hu (fun q hq => ⟨r8 q (hG q hq), hne q (hG q hq)⟩), r5, r6, r7, r8.upd hu, hK, hG⟩, hF⟩, hg, hp, hgg, huw.set (.inl hq) v⟩

theorem byte_at {w : World} {F : Nat → Prop} {b o n c : Nat} {l : List UInt8} (h : Rd byteE w F (.slice (some ⟨b, o, none⟩) n c) l) {i : Nat} {x : UInt8} (hx : l[i]? = some x) : w.cell? ⟨b, o + i, none⟩ = some (bv x) := by
  obtain ⟨hi, rfl⟩ := List.getElem?_eq_some_iff.1 hx
  obtain ⟨b', o', c', e, _, _, hc⟩ := h.byte hi
  cases e
  exact hc

/-- bytes that have just been made -/
theorem row_set {w : World} {q i : Nat} {l : List UInt8} (h : w.heap[q]? = some (.cells (l.map bv).toArray 5 (0, 0))) (x : UInt8) : (w.setCell ⟨q, i, none⟩ (bv x)).heap[q]? = some (.cells ((l.set i x).map bv).toArray 5 (0, 0)) := by
  rw [blk_set h]
  simp [List.map_set]
theorem row_cell {w : World} {q i : Nat} {l : List UInt8} (h : w.heap[q]? = some (.cells (l.map bv).toArray 5 (0, 0))) (hi : i < l.length) : w.cell? ⟨q, i, none⟩ = some (bv l[i]) := by
  rw [blk_at h]; simp [hi]

def k0 : List UInt8 := List.replicate 64 0
def kd1 : Dk := (writeD 2 (newD 2 64) 0 (k0.set 0 1)).2
def kd2 : Dk := (writeD 2 kd1 0 (k0.set 0 2)).2
def kd3 : Dk := cutD kd2 [true]
def kd4 : Dk := { kd3 with off := false }
theorem kn1 : (kd1.pend.length, kd1.writes) = (1, 1) := by decide +kernel
theorem kn2 : ((readD 2 kd2 0).1, (readD 2 kd2 0).2.length, (readD 2 kd2 0).2[0]?) = (0, 64, some 2) := by decide +kernel
theorem kn3 : readD 2 kd3 0 = (5, []) := by decide +kernel
theorem kn4 : ((readD 2 kd4 0).1, (readD 2 kd4 0).2.length, (readD 2 kd4 0).2[0]?) = (0, 64, some 1) := by decide +kernel
set_option maxRecDepth 100000 in
theorem dknown_spec (w : World) : Calls Try.prog 26 #[] w fun e w' => e = .returned (.bool true) ∧ Upd Non w w' := by
  obtain ⟨z, hz⟩ : ∃ z, z = List.replicate 64 (0 : UInt8) := ⟨_, rfl⟩
  have hzl : z.length = 64 := by rw [hz]; rfl
  have hmk : ∀ w, (Instr.makeSlice 44 (.int .i64 64) (.int .i64 64)).run Try.prog w = .ok (.slice (some ⟨w.heap.size, 0, none⟩) 64 64) (w.alloc (.cells (z.map bv).toArray 5)) := fun w => by rw [hz]; exact make_bytes w 64 (by omega)
  have hmc : ∀ w : World, (w.alloc (.cells (z.map bv).toArray 5)).cell? ⟨w.heap.size, 0, none⟩ = some (.int .u8 0) := fun w => by rw [row_cell (heap_alloc_new w _) (by omega)]; simp [hz, bv]
  have hmf : ∀ w : World, (w.alloc (.cells (z.map bv).toArray 5)).frozen? ⟨w.heap.size, 0, none⟩ = false := fun w => blk_free (heap_alloc_new w _) 0
  have HZ := Lib.hid hz
  clear hz
  go_enter Try.func26, Try.ntmps26
  go_wp2_with fail
  refine (newOf w w (Upd.refl _ _) 2 64 (by omega) (by omega) (by omega) (by omega)).mono ?_
  rintro e w1 ⟨p, g, rfl, hu1, hm1⟩
  have ha1 := heap_alloc_new w1 (.cells (((z.set 0 1).map bv).toArray) 5)
  have hb1 := heap_alloc_new (w1.alloc (.cells (((z.set 0 1).map bv).toArray) 5)) (.cells (((z.set 0 2).map bv).toArray) 5)
  have ha2 := (Below.heap_alloc (w1.alloc (.cells (((z.set 0 1).map bv).toArray) 5)) (.cells (((z.set 0 2).map bv).toArray) 5) w1.heap.size (by simp)).trans ha1
  rw [World.size_alloc] at hb1
  have hu3 : Upd Non w1 ((w1.alloc (.cells (((z.set 0 1).map bv).toArray) 5)).alloc (.cells (((z.set 0 2).map bv).toArray) 5)) := ((Upd.refl _ _).alloc _).alloc _
  have hsz3 : ((w1.alloc (.cells (((z.set 0 1).map bv).toArray) 5)).alloc (.cells (((z.set 0 2).map bv).toArray) 5)).heap.size = w1.heap.size + 2 := by simp
  simp only [List.map_set] at ha1 hb1 ha2 hu3 hsz3
  have e1 : bv 1 = .int .u8 1 := rfl
  have e2 : bv 2 = .int .u8 2 := rfl
  rw [e1, e2] at ha2 hb1 hu3 hsz3
  clear ha1
  go_wp2_with fail
  generalize (w1.alloc (.cells (((z.map bv).set 0 (.int .u8 1)).toArray) 5)).alloc (.cells (((z.map bv).set 0 (.int .u8 2)).toArray) 5) = W3 at ha2 hb1 hu3 hsz3 ⊢
  have ra : Rd byteE W3 (fun q => q = w1.heap.size) (.slice (some ⟨w1.heap.size, 0, none⟩) (z.set 0 1).length (z.set 0 1).length) (z.set 0 1) := rd_row (by rw [ha2, List.map_set]; rfl) (by rw [maxLen_eq, List.length_set]; omega)
  have rb : Rd byteE W3 (fun q => q = w1.heap.size + 1) (.slice (some ⟨w1.heap.size + 1, 0, none⟩) (z.set 0 2).length (z.set 0 2).length) (z.set 0 2) := rd_row (by rw [hb1, List.map_set]; rfl) (by rw [maxLen_eq, List.length_set]; omega)
  have ez : z = k0 := HZ.out
  rw [List.length_set, hzl] at ra rb
  rw [ez] at ra rb
  have hm3 := hm1.non hu3
  have hpg1 := hm1.lt
  refine (hm3.write (x := 0) ra (fun q hq => by have hq : q = w1.heap.size := hq; omega) (by decide) (by decide) (by decide)).mono ?_
  rintro e w4 ⟨rfl, hm4, hu4⟩
  have rb4 := rb.upd hu4 (fun q hq => ⟨by have hq : q = w1.heap.size + 1 := hq; omega, fun h => by
    have hq : q = w1.heap.size + 1 := hq
    rcases h with h | h | h
    · omega
    · omega
    · exact h⟩)
  have hs4 := hu4.size
  have hpg3 := hm3.lt
  generalize (writeD 2 (newD 2 64) 0 (k0.set 0 1)).1 = r1
  change Mine w w4 _ p g 2 kd1 at hm4
  generalize Ext Non W3 w4 = F4 at hm4
  have e1 : kd1.pend.length = 1 ∧ kd1.writes = 1 := by have := kn1; simp at this; exact this
  go_wp2_with fail
  refine (hm4.write (x := 0) rb4 (fun q hq => by have hq : q = w1.heap.size + 1 := hq; omega) (by omega) (by omega) (by decide)).mono ?_
  rintro e w5 ⟨rfl, hm5, hu5⟩
  generalize (writeD 2 kd1 0 (k0.set 0 2)).1 = r2
  change Mine w w5 _ p g 2 kd2 at hm5
  generalize Ext F4 w4 w5 = F5 at hm5
  go_wp2_with fail
  refine (hm5.read 0).mono ?_
  rintro e w6 ⟨hu6, v6, rfl, hr6⟩
  have e2 := kn2
  simp only [Prod.mk.injEq] at e2
  obtain ⟨e20, e21, e22⟩ := e2
  rw [e20]
  generalize (readD 2 kd2 0).2 = lx at hr6 e21 e22
  obtain ⟨A6, c6, rfl, _⟩ := hr6.shape
  have hm6 := hm5.non hu6
  go_wp2_with fail
  have rt : Rd boolE (w6.alloc (.cells #[.bool true] 4)) (New w6 (w6.alloc (.cells #[.bool true] 4))) (.slice (some ⟨w6.heap.size, 0, none⟩) 1 1) [true] := rd_box (E := boolE) w6 #[.bool true] 4 [true] ⟨[.bool true], [], rfl, rfl, rfl⟩ (by decide)
  have ub := (Upd.refl Non w6).alloc (.cells #[.bool true] 4)
  have hlt6 := hm6.lt
  have hb6 := hr6.upd ub (Upd.fr_non Fin.new)
  have hlt5 := hm5.lt
  refine ((hm6.non ub).cut rt (fun q hq => ⟨hq.2, fun e => by have e : q = g := e; have := hq.1; omega⟩)).mono ?_
  rintro e w7 ⟨rfl, hm7, hu7⟩
  change Mine w w7 _ p g 2 kd3 at hm7
  have hr7 := hb6.upd hu7 (fun q hq => ⟨Nat.lt_of_lt_of_le hq.2 ub.size, fun h => by have := hq.1; rcases h with h | h <;> omega⟩)
  clear hb6 rt
  go_wp2_with fail
  refine (hm7.read 0).mono ?_
  rintro e w8 ⟨hu8, v8, rfl, _⟩
  rw [kn3]
  obtain ⟨A8, c8, rfl⟩ : ∃ A c, v8 = .slice A 0 c := by
    rename_i h
    rw [kn3] at h
    obtain ⟨A, c, rfl, _⟩ := h.shape
    exact ⟨A, c, rfl⟩
  have hm8 := hm7.non hu8
  have hF5 : Fin w7 (New w5 w6) := fun q hq => Nat.lt_of_lt_of_le hq.2 (Nat.le_trans ub.size hu7.size)
  have hr8 := hr7.upd hu8 (Upd.fr_non hF5)
  go_wp2_with fail
  refine hm8.on.mono ?_
  rintro e w9 ⟨rfl, hm9, hu9⟩
  change Mine w w9 _ p g 2 kd4 at hm9
  have hr9 := hr8.upd hu9 (fun q hq => ⟨Nat.lt_of_lt_of_le (hF5 q hq) hu8.size, fun h => by have h : q = p := h; have := hq.1; omega⟩)
  go_wp2_with fail
  refine (hm9.read 0).mono ?_
  rintro e w10 ⟨hu10, v10, rfl, hr10⟩
  have e4 := kn4
  simp only [Prod.mk.injEq] at e4
  obtain ⟨e40, e41, e42⟩ := e4
  rw [e40]
  generalize (readD 2 kd4 0).2 = ly at hr10 e41 e42
  have hm10 := hm9.non hu10
  have hFx : Fin w9 (New w5 w6) := fun q hq => Nat.lt_of_lt_of_le (Nat.lt_of_lt_of_le (hF5 q hq) hu8.size) hu9.size
  have hrx := hr9.upd hu10 (Upd.fr_non hFx)
  obtain ⟨bx, ox, cx, ex, _, _, hcx⟩ := hrx.byte (k := 0) (by omega)
  obtain ⟨by', oy, cy, ey, _, _, hcy⟩ := hr10.byte (k := 0) (by omega)
  have h2 : lx[0]'(by omega) = 2 := by have := e22; rw [List.getElem?_eq_getElem (by omega)] at this; exact Option.some.inj this
  have h1 : ly[0]'(by omega) = 1 := by have := e42; rw [List.getElem?_eq_getElem (by omega)] at this; exact Option.some.inj this
  rw [h2] at hcx
  rw [h1] at hcy
  have hcx' : w10.cell? ⟨bx, ox, none⟩ = some (.int .u8 2) := hcx
  have hcy' : w10.cell? ⟨by', oy, none⟩ = some (.int .u8 1) := hcy
  cases ex
  subst ey
  go_wp2_with fail
  go_ret
  exact ⟨rfl, hm10.2.2.2.2⟩
end Go.Proofs.Ytniccejlmbfpdaa
