/-
  Of writes just so many are OK ahead of the cut that was armed, and behind it all is ErrDown till the power is on: the law DiskArmed returns true at every input.
-/
import Derived.Test.YtniccejlmbfpdaaD8
import Derived.Test.YtniccejlmbfpdaaLaw
namespace Go.Proofs.Ytniccejlmbfpdaa
open Go.ChangeShapes Go.WideShapes Go.ChangeAt Go.RowKit
attribute [local go_sem] max2_int min2_int max_two min_two

/-- of a disk that is armed: what it is when i writes were tried -/
structure Armd (d : Dk) (m : Int) (i : Nat) (ok : Int) : Prop where
  size : d.size = 64
  pl : d.pend.length ≤ i
  wl : d.writes ≤ i
  before : (i : Int) < m → d.off = false ∧ d.armed = m - i ∧ ok = i ∧ d.writes = i
  after : m ≤ i → d.off = true ∧ d.armed = 0 ∧ ok = m - 1 ∧ d.writes = m - 1 ∧ d.pend = []

theorem Armd.sync {d : Dk} {m : Int} {i : Nat} {ok : Int} (h : Armd d m i ok) : Armd (syncD d).2 m i ok := by
  unfold syncD
  split
  · exact h
  · rename_i ho
    refine ⟨h.size, by simp, h.wl, h.before, fun hm => absurd (h.after hm).1 ho⟩

theorem Armd.write {d : Dk} {m : Int} {i : Nat} {ok x : Int} {b : List UInt8} (h : Armd d m i ok) (hx0 : 0 ≤ x) (hx4 : x < 4) (hb : b.length = 64) :
    ((writeD 4 d x b).1 = 0 ∧ Armd (writeD 4 d x b).2 m (i + 1) (ok + 1)) ∨ ((writeD 4 d x b).1 = 5 ∧ Armd (writeD 4 d x b).2 m (i + 1) ok) := by
  have hs := h.size
  have hpl := h.pl
  have hwl := h.wl
  by_cases hi : (i : Int) < m
  · obtain ⟨h1, h2, h3, h4⟩ := h.before hi
    have hc : check 4 d x (b.length == d.size) = 0 := by rw [check, if_neg (by simp [h1]), if_neg (by simp [hb, hs]; omega)]
    unfold writeD
    rw [if_pos hc]
    by_cases ha : d.armed = 1
    · rw [if_pos ha]
      refine .inr ⟨rfl, ⟨hs, by simp [cutD], ?_, fun h => by omega, fun _ => ⟨rfl, rfl, by omega, ?_, rfl⟩⟩⟩
      · show d.writes ≤ _; omega
      · show d.writes = _; omega
    · rw [if_neg ha]
      refine .inl ⟨rfl, ⟨hs, by simp; exact hpl, ?_, fun h => ⟨h1, ?_, by omega, ?_⟩, fun h => by omega⟩⟩
      · show d.writes + 1 ≤ _; omega
      · show max (d.armed - 1) 0 = _; omega
      · show d.writes + 1 = _; omega
  · obtain ⟨h1, h2, h3, h4, h5⟩ := h.after (by omega)
    have hc : check 4 d x (b.length == d.size) = 5 := by rw [check, if_pos h1]
    unfold writeD
    rw [if_neg (by rw [hc]; decide), hc]
    exact .inr ⟨rfl, ⟨hs, by show d.pend.length ≤ _; omega, by show d.writes ≤ _; omega, fun h => by omega, fun _ => ⟨h1, h2, h3, h4, h5⟩⟩⟩

theorem Armd.start {d : Dk} (n m : Int) (hm : m = max n 1) (hd : d = { newD 4 64 with armed := max n 1, keep := [] }) : Armd d m 0 0 := by
  subst hd
  refine ⟨rfl, Nat.le_refl 0, Int.le_refl 0, fun _ => ⟨rfl, ?_, rfl, rfl⟩, fun h => by omega⟩
  show max n 1 = _; omega

theorem armd_end {d : Dk} {m : Int} {i : Nat} {ok : Int} (h : Armd d m i ok) (hm : m ≤ i) (b : List UInt8) (hb : b.length = 64) :
    readD 4 d 0 = (5, []) ∧ syncD d = (5, d) ∧ (writeD 4 { d with off := false } 0 b).1 = 0 ∧ (writeD 4 { d with off := false } 0 b).2.pend.length = 1 := by
  obtain ⟨h1, h2, h3, h4, h5⟩ := h.after hm
  have hs := h.size
  have hw : writeD 4 { d with off := false } 0 b = (0, { d with off := false, armed := max (d.armed - 1) 0, pend := d.pend ++ [(0, b)], writes := d.writes + 1 }) := by
    unfold writeD
    rw [if_pos (by rw [check, if_neg (by simp), if_neg (by simp [hb, hs])]), if_neg (by show ¬ d.armed = 1; omega)]
  refine ⟨?_, by rw [syncD, if_pos h1], by rw [hw], by rw [hw]; simp [h5]⟩
  have hc : check 4 d 0 true = 5 := by rw [check, if_pos h1]
  unfold readD
  rw [if_neg (by rw [hc]; decide), hc]

theorem k0_len : k0.length = 64 := by simp [k0]

set_option maxRecDepth 100000 in
set_option maxHeartbeats 4000000 in
theorem armed_walk (w : World) (n wn sy : Int) (hn0 : n ≤ 9223372036854775807) : Calls Try.prog 10 #[.int .i64 n,   .int .i64 wn, .int .i64 sy] w fun e w' => e = .returned (.bool true) ∧ Below w.heap.size w w' := by
  by_cases hw0 : wn < 0
  · go_enter Try.func10, Try.ntmps10
    go_wp2_with fail
    refine (dknown_spec w).mono ?_
    rintro e w1 ⟨rfl, hu1⟩
    go_wp2
    go_ret
    exact ⟨rfl, hu1.below⟩
  by_cases hw1 : 100 < wn
  · go_enter Try.func10, Try.ntmps10
    go_wp2_with fail
    refine (dknown_spec w).mono ?_
    rintro e w1 ⟨rfl, hu1⟩
    go_wp2
    go_ret
    exact ⟨rfl, hu1.below⟩
  obtain ⟨z, hz⟩ : ∃ z, z = k0 := ⟨_, rfl⟩
  have hzl : z.length = 64 := by rw [hz]; exact k0_len
  have hmk : ∀ w, (Instr.makeSlice 44 (.int .i64 64) (.int .i64 64)).run Try.prog w = .ok (.slice (some ⟨w.heap.size, 0, none⟩) 64 64) (w.alloc (.cells (z.map bv).toArray 5)) := fun w => by rw [hz]; exact make_bytes w 64 (by omega)
  clear hz
  have HZ := Lib.hid hzl
  clear hzl
  obtain ⟨m, hmn⟩ : ∃ m : Int, n < 1 ∧ m = 1 ∨ 1 ≤ n ∧ n = m := by
    rcases Int.lt_or_le n 1 with h | h
    · exact ⟨1, .inl ⟨h, rfl⟩⟩
    · exact ⟨n, .inr ⟨h, rfl⟩⟩
  have hmx : m = max n 1 := by omega
  have HMX := Lib.hid hmx
  clear hmx
  go_enter Try.func10, Try.ntmps10
  go_wp2_with fail
  refine (dknown_spec w).mono ?_
  rintro e w1 ⟨rfl, hu1⟩
  go_wp2_with fail
  refine (newOf w w1 hu1 4 64 (by omega) (by omega) (by omega) (by omega)).mono ?_
  rintro e w2 ⟨p, g, rfl, hu2, hm2⟩
  go_wp2_with fail
  refine (hm2.arm (x := n) hn0 (Rd.nil boolE w2 Non) (Fin.non _) (by simp)).mono ?_
  rintro e w3 ⟨rfl, hm3⟩
  obtain ⟨d3, hd3⟩ : ∃ d3 : Dk, d3 = { newD 4 64 with armed := max n 1, keep := [] } := ⟨_, rfl⟩
  rw [← hd3] at hm3
  have ha3 := Armd.start n m HMX.out hd3
  clear hd3 hm2 HMX
  rcases hmn with ⟨hn, rfl⟩ | ⟨hn, hmm⟩
  · go_wp2_with fail
    go_loopw [9, 10] (fun o i wr => ∃ (k : Nat) (ok : Int) (F : Nat → Prop) (d : Dk), (k : Int) ≤ wn ∧ i = .int .i64 k ∧ o = .int .i64 ok ∧ Mine w wr F p g 4 d ∧ Armd d 1 k ok ∧ 0 ≤ ok ∧ ok ≤ k) (fun _ i _ => (wn - intOf i).toNat)
    case atStart => exact ⟨0, 0, _, d3, by omega, rfl, rfl, hm3, ha3, by omega, by omega⟩
    case round =>
      clear hm3 ha3
      obtain ⟨k, ok, F, d, hk, rfl, rfl, hm, ha, hok0, hok1⟩ := hrel
      by_cases hlt : (k : Int) < wn
      · have hx0 : (0 : Int) ≤ (k : Int) % 4 := by omega
        have hx4 : (k : Int) % 4 < 4 := by omega
        by_cases hsy : (k : Int) = sy
        · subst hsy
          go_wp2_with fail
          refine hm.sync.mono ?_
          rintro e w4 ⟨rfl, hm4, _⟩
          have ha4 := ha.sync
          generalize (syncD d).1 = rs
          generalize (syncD d).2 = d4 at hm4 ha4
          clear hm ha
          have hpl := ha4.pl
          have hwl := ha4.wl
          have hlt4 := hm4.lt
          have hup := (Upd.refl Non w4).alloc (.cells (z.map bv).toArray 5)
          have hblk := heap_alloc_new w4 (.cells (z.map bv).toArray 5)
          go_wp2_with fail
          generalize w4.alloc (.cells (z.map bv).toArray 5) = W3 at hup hblk ⊢
          have hrd := rd_row hblk (by rw [HZ.out]; decide)
          rw [HZ.out] at hrd
          refine ((hm4.non hup).write (x := (k : Int) % 4) hrd (fun q hq => by have hq : q = w4.heap.size := hq; exact ⟨by rw [hq]; exact blk_lt hblk, fun e => by have e : q = p := e; omega⟩) (by omega) (by omega) (by rw [HZ.out]; decide)).mono ?_
          rintro e w5 ⟨rfl, hm5, _⟩
          rcases ha4.write (x := (k : Int) % 4) (b := z) hx0 hx4 HZ.out with ⟨hr, ha5⟩ | ⟨hr, ha5⟩
          all_goals
            rw [hr]
            go_wp2
            go_roundw
            case rel => exact ⟨k + 1, _, _, _, by omega, by go_num, rfl, hm5, ha5, by omega, by omega⟩
            case measure => simp [intOf]; omega
        · have hpl := ha.pl
          have hwl := ha.wl
          have hlt4 := hm.lt
          have hup := (Upd.refl Non wr).alloc (.cells (z.map bv).toArray 5)
          have hblk := heap_alloc_new wr (.cells (z.map bv).toArray 5)
          go_wp2_with fail
          generalize wr.alloc (.cells (z.map bv).toArray 5) = W3 at hup hblk ⊢
          have hrd := rd_row hblk (by rw [HZ.out]; decide)
          rw [HZ.out] at hrd
          refine ((hm.non hup).write (x := (k : Int) % 4) hrd (fun q hq => by have hq : q = wr.heap.size := hq; exact ⟨by rw [hq]; exact blk_lt hblk, fun e => by have e : q = p := e; omega⟩) (by omega) (by omega) (by rw [HZ.out]; decide)).mono ?_
          rintro e w5 ⟨rfl, hm5, _⟩
          rcases ha.write (x := (k : Int) % 4) (b := z) hx0 hx4 HZ.out with ⟨hr, ha5⟩ | ⟨hr, ha5⟩
          all_goals
            rw [hr]
            go_wp2
            go_roundw
            case rel => exact ⟨k + 1, _, _, _, by omega, by go_num, rfl, hm5, ha5, by omega, by omega⟩
            case measure => simp [intOf]; omega
      · obtain rfl : (k : Int) = wn := by omega
        by_cases hmk : (1 : Int) ≤ (k : Int)
        · obtain ⟨a1, a2, a3, a4, a5⟩ := ha.after hmk
          obtain ⟨e1, e2, e3, e4⟩ := armd_end ha hmk z HZ.out
          have E1 := Lib.hid e1
          have E2 := Lib.hid e2
          have E3 := Lib.hid e3
          have E4 := Lib.hid e4
          have A1 := Lib.hid a1
          have A4 := Lib.hid a4
          have hlt4 := hm.lt
          have hpl5 : d.pend.length = 0 := by rw [a5]; rfl
          have hwl := ha.wl
          subst a3
          clear e1 e2 e3 e4 a1 a4 a5 a2 ha
          go_wp2_with fail
          refine hm.off.mono ?_
          rintro e w4 ⟨rfl, rfl⟩
          rw [A1.out]
          go_wp2_with fail
          refine hm.wrote.mono ?_
          rintro e w4 ⟨rfl, rfl⟩
          rw [A4.out]
          go_wp2_with fail
          refine hm.off.mono ?_
          rintro e w4 ⟨rfl, rfl⟩
          rw [A1.out]
          go_wp2_with fail
          refine (hm.read 0).mono ?_
          rintro e w4 ⟨hu4, v4, rfl, hr4⟩
          rw [E1.out] at hr4 ⊢
          obtain ⟨A4', c4, rfl, _⟩ := hr4.shape
          have hm4 := hm.non hu4
          go_wp2_with fail
          refine hm4.sync.mono ?_
          rintro e w5 ⟨rfl, hm5, _⟩
          rw [E2.out] at hm5 ⊢
          go_wp2_with fail
          refine hm5.on.mono ?_
          rintro e w6 ⟨rfl, hm6, _⟩
          have hlt6 := hm6.lt
          have hup := (Upd.refl Non w6).alloc (.cells (z.map bv).toArray 5)
          have hblk := heap_alloc_new w6 (.cells (z.map bv).toArray 5)
          go_wp2_with fail
          generalize w6.alloc (.cells (z.map bv).toArray 5) = W3 at hup hblk ⊢
          have hrd := rd_row hblk (by rw [HZ.out]; decide)
          rw [HZ.out] at hrd
          refine ((hm6.non hup).write (x := 0) hrd (fun q hq => by have hq : q = w6.heap.size := hq; exact ⟨by rw [hq]; exact blk_lt hblk, fun e => by have e : q = p := e; omega⟩) (by show d.pend.length < _; omega) (by show d.writes < _; omega) (by rw [HZ.out]; decide)).mono ?_
          rintro e w7 ⟨rfl, hm7, _⟩
          rw [E3.out]
          go_wp2_with fail
          refine hm7.pends.mono ?_
          rintro e w8 ⟨rfl, rfl⟩
          rw [E4.out]
          go_wp2
          go_ret
          exact ⟨rfl, hm7.2.2.2.2.below⟩
        · obtain ⟨a1, a2, a3, a4⟩ := ha.before (by omega)
          have A1 := Lib.hid a1
          have A4 := Lib.hid a4
          subst a3
          clear a1 a4 a2 ha
          go_wp2_with fail
          refine hm.off.mono ?_
          rintro e w4 ⟨rfl, rfl⟩
          rw [A1.out]
          go_wp2_with fail
          refine hm.wrote.mono ?_
          rintro e w4 ⟨rfl, rfl⟩
          rw [A4.out]
          go_wp2_with fail
          refine hm.off.mono ?_
          rintro e w4 ⟨rfl, rfl⟩
          rw [A1.out]
          go_wp2
          go_ret
          exact ⟨rfl, hm.2.2.2.2.below⟩
  · subst hmm
    go_wp2_with fail
    go_loopw [9, 10] (fun o i wr => ∃ (k : Nat) (ok : Int) (F : Nat → Prop) (d : Dk), (k : Int) ≤ wn ∧ i = .int .i64 k ∧ o = .int .i64 ok ∧ Mine w wr F p g 4 d ∧ Armd d n k ok ∧ 0 ≤ ok ∧ ok ≤ k) (fun _ i _ => (wn - intOf i).toNat)
    case atStart => exact ⟨0, 0, _, d3, by omega, rfl, rfl, hm3, ha3, by omega, by omega⟩
    case round =>
      clear hm3 ha3
      obtain ⟨k, ok, F, d, hk, rfl, rfl, hm, ha, hok0, hok1⟩ := hrel
      by_cases hlt : (k : Int) < wn
      · have hx0 : (0 : Int) ≤ (k : Int) % 4 := by omega
        have hx4 : (k : Int) % 4 < 4 := by omega
        by_cases hsy : (k : Int) = sy
        · subst hsy
          go_wp2_with fail
          refine hm.sync.mono ?_
          rintro e w4 ⟨rfl, hm4, _⟩
          have ha4 := ha.sync
          generalize (syncD d).1 = rs
          generalize (syncD d).2 = d4 at hm4 ha4
          clear hm ha
          have hpl := ha4.pl
          have hwl := ha4.wl
          have hlt4 := hm4.lt
          have hup := (Upd.refl Non w4).alloc (.cells (z.map bv).toArray 5)
          have hblk := heap_alloc_new w4 (.cells (z.map bv).toArray 5)
          go_wp2_with fail
          generalize w4.alloc (.cells (z.map bv).toArray 5) = W3 at hup hblk ⊢
          have hrd := rd_row hblk (by rw [HZ.out]; decide)
          rw [HZ.out] at hrd
          refine ((hm4.non hup).write (x := (k : Int) % 4) hrd (fun q hq => by have hq : q = w4.heap.size := hq; exact ⟨by rw [hq]; exact blk_lt hblk, fun e => by have e : q = p := e; omega⟩) (by omega) (by omega) (by rw [HZ.out]; decide)).mono ?_
          rintro e w5 ⟨rfl, hm5, _⟩
          rcases ha4.write (x := (k : Int) % 4) (b := z) hx0 hx4 HZ.out with ⟨hr, ha5⟩ | ⟨hr, ha5⟩
          all_goals
            rw [hr]
            go_wp2
            go_roundw
            case rel => exact ⟨k + 1, _, _, _, by omega, by go_num, rfl, hm5, ha5, by omega, by omega⟩
            case measure => simp [intOf]; omega
        · have hpl := ha.pl
          have hwl := ha.wl
          have hlt4 := hm.lt
          have hup := (Upd.refl Non wr).alloc (.cells (z.map bv).toArray 5)
          have hblk := heap_alloc_new wr (.cells (z.map bv).toArray 5)
          go_wp2_with fail
          generalize wr.alloc (.cells (z.map bv).toArray 5) = W3 at hup hblk ⊢
          have hrd := rd_row hblk (by rw [HZ.out]; decide)
          rw [HZ.out] at hrd
          refine ((hm.non hup).write (x := (k : Int) % 4) hrd (fun q hq => by have hq : q = wr.heap.size := hq; exact ⟨by rw [hq]; exact blk_lt hblk, fun e => by have e : q = p := e; omega⟩) (by omega) (by omega) (by rw [HZ.out]; decide)).mono ?_
          rintro e w5 ⟨rfl, hm5, _⟩
          rcases ha.write (x := (k : Int) % 4) (b := z) hx0 hx4 HZ.out with ⟨hr, ha5⟩ | ⟨hr, ha5⟩
          all_goals
            rw [hr]
            go_wp2
            go_roundw
            case rel => exact ⟨k + 1, _, _, _, by omega, by go_num, rfl, hm5, ha5, by omega, by omega⟩
            case measure => simp [intOf]; omega
      · obtain rfl : (k : Int) = wn := by omega
        by_cases hmk : n ≤ (k : Int)
        · obtain ⟨a1, a2, a3, a4, a5⟩ := ha.after hmk
          obtain ⟨e1, e2, e3, e4⟩ := armd_end ha hmk z HZ.out
          have E1 := Lib.hid e1
          have E2 := Lib.hid e2
          have E3 := Lib.hid e3
          have E4 := Lib.hid e4
          have A1 := Lib.hid a1
          have A4 := Lib.hid a4
          have hlt4 := hm.lt
          have hpl5 : d.pend.length = 0 := by rw [a5]; rfl
          have hwl := ha.wl
          subst a3
          clear e1 e2 e3 e4 a1 a4 a5 a2 ha
          go_wp2_with fail
          refine hm.off.mono ?_
          rintro e w4 ⟨rfl, rfl⟩
          rw [A1.out]
          go_wp2_with fail
          refine hm.wrote.mono ?_
          rintro e w4 ⟨rfl, rfl⟩
          rw [A4.out]
          go_wp2_with fail
          refine hm.off.mono ?_
          rintro e w4 ⟨rfl, rfl⟩
          rw [A1.out]
          go_wp2_with fail
          refine (hm.read 0).mono ?_
          rintro e w4 ⟨hu4, v4, rfl, hr4⟩
          rw [E1.out] at hr4 ⊢
          obtain ⟨A4', c4, rfl, _⟩ := hr4.shape
          have hm4 := hm.non hu4
          go_wp2_with fail
          refine hm4.sync.mono ?_
          rintro e w5 ⟨rfl, hm5, _⟩
          rw [E2.out] at hm5 ⊢
          go_wp2_with fail
          refine hm5.on.mono ?_
          rintro e w6 ⟨rfl, hm6, _⟩
          have hlt6 := hm6.lt
          have hup := (Upd.refl Non w6).alloc (.cells (z.map bv).toArray 5)
          have hblk := heap_alloc_new w6 (.cells (z.map bv).toArray 5)
          go_wp2_with fail
          generalize w6.alloc (.cells (z.map bv).toArray 5) = W3 at hup hblk ⊢
          have hrd := rd_row hblk (by rw [HZ.out]; decide)
          rw [HZ.out] at hrd
          refine ((hm6.non hup).write (x := 0) hrd (fun q hq => by have hq : q = w6.heap.size := hq; exact ⟨by rw [hq]; exact blk_lt hblk, fun e => by have e : q = p := e; omega⟩) (by show d.pend.length < _; omega) (by show d.writes < _; omega) (by rw [HZ.out]; decide)).mono ?_
          rintro e w7 ⟨rfl, hm7, _⟩
          rw [E3.out]
          go_wp2_with fail
          refine hm7.pends.mono ?_
          rintro e w8 ⟨rfl, rfl⟩
          rw [E4.out]
          go_wp2
          go_ret
          exact ⟨rfl, hm7.2.2.2.2.below⟩
        · obtain ⟨a1, a2, a3, a4⟩ := ha.before (by omega)
          have A1 := Lib.hid a1
          have A4 := Lib.hid a4
          subst a3
          clear a1 a4 a2 ha
          go_wp2_with fail
          refine hm.off.mono ?_
          rintro e w4 ⟨rfl, rfl⟩
          rw [A1.out]
          go_wp2_with fail
          refine hm.wrote.mono ?_
          rintro e w4 ⟨rfl, rfl⟩
          rw [A4.out]
          go_wp2_with fail
          refine hm.off.mono ?_
          rintro e w4 ⟨rfl, rfl⟩
          rw [A1.out]
          go_wp2
          go_ret
          exact ⟨rfl, hm.2.2.2.2.below⟩
set_option maxRecDepth 100000 in
theorem diskArmed_lifted (os : Os) (started : os.Started) (H : Type) (enc : TypeId × Value → H) :
    ReturnsInHanded {} Try.checked os 10 .any (Rows.diskArmedSpec.pre6 enc Try.prog Try.f10 Rows.diskArmedRow.domain false) (Rows.diskArmedSpec.post enc Try.prog Try.f10 false true false false) := by
  refine returnsInHanded_of_change_sized (C := Try.checked) own started (by kernel_rfl) Try.func10
    (ChangeSpec.witness6 (enc := enc) (C := Try.checked) false ⟨#[], #[.int .i64 0, .int .i64 0, .int .i64 0], []⟩ 8 (by kernel_rfl) (by kernel_rfl) (by kernel_rfl) (by kernel_rfl)) ?_
  intro W base args ds gs before hval0 hW hcnd hsz0 _
  have hval : ∀ (j : Nat) t v, Try.f10.params[j]? = some t → args[j]? = some v → Value.okWide Try.prog W .any base t v := hval0
  have hW' := hW
  obtain ⟨p, q, hA0, hV, rfl, hfz, hnd⟩ := hW
  have hA : DataW.TrodAll enc Try.prog W 0 (fun _ => true) true Try.f10.params.toList args.toList ds p := hA0
  have hsz : (DataW.weightsEach Try.prog (Try.f10.params.toList ++ Rows.diskArmedSpec.plain.varTypes Try.prog) (ds ++ gs)).all (· ≤ reachBytes) = true := hsz0
  rw [Try.params10] at hA hval hsz
  obtain ⟨v0, vs0, d0, ds0, p0, q0, hargs, rfl, rfl, h0, r0⟩ := trodAll_cons hA
  obtain ⟨v1, vs1, d1, ds1, p1, q1, rfl, rfl, rfl, h1, r1⟩ := trodAll_cons r0
  obtain ⟨v2, vs2, d2, ds2, p2, q2, rfl, rfl, rfl, h2, r2⟩ := trodAll_cons r1
  obtain ⟨rfl, rfl, rfl⟩ := trodAll_nil r2
  obtain rfl : args = #[v0, v1, v2] := by cases args; simp_all
  obtain ⟨rfl, rfl⟩ := trodVars_none hV
  obtain ⟨n0, rfl, rfl, rfl, w0⟩ := open_int Try.underlying3 (hval 0 3 v0 rfl rfl) h0
  have b0 := bounds_i64 w0
  obtain ⟨n1, rfl, rfl, rfl, w1⟩ := open_int Try.underlying3 (hval 1 3 v1 rfl rfl) h1
  have b1 := bounds_i64 w1
  obtain ⟨n2, rfl, rfl, rfl, w2⟩ := open_int Try.underlying3 (hval 2 3 v2 rfl rfl) h2
  have b2 := bounds_i64 w2
  clear hA0 hval0
  refine (armed_walk W n0 n1 n2 b0.2).mono fun e W' ⟨he, bel⟩ => ?_
  subst he
  exact ⟨_, rfl, _, _, _, [], _, [], hW', trodAll_mk1 (shut_bool Try.underlying4 _), (trodAll_cons_mk (shut_int Try.underlying3 w0) (trodAll_cons_mk (shut_int Try.underlying3 w1) (trodAll_cons_mk (shut_int Try.underlying3 w2) trodAll_mk0))), rfl, bel.frame _, fun h => by cases h⟩

theorem diskArmed_over : Rows.diskArmedRow.holds Try.pinned (OpenSpec.ofChange Rows.diskArmedSpec) :=
  OpenClaim.holds_of_wide 10 Try.f10 rfl rfl rfl rfl rfl rfl rfl ⟨rfl, rfl, rfl, rfl, rfl⟩ rfl rfl rfl rfl rfl (by kernel_rfl) Try.func10 (by kernel_rfl)
    (of_decide_eq_true (by kernel_rfl)) (by unfold Func.isWrapper; first | (rw [if_pos (by decide +kernel)]; kernel_rfl) | (rw [if_neg (by decide +kernel)]; exact ⟨rfl, rfl⟩))
    (fun os started H enc _ => diskArmed_lifted os started H enc)

theorem diskArmed_holds : Rows.DiskArmedSaid := diskArmed_over
#print axioms diskArmed_holds

end Go.Proofs.Ytniccejlmbfpdaa
