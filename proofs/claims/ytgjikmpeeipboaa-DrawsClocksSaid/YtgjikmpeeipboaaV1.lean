/-
  The ticks of a clock's alarms.
-/
import Derived.Test.YtgjikmpeeipboaaC6
import Derived.Maps.OwnIn
namespace Go.Proofs.Ytgjikmpeeipboaa
open Go.RowKit
open Go.Maps Go.Sort
set_option maxRecDepth 100000 in
set_option maxHeartbeats 1000000 in
/-- the iterator over a map's values, whatever the round does -/
theorem values1N_in (F : Fence) (n : Nat) (h10 : F.fn 46) (hro : F.round = none) (hn : 1 ≤ n) (l Bm b nn : Nat) (D0 : DataW Unit) (J : List Int → World → Prop)
    (hY : ∀ pre x W, J pre W → pre.length < Maps.size D0 → YieldAt F (n - 1) Try.prog l #[encZ x] W fun e W' => e = .returned (.bool true) ∧ J (pre ++ [x]) W' ∧ KeepsWalks W W')
    (W : World) (hJ : AbidesFrom W.heap.size J) (hm : W.cell? ⟨Bm, 0, none⟩ = some (.map (some b))) (hown : W.ownsMap Try.prog 3 (plainElem Try.prog 3) b nn D0) (h0 : J [] W) :
    CallsIn F n Try.prog 46 #[.func (.yield l) #[] #[], .pointer (some ⟨Bm, 0, none⟩)] W fun e W' => (∃ v, e = .returned v) ∧ ∃ ps : List Alm, CollectedI D0 (fun _ => false) (idsA ps) ∧ (∀ p ∈ ps, ∀ zd, D0.atKey (.int .i64 p.1) zd = .lit (.int .i64 p.2)) ∧ J (ps.map (·.2)) W' := by
  refine callsIn_of_wp Try.func46 rfl h10 ?_ hro
  simp only [Try.ntmps46, List.size_toArray, List.length_cons, List.length_nil, Nat.reduceAdd, Nat.reduceSub, Array.replicate_succ, Array.replicate_zero, List.push_toArray, List.append_toArray, List.nil_append, List.cons_append]
  gi_wp2_with (first
    | (gi_at_range; refine wpListIn_range_own _ rfl _ 32 rfl 3 3 key3 Try.underlying32 _ b nn _ rfl hown ?_; intro w0 hrg0 hg0 hs0)
    | gi_in)
  go_frame
  gi_loopw [4] (fun _ wr => ∃ (left : Lit → Bool) (cnt : Nat) (ps : List Alm), wr.ranges Try.prog 3 (plainElem Try.prog 3) b W.heap.size nn D0 left cnt ∧ ps.length + cnt ≤ Maps.size D0 ∧ CollectedI D0 left (idsA ps) ∧ (∀ p ∈ ps, ∀ zd, D0.atKey (.int .i64 p.1) zd = .lit (.int .i64 p.2)) ∧ J (ps.map (·.2)) wr)
    (fun _ wr => wr.rangeLeft b W.heap.size)
  case atStart =>
    exact ⟨_, _, [], hrg0, by simp, CollectedI.start D0, (fun p h => by cases h), hJ [] W w0 none h0 hg0 (fun r e => by cases e)⟩
  case round =>
    obtain ⟨left, cnt, ps, hrg, hcs, hC, hV, hJs⟩ := hrel
    gi_wp2_with (first
      | (gi_at_next; refine wpListIn_next_ranges_ii _ rfl _ rfl 3 3 .i64 .i64 key3 Try.underlying3 Try.underlying3 b W.heap.size nn _ _ _ rfl hrg ?_ ?_)
      | gi_in)
    · intro hc0 hl0
      gi_wp2
      go_end0
      exact ⟨⟨_, rfl⟩, ps, ⟨hC.1, fun x => by rw [hC.2 x, hl0]⟩, hV, hJs⟩
    · intro x c w2 cnt2 hwx hwc hlk hat hrg2 hlt hg2 hs2 hen
      have hJ2 : J (ps.map (·.2)) w2 := hJ _ wr w2 (some W.heap.size) hJs hg2 (fun r e => by cases e; exact ⟨Nat.le_refl _, hrg.iter_walk⟩)
      obtain ⟨fn, tmps, assign, body, hy, hR⟩ := hY (ps.map (·.2)) c w2 hJ2 (by simp; omega)
      clear hs2
      gi_wp2
      refine hR.mono ?_
      have hC2 : CollectedI D0 (fun z => left z && !z.sameKey (.int .i64 x)) (idsA (ps ++ [(x, c)])) := by
        have := hC.step hlk hat
        simpa [idsA] using this
      have hV2 : ∀ p ∈ ps ++ [(x, c)], ∀ zd, D0.atKey (.int .i64 p.1) zd = .lit (.int .i64 p.2) := fun p hp => (List.mem_append.1 hp).elim (hV p) (fun e => by rw [List.mem_singleton.1 e]; exact hat)
      rintro e W3 ⟨rfl, hJ3, hk3⟩
      gi_wp2
      have hrg3 := hrg2.of_walks hk3
      go_roundw
      case rel => exact ⟨_, cnt2, ps ++ [(x, c)], hrg3, by simp; omega, hC2, hV2, by simpa using hJ3⟩
      case measure => rw [hrg3.left_eq, hrg.left_eq]; exact hlt
theorem ticks_perm {D : DataW Unit} {L ps : List Alm} (hL : MapL D L) (hC : CollectedI D (fun _ => false) (idsA ps)) (hV : ∀ p ∈ ps, ∀ zd, D.atKey (.int .i64 p.1) zd = .lit (.int .i64 p.2)) : (ps.map (·.2)).Perm (L.map (·.2)) := by
  have n1 : ps.Nodup := by
    have := hC.1
    unfold idsA at this
    exact (List.pairwise_map.1 this).imp fun {a b} h e => h (by rw [e])
  have n2 : L.Nodup := by
    have := hL.1
    unfold idsA at this
    exact (List.pairwise_map.1 this).imp fun {a b} h e => h (by rw [e])
  have hval : ∀ p ∈ ps, valA L p.1 = p.2 := fun p hp => by
    have h1 := hL.2.2 p.1
    rw [hV p hp] at h1
    simpa using h1.symm
  refine ((List.perm_ext_iff_of_nodup n1 n2).2 fun p => ⟨fun hp => ?_, fun hp => ?_⟩).map _
  · have h1 : p.1 ∈ idsA L := by
      rw [← hL.2.1 p.1]
      exact ((hC.2 p.1).1 (List.mem_map.2 ⟨p, hp, rfl⟩)).1
    obtain ⟨y, hy, e⟩ := List.mem_map.1 h1
    have h2 := valA_mem hL.1 hy
    rw [e, hval p hp] at h2
    have : p = y := Prod.ext e.symm h2
    rw [this]; exact hy
  · have h1 : p.1 ∈ idsA ps := (hC.2 p.1).2 ⟨(hL.2.1 p.1).2 (List.mem_map.2 ⟨p, hp, rfl⟩), rfl⟩
    obtain ⟨y, hy, e⟩ := List.mem_map.1 h1
    have h2 := hval y hy
    rw [e, valA_mem hL.1 hp] at h2
    have : p = y := Prod.ext e.symm h2
    rw [this]; exact hy
theorem values_spec (w : World) (b : Nat) : Calls Try.prog 41 #[.map (some b)] w fun e w' => e = .returned (.func (.func 46) #[] #[.pointer (some ⟨w.heap.size, 0, none⟩)]) ∧ w.alloc (.cells #[.map (some b)] 32) = w' := by
  go_enter Try.func41, Try.ntmps41
  go_wp2
  go_ret
  exact ⟨rfl, rfl⟩
theorem ticks_spec (w : World) (b n Bm : Nat) (D : DataW Unit) (L : List Alm) (hown : w.ownsMap Try.prog 3 (plainElem Try.prog 3) b n D) (hL : MapL D L) (hm : w.cell? ⟨Bm, 0, none⟩ = some (.map (some b))) (hlen : L.length ≤ 1000000) :
    Calls Try.prog 40 #[.func (.func 46) #[] #[.pointer (some ⟨Bm, 0, none⟩)]] w fun e w' => ∃ v ts, e = .returned v ∧ Upd Non w w' ∧ ts.Perm (L.map (·.2)) ∧ Rd intE w' (New w w') v ts := by
  obtain ⟨hperm, hsize⟩ := size_of hown hL
  have hBm := World.block_lt_of_cell? w _ hm
  have hseq : SeqGives Fence.wide 1 Try.prog 46 #[.pointer (some ⟨Bm, 0, none⟩)] encZ (fun ts => ts.Perm (L.map (·.2))) (Maps.size D) w := fun l J W hW hJ hY h0 => by
    have hu := Upd.of_below (S := Non) hW
    refine (values1N_in Fence.wide 1 trivial rfl (by omega) l Bm b n D J hY W hJ ((hu.cell (p := ⟨Bm, 0, none⟩) hBm id).trans hm) (owns_upd hown (hu.block b hown.lt id)) h0).mono ?_
    rintro e W' ⟨he, ps, hC, hV, hJs⟩
    exact ⟨he, _, ticks_perm hL hC hV, hJs⟩
  have hcol := callsIn_wide.1 (AnyZI.collect_in laysCollect Fence.wide 3 trivial trivial rfl (by omega) 46 #[.pointer (some ⟨Bm, 0, none⟩)] trivial (enters_of Try.func46 (by kernel_rfl) rfl) (fun ts => ts.Perm (L.map (·.2))) (Maps.size D) (by rw [hsize, maxLen_eq]; omega) (by rw [hsize]; omega) w hseq)
  refine hcol.mono ?_
  rintro e w' ⟨v, ts, rfl, hp, hrow, hnil, hbe⟩
  refine ⟨v, ts, rfl, Upd.of_below hbe, hp, ?_⟩
  rcases hrow.2 with ⟨rfl, h0⟩ | ⟨g, cap, cur, rfl, hbase, hblk, h1, h2, h3, h4⟩
  · have : ts = [] := List.length_eq_zero_iff.1 h0
    subst this
    exact Rd.nil _ _ _
  · refine ⟨some ⟨g, 0, none⟩, cap, ts.map encZ, rfl, h1, h2, fun _ => ⟨g, 0, rfl, ⟨hbase, blk_lt hblk⟩, fun j hj => ?_⟩, rel_ints _ _ _⟩
    have hj' : j < ts.length := by simpa using hj
    rw [(holds_of_block_i hblk (by simpa using h4) j (by simpa using hj')).1, getElem!_pos ts.toArray j (by simpa using hj'), List.getElem?_map, List.getElem?_eq_getElem hj']
    rfl
end Go.Proofs.Ytgjikmpeeipboaa
