/-
  What is due.
-/
import Derived.Test.YtgjikmpeeipboaaC4
namespace Go.Proofs.Ytgjikmpeeipboaa
open Go.RowKit
theorem info3 : (Try.prog.info? 3).map (fun i => (i.zero, i.size, i.bytes)) = some (some (.int .i64 0), 1, 8) := by kernel_rfl
/-- what is due, what stays -/
def dueA (L : List Alm) (t : Int) : List Alm := L.filter fun y => decide (y.2 ≤ t)
def restA (L : List Alm) (t : Int) : List Alm := L.filter fun y => !decide (y.2 ≤ t)
def delIn (L : List Alm) (l : List Int) : List Alm := L.filter fun y => !decide (y.1 ∈ l)
theorem delIn_nil (L : List Alm) : delIn L [] = L := by simp [delIn]
theorem delIn_step (L : List Alm) (l : List Int) (k : Nat) (h : k < l.length) : delL (delIn L (l.take k)) l[k] = delIn L (l.take (k + 1)) := by
  unfold delL delIn
  rw [List.filter_filter]
  congr 1
  funext y
  have hm : y.1 ∈ l.take (k + 1) ↔ y.1 ∈ l.take k ∨ y.1 = l[k] := by rw [take_snoc l k h, List.mem_append, List.mem_singleton]
  rw [Bool.eq_iff_iff]
  simp only [Bool.and_eq_true, Bool.not_eq_true', decide_eq_false_iff_not, beq_eq_false_iff_ne, hm]
  constructor
  · rintro ⟨h1, h2⟩ (h3 | h3)
    · exact h2 h3
    · exact h1 h3
  · exact fun h1 => ⟨fun h2 => h1 (.inr h2), fun h2 => h1 (.inl h2)⟩
theorem delIn_due {L : List Alm} (hn : (idsA L).Nodup) (t : Int) : delIn L (idsA (dueA L t)) = restA L t := by
  unfold delIn restA
  refine List.filter_congr fun y hy => ?_
  have : y.1 ∈ idsA (dueA L t) ↔ y.2 ≤ t := by
    unfold idsA dueA
    rw [List.mem_map]
    constructor
    · rintro ⟨z, hz, e⟩
      obtain ⟨h1, h2⟩ := List.mem_filter.1 hz
      have e1 := valA_mem hn h1
      have e2 := valA_mem hn hy
      rw [e, e2] at e1
      rw [e1]
      exact of_decide_eq_true h2
    · exact fun h => ⟨y, List.mem_filter.2 ⟨hy, decide_eq_true h⟩, rfl⟩
  simp [this]
theorem due_step (L : List Alm) (t : Int) (k : Nat) (h : k < L.length) : idsA (dueA (L.take (k + 1)) t) = if L[k].2 ≤ t then idsA (dueA (L.take k) t) ++ [L[k].1] else idsA (dueA (L.take k) t) := by
  unfold dueA idsA
  rw [take_snoc L k h, List.filter_append]
  split <;> rename_i h1 <;> simp [h1]

def DuePost (w : World) (p b n : Nat) (t : Int) (L : List Alm) (e : Ending) (w' : World) : Prop :=
  ∃ v, e = .returned v ∧ Rd intE w' (New w w') v (idsA (dueA L t)) ∧ Upd (fun q => q = b) w w' ∧ ClkAt w' p b n t (restA L t)
theorem keys_spec (w : World) (b : Nat) : Calls Try.prog 32 #[.map (some b)] w fun e w' => e = .returned (.func (.func 43) #[] #[.pointer (some ⟨w.heap.size, 0, none⟩)]) ∧ w' = w.alloc (.cells #[.map (some b)] 32) :=
  callsIn_wide.1 (AnyZI.keys_in laysKeys Fence.wide 3 trivial rfl (some b) w)
theorem Rd.int {w : World} {F : Nat → Prop} {v : Value} {xs : List Int} (h : Rd intE w F v xs) {k : Nat} (hk : k < xs.length) : ∃ b o c, v = .slice (some ⟨b, o, none⟩) xs.length c ∧ xs.length ≤ c ∧ F b ∧ w.cell? ⟨b, o + k, none⟩ = some (.int .i64 xs[k]) := by
  obtain ⟨b, o, c, l, hv, hc, hf, hl, hg⟩ := h.get hk (by decide)
  have hl : l = [.int .i64 xs[k]] := hl
  subst hl
  exact ⟨b, o, c, hv, hc, hf, by simpa [intE] using hg 0 (by decide)⟩
set_option maxRecDepth 100000 in
set_option maxHeartbeats 1000000 in
theorem due_spec (w : World) (p b n : Nat) (t : Int) (L : List Alm) (h : ClkAt w p b n t L) (hlen : L.length ≤ 1000000) : Calls Try.prog 15 #[.pointer (some ⟨p, 0, none⟩)] w (DuePost w p b n t L) := by
  obtain ⟨hblk, hpb, ⟨D, hown, hL⟩, srt, hib⟩ := id h
  have hplt := blk_lt hblk
  have hblt := hown.lt
  -- the box of c, the box of the map
  have hW : ∀ W, W = w.alloc (.cells #[.pointer (some ⟨p, 0, none⟩)] 30) → Upd Non w W ∧ W.heap.size = w.heap.size + 1 ∧ W.heap[w.heap.size]? = some (.cells #[.pointer (some ⟨p, 0, none⟩)] 30 (0, 0)) := fun W e => by
    subst e; exact box_facts w _ _
  obtain ⟨hu1, hs1, hb1⟩ := hW _ rfl
  have c0 : (w.alloc (.cells #[.pointer (some ⟨p, 0, none⟩)] 30)).cell? ⟨p, 0, none⟩ = some (.int .i64 t) := (hu1.cell (p := ⟨p, 0, none⟩) hplt id).trans (blk_at hblk 0)
  have c1 : (w.alloc (.cells #[.pointer (some ⟨p, 0, none⟩)] 30)).cell? ⟨p, 1, none⟩ = some (.map (some b)) := (hu1.cell (p := ⟨p, 1, none⟩) hplt id).trans (blk_at hblk 1)
  have cb : (w.alloc (.cells #[.pointer (some ⟨p, 0, none⟩)] 30)).cell? ⟨w.heap.size, 0, none⟩ = some (.pointer (some ⟨p, 0, none⟩)) := blk_at hb1 0
  have HK := keys_spec (w.alloc (.cells #[.pointer (some ⟨p, 0, none⟩)] 30)) b
  obtain ⟨W1, hW1⟩ : ∃ W, W = w.alloc (.cells #[.pointer (some ⟨p, 0, none⟩)] 30) := ⟨_, rfl⟩
  rw [← hW1] at hu1 hs1 hb1 c0 c1 cb HK
  have hu2 : Upd Non w (W1.alloc (.cells #[.map (some b)] 32)) := hu1.alloc _
  have hs2 : (W1.alloc (.cells #[.map (some b)] 32)).heap.size = w.heap.size + 2 := by simp [hs1]
  have cm : (W1.alloc (.cells #[.map (some b)] 32)).cell? ⟨w.heap.size + 1, 0, none⟩ = some (.map (some b)) := by
    have := blk_at (heap_alloc_new W1 (.cells #[.map (some b)] 32)) 0
    rw [hs1] at this; exact this
  have hSees : Sees (W1.alloc (.cells #[.map (some b)] 32)) w.heap.size p b D :=
    ⟨(((Upd.refl Non W1).alloc _).cell (p := ⟨w.heap.size, 0, none⟩) (blk_lt hb1) id).trans cb, (((Upd.refl Non W1).alloc _).cell (p := ⟨p, 1, none⟩) (by rw [hs1]; show p < _; omega) id).trans c1, n, owns_upd hown (hu2.block b hblt id)⟩
  have HS := sortedFunc_spec (W1.alloc (.cells #[.map (some b)] 32)) w.heap.size p b n (w.heap.size + 1) D L hSees (owns_upd hown (hu2.block b hblt id)) hL srt hib cm hlen
  have hsz1 : W1.heap.size = w.heap.size + 1 := hs1
  rw [hsz1] at HK
  have HK2 : Calls Try.prog 32 #[.map (some b)] W1 fun e w' => e = .returned (.func (.func 43) #[] #[.pointer (some ⟨w.heap.size + 1, 0, none⟩)]) ∧ W1.alloc (.cells #[.map (some b)] 32) = w' := HK.mono fun _ _ h => ⟨h.1, h.2.symm⟩
  clear HK
  obtain ⟨W2, hW2⟩ : ∃ W, W = W1.alloc (.cells #[.map (some b)] 32) := ⟨_, rfl⟩
  rw [← hW2] at hu2 hs2 cm hSees HS HK2
  have d1 : w.cell? ⟨p, 1, none⟩ = some (.map (some b)) := blk_at hblk 1
  clear h cm hs2
  go_enter Try.func15, Try.ntmps15
  go_wp2_with fail
  rw [← hW1]
  clear hW1 hW2
  go_wp2_with (first
    | (go_at_call 32; (with_reducible refine HK2.mono ?_); rintro e w2 ⟨rfl, rfl⟩; clear HK2)
    | (go_at_call 31; (with_reducible refine HS.mono ?_); rintro e w3 ⟨v, rfl, hu3, hrd⟩; clear HS; obtain ⟨A, c, rfl, hc1, hc2⟩ := hrd.shape))
  have hux : Upd Non w w3 := hu2.trans hu3
  have hx0 : w3.cell? ⟨p, 0, none⟩ = some (.int .i64 t) := (hux.cell (p := ⟨p, 0, none⟩) hplt id).trans (blk_at hblk 0)
  have hS3 : Sees w3 w.heap.size p b D := hSees.upd hu3 id id id
  have hown3 := owns_upd hown (hux.block b hblt id)
  have hsz3 := hux.size
  have hF3 : Fin w3 (New W2 w3) := Fin.new
  have hz3 := hu3.size
  have hll : (idsA L).length = L.length := by simp [idsA]
  generalize hNN : (idsA L).length = N at hll hc1 ⊢
  have HN := Lib.hid hNN
  have HL := Lib.hid hll
  have hN6 : N ≤ 1000000 := by omega
  clear hNN hll
  go_loopw [4, 18] (fun o i wr => ∃ k : Nat, k ≤ N ∧ i = .int .i64 k ∧ Own intE 3 wr (New w3 wr) o (idsA (dueA (L.take k) t)) ∧ Upd Non w3 wr) (fun _ i _ => N - (intOf i).toNat)
  case atStart => exact ⟨0, by omega, rfl, by simpa [dueA, idsA] using Own.nil intE 3 w3 (New w3 w3), Upd.refl _ _⟩
  case round =>
    obtain ⟨k, hk, rfl, ho, hur⟩ := hrel
    have hFw : Fin wr (New w3 wr) := Fin.new
    by_cases hkl : k < N
    · have hkl' : k < (idsA L).length := by rw [HN.out]; exact hkl
      have hkL : k < L.length := by rw [← HL.out]; exact hkl
      have hLk : (idsA L)[k] = L[k].1 := by simp [idsA]
      obtain ⟨b1, o1, c1', e1, _, hF1, m0⟩ := (hrd.upd hur (Upd.fr_non hF3)).int hkl'
      rw [HN.out] at e1
      cases e1
      have hmem := List.getElem_mem hkL
      have hxb := (hib _ hmem).1
      have hval := valA_mem hL.1 hmem
      have S0 := fun W (hu : Upd Non wr W) => sees_facts (hS3.upd (hur.trans hu) id id id) hL hxb hxb
      have hx0r := fun W (hu : Upd Non wr W) => (((hur.trans hu).cell (p := ⟨p, 0, none⟩) (by show p < _; omega) id).trans hx0)
      have hstep := due_step L t k hkL
      rw [hLk] at m0
      rw [hval] at S0
      have hdl : (idsA (dueA (L.take k) t)).length ≤ 1000000 := by
        have h1 : (idsA (dueA (L.take k) t)).length ≤ (L.take k).length := by simp only [idsA, dueA, List.length_map]; exact List.length_filter_le _ _
        have h2 : (L.take k).length ≤ L.length := by simp; omega
        omega
      generalize L[k].1 = x at m0 hxb S0 hstep
      generalize L[k].2 = y at S0 hstep
      have Q0 : (wr.drew.cell? ⟨w.heap.size, 0, none⟩ = some (.pointer (some ⟨p, 0, none⟩)) ∧ wr.drew.cell? ⟨p, 1, none⟩ = some (.map (some b)) ∧ (Instr.lookup 32 (.map (some b)) (.int .i64 x) false).run Try.prog wr.drew = .ok (.int .i64 y) wr.drew) ∧ wr.drew.cell? ⟨p, 0, none⟩ = some (.int .i64 t) :=
        ⟨⟨(S0 wr.drew ((Upd.refl _ _).drew)).1, (S0 wr.drew ((Upd.refl _ _).drew)).2.1, (S0 wr.drew ((Upd.refl _ _).drew)).2.2.1⟩, hx0r wr.drew ((Upd.refl _ _).drew)⟩
      have hul : ∀ o, Upd Non w3 ((wr.alloc o).drew) := fun o => (hur.alloc o).drew
      clear S0 hx0r hval hLk
      by_cases hd : y ≤ t
      · have t1 : decide (y ≤ t) = true := decide_eq_true hd
        rw [if_pos hd] at hstep
        have HS := Lib.hid hstep
        have hal : Own intE 3 ((wr.alloc (.cells #[.int .i64 x] 3)).drew) (New w3 wr) u4 (idsA (dueA (L.take k) t)) := (ho.alloc hFw _).drew
        have hat : At ((wr.alloc (.cells #[.int .i64 x] 3)).drew) (fun k => k = wr.heap.size) (some ⟨wr.heap.size, 0, none⟩) [.int .i64 x] := (at_box wr #[.int .i64 x] 3).keep fun _ _ => rfl
        have hFw' : Fin ((wr.alloc (.cells #[.int .i64 x] 3)).drew) (New w3 wr) := hFw.upd (((Upd.refl Non wr).alloc _).drew)
        have hul2 := hul (.cells #[.int .i64 x] 3)
        have hsw : (wr.alloc (.cells #[.int .i64 x] 3)).drew.heap.size = wr.heap.size + 1 := by show (wr.alloc _).heap.size = _; simp
        have hsr := hur.size
        clear hstep hul ho
        go_wp2_with fail
        go_region_held3 (fun W' => (W'.cell? ⟨w.heap.size, 0, none⟩ = some (.pointer (some ⟨p, 0, none⟩)) ∧ W'.cell? ⟨p, 1, none⟩ = some (.map (some b)) ∧ (Instr.lookup 32 (.map (some b)) (.int .i64 x) false).run Try.prog W' = .ok (.int .i64 y) W') ∧ W'.cell? ⟨p, 0, none⟩ = some (.int .i64 t))
          (first | exact Q0) (first | fail)
        go_wp2_with (at_builtin; refine wpList_append (E := intE) (e := 3) (F := New w3 wr) (ys := [x]) _ rfl (.tmp 33) (.tmp 35) 29 rfl (.int .i64 0) 8 Try.underlying29 info3 rfl (by decide) rfl hal (some ⟨wr.heap.size, 0, none⟩) 1 rfl [.int .i64 x] Non hat ⟨[.int .i64 x], [], rfl, rfl, rfl⟩ (fun k h => h.elim) hFw' (by rw [maxLen_eq]; simp; omega) (by simp; omega) ?_; intro v' w' hu' ho')
        go_roundw
        case rel =>
          refine ⟨k + 1, by omega, by go_num, ?_, hul2.trans' hu' fun x hx h => by have := h.1; omega⟩
          rw [HS.out]
          refine ho'.mono fun q hq => ?_
          have hsu := hu'.size
          rcases hq with hq | hq | hq
          · exact ⟨hq.1, by have := hq.2; omega⟩
          · exact hq.elim
          · exact ⟨by have := hq.1; omega, hq.2⟩
        case measure => simp [intOf]; omega
      · have t1 : decide (y ≤ t) = false := decide_eq_false hd
        rw [if_neg hd] at hstep
        have HS := Lib.hid hstep
        clear hstep hul
        go_wp2_with fail
        go_region_held3 (fun W' => (W'.cell? ⟨w.heap.size, 0, none⟩ = some (.pointer (some ⟨p, 0, none⟩)) ∧ W'.cell? ⟨p, 1, none⟩ = some (.map (some b)) ∧ (Instr.lookup 32 (.map (some b)) (.int .i64 x) false).run Try.prog W' = .ok (.int .i64 y) W') ∧ W'.cell? ⟨p, 0, none⟩ = some (.int .i64 t))
          (first | exact Q0) (first | fail)
        go_wp2_with fail
        go_roundw
        case rel => exact ⟨k + 1, by omega, by go_num, by rw [HS.out]; exact ho.drew, hur.drew⟩
        case measure => simp [intOf]; omega
    · obtain rfl : k = N := by omega
      obtain ⟨w4, hw4⟩ : ∃ W, W = wr := ⟨_, rfl⟩
      subst hw4
      have htk : L.take k = L := List.take_of_length_le (by rw [← HL.out]; omega)
      rw [htk] at ho
      obtain ⟨dl, hdl⟩ : ∃ dl, dl = idsA (dueA L t) := ⟨_, rfl⟩
      have hdlm : ∀ x ∈ dl, IB x := fun x hx => by
        rw [hdl] at hx
        obtain ⟨y, hy, rfl⟩ := List.mem_map.1 hx
        exact (hib y (List.mem_filter.1 hy).1).1
      have hdlr : delIn L dl = restA L t := by rw [hdl]; exact delIn_due hL.1 t
      have hM6 : dl.length ≤ 1000000 := by
        have h1 : (idsA (dueA L t)).length ≤ L.length := by simp only [idsA, dueA, List.length_map]; exact List.length_filter_le _ _
        rw [hdl]; omega
      rw [← hdl] at ho
      have HD := Lib.hid hdl
      have hrest : ∀ y ∈ restA L t, IB y.1 ∧ IB y.2 := fun y hy => hib y (List.mem_filter.1 hy).1
      have hsrt : SrtA (restA L t) := srt.filter _
      have hL' := hL
      clear hdl htk hL HL HN hib hrd
      have hML : ∃ D', w4.ownsMap Try.prog 3 (plainElem Try.prog 3) b n D' ∧ MapL D' (delIn L (dl.take 0)) := ⟨D, owns_upd hown3 (hur.block b (by omega) id), by rw [List.take_zero, delIn_nil]; exact hL'⟩
      obtain ⟨A4, c4, rfl, hc3, hc4⟩ := ho.shape
      have hrdo := ho.rd
      generalize hMM : dl.length = M at hc3 hM6 ⊢
      have HM := Lib.hid hMM
      clear hMM ho
      have hux4 : Upd Non w w4 := hux.trans hur
      have y0 := fun W (hu : Upd (fun q => q = b) w4 W) => (hu.cell (p := ⟨w.heap.size, 0, none⟩) (by show w.heap.size < _; have := World.block_lt_of_cell? w3 _ hS3.1; have h2 : w.heap.size < w3.heap.size := this; have := hur.size; omega) (by show ¬ w.heap.size = b; omega)).trans ((hS3.upd hur id id id).1)
      have y1 := fun W (hu : Upd (fun q => q = b) w4 W) => (hu.cell (p := ⟨p, 1, none⟩) (by show p < _; have := hux4.size; omega) hpb).trans ((hS3.upd hur id id id).2.1)
      have hblk4 := (hux4.block p hplt id).trans hblk
      go_wp2_with fail
      go_loopw [40] (fun i wr => ∃ j : Nat, j ≤ M ∧ i = .int .i64 j ∧ (∃ D', wr.ownsMap Try.prog 3 (plainElem Try.prog 3) b n D' ∧ MapL D' (delIn L (dl.take j))) ∧ Upd (fun q => q = b) w4 wr) (fun i _ => M - (intOf i).toNat)
      case atStart => exact ⟨0, by omega, rfl, hML, Upd.refl _ _⟩
      case round =>
        obtain ⟨j, hj, rfl, ⟨D', hown', hL2⟩, hul⟩ := hrel
        by_cases hjl : j < M
        · have hjl' : j < dl.length := by rw [HM.out]; exact hjl
          have hnb : ∀ q, New w3 w4 q → q ≠ b := fun q hq e => by have := hq.1; omega
          obtain ⟨b2, o2, c2', e2, _, hF2, m2⟩ := (hrdo.upd hul fun q hq => ⟨hFw q hq, hnb q hq⟩).int hjl'
          rw [HM.out] at e2
          cases e2
          have hxb := hdlm _ (List.getElem_mem hjl')
          have hst := delIn_step L dl j hjl'
          have hLs := hL2.del dl[j]
          rw [hst] at hLs
          have z0 := y0 wr hul
          have z1 := y1 wr hul
          generalize dl[j] = x at m2 hxb hLs
          have hk := key3_of hxb
          clear hst y0 y1
          go_wp2_with (at_delete; refine wpList_delete_own _ rfl _ _ 32 3 rfl 3 key3 Try.underlying32 _ b n D' rfl hown' _ _ rfl hk ?_; intro w5 hown5 ht5)
          go_roundw
          case rel => exact ⟨j + 1, by omega, by go_num, ⟨_, hown5, hLs⟩, hul.trans (mapTurned_upd ht5)⟩
          case measure => simp [intOf]; omega
        · obtain rfl : j = M := by omega
          have htk : dl.take j = dl := List.take_of_length_le (by rw [HM.out]; omega)
          rw [htk, hdlr] at hL2
          have hnb : ∀ q, New w3 w4 q → q ≠ b := fun q hq e => by have := hq.1; omega
          have hsl := hul.size
          have hrdf := (hrdo.upd hul fun q hq => ⟨hFw q hq, hnb q hq⟩).mono (G := New w wr) fun q hq => ⟨by have := hq.1; omega, by have := hq.2; omega⟩
          have huf : Upd (fun q => q = b) w wr := (hux4.mono fun _ _ h => h.elim).trans hul
          have hfin : DuePost w p b n t L (.returned (.slice A4 dl.length c4)) wr := ⟨_, rfl, by rw [← HD.out]; exact hrdf, huf, (hul.block p (by have := hux4.size; omega) hpb).trans hblk4, hpb, ⟨_, hown', hL2⟩, hsrt, hrest⟩
          rw [HM.out] at hfin
          go_wp2_with fail
          go_ret
          exact hfin
end Go.Proofs.Ytgjikmpeeipboaa
