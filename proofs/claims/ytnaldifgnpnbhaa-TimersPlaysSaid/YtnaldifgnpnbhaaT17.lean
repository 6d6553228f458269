/-
  The walks of the law package's of, of the document's Less, of Least.
-/
import Derived.Test.YtnaldifgnpnbhaaT16
namespace Go.Proofs.Ytnaldifgnpnbhaa
open Go.RowKit Go.Maps

def OfPost (w : World) (x : It) (e : Ending) (w' : World) : Prop := e = .returned (.agg x.cells.toArray) ∧ Upd Non w w'
theorem of_spec (w : World) (x : It) : Calls Try.prog 17 #[.agg x.cells.toArray] w (OfPost w x) := by
  have hfin : ∀ w', Upd Non w w' → OfPost w x (.returned (.agg #[.int .i64 x.at_, .int .i64 x.flow, .int .i64 x.run, .int .i64 x.ref, .int .i64 x.turn, .int .i64 x.kind])) w' := fun w' h => ⟨rfl, h⟩
  simp only [It.cells]
  go_enter Try.func17, Try.ntmps17
  go_wp2
  exact bodyPost_ret (v := .agg #[.int .i64 x.at_, .int .i64 x.flow, .int .i64 x.run, .int .i64 x.ref, .int .i64 x.turn, .int .i64 x.kind]) (by simp [results, Try.results17, go_sem]) rfl (hfin _ (((Upd.refl _ _).alloc _).alloc _))

theorem nums_get (x : It) : x.nums.length = 6 := rfl
def RlPost (w : World) (r : Bool) (e : Ending) (w' : World) : Prop := e = .returned (.bool r) ∧ Upd Non w w'
set_option maxRecDepth 100000 in
set_option maxHeartbeats 1000000 in
theorem rless_spec (w : World) (a b : It) : Calls Try.prog 16 #[.agg a.cells.toArray, .agg b.cells.toArray] w (RlPost w (ltB a b)) := by
  obtain ⟨r, hr⟩ : ∃ r, ltB a b = r := ⟨_, rfl⟩
  rw [hr]
  have hr' : r = decide (cmpL a.nums b.nums < 0) := by rw [← hr]; rfl
  have HR := Lib.hid hr'
  clear hr hr'
  obtain ⟨W, hW⟩ : ∃ W, W = (((w.alloc (.cells a.cells.toArray 40)).alloc (.cells b.cells.toArray 40)).alloc (.cells a.cells.toArray 3)).alloc (.cells b.cells.toArray 3) := ⟨_, rfl⟩
  have hu : Upd Non w W := by rw [hW]; exact ((((Upd.refl _ _).alloc _).alloc _).alloc _).alloc _
  have hb3 : W.heap[w.heap.size + 3]? = some (.cells b.cells.toArray 3 (0, 0)) := by
    have := heap_alloc_new (((w.alloc (.cells a.cells.toArray 40)).alloc (.cells b.cells.toArray 40)).alloc (.cells a.cells.toArray 3)) (.cells b.cells.toArray 3)
    simp only [World.size_alloc] at this
    rw [hW]; exact this
  have hb2 : W.heap[w.heap.size + 2]? = some (.cells a.cells.toArray 3 (0, 0)) := by
    have := heap_alloc_new ((w.alloc (.cells a.cells.toArray 40)).alloc (.cells b.cells.toArray 40)) (.cells a.cells.toArray 3)
    simp only [World.size_alloc] at this
    rw [hW]; exact (Below.heap_alloc _ _ _ (by simp only [World.size_alloc]; omega)).trans this
  have hca : ∀ wr, Upd Non W wr → ∀ k (hk : k < a.nums.length), wr.cell? ⟨w.heap.size + 2, k, none⟩ = some (.int .i64 a.nums[k]) := fun wr hw k hk => by
    rw [blk_at ((hw.block _ (blk_lt hb2) id).trans hb2)]
    match k, hk with
    | 0, _ => rfl
    | 1, _ => rfl
    | 2, _ => rfl
    | 3, _ => rfl
    | 4, _ => rfl
    | 5, _ => rfl
  have hcb : ∀ wr, Upd Non W wr → ∀ k (hk : k < b.nums.length), wr.cell? ⟨w.heap.size + 3, k, none⟩ = some (.int .i64 b.nums[k]) := fun wr hw k hk => by
    rw [blk_at ((hw.block _ (blk_lt hb3) id).trans hb3)]
    match k, hk with
    | 0, _ => rfl
    | 1, _ => rfl
    | 2, _ => rfl
    | 3, _ => rfl
    | 4, _ => rfl
    | 5, _ => rfl
  have hla : a.nums.length = 6 := rfl
  have hlb : b.nums.length = 6 := rfl
  generalize a.nums = na at HR hca hla
  generalize b.nums = nb at HR hcb hlb
  have HA := Lib.hid hla
  have HB := Lib.hid hlb
  simp only [It.cells] at hW ⊢
  clear hb2 hb3 hla hlb
  go_enter Try.func16, Try.ntmps16
  go_wp2_with fail
  rw [← hW]
  clear hW
  go_loopw [7] (fun i wr => ∃ k : Nat, k ≤ 6 ∧ i = .int .i64 k ∧ Upd Non W wr ∧ Hid (r = decide (cmpL (na.drop k) (nb.drop k) < 0))) (fun i _ => 6 - (intOf i).toNat)
  case atStart => exact ⟨0, by omega, rfl, Upd.refl _ _, Lib.hid (by rw [HR.out]; simp)⟩
  case round =>
    obtain ⟨k, hk, rfl, huw, hrr⟩ := hrel
    by_cases hlt : k < 6
    · have hka : k < na.length := by rw [HA.out]; exact hlt
      have hkb : k < nb.length := by rw [HB.out]; exact hlt
      have m1 := hca wr huw k hka
      have m2 := hcb wr huw k hkb
      have hstep : r = decide ((if na[k] < nb[k] then (-1 : Int) else if nb[k] < na[k] then 1 else cmpL (na.drop (k + 1)) (nb.drop (k + 1))) < 0) := by
        rw [hrr.out, List.drop_eq_getElem_cons hka, List.drop_eq_getElem_cons hkb]; rfl
      have HS := Lib.hid hstep
      clear hstep hrr
      obtain ⟨x, hx⟩ : ∃ x, na[k] = x := ⟨_, rfl⟩
      obtain ⟨y, hy⟩ : ∃ y, nb[k] = y := ⟨_, rfl⟩
      rw [hx] at m1 HS
      rw [hy] at m2 HS
      clear hx hy hca hcb
      by_cases hxy : x = y
      · subst hxy
        have hr2 : r = decide (cmpL (na.drop (k + 1)) (nb.drop (k + 1)) < 0) := by rw [HS.out, if_neg (by omega), if_neg (by omega)]
        have HR2 := Lib.hid hr2
        clear hr2 HS
        go_wp2_with fail
        go_quiet (fail)
        go_wp2
        go_roundw
        case rel => exact ⟨k + 1, by omega, by go_num, huw.drewN _, HR2⟩
        case measure => simp [intOf]; omega
      · have hr2 : decide (x < y) = r := by
          rw [HS.out]
          by_cases h1 : x < y
          · simp [h1]
          · have h2 : y < x := by omega
            simp [h1, h2]
        have hne : (x == y) = false := by simpa using hxy
        have HR2 := Lib.hid hr2
        clear hr2 HS
        go_wp2_with fail
        go_quiet (fail)
        go_wp2_with fail
        go_quiet (fail)
        go_wp2
        go_ret
        exact ⟨by rw [← HR2.out]; rfl, (hu.trans (huw.drewN _)).drewN _⟩
    · obtain rfl : k = 6 := by omega
      have hr2 : r = false := by
        rw [hrr.out, List.drop_eq_nil_of_le (by rw [HA.out]; omega), List.drop_eq_nil_of_le (by rw [HB.out]; omega)]; rfl
      have HR2 := Lib.hid hr2
      clear hr2 hrr
      go_wp2
      go_ret
      exact ⟨by rw [HR2.out]; rfl, hu.trans huw⟩

/-- the least of some, and whether there is one -/
def LeastIs (l : List It) (t : It) : Prop := (l = [] → t = z0) ∧ (l ≠ [] → t ∈ l ∧ ∀ y ∈ l, ltB y t = false)
def LeastPost (w : World) (l : List It) (e : Ending) (w' : World) : Prop := ∃ t, LeastIs l t ∧ e = .returned (.tuple #[.agg t.cells.toArray, .bool (decide (0 < l.length))]) ∧ Upd Non w w'
theorem LeastIs.start : LeastIs [] z0 := ⟨fun _ => rfl, fun h => absurd rfl h⟩
theorem LeastIs.first (x : It) : LeastIs [x] x := ⟨(fun h => by cases h), fun _ => ⟨by simp, fun y hy => by rw [List.mem_singleton.1 hy]; simp [ltB, cmpI_refl]⟩⟩
theorem LeastIs.less {l : List It} {t x : It} (h : LeastIs l t) (hl : l ≠ []) (hx : ltB x t = true) : LeastIs (l ++ [x]) x := by
  obtain ⟨h1, h2⟩ := h.2 hl
  refine ⟨fun h => by simp at h, fun _ => ⟨by simp, fun y hy => ?_⟩⟩
  rcases List.mem_append.1 hy with hy | hy
  · have := h2 y hy
    cases hyx : ltB y x
    · rfl
    · simp only [ltB, decide_eq_true_eq] at hyx hx
      have h3 := cmpI_trans _ _ _ hyx hx
      simp [ltB] at this
      omega
  · rw [List.mem_singleton.1 hy]; simp [ltB, cmpI_refl]
theorem LeastIs.stay {l : List It} {t x : It} (h : LeastIs l t) (hl : l ≠ []) (hx : ltB x t = false) : LeastIs (l ++ [x]) t := by
  obtain ⟨h1, h2⟩ := h.2 hl
  refine ⟨fun h => by simp at h, fun _ => ⟨by simp [h1], fun y hy => ?_⟩⟩
  rcases List.mem_append.1 hy with hy | hy
  · exact h2 y hy
  · rw [List.mem_singleton.1 hy]; exact hx

set_option maxRecDepth 100000 in
set_option maxHeartbeats 2000000 in
theorem least_spec (w : World) (F : Nat → Prop) (v : Value) (l : List It) (h : Rd itE w F v l) (hF : Fin w F) (hn : l.length ≤ 1048576) :
    Calls Try.prog 18 #[v, .func (.func 14) #[] #[]] w (LeastPost w l) := by
  obtain ⟨A, c, rfl, hc, _⟩ := h.shape
  obtain ⟨W, hW⟩ : ∃ W, W = (w.alloc (.cells z0.cells.toArray 33)).alloc (.cells z0.cells.toArray 33) := ⟨_, rfl⟩
  have hu0 : Upd Non w W := by rw [hW]; exact ((Upd.refl _ _).alloc _).alloc _
  have hb6 : W.heap[w.heap.size + 1]? = some (.cells z0.cells.toArray 33 (0, 0)) := by
    have := heap_alloc_new (w.alloc (.cells z0.cells.toArray 33)) (.cells z0.cells.toArray 33)
    rw [World.size_alloc] at this
    rw [hW]; exact this
  have hb4 : W.heap[w.heap.size]? = some (.cells z0.cells.toArray 33 (0, 0)) := by
    rw [hW]; exact (Below.heap_alloc _ _ _ (by simp)).trans (heap_alloc_new w _)
  simp only [z0, It.cells] at hW
  go_enter Try.func18, Try.ntmps18
  go_wp2_with fail
  rw [← hW]
  clear hW
  go_loopw [7, 8, 11] (fun _ _ i wr => ∃ (k : Nat) (t : It), k ≤ l.length ∧ i = .int .i64 k ∧ wr.heap[w.heap.size + 1]? = some (.cells t.cells.toArray 33 (0, 0)) ∧ Upd (fun q => q = w.heap.size + 1) W wr ∧ Hid (LeastIs (l.take k) t)) (fun _ _ i _ => l.length - (intOf i).toNat)
  case atStart => exact ⟨0, z0, Nat.zero_le _, rfl, hb6, Upd.refl _ _, Lib.hid (by simpa using LeastIs.start)⟩
  case round =>
    clear hb6
    obtain ⟨k, t, hk, rfl, hb6, hu, hls⟩ := hrel
    have hux : Upd Non w wr := hu0.trans' hu fun x hx e => by have e : x = w.heap.size + 1 := e; omega
    have hl6 := blk_lt hb6
    have f6 := fun j => blk_free hb6 j
    have t0 : wr.cell? ⟨w.heap.size + 1, 0, none⟩ = some (.int .i64 t.at_) := blk_at hb6 0
    have t1 : wr.cell? ⟨w.heap.size + 1, 1, none⟩ = some (.int .i64 t.flow) := blk_at hb6 1
    have t2 : wr.cell? ⟨w.heap.size + 1, 2, none⟩ = some (.int .i64 t.run) := blk_at hb6 2
    have t3 : wr.cell? ⟨w.heap.size + 1, 3, none⟩ = some (.int .i64 t.ref) := blk_at hb6 3
    have t4 : wr.cell? ⟨w.heap.size + 1, 4, none⟩ = some (.int .i64 t.turn) := blk_at hb6 4
    have t5 : wr.cell? ⟨w.heap.size + 1, 5, none⟩ = some (.int .i64 t.kind) := blk_at hb6 5
    by_cases hlt : k < l.length
    · obtain ⟨b1, o1, c1, e1, _, hb1, hxw, m0, m1, m2, m3, m4, m5⟩ := (h.upd hux (Upd.fr_non hF)).it hlt
      cases e1
      obtain ⟨x, hx⟩ : ∃ x, l[k] = x := ⟨_, rfl⟩
      rw [hx] at hxw m0 m1 m2 m3 m4 m5
      have htk : l.take (k + 1) = l.take k ++ [x] := by rw [take_snoc l k hlt, hx]
      have HTK := Lib.hid htk
      have hlb1 := World.block_lt_of_cell? wr _ m0
      have HB6 := Lib.hid hb6
      clear hx htk hb6
      by_cases hk0 : k = 0
      · subst hk0
        simp only [Nat.zero_mul, Nat.add_zero] at m0 m1 m2 m3 m4 m5
        go_wp2
        go_roundw
        case rel =>
          have h6 := set6_blk x HB6.out
          exact ⟨1, x, by omega, rfl, (Below.heap_alloc _ _ _ (by show w.heap.size + 1 < (set6 wr (w.heap.size + 1) x).heap.size; rw [set6_size]; exact hl6)).trans h6, (hu.trans (set6_upd wr _ x)).alloc _, Lib.hid (by rw [HTK.out]; simpa using LeastIs.first x)⟩
        case measure => simp [intOf]; omega
      · have hne : l.take k ≠ [] := fun e => by
          have hlen : (l.take k).length = k := by rw [List.length_take]; omega
          rw [e] at hlen
          have : (0 : Nat) = k := hlen
          omega
        have hk0' : ((k : Int) == 0) = false := by rw [beq_eq_false_iff_ne]; omega
        have HL := less_spec (wr.alloc (.cells x.cells.toArray 33)) x t
        have hB8 : (wr.alloc (.cells x.cells.toArray 33)).heap[wr.heap.size]? = some (.cells x.cells.toArray 33 (0, 0)) := heap_alloc_new wr _
        have hA6 : (wr.alloc (.cells x.cells.toArray 33)).heap[w.heap.size + 1]? = some (.cells t.cells.toArray 33 (0, 0)) := (Below.heap_alloc wr _ _ hl6).trans HB6.out
        have hsA : (wr.alloc (.cells x.cells.toArray 33)).heap.size = wr.heap.size + 1 := by simp
        have huA : Upd (fun q => q = w.heap.size + 1) W (wr.alloc (.cells x.cells.toArray 33)) := hu.alloc _
        unfold LessPost at HL
        obtain ⟨r, hr⟩ : ∃ r, ltB x t = r := ⟨_, rfl⟩
        rw [hr] at HL
        have HRR := Lib.hid hr
        simp only [It.cells] at HL hB8 hA6 hsA huA
        have HA6 := Lib.hid hA6
        have HB8 := Lib.hid hB8
        clear hr hA6 hB8
        cases r
        · go_wp2_with fail
          with_reducible refine HL.mono ?_
          rintro e w2 ⟨rfl, hu2⟩
          go_wp2
          go_roundw
          case rel => exact ⟨k + 1, t, by omega, by go_num, (hu2.block _ (by rw [hsA]; omega) id).trans HA6.out, huA.trans (hu2.mono fun _ _ h => h.elim), Lib.hid (by rw [HTK.out]; exact hls.out.stay hne HRR.out)⟩
          case measure => simp [intOf]; omega
        · go_wp2_with fail
          with_reducible refine HL.mono ?_
          rintro e w2 ⟨rfl, hu2⟩
          have hb2 := (hu2.block (w.heap.size + 1) (by rw [hsA]; omega) id).trans HA6.out
          have hx2 := (hu2.block wr.heap.size (by rw [hsA]; omega) id).trans HB8.out
          have g2 := fun j => blk_free hb2 j
          have y0 : w2.cell? ⟨w.heap.size + 1, 0, none⟩ = some (.int .i64 t.at_) := blk_at hb2 0
          have y1 : w2.cell? ⟨w.heap.size + 1, 1, none⟩ = some (.int .i64 t.flow) := blk_at hb2 1
          have y2 : w2.cell? ⟨w.heap.size + 1, 2, none⟩ = some (.int .i64 t.run) := blk_at hb2 2
          have y3 : w2.cell? ⟨w.heap.size + 1, 3, none⟩ = some (.int .i64 t.ref) := blk_at hb2 3
          have y4 : w2.cell? ⟨w.heap.size + 1, 4, none⟩ = some (.int .i64 t.turn) := blk_at hb2 4
          have y5 : w2.cell? ⟨w.heap.size + 1, 5, none⟩ = some (.int .i64 t.kind) := blk_at hb2 5
          have x0 : w2.cell? ⟨wr.heap.size, 0, none⟩ = some (.int .i64 x.at_) := blk_at hx2 0
          have x1 : w2.cell? ⟨wr.heap.size, 1, none⟩ = some (.int .i64 x.flow) := blk_at hx2 1
          have x2 : w2.cell? ⟨wr.heap.size, 2, none⟩ = some (.int .i64 x.run) := blk_at hx2 2
          have x3 : w2.cell? ⟨wr.heap.size, 3, none⟩ = some (.int .i64 x.ref) := blk_at hx2 3
          have x4 : w2.cell? ⟨wr.heap.size, 4, none⟩ = some (.int .i64 x.turn) := blk_at hx2 4
          have x5 : w2.cell? ⟨wr.heap.size, 5, none⟩ = some (.int .i64 x.kind) := blk_at hx2 5
          have HB2 := Lib.hid hb2
          clear hb2 hx2
          go_wp2
          go_roundw
          case rel => exact ⟨k + 1, x, by omega, by go_num, set6_blk x HB2.out, (huA.trans (hu2.mono fun _ _ h => h.elim)).trans (set6_upd w2 _ x), Lib.hid (by rw [HTK.out]; exact hls.out.less hne HRR.out)⟩
          case measure => simp [intOf]; omega
    · obtain rfl : k = l.length := by omega
      have hls' := hls.out
      rw [List.take_length] at hls'
      have h4 := (hu.block w.heap.size (blk_lt hb4) (by show w.heap.size ≠ w.heap.size + 1; omega)).trans hb4
      have hl4 := blk_lt h4
      have f4 := fun j => blk_free h4 j
      have r0 : wr.cell? ⟨w.heap.size, 0, none⟩ = some (.int .i64 0) := blk_at h4 0
      have r1 : wr.cell? ⟨w.heap.size, 1, none⟩ = some (.int .i64 0) := blk_at h4 1
      have r2 : wr.cell? ⟨w.heap.size, 2, none⟩ = some (.int .i64 0) := blk_at h4 2
      have r3 : wr.cell? ⟨w.heap.size, 3, none⟩ = some (.int .i64 0) := blk_at h4 3
      have r4 : wr.cell? ⟨w.heap.size, 4, none⟩ = some (.int .i64 0) := blk_at h4 4
      have r5 : wr.cell? ⟨w.heap.size, 5, none⟩ = some (.int .i64 0) := blk_at h4 5
      have hK : ∀ j, (set6 wr w.heap.size t).cell? ⟨w.heap.size, j, none⟩ = t.cells[j]? := fun j => by
        rw [blk_at (set6_blk t h4)]; simp
      have hK' := And.intro (hK 0) (And.intro (hK 1) (And.intro (hK 2) (And.intro (hK 3) (And.intro (hK 4) (hK 5)))))
      have hfin : ∀ bb, decide (0 < l.length) = bb → LeastPost w l (.returned (.tuple #[.agg t.cells.toArray, .bool bb])) (set6 wr w.heap.size t) := fun bb hbb =>
        ⟨t, hls', by rw [hbb], hux.trans' (set6_upd wr _ t) fun x hx e => by have e : x = w.heap.size := e; omega⟩
      simp only [set6, It.cells] at hK' hfin
      have HF := Lib.hid hfin
      clear hK hfin hls hls' hb6 h4 hb4
      by_cases hl0 : 0 < l.length
      · go_wp2
        exact bodyPost_ret (v := .tuple #[.agg #[.int .i64 t.at_, .int .i64 t.flow, .int .i64 t.run, .int .i64 t.ref, .int .i64 t.turn, .int .i64 t.kind], .bool true]) (by simp [results, Try.results18, go_sem, hK']) rfl (HF.out true (by simp [hl0]))
      · go_wp2
        exact bodyPost_ret (v := .tuple #[.agg #[.int .i64 t.at_, .int .i64 t.flow, .int .i64 t.run, .int .i64 t.ref, .int .i64 t.turn, .int .i64 t.kind], .bool false]) (by simp [results, Try.results18, go_sem, hK']) rfl (HF.out false (by simp [hl0]))
end Go.Proofs.Ytnaldifgnpnbhaa
