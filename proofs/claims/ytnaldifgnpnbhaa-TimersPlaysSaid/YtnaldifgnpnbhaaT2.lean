/-
  Items in memory; the walk of slices.Insert at items.
-/
import Derived.Test.YtnaldifgnpnbhaaRows
import Derived.Test.YtnaldifgnpnbhaaT1
import Derived.Lib.Overlaps
namespace Go.Proofs.Ytnaldifgnpnbhaa
open Go.RowKit

/-- an item -/
structure It where
  at_ : Int
  flow : Int
  run : Int
  ref : Int
  turn : Int
  kind : Int
deriving DecidableEq
def IB (x : Int) : Prop := -9223372036854775808 ≤ x ∧ x ≤ 9223372036854775807
def It.wf (x : It) : Prop := IB x.at_ ∧ IB x.flow ∧ IB x.run ∧ IB x.ref ∧ IB x.turn ∧ IB x.kind
def It.cells (x : It) : List Value := [.int .i64 x.at_, .int .i64 x.flow, .int .i64 x.run, .int .i64 x.ref, .int .i64 x.turn, .int .i64 x.kind]
def itE : Elt It where
  sz := 6
  ok := fun _ _ x l => l = x.cells ∧ x.wf
  len := fun h => by rw [h.1]; rfl
  one := fun h u hu => by rw [h.1] at hu; simp [It.cells] at hu; rcases hu with rfl | rfl | rfl | rfl | rfl | rfl <;> rfl
  keep := fun _ h => h
  mono := fun _ h => h
theorem itE_flat : itE.flat := fun h => h
theorem sz_itE : itE.sz = 6 := rfl
theorem info33 : (Try.prog.info? 33).map (fun i => (i.zero, i.size, i.bytes)) = some (some (.agg #[.int .i64 0, .int .i64 0, .int .i64 0, .int .i64 0, .int .i64 0, .int .i64 0]), itE.sz, 48) := by kernel_rfl
theorem sz33 : (Try.prog.info? 33).map (·.size) = some 6 := by kernel_rfl

def InsPost (w : World) (g : Nat) (xs : List It) (i : Nat) (x : It) (e : Ending) (w' : World) : Prop :=
  ∃ v' g', e = .returned v' ∧ Upd (fun q => q = g) w w' ∧ Buf itE 33 w' g' Non v' (xs.take i ++ x :: xs.drop i) ∧ (g' = g ∨ New w w' g')

theorem Rel.split {α : Type} {E : Elt α} {w : World} {F : Nat → Prop} {xs : List α} {cs : List Value} (h : Rel E w F xs cs) (i : Nat) (hi : i ≤ xs.length) :
    ∃ a b, cs = a ++ b ∧ a.length = i * E.sz ∧ b.length = (xs.length - i) * E.sz ∧ Rel E w F (xs.take i) a ∧ Rel E w F (xs.drop i) b :=
  ⟨cs.take (i * E.sz), cs.drop (i * E.sz), by simp, by
    have := (h.take i).length; rw [this]; simp; rw [Nat.min_eq_left hi], by
    have := (h.drop i).length; rw [this]; simp, h.take i, h.drop i⟩

theorem shift_list {β : Type} (ca cb rest lx : List β) (k a : Nat) (ha : ca.length = a) (hl : lx.length = k) (hk : k ≤ (cb ++ rest).length) :
    ((ca ++ cb ++ rest).take (a + k) ++ cb ++ (ca ++ cb ++ rest).drop (a + k + cb.length)).take a ++ lx ++ ((ca ++ cb ++ rest).take (a + k) ++ cb ++ (ca ++ cb ++ rest).drop (a + k + cb.length)).drop (a + lx.length) = (ca ++ (lx ++ cb)) ++ rest.drop k := by
  subst ha hl
  have h1 : (ca ++ cb ++ rest).take (ca.length + lx.length) = ca ++ (cb ++ rest).take lx.length := by rw [List.append_assoc, List.take_length_add_append]
  have h2 : (ca ++ cb ++ rest).drop (ca.length + lx.length + cb.length) = rest.drop lx.length := by
    rw [show ca.length + lx.length + cb.length = (ca ++ cb).length + lx.length by simp; omega, List.drop_length_add_append]
  have h3 : ((cb ++ rest).take lx.length).length = lx.length := by rw [List.length_take]; omega
  rw [h1, h2]
  have h4 : (ca ++ (cb ++ rest).take lx.length ++ cb ++ rest.drop lx.length).drop (ca.length + lx.length) = cb ++ rest.drop lx.length := by
    rw [show ca.length + lx.length = (ca ++ (cb ++ rest).take lx.length).length by simp only [List.length_append, h3], List.append_assoc, List.drop_left]
  rw [h4]
  simp [List.append_assoc]

set_option maxRecDepth 100000 in
set_option maxHeartbeats 4000000 in
theorem insert_shift (w : World) (g vb n i c : Nat) (xs : List It) (x : It) (lx cs rest : List Value) (hx : itE.ok w Non x lx) (hvb : w.heap[vb]? = some (.cells lx.toArray 33 (0, 0))) (hne : vb ≠ g)
    (hg : w.heap[g]? = some (.cells (cs ++ rest).toArray 33 (0, 0))) (hrel : Rel itE w Non xs cs) (hlen : (cs ++ rest).length = c * 6) (hn : xs.length = n) (hi : i < n) (hroom : n + 1 ≤ c) (hc : c ≤ maxLen) :
    Calls Try.prog 30 #[.slice (some ⟨g, 0, none⟩) n c, .int .i64 i, .slice (some ⟨vb, 0, none⟩) 1 1] w (InsPost w g xs i x) := by
  rw [maxLen_eq] at hc
  have hxl : lx.length = 6 := itE.len hx
  obtain ⟨ca, cb, rfl, hal, hbl, ra, rb⟩ := hrel.split i (by omega)
  rw [sz_itE] at hal hbl
  rw [hn] at hbl
  have hcl : (ca ++ cb).length = n * 6 := by simp; omega
  have hrl : rest.length = c * 6 - n * 6 := by rw [List.length_append] at hlen; omega
  have hov : ∀ lb cb', (callFunc 41 #[.slice (some ⟨vb, 0, none⟩) 1 1, .slice (some ⟨g, (i + 1) * 6, none⟩) lb cb']).run Try.prog w = .ok (.value (.bool false)) w := fun lb cb' => by
    rw [run_callFunc_extern Try.func41 (by kernel_rfl) (by kernel_rfl) (by kernel_rfl) (e := Extern.SlicesOverlaps.overlaps #[27, 27] #[4]) (by kernel_rfl),
      Lib.run_overlaps_apart w 27 4 33 Try.underlying27 6 (fun w => by kernel_rfl) ⟨vb, 0, none⟩ ⟨g, (i + 1) * 6, none⟩ 1 1 lb cb' hne 33 33 6 (c * 6) (by simp [World.shape?, hvb, hxl]) (by simp [World.shape?, hg]; simpa using hlen) (by omega) (blk_free hvb 0) (blk_free hvb 6)]
    rfl
  obtain ⟨L1, hL1⟩ : ∃ L1, L1 = (ca ++ cb ++ rest).take (i * 6 + 6) ++ cb ++ (ca ++ cb ++ rest).drop (i * 6 + 6 + cb.length) := ⟨_, rfl⟩
  have hL1l : L1.length = c * 6 := by rw [hL1]; simp only [List.length_append, List.length_take, List.length_drop, hal, hbl, hrl] ; omega
  have hcp1 : ∀ ty dl sl dc sc, dl = n - i → sl = n + 1 - i → (Builtin.copy_ #[27, 27] ty #[.slice (some ⟨g, (i + 1) * 6, none⟩) dl dc, .slice (some ⟨g, i * 6, none⟩) sl sc]).run Try.prog w.drew = .ok (goInt (Nat.min sl dl)) (w.drew.setRow g L1.toArray) := fun ty dl sl dc sc hdl hsl => by
    have hmin : Nat.min sl dl = n - i := by simp only [Nat.min_def]; split <;> omega
    have := run_copyB (P := Try.prog) w.drew 27 27 ty 33 6 g ((i + 1) * 6) dl dc ⟨g, i * 6, none⟩ sl sc (ca ++ cb ++ rest) 33 cb Try.underlying27 sz33 hg (by rw [hmin, hbl])
      (fun j v hj => by
        have hlt := (List.getElem?_eq_some_iff.1 hj).1
        rw [add_mk]
        show w.cell? _ = _
        rw [blk_at hg]
        simp only [List.getElem?_toArray]
        rw [List.append_assoc, List.getElem?_append_right (by omega), List.getElem?_append_left (by omega), hal, show i * 6 + j - i * 6 = j by omega, hj])
      (by simp only [List.length_append, hal, hbl, hrl]; omega) (fun v hv => hrel.one v (by simp [hv]))
    rw [this, hL1, Nat.add_mul, Nat.one_mul]
  have hL2 := shift_list ca cb rest lx 6 (i * 6) hal hxl (by rw [List.length_append, hbl]; omega)
  rw [← hL1] at hL2
  obtain ⟨W1, hW1⟩ : ∃ W1, W1 = w.drew.setRow g L1.toArray := ⟨_, rfl⟩
  have hg1 : W1.heap[g]? = some (.cells L1.toArray 33 (0, 0)) := by rw [hW1]; exact setRow_heap w.drew g (ca ++ cb ++ rest).toArray L1.toArray 33 (0, 0) hg
  have hu1 : Upd (fun q => q = g) w W1 := by rw [hW1]; exact ((Upd.refl _ w).drew).trans (upd_setRow w.drew g L1.toArray)
  have hvb1 : W1.heap[vb]? = some (.cells lx.toArray 33 (0, 0)) := (hu1.block vb (blk_lt hvb) hne).trans hvb
  have hcp2 : ∀ ty dl dc, 1 ≤ dl → (Builtin.copy_ #[27, 27] ty #[.slice (some ⟨g, i * 6, none⟩) dl dc, .slice (some ⟨vb, 0, none⟩) 1 1]).run Try.prog W1 = .ok (goInt (Nat.min 1 dl)) (W1.setRow g ((ca ++ (lx ++ cb)) ++ rest.drop 6).toArray) := fun ty dl dc hdl => by
    have hmin : Nat.min 1 dl = 1 := by simp only [Nat.min_def]; split <;> omega
    have := run_copyB (P := Try.prog) W1 27 27 ty 33 6 g (i * 6) dl dc ⟨vb, 0, none⟩ 1 1 L1 33 lx Try.underlying27 sz33 hg1 (by rw [hmin, hxl])
      (fun j v hj => by rw [add_mk, blk_at hvb1, Nat.zero_add]; simpa using hj) (by rw [hL1l, hxl]; omega) (itE.one hx)
    rw [this, hL2]
  rw [← hW1] at hcp1
  have hfin : InsPost w g xs i x (.returned (.slice (some ⟨g, 0, none⟩) (n + 1) c)) (W1.setRow g ((ca ++ (lx ++ cb)) ++ rest.drop 6).toArray) := by
    have hb := setRow_heap W1 g L1.toArray ((ca ++ (lx ++ cb)) ++ rest.drop 6).toArray 33 (0, 0) hg1
    have hl : (xs.take i ++ x :: xs.drop i).length = n + 1 := by simp; omega
    refine ⟨_, g, rfl, hu1.trans (upd_setRow W1 g _), .inr ⟨c, ca ++ (lx ++ cb), rest.drop 6, by rw [hl], hb, ?_, ?_, by omega, by rw [maxLen_eq]; omega⟩, .inl rfl⟩
    · exact Rel.append (ra.flat itE_flat) (Rel.append (xs := [x]) ⟨lx, [], by simp, hx, rfl⟩ (rb.flat itE_flat))
    · simp only [List.length_append, List.length_drop, hal, hbl, hrl, hxl, sz_itE]; omega
  obtain ⟨L2, hL2'⟩ : ∃ L2, L2 = (ca ++ (lx ++ cb)) ++ rest.drop 6 := ⟨_, rfl⟩
  rw [← hL2'] at hcp2 hfin
  clear hL2'
  have hcp2' := fun ty dc => hcp2 ty (n + 1 - i) dc (by omega)
  clear hcp2
  clear hL2 hL1 hL1l hW1 hg1 hvb1 hu1 hg hrel hlen hal hbl ra rb hcl hrl
  have hw1 : IntKind.i64.wrap ((i : Int) + 1) = (i : Int) + 1 := by rw [IntKind.wrap_i64]; omega
  have hb1 : (0 : Int) ≤ (i : Int) + 1 := by omega
  have htn : ((i : Int) + 1).toNat = i + 1 := by omega
  have hb2 : ¬ (c = i + 1) := by omega
  have hb3 : (i : Int) ≤ (n : Int) + 1 := by omega
  have hb4 : ¬ (c = i) := by omega
  have hin : i ≤ n := by omega
  go_enter Try.func30, Try.ntmps30
  go_wp2_with (simp only [hov])
  go_region_law (refine step_copy_run rfl _ _ 27 27 rfl _ _ (by simp [Act.eval, Act.put]) (by simp [Act.eval, Act.put]) (hcp1 _ _ _ _ _ (by omega) (by omega)) ?_)
  go_wp2_with (at_builtin; refine wpList_copy_run _ rfl _ _ 27 27 rfl _ _ rfl rfl (hcp2' _ _) ?_)
  go_ret
  exact hfin

set_option maxRecDepth 100000 in
set_option maxHeartbeats 4000000 in
theorem insert_end (w : World) (g vb : Nat) (xs : List It) (x : It) (v : Value) (lx : List Value) (hx : itE.ok w Non x lx) (hvb : w.heap[vb]? = some (.cells lx.toArray 33 (0, 0)))
    (hb : Buf itE 33 w g Non v xs) (hn : xs.length ≤ 1048576) :
    Calls Try.prog 30 #[v, .int .i64 xs.length, .slice (some ⟨vb, 0, none⟩) 1 1] w (InsPost w g xs xs.length x) := by
  have hat : At w (fun q => q = vb) (some ⟨vb, 0, none⟩) lx := fun _ => ⟨vb, 0, rfl, rfl, fun j hj => by rw [Nat.zero_add, blk_at hvb]; simp⟩
  have hrun := fun ty => run_appendB (P := Try.prog) w 27 ty _ 48 Try.underlying27 info33 (by rfl) (by decide) hb (c := 1) (ys := [x]) hat ⟨lx, [], by simp, hx, rfl⟩ (fun k h => h.elim) (by rw [maxLen_eq]; simp; omega) (by simp; omega)
  obtain ⟨v', w', g', hr, hu, hb', hg'⟩ := hrun 27
  obtain ⟨A, c, rfl, hc, hm, hA⟩ := hb.shape
  rw [maxLen_eq] at hm
  have hfin : InsPost w g xs xs.length x (.returned v') w' := ⟨v', g', rfl, hu, by simpa using hb', hg'.imp id fun h => ⟨by omega, by omega⟩⟩
  generalize xs.length = n at hr hn hc hfin ⊢
  have hbuf := Lib.hid hb
  clear hb hb' hrun hg' hu
  rcases hA with ⟨rfl, rfl, _⟩ | rfl
  · obtain rfl : n = 0 := by omega
    go_enter Try.func30, Try.ntmps30
    go_wp2_with (at_builtin; refine Lib.wpList_append_run _ rfl _ _ 27 27 rfl _ _ rfl rfl _ _ hr ?_)
    go_ret
    exact hfin
  · by_cases hcn : c = n
    · go_enter Try.func30, Try.ntmps30
      go_wp2_with (at_builtin; refine Lib.wpList_append_run _ rfl _ _ 27 27 rfl _ _ rfl rfl _ _ hr ?_)
      go_ret
      exact hfin
    · go_enter Try.func30, Try.ntmps30
      go_wp2_with (at_builtin; refine Lib.wpList_append_run _ rfl _ _ 27 27 rfl _ _ rfl rfl _ _ hr ?_)
      go_ret
      exact hfin

set_option maxRecDepth 100000 in
set_option maxHeartbeats 4000000 in
theorem insert_grow (w : World) (g vb n i c : Nat) (xs : List It) (x : It) (lx cs rest : List Value) (hx : itE.ok w Non x lx) (hvb : w.heap[vb]? = some (.cells lx.toArray 33 (0, 0)))
    (hg : w.heap[g]? = some (.cells (cs ++ rest).toArray 33 (0, 0))) (hrel : Rel itE w Non xs cs) (hlen : (cs ++ rest).length = c * 6) (hn : xs.length = n) (hi : i < n) (hnc : n ≤ c) (hroom : c < n + 1) (hn1 : n ≤ 1048576) :
    Calls Try.prog 30 #[.slice (some ⟨g, 0, none⟩) n c, .int .i64 i, .slice (some ⟨vb, 0, none⟩) 1 1] w (InsPost w g xs i x) := by
  obtain rfl : c = n := by omega
  have hxl : lx.length = 6 := itE.len hx
  obtain ⟨ca, cb, rfl, hal, hbl, ra, rb⟩ := hrel.split i (by omega)
  rw [sz_itE] at hal hbl
  rw [hn] at hbl
  have hcl : (ca ++ cb).length = c * 6 := by simp; omega
  obtain rfl : rest = [] := List.eq_nil_of_length_eq_zero (by rw [List.length_append] at hlen; omega)
  rw [List.append_nil] at hg
  let z : Value := .agg #[.int .i64 0, .int .i64 0, .int .i64 0, .int .i64 0, .int .i64 0, .int .i64 0]
  have hat : At w (fun q => q = g) (some ⟨g, 0, none⟩) ca := fun _ => ⟨g, 0, rfl, rfl, fun j hj => by rw [Nat.zero_add, blk_at hg]; simp [List.getElem?_append_left hj]⟩
  have hr := fun ty => run_append_zerosB (P := Try.prog) w 27 3 ty z 6 48 Try.underlying27 Try.underlying3 info33 (by decide) i (c + 1 - i) c hal hat (by omega) (by omega) (by rw [maxLen_eq]; omega) (by omega)
  have hcap := grownCap_ge w (i + (c + 1 - i)) c 33
  have hcm := grownCap_le_maxLen w (i + (c + 1 - i)) c 33 (by rw [maxLen_eq]; omega)
  obtain ⟨Z1, hZ1⟩ : ∃ Z1, Z1 = (Builtin.zeroCells z.cells (c + 1 - i)).toList := ⟨_, rfl⟩
  obtain ⟨Z2, hZ2⟩ : ∃ Z2, Z2 = (Builtin.zeroCells z.cells (grownCap w (i + (c + 1 - i)) c 33 - (i + (c + 1 - i)))).toList := ⟨_, rfl⟩
  have hz1 : Z1.length = (c + 1 - i) * 6 := by rw [hZ1]; exact zeroCells_len z 6 _ rfl
  have hz2 : Z2.length = (grownCap w (i + (c + 1 - i)) c 33 - (i + (c + 1 - i))) * 6 := by rw [hZ2]; exact zeroCells_len z 6 _ rfl
  rw [← hZ1, ← hZ2] at hr
  clear hZ1 hZ2
  have hic : i + (c + 1 - i) = c + 1 := by omega
  rw [hic] at hr hcap hcm hz2
  generalize grownCap w (c + 1) c 33 = cap at hr hcap hcm hz2
  obtain ⟨L0, hL0⟩ : ∃ L0, L0 = ca ++ (Z1 ++ Z2) := ⟨_, rfl⟩
  have hl0 : L0.length = cap * 6 := by rw [hL0]; simp only [List.length_append, hal, hz1, hz2]; omega
  rw [← hL0] at hr
  obtain ⟨W0, hW0⟩ : ∃ W0, W0 = w.drew.alloc (.cells L0.toArray 33) := ⟨_, rfl⟩
  have hg0 : W0.heap[w.heap.size]? = some (.cells L0.toArray 33 (0, 0)) := by rw [hW0]; exact heap_alloc_new w.drew _
  have hu0 : Upd Non w W0 := by rw [hW0]; exact ((Upd.refl Non w).drew).alloc _
  have hs0 : W0.heap.size = w.heap.size + 1 := by rw [hW0]; simp
  have hvb0 := (hu0.block vb (blk_lt hvb) id).trans hvb
  have hgg0 := (hu0.block g (blk_lt hg) id).trans hg
  have hgl := blk_lt hg
  obtain ⟨L1, hL1⟩ : ∃ L1, L1 = L0.take (i * 6) ++ lx ++ L0.drop (i * 6 + lx.length) := ⟨_, rfl⟩
  have hl1 : L1.length = cap * 6 := by rw [hL1]; simp only [List.length_append, List.length_take, List.length_drop, hl0, hxl]; omega
  have hcp1 : ∀ ty, (Builtin.copy_ #[27, 27] ty #[.slice (some ⟨w.heap.size, i * 6, none⟩) (c + 1 - i) (cap - i), .slice (some ⟨vb, 0, none⟩) 1 1]).run Try.prog W0 = .ok (goInt (Nat.min 1 (c + 1 - i))) (W0.setRow w.heap.size L1.toArray) := fun ty => by
    have hmin : Nat.min 1 (c + 1 - i) = 1 := by simp only [Nat.min_def]; split <;> omega
    have := run_copyB (P := Try.prog) W0 27 27 ty 33 6 w.heap.size (i * 6) (c + 1 - i) (cap - i) ⟨vb, 0, none⟩ 1 1 L0 33 lx Try.underlying27 sz33 hg0 (by rw [hmin, hxl])
      (fun j v hj => by rw [add_mk, blk_at hvb0, Nat.zero_add]; simpa using hj) (by rw [hl0, hxl]; omega) (itE.one hx)
    rw [this, hL1]
  obtain ⟨W1, hW1⟩ : ∃ W1, W1 = W0.setRow w.heap.size L1.toArray := ⟨_, rfl⟩
  have hg1 : W1.heap[w.heap.size]? = some (.cells L1.toArray 33 (0, 0)) := by rw [hW1]; exact setRow_heap W0 w.heap.size L0.toArray L1.toArray 33 (0, 0) hg0
  have hu1 : Upd Non w W1 := by rw [hW1]; exact hu0.trans' (upd_setRow W0 w.heap.size L1.toArray) (fun x hx e => by have e : x = w.heap.size := e; omega)
  have hgg1 : W1.heap[g]? = some (.cells (ca ++ cb).toArray 33 (0, 0)) := by rw [hW1]; exact ((upd_setRow W0 w.heap.size L1.toArray).block g (by omega) (by show g ≠ w.heap.size; omega)).trans hgg0
  obtain ⟨L2, hL2⟩ : ∃ L2, L2 = L1.take ((i + 1) * 6) ++ cb ++ L1.drop ((i + 1) * 6 + cb.length) := ⟨_, rfl⟩
  have hcp2 : ∀ ty dl sl dc sc, dl = c - i → sl = c - i → (Builtin.copy_ #[27, 27] ty #[.slice (some ⟨w.heap.size, (i + 1) * 6, none⟩) dl dc, .slice (some ⟨g, i * 6, none⟩) sl sc]).run Try.prog W1.drew = .ok (goInt (Nat.min sl dl)) (W1.drew.setRow w.heap.size L2.toArray) := fun ty dl sl dc sc hdl hsl => by
    have hmin : Nat.min sl dl = c - i := by simp only [Nat.min_def]; split <;> omega
    have := run_copyB (P := Try.prog) W1.drew 27 27 ty 33 6 w.heap.size ((i + 1) * 6) dl dc ⟨g, i * 6, none⟩ sl sc L1 33 cb Try.underlying27 sz33 hg1 (by rw [hmin, hbl])
      (fun j v hj => by
        have hlt := (List.getElem?_eq_some_iff.1 hj).1
        rw [add_mk]
        show W1.cell? _ = _
        rw [blk_at hgg1]
        simp only [List.getElem?_toArray]
        rw [List.getElem?_append_right (by omega), hal, show i * 6 + j - i * 6 = j by omega, hj])
      (by rw [hl1, hbl]; omega) (fun v hv => hrel.one v (by simp [hv]))
    rw [this, hL2]
  have hL2e : L2 = (ca ++ (lx ++ cb)) ++ Z2 := by
    have e1 : L1 = ca ++ lx ++ (Z1 ++ Z2).drop 6 := by
      rw [hL1, hL0, List.take_left' hal, hxl, ← List.drop_drop, List.drop_left' hal]
    have e2 : L1.take ((i + 1) * 6) = ca ++ lx := by rw [e1]; exact List.take_left' (by simp; omega)
    have e3 : L1.drop ((i + 1) * 6 + cb.length) = Z2 := by
      rw [← List.drop_drop, e1, List.drop_left' (by simp; omega), List.drop_drop, List.drop_append_of_le_length (by rw [hz1, hbl]; omega), List.drop_of_length_le (by rw [hz1, hbl]; omega), List.nil_append]
    rw [hL2, e2, e3]
    simp [List.append_assoc]
  have hfin : InsPost w g xs i x (.returned (.slice (some ⟨w.heap.size, 0, none⟩) (c + 1) cap)) (W1.drew.setRow w.heap.size L2.toArray) := by
    have hb := setRow_heap W1.drew w.heap.size L1.toArray L2.toArray 33 (0, 0) hg1
    have hl : (xs.take i ++ x :: xs.drop i).length = c + 1 := by simp; omega
    have huf : Upd Non w (W1.drew.setRow w.heap.size L2.toArray) := (hu1.drew).trans' (upd_setRow W1.drew w.heap.size L2.toArray) (fun x hx e => by have e : x = w.heap.size := e; omega)
    refine ⟨_, w.heap.size, rfl, huf.mono fun _ _ h => h.elim, .inr ⟨cap, ca ++ (lx ++ cb), Z2, by rw [hl], by rw [hb, hL2e], ?_, ?_, by omega, hcm⟩, .inr ⟨Nat.le_refl _, ?_⟩⟩
    · exact Rel.append (ra.flat itE_flat) (Rel.append (xs := [x]) ⟨lx, [], by simp, hx, rfl⟩ (rb.flat itE_flat))
    · simp only [List.length_append, hal, hbl, hz2, hxl, sz_itE]; omega
    · have := (upd_setRow W1.drew w.heap.size L2.toArray).size
      have h1 : w.heap.size < W1.heap.size := blk_lt hg1
      have h2 : W1.drew.heap.size = W1.heap.size := rfl
      omega
  rw [maxLen_eq] at hcm
  rw [← hW1] at hcp1
  have hr' := hr
  rw [← hW0] at hr'
  have hmk : ((c : Int) + 1 - i) = ((c + 1 - i : Nat) : Int) := by omega
  clear hL2e hL2 hL1 hL0 hl1 hl0 hW1 hW0 hg1 hg0 hvb0 hgg1 hgg0 hu1 hu0 hs0 hg hrel hlen hal hbl ra rb hcl hz1 hz2 hr hat
  have hw1 : IntKind.i64.wrap ((i : Int) + 1) = (i : Int) + 1 := by rw [IntKind.wrap_i64]; omega
  have hb1 : (0 : Int) ≤ (i : Int) + 1 := by omega
  have htn : ((i : Int) + 1).toNat = i + 1 := by omega
  have hb2 : ¬ (cap = i + 1) := by omega
  have hb2' : ¬ (cap = i) := by omega
  have hb3 : (i : Int) ≤ (c : Int) := by omega
  have hb4 : ¬ (c = i) := by omega
  have hin : i ≤ c := by omega
  have hc0 : ¬ (c = 0) := by omega
  go_enter Try.func30, Try.ntmps30
  go_wp2_with (first
    | (at_builtin; refine Lib.wpList_append_run _ rfl _ _ 27 3 rfl _ _ rfl rfl _ _ (hr' _) ?_)
    | (at_builtin; refine wpList_copy_run _ rfl _ _ 27 27 rfl _ _ rfl rfl (hcp1 _) ?_))
  go_region_law (refine step_copy_run rfl _ _ 27 27 rfl _ _ (by simp [Act.eval, Act.put]) (by simp [Act.eval, Act.put]) (hcp2 _ _ _ _ _ (by omega) (by omega)) ?_)
  go_wp2
  go_ret
  exact hfin

/-- slices.Insert of one item -/
theorem insert_spec (w : World) (g vb i : Nat) (xs : List It) (x : It) (v : Value) (lx : List Value) (hx : itE.ok w Non x lx) (hvb : w.heap[vb]? = some (.cells lx.toArray 33 (0, 0))) (hne : vb ≠ g)
    (hb : Buf itE 33 w g Non v xs) (hi : i ≤ xs.length) (hn : xs.length ≤ 1048576) :
    Calls Try.prog 30 #[v, .int .i64 i, .slice (some ⟨vb, 0, none⟩) 1 1] w (InsPost w g xs i x) := by
  by_cases he : i = xs.length
  · subst he
    exact insert_end w g vb xs x v lx hx hvb hb hn
  · rcases hb with ⟨_, h⟩ | ⟨c, cs, rest, rfl, hg, hrel, hlen, hc, hm⟩
    · subst h
      simp at he hi
      omega
    · by_cases hroom : xs.length + 1 ≤ c
      · exact insert_shift w g vb xs.length i c xs x lx cs rest hx hvb hne hg hrel hlen rfl (by omega) hroom hm
      · exact insert_grow w g vb xs.length i c xs x lx cs rest hx hvb hg hrel hlen rfl (by omega) hc (by omega) hn
end Go.Proofs.Ytnaldifgnpnbhaa
