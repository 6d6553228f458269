/-
  Alarms, sorted.
-/
import Derived.Test.YtgjikmpeeipboaaC3
import Derived.Shelf.SlSortCmp.NoneTotal
namespace Go.Proofs.Ytgjikmpeeipboaa
open Go.RowKit
/-! ### the order, as the sort wants it -/
def w64 (x : Int) : Int := wrap64 x
theorem w64_b (x : Int) : IB (w64 x) := by unfold w64 wrap64 IB; omega
theorem w64_id {x : Int} (h : IB x) : w64 x = x := by unfold IB at h; unfold w64 wrap64; omega
def encW (x : Int) : Value := .int .i64 (w64 x)
def cfW (f : Int → Int) (x y : Int) : Int := cfA f (w64 x) (w64 y)
theorem cfA_lt {f : Int → Int} {x y : Int} : cfA f x y < 0 ↔ f x < f y ∨ f x = f y ∧ x < y := by
  unfold cfA orI cmpI
  split <;> split at * <;> (try split) <;> (try split at *) <;> (try split) <;> (try omega)
theorem lt_cfW {f : Int → Int} {x y : Int} : Go.Proofs.ltOf (cfW f) x y = true ↔ f (w64 x) < f (w64 y) ∨ f (w64 x) = f (w64 y) ∧ w64 x < w64 y := by
  unfold Go.Proofs.ltOf cfW
  rw [decide_eq_true_iff, cfA_lt]
theorem not_lt_cfW {f : Int → Int} {x y : Int} : Go.Proofs.ltOf (cfW f) x y = false ↔ ¬ (f (w64 x) < f (w64 y) ∨ f (w64 x) = f (w64 y) ∧ w64 x < w64 y) := by
  rw [← lt_cfW]; simp
theorem swo_cfW (f : Int → Int) : Go.Sort.SWO (Go.Proofs.ltOf (cfW f)) where
  irrefl x := by rw [not_lt_cfW]; omega
  trans x y z h k := by rw [lt_cfW] at *; omega
  ntrans x y z h k := by rw [not_lt_cfW] at *; omega
theorem one_encW : Go.Proofs.OneCell encW := fun _ => rfl

theorem upd_sortWorld {w : World} {g m : Nat} {dk : Array Int} {os : Array Obj} : Upd (fun k => k = g) w (sortWorld encW w g 0 m dk os) := by
  refine ⟨rfl, rfl, rfl, by simp [sortWorld], fun k hk hne => ?_⟩
  unfold sortWorld
  rw [Go.Sort.heap_grow_old _ _ (by simpa using hk)]
  have : g ≠ k := fun e => hne (by rw [e])
  simp [Go.Sort.putRow, Go.Sort.mapBlock, Go.Sort.ahead, Array.getElem?_modify, this]
theorem cmp_lays {w : World} {B p b : Nat} {D : DataW Unit} {L : List Alm} (hs : Sees w B p b D) (hL : MapL D L) (g size : Nat) (h1 : ¬ B = g) (h2 : ¬ p = g) (h3 : ¬ b = g) :
    CmpLays1 Try.prog 33 #[.pointer (some ⟨B, 0, none⟩)] encW (cfW (valA L)) g 0 size w := fun m os dk _ x y =>
  (cmp_spec (sortWorld encW w g 0 m dk os) B p b D L (hs.upd upd_sortWorld h1 h2 h3) hL (w64 x) (w64 y) (w64_b x) (w64_b y)).mono fun _ _ h => h

/-- two rows of one make, in order, are one -/
theorem order_unique {L : List Alm} (hn : (idsA L).Nodup) (hs : SrtA L) (hb : ∀ y ∈ L, IB y.1 ∧ IB y.2) {l : List Int} (hp : l.Perm (idsA L)) (hl : l.Pairwise fun a b => Go.Proofs.ltOf (cfW (valA L)) b a = false) : l = idsA L := by
  have hmem : ∀ a, a ∈ l → ∃ y ∈ L, y.1 = a := fun a ha => List.mem_map.1 (hp.mem_iff.1 ha)
  have hid : ∀ y ∈ L, w64 y.1 = y.1 := fun y hy => w64_id (hb y hy).1
  have hL : (idsA L).Pairwise fun a b => Go.Proofs.ltOf (cfW (valA L)) b a = false := by
    unfold idsA
    rw [List.pairwise_map]
    refine hs.imp_of_mem fun {a b} ha hb' h => ?_
    rw [not_lt_cfW, hid a ha, hid b hb', valA_mem hn ha, valA_mem hn hb']
    rw [ltA_iff] at h
    omega
  refine List.Perm.eq_of_pairwise (le := fun a b => Go.Proofs.ltOf (cfW (valA L)) b a = false) (fun a b ha hb' h1 h2 => ?_) hl hL hp
  obtain ⟨x, hx, rfl⟩ := hmem a ha
  obtain ⟨y, hy, rfl⟩ := List.mem_map.1 hb'
  rw [not_lt_cfW, hid x hx, hid y hy] at h1 h2
  omega

def SortedPost (w : World) (L : List Alm) (e : Ending) (w' : World) : Prop := ∃ v, e = .returned v ∧ Upd Non w w' ∧ Rd intE w' (New w w') v (idsA L)
theorem rel_ints (w : World) (F : Nat → Prop) : ∀ l : List Int, Rel intE w F l (l.map encZ)
  | [] => rfl
  | x :: l => ⟨[.int .i64 x], _, by simp, rfl, rel_ints w F l⟩
theorem sorted_fin {w W : World} {L : List Alm} {g cap m : Nat} {os : Array Obj} {d d' : Array Int} (hn : (idsA L).Nodup) (hs : SrtA L) (hb : ∀ y ∈ L, IB y.1 ∧ IB y.2) (hu : Upd Non w W) (hg : w.heap.size ≤ g) (hgl : g < W.heap.size)
    (hd : d.toList.Perm (idsA L)) (hH : Go.Sort.Holds encW W g 0 d) (hp : Go.Sort.PermIn 0 d.size d d') (hsd : Go.Sort.SortedIn (Go.Proofs.ltOf (cfW (valA L))) 0 d.size d') (h1 : d.size ≤ cap) (h2 : cap ≤ maxLen) :
    SortedPost w L (.returned (.slice (some ⟨g, 0, none⟩) d.size cap)) (sortWorld encW W g 0 m d' os) := by
  obtain ⟨p1, _, p2⟩ := hp
  have hl : d'.toList = idsA L := by
    refine order_unique hn hs hb ?_ ?_
    · refine List.Perm.trans ?_ hd
      have e1 : (d'.extract 0 d.size).toList = d'.toList := by simp [← p1]
      have e2 : (d.extract 0 d.size).toList = d.toList := by simp
      rw [e1, e2] at p2
      exact p2
    · rw [List.pairwise_iff_getElem]
      intro i j hi hj hij
      have := hsd i j (Nat.zero_le _) hij (by rw [← p1]; simpa using hj)
      simp only [Array.length_toList] at hi hj
      rw [getElem!_pos d' j hj, getElem!_pos d' i hi] at this
      simpa using this
  have hlen : (idsA L).length = d.size := by rw [← hl, Array.length_toList, p1]
  have hHo := holds_sortWorld encW W g 0 m d d' os hgl hH p1
  have hu2 : Upd Non w (sortWorld encW W g 0 m d' os) := hu.trans' upd_sortWorld fun x hx e => by have e : x = g := e; omega
  have hsz : W.heap.size ≤ (sortWorld encW W g 0 m d' os).heap.size := (upd_sortWorld (w := W)).size
  refine ⟨_, rfl, hu2, some ⟨g, 0, none⟩, cap, (idsA L).map encZ, by rw [hlen], by rw [hlen]; exact h1, h2, fun _ => ⟨g, 0, rfl, ⟨hg, by omega⟩, fun j hj => ?_⟩, rel_ints _ _ _⟩
  have hj' : j < d'.size := by rw [p1, ← hlen]; simpa using hj
  rw [(hHo j hj').1, getElem!_pos d' j hj']
  have hj2 : j < (idsA L).length := by rw [hlen, ← p1]; exact hj'
  have e : d'[j] = (idsA L)[j] := by
    have := congrArg (fun l => l[j]?) hl
    simp only [Array.getElem?_toList, Array.getElem?_eq_getElem hj', List.getElem?_eq_getElem hj2] at this
    simpa using this
  have hIB : IB (idsA L)[j] := by
    obtain ⟨y, hy, e⟩ := List.mem_map.1 (List.getElem_mem hj2)
    rw [← e]; exact (hb y hy).1
  rw [e, List.getElem?_map, List.getElem?_eq_getElem hj2]
  show some (encW _) = some (encZ _)
  simp only [encW, w64_id hIB, encZ]

set_option maxHeartbeats 1000000 in
theorem sortedFunc_spec (w : World) (B p b n Bm : Nat) (D : DataW Unit) (L : List Alm) (hs : Sees w B p b D) (hown : w.ownsMap Try.prog 3 (plainElem Try.prog 3) b n D) (hL : MapL D L) (srt : SrtA L) (hb : ∀ y ∈ L, IB y.1 ∧ IB y.2) (hm : w.cell? ⟨Bm, 0, none⟩ = some (.map (some b))) (hlen : L.length ≤ 1000000) :
    Calls Try.prog 31 #[.func (.func 43) #[] #[.pointer (some ⟨Bm, 0, none⟩)], .func (.func 33) #[] #[.pointer (some ⟨B, 0, none⟩)]] w (SortedPost w L) := by
  obtain ⟨hperm, hsize⟩ := size_of hown hL
  have hBm := World.block_lt_of_cell? w _ hm
  have hseq : SeqGives Fence.wide 1 Try.prog 43 #[.pointer (some ⟨Bm, 0, none⟩)] encZ (fun ss => ss.Perm (intKeys D)) (Maps.size D) w :=
    AnyZI.keys_gives (ρ := laysKeys_ren) { laysKeys with } Fence.wide 1 trivial rfl (by omega) Bm b n D w hBm hm hown
  have hcol : Calls Try.prog 40 #[.func (.func 43) #[] #[.pointer (some ⟨Bm, 0, none⟩)]] w fun e w' => ∃ (v : Value) (ss : List Int), e = .returned v ∧ ss.Perm (intKeys D) ∧ w'.ownsRow w.heap.size 3 1 v ss.length (ss.map encZ) ∧ (v = .slice none 0 0 ↔ ss = []) ∧ RowKit.Below w.heap.size w w' :=
    callsIn_wide.1 (AnyZI.collect_in laysCollect Fence.wide 3 trivial trivial rfl (by omega) 43 #[.pointer (some ⟨Bm, 0, none⟩)] trivial (enters_of Try.func43 (by kernel_rfl) rfl) (fun ss => ss.Perm (intKeys D)) (Maps.size D) (by rw [hsize, maxLen_eq]; omega) (by rw [hsize]; omega) w hseq)
  have hnone : ∀ (fv : Value) (W : World), Calls Try.prog 42 #[.slice none 0 0, fv] W fun e w' => e = .returned (.tuple #[]) ∧ W = w' := fun fv W => (AnyF.slices_SortFunc_none (ρ := laysSort_ren) { laysSort with } none 0 fv W).mono fun e w' h => ⟨h.1, h.2.symm⟩
  have hsort : ∀ (g cap : Nat) (d : Array Int) (W : World), CmpLays1 Try.prog 33 #[.pointer (some ⟨B, 0, none⟩)] encW (cfW (valA L)) g 0 d.size W → Go.Sort.Holds encW W g 0 d → g < W.heap.size → d.size < 4611686018427387904 →
      Calls Try.prog 42 #[.slice (some ⟨g, 0, none⟩) d.size cap, .func (.func 33) #[] #[.pointer (some ⟨B, 0, none⟩)]] W fun e w' => e = .returned (.tuple #[]) ∧ ∃ d' n os, Go.Sort.PermIn 0 d.size d d' ∧ Go.Sort.SortedIn (Go.Proofs.ltOf (cfW (valA L))) 0 d.size d' ∧ w' = sortWorld encW W g 0 n d' os :=
    fun g cap d W h1 h2 h3 h4 => Any.slices_SortFunc laysSort encW one_encW (cfW (valA L)) (swo_cfW _) 33 #[.pointer (some ⟨B, 0, none⟩)] g 0 cap d W (enters_of Try.func33 (by kernel_rfl) rfl) h1 h2 h3 h4
  by_cases hL0 : L = []
  · subst hL0
    have hs0 : ∀ ss : List Int, ss.Perm (intKeys D) → ss = [] := fun ss h => by
      have e : intKeys D = [] := by simpa [idsA] using hperm.symm
      rw [e] at h
      exact List.perm_nil.1 h
    have hend : ∀ w', Upd Non w w' → SortedPost w [] (.returned (.slice none 0 0)) w' := fun w' hu => ⟨_, rfl, hu, Rd.nil _ _ _⟩
    clear hsort hseq hperm
    go_enter Try.func31, Try.ntmps31
    go_wp2_with (first
      | (go_at_call 40; (with_reducible refine hcol.mono ?_); rintro e w1 ⟨v, ss, rfl, hp, hrow, hnil, hbe⟩; obtain rfl : v = .slice none 0 0 := hnil.2 (hs0 ss hp); clear hnil hrow hp)
      | (go_at_call 42; (with_reducible refine (hnone _ _).mono ?_); rintro e w2 ⟨rfl, rfl⟩))
    go_ret
    exact hend _ (Upd.of_below hbe)
  · have hcl : ∀ w1 (v : Value) (ss : List Int), ss.Perm (intKeys D) → w1.ownsRow w.heap.size 3 1 v ss.length (ss.map encZ) → RowKit.Below w.heap.size w w1 →
        ∃ g cap, v = .slice (some ⟨g, 0, none⟩) ss.length cap ∧ Calls Try.prog 42 #[v, .func (.func 33) #[] #[.pointer (some ⟨B, 0, none⟩)]] w1 fun e w' => e = .returned (.tuple #[]) ∧ SortedPost w L (.returned v) w' := fun w1 v ss hp hrow hbe => by
      have hne : ss ≠ [] := fun e => by
        subst e
        have := (hperm.trans hp.symm).length_eq
        simp [idsA] at this
        exact hL0 this
      have hu := Upd.of_below (S := Non) hbe
      rcases hrow.2 with ⟨_, h0⟩ | ⟨g, cap, cur, rfl, hbase, hblk, h1, h2, h3, h4⟩
      · exact absurd (List.length_eq_zero_iff.1 h0) hne
      · have hBlt : B < w.heap.size := World.block_lt_of_cell? w _ hs.1
        have hplt : p < w.heap.size := World.block_lt_of_cell? w _ hs.2.1
        have hblt := hown.lt
        have hib : ∀ x ∈ ss, IB x := fun x hx => by
          obtain ⟨y, hy, rfl⟩ := List.mem_map.1 ((hp.trans hperm.symm).mem_iff.1 hx)
          exact (hb y hy).1
        have hH : Go.Sort.Holds encW w1 g 0 ss.toArray := fun j hj => by
          obtain ⟨k1, k2⟩ := holds_of_block_i hblk (by simpa using h4) j hj
          refine ⟨k1.trans ?_, k2⟩
          have hj' : j < ss.length := by simpa using hj
          rw [getElem!_pos ss.toArray j hj]
          simp only [encW, encZ, List.getElem_toArray, w64_id (hib _ (List.getElem_mem hj'))]
        have hlt : g < w1.heap.size := blk_lt hblk
        have hss : ss.length ≤ 1000000 := by rw [hp.length_eq, ← hperm.length_eq]; simpa [idsA] using hlen
        refine ⟨g, cap, rfl, ?_⟩
        have hc := hsort g cap ss.toArray w1 (cmp_lays (hs.upd hu id id id) hL g _ (by omega) (by omega) (by omega)) hH hlt (by simp; omega)
        simp only [List.size_toArray] at hc
        refine hc.mono ?_
        rintro e w' ⟨rfl, d', m, os, q1, q2, rfl⟩
        refine ⟨rfl, ?_⟩
        have hf := sorted_fin (m := m) (os := os) (d := ss.toArray) (cap := cap) hL.1 srt hb hu hbase hlt (by simpa using hp.trans hperm.symm) hH (by simpa using q1) (by simpa using q2) (by simpa using h1) h2
        simpa using hf
    clear hsort hseq hperm hnone
    go_enter Try.func31, Try.ntmps31
    go_wp2_with (first
      | (go_at_call 40; (with_reducible refine hcol.mono ?_); rintro e w1 ⟨v, ss, rfl, hp, hrow, hnil, hbe⟩; obtain ⟨g, cap, rfl, hc⟩ := hcl w1 v ss hp hrow hbe; clear hnil hrow hp hcl)
      | (go_at_call 42; (with_reducible refine hc.mono ?_); rintro e w2 ⟨rfl, hpost⟩))
    go_ret
    exact hpost
end Go.Proofs.Ytgjikmpeeipboaa
