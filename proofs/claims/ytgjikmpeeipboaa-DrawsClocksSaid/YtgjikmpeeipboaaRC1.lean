/-
  The reference's clock: Tick, Next.
-/
import Derived.Test.YtgjikmpeeipboaaC6
namespace Go.Proofs.Ytgjikmpeeipboaa
open Go.RowKit
/-- an alarm of the reference's, as cells -/
def almE : Elt Alm where
  sz := 2
  ok := fun _ _ x l => l = [.int .i64 x.1, .int .i64 x.2]
  len := fun h => by rw [h]; rfl
  one := fun h u hu => by
    rw [h] at hu
    simp at hu
    rcases hu with rfl | rfl <;> rfl
  keep := fun _ h => h
  mono := fun _ h => h
theorem almE_flat : almE.flat := fun h => h
theorem Rd.alm {w : World} {F : Nat → Prop} {v : Value} {xs : List Alm} (h : Rd almE w F v xs) {k : Nat} (hk : k < xs.length) : ∃ b o c, v = .slice (some ⟨b, o, none⟩) xs.length c ∧ xs.length ≤ c ∧ F b ∧
    w.cell? ⟨b, o + k * 2, none⟩ = some (.int .i64 xs[k].1) ∧ w.cell? ⟨b, o + k * 2 + 1, none⟩ = some (.int .i64 xs[k].2) := by
  obtain ⟨b, o, c, l, hv, hc, hf, hl, hg⟩ := h.get hk (by decide)
  have hl : l = [.int .i64 xs[k].1, .int .i64 xs[k].2] := hl
  subst hl
  exact ⟨b, o, c, hv, hc, hf, by simpa [almE] using hg 0 (by decide), by simpa [almE, Nat.add_assoc] using hg 1 (by decide)⟩
theorem info72 : (Try.prog.info? 72).map (fun i => (i.zero, i.size, i.bytes)) = some (some (.agg #[.int .i64 0, .int .i64 0]), 2, 16) := by kernel_rfl
/-- the reference's clock -/
def RClk (w : World) (F : Nat → Prop) (q : Nat) (t : Int) (L : List Alm) : Prop :=
  ∃ v, w.heap[q]? = some (.cells #[.int .i64 t, v] 54 (0, 0)) ∧ Own almE 72 w F v L ∧ ¬ F q ∧ Fin w F
theorem RClk.cells {w : World} {F : Nat → Prop} {q : Nat} {t : Int} {L : List Alm} (h : RClk w F q t L) :
    ∃ A c, w.heap[q]? = some (.cells #[.int .i64 t, .slice A L.length c] 54 (0, 0)) ∧ L.length ≤ c ∧ c ≤ maxLen ∧ Rd almE w F (.slice A L.length c) L := by
  obtain ⟨v, hb, ho, _⟩ := h
  obtain ⟨A, c, rfl, hc, hm⟩ := ho.shape
  exact ⟨A, c, hb, hc, hm, ho.rd⟩
theorem RClk.upd {S F : Nat → Prop} {w w' : World} {q : Nat} {t : Int} {L : List Alm} (h : RClk w F q t L) (hu : Upd S w w') (hq : ¬ S q) (hF : ∀ k, F k → ¬ S k) : RClk w' F q t L := by
  obtain ⟨v, hb, ho, hn, hfin⟩ := h
  exact ⟨v, (hu.block q (blk_lt hb) hq).trans hb, ho.upd hu fun k hk => ⟨hfin k hk, hF k hk⟩, hn, hfin.upd hu⟩
def RTickPost (w : World) (F : Nat → Prop) (q : Nat) (t n : Int) (L : List Alm) (e : Ending) (w' : World) : Prop := e = .returned (.int .i64 (tickT t n)) ∧ Upd (fun k => k = q) w w' ∧ RClk w' F q (tickT t n) L
theorem rtick_spec (w : World) (F : Nat → Prop) (q : Nat) (t n : Int) (L : List Alm) (h : RClk w F q t L) (ht : 0 ≤ t ∧ t ≤ 1000000000000) : Calls Try.prog 24 #[.pointer (some ⟨q, 0, none⟩), .int .i64 n] w (RTickPost w F q t n L) := by
  obtain ⟨v, hb, ho, hn, hfin⟩ := id h
  have c0 : w.cell? ⟨q, 0, none⟩ = some (.int .i64 t) := blk_at hb 0
  have f0 : w.frozen? ⟨q, 0, none⟩ = false := blk_free hb 0
  by_cases h1 : 1 ≤ n
  · by_cases h2 : n ≤ 1048576
    · have t1 : decide (1 ≤ n) = true := decide_eq_true h1
      have t2 : decide (n ≤ 1048576) = true := decide_eq_true h2
      have hend : RTickPost w F q t n L (.returned (.int .i64 (t + n))) (w.setCell ⟨q, 0, none⟩ (.int .i64 (t + n))) := by
        simp only [RTickPost, tickT, if_pos (show 1 ≤ n ∧ n ≤ 1048576 from ⟨h1, h2⟩)]
        have hu : Upd (fun k => k = q) w (w.setCell ⟨q, 0, none⟩ (.int .i64 (t + n))) := Upd.set (S := fun k => k = q) (Upd.refl _ w) (p := ⟨q, 0, none⟩) (.inr rfl) _
        refine ⟨trivial, hu, v, ?_, ho.upd hu fun k hk => ⟨hfin k hk, fun e => hn (by rw [← show k = q from e]; exact hk)⟩, hn, hfin.upd hu⟩
        have := blk_set hb 0 (.int .i64 (t + n))
        simpa using this
      clear h ho
      go_enter Try.func24, Try.ntmps24
      go_wp2
      go_ret
      exact hend
    · have t1 : decide (1 ≤ n) = true := decide_eq_true h1
      have t2 : decide (n ≤ 1048576) = false := decide_eq_false h2
      have hend : RTickPost w F q t n L (.returned (.int .i64 t)) w := by
        simp only [RTickPost, tickT, if_neg (show ¬ (1 ≤ n ∧ n ≤ 1048576) from fun h => h2 h.2)]
        exact ⟨trivial, Upd.refl _ _, h⟩
      clear h ho
      go_enter Try.func24, Try.ntmps24
      go_wp2
      go_ret
      exact hend
  · have t1 : decide (1 ≤ n) = false := decide_eq_false h1
    have hend : RTickPost w F q t n L (.returned (.int .i64 t)) w := by
      simp only [RTickPost, tickT, if_neg (show ¬ (1 ≤ n ∧ n ≤ 1048576) from fun h => h1 h.1)]
      exact ⟨trivial, Upd.refl _ _, h⟩
    clear h ho
    go_enter Try.func24, Try.ntmps24
    go_wp2
    go_ret
    exact hend
/-- the least tick -/
def nextV (L : List Alm) : Int := match L with | [] => 0 | x :: _ => x.2
theorem rnextc_spec (w : World) (F : Nat → Prop) (q : Nat) (t : Int) (L : List Alm) (h : RClk w F q t L) : Calls Try.prog 30 #[.pointer (some ⟨q, 0, none⟩)] w fun e w' => e = .returned (.tuple #[.int .i64 (nextV L), .bool !L.isEmpty]) ∧ w = w' := by
  obtain ⟨A, c, hb, hc, hm, hr⟩ := h.cells
  have c1 : w.cell? ⟨q, 1, none⟩ = some (.slice A L.length c) := blk_at hb 1
  cases L with
  | nil =>
    simp only [List.length_nil] at c1
    go_enter Try.func30, Try.ntmps30
    go_wp2
    go_ret2
    exact ⟨rfl, rfl⟩
  | cons x xs =>
    obtain ⟨b1, o1, c1', e1, _, _, m0, m1⟩ := hr.alm (k := 0) (by simp)
    cases e1
    simp only [List.getElem_cons_zero, Nat.zero_mul, Nat.add_zero] at m0 m1
    simp only [List.length_cons] at c1
    have t1 : ((xs.length : Int) + 1 == 0) = false := by simp; omega
    go_enter Try.func30, Try.ntmps30
    go_wp2
    go_ret2
    exact ⟨rfl, rfl⟩

/-! ### the reference's Drop -/
theorem del_at {L : List Alm} (hn : (idsA L).Nodup) {k : Nat} (hk : k < L.length) : delL L L[k].1 = L.take k ++ L.drop (k + 1) := by
  have e : L = L.take k ++ L[k] :: L.drop (k + 1) := by rw [← List.drop_eq_getElem_cons hk, List.take_append_drop]
  have h1 : ∀ y ∈ L.take k ++ L.drop (k + 1), y.1 ≠ L[k].1 := fun y hy e2 => by
    rw [e] at hn
    simp only [idsA, List.map_append, List.map_cons] at hn
    have h2 := (List.perm_middle.nodup_iff.1 hn)
    have h3 := (List.nodup_cons.1 h2).1
    apply h3
    rw [← e2, ← List.map_append]
    exact List.mem_map.2 ⟨y, hy, rfl⟩
  generalize hx : L[k].1 = x at h1 ⊢
  rw [e]
  unfold delL
  rw [List.filter_append, List.filter_cons]
  have hkx : (!(L[k].1 == x)) = false := by simp [hx]
  rw [if_neg (by rw [hkx]; simp)]
  have f1 : (L.take k).filter (fun y => !(y.1 == x)) = L.take k := List.filter_eq_self.2 fun y hy => by simpa using h1 y (List.mem_append_left _ hy)
  have f2 : (L.drop (k + 1)).filter (fun y => !(y.1 == x)) = L.drop (k + 1) := List.filter_eq_self.2 fun y hy => by simpa using h1 y (List.mem_append_right _ hy)
  have f1' : (L.take k).filter (fun y => !(y.1 == x)) = L.take k := f1
  rw [← e]
  rw [f1, f2]
def RDropPost (w : World) (F : Nat → Prop) (q : Nat) (t id : Int) (L : List Alm) (e : Ending) (w' : World) : Prop :=
  e = .returned (.bool (L.any fun y => y.1 == id)) ∧ Upd (fun x => x = q) w w' ∧ ∃ F', RClk w' F' q t (delL L id) ∧ ∀ k, F' k → F k ∨ New w w' k
theorem delL_none0 {L : List Alm} {x : Int} (h : x ∉ idsA L) : delL L x = L := by
  unfold delL
  refine List.filter_eq_self.2 fun y hy => ?_
  have : ¬ y.1 = x := fun e => h (e ▸ List.mem_map.2 ⟨y, hy, rfl⟩)
  simpa using this
theorem scr_new {w W w2 : World} (hu : Upd Non w W) {v : Value} {ys : List Alm} (h : Own almE 72 w2 (fun k => Non k ∨ Non k ∨ New W w2 k) v ys) : Own almE 72 w2 (New w w2) v ys :=
  h.mono fun k hk => by
    rcases hk with h | h | h
    · exact h.elim
    · exact h.elim
    · exact ⟨by have := h.1; have := hu.size; omega, h.2⟩
theorem scr_next {w w2 w3 : World} (hu2 : Upd Non w w2) (hu3 : Upd (New w w2) w2 w3) {v : Value} {ys : List Alm} (h : Own almE 72 w3 (fun k => New w w2 k ∨ Non k ∨ New w2 w3 k) v ys) : Upd Non w w3 ∧ Own almE 72 w3 (New w w3) v ys := by
  refine ⟨hu2.trans' hu3 fun x hx h => by have := h.1; omega, h.mono fun k hk => ?_⟩
  have := hu2.size
  have := hu3.size
  rcases hk with h | h | h
  · exact ⟨h.1, by have := h.2; omega⟩
  · exact h.elim
  · exact ⟨by have := h.1; omega, h.2⟩
/-- a new row is laid into the clock -/
theorem rclk_lay {w w3 : World} {q : Nat} {t : Int} {v0 v : Value} {L : List Alm} (hb : w.heap[q]? = some (.cells #[.int .i64 t, v0] 54 (0, 0))) (hu : Upd Non w w3) (ho : Own almE 72 w3 (New w w3) v L) :
    Upd (fun x => x = q) w (w3.setCell ⟨q, 1, none⟩ v) ∧ RClk (w3.setCell ⟨q, 1, none⟩ v) (New w (w3.setCell ⟨q, 1, none⟩ v)) q t L := by
  have hq := blk_lt hb
  have hs : Upd (fun x => x = q) w3 (w3.setCell ⟨q, 1, none⟩ v) := Upd.set (S := fun x => x = q) (Upd.refl _ w3) (p := ⟨q, 1, none⟩) (.inr rfl) _
  have hsz : (w3.setCell ⟨q, 1, none⟩ v).heap.size = w3.heap.size := by simp [World.setCell]
  have hnq : ∀ k, New w w3 k → ¬ k = q := fun k hk e => by have := hk.1; omega
  refine ⟨(hu.mono fun _ _ h => h.elim).trans hs, v, ?_, ?_, fun h => by have := h.1; omega, fun k hk => hk.2⟩
  · have := blk_set ((hu.block q hq id).trans hb) 1 v
    simpa using this
  · exact (ho.upd hs fun k hk => ⟨hk.2, hnq k hk⟩).mono fun k hk => ⟨hk.1, by rw [hsz]; exact hk.2⟩
theorem rdrop_end {w w3 : World} {F : Nat → Prop} {q : Nat} {t ai : Int} {v0 v : Value} {L : List Alm} (hb : w.heap[q]? = some (.cells #[.int .i64 t, v0] 54 (0, 0))) (hu : Upd Non w w3) (ho : Own almE 72 w3 (New w w3) v (delL L ai)) (hany : (L.any fun y => y.1 == ai) = true) :
    RDropPost w F q t ai L (.returned (.bool true)) (w3.setCell ⟨q, 1, none⟩ v) := by
  obtain ⟨h1, h2⟩ := rclk_lay hb hu ho
  exact ⟨by rw [hany], h1, _, h2, fun k hk => .inr hk⟩
theorem scr_next2 {w w2 W w3 : World} (hu2 : Upd Non w w2) (hW : Upd Non w2 W) (hu3 : Upd (New w w2) W w3) {v : Value} {ys : List Alm} (h : Own almE 72 w3 (fun k => New w w2 k ∨ Non k ∨ New W w3 k) v ys) : Upd Non w w3 ∧ Own almE 72 w3 (New w w3) v ys := by
  refine ⟨(hu2.trans hW).trans' hu3 fun x hx h => by have := h.1; omega, h.mono fun k hk => ?_⟩
  have := hu2.size
  have := hu3.size
  have := hW.size
  rcases hk with h | h | h
  · exact ⟨h.1, by have := h.2; omega⟩
  · exact h.elim
  · exact ⟨by have := h.1; omega, h.2⟩
end Go.Proofs.Ytgjikmpeeipboaa
