/-
  The walks of rlog.rises, rlog.New and (*Log).Last.
-/
import Derived.Test.YtniccejlmbfpdaaR1
namespace Go.Proofs.Ytniccejlmbfpdaa
open Go.RowKit
attribute [local go_sem] max2_int min2_int max_two min_two

/-- do terms rise, from t on? -/
def rises : Int → List Ent → Bool
  | _, [] => true
  | t, e :: es => !decide (e.1 < t) && rises e.1 es
theorem rises_step (t : Int) (es : List Ent) (k : Nat) (h : k < es.length) : rises t (es.drop k) = (!decide (es[k].1 < t) && rises es[k].1 (es.drop (k + 1))) := by
  rw [List.drop_eq_getElem_cons h]; rfl

set_option maxRecDepth 100000 in
theorem rises_spec (w : World) (F : Nat → Prop) (v : Value) (t : Int) (es : List Ent) (h : Rd entE w F v es) (hF : Fin w F) (hl : es.length ≤ 4398046511104) :
    Calls Try.prog 57 #[.int .i64 t, v] w fun e w' => e = .returned (.bool (rises (max t 1) es)) ∧ Upd Non w w' := by
  obtain ⟨A, c, hv, hc, _⟩ := h.shape
  subst hv
  go_enter Try.func57, Try.ntmps57
  go_wp2
  go_loopw [0, 11] (fun o i wr => ∃ (k : Nat) (u : Int), k ≤ es.length ∧ i = .int .i64 k ∧ o = .int .i64 u ∧ Hid (rises u (es.drop k) = rises (max t 1) es) ∧ Upd Non w wr) (fun _ i _ => es.length - (intOf i).toNat)
  case atStart => exact ⟨0, max t 1, Nat.zero_le _, rfl, rfl, Lib.hid (by simp), Upd.refl _ _⟩
  case round =>
    obtain ⟨k, u, hk, rfl, rfl, hr, hu⟩ := hrel
    by_cases hlt : k < es.length
    · obtain ⟨b, off, c', dv, e1, _, hf, hdl, hd, c0, c1⟩ := (h.upd hu (Upd.fr_non hF)).ent hlt
      cases e1
      obtain ⟨A1, cA, rfl, _⟩ := hd.shape
      have hs := rises_step u es k hlt
      by_cases hb : es[k].1 < u
      · have hfin : rises (max t 1) es = false := by rw [← hr.out, hs]; simp [hb]
        have HF := Lib.hid hfin
        clear hfin hs
        go_wp2
        go_ret
        exact ⟨by rw [HF.out]; rfl, hu.alloc _⟩
      · have hfin : rises es[k].1 (es.drop (k + 1)) = rises (max t 1) es := by rw [← hr.out, hs]; simp [hb]
        have HF := Lib.hid hfin
        clear hfin hs
        go_wp2
        go_roundw
        case rel => exact ⟨k + 1, _, by omega, by go_num, rfl, HF, hu.alloc _⟩
        case measure => simp [intOf]; omega
    · have hfin : rises (max t 1) es = true := by rw [← hr.out, List.drop_of_length_le (by omega)]; rfl
      have HF := Lib.hid hfin
      clear hfin
      go_wp2
      go_ret
      exact ⟨by rw [HF.out]; rfl, hu⟩

/-- A log in memory: its block p, the blocks F that its entries lie in. -/
def Log (w : World) (F : Nat → Prop) (p : Nat) (i t : Int) (es : List Ent) : Prop :=
  ∃ v, w.heap[p]? = some (.cells #[.int .i64 i, .int .i64 t, v] 104 (0, 0)) ∧ Own entE 46 w F v es ∧ ¬ F p ∧ Fin w F
def newOk (i t : Int) (es : List Ent) : Bool := !decide (i < 0) && !decide (t < 0) && ((i == 0) == (t == 0)) && rises (max t 1) es
def NewPost (w : World) (i t : Int) (es : List Ent) (e : Ending) (w' : World) : Prop := Upd Non w w' ∧
      (newOk i t es = false ∧ e = .returned (.tuple #[.pointer none, .int .i64 1]) ∨
       newOk i t es = true ∧ ∃ p F', e = .returned (.tuple #[.pointer (some ⟨p, 0, none⟩), .int .i64 0]) ∧ Log w' F' p i t es ∧ New w w' p ∧ ∀ k, F' k → New w w' k)

theorem new_yes {w w1 w2 : World} {i t : Int} {es : List Ent} {v : Value} (hu1 : Upd Non w w1) (hu2 : Upd Non w1 w2) (ho : Own entE 46 w2 (New w1 w2) v es) (hok : newOk i t es = true) :
    NewPost w i t es (.returned (.tuple #[.pointer (some ⟨w2.heap.size, 0, none⟩), .int .i64 0])) (w2.alloc (.cells #[.int .i64 i, .int .i64 t, v] 104)) := by
  have h1 := hu1.size
  have h2 := hu2.size
  refine ⟨(hu1.trans hu2).alloc _, .inr ⟨hok, w2.heap.size, New w1 w2, rfl, ⟨v, heap_alloc_new _ _, ho.alloc Fin.new _, fun h => Nat.lt_irrefl _ h.2, (Fin.new (w := w1)).upd ((Upd.refl Non w2).alloc _)⟩, ⟨by omega, by simp⟩, fun k hk => ?_⟩⟩
  have := hk.1
  have := hk.2
  exact ⟨by omega, by simp; omega⟩

set_option maxHeartbeats 1000000 in
set_option maxRecDepth 100000 in
theorem new_spec (w : World) (F : Nat → Prop) (v : Value) (i t : Int) (es : List Ent) (h : Rd entE w F v es) (hF : Fin w F) (hl : es.length ≤ 4398046511104) :
    Calls Try.prog 16 #[.int .i64 i, .int .i64 t, v] w (NewPost w i t es) := by
  by_cases h1 : i < 0
  · have hno : newOk i t es = false := by simp [newOk, h1]
    go_enter Try.func16, Try.ntmps16
    go_wp2
    go_ret2
    exact ⟨Upd.refl _ _, .inl ⟨hno, rfl⟩⟩
  · by_cases h2 : t < 0
    · have hno : newOk i t es = false := by simp [newOk, h2]
      go_enter Try.func16, Try.ntmps16
      go_wp2
      go_ret2
      exact ⟨Upd.refl _ _, .inl ⟨hno, rfl⟩⟩
    · obtain ⟨bi, hbi⟩ : ∃ b, (i == 0) = b := ⟨_, rfl⟩
      obtain ⟨bt, hbt⟩ : ∃ b, (t == 0) = b := ⟨_, rfl⟩
      have hy : newOk i t es = ((bi == bt) && rises (max t 1) es) := by simp [newOk, h1, h2, hbi, hbt]
      have HY := Lib.hid hy
      clear hy
      by_cases hne : bi = bt
      · subst hne
        obtain ⟨r, hr⟩ : ∃ r, rises (max t 1) es = r := ⟨_, rfl⟩
        have HR := Lib.hid hr
        clear hr
        cases bi <;> cases r
        all_goals
          go_enter Try.func16, Try.ntmps16
          go_wp2_with (go_at_call 57; refine (rises_spec w F v t es h hF hl).mono ?_; rintro e w1 ⟨rfl, hu1⟩; rw [HR.out])
        · go_ret2
          exact ⟨hu1, .inl ⟨by rw [HY.out, HR.out]; rfl, rfl⟩⟩
        · refine (twins_spec w1 F v es (h.upd hu1 (Upd.fr_non hF)) (hF.upd hu1) hl).mono ?_
          rintro e w2 ⟨v2, rfl, hu2, ho2⟩
          obtain ⟨A2, c2, rfl, hc2, _⟩ := ho2.shape
          go_wp2_with fail
          go_ret2
          exact new_yes hu1 hu2 ho2 (by rw [HY.out, HR.out]; rfl)
        · go_ret2
          exact ⟨hu1, .inl ⟨by rw [HY.out, HR.out]; rfl, rfl⟩⟩
        · refine (twins_spec w1 F v es (h.upd hu1 (Upd.fr_non hF)) (hF.upd hu1) hl).mono ?_
          rintro e w2 ⟨v2, rfl, hu2, ho2⟩
          obtain ⟨A2, c2, rfl, hc2, _⟩ := ho2.shape
          go_wp2_with fail
          go_ret2
          exact new_yes hu1 hu2 ho2 (by rw [HY.out, HR.out]; rfl)
      · have hno : newOk i t es = false := by rw [HY.out]; cases bi <;> cases bt <;> simp_all
        cases bi <;> cases bt
        · exact absurd rfl hne
        · go_enter Try.func16, Try.ntmps16
          go_wp2
          go_ret2
          exact ⟨Upd.refl _ _, .inl ⟨hno, rfl⟩⟩
        · go_enter Try.func16, Try.ntmps16
          go_wp2
          go_ret2
          exact ⟨Upd.refl _ _, .inl ⟨hno, rfl⟩⟩
        · exact absurd rfl hne

/-- answered without a change: only orders may have been drawn -/
def Same (w : World) (v : Value) (e : Ending) (w' : World) : Prop := e = .returned v ∧ ∃ n, w' = w.drewN n
theorem Log.cells {w : World} {F : Nat → Prop} {p : Nat} {i t : Int} {es : List Ent} (h : Log w F p i t es) :
    ∃ A c, w.cell? ⟨p, 0, none⟩ = some (.int .i64 i) ∧ w.cell? ⟨p, 1, none⟩ = some (.int .i64 t) ∧ w.cell? ⟨p, 2, none⟩ = some (.slice A es.length c) ∧ es.length ≤ c ∧ Rd entE w F (.slice A es.length c) es := by
  obtain ⟨v, hb, ho, _⟩ := h
  obtain ⟨A, c, rfl, hc, _⟩ := ho.shape
  exact ⟨A, c, blk_at hb 0, blk_at hb 1, blk_at hb 2, hc, ho.rd⟩
def lastT (t : Int) (es : List Ent) : Int := (es.getLast?.map (·.1)).getD t
theorem lastT_pos (t : Int) (es : List Ent) (h : 0 < es.length) : lastT t es = (es[es.length - 1]'(by omega)).1 := by
  simp [lastT, List.getLast?_eq_getElem?, List.getElem?_eq_getElem (show es.length - 1 < es.length by omega)]
theorem lastT_nil (t : Int) (es : List Ent) (h : es.length = 0) : lastT t es = t := by
  rw [List.eq_nil_of_length_eq_zero h]; rfl
/-- an index's term, as the log tells it -/
def termOf (i t : Int) (es : List Ent) (x : Int) : Int × Bool :=
  if x = i then (t, true) else if x < i ∨ (es.length : Int) < x - i then (0, false) else (((es[(x - i - 1).toNat]?).map (·.1)).getD 0, true)

set_option maxRecDepth 100000 in
theorem last_spec {w : World} {F : Nat → Prop} {p : Nat} {i t : Int} {es : List Ent} (h : Log w F p i t es) (h0 : 0 ≤ i) (h1 : i ≤ 4611686018427387904) (hl : es.length ≤ 4398046511104) :
    Calls Try.prog 17 #[.pointer (some ⟨p, 0, none⟩)] w (Same w (.tuple #[.int .i64 (i + es.length), .int .i64 (lastT t es)])) := by
  obtain ⟨A, c, c0, c1, c2, hc, hr⟩ := h.cells
  by_cases hp : 0 < es.length
  · obtain ⟨b, off, c', dv, e1, _, hf, hdl, hd, d0, d1⟩ := hr.ent (k := es.length - 1) (by omega)
    cases e1
    have hlt := lastT_pos t es hp
    have HL := Lib.hid hlt
    clear hlt
    have e1 : ((es.length : Int) - 1).toNat = es.length - 1 := by omega
    have e2 : (0 : Int) ≤ (es.length : Int) - 1 := by omega
    have e3 : (es.length : Int) - 1 < es.length := by omega
    have e4 : decide ((0 : Int) < (es.length : Int)) = true := decide_eq_true (by omega)
    go_enter Try.func17, Try.ntmps17
    go_wp2
    go_quiet (fail)
    go_wp2
    go_ret2
    rw [HL.out]
    exact ⟨rfl, _, rfl⟩
  · have hlt := lastT_nil t es (by omega)
    have HL := Lib.hid hlt
    clear hlt
    have e4 : decide ((0 : Int) < (es.length : Int)) = false := decide_eq_false (by omega)
    go_enter Try.func17, Try.ntmps17
    go_wp2
    go_quiet (fail)
    go_wp2
    go_ret2
    rw [HL.out]
    exact ⟨by rw [show es.length = 0 by omega]; simp, _, rfl⟩

end Go.Proofs.Ytniccejlmbfpdaa
