/-
  The walks of rlog's readers, and of few.
-/
import Derived.Test.YtniccejlmbfpdaaR2
namespace Go.Proofs.Ytniccejlmbfpdaa
open Go.RowKit
attribute [local go_sem] max2_int min2_int max_two min_two

set_option maxRecDepth 100000 in
theorem first_spec {w : World} {F : Nat → Prop} {p : Nat} {i t : Int} {es : List Ent} (h : Log w F p i t es) (h0 : 0 ≤ i) (h1 : i ≤ 4611686018427387904) :
    Calls Try.prog 34 #[.pointer (some ⟨p, 0, none⟩)] w fun e w' => e = .returned (.int .i64 (i + 1)) ∧ w = w' := by
  obtain ⟨A, c, c0, c1, c2, hc, hr⟩ := h.cells
  go_enter Try.func34, Try.ntmps34
  go_wp2
  go_ret
  exact ⟨rfl, rfl⟩

set_option maxRecDepth 100000 in
theorem len_spec {w : World} {F : Nat → Prop} {p : Nat} {i t : Int} {es : List Ent} (h : Log w F p i t es) :
    Calls Try.prog 39 #[.pointer (some ⟨p, 0, none⟩)] w fun e w' => e = .returned (.int .i64 es.length) ∧ w = w' := by
  obtain ⟨A, c, c0, c1, c2, hc, hr⟩ := h.cells
  go_enter Try.func39, Try.ntmps39
  go_wp2
  go_ret
  exact ⟨rfl, rfl⟩

/-- is a log that ends so as new as this one? -/
def newer (i t : Int) (es : List Ent) (x u : Int) : Bool := decide (lastT t es < u) || u == lastT t es && decide (i + es.length ≤ x)

set_option maxRecDepth 100000 in
theorem newer_spec {w : World} {F : Nat → Prop} {p : Nat} {i t : Int} {es : List Ent} (h : Log w F p i t es) (h0 : 0 ≤ i) (h1 : i ≤ 4611686018427387904) (hl : es.length ≤ 4398046511104) (x u : Int) :
    Calls Try.prog 18 #[.pointer (some ⟨p, 0, none⟩), .int .i64 x, .int .i64 u] w (Same w (.bool (newer i t es x u))) := by
  obtain ⟨r, hr⟩ : ∃ r, newer i t es x u = r := ⟨_, rfl⟩
  rw [hr]
  unfold newer at hr
  have H := fun w' (k : Log w' F p i t es) => last_spec k h0 h1 hl
  generalize lastT t es = y at hr H
  by_cases a : y < u
  · have ha : decide (y < u) = true := decide_eq_true a
    rw [ha] at hr
    subst hr
    go_enter Try.func18, Try.ntmps18
    go_wp2_with fail
    refine (H w h).mono ?_
    rintro e w1 ⟨rfl, n, rfl⟩
    go_wp2
    go_ret
    exact ⟨rfl, _, rfl⟩
  · have ha : decide (y < u) = false := decide_eq_false a
    rw [ha] at hr
    by_cases b : u = y
    · have hb : (u == y) = true := by simp [b]
      subst b
      simp at hr
      subst hr
      go_enter Try.func18, Try.ntmps18
      go_wp2_with fail
      refine (H w h).mono ?_
      rintro e w1 ⟨rfl, n, rfl⟩
      go_wp2
      go_ret
      exact ⟨rfl, _, rfl⟩
    · have hb : (u == y) = false := by simp [b]
      rw [hb] at hr
      simp at hr
      subst hr
      go_enter Try.func18, Try.ntmps18
      go_wp2_with fail
      refine (H w h).mono ?_
      rintro e w1 ⟨rfl, n, rfl⟩
      go_wp2
      go_ret
      exact ⟨rfl, _, rfl⟩

theorem termOf_at (i t : Int) (es : List Ent) : termOf i t es i = (t, true) := by simp [termOf]
theorem termOf_no (i t : Int) (es : List Ent) (x : Int) (h : x < i ∨ i + es.length < x) : termOf i t es x = (0, false) := by
  unfold termOf; rw [if_neg (by omega), if_pos (by omega)]
theorem termOf_in (i t : Int) (es : List Ent) (k : Nat) (h : k < es.length) : termOf i t es (i + 1 + k) = (es[k].1, true) := by
  unfold termOf
  rw [if_neg (by omega), if_neg (by omega), show (i + 1 + (k : Int) - i - 1).toNat = k by omega, List.getElem?_eq_getElem h]
  rfl
theorem termOf_cases (i : Int) (es : List Ent) (x : Int) : x = i ∨ (x < i ∨ i + es.length < x) ∨ ∃ k : Nat, k < es.length ∧ x = i + 1 + k := by
  by_cases h : x = i
  · exact .inl h
  · by_cases h2 : x < i ∨ i + es.length < x
    · exact .inr (.inl h2)
    · exact .inr (.inr ⟨(x - i - 1).toNat, by omega, by omega⟩)

set_option maxRecDepth 100000 in
theorem term_spec {w : World} {F : Nat → Prop} {p : Nat} {i t : Int} {es : List Ent} (h : Log w F p i t es) (h0 : 0 ≤ i) (h1 : i ≤ 4611686018427387904) (hl : es.length ≤ 4398046511104) (x : Int) (hx : x ≤ 9223372036854775807) :
    Calls Try.prog 35 #[.pointer (some ⟨p, 0, none⟩), .int .i64 x] w (Same w (.tuple #[.int .i64 (termOf i t es x).1, .bool (termOf i t es x).2])) := by
  obtain ⟨A, c, c0, c1, c2, hc, hr⟩ := h.cells
  rcases termOf_cases i es x with rfl | hno | ⟨k, hk, rfl⟩
  · have e := termOf_at x t es
    have E := Lib.hid e
    clear e
    go_enter Try.func35, Try.ntmps35
    go_wp2
    go_ret2
    rw [E.out]
    exact ⟨rfl, 0, rfl⟩
  · have e := termOf_no i t es x hno
    have E := Lib.hid e
    clear e
    have hne : (x == i) = false := by simp; omega
    by_cases hlt : x < i
    · have hd : decide (x < i) = true := decide_eq_true hlt
      go_enter Try.func35, Try.ntmps35
      go_wp2
      go_quiet (fail)
      go_wp2
      go_ret2
      rw [E.out]
      exact ⟨rfl, _, rfl⟩
    · have hd : decide (x < i) = false := decide_eq_false hlt
      have hd2 : decide ((es.length : Int) < x - i) = true := decide_eq_true (by omega)
      go_enter Try.func35, Try.ntmps35
      go_wp2
      go_quiet (fail)
      go_wp2
      go_ret2
      rw [E.out]
      exact ⟨rfl, _, rfl⟩
  · have e := termOf_in i t es k hk
    have E := Lib.hid e
    clear e
    obtain ⟨b, off, c', dv, e1, _, hf, hdl, hd, d0, d1⟩ := hr.ent hk
    cases e1
    have hne : (i + 1 + (k : Int) == i) = false := by simp; omega
    have hd1 : decide (i + 1 + (k : Int) < i) = false := decide_eq_false (by omega)
    have hd2 : decide ((es.length : Int) < i + 1 + (k : Int) - i) = false := decide_eq_false (by omega)
    go_enter Try.func35, Try.ntmps35
    go_wp2
    go_quiet (fail)
    go_wp2
    have e2 : (0 : Int) ≤ i + 1 + (k : Int) - i - 1 := by omega
    have e3 : i + 1 + (k : Int) - i - 1 < es.length := by omega
    have e4 : (i + 1 + (k : Int) - i - 1).toNat = k := by omega
    go_quiet (fail)
    go_wp2
    go_ret2
    rw [E.out]
    exact ⟨rfl, _, World.drewN_drewN ..⟩

def matchB (i t : Int) (es : List Ent) (x u : Int) : Bool := (termOf i t es x).2 && (termOf i t es x).1 == u
set_option maxRecDepth 100000 in
theorem match_spec {w : World} {F : Nat → Prop} {p : Nat} {i t : Int} {es : List Ent} (h : Log w F p i t es) (h0 : 0 ≤ i) (h1 : i ≤ 4611686018427387904) (hl : es.length ≤ 4398046511104) (x u : Int) (hx : x ≤ 9223372036854775807) :
    Calls Try.prog 22 #[.pointer (some ⟨p, 0, none⟩), .int .i64 x, .int .i64 u] w (Same w (.bool (matchB i t es x u))) := by
  have H := term_spec h h0 h1 hl x hx
  unfold matchB
  generalize termOf i t es x = r at H ⊢
  obtain ⟨a, b⟩ := r
  cases b
  · go_enter Try.func22, Try.ntmps22
    go_wp2_with fail
    refine H.mono ?_
    rintro e w1 ⟨rfl, n, rfl⟩
    go_wp2
    go_ret
    exact ⟨rfl, _, rfl⟩
  · obtain ⟨r, hr⟩ : ∃ r, (a == u) = r := ⟨_, rfl⟩
    rw [show (true && (a == u)) = r from hr]
    cases r
    all_goals
      go_enter Try.func22, Try.ntmps22
      go_wp2_with fail
      refine H.mono ?_
      rintro e w1 ⟨rfl, n, rfl⟩
      go_wp2
      go_ret
      exact ⟨rfl, _, rfl⟩

structure Act where
  op : Int
  index : Int
  own : Bool
  term : Int
  know : Bool
  l : List Ent
/-- an act of a play -/
def actE : Elt Act where
  sz := 6
  ok := fun w F x c => ∃ lv, c = [.int .i64 x.op, .int .i64 x.index, .bool x.own, .int .i64 x.term, .bool x.know, lv] ∧ x.l.length ≤ 4398046511104 ∧ Rd entE w F lv x.l
  len := fun h => by obtain ⟨dv, rfl, _⟩ := h; rfl
  one := fun h u hu => by
    obtain ⟨dv, rfl, _, A, c, cs, rfl, _⟩ := h
    simp at hu
    rcases hu with rfl | rfl | rfl | rfl | rfl | rfl <;> rfl
  keep := fun hk h => by
    obtain ⟨dv, e, hl, h⟩ := h
    exact ⟨dv, e, hl, h.keep hk⟩
  mono := fun hk h => by
    obtain ⟨dv, e, hl, h⟩ := h
    exact ⟨dv, e, hl, h.mono hk⟩
theorem Rd.act {w : World} {F : Nat → Prop} {v : Value} {xs : List Act} (h : Rd actE w F v xs) {k : Nat} (hk : k < xs.length) : ∃ b o c lv, v = .slice (some ⟨b, o, none⟩) xs.length c ∧ xs.length ≤ c ∧ F b ∧ xs[k].l.length ≤ 4398046511104 ∧ Rd entE w F lv xs[k].l ∧
    w.cell? ⟨b, o + k * 6, none⟩ = some (.int .i64 xs[k].op) ∧ w.cell? ⟨b, o + k * 6 + 1, none⟩ = some (.int .i64 xs[k].index) ∧ w.cell? ⟨b, o + k * 6 + 2, none⟩ = some (.bool xs[k].own) ∧
    w.cell? ⟨b, o + k * 6 + 3, none⟩ = some (.int .i64 xs[k].term) ∧ w.cell? ⟨b, o + k * 6 + 4, none⟩ = some (.bool xs[k].know) ∧ w.cell? ⟨b, o + k * 6 + 5, none⟩ = some lv := by
  obtain ⟨b, o, c, l, hv, hc, hf, ⟨dv, rfl, hl, hr⟩, hg⟩ := h.get hk (by decide)
  refine ⟨b, o, c, dv, hv, hc, hf, hl, hr, ?_, ?_, ?_, ?_, ?_, ?_⟩
  · simpa [actE] using hg 0 (by decide)
  · simpa [actE, Nat.add_assoc] using hg 1 (by decide)
  · simpa [actE, Nat.add_assoc] using hg 2 (by decide)
  · simpa [actE, Nat.add_assoc] using hg 3 (by decide)
  · simpa [actE, Nat.add_assoc] using hg 4 (by decide)
  · simpa [actE, Nat.add_assoc] using hg 5 (by decide)

/-- how many bytes entries bear, counted on from n as Go counts -/
def sumE : Int → List Ent → Int
  | n, [] => n
  | n, e :: es => sumE (wrap64 (n + e.2.length)) es
def sumA : Int → List Act → Int
  | n, [] => n
  | n, a :: az => sumA (sumE (wrap64 (n + a.l.length)) a.l) az
def fewB (l : List Ent) (acts : List Act) : Bool := decide (acts.length ≤ 150) && decide (sumA (sumE l.length l) acts ≤ 8192)
theorem sumE_step (n : Int) (es : List Ent) (k : Nat) (h : k < es.length) : sumE n (es.drop k) = sumE (wrap64 (n + es[k].2.length)) (es.drop (k + 1)) := by
  rw [List.drop_eq_getElem_cons h]; rfl
theorem sumA_step (n : Int) (az : List Act) (k : Nat) (h : k < az.length) : sumA n (az.drop k) = sumA (sumE (wrap64 (n + az[k].l.length)) az[k].l) (az.drop (k + 1)) := by
  rw [List.drop_eq_getElem_cons h]; rfl

set_option maxHeartbeats 1000000 in
set_option maxRecDepth 100000 in
theorem few_spec (w : World) (F : Nat → Prop) (v u : Value) (es : List Ent) (az : List Act) (h : Rd entE w F v es) (g : Rd actE w F u az) (hl : es.length ≤ 4398046511104) (gl : az.length ≤ 4398046511104) :
    Calls Try.prog 15 #[v, u] w (Same w (.bool (fewB es az))) := by
  obtain ⟨A, c, hv, hc, _⟩ := h.shape
  subst hv
  obtain ⟨B, d, gv, gc, _⟩ := g.shape
  subst gv
  go_enter Try.func15, Try.ntmps15
  go_wp2
  go_loopw [5, 6] (fun o i wr => ∃ (k : Nat) (n : Int), k ≤ es.length ∧ i = .int .i64 k ∧ o = .int .i64 n ∧ Hid (sumE n (es.drop k) = sumE es.length es) ∧ ∃ m, wr = w.drewN m) (fun _ i _ => es.length - (intOf i).toNat)
  case atStart => exact ⟨0, es.length, Nat.zero_le _, rfl, rfl, Lib.hid (by simp), 0, rfl⟩
  case round =>
    obtain ⟨k, q, hk, rfl, rfl, hn, m, rfl⟩ := hrel
    by_cases hlt : k < es.length
    · obtain ⟨b, off, c', dv, e1, _, hf, hdl, hd, c0, c1⟩ := (h.drewN m).ent hlt
      cases e1
      obtain ⟨A1, cA, rfl, _⟩ := hd.shape
      have hs := sumE_step q es k hlt
      have HS : Hid (sumE (wrap64 (q + es[k].2.length)) (es.drop (k + 1)) = sumE es.length es) := Lib.hid (by rw [← hs]; exact hn.out)
      clear hs hn
      go_wp2
      go_roundw
      case rel => exact ⟨k + 1, _, by omega, by go_num, rfl, HS, m, rfl⟩
      case measure => simp [intOf]; omega
    · have hn' : q = sumE es.length es := by rw [← hn.out, List.drop_of_length_le (by omega)]; rfl
      generalize hq : sumE es.length es = q1 at hn'
      clear hn
      subst hn'
      have HQ := Lib.hid hq
      clear hq
      go_wp2
      go_loopw [5, 7] (fun o i wr => ∃ (k : Nat) (n : Int), k ≤ az.length ∧ i = .int .i64 k ∧ o = .int .i64 n ∧ Hid (sumA n (az.drop k) = sumA q az) ∧ ∃ m, wr = w.drewN m) (fun _ i _ => az.length - (intOf i).toNat)
      case atStart => exact ⟨0, q, Nat.zero_le _, rfl, rfl, Lib.hid (by simp), _, rfl⟩
      case round =>
        obtain ⟨j, n, hj, rfl, rfl, hn, m, rfl⟩ := hrel
        by_cases hlt : j < az.length
        · obtain ⟨b, off, c', lv, e1, _, hf, hll, hlr, c0, c1, c2, c3, c4, c5⟩ := (g.drewN m).act hlt
          cases e1
          obtain ⟨A1, cA, rfl, hcA, _⟩ := hlr.shape
          have hs := sumA_step n az j hlt
          have HS : Hid (sumA (sumE (wrap64 (n + az[j].l.length)) az[j].l) (az.drop (j + 1)) = sumA q az) := Lib.hid (by rw [← hs]; exact hn.out)
          clear hs hn
          generalize az[j].l = el at hll hlr c5 HS hcA
          go_wp2
          generalize wrap64 (n + el.length) = n1 at HS ⊢
          go_loopw [5, 8] (fun o i wr => ∃ (k : Nat) (n : Int), k ≤ el.length ∧ i = .int .i64 k ∧ o = .int .i64 n ∧ Hid (sumE n (el.drop k) = sumE n1 el) ∧ ∃ m, wr = w.drewN m) (fun _ i _ => el.length - (intOf i).toNat)
          case atStart => exact ⟨0, _, Nat.zero_le _, rfl, rfl, Lib.hid (by simp), _, rfl⟩
          case round =>
            obtain ⟨k, n2, hk, rfl, rfl, hn, m, rfl⟩ := hrel
            have d5 : (w.drewN m).cell? ⟨b, off + j * 6 + 5, none⟩ = some (.slice A1 el.length cA) := c5
            by_cases hlt2 : k < el.length
            · obtain ⟨b2, off2, c2', dv, e1, _, hf, hdl, hd, x0, x1⟩ := (hlr.keep (w' := w.drewN m) fun _ _ => rfl).ent hlt2
              cases e1
              obtain ⟨A2, cA2, rfl, _⟩ := hd.shape
              have hs := sumE_step n2 el k hlt2
              have HS2 : Hid (sumE (wrap64 (n2 + el[k].2.length)) (el.drop (k + 1)) = sumE n1 el) := Lib.hid (by rw [← hs]; exact hn.out)
              clear hs hn
              go_wp2
              go_roundw
              case rel => exact ⟨k + 1, _, by omega, by go_num, rfl, HS2, m, rfl⟩
              case measure => simp [intOf]; omega
            · have hn' : n2 = sumE n1 el := by rw [← hn.out, List.drop_of_length_le (by omega)]; rfl
              clear hn
              generalize sumE n1 el = q2 at hn' HS
              subst hn'
              go_wp2
              go_roundw
              case rel => exact ⟨j + 1, _, by omega, by go_num, rfl, HS, m, rfl⟩
              case measure => simp [intOf]; omega
        · have hn' : n = sumA q az := by rw [← hn.out, List.drop_of_length_le (by omega)]; rfl
          have hfin : fewB es az = (decide (az.length ≤ 150) && decide (n ≤ 8192)) := by rw [hn', ← HQ.out]; rfl
          have HF := Lib.hid hfin
          clear hfin hn hn'
          by_cases ha : az.length ≤ 150
          · have hb1 : decide ((az.length : Int) ≤ 150) = true := decide_eq_true (by omega)
            by_cases hb : n ≤ 8192
            all_goals
              go_wp2
              go_ret
              exact ⟨by rw [HF.out]; simp [ha, hb], m, rfl⟩
          · have hb1 : decide ((az.length : Int) ≤ 150) = false := decide_eq_false (by omega)
            go_wp2
            go_ret
            exact ⟨by rw [HF.out]; simp [ha], m, rfl⟩

end Go.Proofs.Ytniccejlmbfpdaa
