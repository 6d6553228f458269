/-
  The walks of the law's of, and of the reference's rises, copied, New, Term.
-/
import Derived.Test.YtniccejlmbfpdaaR7
import Derived.Test.YtniccejlmbfpdaaBase2
namespace Go.Proofs.Ytniccejlmbfpdaa
open Go.RowKit
attribute [local go_sem] max2_int min2_int max_two min_two

theorem info107 : (Try.prog.info? 107).map (fun i => (i.zero, i.size, i.bytes)) = some (some (.agg #[.int .i64 0, .slice none 0 0]), entE.sz, 32) := by kernel_rfl

set_option maxHeartbeats 1000000 in
set_option maxRecDepth 100000 in
theorem of_spec (w : World) (F : Nat → Prop) (v : Value) (es : List Ent) (h : Rd entE w F v es) (hF : Fin w F) (hl : es.length ≤ 4398046511104) :
    Calls Try.prog 20 #[v] w fun e w' => ∃ v', e = .returned v' ∧ Upd Non w w' ∧ OwnX entE 107 w' (New w w') F v' es := by
  obtain ⟨A, c, hv, hc, _⟩ := h.shape
  subst hv
  go_enter Try.func20, Try.ntmps20
  go_wp2
  go_loopw [3, 4] (fun o i wr => ∃ k : Nat, k ≤ es.length ∧ i = .int .i64 k ∧ OwnX entE 107 wr (New w wr) F o (es.take k) ∧ Upd Non w wr) (fun _ i _ => es.length - (intOf i).toNat)
  case atStart => exact ⟨0, Nat.zero_le _, rfl, by simpa using OwnX.nil _ _ _ _ _ _, Upd.refl _ _⟩
  case round =>
    obtain ⟨k, hk, rfl, ho, hu⟩ := hrel
    by_cases hlt : k < es.length
    · obtain ⟨b, off, c', dv, e1, _, hf, hdl, hd, c0, c1⟩ := (h.upd hu (Upd.fr_non hF)).ent hlt
      cases e1
      obtain ⟨A1, cA, rfl, _⟩ := hd.shape
      have hFr := hF.upd hu
      have bl : b < wr.heap.size := World.block_lt_of_cell? wr _ c0
      have kz : (0 : Int) ≤ k := by omega
      have kn : (k : Int) < es.length := by omega
      obtain ⟨h63, h48⟩ := take_len es k hlt es[k] 4398046511104 32 hl (by decide) (by decide)
      have hFd : Fin wr.drew F := hFr
      have hNd : Fin wr.drew (New w wr) := Fin.new
      have hsp : ∀ o q, F q ∨ F q → q < (wr.drew.alloc o).heap.size ∧ ¬ New w wr q := fun o q hq => ⟨(hFd.upd ((Upd.refl Non _).alloc o)) q (hq.elim id id), fun h' => by have := hF q (hq.elim id id); have := h'.1; omega⟩
      have d0 : wr.drew.cell? ⟨b, off + k * 2, none⟩ = some (.int .i64 es[k].1) := c0
      have d1 : wr.drew.cell? ⟨b, off + k * 2 + 1, none⟩ = some (.slice A1 es[k].2.length cA) := c1
      go_wp2_with fail
      go_region_law (first
        | (refine step_appendX (E := entE) (e := 107) (X := New w wr) (D := F) (xs := es.take k) (ys := [es[k]]) _ rfl (.tmp 11) (.tmp 23) 37 rfl _ 32 Try.underlying37 info107 rfl (by decide) rfl (ho.drew.alloc hNd hFd _) _ 1 rfl _ F (at_box _ _ _) (ent_rel (hd.drew.alloc hFd _) hdl) (hsp _) (hNd.upd ((Upd.refl Non _).alloc _)) h63 h48 ?_; intro v' w2 hu2 ho2))
      all_goals
        go_wp2
        go_roundw
        case rel => exact ⟨k + 1, by omega, by go_num, by rw [take_snoc es k hlt]; exact ho2.mono (New.ext hu2.size (fun q hq => ⟨hq.1, by have := hq.2; simp; omega⟩) (by have := hu.size; simp; omega)) (fun q hq => hq.elim id id), ((hu.drew).alloc _).trans' hu2 fun x hx h => absurd h.1 (by omega)⟩
        case measure => simp [intOf]; omega
    · go_wp2
      go_ret
      exact ⟨_, rfl, hu, by have e : es.take k = es := List.take_of_length_le (by omega); rw [e] at ho; exact ho⟩

theorem rises_step2 (t : Int) (es : List Ent) (k : Nat) (h : k < es.length) : rises (max t 1) (es.drop k) = (!(decide (es[k].1 < t) || decide (es[k].1 < 1)) && rises (max es[k].1 1) (es.drop (k + 1))) := by
  rw [rises_step _ _ _ h]
  by_cases h1 : es[k].1 < t
  · simp [h1, show es[k].1 < max t 1 by omega]
  · by_cases h2 : es[k].1 < 1
    · simp [h2, show es[k].1 < max t 1 by omega]
    · simp [h1, h2, show ¬ es[k].1 < max t 1 by omega, show max es[k].1 1 = es[k].1 by omega]

set_option maxRecDepth 100000 in
theorem rrises_spec (w : World) (F : Nat → Prop) (v : Value) (t : Int) (es : List Ent) (h : Rd entE w F v es) (hl : es.length ≤ 4398046511104) :
    Calls Try.prog 59 #[.int .i64 t, v] w fun e w' => e = .returned (.bool (rises (max t 1) es)) ∧ w = w' := by
  obtain ⟨A, c, hv, hc, _⟩ := h.shape
  subst hv
  go_enter Try.func59, Try.ntmps59
  go_wp2
  go_loop [0, 5] (fun o i => ∃ (k : Nat) (u : Int), k ≤ es.length ∧ i = .int .i64 k ∧ o = .int .i64 u ∧ Hid (rises (max u 1) (es.drop k) = rises (max t 1) es)) (fun _ i => es.length - (intOf i).toNat)
  case atStart => exact ⟨0, t, Nat.zero_le _, rfl, rfl, Lib.hid (by simp)⟩
  case round =>
    obtain ⟨k, u, hk, rfl, rfl, hr⟩ := hrel
    by_cases hlt : k < es.length
    · obtain ⟨b, off, c', dv, e1, _, hf, hdl, hd, c0, c1⟩ := h.ent hlt
      cases e1
      have hs := rises_step2 u es k hlt
      rw [hr.out] at hs
      generalize es[k].1 = y at hs c0
      have HS := Lib.hid hs
      clear hs hr
      by_cases hb : y < u
      · have hfin : rises (max t 1) es = false := by rw [HS.out]; simp [hb]
        have HF := Lib.hid hfin
        clear hfin
        go_wp2
        go_ret
        exact ⟨by rw [HF.out]; rfl, rfl⟩
      · by_cases hb2 : y < 1
        · have hfin : rises (max t 1) es = false := by rw [HS.out]; simp [hb2]
          have HF := Lib.hid hfin
          clear hfin
          go_wp2
          go_ret
          exact ⟨by rw [HF.out]; rfl, rfl⟩
        · have hfin : rises (max y 1) (es.drop (k + 1)) = rises (max t 1) es := by rw [HS.out]; simp [hb, hb2]
          have HF := Lib.hid hfin
          clear hfin
          go_wp2
          go_round
          case rel => exact ⟨k + 1, y, by omega, by go_num, rfl, HF⟩
          case measure => simp [intOf]; omega
    · have hfin : rises (max t 1) es = true := by rw [← hr.out, List.drop_of_length_le (by omega)]; rfl
      have HF := Lib.hid hfin
      clear hfin
      go_wp2
      go_ret
      exact ⟨by rw [HF.out]; rfl, rfl⟩

theorem copied_bytes {wr w1 : World} {o : Obj} {v1 : Value} {d : List UInt8} (_hu : Upd Non (wr.drew.alloc o) w1) (ho : Own byteE 5 w1 (fun k => Non k ∨ Non k ∨ New (wr.drew.alloc o) w1 k) v1 ([] ++ d)) : Rd byteE w1 (New wr.drew w1) v1 d := by
  have := ho.rd.mono (G := New wr.drew w1) fun k hk => by
    rcases hk with h | h | h
    · exact h.elim
    · exact h.elim
    · exact ⟨by have := h.1; simp at this; show wr.heap.size ≤ k; omega, h.2⟩
  simpa using this

set_option maxHeartbeats 2000000 in
set_option maxRecDepth 100000 in
theorem copied_spec (w : World) (F : Nat → Prop) (v : Value) (es : List Ent) (h : Rd entE w F v es) (hF : Fin w F) (hl : es.length ≤ 4398046511104) :
    Calls Try.prog 60 #[v] w fun e w' => ∃ v', e = .returned v' ∧ Upd Non w w' ∧ Own entE 107 w' (New w w') v' es := by
  obtain ⟨A, c, hv, hc, _⟩ := h.shape
  subst hv
  go_enter Try.func60, Try.ntmps60
  go_wp2
  go_loopw [3, 4] (fun o i wr => ∃ k : Nat, k ≤ es.length ∧ i = .int .i64 k ∧ Own entE 107 wr (New w wr) o (es.take k) ∧ Upd Non w wr) (fun _ i _ => es.length - (intOf i).toNat)
  case atStart => exact ⟨0, Nat.zero_le _, rfl, by simpa using Own.nil _ _ _ _, Upd.refl _ _⟩
  case round =>
    obtain ⟨k, hk, rfl, ho, hu⟩ := hrel
    by_cases hlt : k < es.length
    · obtain ⟨b, off, c', dv, e1, _, hf, hdl, hd, c0, c1⟩ := (h.upd hu (Upd.fr_non hF)).ent hlt
      cases e1
      obtain ⟨A1, cA, csA, hvA, hcA1, hcA2, hatA, hrelA⟩ := hd
      subst hvA
      have hFr := hF.upd hu
      have bl : b < wr.heap.size := World.block_lt_of_cell? wr _ c0
      have hbn : ¬ New w wr b := fun h => by have := h.1; have := hF b hf; omega
      have kz : (0 : Int) ≤ k := by omega
      have kn : (k : Int) < es.length := by omega
      obtain ⟨h63, h48⟩ := take_len es k hlt es[k] 4398046511104 32 hl (by decide) (by decide)
      have hFd : Fin wr.drew F := hFr
      have hNd : Fin wr.drew (New w wr) := Fin.new
      have d0 : wr.drew.cell? ⟨b, off + k * 2, none⟩ = some (.int .i64 es[k].1) := c0
      have d1 : wr.drew.cell? ⟨b, off + k * 2 + 1, none⟩ = some (.slice A1 es[k].2.length cA) := c1
      have hatd : At wr.drew F A1 csA := hatA.keep fun _ _ => rfl
      have hrd : ∀ W G, Rel byteE W G es[k].2 csA := fun W G => hrelA.flat byteE_flat
      have hb63 : ([] : List UInt8).length + es[k].2.length ≤ maxLen := by rw [maxLen_eq]; simp; omega
      have hb48 : (([] : List UInt8).length + es[k].2.length) * 1 ≤ 140737488355328 := by simp; omega
      have hk1 : ∀ o, Upd Non wr.drew (wr.drew.alloc o) := fun o => (Upd.refl Non _).alloc o
      go_wp2_with fail
      go_region_held3 (fun w' => w'.cell? ⟨b, off + k * 2, none⟩ = some (.int .i64 es[k].1) ∧ w'.cell? ⟨b, off + k * 2 + 1, none⟩ = some (.slice A1 es[k].2.length cA))
        (first | exact ⟨c0, c1⟩ | exact ⟨d0, d1⟩ | exact ⟨m0, m1⟩ | exact ⟨n0, n1⟩ | go_keep)
        (first
          | (refine step_append (E := byteE) (e := 5) (F := Non) (xs := []) (ys := es[k].2) _ rfl (.tmp 17) (.tmp 22) 44 rfl _ 1 Try.underlying44 info5 rfl (by decide) rfl (Own.empty _ _ _ _ _) A1 cA rfl csA Non (hatd.keep (alloc_keep hFd _)) (hrd _ _) (fun q h => h.elim) (Fin.non _) hb63 hb48 ?_; intro v1 w1 hu1 ho1; have hup1 := (hk1 _).trans hu1; have m0 := (hup1.cell (p := ⟨b, off + k * 2, none⟩) bl id).trans d0; have m1 := (hup1.cell (p := ⟨b, off + k * 2 + 1, none⟩) bl id).trans d1; have hr1 := copied_bytes hu1 ho1; obtain ⟨A2, c2, rfl, hc2⟩ := hr1.shape; have hn1 := hNd.upd hup1; have hoo := ho.drew.upd hup1 (Upd.fr_non hNd))
          | (refine step_append (E := entE) (e := 107) (F := New w wr) (xs := es.take k) (ys := [es[k]]) _ rfl (.tmp 11) (.tmp 25) 37 rfl _ 32 Try.underlying37 info107 rfl (by decide) rfl (hoo.alloc hn1 _) _ 1 rfl _ (New wr.drew w1) (at_box _ _ _) (ent_rel (hr1.alloc Fin.new _) hdl) (sep_new (Nat.le_refl _)) (hn1.upd ((Upd.refl Non _).alloc _)) h63 h48 ?_; intro v' w2 hu2 ho2; have hup2 : Upd (New w wr) w1 w2 := ((Upd.refl _ w1).alloc _).trans hu2; have n0 := (hup2.cell (p := ⟨b, off + k * 2, none⟩) (Nat.lt_of_lt_of_le bl hup1.size) (fun h => hbn h)).trans m0; have n1 := (hup2.cell (p := ⟨b, off + k * 2 + 1, none⟩) (Nat.lt_of_lt_of_le bl hup1.size) (fun h => hbn h)).trans m1))
      all_goals
        go_wp2
        go_roundw
        case rel => exact ⟨k + 1, by omega, by go_num, by rw [take_snoc es k hlt]; exact ho2.mono fun x hx => by have e0 : wr.drew.heap.size = wr.heap.size := rfl; have := hu.size; have := hup1.size; have := hup2.size; have := hu2.size; simp only [New, World.size_alloc] at hx ⊢; omega, (hu.drew.trans hup1).trans' hup2 fun x hx h => absurd h.1 (by omega)⟩
        case measure => simp [intOf]; omega
    · go_wp2
      go_ret
      exact ⟨_, rfl, hu, by have e : es.take k = es := List.take_of_length_le (by omega); rw [e] at ho; exact ho⟩

/-- the reference's log -/
def RLog (w : World) (F : Nat → Prop) (p : Nat) (i t : Int) (es : List Ent) : Prop :=
  ∃ v, w.heap[p]? = some (.cells #[.int .i64 i, .int .i64 t, v] 96 (0, 0)) ∧ Own entE 107 w F v es ∧ ¬ F p ∧ Fin w F
theorem RLog.cells {w : World} {F : Nat → Prop} {p : Nat} {i t : Int} {es : List Ent} (h : RLog w F p i t es) :
    ∃ A c, w.cell? ⟨p, 0, none⟩ = some (.int .i64 i) ∧ w.cell? ⟨p, 1, none⟩ = some (.int .i64 t) ∧ w.cell? ⟨p, 2, none⟩ = some (.slice A es.length c) ∧ es.length ≤ c ∧ Rd entE w F (.slice A es.length c) es := by
  obtain ⟨v, hb, ho, _⟩ := h
  obtain ⟨A, c, rfl, hc, _⟩ := ho.shape
  exact ⟨A, c, blk_at hb 0, blk_at hb 1, blk_at hb 2, hc, ho.rd⟩
theorem RLog.upd {w w' : World} {S F : Nat → Prop} {p : Nat} {i t : Int} {es : List Ent} (h : RLog w F p i t es) (hu : Upd S w w') (hp : ¬ S p) (hf : ∀ k, F k → ¬ S k) : RLog w' F p i t es := by
  obtain ⟨v, hb, ho, hn, hfin⟩ := h
  exact ⟨v, (hu.block p (blk_lt hb) hp).trans hb, ho.upd hu fun k hk => ⟨hfin k hk, hf k hk⟩, hn, hfin.upd hu⟩
theorem RLog.non {w w' : World} {F : Nat → Prop} {p : Nat} {i t : Int} {es : List Ent} (h : RLog w F p i t es) (hu : Upd Non w w') : RLog w' F p i t es := h.upd hu id fun _ _ => id
def RNewPost (w : World) (i t : Int) (es : List Ent) (e : Ending) (w' : World) : Prop := Upd Non w w' ∧
      (newOk i t es = false ∧ e = .returned (.tuple #[.pointer none, .int .i64 1]) ∨
       newOk i t es = true ∧ ∃ p F', e = .returned (.tuple #[.pointer (some ⟨p, 0, none⟩), .int .i64 0]) ∧ RLog w' F' p i t es ∧ New w w' p ∧ ∀ k, F' k → New w w' k)

theorem rnew_yes {w w1 w2 : World} {i t : Int} {es : List Ent} {v : Value} (hu1 : Upd Non w w1) (hu2 : Upd Non w1 w2) (ho : Own entE 107 w2 (New w1 w2) v es) (hok : newOk i t es = true) :
    RNewPost w i t es (.returned (.tuple #[.pointer (some ⟨w2.heap.size, 0, none⟩), .int .i64 0])) (w2.alloc (.cells #[.int .i64 i, .int .i64 t, v] 96)) := by
  have h1 := hu1.size
  have h2 := hu2.size
  refine ⟨(hu1.trans hu2).alloc _, .inr ⟨hok, w2.heap.size, New w1 w2, rfl, ⟨v, heap_alloc_new _ _, ho.alloc Fin.new _, fun h => Nat.lt_irrefl _ h.2, (Fin.new (w := w1)).upd ((Upd.refl Non w2).alloc _)⟩, ⟨by omega, by simp⟩, fun k hk => ?_⟩⟩
  have := hk.1
  have := hk.2
  exact ⟨by omega, by simp; omega⟩

set_option maxHeartbeats 1000000 in
set_option maxRecDepth 100000 in
theorem rnew_spec (w : World) (F : Nat → Prop) (v : Value) (i t : Int) (es : List Ent) (h : Rd entE w F v es) (hF : Fin w F) (hl : es.length ≤ 4398046511104) :
    Calls Try.prog 19 #[.int .i64 i, .int .i64 t, v] w (RNewPost w i t es) := by
  by_cases h1 : i < 0
  · have hno : newOk i t es = false := by simp [newOk, h1]
    go_enter Try.func19, Try.ntmps19
    go_wp2
    go_ret2
    exact ⟨Upd.refl _ _, .inl ⟨hno, rfl⟩⟩
  · by_cases h2 : t < 0
    · have hno : newOk i t es = false := by simp [newOk, h2]
      go_enter Try.func19, Try.ntmps19
      go_wp2
      go_ret2
      exact ⟨Upd.refl _ _, .inl ⟨hno, rfl⟩⟩
    · obtain ⟨bi, hbi⟩ : ∃ b, (i == 0) = b := ⟨_, rfl⟩
      obtain ⟨bt, hbt⟩ : ∃ b, (t == 0) = b := ⟨_, rfl⟩
      have hy : newOk i t es = ((bi == bt) && rises (max t 1) es) := by simp [newOk, h1, h2, hbi, hbt]
      have HY := Lib.hid hy
      clear hy
      by_cases hne : bi = bt
      · subst hne
        obtain ⟨r, hr⟩ : ∃ r, rises (max t 1) es = r := ⟨_, rfl⟩
        have HR := Lib.hid hr
        clear hr
        cases bi <;> cases r
        all_goals
          go_enter Try.func19, Try.ntmps19
          go_wp2_with (go_at_call 59; refine (rrises_spec w F v t es h hl).mono ?_; rintro e w1 ⟨rfl, rfl⟩; rw [HR.out])
        · go_ret2
          exact ⟨Upd.refl _ _, .inl ⟨by rw [HY.out, HR.out]; rfl, rfl⟩⟩
        · refine (copied_spec w F v es h hF hl).mono ?_
          rintro e w2 ⟨v2, rfl, hu2, ho2⟩
          obtain ⟨A2, c2, rfl, hc2, _⟩ := ho2.shape
          go_wp2_with fail
          go_ret2
          exact rnew_yes (Upd.refl _ _) hu2 ho2 (by rw [HY.out, HR.out]; rfl)
        · go_ret2
          exact ⟨Upd.refl _ _, .inl ⟨by rw [HY.out, HR.out]; rfl, rfl⟩⟩
        · refine (copied_spec w F v es h hF hl).mono ?_
          rintro e w2 ⟨v2, rfl, hu2, ho2⟩
          obtain ⟨A2, c2, rfl, hc2, _⟩ := ho2.shape
          go_wp2_with fail
          go_ret2
          exact rnew_yes (Upd.refl _ _) hu2 ho2 (by rw [HY.out, HR.out]; rfl)
      · have hno : newOk i t es = false := by rw [HY.out]; cases bi <;> cases bt <;> simp_all
        cases bi <;> cases bt
        · exact absurd rfl hne
        · go_enter Try.func19, Try.ntmps19
          go_wp2
          go_ret2
          exact ⟨Upd.refl _ _, .inl ⟨hno, rfl⟩⟩
        · go_enter Try.func19, Try.ntmps19
          go_wp2
          go_ret2
          exact ⟨Upd.refl _ _, .inl ⟨hno, rfl⟩⟩
        · exact absurd rfl hne
set_option maxRecDepth 100000 in
theorem rterm_spec {w : World} {F : Nat → Prop} {p : Nat} {i t : Int} {es : List Ent} (h : RLog w F p i t es) (h0 : 0 ≤ i) (h1 : i ≤ 4611686018427387904) (hl : es.length ≤ 4398046511104) (x : Int) (hx : x ≤ 9223372036854775807) :
    Calls Try.prog 21 #[.pointer (some ⟨p, 0, none⟩), .int .i64 x] w (Same w (.tuple #[.int .i64 (termOf i t es x).1, .bool (termOf i t es x).2])) := by
  obtain ⟨A, c, c0, c1, c2, hc, hr⟩ := h.cells
  rcases termOf_cases i es x with rfl | hno | ⟨k, hk, rfl⟩
  · have e := termOf_at x t es
    have E := Lib.hid e
    clear e
    go_enter Try.func21, Try.ntmps21
    go_wp2
    go_ret2
    rw [E.out]
    exact ⟨rfl, 0, rfl⟩
  · have e := termOf_no i t es x hno
    have E := Lib.hid e
    clear e
    have hne : (x == i) = false := by simp; omega
    by_cases hlt : x < i
    · have hd : decide (x < i) = true := decide_eq_true hlt
      go_enter Try.func21, Try.ntmps21
      go_wp2
      go_quiet (fail)
      go_wp2
      go_ret2
      rw [E.out]
      exact ⟨rfl, _, rfl⟩
    · have hd : decide (x < i) = false := decide_eq_false hlt
      have hd2 : decide (i + (es.length : Int) < x) = true := decide_eq_true (by omega)
      have hw2 : IntKind.i64.wrap (i + (es.length : Int)) = i + es.length := IntWalk.i64_in _ (by omega)
      go_enter Try.func21, Try.ntmps21
      go_wp2
      go_quiet (fail)
      go_wp2
      go_ret2
      rw [E.out]
      exact ⟨rfl, _, rfl⟩
  · have e := termOf_in i t es k hk
    have E := Lib.hid e
    clear e
    obtain ⟨b, off, c', dv, e1, _, hf, hdl, hd, d0, d1⟩ := hr.ent hk
    cases e1
    have hne : (i + 1 + (k : Int) == i) = false := by simp; omega
    have hd1 : decide (i + 1 + (k : Int) < i) = false := decide_eq_false (by omega)
    have hd2 : decide (i + (es.length : Int) < i + 1 + (k : Int)) = false := decide_eq_false (by omega)
    have hw2 : IntKind.i64.wrap (i + (es.length : Int)) = i + es.length := IntWalk.i64_in _ (by omega)
    go_enter Try.func21, Try.ntmps21
    go_wp2
    go_quiet (fail)
    go_wp2
    have e2 : (0 : Int) ≤ i + 1 + (k : Int) - i - 1 := by omega
    have e3 : i + 1 + (k : Int) - i - 1 < es.length := by omega
    have e4 : (i + 1 + (k : Int) - i - 1).toNat = k := by omega
    go_quiet (fail)
    go_wp2
    go_ret2
    rw [E.out]
    exact ⟨rfl, _, World.drewN_drewN ..⟩


end Go.Proofs.Ytniccejlmbfpdaa
