/-
  The walks of (*Log).Get, slices.Clone at entries, (*Log).Compact.
-/
import Derived.Test.YtniccejlmbfpdaaLaw
namespace Go.Proofs.Ytniccejlmbfpdaa
open Go.RowKit
attribute [local go_sem] max2_int min2_int max_two min_two

/-- the entries from a number on, below another, as far as they are there -/
def getL (i : Int) (es : List Ent) (x y : Int) : List Ent := (es.take (y - i - 1).toNat).drop (x - i - 1).toNat

set_option maxHeartbeats 1000000 in
set_option maxRecDepth 100000 in
theorem get_spec {w : World} {F : Nat → Prop} {p : Nat} {i t : Int} {es : List Ent} (h : Log w F p i t es) (h0 : 0 ≤ i) (h1 : i ≤ 4611686018427387904) (hl : es.length ≤ 4398046511104) (x y : Int) :
    Calls Try.prog 24 #[.pointer (some ⟨p, 0, none⟩), .int .i64 x, .int .i64 y] w fun e w' => ∃ v, e = .returned v ∧ Upd Non w w' ∧ Own entE 46 w' (New w w') v (getL i es x y) := by
  have HF := fun n => (first_spec (h.non ((Upd.refl _ _).drewN n)) h0 h1).mono (R' := fun e w' => e = .returned (.int .i64 (i + 1)) ∧ w' = w.drewN n) fun _ _ ⟨he, hm⟩ => ⟨he, hm.symm⟩
  obtain ⟨vl, hLb, hLo, hLp, hLF⟩ := h
  obtain ⟨A, c, rfl, hc, hcm⟩ := hLo.shape
  have c2 : w.cell? ⟨p, 2, none⟩ = some (.slice A es.length c) := blk_at hLb 2
  have s1 : IntKind.i64.wrap (i + 1 + (es.length : Int)) = i + 1 + es.length := IntWalk.i64_in _ (by omega)
  have H34 := Lib.hid HF
  clear HF
  go_enter Try.func24, Try.ntmps24
  go_wp2_with fail
  go_quiet ((go_at_call 34; exact Calls.quiet_of_same (H34.out _)))
  clear s1
  obtain ⟨fr, hfr⟩ : ∃ fr, fr = max x (i + 1) := ⟨_, rfl⟩
  obtain ⟨pa, hpa⟩ : ∃ pa, pa = min y (i + 1 + (es.length : Int)) := ⟨_, rfl⟩
  rw [← hfr, ← hpa]
  by_cases hlt : fr < pa
  · obtain ⟨lo, hlo⟩ : ∃ lo : Nat, (lo : Int) = fr - (i + 1) := ⟨(fr - (i + 1)).toNat, by omega⟩
    obtain ⟨hi, hhi⟩ : ∃ hi : Nat, (hi : Int) = pa - (i + 1) := ⟨(pa - (i + 1)).toNat, by omega⟩
    have hg : getL i es x y = (es.take hi).drop lo := by
      unfold getL
      rw [show (x - i - 1).toNat = lo by omega]
      rcases Nat.lt_or_ge (y - i - 1).toNat es.length with hh | hh
      · rw [show (y - i - 1).toNat = hi by omega]
      · rw [List.take_of_length_le hh, List.take_of_length_le (by omega)]
    have b1 : lo < hi := by omega
    have b2 : hi ≤ es.length := by omega
    have b3 : fr ≤ i + 1 + 4398046511104 := by omega
    have b4 : pa ≤ i + 1 + 4398046511104 := by omega
    have b5 : i + 1 ≤ fr := by omega
    have e1 : fr - (i + 1) = (lo : Int) := hlo.symm
    have e2 : pa - (i + 1) = (hi : Int) := hhi.symm
    clear hfr hpa hlo hhi
    have HG := Lib.hid hg
    clear hg
    go_wp2_with (go_at_call 34; refine (H34.out _).mono ?_; rintro e w4 ⟨rfl, rfl⟩)
    have hm := hLo.mid lo hi b1 b2
    refine (twins_spec (w.drewN nq) F _ _ (hm.drewN nq) (by exact hLF) (by rw [List.length_drop, List.length_take]; omega)).mono ?_
    rintro e w5 ⟨v5, rfl, hu5, ho5⟩
    go_wp2
    go_ret
    exact ⟨_, rfl, ((Upd.refl _ _).drewN nq).trans hu5, by rw [HG.out]; exact ho5⟩
  · have hg : getL i es x y = [] := by
      unfold getL
      apply List.drop_of_length_le
      rw [List.length_take]
      omega
    have HG := Lib.hid hg
    clear hg hfr hpa
    go_wp2
    go_ret
    exact ⟨_, rfl, (Upd.refl _ _).drewN _, by rw [HG.out]; exact Own.nil _ _ _ _⟩

theorem nil22 (w : World) (a : Option Addr) (n c : Nat) : (binOp .eql 22 (.slice a n c) (.slice none 0 0)).run Try.prog w = .ok (.bool a.isNone) w := Lib.run_eql_slice_nil w 22 46 a n c 0 0 Try.underlying22

set_option maxRecDepth 100000 in
theorem clone_ents (w : World) (F : Nat → Prop) (v : Value) (d : List Ent) (h : Rd entE w F v d) (hF : Fin w F) (hl : d.length ≤ 4398046511104) :
    Calls Try.prog 69 #[v] w fun e w' => ∃ v', e = .returned v' ∧ Upd Non w w' ∧ Own entE 46 w' (Ext F w w') v' d := by
  obtain ⟨A, c, cs, rfl, h1, h2, h3, h4⟩ := h
  have hn := nil22
  rcases A with _ | ad
  · have hd : d.length = 0 := by
      rcases Nat.eq_zero_or_pos d.length with h0 | h0
      · exact h0
      · obtain ⟨_, _, h, _⟩ := h3 (by rw [h4.length]; simpa [entE] using h0)
        cases h
    obtain rfl := List.eq_nil_of_length_eq_zero hd
    go_enter Try.func69, Try.ntmps69
    go_wp2
    go_ret
    exact ⟨_, rfl, Upd.refl _ _, Own.nil _ _ _ _⟩
  · have hal := Upd.alloc (Upd.refl Non w) (.cells #[] 46)
    go_enter Try.func69, Try.ntmps69
    go_wp2_with (at_builtin; refine wpList_append (E := entE) (e := 46) (F := Non) (xs := []) (ys := d) _ rfl (.tmp 5) (.tmp 6) 22 rfl _ 32 Try.underlying22 info46 rfl (by decide) rfl (Own.empty _ _ _ _ _) (some ad) c rfl cs F (h3.keep (alloc_keep hF _)) (h4.keep (alloc_keep hF _)) (fun k h => ⟨(hF.upd hal) k h, id⟩) (Fin.non _) (by rw [maxLen_eq]; simp; omega) (by simp; omega) ?_; intro v' w1 hu ho)
    go_wp2
    go_ret
    exact ⟨_, rfl, hal.trans hu, by
      have := ho.mono (G := Ext F w w1) (fun k hk => by
        rcases hk with hk | hk | hk
        · exact hk.elim
        · exact .inl hk
        · exact .inr (by have h1 := hk.1; have h2 := hk.2; simp at h1; exact ⟨by omega, h2⟩))
      simpa using this⟩

/-- what is left of a slice from k on, its room kept -/
theorem Rd.cut {α : Type} {E : Elt α} {w : World} {F : Nat → Prop} {xs : List α} {A : Option Addr} {c : Nat} (h : Rd E w F (.slice A xs.length c) xs) (k : Nat) (hk : k ≤ xs.length) :
    Rd E w F (.slice (if c = k then A else A.map fun x => x.add (k * E.sz)) (xs.length - k) (c - k)) (xs.drop k) := by
  obtain ⟨A', c', cs, hv, h1, h2, h3, h4⟩ := h
  cases hv
  have hcut := h3.cut k c E.sz xs.length h4.length h1
  exact ⟨_, c - k, _, by rw [List.length_drop], by rw [List.length_drop]; omega, by omega, hcut, h4.drop k⟩

/-- where Compact answers OK -/
def inLog (i : Int) (es : List Ent) (x : Int) : Bool := decide (i < x) && decide (x ≤ i + es.length)
def CompactPost (w : World) (F : Nat → Prop) (p : Nat) (i t : Int) (es : List Ent) (x : Int) (e : Ending) (w' : World) : Prop :=
  inLog i es x = false ∧ e = .returned (.int .i64 1) ∧ Upd Non w w' ∨
  inLog i es x = true ∧ e = .returned (.int .i64 0) ∧ Upd (Ft p F) w w' ∧ Log w' (Ext F w w') p x (termOf i t es x).1 (es.drop (x - i).toNat)

theorem compact_yes {w W2 w4 : World} {F : Nat → Prop} {p : Nat} {i t x a : Int} {es nl : List Ent} {u : Int × Bool} {A4 : Option Addr} {c4 k : Nat} {V : Value}
    (hin : inLog i es x = true) (hu : termOf i t es x = u) (hk : x - i = (k : Int)) (hn : es.drop k = nl) (hW : Upd Non w W2) (h4 : Upd Non W2.drew w4) (hLp : ¬ F p) (hLF : Fin W2 F) (hpw : p < w.heap.size)
    (hb4 : w4.heap[p]? = some (.cells #[.int .i64 i, .int .i64 a, V] 104 (0, 0))) (ho4 : Own entE 46 w4 (Ext F W2.drew w4) (.slice A4 nl.length c4) nl) :
    CompactPost w F p i t es x (.returned (.int .i64 0)) (((w4.setCell ⟨p, 2, none⟩ (.slice A4 nl.length c4)).setCell ⟨p, 0, none⟩ (.int .i64 x)).setCell ⟨p, 1, none⟩ (.int .i64 u.1)) := by
  have e4 : W2.drew.heap.size = W2.heap.size := rfl
  have hs1 := hW.size
  have hs4 := h4.size
  have hup : Upd (Ft p F) w w4 := (hW.drew.trans h4).mono fun _ _ h => h.elim
  have hb := blk_set (blk_set (blk_set hb4 2 (.slice A4 nl.length c4)) 0 (.int .i64 x)) 1 (.int .i64 u.1)
  refine .inr ⟨hin, rfl, ((hup.set (.inr (.inl rfl)) _).set (.inr (.inl rfl)) _).set (.inr (.inl rfl)) _, ?_⟩
  rw [hu, hk, Int.toNat_natCast, hn]
  have hno : ¬ Ext F W2.drew w4 p := by
    rintro (h | h)
    · exact hLp h
    · have := h.1; omega
  have hfin : Fin w4 (Ext F W2.drew w4) := by
    rintro q (h | h)
    · have := hLF q h; omega
    · exact h.2
  have hsz : (((w4.setCell ⟨p, 2, none⟩ (.slice A4 nl.length c4)).setCell ⟨p, 0, none⟩ (.int .i64 x)).setCell ⟨p, 1, none⟩ (.int .i64 u.1)).heap.size = w4.heap.size := by simp [World.setCell]
  have hsub : ∀ q, Ext F W2.drew w4 q → Ext F w (((w4.setCell ⟨p, 2, none⟩ (.slice A4 nl.length c4)).setCell ⟨p, 0, none⟩ (.int .i64 x)).setCell ⟨p, 1, none⟩ (.int .i64 u.1)) q := by
    rintro q (h | h)
    · exact .inl h
    · exact .inr ⟨by have := h.1; omega, by rw [hsz]; exact h.2⟩
  refine ⟨_, hb, (ho4.keep fun q hq => ?_).mono hsub, ?_, ?_⟩
  · have hne : ∀ j, q ≠ (⟨p, j, none⟩ : Addr).block := fun j e => hno (by have e : q = p := e; rw [← e]; exact hq)
    rw [Below.heap_setCell _ _ _ _ (hne 1), Below.heap_setCell _ _ _ _ (hne 0), Below.heap_setCell _ _ _ _ (hne 2)]
  · rintro (h | h)
    · exact hLp h
    · have := h.1; omega
  · rintro q (h | h)
    · have := hLF q h; rw [hsz]; omega
    · exact h.2

set_option maxHeartbeats 2000000 in
set_option maxRecDepth 100000 in
theorem compact_spec {w : World} {F : Nat → Prop} {p : Nat} {i t : Int} {es : List Ent} (h : Log w F p i t es) (h0 : 0 ≤ i) (h1 : i ≤ 2305843009213693952) (hl : es.length ≤ 4398046511104) (x : Int) :
    Calls Try.prog 38 #[.pointer (some ⟨p, 0, none⟩), .int .i64 x] w (CompactPost w F p i t es x) := by
  have hpw : p < w.heap.size := blk_lt h.choose_spec.1
  by_cases hin : inLog i es x = true
  · have hx : i < x ∧ x ≤ i + es.length := by simpa [inLog] using hin
    obtain ⟨hx0, hx1⟩ := hx
    have HIN := Lib.hid hin
    clear hin
    obtain ⟨u, hu⟩ : ∃ u, (termOf i t es x) = u := ⟨_, rfl⟩
    have HU := Lib.hid hu
    obtain ⟨k, hk⟩ : ∃ k : Nat, (k : Int) = x - i := ⟨(x - i).toNat, by omega⟩
    have kle : k ≤ es.length := by omega
    have k1 : x - i = (k : Int) := hk.symm
    clear hk
    go_enter Try.func38, Try.ntmps38
    go_wp2_with fail
    refine (last_spec h h0 (by omega) hl).mono ?_
    rintro e w1 ⟨rfl, n1, rfl⟩
    have hA := h.non ((Upd.refl Non _).drewN n1)
    go_wp2_with fail
    refine (first_spec hA h0 (by omega)).mono ?_
    rintro e w2 ⟨rfl, rfl⟩
    go_wp2_with fail
    refine (term_spec hA h0 (by omega) hl x (by omega)).mono ?_
    rintro e w3 ⟨rfl, n3, rfl⟩
    rw [hu]
    clear hu
    go_wp2_with fail
    have hW := (Upd.refl Non w).drewN (n1 + n3)
    have hL2 := h.non hW
    generalize w.drewN (n1 + n3) = W2 at hW hL2 ⊢
    obtain ⟨vl, hLb, hLo, hLp, hLF⟩ := hL2
    obtain ⟨AL, cL, rfl, hcL, _⟩ := hLo.shape
    have p0 : W2.drew.cell? ⟨p, 0, none⟩ = some (.int .i64 i) := blk_at hLb 0
    have p2 : W2.drew.cell? ⟨p, 2, none⟩ = some (.slice AL es.length cL) := blk_at hLb 2
    have kz0 : (0 : Int) ≤ k := by omega
    have kzc : (k : Int) ≤ es.length := by omega
    have hcut := hLo.rd.cut k kle
    have hF2 : Fin W2.drew F := hLF
    have hdl : (es.drop k).length ≤ 4398046511104 := by rw [List.length_drop]; omega
    obtain ⟨nl, hnl⟩ : ∃ nl, es.drop k = nl := ⟨_, rfl⟩
    rw [hnl] at hdl hcut
    have HN := Lib.hid hnl
    clear hnl
    have kw : IntKind.i64.wrap (x - i) = (k : Int) := by rw [IntWalk.i64_in _ (by omega)]; exact k1
    have K1 := Lib.hid k1
    clear k1
    go_region_law (first
      | (go_simp; go_at_call 69; refine (clone_ents W2.drew F _ nl hcut.drew hF2 hdl).mono ?_; rintro e w4 ⟨v4, rfl, hu4, ho4⟩; obtain ⟨A4, c4, rfl, hc4, _⟩ := ho4.shape; have hb4 := (hu4.block p (by exact blk_lt hLb) id).trans hLb; have p24 : w4.cell? ⟨p, 2, none⟩ = some (.slice AL es.length cL) := blk_at hb4 2; have f24 : w4.frozen? ⟨p, 2, none⟩ = false := blk_free hb4 2; have p04 : w4.cell? ⟨p, 0, none⟩ = some (.int .i64 i) := blk_at hb4 0; have f04 : w4.frozen? ⟨p, 0, none⟩ = false := blk_free hb4 0; have p14 : w4.cell? ⟨p, 1, none⟩ = some (.int .i64 t) := blk_at hb4 1; have f14 : w4.frozen? ⟨p, 1, none⟩ = false := blk_free hb4 1))
    all_goals
      go_wp2
      all_goals
        go_ret
        exact compact_yes HIN.out HU.out K1.out HN.out hW hu4 hLp hLF hpw hb4 ho4
  · have hx : ¬ (i < x ∧ x ≤ i + es.length) := fun hh => hin (by simp [inLog, hh])
    have HIN : Hid (inLog i es x = false) := Lib.hid (by simpa using hin)
    clear hin
    by_cases hx0 : x < i + 1
    · go_enter Try.func38, Try.ntmps38
      go_wp2_with fail
      refine (last_spec h h0 (by omega) hl).mono ?_
      rintro e w1 ⟨rfl, n1, rfl⟩
      have hA := h.non ((Upd.refl Non _).drewN n1)
      go_wp2_with fail
      refine (first_spec hA h0 (by omega)).mono ?_
      rintro e w2 ⟨rfl, rfl⟩
      go_wp2
      go_ret
      exact .inl ⟨HIN.out, rfl, (Upd.refl _ _).drewN _⟩
    · have hx1 : i + es.length < x := by omega
      go_enter Try.func38, Try.ntmps38
      go_wp2_with fail
      refine (last_spec h h0 (by omega) hl).mono ?_
      rintro e w1 ⟨rfl, n1, rfl⟩
      have hA := h.non ((Upd.refl Non _).drewN n1)
      go_wp2_with fail
      refine (first_spec hA h0 (by omega)).mono ?_
      rintro e w2 ⟨rfl, rfl⟩
      go_wp2
      go_ret
      exact .inl ⟨HIN.out, rfl, (Upd.refl _ _).drewN _⟩

end Go.Proofs.Ytniccejlmbfpdaa
