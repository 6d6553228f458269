/-
  The walk of (*Disk).Write.
-/
import Derived.Test.YtniccejlmbfpdaaD3
namespace Go.Proofs.Ytniccejlmbfpdaa
open Go.RowKit
attribute [local go_sem] max2_int min2_int max_two min_two

theorem info111 : (Try.prog.info? 111).map (fun i => (i.zero, i.size, i.bytes)) = some (some (.agg #[.int .i64 0, .slice none 0 0]), entE.sz, 32) := by kernel_rfl

def GoesPost (w : World) (F : Nat → Prop) (p g : Nat) (d : Dk) (e : Ending) (w' : World) : Prop :=
  d.armed = 1 ∧ e = .returned (.bool true) ∧ w = w' ∨ d.armed ≠ 1 ∧ e = .returned (.bool false) ∧ Upd (fun k => k = p) w w' ∧ DiskAt w' F p g { d with armed := max (d.armed - 1) 0 }
theorem goes_spec' {F : Nat → Prop} {p g n : Nat} {d : Dk} (hg : Good n d) {w : World} (h : DiskAt w F p g d) : Calls Try.prog 62 #[.pointer (some ⟨p, 0, none⟩)] w (GoesPost w F p g d) := goes_spec h hg.a0 hg.a1
theorem write_sep {w w4 : World} {F : Nat → Prop} {o : Obj} (hF : Fin w F) : ∀ k, New w w4 k → k < (w4.alloc o).heap.size ∧ ¬ F k := fun k hk => ⟨by have := hk.2; simp; omega, fun h => by have := hk.1; have := hF k h; omega⟩
def WritePost (w : World) (F : Nat → Prop) (p g n : Nat) (d : Dk) (x : Int) (b : List UInt8) (e : Ending) (w' : World) : Prop :=
  e = .returned (.int .i64 (writeD n d x b).1) ∧ Upd (Dft p g F) w w' ∧ DiskAt w' (Ext F w w') p g (writeD n d x b).2

theorem ext_same {w w' : World} {F : Nat → Prop} {p g : Nat} {d : Dk} (h : DiskAt w' F p g d) (hp : p < w.heap.size) (hg : g < w.heap.size) : DiskAt w' (Ext F w w') p g d :=
  h.grow (w0 := w) (fun _ => .inl) (fun _ h => h) hp hg

theorem write_done {w w2 w4 w5 : World} {F K G : Nat → Prop} {p g n : Nat} {d : Dk} {x : Int} {b : List UInt8} {nl : List Ent} {vk vo v5 : Value} {box : Obj}
    (hw : writeD n d x b = (0, { d with armed := max (d.armed - 1) 0, pend := d.pend ++ [(x, b)], writes := d.writes + 1 })) (hn : d.pend ++ [(x, b)] = nl) (hpw : p < w.heap.size) (hgw : g < w.heap.size)
    (hup2 : Upd (Dft p g F) w w2) (hu4 : Upd Non w2.drew w4) (hu5 : Upd G (w4.alloc box) w5)
    (hb5 : w5.heap[p]? = some (.cells #[.bool d.off, .int .i64 (max (d.armed - 1) 0), vk, .int .i64 d.size, .slice (some ⟨g, 0, none⟩) d.kept.length d.kept.length, vo, .int .i64 d.writes] 59 (0, 0)))
    (r2 : w2.heap[g]? = some (.cells (d.kept.map bv).toArray 5 (0, 0))) (r3 : Rd boolE w2 K vk d.keep) (r5 : ¬ F p) (r6 : ¬ F g) (r7 : p ≠ g) (r8 : Fin w2 F) (hK : ∀ q, K q → F q ∧ ¬ G q) (hG : ∀ q, G q → F q)
    (ho5 : Own entE 111 w5 (fun k => G k ∨ New w2.drew w4 k ∨ New (w4.alloc box) w5 k) v5 nl) :
    WritePost w F p g n d x b (.returned (.int .i64 0)) ((w5.setCell ⟨p, 5, none⟩ v5).setCell ⟨p, 6, none⟩ (.int .i64 (d.writes + 1))) := by
  have e2 : w2.drew.heap.size = w2.heap.size := rfl
  have s2 := hup2.size
  have s4 := hu4.size
  have s5 := hu5.size
  rw [World.size_alloc] at s5
  have u25 : Upd G w2 w5 := ((((Upd.refl G w2).drew).trans (hu4.mono fun _ _ h => h.elim)).alloc box).trans hu5
  have g5 := (u25.block g (blk_lt r2) fun h => r6 (hG g h)).trans r2
  have k5 := r3.upd u25 fun q hq => ⟨r8 q (hK q hq).1, (hK q hq).2⟩
  have hfin5 : Fin w5 (Ext F w w5) := fun q (hq : F q ∨ _) => hq.elim (fun h => Nat.lt_of_lt_of_le (r8 q h) u25.size) fun h => h.2
  have hnew : ∀ q, New w2.drew w4 q ∨ New (w4.alloc box) w5 q → w2.heap.size ≤ q ∧ q < w5.heap.size := fun q hq => by
    rcases hq with h | h
    · have := h.1; have := h.2; omega
    · have := h.1; have := h.2; simp at *; omega
  unfold WritePost
  rw [hw]
  refine ⟨rfl, ?_, ?_⟩
  · exact ((hup2.trans (u25.mono fun q _ hq => .inr (.inr (hG q hq)))).set (.inr (.inl rfl)) _).set (.inr (.inl rfl)) _
  · refine (diskAt_of (F := Ext F w w5) (d := { d with armed := max (d.armed - 1) 0, pend := d.pend ++ [(x, b)], writes := d.writes + 1 }) (Upd.set (S := fun k => k = p) (Upd.set (S := fun k => k = p) (Upd.refl _ _) (p := ⟨p, 5, none⟩) (.inr (show p = p from rfl)) _) (p := ⟨p, 6, none⟩) (.inr (show p = p from rfl)) _)
      (blk_set (blk_set hb5 5 _) 6 _) g5 k5 (by show Own _ _ _ _ _ (d.pend ++ [(x, b)]); rw [hn]; exact ho5) (fun h => h.elim r5 fun h => by omega) (fun h => h.elim r6 fun h => by omega) r7 hfin5
      (fun q hq => ⟨.inl (hK q hq).1, fun (h : G q ∨ _) => h.elim (hK q hq).2 fun h => by have := (hnew q h).1; have := r8 q (hK q hq).1; omega⟩)
      (fun q (hq : G q ∨ _) => hq.elim (fun h => .inl (hG q h)) fun h => .inr ⟨by have := (hnew q h).1; omega, (hnew q h).2⟩)).grow (w0 := w) (fun q hq => hq.elim .inl fun h => .inr ⟨h.1, by simp [World.setCell]; omega⟩) (fun q hq => by simpa [Ext, World.setCell] using hq.imp id fun h => h) hpw hgw

set_option maxHeartbeats 1000000 in
set_option maxRecDepth 100000 in
theorem write_spec {w : World} {F K : Nat → Prop} {p g n : Nat} {d : Dk} {x : Int} {b : List UInt8} {v : Value} (h : DiskAt w F p g d) (hg : Good n d) (hK : Rd byteE w K v b) (hKF : Fr w (fun q => q = p) K) (hpl : d.pend.length < 1048576) (hwl : d.writes < 1048576) (hbl : b.length ≤ 140737488355328) :
    Calls Try.prog 28 #[.pointer (some ⟨p, 0, none⟩), .int .i64 x, v] w (WritePost w F p g n d x b) := by
  have HC := check_spec h hg x (b.length == d.size)
  have hpw : p < w.heap.size := h.sep.2.2.2.2.2
  have hgw : g < w.heap.size := blk_lt h.sep.2.2.2.2.1
  obtain ⟨Ak, ck, Ap, cp, c0, c1, c2, c3, c4, c5, c6⟩ := h.cells
  obtain ⟨A, c, rfl, hc, _⟩ := hK.shape
  obtain ⟨r, hr⟩ : ∃ r, check n d x (b.length == d.size) = r := ⟨_, rfl⟩
  obtain ⟨rb, hrb⟩ : ∃ rb, (b.length == d.size) = rb := ⟨_, rfl⟩
  have hrb' : decide ((b.length : Int) = d.size) = rb := by rw [← hrb, Bool.eq_iff_iff]; simp; omega
  have hrb2 : ((b.length : Int) == d.size) = rb := by rw [← hrb, Bool.eq_iff_iff]; simp; omega
  by_cases h0 : r = 0
  · subst h0
    obtain ⟨hoff, hx0, hx1, hbe⟩ := check_ok hr
    obtain rfl : rb = true := hrb.symm.trans hbe
    clear hbe
    have HG := fun W (hd : DiskAt W F p g d) => goes_spec' hg hd
    by_cases ha : d.armed = 1
    · have hw : writeD n d x b = (5, cutD d d.keep) := by rw [writeD, if_pos hr, if_pos ha]
      rw [hr, hrb] at HC
      have HW := Lib.hid hw
      clear hw hr hrb
      go_enter Try.func28, Try.ntmps28
      go_wp2_with fail
      refine HC.mono ?_
      rintro e w1 ⟨rfl, n1, rfl⟩
      have hd1 := h.non ((Upd.refl Non _).drewN n1)
      go_wp2_with fail
      refine (HG _ hd1).mono ?_
      rintro e w2 hq
      unfold GoesPost at hq
      rcases hq with ⟨_, rfl, rfl⟩ | ⟨hne, _⟩
      · obtain ⟨Ak, ck, Ap, cp, c0, c1, c2, c3, c4, c5, c6⟩ := hd1.cells
        have hkr := hd1.readsK c2
        go_wp2_with fail
        refine (cut_spec hd1 hg hkr (fun q hq => ⟨hd1.sep.2.2.2.1 q hq, fun e => hd1.sep.2.1 (by have e : q = g := e; rwa [← e])⟩)).mono ?_
        rintro e w3 ⟨rfl, hu3, hd3⟩
        go_wp2
        go_ret
        exact ⟨by rw [HW.out]; rfl, ((Upd.refl _ _).drewN n1).trans (hu3.mono fun q _ hq => hq.imp id .inl), by rw [HW.out]; exact ext_same hd3 hpw hgw⟩
      · exact absurd ha hne
    · have hw : writeD n d x b = (0, { d with armed := max (d.armed - 1) 0, pend := d.pend ++ [(x, b)], writes := d.writes + 1 }) := by rw [writeD, if_pos hr, if_neg ha]
      rw [hr, hrb] at HC
      have HW := Lib.hid hw
      clear hw hr hrb
      go_enter Try.func28, Try.ntmps28
      go_wp2_with fail
      refine HC.mono ?_
      rintro e w1 ⟨rfl, n1, rfl⟩
      have hd1 := h.non ((Upd.refl Non _).drewN n1)
      have hK1 := hK.drewN n1
      have hKF1 : Fr (w.drewN n1) (fun q => q = p) K := hKF
      have hup1 : Upd (Dft p g F) w (w.drewN n1) := (Upd.refl _ _).drewN n1
      generalize w.drewN n1 = W1 at hd1 hK1 hKF1 hup1 ⊢
      go_wp2_with fail
      refine (HG _ hd1).mono ?_
      rintro e w2 hq
      unfold GoesPost at hq
      rcases hq with ⟨he, _⟩ | ⟨_, rfl, hu2, hd2⟩
      · exact absurd he ha
      · have hK2 := hK1.upd hu2 hKF1
        have hFK2 : Fin w2 K := fun q hq => Nat.lt_of_lt_of_le (hKF1 q hq).1 hu2.size
        have hup2 : Upd (Dft p g F) w w2 := hup1.trans (hu2.mono fun q _ hq => .inl hq)
        obtain ⟨vk, vp, KK, GG, r1, r2, r3, r4, r5, r6, r7, r8, hKK, hGG⟩ := hd2
        obtain ⟨Ap2, cp2, rfl, hcp2, _⟩ := r4.shape
        have p5 : w2.drew.cell? ⟨p, 5, none⟩ = some (.slice Ap2 d.pend.length cp2) := blk_at r1 5
        have h63 : d.pend.length + [((x, b) : Ent)].length ≤ maxLen := by rw [maxLen_eq]; simp; omega
        have h48 : (d.pend.length + [((x, b) : Ent)].length) * 32 ≤ 140737488355328 := by simp; omega
        have hF2 : Fin w2.drew GG := fun q hq => r8 q (hGG q hq)
        have hFK2' : Fin w2.drew K := hFK2
        obtain ⟨nl, hnl⟩ : ∃ nl, d.pend ++ [((x, b) : Ent)] = nl := ⟨_, rfl⟩
        have HN := Lib.hid hnl
        have hwr0 := hg.w0
        clear hnl
        go_wp2_with fail
        go_region_law (first
          | (go_simp; go_at_call 63; refine (clone_bytes w2.drew K _ b hK2.drew hFK2' hbl).mono ?_; rintro e w4 ⟨v4, rfl, hu4, hr4⟩; obtain ⟨A4, c4', rfl, hc4, _⟩ := hr4.shape; have hb4 := (hu4.block p (by exact blk_lt r1) id).trans r1; have p54 : w4.cell? ⟨p, 5, none⟩ = some (.slice Ap2 d.pend.length cp2) := blk_at hb4 5; have p54a : (w4.alloc (.cells #[.int .i64 x, .slice A4 b.length c4'] 111)).cell? ⟨p, 5, none⟩ = some (.slice Ap2 d.pend.length cp2) := blk_at ((Below.heap_alloc _ _ _ (blk_lt hb4)).trans hb4) 5)
          | (go_loud (refine step_append (E := entE) (e := 111) (F := GG) (xs := d.pend) (ys := [(x, b)]) _ rfl (.tmp 36) (.tmp 41) 57 rfl _ 32 Try.underlying57 info111 rfl (by decide) rfl ((r4.drew.upd hu4 (Upd.fr_non hF2)).alloc (hF2.upd hu4) _) _ 1 rfl _ (New w2.drew w4) (at_box _ _ _) (ent_rel (hr4.alloc Fin.new _) hbl) (write_sep hF2) ((hF2.upd hu4).upd ((Upd.refl Non _).alloc _)) h63 h48 ?_; intro v5 w5 hu5 ho5; rw [HN.out] at ho5; obtain ⟨A5, c5', rfl, hc5, _⟩ := ho5.shape; have hb5 := (hu5.block p (by simp; have := blk_lt hb4; omega) (fun h => r5 (hGG p h))).trans ((Below.heap_alloc _ _ _ (blk_lt hb4)).trans hb4); have q5 : w5.cell? ⟨p, 5, none⟩ = some (.slice Ap2 d.pend.length cp2) := blk_at hb5 5; have f5 : w5.frozen? ⟨p, 5, none⟩ = false := blk_free hb5 5; have q6 : w5.cell? ⟨p, 6, none⟩ = some (.int .i64 d.writes) := blk_at hb5 6; have f6 : w5.frozen? ⟨p, 6, none⟩ = false := blk_free hb5 6)))
        all_goals
          go_wp2
          go_ret
          exact write_done HW.out HN.out hpw hgw hup2 hu4 hu5 hb5 r2 r3 r5 r6 r7 r8 hKK hGG ho5
  · have hw : writeD n d x b = (r, d) := by rw [writeD, hr, if_neg h0]
    rw [hr, hrb] at HC
    have HW := Lib.hid hw
    clear hw hr hrb
    go_enter Try.func28, Try.ntmps28
    go_wp2_with fail
    refine HC.mono ?_
    rintro e w1 ⟨rfl, n1, rfl⟩
    go_wp2
    go_ret
    exact ⟨by rw [HW.out]; rfl, ((Upd.refl _ _).drewN n1), by rw [HW.out]; exact ext_same (h.non ((Upd.refl _ _).drewN n1)) hpw hgw⟩

end Go.Proofs.Ytniccejlmbfpdaa
