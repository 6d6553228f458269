/-
  What a disk's acts make of it; the walks of On, Cut, Sync, Bytes, Arm.
-/
import Derived.Test.YtniccejlmbfpdaaD2
namespace Go.Proofs.Ytniccejlmbfpdaa
open Go.RowKit
attribute [local go_sem] max2_int min2_int max_two min_two

def newD (n s : Nat) : Dk := { off := false, armed := 0, keep := [], size := s, kept := List.replicate (n * s) 0, pend := [], writes := 0 }
def cutD (d : Dk) (keep : List Bool) : Dk := { d with kept := layK d.size (keepB keep) 0 d.kept d.pend, pend := [], off := true, armed := 0, keep := [] }
def syncD (d : Dk) : Int × Dk := if d.off then (5, d) else (0, { d with kept := layK d.size (fun _ => true) 0 d.kept d.pend, pend := [] })
def writeD (n : Nat) (d : Dk) (x : Int) (b : List UInt8) : Int × Dk :=
  if check n d x (b.length == d.size) = 0 then
    (if d.armed = 1 then (5, cutD d d.keep) else (0, { d with armed := max (d.armed - 1) 0, pend := d.pend ++ [(x, b)], writes := d.writes + 1 }))
  else (check n d x (b.length == d.size), d)
/-- what a disk's acts may turn -/
def Dft (p g : Nat) (F : Nat → Prop) : Nat → Prop := fun q => q = p ∨ q = g ∨ F q

theorem Good.new {n s : Nat} (h1 : 1 ≤ n) (h2 : n ≤ 16384) (h3 : 64 ≤ s) (h4 : s ≤ 1024) : Good n (newD n s) :=
  ⟨h1, h2, h3, h4, by simp [newD], by simp [newD], by simp [newD], by simp [newD], by simp [newD], by simp [newD], by simp [newD]⟩
theorem Good.cut {n : Nat} {d : Dk} (h : Good n d) (keep : List Bool) : Good n (cutD d keep) :=
  ⟨h.n1, h.n2, h.s1, h.s2, layK_len _ _ _ _ _ _ h.len h.pend, by simp [cutD], by simp [cutD], by simp [cutD], by simp [cutD], h.w0, h.w1⟩
theorem Good.sync {n : Nat} {d : Dk} (h : Good n d) : Good n (syncD d).2 := by
  unfold syncD
  split
  · exact h
  · exact ⟨h.n1, h.n2, h.s1, h.s2, layK_len _ _ _ _ _ _ h.len h.pend, h.a0, h.a1, by simp, by simp, h.w0, h.w1⟩
theorem check_ok {n : Nat} {d : Dk} {x : Int} {ok : Bool} (h : check n d x ok = 0) : d.off = false ∧ 0 ≤ x ∧ x < n ∧ ok = true := by
  unfold check at h
  split at h
  · cases h
  · split at h
    · cases h
    · rename_i h1 h2
      refine ⟨by simpa using h1, by omega, by omega, ?_⟩
      cases ok
      · exact absurd (.inr (.inr rfl)) h2
      · rfl
theorem Good.write {n : Nat} {d : Dk} (h : Good n d) (x : Int) (b : List UInt8) (h1 : d.pend.length < 1048576) (h2 : d.writes < 1048576) : Good n (writeD n d x b).2 := by
  unfold writeD
  split
  · rename_i hc
    obtain ⟨_, hx0, hx1, hb⟩ := check_ok hc
    split
    · exact h.cut _
    · refine ⟨h.n1, h.n2, h.s1, h.s2, h.len, by simp; omega, by have := h.a1; simp; omega, ?_, by simp; omega, by have := h.w0; simp; omega, by simp; omega⟩
      intro y hy
      rcases List.mem_append.1 hy with hy | hy
      · exact h.pend y hy
      · obtain rfl := List.mem_singleton.1 hy
        exact ⟨⟨x.toNat, by simp; omega, by omega⟩, by simpa using hb⟩
  · exact h
theorem Good.on {n : Nat} {d : Dk} (h : Good n d) : Good n { d with off := false } := ⟨h.n1, h.n2, h.s1, h.s2, h.len, h.a0, h.a1, h.pend, h.many, h.w0, h.w1⟩
theorem Good.arm {n : Nat} {d : Dk} (h : Good n d) (x : Int) (hx : x ≤ 9223372036854775807) (keep : List Bool) : Good n { d with armed := max x 1, keep := keep } :=
  ⟨h.n1, h.n2, h.s1, h.s2, h.len, by simp; omega, by simp; omega, h.pend, h.many, h.w0, h.w1⟩

section
variable {w : World} {F : Nat → Prop} {p g n : Nat} {d : Dk}
theorem on_spec (h : DiskAt w F p g d) : Calls Try.prog 30 #[.pointer (some ⟨p, 0, none⟩)] w fun e w' => e = .returned (.tuple #[]) ∧ Upd (fun q => q = p) w w' ∧ DiskAt w' F p g { d with off := false } := by
  obtain ⟨vk, vp, KK, GG, h1, h2, h3, h4, h5, h6, h7, h8, hKK, hGG⟩ := h
  have c0 : w.cell? ⟨p, 0, none⟩ = some (.bool d.off) := blk_at h1 0
  have f0 : w.frozen? ⟨p, 0, none⟩ = false := blk_free h1 0
  go_enter Try.func30, Try.ntmps30
  go_wp2
  go_end0
  have hu : Upd (fun k => k = p) w (w.setCell ⟨p, 0, none⟩ (.bool false)) := Upd.set (S := fun k => k = p) (Upd.refl _ _) (p := ⟨p, 0, none⟩) (.inr (show p = p from rfl)) _
  exact ⟨rfl, hu, diskAt_of (d := { d with off := false }) hu (blk_set h1 0 _) h2 h3 h4 h5 h6 h7 h8 hKK hGG⟩

theorem cut_shut {G : Nat → Prop} {vk vp : Value} {sz : Nat} {kept : List UInt8} {pend : List Ent} {wt a : Int} {o : Bool}
    (h1 : w.heap[p]? = some (.cells #[.bool o, .int .i64 a, vk, .int .i64 sz, .slice (some ⟨g, 0, none⟩) kept.length kept.length, vp, .int .i64 wt] 59 (0, 0))) (h2 : w.heap[g]? = some (.cells (kept.map bv).toArray 5 (0, 0)))
    (h4 : Own entE 111 w G vp pend) (h5 : ¬ F p) (h6 : ¬ F g) (h7 : p ≠ g) (h8 : Fin w F) (hG : ∀ q, G q → F q) :
    DiskAt (((w.setCell ⟨p, 0, none⟩ (.bool true)).setCell ⟨p, 1, none⟩ (.int .i64 0)).setCell ⟨p, 2, none⟩ (.slice none 0 0)) F p g { off := true, armed := 0, keep := [], size := sz, kept := kept, pend := pend, writes := wt } :=
  diskAt_of (d := { off := true, armed := 0, keep := [], size := sz, kept := kept, pend := pend, writes := wt })
    (Upd.set (S := fun k => k = p) (Upd.set (S := fun k => k = p) (Upd.set (S := fun k => k = p) (Upd.refl _ _) (p := ⟨p, 0, none⟩) (.inr (show p = p from rfl)) _) (p := ⟨p, 1, none⟩) (.inr (show p = p from rfl)) _) (p := ⟨p, 2, none⟩) (.inr (show p = p from rfl)) _)
    (blk_set (blk_set (blk_set h1 0 _) 1 _) 2 _) h2 (Rd.nil _ _ Non) h4 h5 h6 h7 h8 (fun _ h => h.elim) hG

set_option maxRecDepth 100000 in
theorem cut_spec {K : Nat → Prop} {v : Value} {keep : List Bool} (h : DiskAt w F p g d) (hg : Good n d) (hK : Rd boolE w K v keep) (hKF : Fr w (fun q => q = g) K) :
    Calls Try.prog 29 #[.pointer (some ⟨p, 0, none⟩), v] w fun e w' => e = .returned (.tuple #[]) ∧ Upd (fun q => q = p ∨ q = g) w w' ∧ DiskAt w' F p g (cutD d keep) := by
  obtain ⟨A, c, rfl, hc, _⟩ := hK.shape
  have hal := (Upd.refl Non w).alloc (.cells #[.slice A keep.length c] 49)
  have hBw : (w.alloc (.cells #[.slice A keep.length c] 49)).cell? ⟨w.heap.size, 0, none⟩ = some (.slice A keep.length c) := blk_at (heap_alloc_new w _) 0
  have hgw : g < w.heap.size := blk_lt h.sep.2.2.2.2.1
  go_enter Try.func29, Try.ntmps29
  go_wp2_with fail
  refine (layCut_spec (B := w.heap.size) (h.non hal) hg hBw (by omega) (hK.upd hal (fun q hq => ⟨(hKF q hq).1, id⟩)) (fun q hq => ⟨Nat.lt_of_lt_of_le (hKF q hq).1 hal.size, (hKF q hq).2⟩)).mono ?_
  rintro e w2 ⟨rfl, hu2, hd2⟩
  obtain ⟨vk, vp, KK, GG, h1, h2, h3, h4, h5, h6, h7, h8, hKK, hGG⟩ := hd2
  have c0 : w2.cell? ⟨p, 0, none⟩ = some (.bool d.off) := blk_at h1 0
  have f0 : w2.frozen? ⟨p, 0, none⟩ = false := blk_free h1 0
  have c1 : w2.cell? ⟨p, 1, none⟩ = some (.int .i64 d.armed) := blk_at h1 1
  have f1 : w2.frozen? ⟨p, 1, none⟩ = false := blk_free h1 1
  obtain ⟨A3, c3, rfl, _⟩ := h3.shape
  have c2 : w2.cell? ⟨p, 2, none⟩ = some (.slice A3 d.keep.length c3) := blk_at h1 2
  have f2 : w2.frozen? ⟨p, 2, none⟩ = false := blk_free h1 2
  go_wp2
  go_end0
  exact ⟨rfl, (((((hal.mono (T := fun q => q = p ∨ q = g) fun _ _ h => h.elim).trans hu2).set (.inr (.inl rfl)) _).set (.inr (.inl rfl)) _).set (.inr (.inl rfl)) _), cut_shut h1 h2 h4 h5 h6 h7 h8 hGG⟩

set_option maxRecDepth 100000 in
theorem sync_spec (h : DiskAt w F p g d) (hg : Good n d) :
    Calls Try.prog 36 #[.pointer (some ⟨p, 0, none⟩)] w fun e w' => e = .returned (.int .i64 (syncD d).1) ∧ Upd (fun q => q = p ∨ q = g) w w' ∧ DiskAt w' F p g (syncD d).2 := by
  have HO := off_spec h
  by_cases ho : d.off = true
  · rw [show syncD d = (5, d) by rw [syncD, if_pos ho]]
    rw [ho] at HO
    go_enter Try.func36, Try.ntmps36
    go_wp2_with fail
    refine HO.mono ?_
    rintro e w1 ⟨rfl, rfl⟩
    go_wp2
    go_ret
    exact ⟨rfl, Upd.refl _ _, h⟩
  · have ho : d.off = false := by simpa using ho
    rw [show syncD d = (0, { d with kept := layK d.size (fun _ => true) 0 d.kept d.pend, pend := [] }) by rw [syncD, if_neg (by simp [ho])]]
    rw [ho] at HO
    go_enter Try.func36, Try.ntmps36
    go_wp2_with fail
    refine HO.mono ?_
    rintro e w1 ⟨rfl, rfl⟩
    go_wp2_with fail
    refine (laySync_spec h hg).mono ?_
    rintro e w1 ⟨rfl, hu1, hd1⟩
    go_wp2
    go_ret
    exact ⟨rfl, hu1, hd1⟩

theorem bytes_rel (w : World) (D : Nat → Prop) : ∀ l : List UInt8, Rel byteE w D l (l.map bv)
  | [] => rfl
  | _ :: xs => ⟨_, _, rfl, rfl, bytes_rel w D xs⟩
theorem rd_row {w : World} {g : Nat} {l : List UInt8} (h : w.heap[g]? = some (.cells (l.map bv).toArray 5 (0, 0))) (hm : l.length ≤ maxLen) : Rd byteE w (fun q => q = g) (.slice (some ⟨g, 0, none⟩) l.length l.length) l :=
  ⟨_, _, l.map bv, rfl, Nat.le_refl _, hm, fun _ => ⟨_, _, rfl, rfl, fun j _ => by rw [Nat.zero_add, blk_at h j]; simp⟩, bytes_rel _ _ _⟩
theorem Good.small {n : Nat} {d : Dk} (h : Good n d) : d.kept.length ≤ 16777216 := by
  rw [h.len]; exact Nat.mul_le_mul h.n2 h.s2
theorem bytes_at (h : DiskAt w F p g d) (hg : Good n d) : Rd byteE w (fun q => q = g) (.slice (some ⟨g, 0, none⟩) d.kept.length d.kept.length) d.kept := by
  have := hg.small
  exact rd_row h.sep.2.2.2.2.1 (by rw [maxLen_eq]; omega)
theorem bytes_spec (h : DiskAt w F p g d) (hg : Good n d) : Calls Try.prog 37 #[.pointer (some ⟨p, 0, none⟩)] w fun e w' => ∃ v', e = .returned v' ∧ Upd Non w w' ∧ Rd byteE w' (New w w') v' d.kept := by
  obtain ⟨Ak, ck, Ap, cp, c0, c1, c2, c3, c4, c5, c6⟩ := h.cells
  have hgw : g < w.heap.size := blk_lt h.sep.2.2.2.2.1
  have hsm := hg.small
  go_enter Try.func37, Try.ntmps37
  go_wp2_with fail
  refine (clone_bytes w _ _ _ (bytes_at h hg) (fun q hq => by have hq : q = g := hq; omega) (by omega)).mono ?_
  rintro e w1 ⟨v1, rfl, hu1, hr1⟩
  go_wp2
  go_ret
  exact ⟨_, rfl, hu1, hr1⟩

theorem nil49 (w : World) (a : Option Addr) (n c : Nat) : (binOp .eql 49 (.slice a n c) (.slice none 0 0)).run Try.prog w = .ok (.bool a.isNone) w := Lib.run_eql_slice_nil w 49 4 a n c 0 0 Try.underlying49
theorem info4 : (Try.prog.info? 4).map (fun i => (i.zero, i.size, i.bytes)) = some (some (.bool false), boolE.sz, 1) := by kernel_rfl
set_option maxRecDepth 100000 in
theorem clone_bools (w : World) (F : Nat → Prop) (v : Value) (d : List Bool) (h : Rd boolE w F v d) (hF : Fin w F) (hl : d.length ≤ 70368744177664) :
    Calls Try.prog 70 #[v] w fun e w' => ∃ v', e = .returned v' ∧ Upd Non w w' ∧ Rd boolE w' (New w w') v' d := by
  obtain ⟨A, c, cs, rfl, h1, h2, h3, h4⟩ := h
  have hn := nil49
  rcases A with _ | ad
  · have hd : d.length = 0 := by
      rcases Nat.eq_zero_or_pos d.length with h0 | h0
      · exact h0
      · obtain ⟨_, _, h, _⟩ := h3 (by rw [h4.length]; simpa [boolE] using h0)
        cases h
    obtain rfl := List.eq_nil_of_length_eq_zero hd
    go_enter Try.func70, Try.ntmps70
    go_wp2
    go_ret
    exact ⟨_, rfl, Upd.refl _ _, Rd.nil _ _ _⟩
  · have hal := Upd.alloc (Upd.refl Non w) (.cells #[] 4)
    go_enter Try.func70, Try.ntmps70
    go_wp2_with (at_builtin; refine wpList_append (E := boolE) (e := 4) (F := Non) (xs := []) (ys := d) _ rfl (.tmp 5) (.tmp 6) 49 rfl (.bool false) 1 Try.underlying49 info4 rfl (by decide) rfl (Own.empty _ _ _ _ _) (some ad) c rfl cs Non (h3.keep (alloc_keep hF _)) (h4.flat boolE_flat) (fun k h => h.elim) (Fin.non _) (by rw [maxLen_eq]; simp; omega) (by simp; omega) ?_; intro v' w1 hu ho)
    go_wp2
    go_ret
    exact ⟨_, rfl, hal.trans hu, by simpa using ho.rd.mono (fun k hk => by simp [Non, New] at hk ⊢; omega)⟩

theorem DiskAt.grow {F' : Nat → Prop} {w0 : World} (h : DiskAt w F p g d) (h1 : ∀ q, F q → F' q) (h2 : ∀ q, F' q → F q ∨ (w0.heap.size ≤ q ∧ q < w.heap.size)) (hp : p < w0.heap.size) (hg : g < w0.heap.size) : DiskAt w F' p g d := by
  obtain ⟨vk, vp, KK, GG, r1, r2, r3, r4, r5, r6, r7, r8, hKK, hGG⟩ := h
  exact ⟨vk, vp, KK, GG, r1, r2, r3, r4, fun h => (h2 _ h).elim r5 fun h => by omega, fun h => (h2 _ h).elim r6 fun h => by omega, r7, fun q hq => (h2 _ hq).elim (r8 q) fun h => h.2, fun q hq => ⟨h1 q (hKK q hq).1, (hKK q hq).2⟩, fun q hq => h1 q (hGG q hq)⟩

theorem arm_spec {K : Nat → Prop} {v : Value} {keep : List Bool} (h : DiskAt w F p g d) (x : Int) (hK : Rd boolE w K v keep) (hF : Fin w K) (hl : keep.length ≤ 70368744177664) :
    Calls Try.prog 43 #[.pointer (some ⟨p, 0, none⟩), .int .i64 x, v] w fun e w' => e = .returned (.tuple #[]) ∧ Upd (fun q => q = p) w w' ∧ DiskAt w' (Ext F w w') p g { d with armed := max x 1, keep := keep } := by
  obtain ⟨A, c, rfl, hc, _⟩ := hK.shape
  go_enter Try.func43, Try.ntmps43
  go_wp2_with fail
  refine (clone_bools w _ _ _ hK hF hl).mono ?_
  rintro e w1 ⟨v1, rfl, hu1, hr1⟩
  obtain ⟨A1, c1', rfl, _⟩ := hr1.shape
  have hpg : p < w.heap.size ∧ g < w.heap.size := ⟨h.sep.2.2.2.2.2, blk_lt h.sep.2.2.2.2.1⟩
  obtain ⟨vk, vp, KK, GG, r1, r2, r3, r4, r5, r6, r7, r8, hKK, hGG⟩ := h.non hu1
  obtain ⟨A3, c3, rfl, _⟩ := r3.shape
  have c1 : w1.cell? ⟨p, 1, none⟩ = some (.int .i64 d.armed) := blk_at r1 1
  have f1 : w1.frozen? ⟨p, 1, none⟩ = false := blk_free r1 1
  have c2 : w1.cell? ⟨p, 2, none⟩ = some (.slice A3 d.keep.length c3) := blk_at r1 2
  have f2 : w1.frozen? ⟨p, 2, none⟩ = false := blk_free r1 2
  go_wp2
  go_end0
  refine ⟨rfl, ((hu1.mono (T := fun q => q = p) fun _ _ h => h.elim).set (.inr (by rfl)) _).set (.inr (by rfl)) _, ?_⟩
  have h8' := h.sep.2.2.2.1
  have hno : ∀ q, New w w1 q → q ≠ p ∧ q ≠ g := fun q hq => by have := hq.1; omega
  have hext : ∀ q, F q ∨ New w w1 q → Ext F w w1 q := fun q hq => hq
  have hfin : Fin w1 (Ext F w w1) := fun q hq => hq.elim (r8 q) fun h => h.2
  refine (diskAt_of (F := Ext F w w1) (d := { d with armed := max x 1, keep := keep }) (Upd.set (S := fun k => k = p) (Upd.set (S := fun k => k = p) (Upd.refl _ _) (p := ⟨p, 1, none⟩) (.inr (show p = p from rfl)) _) (p := ⟨p, 2, none⟩) (.inr (show p = p from rfl)) _)
    (blk_set (blk_set r1 1 _) 2 _) r2 hr1 r4 (fun h => h.elim r5 fun h => by omega) (fun h => h.elim r6 fun h => by omega) r7 hfin (fun q hq => ⟨.inr hq, fun hg => by have := hq.1; have := h8' q (hGG q hg); omega⟩) (fun q hq => .inl (hGG q hq))).grow (w0 := w) (fun q hq => hq.elim .inl fun h => .inr ⟨h.1, by simp [World.setCell]; omega⟩) (fun q hq => by simpa [Ext, World.setCell] using hq.imp id fun h => h) hpg.1 hpg.2
end

end Go.Proofs.Ytniccejlmbfpdaa
