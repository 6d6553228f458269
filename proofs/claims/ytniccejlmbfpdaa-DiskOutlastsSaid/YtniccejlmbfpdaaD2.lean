/-
  The walks of (*Disk).lay, at both functions that it is handed.
-/
import Derived.Test.YtniccejlmbfpdaaD1
namespace Go.Proofs.Ytniccejlmbfpdaa
open Go.RowKit
attribute [local go_sem] max2_int min2_int max_two min_two

theorem DiskAt.laid {w wr : World} {F : Nat → Prop} {p g : Nat} {d : Dk} (h : DiskAt w F p g d) {kept : List UInt8} (hl : kept.length = d.kept.length) (hu : Upd (fun q => q = g) w wr) (hg : wr.heap[g]? = some (.cells (kept.map bv).toArray 5 (0, 0))) :
    DiskAt wr F p g { d with kept := kept } := by
  obtain ⟨vk, vp, KK, GG, h1, h2, h3, h4, h5, h6, h7, h8, hK, hG⟩ := h
  have hf : Fr w (fun k => k = g) F := fun q hq => ⟨h8 q hq, fun e => h6 (by have e : q = g := e; rwa [← e])⟩
  exact ⟨vk, vp, KK, GG, by simp only [hl]; exact (hu.block p (blk_lt h1) h7).trans h1, hg, h3.upd hu (fun q hq => hf q (hK q hq).1), h4.upd hu (fun q hq => hf q (hG q hq)), h5, h6, h7, h8.upd hu, hK, hG⟩
theorem Good.laid {n : Nat} {d : Dk} (h : Good n d) {kept : List UInt8} (hl : kept.length = d.kept.length) : Good n { d with kept := kept } :=
  ⟨h.n1, h.n2, h.s1, h.s2, hl.trans h.len, h.a0, h.a1, h.pend, h.many, h.w0, h.w1⟩
theorem DiskAt.ends {w : World} {F : Nat → Prop} {p g : Nat} {d : Dk} (h : DiskAt w F p g d) : DiskAt (w.setCell ⟨p, 5, none⟩ (.slice none 0 0)) F p g { d with pend := [] } := by
  obtain ⟨vk, vp, KK, GG, h1, h2, h3, h4, h5, h6, h7, h8, hK, hG⟩ := h
  exact diskAt_of (d := { d with pend := [] }) (Upd.set (S := fun k => k = p) (Upd.refl _ _) (p := ⟨p, 5, none⟩) (.inr (show p = p from rfl)) _) (blk_set h1 5 _) h2 h3 (Own.nil _ _ _ GG) h5 h6 h7 h8 hK hG
theorem layK_yes (s : Nat) (keeps : Nat → Bool) (k : Nat) (kept : List UInt8) (l : List Ent) (h : k < l.length) (hk : keeps k = true) : layK s keeps k kept (l.drop k) = layK s keeps (k + 1) (lay1 s kept l[k]) (l.drop (k + 1)) := by
  rw [List.drop_eq_getElem_cons h]; simp [layK, hk]
theorem layK_no (s : Nat) (keeps : Nat → Bool) (k : Nat) (kept : List UInt8) (l : List Ent) (h : k < l.length) (hk : keeps k = false) : layK s keeps k kept (l.drop k) = layK s keeps (k + 1) kept (l.drop (k + 1)) := by
  rw [List.drop_eq_getElem_cons h]; simp [layK, hk]

theorem DiskAt.reads {w : World} {F : Nat → Prop} {p g : Nat} {d : Dk} (h : DiskAt w F p g d) {A : Option Addr} {n c : Nat} (h5 : w.cell? ⟨p, 5, none⟩ = some (.slice A n c)) : Rd entE w F (.slice A n c) d.pend ∧ d.pend.length ≤ c := by
  obtain ⟨vk, vp, KK, GG, r1, r2, r3, r4, _, _, _, _, hK, hG⟩ := h
  obtain ⟨Ap', cp', rfl, hcp, _⟩ := r4.shape
  have e5 := blk_at r1 5
  rw [h5] at e5
  simp at e5
  obtain ⟨rfl, rfl, rfl⟩ := e5
  exact ⟨r4.rd.mono hG, hcp⟩
theorem DiskAt.readsK {w : World} {F : Nat → Prop} {p g : Nat} {d : Dk} (h : DiskAt w F p g d) {A : Option Addr} {n c : Nat} (h5 : w.cell? ⟨p, 2, none⟩ = some (.slice A n c)) : Rd boolE w F (.slice A n c) d.keep := by
  obtain ⟨vk, vp, KK, GG, r1, r2, r3, r4, _, _, _, _, hK, hG⟩ := h
  obtain ⟨Ap', cp', rfl, hcp, _⟩ := r3.shape
  have e5 := blk_at r1 2
  rw [h5] at e5
  simp at e5
  obtain ⟨rfl, rfl, rfl⟩ := e5
  exact r3.mono fun q hq => (hK q hq).1
theorem DiskAt.sep {w : World} {F : Nat → Prop} {p g : Nat} {d : Dk} (h : DiskAt w F p g d) : ¬ F p ∧ ¬ F g ∧ p ≠ g ∧ Fin w F ∧ w.heap[g]? = some (.cells (d.kept.map bv).toArray 5 (0, 0)) ∧ p < w.heap.size := by
  obtain ⟨vk, vp, KK, GG, r1, r2, r3, r4, r5, r6, r7, r8, hK, hG⟩ := h
  exact ⟨r5, r6, r7, r8, r2, blk_lt r1⟩

theorem step_copyR {P : Program} {ops : Array Oper} {o : Oper} {a : Go.Act} {w : World} {K : Go.Act → World → Prop} {Q : Exit → Go.Act → World → Prop} {E' : Prop}
    (hgd : o.guard = none) (d x : Operand) (dT sT : TypeId) (hop : o.op = Op.call { callee := Callee.builtin Builtin.copy, args := #[d, x], argTypes := #[dT, sT] })
    (v u : Value) (hd : a.eval d = v) (hx : a.eval x = u) {v' : Value} {w' : World} (hr : (Builtin.copy_ #[dT, sT] o.type #[v, u]).run P w = .ok v' w') (hK : K (a.put o.dst v') w') :
    if Region.wanted o (yielded ops a.tmps) = true then Oper.wp P o a w K Q else E' := by
  have hw : Region.wanted o (yielded ops a.tmps) = true := by simp [Region.wanted, hgd]
  rw [if_pos hw]
  unfold Oper.wp
  simp [execOp, hop, resolve, invoke, builtin, hd, hx, hr, Result.andThen]
  exact hK
theorem laid_upd {w W : World} {g m : Nat} {cs : Array Value} {x : Option Obj} (hu : Upd (fun q => q = g) w W) (_ : ((W.drewN m).setRow g cs).heap[g]? = x) : Upd (fun q => q = g) w ((W.drewN m).setRow g cs) :=
  (hu.drewN m).trans (upd_setRow _ g cs)
theorem sync1_spec (w : World) (k : Int) : Calls Try.prog 68 #[.int .i64 k] w fun e w' => e = .returned (.bool true) ∧ w = w' := by
  go_enter Try.func68, Try.ntmps68
  go_wp2
  go_ret
  exact ⟨rfl, rfl⟩

set_option maxHeartbeats 1000000 in
set_option maxRecDepth 100000 in
theorem laySync_spec {w : World} {F : Nat → Prop} {p g n : Nat} {d : Dk} (h : DiskAt w F p g d) (hg : Good n d) :
    Calls Try.prog 64 #[.pointer (some ⟨p, 0, none⟩), .func (.func 68) #[] #[]] w fun e w' => e = .returned (.tuple #[]) ∧ Upd (fun q => q = p ∨ q = g) w w' ∧ DiskAt w' F p g { d with kept := layK d.size (fun _ => true) 0 d.kept d.pend, pend := [] } := by
  obtain ⟨Ak, ck, Ap, cp, c0, c1, c2, c3, c4, c5, c6⟩ := h.cells
  go_enter Try.func64, Try.ntmps64
  go_wp2
  go_loopw [11] (fun i wr => ∃ (k : Nat) (kept : List UInt8), k ≤ d.pend.length ∧ i = .int .i64 k ∧ Hid (layK d.size (fun _ => true) k kept (d.pend.drop k) = layK d.size (fun _ => true) 0 d.kept d.pend) ∧ kept.length = d.kept.length ∧ Upd (fun q => q = g) w wr ∧ DiskAt wr F p g { d with kept := kept }) (fun i _ => d.pend.length - (intOf i).toNat)
  case atStart => exact ⟨0, d.kept, Nat.zero_le _, rfl, Lib.hid (by simp), rfl, Upd.refl _ _, h⟩
  case round =>
    obtain ⟨k, kept, hk, rfl, hlay, hkl, hu, hd⟩ := hrel
    have hgd := hg.laid hkl
    by_cases hlt : k < d.pend.length
    · have hstep := layK_yes d.size (fun _ => true) k kept d.pend hlt rfl
      rw [hlay.out] at hstep
      have hmem := hg.pend d.pend[k] (List.getElem_mem hlt)
      obtain ⟨hFp, hFg, hpg, hFw, hgb, hpw⟩ := h.sep
      obtain ⟨hrp, hcp⟩ := h.reads c5
      have hfr : Fr w (fun q => q = g) F := fun q hq => ⟨hFw q hq, fun e => hFg (by have e : q = g := e; rwa [← e])⟩
      obtain ⟨b, o, c', dv, e1, _, hf, hdl, hrd, m0, m1⟩ := (hrp.upd hu hfr).ent hlt
      cases e1
      have hFr := hFw.upd hu
      obtain ⟨A1, cA, rfl, hcA, _⟩ := hrd.shape
      obtain ⟨⟨j, hj, hjn⟩, hsl⟩ := hmem
      rw [hj] at m0
      have hbl := World.block_lt_of_cell? wr _ m0
      obtain ⟨xb, hxb⟩ : ∃ xb, d.pend[k] = xb := ⟨_, rfl⟩
      rw [hxb] at hstep hj hsl hdl m1 hrd hcA
      obtain ⟨xs, xl⟩ := xb
      simp only at hj hsl hdl m1 hrd hcA
      subst hj
      have hxe := Lib.hid hxb
      have HS := Lib.hid hstep
      clear hstep hlay hxb
      have hda := hd.non ((Upd.refl Non wr).alloc (.cells #[.int .i64 j, .slice A1 d.size cA] 111))
      have hra := hrd.alloc hFr (.cells #[.int .i64 j, .slice A1 d.size cA] 111)
      have hua : Upd (fun q => q = g) w (wr.alloc (.cells #[.int .i64 j, .slice A1 d.size cA] 111)) := hu.alloc _
      have ha0 : (wr.alloc (.cells #[.int .i64 j, .slice A1 d.size cA] 111)).cell? ⟨wr.heap.size, 0, none⟩ = some (.int .i64 j) := blk_at (heap_alloc_new wr _) 0
      have ha1 : (wr.alloc (.cells #[.int .i64 j, .slice A1 d.size cA] 111)).cell? ⟨wr.heap.size, 1, none⟩ = some (.slice A1 d.size cA) := blk_at (heap_alloc_new wr _) 1
      rw [hsl] at m1 hra
      have hsz := hg.s1
      have hmany := hg.many
      have hlen := hkl.trans hg.len
      go_wp2_with fail
      refine (sync1_spec _ _).mono ?_
      rintro e w4 ⟨rfl, rfl⟩
      generalize wr.alloc (.cells #[.int .i64 j, .slice A1 d.size cA] 111) = W2 at hda hra hua ha0 ha1 ⊢
      have hda2 : DiskAt W2.drew F p g { d with kept := kept } := hda.non (Upd.refl Non W2).drew
      have ha02 : W2.drew.cell? ⟨wr.heap.size, 0, none⟩ = some (.int .i64 j) := ha0
      have ha12 : W2.drew.cell? ⟨wr.heap.size, 1, none⟩ = some (.slice A1 d.size cA) := ha1
      go_wp2_with fail
      go_region_law (first
        | (go_simp; go_at_call 67; refine (place_spec hda2 hgd j hjn).mono ?_; rintro e w4 ⟨rfl, m4, rfl⟩; have hdm := hda.non ((Upd.refl Non _).drewN (1 + m4)); have hcpy := copy_sector (w := W2.drewN (1 + m4)) (kept := kept) (b := xl) 3 hdm.sep.2.2.2.2.1 hlen hjn hsl (by omega) (hra.drewN _))
        | (refine step_copyR rfl (.tmp 22) (.tmp 24) 44 44 rfl _ _ rfl rfl hcpy.1 ?_))
      all_goals
        go_wp2
        go_roundw
        case rel => exact ⟨k + 1, lay1 d.size kept (j, xl), by omega, by go_num, Lib.hid HS.out.symm, by rw [lay1_len d.size n kept _ hlen ⟨j, rfl, hjn⟩ hsl, hg.len], laid_upd hua hcpy.2, h.laid (by rw [lay1_len d.size n kept _ hlen ⟨j, rfl, hjn⟩ hsl, hg.len]) (laid_upd hua hcpy.2) hcpy.2⟩
        case measure => simp [intOf]; omega
    · have hstep : layK d.size (fun _ => true) 0 d.kept d.pend = kept := by rw [← hlay.out, List.drop_of_length_le (by omega)]; rfl
      have HS := Lib.hid hstep
      clear hstep hlay
      have hpc : wr.cell? ⟨p, 5, none⟩ = some (.slice Ap d.pend.length cp) := (hu.cell (p := ⟨p, 5, none⟩) h.sep.2.2.2.2.2 h.sep.2.2.1).trans c5
      have hpf : wr.frozen? ⟨p, 5, none⟩ = false := by obtain ⟨vk, vp, KK, GG, r1, _⟩ := hd; exact blk_free r1 5
      go_wp2
      go_end0
      exact ⟨rfl, (hu.mono fun _ _ h => .inr h).set (.inr (.inl rfl)) _, by rw [HS.out]; exact hd.ends⟩

/-- is a write kept? -/
def keepB (keep : List Bool) (k : Nat) : Bool := (keep[k]?).getD false
theorem Rd.bool' {w : World} {F : Nat → Prop} {v : Value} {xs : List Bool} (h : Rd boolE w F v xs) {k : Nat} (hk : k < xs.length) : ∃ b o c, v = .slice (some ⟨b, o, none⟩) xs.length c ∧ xs.length ≤ c ∧ F b ∧ w.cell? ⟨b, o + k, none⟩ = some (.bool xs[k]) := by
  obtain ⟨b, o, c, l, hv, hc, hf, hl, hg⟩ := h.get hk (by decide)
  have hl : l = [.bool xs[k]] := hl
  subst hl
  exact ⟨b, o, c, hv, hc, hf, by simpa [boolE] using hg 0 (by decide)⟩
set_option maxRecDepth 100000 in
theorem cut1_spec {w : World} {K : Nat → Prop} {B : Nat} {vk : Value} {keep : List Bool} (hB : w.cell? ⟨B, 0, none⟩ = some vk) (hK : Rd boolE w K vk keep) (k : Nat) :
    Calls Try.prog 65 #[.int .i64 k, .pointer (some ⟨B, 0, none⟩)] w fun e w' => e = .returned (.bool (keepB keep k)) ∧ w = w' := by
  obtain ⟨A, c, rfl, hc, _⟩ := hK.shape
  by_cases hlt : k < keep.length
  · obtain ⟨b, o, c', e1, _, hf, hcell⟩ := hK.bool' hlt
    cases e1
    have hk : keepB keep k = keep[k] := by simp [keepB, hlt]
    rw [hk]
    clear hk
    go_enter Try.func65, Try.ntmps65
    go_wp2
    go_ret
    exact ⟨rfl, rfl⟩
  · have hk : keepB keep k = false := by simp [keepB, List.getElem?_eq_none (show keep.length ≤ k by omega)]
    rw [hk]
    clear hk
    go_enter Try.func65, Try.ntmps65
    go_wp2
    go_ret
    exact ⟨rfl, rfl⟩

set_option maxHeartbeats 1000000 in
set_option maxRecDepth 100000 in
theorem layCut_spec {w : World} {F K : Nat → Prop} {p g n B : Nat} {d : Dk} {vk : Value} {keep : List Bool} (h : DiskAt w F p g d) (hg : Good n d) (hB : w.cell? ⟨B, 0, none⟩ = some vk) (hBg : B ≠ g) (hK : Rd boolE w K vk keep) (hKF : Fr w (fun q => q = g) K) :
    Calls Try.prog 64 #[.pointer (some ⟨p, 0, none⟩), .func (.func 65) #[] #[.pointer (some ⟨B, 0, none⟩)]] w fun e w' => e = .returned (.tuple #[]) ∧ Upd (fun q => q = p ∨ q = g) w w' ∧ DiskAt w' F p g { d with kept := layK d.size (keepB keep) 0 d.kept d.pend, pend := [] } := by
  obtain ⟨Ak, ck, Ap, cp, c0, c1, c2, c3, c4, c5, c6⟩ := h.cells
  go_enter Try.func64, Try.ntmps64
  go_wp2
  go_loopw [11] (fun i wr => ∃ (k : Nat) (kept : List UInt8), k ≤ d.pend.length ∧ i = .int .i64 k ∧ Hid (layK d.size (keepB keep) k kept (d.pend.drop k) = layK d.size (keepB keep) 0 d.kept d.pend) ∧ kept.length = d.kept.length ∧ Upd (fun q => q = g) w wr ∧ DiskAt wr F p g { d with kept := kept }) (fun i _ => d.pend.length - (intOf i).toNat)
  case atStart => exact ⟨0, d.kept, Nat.zero_le _, rfl, Lib.hid (by simp), rfl, Upd.refl _ _, h⟩
  case round =>
    obtain ⟨k, kept, hk, rfl, hlay, hkl, hu, hd⟩ := hrel
    have hgd := hg.laid hkl
    by_cases hlt : k < d.pend.length
    · have hmem := hg.pend d.pend[k] (List.getElem_mem hlt)
      obtain ⟨hFp, hFg, hpg, hFw, hgb, hpw⟩ := h.sep
      obtain ⟨hrp, hcp⟩ := h.reads c5
      have hfr : Fr w (fun q => q = g) F := fun q hq => ⟨hFw q hq, fun e => hFg (by have e : q = g := e; rwa [← e])⟩
      obtain ⟨b, o, c', dv, e1, _, hf, hdl, hrd, m0, m1⟩ := (hrp.upd hu hfr).ent hlt
      cases e1
      have hFr := hFw.upd hu
      obtain ⟨A1, cA, rfl, hcA, _⟩ := hrd.shape
      obtain ⟨⟨j, hj, hjn⟩, hsl⟩ := hmem
      rw [hj] at m0
      have hbl := World.block_lt_of_cell? wr _ m0
      obtain ⟨xb, hxb⟩ : ∃ xb, d.pend[k] = xb := ⟨_, rfl⟩
      rw [hxb] at hj hsl hdl m1 hrd hcA
      obtain ⟨xs, xl⟩ := xb
      simp only at hj hsl hdl m1 hrd hcA
      subst hj
      have hxe := Lib.hid hxb
      clear hxb
      have hda := hd.non ((Upd.refl Non wr).alloc (.cells #[.int .i64 j, .slice A1 d.size cA] 111))
      have hra := hrd.alloc hFr (.cells #[.int .i64 j, .slice A1 d.size cA] 111)
      have hua : Upd (fun q => q = g) w (wr.alloc (.cells #[.int .i64 j, .slice A1 d.size cA] 111)) := hu.alloc _
      have ha0 : (wr.alloc (.cells #[.int .i64 j, .slice A1 d.size cA] 111)).cell? ⟨wr.heap.size, 0, none⟩ = some (.int .i64 j) := blk_at (heap_alloc_new wr _) 0
      have ha1 : (wr.alloc (.cells #[.int .i64 j, .slice A1 d.size cA] 111)).cell? ⟨wr.heap.size, 1, none⟩ = some (.slice A1 d.size cA) := blk_at (heap_alloc_new wr _) 1
      rw [hsl] at m1 hra
      have hsz := hg.s1
      have hmany := hg.many
      have hlen := hkl.trans hg.len
      have hBw : B < w.heap.size := World.block_lt_of_cell? w _ hB
      have hBa := (hua.cell (p := ⟨B, 0, none⟩) hBw hBg).trans hB
      have hKa := hK.upd hua hKF
      go_wp2_with fail
      refine (cut1_spec hBa hKa k).mono ?_
      rintro e w4 ⟨rfl, rfl⟩
      by_cases hkb : keepB keep k = true
      · have hstep := layK_yes d.size (keepB keep) k kept d.pend hlt hkb
        rw [hlay.out, hxe.out] at hstep
        have HS := Lib.hid hstep
        clear hstep hlay
        rw [hkb]
        generalize wr.alloc (.cells #[.int .i64 j, .slice A1 d.size cA] 111) = W2 at hda hra hua ha0 ha1 ⊢
        have hda2 : DiskAt W2.drew F p g { d with kept := kept } := hda.non (Upd.refl Non W2).drew
        have ha02 : W2.drew.cell? ⟨wr.heap.size, 0, none⟩ = some (.int .i64 j) := ha0
        have ha12 : W2.drew.cell? ⟨wr.heap.size, 1, none⟩ = some (.slice A1 d.size cA) := ha1
        go_wp2_with fail
        go_region_law (first
          | (go_simp; go_at_call 67; refine (place_spec hda2 hgd j hjn).mono ?_; rintro e w4 ⟨rfl, m4, rfl⟩; have hdm := hda.non ((Upd.refl Non _).drewN (1 + m4)); have hcpy := copy_sector (w := W2.drewN (1 + m4)) (kept := kept) (b := xl) 3 hdm.sep.2.2.2.2.1 hlen hjn hsl (by omega) (hra.drewN _))
          | (refine step_copyR rfl (.tmp 22) (.tmp 24) 44 44 rfl _ _ rfl rfl hcpy.1 ?_))
        all_goals
          go_wp2
          go_roundw
          case rel => exact ⟨k + 1, lay1 d.size kept (j, xl), by omega, by go_num, Lib.hid HS.out.symm, by rw [lay1_len d.size n kept _ hlen ⟨j, rfl, hjn⟩ hsl, hg.len], laid_upd hua hcpy.2, h.laid (by rw [lay1_len d.size n kept _ hlen ⟨j, rfl, hjn⟩ hsl, hg.len]) (laid_upd hua hcpy.2) hcpy.2⟩
          case measure => simp [intOf]; omega
      · have hkb : keepB keep k = false := by simpa using hkb
        have hstep := layK_no d.size (keepB keep) k kept d.pend hlt hkb
        rw [hlay.out] at hstep
        have HS := Lib.hid hstep
        clear hstep hlay
        rw [hkb]
        go_wp2
        go_roundw
        case rel => exact ⟨k + 1, kept, by omega, by go_num, Lib.hid HS.out.symm, hkl, hua, hda⟩
        case measure => simp [intOf]; omega
    · have hstep : layK d.size (keepB keep) 0 d.kept d.pend = kept := by rw [← hlay.out, List.drop_of_length_le (by omega)]; rfl
      have HS := Lib.hid hstep
      clear hstep hlay
      have hpc : wr.cell? ⟨p, 5, none⟩ = some (.slice Ap d.pend.length cp) := (hu.cell (p := ⟨p, 5, none⟩) h.sep.2.2.2.2.2 h.sep.2.2.1).trans c5
      have hpf : wr.frozen? ⟨p, 5, none⟩ = false := by obtain ⟨vk, vp, KK, GG, r1, _⟩ := hd; exact blk_free r1 5
      go_wp2
      go_end0
      exact ⟨rfl, (hu.mono fun _ _ h => .inr h).set (.inr (.inl rfl)) _, by rw [HS.out]; exact hd.ends⟩

end Go.Proofs.Ytniccejlmbfpdaa
