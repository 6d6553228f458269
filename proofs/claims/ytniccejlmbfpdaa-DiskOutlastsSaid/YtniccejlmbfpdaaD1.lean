/-
  The disk: words, and the walks of its small functions.
-/
import Derived.Test.YtniccejlmbfpdaaBase2
import Derived.Test.YtniccejlmbfpdaaR8
namespace Go.Proofs.Ytniccejlmbfpdaa
open Go.RowKit
attribute [local go_sem] max2_int min2_int max_two min_two

/-- what a disk is -/
structure Dk where
  off : Bool
  armed : Int
  keep : List Bool
  size : Nat
  kept : List UInt8
  pend : List Ent
  writes : Int

/-- A disk in memory: its block p, the block g of its bytes, the blocks F of the rest. -/
def DiskAt (w : World) (F : Nat → Prop) (p g : Nat) (d : Dk) : Prop :=
  ∃ vk vp K G, w.heap[p]? = some (.cells #[.bool d.off, .int .i64 d.armed, vk, .int .i64 d.size, .slice (some ⟨g, 0, none⟩) d.kept.length d.kept.length, vp, .int .i64 d.writes] 59 (0, 0)) ∧
    w.heap[g]? = some (.cells (d.kept.map bv).toArray 5 (0, 0)) ∧ Rd boolE w K vk d.keep ∧ Own entE 111 w G vp d.pend ∧ ¬ F p ∧ ¬ F g ∧ p ≠ g ∧ Fin w F ∧ (∀ q, K q → F q ∧ ¬ G q) ∧ (∀ q, G q → F q)

theorem DiskAt.non {w w' : World} {F : Nat → Prop} {p g : Nat} {d : Dk} (h : DiskAt w F p g d) (hu : Upd Non w w') : DiskAt w' F p g d := by
  obtain ⟨vk, vp, KK, GG, h1, h2, h3, h4, h5, h6, h7, h8, hK, hG⟩ := h
  exact ⟨vk, vp, KK, GG, (hu.block p (blk_lt h1) id).trans h1, (hu.block g (blk_lt h2) id).trans h2, h3.upd hu (Upd.fr_non fun q hq => h8 q (hK q hq).1), h4.upd hu (Upd.fr_non fun q hq => h8 q (hG q hq)), h5, h6, h7, h8.upd hu, hK, hG⟩
theorem DiskAt.cells {w : World} {F : Nat → Prop} {p g : Nat} {d : Dk} (h : DiskAt w F p g d) :
    ∃ Ak ck Ap cp, w.cell? ⟨p, 0, none⟩ = some (.bool d.off) ∧ w.cell? ⟨p, 1, none⟩ = some (.int .i64 d.armed) ∧ w.cell? ⟨p, 2, none⟩ = some (.slice Ak d.keep.length ck) ∧ w.cell? ⟨p, 3, none⟩ = some (.int .i64 d.size) ∧
      w.cell? ⟨p, 4, none⟩ = some (.slice (some ⟨g, 0, none⟩) d.kept.length d.kept.length) ∧ w.cell? ⟨p, 5, none⟩ = some (.slice Ap d.pend.length cp) ∧ w.cell? ⟨p, 6, none⟩ = some (.int .i64 d.writes) := by
  obtain ⟨vk, vp, KK, GG, h1, h2, h3, h4, _⟩ := h
  obtain ⟨Ak, ck, rfl, _⟩ := h3.shape
  obtain ⟨Ap, cp, rfl, _⟩ := h4.shape
  exact ⟨Ak, ck, Ap, cp, blk_at h1 0, blk_at h1 1, blk_at h1 2, blk_at h1 3, blk_at h1 4, blk_at h1 5, blk_at h1 6⟩

theorem diskAt_of {w w' : World} {F : Nat → Prop} {p g : Nat} {d : Dk} {vk vp : Value} {K G : Nat → Prop} (hu : Upd (fun k => k = p) w w')
    (h1 : w'.heap[p]? = some (.cells #[.bool d.off, .int .i64 d.armed, vk, .int .i64 d.size, .slice (some ⟨g, 0, none⟩) d.kept.length d.kept.length, vp, .int .i64 d.writes] 59 (0, 0)))
    (h2 : w.heap[g]? = some (.cells (d.kept.map bv).toArray 5 (0, 0))) (h3 : Rd boolE w K vk d.keep) (h4 : Own entE 111 w G vp d.pend) (h5 : ¬ F p) (h6 : ¬ F g) (h7 : p ≠ g) (h8 : Fin w F) (hK : ∀ q, K q → F q ∧ ¬ G q) (hG : ∀ q, G q → F q) : DiskAt w' F p g d := by
  have hf : Fr w (fun k => k = p) F := fun q hq => ⟨h8 q hq, fun e => h5 (by have e : q = p := e; rwa [← e])⟩
  exact ⟨vk, vp, K, G, h1, (hu.block g (blk_lt h2) fun e => h7 e.symm).trans h2, h3.upd hu (fun q hq => hf q (hK q hq).1), h4.upd hu (fun q hq => hf q (hG q hq)), h5, h6, h7, h8.upd hu, hK, hG⟩

section
variable {w : World} {F : Nat → Prop} {p g : Nat} {d : Dk}
theorem off_spec (h : DiskAt w F p g d) : Calls Try.prog 44 #[.pointer (some ⟨p, 0, none⟩)] w fun e w' => e = .returned (.bool d.off) ∧ w = w' := by
  obtain ⟨Ak, ck, Ap, cp, c0, c1, c2, c3, c4, c5, c6⟩ := h.cells
  go_enter Try.func44, Try.ntmps44
  go_wp2
  go_ret
  exact ⟨rfl, rfl⟩
theorem writes_spec (h : DiskAt w F p g d) : Calls Try.prog 32 #[.pointer (some ⟨p, 0, none⟩)] w fun e w' => e = .returned (.int .i64 d.writes) ∧ w = w' := by
  obtain ⟨Ak, ck, Ap, cp, c0, c1, c2, c3, c4, c5, c6⟩ := h.cells
  go_enter Try.func32, Try.ntmps32
  go_wp2
  go_ret
  exact ⟨rfl, rfl⟩
theorem pending_spec (h : DiskAt w F p g d) : Calls Try.prog 42 #[.pointer (some ⟨p, 0, none⟩)] w fun e w' => e = .returned (.int .i64 d.pend.length) ∧ w = w' := by
  obtain ⟨Ak, ck, Ap, cp, c0, c1, c2, c3, c4, c5, c6⟩ := h.cells
  go_enter Try.func42, Try.ntmps42
  go_wp2
  go_ret
  exact ⟨rfl, rfl⟩
theorem shape_spec (h : DiskAt w F p g d) (n : Nat) (hn : d.kept.length = n * d.size) (hs : 0 < d.size) (hs2 : d.size ≤ 1024) (hn2 : n ≤ 16384) : Calls Try.prog 51 #[.pointer (some ⟨p, 0, none⟩)] w (Same w (.tuple #[.int .i64 n, .int .i64 d.size])) := by
  obtain ⟨Ak, ck, Ap, cp, c0, c1, c2, c3, c4, c5, c6⟩ := h.cells
  have h0 : (d.size : Int) ≠ 0 := by omega
  have hd : (d.kept.length : Int) / d.size = n := by
    rw [hn, Int.natCast_mul]; exact Int.mul_ediv_cancel _ h0
  have hw : wrap64 ((d.kept.length : Int) / d.size) = n := by rw [hd]; exact IntWalk.wrap64_in _ (by omega)
  clear hd hn
  go_enter Try.func51, Try.ntmps51
  go_wp2
  go_quiet (fail)
  go_wp2
  go_ret2
  exact ⟨by rw [hw]; rfl, _, rfl⟩
theorem goes_spec (h : DiskAt w F p g d) (h0 : 0 ≤ d.armed) (h1 : d.armed ≤ 9223372036854775807) : Calls Try.prog 62 #[.pointer (some ⟨p, 0, none⟩)] w fun e w' =>
    d.armed = 1 ∧ e = .returned (.bool true) ∧ w = w' ∨ d.armed ≠ 1 ∧ e = .returned (.bool false) ∧ Upd (fun k => k = p) w w' ∧ DiskAt w' F p g { d with armed := max (d.armed - 1) 0 } := by
  obtain ⟨Ak, ck, Ap, cp, c0, c1, c2, c3, c4, c5, c6⟩ := h.cells
  obtain ⟨vk, vp, KK, GG, h1, h2, h3, h4, h5, h6, h7, h8, hK, hG⟩ := h
  have f1 : w.frozen? ⟨p, 1, none⟩ = false := blk_free h1 1
  by_cases ha : d.armed = 1
  · go_enter Try.func62, Try.ntmps62
    go_wp2
    go_ret
    exact .inl ⟨ha, rfl, rfl⟩
  · go_enter Try.func62, Try.ntmps62
    go_wp2
    go_ret
    have hu : Upd (fun k => k = p) w (w.setCell ⟨p, 1, none⟩ (.int .i64 (max (d.armed - 1) 0))) := Upd.set (S := fun k => k = p) (Upd.refl _ _) (p := ⟨p, 1, none⟩) (.inr (show p = p from rfl)) _
    exact .inr ⟨ha, rfl, hu, diskAt_of (d := { d with armed := max (d.armed - 1) 0 }) hu (blk_set h1 1 _) h2 h3 h4 h5 h6 h7 h8 hK hG⟩
end

/-- a disk as it is when it has come into being, and stays -/
structure Good (n : Nat) (d : Dk) : Prop where
  n1 : 1 ≤ n
  n2 : n ≤ 16384
  s1 : 64 ≤ d.size
  s2 : d.size ≤ 1024
  len : d.kept.length = n * d.size
  a0 : 0 ≤ d.armed
  a1 : d.armed ≤ 9223372036854775807
  pend : ∀ x ∈ d.pend, (∃ k : Nat, x.1 = k ∧ k < n) ∧ x.2.length = d.size
  many : d.pend.length ≤ 1048576
  w0 : 0 ≤ d.writes
  w1 : d.writes ≤ 1048576
def check (n : Nat) (d : Dk) (sector : Int) (ok : Bool) : Int := if d.off then 5 else if sector < 0 ∨ n ≤ sector ∨ ok = false then 1 else 0

section
variable {w : World} {F : Nat → Prop} {p g n : Nat} {d : Dk}
theorem check_spec (h : DiskAt w F p g d) (hg : Good n d) (x : Int) (ok : Bool) : Calls Try.prog 61 #[.pointer (some ⟨p, 0, none⟩), .int .i64 x, .bool ok] w (Same w (.int .i64 (check n d x ok))) := by
  have hlen := hg.len
  have hs1 := hg.s1
  have hs2 := hg.s2
  have hn2 := hg.n2
  have HS := shape_spec h n hlen (by omega) hs2 hn2
  have HO := fun k => off_spec (h.non ((Upd.refl Non w).drewN k))
  obtain ⟨r, hr⟩ : ∃ r, check n d x ok = r := ⟨_, rfl⟩
  unfold check at hr
  by_cases ho : d.off = true
  · have hr' : r = 5 := by rw [← hr, if_pos ho]
    rw [show check n d x ok = 5 by rw [check, if_pos ho]]
    simp only [ho] at HO
    clear hr
    go_enter Try.func61, Try.ntmps61
    go_wp2_with fail
    refine HS.mono ?_
    rintro e w1 ⟨rfl, n1, rfl⟩
    go_wp2_with fail
    refine (HO n1).mono ?_
    rintro e w2 ⟨rfl, rfl⟩
    go_wp2
    go_ret
    exact ⟨rfl, _, rfl⟩
  · have ho : d.off = false := by simpa using ho
    simp only [ho] at HO
    have hr : check n d x ok = if x < 0 ∨ (n : Int) ≤ x ∨ ok = false then 1 else 0 := by rw [check, if_neg (by simp [ho])]
    by_cases h1 : x < 0
    · rw [hr, if_pos (.inl h1)]
      clear hr
      go_enter Try.func61, Try.ntmps61
      go_wp2_with fail
      refine HS.mono ?_
      rintro e w1 ⟨rfl, n1, rfl⟩
      go_wp2_with fail
      refine (HO n1).mono ?_
      rintro e w2 ⟨rfl, rfl⟩
      go_wp2
      go_ret
      exact ⟨rfl, _, rfl⟩
    · by_cases h2 : (n : Int) ≤ x
      · rw [hr, if_pos (.inr (.inl h2))]
        clear hr
        go_enter Try.func61, Try.ntmps61
        go_wp2_with fail
        refine HS.mono ?_
        rintro e w1 ⟨rfl, n1, rfl⟩
        go_wp2_with fail
        refine (HO n1).mono ?_
        rintro e w2 ⟨rfl, rfl⟩
        go_wp2
        go_ret
        exact ⟨rfl, _, rfl⟩
      · cases ok
        · rw [hr, if_pos (.inr (.inr rfl))]
          clear hr
          go_enter Try.func61, Try.ntmps61
          go_wp2_with fail
          refine HS.mono ?_
          rintro e w1 ⟨rfl, n1, rfl⟩
          go_wp2_with fail
          refine (HO n1).mono ?_
          rintro e w2 ⟨rfl, rfl⟩
          go_wp2
          go_ret
          exact ⟨rfl, _, rfl⟩
        · rw [hr, if_neg (by simp; omega)]
          clear hr
          go_enter Try.func61, Try.ntmps61
          go_wp2_with fail
          refine HS.mono ?_
          rintro e w1 ⟨rfl, n1, rfl⟩
          go_wp2_with fail
          refine (HO n1).mono ?_
          rintro e w2 ⟨rfl, rfl⟩
          go_wp2
          go_ret
          exact ⟨rfl, _, rfl⟩
theorem place_spec (h : DiskAt w F p g d) (hg : Good n d) (k : Nat) (hk : k < n) : Calls Try.prog 67 #[.pointer (some ⟨p, 0, none⟩), .int .i64 k] w (Same w (.slice (some ⟨g, k * d.size, none⟩) d.size d.size)) := by
  obtain ⟨Ak, ck, Ap, cp, c0, c1, c2, c3, c4, c5, c6⟩ := h.cells
  have hlen := hg.len
  have hs1 := hg.s1
  have hs2 := hg.s2
  have hn2 := hg.n2
  have hb : k * d.size + d.size ≤ d.kept.length := by
    rw [hlen]; have := Nat.mul_le_mul_right d.size (show k + 1 ≤ n from hk); rw [Nat.add_mul, Nat.one_mul] at this; exact this
  have hb2 : d.kept.length ≤ 16777216 := by
    rw [hlen]; exact Nat.mul_le_mul hn2 hs2
  obtain ⟨o, ho⟩ : ∃ o, k * d.size = o := ⟨_, rfl⟩
  have hw : (k : Int) * d.size = (o : Int) := by rw [← ho, Int.natCast_mul]
  rw [ho] at hb ⊢
  clear hlen ho
  go_enter Try.func67, Try.ntmps67
  go_wp2
  go_quiet (fail)
  go_wp2
  go_ret
  exact ⟨by simp, _, rfl⟩
end

/-- a write is laid into what is kept -/
def lay1 (s : Nat) (kept : List UInt8) (x : Ent) : List UInt8 := kept.take (x.1.toNat * s) ++ x.2 ++ kept.drop (x.1.toNat * s + x.2.length)
/-- some of the writes, from the i-th on -/
def layK (s : Nat) (keeps : Nat → Bool) : Nat → List UInt8 → List Ent → List UInt8
  | _, kept, [] => kept
  | i, kept, x :: xs => layK s keeps (i + 1) (if keeps i = true then lay1 s kept x else kept) xs
theorem lay1_len (s n : Nat) (kept : List UInt8) (x : Ent) (hl : kept.length = n * s) (h1 : ∃ k : Nat, x.1 = k ∧ k < n) (h2 : x.2.length = s) : (lay1 s kept x).length = n * s := by
  obtain ⟨k, hk, hn⟩ := h1
  have := Nat.mul_le_mul_right s (show k + 1 ≤ n from hn)
  rw [Nat.add_mul, Nat.one_mul] at this
  simp only [lay1, List.length_append, List.length_take, List.length_drop, hk, Int.toNat_natCast, h2, hl]
  omega
theorem layK_len (s n : Nat) (keeps : Nat → Bool) : ∀ (l : List Ent) (i : Nat) (kept : List UInt8), kept.length = n * s → (∀ x ∈ l, (∃ k : Nat, x.1 = k ∧ k < n) ∧ x.2.length = s) → (layK s keeps i kept l).length = n * s
  | [], _, _, h, _ => h
  | x :: xs, i, kept, h, hx => by
    have h1 := hx x (by simp)
    refine layK_len s n keeps xs (i + 1) _ ?_ fun y hy => hx y (by simp [hy])
    split
    · exact lay1_len s n kept x h h1.1 h1.2
    · exact h

theorem info5s : (Try.prog.info? 5).map (·.size) = some 1 := by kernel_rfl
/-- copy of a whole sector -/
theorem copy_sector {w : World} {g k s n : Nat} {kept b : List UInt8} {A : Option Addr} {c : Nat} {D : Nat → Prop} (ty : TypeId) (hg : w.heap[g]? = some (.cells (kept.map bv).toArray 5 (0, 0))) (hl : kept.length = n * s) (hk : k < n) (hb : b.length = s) (hs : 0 < s)
    (hr : Rd byteE w D (.slice A s c) b) :
    (Builtin.copy_ #[44, 44] ty #[.slice (some ⟨g, k * s, none⟩) s s, .slice A s c]).run Try.prog w = .ok (goInt s) (w.setRow g ((lay1 s kept (k, b)).map bv).toArray) ∧
      (w.setRow g ((lay1 s kept (k, b)).map bv).toArray).heap[g]? = some (.cells ((lay1 s kept (k, b)).map bv).toArray 5 (0, 0)) := by
  have h5 : ∀ (d : List UInt8) cs, Rel byteE w D d cs → cs = d.map bv := by
    intro d
    induction d with
    | nil => intro cs h; exact h
    | cons x xs ih =>
      intro cs h
      obtain ⟨l, r, rfl, ho, hr⟩ := h
      have ho : l = [bv x] := ho
      rw [ho, ih r hr]
      rfl
  subst hb
  obtain ⟨A', c', cs, e, h1, h2, h3, h4⟩ := hr
  cases e
  obtain rfl := h5 b cs h4
  obtain ⟨bb, o, rfl, _, hc⟩ := h3 (by simpa using hs)
  have hfit : k * b.length + b.length ≤ kept.length := by
    have := Nat.mul_le_mul_right b.length (show k + 1 ≤ n from hk)
    rw [Nat.add_mul, Nat.one_mul] at this
    omega
  have hrun := run_copy_row (P := Try.prog) w 44 44 ty 5 g (k * b.length) b.length b.length ⟨bb, o, none⟩ b.length c (kept.map bv).toArray 5 (b.map bv) Try.underlying44 info5s hg (by rw [List.length_map]; exact (Nat.min_self b.length).symm)
    (fun j v hv => by
      have hj := (List.getElem?_eq_some_iff.1 hv).1
      rw [add_mk, hc j hj, hv]) (by simp; omega) (fun v hv => by
        obtain ⟨x, _, rfl⟩ := List.mem_map.1 hv
        rfl)
  have he : (List.take (k * b.length) (kept.map bv).toArray.toList ++ b.map bv ++ List.drop (k * b.length + (b.map bv).length) (kept.map bv).toArray.toList).toArray = ((lay1 b.length kept (k, b)).map bv).toArray := by
    simp [lay1, List.map_append, List.map_take, List.map_drop]
  rw [he] at hrun
  refine ⟨?_, setRow_heap w g _ _ _ _ hg⟩
  rw [hrun]
  simp

end Go.Proofs.Ytniccejlmbfpdaa
