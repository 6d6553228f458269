/-
  What was synced to a disk outlasts a cut, and behind it each sector holds what was kept or one of the pending writes: the law DiskOutlasts returns true at every input.
-/
import Derived.Test.YtniccejlmbfpdaaD9
import Derived.Test.YtniccejlmbfpdaaLaw
namespace Go.Proofs.Ytniccejlmbfpdaa
open Go.ChangeShapes Go.WideShapes Go.ChangeAt Go.RowKit
attribute [local go_sem] max2_int min2_int max_two min_two

/-! ### what lies in a sector (as in the text of DiskAll) -/
def sec (s : Nat) (kept : List UInt8) (i : Nat) : List UInt8 := (kept.drop (i * s)).take s
theorem sec_lay1 (s n : Nat) (kept b : List UInt8) (j i : Nat) (hl : kept.length = n * s) (hj : j < n) (hb : b.length = s) (_hi : i < n) : sec s (lay1 s kept (j, b)) i = if j = i then b else sec s kept i := by
  have h1 := Nat.mul_le_mul_right s (show j + 1 ≤ n from hj)
  rw [Nat.add_mul, Nat.one_mul] at h1
  have hget : ∀ a, (lay1 s kept (j, b))[a]? = if a < j * s then kept[a]? else if a < j * s + s then b[a - j * s]? else kept[a]? := by
    intro a
    have e : lay1 s kept (j, b) = kept.take (j * s) ++ (b ++ kept.drop (j * s + s)) := by simp [lay1, hb]
    have ht : (kept.take (j * s)).length = j * s := by rw [List.length_take]; omega
    rw [e]
    by_cases h2 : a < j * s
    · rw [if_pos h2, List.getElem?_append_left (by omega), List.getElem?_take, if_pos h2]
    · rw [if_neg h2, List.getElem?_append_right (by omega), ht]
      by_cases h3 : a < j * s + s
      · rw [if_pos h3, List.getElem?_append_left (by omega)]
      · rw [if_neg h3, List.getElem?_append_right (by omega), List.getElem?_drop]
        congr 1
        omega
  apply List.ext_getElem?
  intro t
  by_cases ht : t < s
  · have e : (sec s (lay1 s kept (j, b)) i)[t]? = (lay1 s kept (j, b))[i * s + t]? := by rw [sec, List.getElem?_take, if_pos ht, List.getElem?_drop]
    rw [e, hget]
    by_cases hji : j = i
    · subst hji
      rw [if_pos rfl, if_neg (by omega), if_pos (by omega)]
      congr 1
      omega
    · have e2 : (sec s kept i)[t]? = kept[i * s + t]? := by rw [sec, List.getElem?_take, if_pos ht, List.getElem?_drop]
      rw [if_neg hji, e2]
      rcases Nat.lt_or_ge i j with h | h
      · have := Nat.mul_le_mul_right s (show i + 1 ≤ j from h)
        rw [Nat.add_mul, Nat.one_mul] at this
        rw [if_pos (by omega)]
      · have := Nat.mul_le_mul_right s (show j + 1 ≤ i by omega)
        rw [Nat.add_mul, Nat.one_mul] at this
        rw [if_neg (by omega), if_neg (by omega)]
  · have e : (sec s (lay1 s kept (j, b)) i)[t]? = none := by rw [sec, List.getElem?_take, if_neg ht]
    rw [e]
    split
    · rw [List.getElem?_eq_none (by omega)]
    · rw [sec, List.getElem?_take, if_neg ht]
theorem sec_mem (s n : Nat) (keeps : Nat → Bool) : ∀ (l : List Ent) (m : Nat) (kept : List UInt8) (i : Nat), kept.length = n * s → (∀ x ∈ l, (∃ k : Nat, x.1 = k ∧ k < n) ∧ x.2.length = s) → i < n →
    sec s (layK s keeps m kept l) i = sec s kept i ∨ ∃ x ∈ l, x.1 = (i : Int) ∧ sec s (layK s keeps m kept l) i = x.2
  | [], _, _, _, _, _, _ => .inl rfl
  | x :: xs, m, kept, i, hl, hx, hi => by
    obtain ⟨a, b⟩ := x
    obtain ⟨⟨j, hj, hjn⟩, hb⟩ := hx (a, b) (by simp)
    have hj : a = j := hj
    subst hj
    have hb : b.length = s := hb
    show sec s (layK s keeps (m + 1) _ xs) i = _ ∨ _
    rcases sec_mem s n keeps xs (m + 1) (if keeps m = true then lay1 s kept ((j : Int), b) else kept) i (by split; exact lay1_len s n kept _ hl ⟨j, rfl, hjn⟩ hb; exact hl) (fun y hy => hx y (by simp [hy])) hi with h | ⟨y, hy, h1, h2⟩
    · by_cases hk : keeps m = true
      · rw [if_pos hk, sec_lay1 s n kept b j i hl hjn hb hi] at h
        by_cases hji : j = i
        · rw [if_pos hji] at h
          refine .inr ⟨((j : Int), b), by simp, by rw [hji], ?_⟩
          show sec s (layK s keeps (m + 1) _ xs) i = b
          rw [if_pos hk]; exact h
        · rw [if_neg hji] at h
          refine .inl ?_
          rw [if_pos hk]; exact h
      · rw [if_neg hk] at h
        refine .inl ?_
        rw [if_neg hk]; exact h
    · exact .inr ⟨y, by simp [hy], h1, h2⟩

/-- a disk whose power is on and is not to go -/
structure Calm (d : Dk) (acts : List DAct) (k : Nat) (kept : List UInt8) : Prop where
  off : d.off = false
  armed : d.armed = 0
  size : d.size = 64
  kept : d.kept = kept
  pl : d.pend.length ≤ k
  from' : ∀ x ∈ d.pend, ∃ i, i < k ∧ ∃ a, acts[i]? = some a ∧ x = (a.sector, dataL a 64)
theorem Calm.write {d : Dk} {acts : List DAct} {k n : Nat} {kept : List UInt8} {a : DAct} (h : Calm d acts k kept) (ha : acts[k]? = some a) : Calm (writeD n d a.sector (dataL a 64)).2 acts (k + 1) kept ∧ (writeD n d a.sector (dataL a 64)).2.writes ≤ d.writes + 1 := by
  have hmem : ∀ x ∈ d.pend, ∃ i, i < k + 1 ∧ ∃ a, acts[i]? = some a ∧ x = (a.sector, dataL a 64) := fun x hx => by
    obtain ⟨i, hi, r⟩ := h.from' x hx
    exact ⟨i, by omega, r⟩
  have hpl := h.pl
  unfold writeD
  split
  · rw [if_neg (by rw [h.armed]; decide)]
    refine ⟨⟨h.off, by show max (d.armed - 1) 0 = 0; rw [h.armed]; decide, h.size, h.kept, by simp; exact hpl, ?_⟩, by simp⟩
    intro x hx
    rcases List.mem_append.1 hx with hx | hx
    · exact hmem x hx
    · rw [List.mem_singleton.1 hx]
      exact ⟨k, by omega, a, ha, rfl⟩
  · exact ⟨⟨h.off, h.armed, h.size, h.kept, by show d.pend.length ≤ k + 1; omega, hmem⟩, by show d.writes ≤ d.writes + 1; omega⟩

theorem conv44' {w : World} {F : Nat → Prop} {v : Value} {d : List UInt8} (h : Rd byteE w F v d) : (convert 44 9 v).run Try.prog w = .ok (.string (str d)) w :=
  conv_bytes Try.underlying44 Try.underlying5 Try.underlying9 h
theorem outlast_reads {d : Dk} {acts : List DAct} {kz : List UInt8} (hc : Calm d acts acts.length kz) (hg : Good 8 d) (hl : kz.length = 512) (keep : List Bool) (dz : Dk) (hdz : dz = { cutD d keep with off := false }) (k : Nat) (hk : k < 8) :
    readD 8 dz k = (0, sec 64 dz.kept k) ∧ (sec 64 dz.kept k).length = 64 ∧ (sec 64 dz.kept k = sec 64 kz k ∨ ∃ i, ∃ a, i < acts.length ∧ acts[i]? = some a ∧ a.sector = (k : Int) ∧ dataL a 64 = sec 64 dz.kept k) := by
  have hs := hc.size
  have hkk := hc.kept
  have hck : check 8 dz k true = 0 := by rw [hdz, check, if_neg (by simp), if_neg (by simp; omega)]
  have hsz : dz.size = 64 := by rw [hdz]; exact hs
  have hkept : dz.kept = layK 64 (keepB keep) 0 kz d.pend := by rw [hdz]; show layK d.size _ _ d.kept _ = _; rw [hs, hkk]
  have hpend : ∀ x ∈ d.pend, (∃ k : Nat, x.1 = k ∧ k < 8) ∧ x.2.length = 64 := fun x hx => by
    have := hg.pend x hx
    rw [hs] at this
    exact this
  refine ⟨?_, ?_, ?_⟩
  · have hp : dz.pend = [] := by rw [hdz]; rfl
    rw [readD, if_pos hck, hp, hsz, Int.toNat_natCast]
    rfl
  · have := Nat.mul_le_mul_right 64 (show k + 1 ≤ 8 from hk)
    rw [sec, List.length_take, List.length_drop, hkept, layK_len 64 8 (keepB keep) d.pend 0 kz (by omega) hpend]
    omega
  · rw [hkept]
    rcases sec_mem 64 8 (keepB keep) d.pend 0 kz k (by omega) hpend hk with h | ⟨x, hx, h1, h2⟩
    · exact .inl h
    · obtain ⟨i, hi, a, ha, rfl⟩ := hc.from' x hx
      exact .inr ⟨i, a, hi, ha, h1, h2.symm⟩

theorem dataL_len (a : DAct) (h : a.bytes.length ≤ 140737488351232) : (dataL a 64).length ≤ 140737488355328 := by
  unfold dataL
  split
  · omega
  · simp
set_option maxRecDepth 100000 in
set_option maxHeartbeats 40000000 in
theorem outlasts_walk (w : World) (v1 v2 v3 : Value) (l1 l2 : List DAct) (keep : List Bool) (h1 : Rd dactE w (Old w) v1 l1) (h2 : Rd dactE w (Old w) v2 l2) (h3 : Rd boolE w (Old w) v3 keep) (g1 : l1.length ≤ 4398046511104) (g2 : l2.length ≤ 4398046511104) (_g3 : keep.length ≤ 140737488355328) :
    Calls Try.prog 9 #[v1, v2, v3] w fun e w' => e = .returned (.bool true) ∧ Below w.heap.size w w' := by
  obtain ⟨A1, c1, rfl, hc1, _⟩ := h1.shape
  obtain ⟨A2, c2, rfl, hc2, _⟩ := h2.shape
  obtain ⟨A3, c3, rfl, hc3, _⟩ := h3.shape
  go_enter Try.func9, Try.ntmps9
  go_wp2_with fail
  refine (dknown_spec w).mono ?_
  rintro e w1 ⟨rfl, hu1⟩
  have h1' := h1.upd hu1 (Upd.fr_non (Fin.old w))
  go_wp2_with fail
  refine (dfew_spec w1 _ _ l1 h1' ((Fin.old w).upd hu1) g1).mono ?_
  rintro e w2 ⟨hu2, r1, rfl, hr1⟩
  cases r1
  · go_wp2
    go_ret
    exact ⟨rfl, (hu1.trans hu2).below⟩
  obtain ⟨k1, _⟩ := hr1 rfl
  clear hr1
  have h2' := h2.upd (hu1.trans hu2) (Upd.fr_non (Fin.old w))
  go_wp2_with fail
  refine (dfew_spec w2 _ _ l2 h2' ((Fin.old w).upd (hu1.trans hu2)) g2).mono ?_
  rintro e w3 ⟨hu3, r2, rfl, hr2⟩
  cases r2
  · go_wp2
    go_ret
    exact ⟨rfl, ((hu1.trans hu2).trans hu3).below⟩
  obtain ⟨k2, _⟩ := hr2 rfl
  clear hr2
  by_cases hk3 : 1000 < keep.length
  · go_wp2
    go_ret
    exact ⟨rfl, ((hu1.trans hu2).trans hu3).below⟩
  have hu13 := (hu1.trans hu2).trans hu3
  go_wp2_with fail
  refine (newOf w w3 hu13 8 64 (by omega) (by omega) (by omega) (by omega)).mono ?_
  rintro e w4 ⟨p, g, rfl, hu4, hm4⟩
  obtain ⟨z, hz⟩ : ∃ z, z = (newD 8 64).kept := ⟨_, rfl⟩
  have hz4 : Calm (newD 8 64) l1 0 z := ⟨rfl, rfl, rfl, hz.symm, by simp [newD], by simp [newD]⟩
  have hw4 : (newD 8 64).writes ≤ (0 : Nat) := by simp [newD]
  generalize newD 8 64 = d4 at hm4 hz4 hw4
  clear hz h1' h2' hu13
  go_wp2_with fail
  go_loopw [9] (fun i wr => ∃ (k : Nat) (F : Nat → Prop) (d : Dk), k ≤ l1.length ∧ i = .int .i64 k ∧ Mine w wr F p g 8 d ∧ Calm d l1 k z ∧ d.writes ≤ k) (fun i _ => l1.length - (intOf i).toNat)
  case atStart => exact ⟨0, Non, d4, Nat.zero_le _, rfl, hm4, hz4, hw4⟩
  case round =>
    obtain ⟨k, F, d, hk, rfl, hm, hcm, hwr⟩ := hrel
    by_cases hlt : k < l1.length
    · have huw := hm.2.2.2.2
      have h1w := h1.upd huw (Upd.fr_non (Fin.old w))
      obtain ⟨b, o, c', Ab, cb, Ak, ck, e1, _, hf, hrb, hrk, hb1, hb2, _, m0, m1, m2, m3, m4, m5⟩ := h1w.dact hlt
      cases e1
      obtain ⟨a, ha⟩ : ∃ a, l1[k] = a := ⟨_, rfl⟩
      have hget : l1[k]? = some a := by rw [List.getElem?_eq_getElem hlt, ha]
      rw [ha] at hrb hrk hb1 hb2 m0 m1 m2 m3 m4 m5
      have HG := Lib.hid hget
      clear ha hget
      have hold : Fin wr (Old w) := (Fin.old w).upd huw
      have hbw := World.block_lt_of_cell? wr _ m0
      have hlt4 := hm.lt
      have hpl := hcm.pl
      have hge := hm.2.2.1
      go_wp2_with fail
      go_region_law (first
        | (go_simp; go_at_call 41; refine (data_spec wr.drew (Old w) a Ab Ak cb ck 64 hrb.drew (by exact hold) (by decide)).mono ?_; rintro e w5 ⟨hu5, v5, rfl, hr5⟩; obtain ⟨A5, c5, rfl, _⟩ := hr5.shape; have m1' := (hu5.cell (p := ⟨b, o + k * 6 + 1, none⟩) (by exact hbw) id).trans (show wr.drew.cell? _ = _ from m1); have hm5 := (hm.non ((Upd.refl Non wr).drew)).non hu5)
        | (go_simp; go_at_call 28; refine (hm5.write (x := a.sector) hr5 (fun q hq => ⟨by rcases hq with hq | hq; exact Nat.lt_of_lt_of_le (hold q hq) hu5.size; exact hq.2, fun e => by have e : q = p := e; rcases hq with hq | hq; (have hq : q < w.heap.size := hq; omega); (have := hq.1; have : wr.drew.heap.size = wr.heap.size := rfl; omega)⟩) (by omega) (by omega) (dataL_len a hb1)).mono ?_; rintro e w6 ⟨rfl, hm6, hu6⟩))
      all_goals
        have hcw := hcm.write (n := 8) HG.out
        go_wp2
        go_roundw
        case rel => exact ⟨k + 1, _, _, by omega, by go_num, hm6, hcw.1, by have := hcw.2; omega⟩
        case measure => simp [intOf]; omega
    · obtain rfl : k = l1.length := by omega
      have hsy : syncD d = (0, { d with kept := layK d.size (fun _ => true) 0 d.kept d.pend, pend := [] }) := by rw [syncD, if_neg (by rw [hcm.off]; decide)]
      have HSY := Lib.hid hsy
      clear hsy
      go_wp2_with fail
      refine hm.sync.mono ?_
      rintro e w5 ⟨rfl, hm5, hu5⟩
      rw [HSY.out] at hm5 ⊢
      obtain ⟨kz, hkz⟩ : ∃ kz, kz = layK d.size (fun _ => true) 0 d.kept d.pend := ⟨_, rfl⟩
      have hc5 : Calm { d with kept := layK d.size (fun _ => true) 0 d.kept d.pend, pend := [] } l2 0 kz := ⟨hcm.off, hcm.armed, hcm.size, hkz.symm, by simp, by simp⟩
      have hkl : kz.length = 512 := by
        have e1 := hm5.2.1.len
        have e2 := hc5.kept
        have e3 := hc5.size
        rw [e2, e3] at e1
        exact e1
      have hw5 : ({ d with kept := layK d.size (fun _ => true) 0 d.kept d.pend, pend := [] } : Dk).writes ≤ (l1.length : Int) := hwr
      generalize ({ d with kept := layK d.size (fun _ => true) 0 d.kept d.pend, pend := [] } : Dk) = d5 at hm5 hc5 hw5
      clear hkz HSY hcm hwr hm
      go_wp2_with fail
      refine hm5.bytes.mono ?_
      rintro e w6 ⟨v6, rfl, hu6, hr6⟩
      rw [hc5.kept] at hr6
      obtain ⟨A6, c6, rfl, _⟩ := hr6.shape
      have hm6 := hm5.non hu6
      obtain ⟨N, hN⟩ : ∃ N : Nat → Prop, N = New w5 w6 := ⟨_, rfl⟩
      have hlt5 := hm5.lt
      have hNp : ∀ q, N q → q ≠ p ∧ q ≠ g := fun q hq => by rw [hN] at hq; have := hq.1; omega
      have hNf : Fin w6 N := fun q hq => by rw [hN] at hq; exact hq.2
      have hNF : ∀ q, F q → ¬ N q := fun q hq h => by rw [hN] at h; have := h.1; have := hm5.1.1.sep.2.2.2.1 q hq; omega
      rw [← hN] at hr6
      clear hN
      go_wp2_with fail
      go_loopw [11] (fun i wr => ∃ (k : Nat) (F : Nat → Prop) (d : Dk), k ≤ l2.length ∧ i = .int .i64 k ∧ Mine w wr F p g 8 d ∧ Calm d l2 k kz ∧ d.writes ≤ l1.length + k ∧ Rd byteE wr N (.slice A6 kz.length c6) kz ∧ Fin wr N ∧ ∀ q, F q → ¬ N q) (fun i _ => l2.length - (intOf i).toNat)
      case atStart => exact ⟨0, F, d5, Nat.zero_le _, rfl, hm6, hc5, by omega, hr6, hNf, hNF⟩
      case round =>
        clear hm5 hm6 hc5 hw5 hr6 hNf hNF
        obtain ⟨k, F, d, hk, rfl, hm, hcm, hwr, hr6, hNf, hNF⟩ := hrel
        by_cases hlt : k < l2.length
        · have huw := hm.2.2.2.2
          have h1w := h2.upd huw (Upd.fr_non (Fin.old w))
          obtain ⟨b, o, c', Ab, cb, Ak, ck, e1, _, hf, hrb, hrk, hb1, hb2, _, m0, m1, m2, m3, m4, m5⟩ := h1w.dact hlt
          cases e1
          obtain ⟨a, ha⟩ : ∃ a, l2[k] = a := ⟨_, rfl⟩
          have hget : l2[k]? = some a := by rw [List.getElem?_eq_getElem hlt, ha]
          rw [ha] at hrb hrk hb1 hb2 m0 m1 m2 m3 m4 m5
          have HG := Lib.hid hget
          clear ha hget
          have hold : Fin wr (Old w) := (Fin.old w).upd huw
          have hbw := World.block_lt_of_cell? wr _ m0
          have hlt4 := hm.lt
          have hpl := hcm.pl
          have hge := hm.2.2.1
          go_wp2_with fail
          go_region_law (first
            | (go_simp; go_at_call 41; refine (data_spec wr.drew (Old w) a Ab Ak cb ck 64 hrb.drew (by exact hold) (by decide)).mono ?_; rintro e w5 ⟨hu5, v5, rfl, hr5⟩; obtain ⟨A5, c5, rfl, _⟩ := hr5.shape; have m1' := (hu5.cell (p := ⟨b, o + k * 6 + 1, none⟩) (by exact hbw) id).trans (show wr.drew.cell? _ = _ from m1); have hm5 := (hm.non ((Upd.refl Non wr).drew)).non hu5)
            | (go_simp; go_at_call 28; refine (hm5.write (x := a.sector) hr5 (fun q hq => ⟨by rcases hq with hq | hq; exact Nat.lt_of_lt_of_le (hold q hq) hu5.size; exact hq.2, fun e => by have e : q = p := e; rcases hq with hq | hq; (have hq : q < w.heap.size := hq; omega); (have := hq.1; have : wr.drew.heap.size = wr.heap.size := rfl; omega)⟩) (by omega) (by omega) (dataL_len a hb1)).mono ?_; rintro e w6 ⟨rfl, hm6, hu6⟩))
          all_goals
            have hcw := hcm.write (n := 8) HG.out
            have hr56 := ((hr6.drew.upd hu5 (Upd.fr_non (by exact hNf))).upd hu6 (fun q hq => ⟨Nat.lt_of_lt_of_le (hNf q hq) hu5.size, fun h => by
              rcases h with h | h | h
              · exact (hNp q hq).1 h
              · exact (hNp q hq).2 h
              · exact hNF q h hq⟩))
            have hN5 : Fin w5 N := fun q hq => Nat.lt_of_lt_of_le (hNf q hq) hu5.size
            go_wp2
            go_roundw
            case rel => exact ⟨k + 1, _, _, by omega, by go_num, hm6, hcw.1, by have := hcw.2; omega, hr56, hN5.upd hu6, fun q hq h => hq.elim (fun hf => hNF q hf h) fun hn => by have := hn.1; have := hN5 q h; omega⟩
            case measure => simp [intOf]; omega
        · obtain rfl : k = l2.length := by omega
          have hkr := h3.upd hm.2.2.2.2 (Upd.fr_non (Fin.old w))
          have hge := hm.2.2.2.1
          go_wp2_with fail
          refine (hm.cut hkr (fun q hq => ⟨Nat.lt_of_lt_of_le hq hm.2.2.2.2.size, fun e => by have e : q = g := e; have : q < w.heap.size := hq; omega⟩)).mono ?_
          rintro e w7 ⟨rfl, hm7, hu7⟩
          have hr7 := hr6.upd hu7 (fun q hq => ⟨hNf q hq, fun h => h.elim (hNp q hq).1 (hNp q hq).2⟩)
          have hN7 := hNf.upd hu7
          go_wp2_with fail
          refine hm7.on.mono ?_
          rintro e w8 ⟨rfl, hm8, hu8⟩
          have hr8 := hr7.upd hu8 (fun q hq => ⟨hN7 q hq, (hNp q hq).1⟩)
          have hN8 := hN7.upd hu8
          obtain ⟨dz, hdz⟩ : ∃ dz, dz = ({ cutD d keep with off := false } : Dk) := ⟨_, rfl⟩
          have hX := outlast_reads (kz := kz) hcm hm.2.1 hkl keep dz hdz
          have hpend : dz.pend.length = 0 := by rw [hdz]; rfl
          rw [← hdz] at hm8
          obtain ⟨b6, o6, cc6, e6, hcc6, _⟩ := hr8.byte (k := 0) (by omega)
          cases e6
          clear hdz hm hcm hwr hr6 hm7 hr7 hkr
          go_wp2_with fail
          go_loopw [12, 13, 14, 15, 16] (fun i _ _ _ _ wr => ∃ (k : Nat), k ≤ 8 ∧ i = .int .i64 k ∧ Mine w wr F p g 8 dz ∧ Rd byteE wr N (.slice (some ⟨b6, o6, none⟩) kz.length c6) kz ∧ Fin wr N) (fun i _ _ _ _ _ => 8 - (intOf i).toNat)
          case atStart => exact ⟨0, by omega, rfl, hm8, hr8, hN8⟩
          case round =>
            clear hm8 hr8 hN8
            obtain ⟨k, hk, rfl, hm8, hr8, hN8⟩ := hrel
            by_cases hlt : k < 8
            · obtain ⟨hrd, hsl, hcase⟩ := hX k hlt
              have HR := Lib.hid hrd
              have HC := Lib.hid hcase
              clear hrd hcase
              generalize hXk : sec 64 dz.kept k = X at HR HC hsl
              clear hXk
              go_wp2_with fail
              refine (hm8.read k).mono ?_
              rintro e w9 ⟨hu9, v9, rfl, hr9⟩
              rw [HR.out] at hr9 ⊢
              obtain ⟨A9, c9, rfl, _⟩ := hr9.shape
              have hm9 := hm8.non hu9
              have hr89 := hr8.upd hu9 (Upd.fr_non hN8)
              have hN9 := hN8.upd hu9
              have s1 : ∀ n, (convert 44 9 (.slice A9 64 c9)).run Try.prog (w9.drewN n) = .ok (.string (str X)) (w9.drewN n) := fun n => by
                have := conv44' (hr9.drewN n)
                rwa [hsl] at this
              obtain ⟨lo, hlo⟩ : ∃ lo, k * 64 = lo := ⟨_, rfl⟩
              obtain ⟨hi, hhi⟩ : ∃ hi, (k + 1) * 64 = hi := ⟨_, rfl⟩
              obtain ⟨SB, Sc, hsop, hsr⟩ := slice_of Try.underlying44 info5s hr89 lo hi (by omega) (by omega)
              rw [show hi - lo = 64 by omega, hkl] at hsop
              have hsec : (kz.take hi).drop lo = sec 64 kz k := by rw [List.drop_take, sec, hlo, show hi - lo = 64 by omega]
              rw [show hi - lo = 64 by omega, hsec] at hsr
              have hlo' : (k : Int) * 64 = (lo : Int) := by omega
              have hhi' : ((k : Int) + 1) * 64 = (hi : Int) := by omega
              have s2 := fun n => conv44' (hsr.drewN n)
              obtain ⟨q, hq⟩ : ∃ q, ((str X).toList == (str (sec 64 kz k)).toList) = q := ⟨_, rfl⟩
              have hqs : q = true ↔ X = sec 64 kz k := by rw [← hq, str_eq]; simp
              have HQ := Lib.hid hqs
              clear hqs hsec
              generalize sec 64 kz k = Y at s2 hq HC HQ hsr
              go_wp2_with fail
              go_quiet (fail)
              go_wp2_with fail
              have hor : q = true ∨ ∃ i, ∃ a, 0 ≤ i ∧ i < l2.length ∧ l2[i]? = some a ∧ a.sector = (k : Int) ∧ dataL a 64 = X := by
                rcases HC.out with h | ⟨i, a, h1, h2, h3, h4⟩
                · exact .inl (HQ.out.2 h)
                · exact .inr ⟨i, a, Nat.zero_le _, h1, h2, h3, h4⟩
              have HOR := Lib.hid hor
              have hm10 := hm9.non ((Upd.refl Non w9).drewN nq)
              have hr10 := hr89.drewN nq
              have hx10 := hr9.drewN nq
              have hN10 : Fin (w9.drewN nq) N := hN9
              have hM10 : Fin (w9.drewN nq) (New wr w9) := fun q hq => hq.2
              generalize w9.drewN nq = W10 at hm10 hr10 hx10 hN10 hM10 ⊢
              generalize New wr w9 = M at hx10 hM10
              clear hor hq s1 s2 hsop hsr hr9 hr89 hm9 hN9 hm8 hr8 hN8 hu9 HC HQ
              go_loopw [15, 16] (fun ov i wr => ∃ (j : Nat) (o : Bool), j ≤ l2.length ∧ i = .int .i64 j ∧ ov = .bool o ∧ Hid (o = true ∨ ∃ i, ∃ a, j ≤ i ∧ i < l2.length ∧ l2[i]? = some a ∧ a.sector = (k : Int) ∧ dataL a 64 = X) ∧ Mine w wr F p g 8 dz ∧ Rd byteE wr N (.slice (some ⟨b6, o6, none⟩) kz.length c6) kz ∧ Fin wr N ∧ Rd byteE wr M (.slice A9 X.length c9) X ∧ Fin wr M) (fun _ i _ => l2.length - (intOf i).toNat)
              case atStart => exact ⟨0, q, Nat.zero_le _, rfl, rfl, HOR, hm10, by first | exact hr10 | (rw [hkl]; rw [hkl] at hr10; exact hr10), hN10, by first | exact hx10 | (rw [hsl]; rw [hsl] at hx10; exact hx10), hM10⟩
              case round =>
                clear hm10 hr10 hx10 hN10 hM10 HOR
                obtain ⟨j, ob, hj, rfl, rfl, hor, hm10, hr10, hN10, hx10, hM10⟩ := hrel
                by_cases hjl : j < l2.length
                · have huw := hm10.2.2.2.2
                  obtain ⟨b, o, c', Ab, cb, Ak, ck, e1, _, hf, hrb, hrk, hb1, hb2, _, m0, m1, m2, m3, m4, m5⟩ := (h2.upd huw (Upd.fr_non (Fin.old w))).dact hjl
                  cases e1
                  obtain ⟨a, ha⟩ : ∃ a, l2[j] = a := ⟨_, rfl⟩
                  have hget : l2[j]? = some a := by rw [List.getElem?_eq_getElem hjl, ha]
                  rw [ha] at hrb hrk hb1 hb2 m0 m1 m2 m3 m4 m5
                  have HG := Lib.hid hget
                  clear ha hget
                  have hold : Fin wr (Old w) := (Fin.old w).upd huw
                  cases ob
                  · by_cases hsec : a.sector = (k : Int)
                    · obtain ⟨q2, hq2⟩ : ∃ q2, ((str (dataL a 64)).toList == (str X).toList) = q2 := ⟨_, rfl⟩
                      have hnx : q2 = true ∨ ∃ i, ∃ a, j + 1 ≤ i ∧ i < l2.length ∧ l2[i]? = some a ∧ a.sector = (k : Int) ∧ dataL a 64 = X := by
                        rcases hor.out with h | ⟨i, a', h1, h2, h3, h4, h5⟩
                        · cases h
                        · rcases Nat.lt_or_ge j i with h | h
                          · exact .inr ⟨i, a', by omega, h2, h3, h4, h5⟩
                          · obtain rfl : i = j := by omega
                            rw [HG.out] at h3
                            cases h3
                            exact .inl (by rw [← hq2, str_eq, h5]; simp)
                      have HNX := Lib.hid hnx
                      clear hnx hor
                      have hxx : Rd byteE wr M (.slice A9 64 c9) X := by first | exact hx10 | (rw [hsl] at hx10; exact hx10)
                      have sx0 : (convert 44 9 (.slice A9 64 c9)).run Try.prog wr.drew = .ok (.string (str X)) wr.drew := conv44' hxx.drew
                      have hbw := World.block_lt_of_cell? wr _ m0
                      rw [hsec] at m1
                      go_wp2_with fail
                      have HD41 := data_spec wr.drew (Old w) a Ab Ak cb ck 64 hrb.drew (by exact hold) (by decide)
                      rw [hsec, show ((64 : Nat) : Int) = 64 from rfl] at HD41
                      go_region_with ((go_at_call 41; (with_reducible refine HD41.mono ?_); rintro e w5 ⟨hu5, v5, rfl, hr5⟩; obtain ⟨A5, c5, rfl, _⟩ := hr5.shape; have m1' := (hu5.cell (p := ⟨b, o + j * 6 + 1, none⟩) (by exact hbw) id).trans (show wr.drew.cell? _ = _ from m1); have sx5 := conv44' (hxx.drew.upd hu5 (Upd.fr_non (by exact hM10))); have sd5 := conv44' hr5))
                      all_goals
                        go_wp2
                        go_roundw
                        case rel => exact ⟨j + 1, q2, by omega, by go_num, rfl, HNX, (hm10.non ((Upd.refl Non wr).drew)).non hu5, by first | exact hr10.drew.upd hu5 (Upd.fr_non (by exact hN10)) | (rw [hkl]; rw [hkl] at hr10; exact hr10.drew.upd hu5 (Upd.fr_non (by exact hN10))), hN10.upd ((((Upd.refl Non wr).drew)).trans hu5), by rw [hsl]; exact hxx.drew.upd hu5 (Upd.fr_non (by exact hM10)), hM10.upd ((((Upd.refl Non wr).drew)).trans hu5)⟩
                        case measure => simp [intOf]; omega
                    · have hnx : ∃ i, ∃ a, j + 1 ≤ i ∧ i < l2.length ∧ l2[i]? = some a ∧ a.sector = (k : Int) ∧ dataL a 64 = X := by
                        rcases hor.out with h | ⟨i, a', h1, h2, h3, h4, h5⟩
                        · cases h
                        · rcases Nat.lt_or_ge j i with h | h
                          · exact ⟨i, a', by omega, h2, h3, h4, h5⟩
                          · obtain rfl : i = j := by omega
                            rw [HG.out] at h3
                            cases h3
                            exact absurd h4 hsec
                      have HNX := Lib.hid hnx
                      clear hnx hor
                      go_wp2_with fail
                      go_quiet (fail)
                      go_wp2
                      go_roundw
                      case rel => exact ⟨j + 1, false, by omega, by go_num, rfl, Lib.hid (.inr HNX.out), hm10.non ((Upd.refl _ _).drewN _), by first | exact hr10.drewN _ | (rw [hkl]; rw [hkl] at hr10; exact hr10.drewN _), hN10, by first | exact hx10.drewN _ | (rw [hsl]; rw [hsl] at hx10; exact hx10.drewN _), hM10⟩
                      case measure => simp [intOf]; omega
                  · go_wp2_with fail
                    go_quiet (fail)
                    go_wp2
                    go_roundw
                    case rel => exact ⟨j + 1, true, by omega, by go_num, rfl, Lib.hid (.inl rfl), hm10.non ((Upd.refl _ _).drewN _), by first | exact hr10.drewN _ | (rw [hkl]; rw [hkl] at hr10; exact hr10.drewN _), hN10, by first | exact hx10.drewN _ | (rw [hsl]; rw [hsl] at hx10; exact hx10.drewN _), hM10⟩
                    case measure => simp [intOf]; omega
                · have hob : ob = true := by
                    rcases hor.out with h | ⟨i, a, h1, h2, _⟩
                    · exact h
                    · omega
                  subst hob
                  go_wp2
                  go_roundw
                  case rel => exact ⟨k + 1, by omega, by go_num, hm10, by first | exact hr10 | (rw [hkl]; rw [hkl] at hr10; exact hr10), hN10⟩
                  case measure => simp [intOf]; omega
            · go_wp2_with fail
              refine hm8.pends.mono ?_
              rintro e w9 ⟨rfl, rfl⟩
              rw [hpend]
              go_wp2
              go_ret
              exact ⟨rfl, hm8.2.2.2.2.below⟩
set_option maxRecDepth 100000 in
theorem diskOutlasts_lifted (os : Os) (started : os.Started) (H : Type) (enc : TypeId × Value → H) :
    ReturnsInHanded {} Try.checked os 9 .any (Rows.diskOutlastsSpec.pre6 enc Try.prog Try.f9 Rows.diskOutlastsRow.domain false) (Rows.diskOutlastsSpec.post enc Try.prog Try.f9 false true false false) := by
  refine returnsInHanded_of_change_sized (C := Try.checked) own started (by kernel_rfl) Try.func9
    (ChangeSpec.witness6 (enc := enc) (C := Try.checked) false ⟨#[], #[.slice none 0 0, .slice none 0 0, .slice none 0 0], []⟩ 8 (by kernel_rfl) (by kernel_rfl) (by kernel_rfl) (by kernel_rfl)) ?_
  intro W base args ds gs before hval0 hW hcnd hsz0 _
  have hval : ∀ (j : Nat) t v, Try.f9.params[j]? = some t → args[j]? = some v → Value.okWide Try.prog W .any base t v := hval0
  have hW' := hW
  obtain ⟨p, q, hA0, hV, rfl, hfz, hnd⟩ := hW
  have hA : DataW.TrodAll enc Try.prog W 0 (fun _ => true) true Try.f9.params.toList args.toList ds p := hA0
  have hsz : (DataW.weightsEach Try.prog (Try.f9.params.toList ++ Rows.diskOutlastsSpec.plain.varTypes Try.prog) (ds ++ gs)).all (· ≤ reachBytes) = true := hsz0
  rw [Try.params9] at hA hval hsz
  obtain ⟨v0, vs0, d0, ds0, p0, q0, hargs, rfl, rfl, h0, r0⟩ := trodAll_cons hA
  obtain ⟨v1, vs1, d1, ds1, p1, q1, rfl, rfl, rfl, h1, r1⟩ := trodAll_cons r0
  obtain ⟨v2, vs2, d2, ds2, p2, q2, rfl, rfl, rfl, h2, r2⟩ := trodAll_cons r1
  obtain ⟨rfl, rfl, rfl⟩ := trodAll_nil r2
  obtain rfl : args = #[v0, v1, v2] := by cases args; simp_all
  obtain ⟨rfl, rfl⟩ := trodVars_none hV
  obtain ⟨a0, len0, cap0, rfl⟩ := okWide_slice Try.underlying71 (hval 0 71 v0 rfl rfl)
  have lt0 : ∀ x ∈ p0, x.block < W.heap.size := by obtain ⟨m, hm⟩ := h0; exact DataW.trod_lt m _ _ _ hm
  obtain ⟨x0, hx0, lx0⟩ := open_arg opens_dact Try.underlying71 (by kernel_rfl) rfl h0 (weights_of hsz (j := 0) rfl rfl)
  rw [show Try.prog.bytesOf 74 = 80 from by kernel_rfl] at lx0
  simp only [reachBytes] at lx0
  obtain ⟨a1, len1, cap1, rfl⟩ := okWide_slice Try.underlying71 (hval 1 71 v1 rfl rfl)
  have lt1 : ∀ x ∈ p1, x.block < W.heap.size := by obtain ⟨m, hm⟩ := h1; exact DataW.trod_lt m _ _ _ hm
  obtain ⟨x1, hx1, lx1⟩ := open_arg opens_dact Try.underlying71 (by kernel_rfl) rfl h1 (weights_of hsz (j := 1) rfl rfl)
  rw [show Try.prog.bytesOf 74 = 80 from by kernel_rfl] at lx1
  simp only [reachBytes] at lx1
  obtain ⟨a2, len2, cap2, rfl⟩ := okWide_slice Try.underlying49 (hval 2 49 v2 rfl rfl)
  have lt2 : ∀ x ∈ p2, x.block < W.heap.size := by obtain ⟨m, hm⟩ := h2; exact DataW.trod_lt m _ _ _ hm
  obtain ⟨x2, hx2, lx2⟩ := open_arg (opens_bool Try.underlying4) Try.underlying49 (by kernel_rfl) rfl h2 (weights_of hsz (j := 2) rfl rfl)
  rw [show Try.prog.bytesOf 4 = 1 from by kernel_rfl] at lx2
  simp only [reachBytes] at lx2
  clear hA0 hval0
  refine (outlasts_walk W _ _ _ x0 x1 x2 hx0 hx1 hx2 (by omega) (by omega) (by omega)).mono fun e W' ⟨he, bel⟩ => ?_
  subst he
  exact ⟨_, rfl, _, _, _, [], _, [], hW', trodAll_mk1 (shut_bool Try.underlying4 _), (trodAll_cons_mk (Below.trod laidOut (by kernel_rfl) (of_decide_eq_true (by kernel_rfl)) h0 bel lt0) (trodAll_cons_mk (Below.trod laidOut (by kernel_rfl) (of_decide_eq_true (by kernel_rfl)) h1 bel lt1) (trodAll_cons_mk (Below.trod laidOut (by kernel_rfl) (of_decide_eq_true (by kernel_rfl)) h2 bel lt2) trodAll_mk0))), rfl, bel.frame _, fun h => by cases h⟩

theorem diskOutlasts_over : Rows.diskOutlastsRow.holds Try.pinned (OpenSpec.ofChange Rows.diskOutlastsSpec) :=
  OpenClaim.holds_of_wide 9 Try.f9 rfl rfl rfl rfl rfl rfl rfl ⟨rfl, rfl, rfl, rfl, rfl⟩ rfl rfl rfl rfl rfl (by kernel_rfl) Try.func9 (by kernel_rfl)
    (of_decide_eq_true (by kernel_rfl)) (by unfold Func.isWrapper; first | (rw [if_pos (by decide +kernel)]; kernel_rfl) | (rw [if_neg (by decide +kernel)]; exact ⟨rfl, rfl⟩))
    (fun os started H enc _ => diskOutlasts_lifted os started H enc)

theorem diskOutlasts_holds : Rows.DiskOutlastsSaid := diskOutlasts_over
#print axioms diskOutlasts_holds

end Go.Proofs.Ytniccejlmbfpdaa
