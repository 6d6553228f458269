/-
  DiskAll.
-/
import Derived.Test.YtniccejlmbfpdaaD8
import Derived.Test.YtniccejlmbfpdaaLaw
namespace Go.Proofs.Ytniccejlmbfpdaa
open Go.ChangeShapes Go.WideShapes Go.ChangeAt Go.RowKit
attribute [local go_sem] max2_int min2_int max_two min_two

/-! ### what lies in a sector -/
def sec (s : Nat) (kept : List UInt8) (i : Nat) : List UInt8 := (kept.drop (i * s)).take s
theorem sec_lay1 (s n : Nat) (kept b : List UInt8) (j i : Nat) (hl : kept.length = n * s) (hj : j < n) (hb : b.length = s) (_hi : i < n) : sec s (lay1 s kept (j, b)) i = if j = i then b else sec s kept i := by
  have h1 := Nat.mul_le_mul_right s (show j + 1 ≤ n from hj)
  rw [Nat.add_mul, Nat.one_mul] at h1
  have hget : ∀ a, (lay1 s kept (j, b))[a]? = if a < j * s then kept[a]? else if a < j * s + s then b[a - j * s]? else kept[a]? := by
    intro a
    have e : lay1 s kept (j, b) = kept.take (j * s) ++ (b ++ kept.drop (j * s + s)) := by simp [lay1, hb]
    have ht : (kept.take (j * s)).length = j * s := by rw [List.length_take]; omega
    rw [e]
    by_cases h2 : a < j * s
    · rw [if_pos h2, List.getElem?_append_left (by omega), List.getElem?_take, if_pos h2]
    · rw [if_neg h2, List.getElem?_append_right (by omega), ht]
      by_cases h3 : a < j * s + s
      · rw [if_pos h3, List.getElem?_append_left (by omega)]
      · rw [if_neg h3, List.getElem?_append_right (by omega), List.getElem?_drop]
        congr 1
        omega
  apply List.ext_getElem?
  intro t
  by_cases ht : t < s
  · have e : (sec s (lay1 s kept (j, b)) i)[t]? = (lay1 s kept (j, b))[i * s + t]? := by rw [sec, List.getElem?_take, if_pos ht, List.getElem?_drop]
    rw [e, hget]
    by_cases hji : j = i
    · subst hji
      rw [if_pos rfl, if_neg (by omega), if_pos (by omega)]
      congr 1
      omega
    · have e2 : (sec s kept i)[t]? = kept[i * s + t]? := by rw [sec, List.getElem?_take, if_pos ht, List.getElem?_drop]
      rw [if_neg hji, e2]
      rcases Nat.lt_or_ge i j with h | h
      · have := Nat.mul_le_mul_right s (show i + 1 ≤ j from h)
        rw [Nat.add_mul, Nat.one_mul] at this
        rw [if_pos (by omega)]
      · have := Nat.mul_le_mul_right s (show j + 1 ≤ i by omega)
        rw [Nat.add_mul, Nat.one_mul] at this
        rw [if_neg (by omega), if_neg (by omega)]
  · have e : (sec s (lay1 s kept (j, b)) i)[t]? = none := by rw [sec, List.getElem?_take, if_neg ht]
    rw [e]
    split
    · rw [List.getElem?_eq_none (by omega)]
    · rw [sec, List.getElem?_take, if_neg ht]

/-- writes of unlike sectors, the k-th of the k-th -/
theorem sec_layK (s n : Nat) (keeps : Nat → Bool) : ∀ (l : List Ent) (m : Nat) (kept : List UInt8) (i : Nat), kept.length = n * s → m + l.length ≤ n → (∀ j (hj : j < l.length), l[j].1 = ((m + j : Nat) : Int) ∧ l[j].2.length = s) → i < n →
    sec s (layK s keeps m kept l) i = if m ≤ i ∧ keeps i = true then ((l[i - m]?).map (·.2)).getD (sec s kept i) else sec s kept i
  | [], m, kept, i, hl, hm, hx, hi => by simp [layK]
  | x :: xs, m, kept, i, hl, hm, hx, hi => by
    have h0 := hx 0 (by simp)
    simp only [List.getElem_cons_zero, Nat.add_zero] at h0
    obtain ⟨a, b⟩ := x
    obtain ⟨rfl, hb⟩ := h0
    have hb : b.length = s := hb
    have hn : m < n := by simp at hm; omega
    have ih := sec_layK s n keeps xs (m + 1) (if keeps m = true then lay1 s kept ((m : Int), b) else kept) i (by split; exact lay1_len s n kept _ hl ⟨m, rfl, hn⟩ hb; exact hl) (by simp at hm; omega) (fun j hj => by
      have := hx (j + 1) (by simp; omega)
      simp only [List.getElem_cons_succ] at this
      rw [show m + 1 + j = m + (j + 1) by omega]
      exact this) hi
    have hs0 : sec s (if keeps m = true then lay1 s kept ((m : Int), b) else kept) i = if m = i ∧ keeps m = true then b else sec s kept i := by
      by_cases hk : keeps m = true
      · rw [if_pos hk, sec_lay1 s n kept b m i hl hn hb hi]; simp [hk]
      · rw [if_neg hk]; simp [hk]
    show sec s (layK s keeps (m + 1) _ xs) i = _
    rw [ih, hs0]
    rcases Nat.lt_trichotomy i m with h | h | h
    · rw [if_neg (by omega), if_neg (by omega), if_neg (by omega)]
    · subst h
      rw [if_neg (by omega)]
      by_cases hk : keeps i = true <;> simp [hk]
    · rw [if_neg (show ¬ (m = i ∧ keeps m = true) by omega), show i - m = (i - (m + 1)) + 1 by omega]
      by_cases hk : keeps i = true
      · rw [if_pos ⟨by omega, hk⟩, if_pos ⟨by omega, hk⟩]; rfl
      · rw [if_neg (by simp [hk]), if_neg (by simp [hk])]

def fillRow (f : UInt8) : List UInt8 := (k0.set 0 f).set 1 1
theorem fillRow_len (f : UInt8) : (fillRow f).length = 64 := by rw [fillRow, List.length_set, List.length_set]; decide
def allK : List UInt8 := List.replicate (31 * 64) 0
def allP (fills : List UInt8) (k : Nat) : List Ent := (fills.take k).zipIdx.map fun x => ((x.2 : Int), fillRow x.1)
/-- after k writes -/
def allD (fills : List UInt8) (k : Nat) : Dk := { off := false, armed := 0, keep := [], size := 64, kept := allK, pend := allP fills k, writes := k }
theorem allP_len (fills : List UInt8) (k : Nat) (hk : k ≤ fills.length) : (allP fills k).length = k := by simp [allP]; omega
theorem allP_get (fills : List UInt8) (k j : Nat) (hk : k ≤ fills.length) (hj : j < k) : (allP fills k)[j]? = some ((j : Int), fillRow fills[j]) := by
  simp [allP, hj, show j < fills.length by omega]
theorem allD_zero (fills : List UInt8) : allD fills 0 = newD 31 64 := rfl
theorem allD_next (fills : List UInt8) (k : Nat) (h : k < fills.length) (h30 : k < 31) : writeD 31 (allD fills k) k (fillRow fills[k]) = (0, allD fills (k + 1)) := by
  have hc : check 31 (allD fills k) k ((fillRow fills[k]).length == (allD fills k).size) = 0 := by
    have : ((fillRow fills[k]).length == (allD fills k).size) = true := by rw [fillRow_len]; rfl
    rw [this, check, if_neg (by simp [allD]), if_neg (by simp; omega)]
  rw [writeD, if_pos hc, if_neg (by simp [allD])]
  have hp : allP fills k ++ [((k : Int), fillRow fills[k])] = allP fills (k + 1) := by
    rw [allP, allP, List.take_succ_eq_append_getElem h, List.zipIdx_append, List.map_append]
    simp [show min k fills.length = k by omega]
  simp only [allD, Prod.mk.injEq, Dk.mk.injEq, true_and]
  exact ⟨by decide, hp, by omega⟩
theorem allK_sec (i : Nat) (hi : i < 31) : sec 64 allK i = k0 := by
  have := Nat.mul_le_mul_right 64 (show i + 1 ≤ 31 by omega)
  rw [sec, allK, List.drop_replicate, List.take_replicate, k0]
  congr 1
  omega
/-- what a read behind the cut gives -/
theorem allD_read (fills : List UInt8) (keep : List Bool) (h : fills.length ≤ 30) (i : Nat) (hi : i < fills.length) :
    readD 31 { cutD (allD fills fills.length) keep with off := false } i = (0, if keepB keep i = true then fillRow fills[i] else k0) := by
  have hc : check 31 { cutD (allD fills fills.length) keep with off := false } i true = 0 := by
    rw [check, if_neg (by simp), if_neg (by simp; omega)]
  have hs := sec_layK 64 31 (keepB keep) (allP fills fills.length) 0 allK i (by rw [allK, List.length_replicate]) (by rw [allP_len _ _ (Nat.le_refl _)]; omega) (fun j hj => by
    rw [allP_len _ _ (Nat.le_refl _)] at hj
    have := allP_get fills fills.length j (Nat.le_refl _) hj
    rw [List.getElem?_eq_getElem (by rw [allP_len _ _ (Nat.le_refl _)]; exact hj)] at this
    rw [Option.some.inj this]
    exact ⟨by simp, fillRow_len _⟩) (by omega)
  rw [readD, if_pos hc]
  congr 1
  show (List.take 64 (List.drop (((i : Int)).toNat * 64) (layK 64 (keepB keep) 0 allK (allP fills fills.length)))) = _
  rw [Int.toNat_natCast]
  show sec 64 _ i = _
  rw [hs, Nat.sub_zero, allP_get fills fills.length i (Nat.le_refl _) hi, allK_sec i (by omega)]
  by_cases hk : keepB keep i = true <;> simp [hk]

theorem fillRow_get (f : UInt8) : (fillRow f)[0]? = some f ∧ (fillRow f)[1]? = some 1 := by simp [fillRow, k0]
theorem k0_get : k0[0]? = some 0 ∧ k0[1]? = some 0 := by decide
theorem byte_at {w : World} {F : Nat → Prop} {b o n c : Nat} {l : List UInt8} (h : Rd byteE w F (.slice (some ⟨b, o, none⟩) n c) l) {i : Nat} {x : UInt8} (hx : l[i]? = some x) : w.cell? ⟨b, o + i, none⟩ = some (bv x) := by
  obtain ⟨hi, rfl⟩ := List.getElem?_eq_some_iff.1 hx
  obtain ⟨b', o', c', e, _, _, hc⟩ := h.byte hi
  cases e
  exact hc
set_option maxRecDepth 100000 in
set_option maxHeartbeats 1000000 in
theorem dall_walk (w : World) (v u : Value) (fills : List UInt8) (keep : List Bool) (hf : Rd byteE w (Old w) v fills) (hk : Rd boolE w (Old w) u keep) (hfl : fills.length ≤ 140737488355328) (hkl : keep.length ≤ 140737488355328) :
    Calls Try.prog 5 #[v, u] w fun e w' => e = .returned (.bool true) ∧ Below w.heap.size w w' := by
  obtain ⟨A, c, rfl, hc, _⟩ := hf.shape
  obtain ⟨Ak, ck, rfl, hck, _⟩ := hk.shape
  by_cases hbig : fills.length ≤ 30 ∧ keep.length ≤ 100
  · obtain ⟨h30, h100⟩ := hbig
    obtain ⟨z, hz⟩ : ∃ z, z = k0 := ⟨_, rfl⟩
    have hzl : z.length = 64 := by rw [hz]; rfl
    have hmk : ∀ w, (Instr.makeSlice 44 (.int .i64 64) (.int .i64 64)).run Try.prog w = .ok (.slice (some ⟨w.heap.size, 0, none⟩) 64 64) (w.alloc (.cells (z.map bv).toArray 5)) := fun w => by rw [hz]; exact make_bytes w 64 (by omega)
    have hmc : ∀ w : World, (w.alloc (.cells (z.map bv).toArray 5)).cell? ⟨w.heap.size, 0, none⟩ = some (.int .u8 0) := fun w => by rw [row_cell (heap_alloc_new w _) (by omega)]; simp [hz, bv, k0]
    have hmf : ∀ w : World, (w.alloc (.cells (z.map bv).toArray 5)).frozen? ⟨w.heap.size, 0, none⟩ = false := fun w => blk_free (heap_alloc_new w _) 0
    have hnc : ∀ (w : World) (f : UInt8), (w.alloc (.cells ((z.map bv).set 0 (.int .u8 (f.toNat : Int))).toArray 5)).cell? ⟨w.heap.size, 1, none⟩ = some (.int .u8 0) := fun w f => by
      have h := blk_at (heap_alloc_new w (.cells ((z.map bv).set 0 (.int .u8 (f.toNat : Int))).toArray 5)) 1
      rw [h]; simp [hz, bv, k0]
    have hnf : ∀ (w : World) (f : UInt8), (w.alloc (.cells ((z.map bv).set 0 (.int .u8 (f.toNat : Int))).toArray 5)).frozen? ⟨w.heap.size, 1, none⟩ = false := fun w f => blk_free (heap_alloc_new w _) 1
    have HZ := Lib.hid hz
    clear hz
    go_enter Try.func5, Try.ntmps5
    go_wp2_with fail
    refine (dknown_spec w).mono ?_
    rintro e w1 ⟨rfl, hu1⟩
    go_wp2_with fail
    refine (newOf w w1 hu1 31 64 (by omega) (by omega) (by omega) (by omega)).mono ?_
    rintro e w2 ⟨p, g, rfl, hu2, hm2⟩
    go_wp2_with fail
    go_loopw [7, 8] (fun i _ wr => ∃ (k : Nat) (F : Nat → Prop), k ≤ fills.length ∧ i = .int .i64 k ∧ Mine w wr F p g 31 (allD fills k)) (fun i _ _ => fills.length - (intOf i).toNat)
    case atStart => exact ⟨0, Non, Nat.zero_le _, rfl, hm2⟩
    case round =>
      obtain ⟨k, F, hk', rfl, hm⟩ := hrel
      by_cases hlt : k < fills.length
      · have hfr := hf.upd hm.2.2.2.2 (Upd.fr_non (Fin.old w))
        obtain ⟨b, o, c', e1, _, _, hb⟩ := hfr.byte hlt
        cases e1
        have hb' : wr.cell? ⟨b, o + k, none⟩ = some (.int .u8 (fills[k].toNat : Int)) := hb
        have hb2 := fun x => (((Upd.refl Non wr).alloc x).cell (p := ⟨b, o + k, none⟩) (World.block_lt_of_cell? wr _ hb) id).trans hb'
        have hrow : ((((z.map bv).set 0 (.int .u8 (fills[k].toNat : Int))).set 1 (.int .u8 1)).toArray) = ((fillRow fills[k]).map bv).toArray := by rw [HZ.out, fillRow, List.map_set, List.map_set]; rfl
        have hup := (Upd.refl Non wr).alloc (.cells ((fillRow fills[k]).map bv).toArray 5)
        have hblk := heap_alloc_new wr (.cells ((fillRow fills[k]).map bv).toArray 5)
        have hnx := allD_next fills k hlt (by omega)
        have HNX := Lib.hid hnx
        clear hnx
        have hpl := allP_len fills k hk'
        have hlt' := hm.lt
        go_wp2_with fail
        generalize wr.alloc (.cells ((fillRow fills[k]).map bv).toArray 5) = W3 at hup hblk ⊢
        have hrd := rd_row hblk (by rw [fillRow_len]; decide)
        rw [fillRow_len] at hrd
        refine ((hm.non hup).write (x := k) hrd (fun q hq => by have hq : q = wr.heap.size := hq; exact ⟨by rw [hq]; exact blk_lt hblk, fun e => by have e : q = p := e; omega⟩) (by show (allP fills k).length < _; omega) (by show (k : Int) < _; omega) (by rw [fillRow_len]; decide)).mono ?_
        rintro e w5 ⟨rfl, hm5, _⟩
        rw [HNX.out] at hm5 ⊢
        go_wp2
        go_roundw
        case rel => exact ⟨k + 1, _, by omega, by go_num, hm5⟩
        case measure => simp [intOf]; omega
      · obtain rfl : k = fills.length := by omega
        have hkr := hk.upd hm.2.2.2.2 (Upd.fr_non (Fin.old w))
        have hge := hm.2.2.2.1
        go_wp2_with fail
        refine (hm.cut hkr (fun q hq => ⟨Nat.lt_of_lt_of_le hq hm.2.2.2.2.size, fun e => by have e : q = g := e; have : q < w.heap.size := hq; omega⟩)).mono ?_
        rintro e w6 ⟨rfl, hm6, _⟩
        go_wp2_with fail
        refine hm6.on.mono ?_
        rintro e w7 ⟨rfl, hm7, _⟩
        obtain ⟨dz, hdz⟩ : ∃ dz, dz = ({ cutD (allD fills fills.length) keep with off := false } : Dk) := ⟨_, rfl⟩
        have hrd : ∀ i (hi : i < fills.length), readD 31 dz i = (0, if keepB keep i = true then fillRow fills[i] else k0) := fun i hi => by rw [hdz]; exact allD_read fills keep h30 i hi
        have hwr : dz.writes = fills.length := by rw [hdz]; rfl
        rw [← hdz] at hm7
        clear hdz
        go_wp2_with fail
        go_loopw [9, 10, 11, 12] (fun i _ _ _ wr => ∃ (k : Nat), k ≤ fills.length ∧ i = .int .i64 k ∧ Mine w wr F p g 31 dz) (fun i _ _ _ _ => fills.length - (intOf i).toNat)
        case atStart => exact ⟨0, Nat.zero_le _, rfl, hm7⟩
        case round =>
          clear hm7
          obtain ⟨k, hk', rfl, hm7⟩ := hrel
          by_cases hlt : k < fills.length
          · have hr := hrd k hlt
            have HR := Lib.hid hr
            clear hr
            go_wp2_with fail
            refine (hm7.read k).mono ?_
            rintro e w8 ⟨hu8, v8, rfl, hr8⟩
            rw [HR.out] at hr8 ⊢
            have hm8 := hm7.non hu8
            obtain ⟨b, o, c', e1, _, _, hb⟩ := (hf.upd hm8.2.2.2.2 (Upd.fr_non (Fin.old w))).byte hlt
            cases e1
            have hb' : w8.cell? ⟨b, o + k, none⟩ = some (.int .u8 (fills[k].toNat : Int)) := hb
            clear hb
            have hkr8 := hk.upd hm8.2.2.2.2 (Upd.fr_non (Fin.old w))
            obtain ⟨kb, hkb⟩ : ∃ kb, keepB keep k = kb := ⟨_, rfl⟩
            rw [hkb] at hr8
            have hlen8 : (if kb = true then fillRow fills[k] else k0).length = 64 := by cases kb; rfl; exact fillRow_len _
            obtain ⟨b8, o8, c8, e8, _⟩ := hr8.byte (k := 0) (by rw [hlen8]; decide)
            rw [hlen8] at e8
            subst e8
            have q0 : w8.cell? ⟨b8, o8, none⟩ = some (.int .u8 (if kb = true then (fills[k].toNat : Int) else 0)) := by
              have := byte_at hr8 (i := 0) (x := if kb = true then fills[k] else 0) (by cases kb; exact k0_get.1; exact (fillRow_get _).1)
              rw [Nat.add_zero] at this
              rw [this]; cases kb <;> rfl
            have q1 : w8.cell? ⟨b8, o8 + 1, none⟩ = some (.int .u8 (if kb = true then 1 else 0)) := by
              have := byte_at hr8 (i := 1) (x := if kb = true then 1 else 0) (by cases kb; exact k0_get.2; exact (fillRow_get _).2)
              rw [this]; cases kb <;> rfl
            by_cases hkl2 : k < keep.length
            · obtain ⟨bk, ok, ck', ek, _, _, hck8⟩ := hkr8.bool' hkl2
              cases ek
              have hkk : keep[k] = kb := by rw [← hkb]; simp [keepB, hkl2]
              rw [hkk] at hck8
              clear hkk hkb
              cases kb
              · simp only [if_neg (show ¬ (false = true) by decide)] at q0 q1
                go_wp2_with fail
                go_quiet (fail)
                go_wp2
                go_roundw
                case rel => exact ⟨k + 1, by omega, by go_num, hm8.non ((Upd.refl _ _).drewN _)⟩
                case measure => simp [intOf]; omega
              · simp only [if_true] at q0 q1
                generalize (fills[k].toNat : Int) = fv at q0 hb'
                go_wp2_with fail
                go_quiet (fail)
                go_wp2
                go_roundw
                case rel => exact ⟨k + 1, by omega, by go_num, hm8.non ((Upd.refl _ _).drewN _)⟩
                case measure => simp [intOf]; omega
            · have hkf : kb = false := by rw [← hkb]; simp [keepB, List.getElem?_eq_none (show keep.length ≤ k by omega)]
              subst hkf
              clear hkb
              simp only [if_neg (show ¬ (false = true) by decide)] at q0 q1
              go_wp2_with fail
              go_quiet (fail)
              go_wp2
              go_roundw
              case rel => exact ⟨k + 1, by omega, by go_num, hm8.non ((Upd.refl _ _).drewN _)⟩
              case measure => simp [intOf]; omega
          · go_wp2_with fail
            refine hm7.wrote.mono ?_
            rintro e w8 ⟨rfl, rfl⟩
            rw [hwr]
            go_wp2
            go_ret
            exact ⟨rfl, hm7.2.2.2.2.below⟩
  · by_cases h1 : fills.length ≤ 30
    · go_enter Try.func5, Try.ntmps5
      go_wp2_with fail
      refine (dknown_spec w).mono ?_
      rintro e w1 ⟨rfl, hu1⟩
      go_wp2
      go_ret
      exact ⟨rfl, hu1.below⟩
    · go_enter Try.func5, Try.ntmps5
      go_wp2_with fail
      refine (dknown_spec w).mono ?_
      rintro e w1 ⟨rfl, hu1⟩
      go_wp2
      go_ret
      exact ⟨rfl, hu1.below⟩
set_option maxRecDepth 100000 in
theorem diskAll_lifted (os : Os) (started : os.Started) (H : Type) (enc : TypeId × Value → H) :
    ReturnsInHanded {} Try.checked os 5 .any (Rows.diskAllSpec.pre6 enc Try.prog Try.f5 Rows.diskAllRow.domain false) (Rows.diskAllSpec.post enc Try.prog Try.f5 false true false false) := by
  refine returnsInHanded_of_change_sized (C := Try.checked) own started (by kernel_rfl) Try.func5
    (ChangeSpec.witness6 (enc := enc) (C := Try.checked) false ⟨#[], #[.slice none 0 0, .slice none 0 0], []⟩ 8 (by kernel_rfl) (by kernel_rfl) (by kernel_rfl) (by kernel_rfl)) ?_
  intro W base args ds gs before hval0 hW hcnd hsz0 _
  have hval : ∀ (j : Nat) t v, Try.f5.params[j]? = some t → args[j]? = some v → Value.okWide Try.prog W .any base t v := hval0
  have hW' := hW
  obtain ⟨p, q, hA0, hV, rfl, hfz, hnd⟩ := hW
  have hA : DataW.TrodAll enc Try.prog W 0 (fun _ => true) true Try.f5.params.toList args.toList ds p := hA0
  have hsz : (DataW.weightsEach Try.prog (Try.f5.params.toList ++ Rows.diskAllSpec.plain.varTypes Try.prog) (ds ++ gs)).all (· ≤ reachBytes) = true := hsz0
  rw [Try.params5] at hA hval hsz
  obtain ⟨v0, vs0, d0, ds0, p0, q0, hargs, rfl, rfl, h0, r0⟩ := trodAll_cons hA
  obtain ⟨v1, vs1, d1, ds1, p1, q1, rfl, rfl, rfl, h1, r1⟩ := trodAll_cons r0
  obtain ⟨rfl, rfl, rfl⟩ := trodAll_nil r1
  obtain rfl : args = #[v0, v1] := by cases args; simp_all
  obtain ⟨rfl, rfl⟩ := trodVars_none hV
  obtain ⟨a0, len0, cap0, rfl⟩ := okWide_slice Try.underlying44 (hval 0 44 v0 rfl rfl)
  have lt0 : ∀ x ∈ p0, x.block < W.heap.size := by obtain ⟨m, hm⟩ := h0; exact DataW.trod_lt m _ _ _ hm
  obtain ⟨x0, hx0, lx0⟩ := open_arg (opens_byte Try.underlying5) Try.underlying44 (by kernel_rfl) rfl h0 (weights_of hsz (j := 0) rfl rfl)
  rw [show Try.prog.bytesOf 5 = 1 from by kernel_rfl] at lx0
  simp only [reachBytes] at lx0
  obtain ⟨a1, len1, cap1, rfl⟩ := okWide_slice Try.underlying49 (hval 1 49 v1 rfl rfl)
  have lt1 : ∀ x ∈ p1, x.block < W.heap.size := by obtain ⟨m, hm⟩ := h1; exact DataW.trod_lt m _ _ _ hm
  obtain ⟨x1, hx1, lx1⟩ := open_arg (opens_bool Try.underlying4) Try.underlying49 (by kernel_rfl) rfl h1 (weights_of hsz (j := 1) rfl rfl)
  rw [show Try.prog.bytesOf 4 = 1 from by kernel_rfl] at lx1
  simp only [reachBytes] at lx1
  clear hA0 hval0
  refine (dall_walk W _ _ x0 x1 hx0 hx1 (by omega) (by omega)).mono fun e W' ⟨he, bel⟩ => ?_
  subst he
  exact ⟨_, rfl, _, _, _, [], _, [], hW', trodAll_mk1 (shut_bool Try.underlying4 _), (trodAll_cons_mk (Below.trod laidOut (by kernel_rfl) (of_decide_eq_true (by kernel_rfl)) h0 bel lt0) (trodAll_cons_mk (Below.trod laidOut (by kernel_rfl) (of_decide_eq_true (by kernel_rfl)) h1 bel lt1) trodAll_mk0)), rfl, bel.frame _, fun h => by cases h⟩

theorem diskAll_over : Rows.diskAllRow.holds Try.pinned (OpenSpec.ofChange Rows.diskAllSpec) :=
  OpenClaim.holds_of_wide 5 Try.f5 rfl rfl rfl rfl rfl rfl rfl ⟨rfl, rfl, rfl, rfl, rfl⟩ rfl rfl rfl rfl rfl (by kernel_rfl) Try.func5 (by kernel_rfl)
    (of_decide_eq_true (by kernel_rfl)) (by unfold Func.isWrapper; first | (rw [if_pos (by decide +kernel)]; kernel_rfl) | (rw [if_neg (by decide +kernel)]; exact ⟨rfl, rfl⟩))
    (fun os started H enc _ => diskAll_lifted os started H enc)

theorem diskAll_holds : Rows.DiskAllSaid := diskAll_over
#print axioms diskAll_holds

end Go.Proofs.Ytniccejlmbfpdaa
