/-
  The order of items; the walk of the law package known.
-/
import Derived.Test.YtnaldifgnpnbhaaT10
import Derived.Test.YtnaldifgnpnbhaaOpen
namespace Go.Proofs.Ytnaldifgnpnbhaa
open Go.RowKit

theorem cmpL_refl : ∀ l : List Int, cmpL l l = 0
  | [] => rfl
  | a :: l => by simp [cmpL, cmpL_refl l]
theorem cmpL_zero : ∀ (a b : List Int), cmpL a b = 0 → a = b
  | [], [], _ => rfl
  | [], _ :: _, h => by simp [cmpL] at h
  | _ :: _, [], h => by simp [cmpL] at h
  | x :: xs, y :: ys, h => by
    unfold cmpL at h
    split at h
    · omega
    · split at h
      · omega
      · rw [show x = y by omega, cmpL_zero xs ys h]
theorem cmpL_trans : ∀ (a b c : List Int), cmpL a b < 0 → cmpL b c < 0 → cmpL a c < 0
  | [], [], _, h, _ => by simp [cmpL] at h
  | [], _ :: _, [], _, h => by simp [cmpL] at h
  | [], _ :: _, _ :: _, _, _ => by simp [cmpL]
  | _ :: _, [], _, h, _ => by simp [cmpL] at h
  | _ :: _, _ :: _, [], _, h => by simp [cmpL] at h
  | x :: xs, y :: ys, z :: zs, h1, h2 => by
    unfold cmpL at h1 h2 ⊢
    by_cases xy : x < y
    · by_cases yz : y < z
      · rw [if_pos (by omega)]; omega
      · rw [if_neg yz] at h2
        by_cases zy : z < y
        · rw [if_pos zy] at h2; omega
        · rw [if_pos (by omega)]; omega
    · rw [if_neg xy] at h1
      by_cases yx : y < x
      · rw [if_pos yx] at h1; omega
      · rw [if_neg yx] at h1
        obtain rfl : x = y := by omega
        by_cases yz : x < z
        · rw [if_pos yz]; omega
        · rw [if_neg yz] at h2 ⊢
          by_cases zy : z < x
          · rw [if_pos zy] at h2; omega
          · rw [if_neg zy] at h2 ⊢
            exact cmpL_trans xs ys zs h1 h2
theorem cmpL_swap : ∀ (a b : List Int), cmpL a b = - cmpL b a
  | [], [] => rfl
  | [], _ :: _ => rfl
  | _ :: _, [] => rfl
  | x :: xs, y :: ys => by
    unfold cmpL
    by_cases xy : x < y
    · rw [if_pos xy, if_neg (by omega), if_pos xy]
    · by_cases yx : y < x
      · rw [if_neg xy, if_pos yx, if_pos yx]; rfl
      · rw [if_neg xy, if_neg yx, if_neg yx, if_neg xy]; exact cmpL_swap xs ys
theorem cmpI_refl (a : It) : cmpI a a = 0 := cmpL_refl _
theorem cmpI_zero (a b : It) (h : cmpI a b = 0) : a = b := by
  have := cmpL_zero _ _ h
  cases a; cases b
  simp [It.nums] at this
  simp [this]
theorem cmpI_trans (a b c : It) (h1 : cmpI a b < 0) (h2 : cmpI b c < 0) : cmpI a c < 0 := cmpL_trans _ _ _ h1 h2
theorem cmpI_swap (a b : It) : cmpI a b = - cmpI b a := cmpL_swap _ _

def Sorted (l : List It) : Prop := l.Pairwise fun a b => cmpI a b < 0
theorem Sorted.srt {l : List It} (h : Sorted l) (hn : l.length ≤ 1048576) (x : It) : Srt l x := ⟨h, fun a b => cmpI_trans a b x, hn⟩
theorem pos_lt {l : List It} {x : It} {j : Nat} (hj : j < pos l x) : ∃ y, l[j]? = some y ∧ cmpI y x < 0 := by
  unfold pos at hj
  induction l generalizing j with
  | nil => simp at hj
  | cons y ys ih =>
    by_cases hy : ltB y x = true
    · simp only [List.takeWhile_cons, hy, if_true, List.length_cons] at hj
      cases j with
      | zero => exact ⟨y, rfl, by simpa [ltB] using hy⟩
      | succ j => exact ih (by omega)
    · simp [hy] at hj
theorem pos_at {l : List It} {x y : It} (h : l[pos l x]? = some y) : ¬ cmpI y x < 0 := by
  unfold pos at h
  induction l with
  | nil => simp at h
  | cons z zs ih =>
    by_cases hz : ltB z x = true
    · simp only [List.takeWhile_cons, hz, if_true, List.length_cons, List.getElem?_cons_succ] at h
      exact ih h
    · simp [hz] at h
      subst h
      simpa [ltB] using hz
/-- in a row that rises an item stands at its place, or nowhere -/
theorem pos_mem {l : List It} (hs : Sorted l) (x : It) : l[pos l x]? = some x ↔ x ∈ l := by
  constructor
  · exact fun h => List.mem_of_getElem? h
  · intro h
    obtain ⟨k, hk, rfl⟩ := List.getElem_of_mem h
    have hp : pos l l[k] = k := pos_eq l _ k (by omega) (fun j hj hjk => by
      have := List.pairwise_iff_getElem.1 hs j k hj hk hjk
      simpa [ltB] using this) (fun _ => by simp [ltB, cmpI_refl])
    rw [hp, List.getElem?_eq_getElem hk]
theorem sorted_add {l : List It} (hs : Sorted l) (x : It) : Sorted (addR l x).2 := by
  unfold addR
  split
  · exact hs
  · rename_i hne
    refine List.pairwise_append.2 ⟨hs.sublist (List.take_sublist _ _), List.pairwise_cons.2 ⟨fun y hy => ?_, hs.sublist (List.drop_sublist _ _)⟩, fun a ha b hb => ?_⟩
    · obtain ⟨j, hj, rfl⟩ := List.getElem_of_mem hy
      rw [List.getElem_drop]
      have hjl : pos l x + j < l.length := by simp at hj; omega
      -- what stands at the place is greater
      have hp : pos l x < l.length := by omega
      have h0 := pos_at (List.getElem?_eq_getElem hp)
      have hgt : cmpI x l[pos l x] < 0 := by
        have hsw := cmpI_swap x l[pos l x]
        have hz : cmpI l[pos l x] x ≠ 0 := fun h => hne (by rw [List.getElem?_eq_getElem hp, cmpI_zero _ _ h])
        omega
      rcases Nat.eq_zero_or_pos j with h | h
      · subst h; exact hgt
      · exact cmpI_trans _ _ _ hgt (List.pairwise_iff_getElem.1 hs _ _ hp hjl (by omega))
    · obtain ⟨j, hj, rfl⟩ := List.getElem_of_mem ha
      rw [List.getElem_take]
      have hjp : j < pos l x := by simp at hj; omega
      obtain ⟨y, hy, hlt⟩ := pos_lt hjp
      have hjl : j < l.length := by simp at hj; omega
      rw [List.getElem?_eq_getElem hjl] at hy
      cases hy
      rcases List.mem_cons.1 hb with rfl | hb
      · exact hlt
      · obtain ⟨i, hi, rfl⟩ := List.getElem_of_mem hb
        rw [List.getElem_drop]
        exact List.pairwise_iff_getElem.1 hs _ _ hjl (by simp at hi; omega) (by omega)
theorem add_mem {l : List It} (hs : Sorted l) (x y : It) : y ∈ (addR l x).2 ↔ y = x ∨ y ∈ l := by
  unfold addR
  split
  · rename_i h
    have := (pos_mem hs x).1 h
    exact ⟨.inr, fun h => h.elim (fun e => by rw [e]; exact this) id⟩
  · have := List.take_append_drop (pos l x) l
    constructor
    · intro h
      rcases List.mem_append.1 h with h | h
      · exact .inr (List.mem_of_mem_take h)
      · rcases List.mem_cons.1 h with h | h
        · exact .inl h
        · exact .inr (List.mem_of_mem_drop h)
    · rintro (rfl | h)
      · simp
      · rw [← this] at h
        rcases List.mem_append.1 h with h | h
        · exact List.mem_append.2 (.inl h)
        · exact List.mem_append.2 (.inr (List.mem_cons_of_mem _ h))
theorem add_fst {l : List It} (hs : Sorted l) (x : It) : (addR l x).1 = !decide (x ∈ l) := by
  unfold addR
  split
  · rename_i h; simp [(pos_mem hs x).1 h]
  · rename_i h
    have : ¬ x ∈ l := fun h' => h ((pos_mem hs x).2 h')
    simp [this]
theorem add_len (l : List It) (x : It) : (addR l x).2.length ≤ l.length + 1 := by
  unfold addR
  split
  · simp
  · have := pos_le l x; simp; omega
theorem pos_head (x : It) (xs : List It) : pos (x :: xs) x = 0 := by simp [pos, ltB, cmpI_refl]
theorem rem_head (x : It) (xs : List It) : remR (x :: xs) x = (true, xs) := by simp [remR, pos_head]
theorem take_eq (l : List It) (now : Int) : takeR l now = match l with | [] => (z0, false, []) | x :: xs => if now < x.at_ then (z0, false, x :: xs) else (x, true, xs) := by
  cases l with
  | nil => rfl
  | cons x xs => simp only [takeR, rem_head]

/-! ### a heap of the call itself -/
def HOwn (w W : World) (F : Nat → Prop) (p : Nat) (l : List It) : Prop := HeapAt 64 33 W F p l ∧ (∀ q, F q → w.heap.size ≤ q) ∧ Upd Non w W
section
variable {w W W' : World} {F : Nat → Prop} {p : Nat} {l l' : List It}
theorem HOwn.step (h : HOwn w W F p l) (hs : HStep 64 33 W F p l' W') : HOwn w W' (Ext F W W') p l' :=
  ⟨hs.2, fun q hq => hq.elim (h.2.1 q) fun h' => Nat.le_trans h.2.2.size h'.1, h.2.2.trans' hs.1 fun x hx hf => by have := h.2.1 x hf; omega⟩
theorem HOwn.non (h : HOwn w W F p l) (hu : Upd Non W W') : HOwn w W' F p l := ⟨h.1.upd hu fun _ _ h => h, h.2.1, h.2.2.trans hu⟩
end

def i1 : It := ⟨5, 1, 0, 0, 0, 0⟩
def i2 : It := ⟨5, 2, 0, 0, 0, 0⟩
theorem kn_1 : addR [] i2 = (true, [i2]) := by decide +kernel
theorem kn_2 : addR [i2] i1 = (true, [i1, i2]) := by decide +kernel
theorem kn_3 : addR [i1, i2] i1 = (false, [i1, i2]) := by decide +kernel
theorem kn_4 : takeR [i1, i2] 5 = (i1, true, [i2]) := by decide +kernel
theorem kn_5 : takeR [i2] 4 = (z0, false, [i2]) := by decide +kernel
theorem kn_6 : blk 3 [5, 4, 7] = 5 := by decide +kernel
theorem wf1 : i1.wf := by simp [It.wf, IB, i1]
theorem wf2 : i2.wf := by simp [It.wf, IB, i2]
theorem sorted_12 : Sorted [i1, i2] := by
  refine List.pairwise_cons.2 ⟨fun y hy => ?_, List.pairwise_singleton ..⟩
  rw [List.mem_singleton.1 hy]
  decide +kernel

set_option maxRecDepth 100000 in
set_option maxHeartbeats 1000000 in
theorem tknown_spec (w : World) : Calls Try.prog 8 #[] w fun e w' => e = .returned (.bool true) ∧ Upd Non w w' := by
  have hA1 : ∀ W F p, HeapAt 64 33 W F p [] → Calls Try.prog 12 #[.pointer (some ⟨p, 0, none⟩), .agg #[.int .i64 5, .int .i64 2, .int .i64 0, .int .i64 0, .int .i64 0, .int .i64 0]] W (fun e w' => e = .returned (.bool true) ∧ HStep 64 33 W F p [i2] w') := fun W F p h =>
    (add_spec W F p [] i2 h (Sorted.srt List.Pairwise.nil (by simp) i2) wf2).mono fun e w' h => by unfold AddPost at h; rw [kn_1] at h; exact h
  have hA2 : ∀ W F p, HeapAt 64 33 W F p [i2] → Calls Try.prog 12 #[.pointer (some ⟨p, 0, none⟩), .agg #[.int .i64 5, .int .i64 1, .int .i64 0, .int .i64 0, .int .i64 0, .int .i64 0]] W (fun e w' => e = .returned (.bool true) ∧ HStep 64 33 W F p [i1, i2] w') := fun W F p h =>
    (add_spec W F p [i2] i1 h (Sorted.srt (List.pairwise_singleton ..) (by simp) i1) wf1).mono fun e w' h => by unfold AddPost at h; rw [kn_2] at h; exact h
  have hA3 : ∀ W F p, HeapAt 64 33 W F p [i1, i2] → Calls Try.prog 12 #[.pointer (some ⟨p, 0, none⟩), .agg #[.int .i64 5, .int .i64 1, .int .i64 0, .int .i64 0, .int .i64 0, .int .i64 0]] W (fun e w' => e = .returned (.bool false) ∧ HStep 64 33 W F p [i1, i2] w') := fun W F p h =>
    (add_spec W F p [i1, i2] i1 h (Sorted.srt sorted_12 (by simp) i1) wf1).mono fun e w' h => by unfold AddPost at h; rw [kn_3] at h; exact h
  have hT1 : ∀ W F p, HeapAt 64 33 W F p [i1, i2] → Calls Try.prog 13 #[.pointer (some ⟨p, 0, none⟩), .int .i64 5] W (fun e w' => e = .returned (.tuple #[.agg #[.int .i64 5, .int .i64 1, .int .i64 0, .int .i64 0, .int .i64 0, .int .i64 0], .bool true]) ∧ HStep 64 33 W F p [i2] w') := fun W F p h =>
    (take_spec W F p [i1, i2] 5 h (fun x _ => Sorted.srt sorted_12 (by simp) x)).mono fun e w' h => by unfold TakePost at h; rw [kn_4] at h; exact h
  have hT2 : ∀ W F p, HeapAt 64 33 W F p [i2] → Calls Try.prog 13 #[.pointer (some ⟨p, 0, none⟩), .int .i64 4] W (fun e w' => e = .returned (.tuple #[.agg #[.int .i64 0, .int .i64 0, .int .i64 0, .int .i64 0, .int .i64 0, .int .i64 0], .bool false]) ∧ HStep 64 33 W F p [i2] w') := fun W F p h =>
    (take_spec W F p [i2] 4 h (fun x _ => Sorted.srt (List.pairwise_singleton ..) (by simp) x)).mono fun e w' h => by unfold TakePost at h; rw [kn_5] at h; exact h
  go_enter Try.func8, Try.ntmps8
  go_wp2_with fail
  refine (new_spec w).mono ?_
  rintro e w1 ⟨rfl, hu1, h1⟩
  have o1 : HOwn w w1 (fun q => q = w.heap.size) w.heap.size [] := ⟨h1, fun q hq => by have hq : q = w.heap.size := hq; omega, hu1⟩
  go_wp2_with fail
  refine (hA1 _ _ _ o1.1).mono ?_
  rintro e w2 ⟨rfl, s2⟩
  have o2 := o1.step s2
  go_wp2_with fail
  refine (hA2 _ _ _ o2.1).mono ?_
  rintro e w3 ⟨rfl, s3⟩
  have o3 := o2.step s3
  go_wp2_with fail
  refine (hA3 _ _ _ o3.1).mono ?_
  rintro e w4 ⟨rfl, s4⟩
  have o4 := o3.step s4
  go_wp2_with fail
  refine (hT1 _ _ _ o4.1).mono ?_
  rintro e w5 ⟨rfl, s5⟩
  have o5 := o4.step s5
  have hF5 := o5.1.fin
  have ha5 := (Upd.refl Non w5).alloc (.cells #[.int .i64 5, .int .i64 1, .int .i64 0, .int .i64 0, .int .i64 0, .int .i64 0] 33)
  have hb5 := heap_alloc_new w5 (.cells #[.int .i64 5, .int .i64 1, .int .i64 0, .int .i64 0, .int .i64 0, .int .i64 0] 33)
  have o5' := o5.non ha5
  go_wp2_with fail
  generalize w5.alloc (.cells #[.int .i64 5, .int .i64 1, .int .i64 0, .int .i64 0, .int .i64 0, .int .i64 0] 33) = W5 at ha5 hb5 o5' ⊢
  refine (hT2 _ _ _ o5'.1).mono ?_
  rintro e w6 ⟨rfl, s6⟩
  have o6 := o5'.step s6
  have hb6 := (s6.1.block w5.heap.size (blk_lt hb5) (fun hf => by have := hF5 _ hf; omega)).trans hb5
  have c6 : w6.cell? ⟨w5.heap.size, 1, none⟩ = some (.int .i64 1) := blk_at hb6 1
  have ha6 := (o6.2.2.alloc (.cells #[.int .i64 0, .int .i64 0, .int .i64 0, .int .i64 0, .int .i64 0, .int .i64 0] 33)).alloc (.cells #[.int .i64 5, .int .i64 4, .int .i64 7] 3)
  have hlt6 := blk_lt hb6
  go_wp2_with fail
  have hrb := rd_box (E := intE) (w6.alloc (.cells #[.int .i64 0, .int .i64 0, .int .i64 0, .int .i64 0, .int .i64 0, .int .i64 0] 33)) #[.int .i64 5, .int .i64 4, .int .i64 7] 3 [5, 4, 7] ⟨_, _, rfl, rfl, _, _, rfl, rfl, _, _, rfl, rfl, rfl⟩ (by simp [maxLen_eq])
  rw [World.size_alloc] at hrb
  refine (block_spec _ _ _ [5, 4, 7] 3 hrb Fin.new (by simp) (by simp)).mono ?_
  rintro e w7 ⟨rfl, hu7⟩
  rw [kn_6]
  go_wp2
  go_ret
  exact ⟨rfl, ha6.trans hu7⟩

theorem snoc_dec (a x : Int) (l : List Int) : (decide (a ∈ l) || decide (x = a)) = decide (a ∈ l ++ [x]) := by
  by_cases h2 : x = a
  · subst h2; simp
  · have h3 : ¬ a = x := fun e => h2 e.symm
    by_cases h1 : a ∈ l <;> simp [h1, h2, h3]
/-! ### the document's Block -/
set_option maxRecDepth 100000 in
set_option maxHeartbeats 1000000 in
theorem rblock_spec (w : World) (F : Nat → Prop) (v : Value) (l : List Int) (ack : Int) (h : Rd intE w F v l) (hn : l.length ≤ 1048576) :
    Calls Try.prog 10 #[.int .i64 ack, v] w fun e w' => e = .returned (.int .i64 (blk ack l)) ∧ w = w' := by
  obtain ⟨A, c, rfl, hc, _⟩ := h.shape
  by_cases h0 : ack < 0
  · rw [show blk ack l = ack by rw [blk, if_pos (.inl h0)]]
    go_enter Try.func10, Try.ntmps10
    go_wp2
    go_ret
    exact ⟨rfl, rfl⟩
  by_cases h1 : 1099511627776 < ack
  · rw [show blk ack l = ack by rw [blk, if_pos (.inr h1)]]
    go_enter Try.func10, Try.ntmps10
    go_wp2
    go_ret
    exact ⟨rfl, rfl⟩
  have hblk : blk ack l = blkGo l l.length ack := by rw [blk, if_neg (by omega)]
  obtain ⟨r, hr⟩ : ∃ r, blk ack l = r := ⟨_, rfl⟩
  rw [hr]
  rw [hr] at hblk
  have HR := Lib.hid hblk
  clear hblk hr
  go_enter Try.func10, Try.ntmps10
  go_wp2
  go_loop [0, 5, 6, 7] (fun a i _ _ => ∃ k : Nat, k ≤ l.length ∧ a = .int .i64 (ack + k) ∧ i = .int .i64 k ∧ Hid (r = blkGo l (l.length - k) (ack + k))) (fun _ i _ _ => l.length - (intOf i).toNat)
  case atStart => exact ⟨0, Nat.zero_le _, by simp, rfl, Lib.hid (by rw [HR.out]; simp)⟩
  case round =>
    obtain ⟨k, hk, rfl, rfl, hgo⟩ := hrel
    by_cases hlt : k < l.length
    · go_wp2_with fail
      go_loop [6, 7] (fun f i => ∃ (j : Nat) (fb : Bool), j ≤ l.length ∧ i = .int .i64 j ∧ f = .bool fb ∧ Hid (fb = decide (ack + k + 1 ∈ l.take j))) (fun _ i => l.length - (intOf i).toNat)
      case atStart => exact ⟨0, false, Nat.zero_le _, rfl, rfl, Lib.hid (by simp)⟩
      case round =>
        obtain ⟨j, fb, hj, rfl, rfl, hfb⟩ := hrel
        by_cases hjl : j < l.length
        · obtain ⟨b1, o1, c1, e1, _, _, m0⟩ := h.int hjl
          cases e1
          obtain ⟨x, hx⟩ : ∃ x, l[j] = x := ⟨_, rfl⟩
          rw [hx] at m0
          have hnx : (fb || decide (x = ack + k + 1)) = decide (ack + k + 1 ∈ l.take (j + 1)) := by
            rw [hfb.out, take_snoc l j hjl, hx]
            exact snoc_dec _ _ _
          clear hx hfb
          cases fb
          · by_cases hxe : x = ack + k + 1
            · subst hxe
              have HNX : Hid (true = decide (ack + k + 1 ∈ l.take (j + 1))) := Lib.hid (by rw [← hnx]; simp)
              clear hnx
              go_wp2
              go_round
              case rel => exact ⟨j + 1, true, by omega, by go_num, rfl, HNX⟩
              case measure => simp [intOf]; omega
            · have HNX : Hid (false = decide (ack + k + 1 ∈ l.take (j + 1))) := Lib.hid (by rw [← hnx]; simp [hxe])
              have hxb : (x == ack + k + 1) = false := by simpa using hxe
              clear hnx
              go_wp2
              go_round
              case rel => exact ⟨j + 1, false, by omega, by go_num, rfl, HNX⟩
              case measure => simp [intOf]; omega
          · have HNX : Hid (true = decide (ack + k + 1 ∈ l.take (j + 1))) := Lib.hid (by rw [← hnx]; simp)
            clear hnx
            go_wp2
            go_round
            case rel => exact ⟨j + 1, true, by omega, by go_num, rfl, HNX⟩
            case measure => simp [intOf]; omega
        · obtain rfl : j = l.length := by omega
          have hfb' := hfb.out
          rw [List.take_length] at hfb'
          clear hfb
          cases fb
          · have hno : ¬ ack + k + 1 ∈ l := by intro h; simp [h] at hfb'
            have hrr : r = ack + k := by rw [hgo.out]; exact blkGo_stop _ _ _ hno
            have HRR := Lib.hid hrr
            clear hrr hno hfb' hgo HR
            go_wp2
            go_ret
            exact ⟨by rw [HRR.out]; rfl, rfl⟩
          · have hyes : ack + k + 1 ∈ l := by simpa using hfb'.symm
            have hgo' : r = blkGo l (l.length - (k + 1)) (ack + (k + 1 : Nat)) := by
              rw [hgo.out, show l.length - k = (l.length - (k + 1)) + 1 by omega, blkGo, if_pos hyes]
              congr 1
              omega
            have HG := Lib.hid hgo'
            clear hgo' hyes hfb' hgo HR
            go_wp2
            go_round
            case rel => exact ⟨k + 1, by omega, by go_num, by go_num, HG⟩
            case measure => simp [intOf]; omega
    · obtain rfl : k = l.length := by omega
      have hrr : r = ack + l.length := by rw [hgo.out]; simp [blkGo]
      have HRR := Lib.hid hrr
      clear hrr hgo HR
      go_wp2
      go_ret
      exact ⟨by rw [HRR.out]; rfl, rfl⟩

set_option maxRecDepth 100000 in
theorem acks_walk (w : World) (ack : Int) (v : Value) (l : List Int) (h : Rd intE w (Old w) v l) (hb : ∀ x ∈ l, -9223372036854775808 ≤ x ∧ x ≤ 9223372036854775807) (_hn : l.length ≤ 17592186043904) :
    Calls Try.prog 3 #[.int .i64 ack, v] w fun e w' => e = .returned (.bool true) ∧ Below w.heap.size w w' := by
  obtain ⟨A, c, rfl, hc, _⟩ := h.shape
  by_cases h250 : l.length ≤ 250
  · go_enter Try.func3, Try.ntmps3
    go_wp2_with fail
    refine (tknown_spec w).mono ?_
    rintro e w1 ⟨rfl, hu1⟩
    go_wp2_with fail
    refine (block_spec w1 (Old w) _ l ack (h.upd hu1 (Upd.fr_non (Fin.old w))) ((Fin.old w).upd hu1) (by omega) hb).mono ?_
    rintro e w2 ⟨rfl, hu2⟩
    go_wp2_with fail
    refine (rblock_spec w2 (Old w) _ l ack (h.upd (hu1.trans hu2) (Upd.fr_non (Fin.old w))) (by omega)).mono ?_
    rintro e w3 ⟨rfl, rfl⟩
    go_wp2
    go_ret
    exact ⟨rfl, (hu1.trans hu2).below⟩
  · go_enter Try.func3, Try.ntmps3
    go_wp2_with fail
    refine (tknown_spec w).mono ?_
    rintro e w1 ⟨rfl, hu1⟩
    go_wp2
    go_ret
    exact ⟨rfl, hu1.below⟩
end Go.Proofs.Ytnaldifgnpnbhaa
