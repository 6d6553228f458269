/-
  The walk of timers.Block.
-/
import Derived.Test.YtnaldifgnpnbhaaT8
import Derived.Test.YtnaldifgnpnbhaaT9
namespace Go.Proofs.Ytnaldifgnpnbhaa
open Go.RowKit Go.Maps

def blkGo (l : List Int) : Nat → Int → Int
  | 0, a => a
  | f + 1, a => if a + 1 ∈ l then blkGo l f (a + 1) else a
/-- the level behind what was done -/
def blk (ack : Int) (l : List Int) : Int := if ack < 0 ∨ 1099511627776 < ack then ack else blkGo l l.length ack
theorem blkGo_stop (l : List Int) (f : Nat) (a : Int) (h : ¬ a + 1 ∈ l) : blkGo l f a = a := by cases f <;> simp [blkGo, h]
theorem holes (a : Int) : ∀ (k : Nat) (l : List Int), (∀ i : Nat, i < k → a + i ∈ l) → k ≤ l.length
  | 0, _, _ => Nat.zero_le _
  | k + 1, l, h => by
    have hm := h k (by omega)
    have := holes a k (l.erase (a + k)) (fun i hi => (List.mem_erase_of_ne (by omega)).2 (h i (by omega)))
    rw [List.length_erase_of_mem hm] at this
    have := List.length_pos_of_mem hm
    omega

theorem zero4 (w : World) : (zeroValue 4).run Try.prog w = .ok (.bool false) w := by kernel_rfl
abbrev MapI (w : World) (b n : Nat) (c : Nat) (S : Int → Prop) : Prop := MapS Try.prog 3 4 (fun x : Int => Lit.int .i64 x) (fun x => -9223372036854775808 ≤ x ∧ x ≤ 9223372036854775807) w b n c S
def HasMap (w : World) (b n : Nat) (S : Int → Prop) : Prop := ∃ c, MapI w b n c S

set_option maxRecDepth 100000 in
set_option maxHeartbeats 1000000 in
theorem block_spec (w : World) (F : Nat → Prop) (v : Value) (l : List Int) (ack : Int) (h : Rd intE w F v l) (hF : Fin w F) (hn : l.length ≤ 1048576) (hb : ∀ x ∈ l, -9223372036854775808 ≤ x ∧ x ≤ 9223372036854775807) :
    Calls Try.prog 9 #[.int .i64 ack, v] w fun e w' => e = .returned (.int .i64 (blk ack l)) ∧ Upd Non w w' := by
  obtain ⟨A, c, rfl, hc, _⟩ := h.shape
  by_cases h0 : ack < 0
  · rw [show blk ack l = ack by rw [blk, if_pos (.inl h0)]]
    go_enter Try.func9, Try.ntmps9
    go_wp2
    go_ret
    exact ⟨rfl, Upd.refl _ _⟩
  by_cases h1 : 1099511627776 < ack
  · rw [show blk ack l = ack by rw [blk, if_pos (.inr h1)]]
    go_enter Try.func9, Try.ntmps9
    go_wp2
    go_ret
    exact ⟨rfl, Upd.refl _ _⟩
  have hblk : blk ack l = blkGo l l.length ack := by rw [blk, if_neg (by omega)]
  obtain ⟨r, hr⟩ : ∃ r, blk ack l = r := ⟨_, rfl⟩
  rw [hr]
  rw [hr] at hblk
  have HR := Lib.hid hblk
  clear hblk hr
  have hmm := @run_makeMap Try.prog
  have hm0 : HasMap (w.alloc (.map #[] 0)) w.heap.size 0 (fun a => a ∈ l.take 0) := ⟨0, (MapS.made Try.prog 3 4 _ _ w).iff fun a _ => by simp⟩
  have hu0 : Upd Non w (w.alloc (.map #[] 0)) := (Upd.refl _ _).alloc _
  go_enter Try.func9, Try.ntmps9
  go_wp2_with fail
  generalize w.alloc (.map #[] 0) = W at hm0 hu0 ⊢
  go_loopw [7, 19] (fun _ i wr => ∃ k : Nat, k ≤ l.length ∧ i = .int .i64 k ∧ HasMap wr w.heap.size k (fun a => a ∈ l.take k) ∧ Upd (fun q => q = w.heap.size) W wr) (fun _ i _ => l.length - (intOf i).toNat)
  case atStart => exact ⟨0, Nat.zero_le _, rfl, hm0, Upd.refl _ _⟩
  case round =>
    clear hm0
    obtain ⟨k, hk, rfl, ⟨cc, hm⟩, hu⟩ := hrel
    have huw : Upd Non w wr := hu0.trans' hu fun x hx e => by have e : x = w.heap.size := e; omega
    by_cases hlt : k < l.length
    · obtain ⟨b1, o1, c1, e1, _, _, m0⟩ := (h.upd huw (Upd.fr_non hF)).int hlt
      cases e1
      obtain ⟨x, hx⟩ : ∃ x, l[k] = x := ⟨_, rfl⟩
      have hxb := hb x (by rw [← hx]; exact List.getElem_mem hlt)
      obtain ⟨w', hrun, hu', hS1, hS2⟩ := hm.store (t := 62) (enc := encInt) (key_int Try.underlying3) Try.underlying62 Try.underlying4 (by rw [maxLen_eq]; omega) x hxb
      have hm' : HasMap w' w.heap.size (k + 1) (fun a => a ∈ l.take (k + 1)) := by
        have hif : ∀ a : Int, (a = x ∨ a ∈ l.take k) ↔ a ∈ l.take (k + 1) := fun a => by rw [take_snoc l k hlt, hx]; simp [or_comm]
        by_cases hs : x ∈ l.take k
        · exact ⟨_, (hS1 hs).iff fun a _ => hif a⟩
        · exact ⟨_, (hS2 hs).iff fun a _ => hif a⟩
      rw [hx] at m0
      simp only [encInt] at hrun
      clear hS1 hS2 hx hxb hm
      go_wp2_with (at_mapUpdate; refine wpList_mapUpdate_run _ rfl _ _ _ 62 rfl _ _ _ rfl rfl rfl hrun ?_)
      go_roundw
      case rel => exact ⟨k + 1, by omega, by go_num, hm', hu.trans hu'⟩
      case measure => simp [intOf]; omega
    · obtain rfl : k = l.length := by omega
      have hlk : ∀ a, -9223372036854775808 ≤ a ∧ a ≤ 9223372036854775807 → (a ∈ l → (Instr.lookup 62 (.map (some w.heap.size)) (.int .i64 a) false).run Try.prog wr = .ok (.bool true) wr) ∧ (¬ a ∈ l → (Instr.lookup 62 (.map (some w.heap.size)) (.int .i64 a) false).run Try.prog wr = .ok (.bool false) wr) := fun a ha => by
        have := hm.lookup (t := 62) (enc := encInt) (key_int Try.underlying3) Try.underlying62 Try.underlying4 zero4 a ha
        rwa [List.take_length] at this
      clear hm hu
      have HL := Lib.hid hlk
      clear hlk
      go_wp2_with fail
      go_loop [0, 8] (fun a n => ∃ k : Nat, k ≤ l.length ∧ a = .int .i64 (ack + k) ∧ n = .int .i64 (ack + k + 1) ∧ Hid (∀ i : Nat, i < k → ack + 1 + i ∈ l) ∧ Hid (r = blkGo l (l.length - k) (ack + k))) (fun a _ => (l.length + ack - intOf a).toNat)
      case atStart => exact ⟨0, Nat.zero_le _, by simp, by simp, Lib.hid (fun i hi => by omega), Lib.hid (by rw [HR.out]; simp)⟩
      case round =>
        obtain ⟨k, hk, rfl, rfl, hin, hgo⟩ := hrel
        by_cases hmem : ack + k + 1 ∈ l
        · have hin' : ∀ i : Nat, i < k + 1 → ack + 1 + i ∈ l := fun i hi => by
            rcases Nat.lt_or_ge i k with h | h
            · exact hin.out i h
            · obtain rfl : i = k := by omega
              rw [show ack + 1 + (i : Int) = ack + i + 1 by omega]; exact hmem
          have hkl := holes (ack + 1) (k + 1) l hin'
          have hgo' : r = blkGo l (l.length - (k + 1)) (ack + (k + 1 : Nat)) := by
            rw [hgo.out, show l.length - k = (l.length - (k + 1)) + 1 by omega, blkGo, if_pos hmem]
            congr 1
            omega
          have HG := Lib.hid hgo'
          have HI := Lib.hid hin'
          have hrun := (HL.out (ack + k + 1) (by omega)).1 hmem
          clear hgo' hin' hmem hgo hin
          have hb1 : ack + k < ack + k + 1 := by omega
          go_wp2
          go_round
          case rel => exact ⟨k + 1, by omega, by go_num, by go_num, HI, HG⟩
          case measure => simp [intOf]; omega
        · have hrr : r = ack + k := by rw [hgo.out]; exact blkGo_stop _ _ _ hmem
          have hrun := (HL.out (ack + k + 1) (by omega)).2 hmem
          have HRR := Lib.hid hrr
          clear hrr hmem hgo hin HR
          have hb1 : ack + k < ack + k + 1 := by omega
          go_wp2
          go_ret
          exact ⟨by rw [HRR.out]; rfl, huw⟩
end Go.Proofs.Ytnaldifgnpnbhaa
