/-
  The walk of Least over whole numbers by another order.
-/
import Derived.Test.YtnaldifgnpnbhaaT17
namespace Go.Proofs.Ytnaldifgnpnbhaa
open Go.RowKit Go.Maps

theorem gtr_spec (w : World) (x y : Int) : Calls Try.prog 20 #[.int .i64 x, .int .i64 y] w (fun e w' => e = .returned (.bool (decide (y < x))) ∧ Upd Non w w') := by
  obtain ⟨r, hr⟩ : ∃ r, decide (y < x) = r := ⟨_, rfl⟩
  rw [hr]
  go_enter Try.func20, Try.ntmps20
  go_wp2
  go_ret
  exact ⟨rfl, Upd.refl _ _⟩
def TopIs (l : List Int) (t : Int) : Prop := (l = [] → t = 0) ∧ ∀ y ∈ l, y ≤ t
theorem TopIs.start : TopIs [] 0 := ⟨fun _ => rfl, fun _ h => by simp at h⟩
theorem TopIs.first (x : Int) : TopIs [x] x := ⟨(fun h => by cases h), fun y hy => by rw [List.mem_singleton.1 hy]; omega⟩
theorem TopIs.more {l : List Int} {t x : Int} (h : TopIs l t) (hx : t < x) : TopIs (l ++ [x]) x :=
  ⟨fun h => by simp at h, fun y hy => by
    rcases List.mem_append.1 hy with hy | hy
    · have := h.2 y hy; omega
    · rw [List.mem_singleton.1 hy]; omega⟩
theorem TopIs.stay {l : List Int} {t x : Int} (h : TopIs l t) (hx : ¬ t < x) : TopIs (l ++ [x]) t :=
  ⟨fun h => by simp at h, fun y hy => by
    rcases List.mem_append.1 hy with hy | hy
    · exact h.2 y hy
    · rw [List.mem_singleton.1 hy]; omega⟩
def TopPost (w : World) (l : List Int) (e : Ending) (w' : World) : Prop := ∃ t, TopIs l t ∧ e = .returned (.tuple #[.int .i64 t, .bool (decide (0 < l.length))]) ∧ Upd Non w w'
set_option maxRecDepth 100000 in
set_option maxHeartbeats 1000000 in
theorem top_spec (w : World) (F : Nat → Prop) (v : Value) (l : List Int) (h : Rd intE w F v l) (hF : Fin w F) (hn : l.length ≤ 1048576) :
    Calls Try.prog 19 #[v, .func (.func 20) #[] #[]] w (TopPost w l) := by
  obtain ⟨A, c, rfl, hc, _⟩ := h.shape
  go_enter Try.func19, Try.ntmps19
  go_wp2_with fail
  go_loopw [6, 7, 8, 11] (fun t _ _ i wr => ∃ (k : Nat) (tt : Int), k ≤ l.length ∧ i = .int .i64 k ∧ t = .int .i64 tt ∧ Upd Non w wr ∧ Hid (TopIs (l.take k) tt)) (fun _ _ _ i _ => l.length - (intOf i).toNat)
  case atStart => exact ⟨0, 0, Nat.zero_le _, rfl, rfl, Upd.refl _ _, Lib.hid (by simpa using TopIs.start)⟩
  case round =>
    obtain ⟨k, tt, hk, rfl, rfl, hu, ht⟩ := hrel
    by_cases hlt : k < l.length
    · obtain ⟨b1, o1, c1, e1, _, hb1, m0⟩ := (h.upd hu (Upd.fr_non hF)).int hlt
      cases e1
      obtain ⟨x, hx⟩ : ∃ x, l[k] = x := ⟨_, rfl⟩
      rw [hx] at m0
      have htk : l.take (k + 1) = l.take k ++ [x] := by rw [take_snoc l k hlt, hx]
      have HTK := Lib.hid htk
      have hlb1 := World.block_lt_of_cell? wr _ m0
      clear hx htk
      by_cases hk0 : k = 0
      · subst hk0
        simp only [Nat.add_zero] at m0
        go_wp2
        go_roundw
        case rel => exact ⟨1, x, by omega, rfl, rfl, hu, Lib.hid (by rw [HTK.out]; simpa using TopIs.first x)⟩
        case measure => simp [intOf]; omega
      · have hk0' : ((k : Int) == 0) = false := by rw [beq_eq_false_iff_ne]; omega
        have HL := gtr_spec wr x tt
        by_cases hgt : tt < x
        · have HG := Lib.hid hgt
          rw [decide_eq_true hgt] at HL
          clear hgt
          go_wp2_with fail
          with_reducible refine HL.mono ?_
          rintro e w2 ⟨rfl, hu2⟩
          go_wp2
          go_roundw
          case rel => exact ⟨k + 1, x, by omega, by go_num, rfl, hu.trans hu2, Lib.hid (by rw [HTK.out]; exact ht.out.more HG.out)⟩
          case measure => simp [intOf]; omega
        · have HG := Lib.hid hgt
          rw [decide_eq_false hgt] at HL
          clear hgt
          go_wp2_with fail
          with_reducible refine HL.mono ?_
          rintro e w2 ⟨rfl, hu2⟩
          go_wp2
          go_roundw
          case rel => exact ⟨k + 1, tt, by omega, by go_num, rfl, hu.trans hu2, Lib.hid (by rw [HTK.out]; exact ht.out.stay (by have := HG.out; omega))⟩
          case measure => simp [intOf]; omega
    · obtain rfl : k = l.length := by omega
      have ht' := ht.out
      rw [List.take_length] at ht'
      have HT := Lib.hid ht'
      clear ht ht'
      by_cases hl0 : 0 < l.length
      · have hd : decide (0 < l.length) = true := by simp [hl0]
        have HD := Lib.hid hd
        clear hd
        go_wp2
        exact bodyPost_ret (v := .tuple #[.int .i64 tt, .bool true]) (by simp [results, Try.results19, go_sem]) rfl ⟨tt, HT.out, by rw [HD.out], hu⟩
      · have hd : decide (0 < l.length) = false := by simp [hl0]
        have HD := Lib.hid hd
        clear hd
        go_wp2
        exact bodyPost_ret (v := .tuple #[.int .i64 tt, .bool false]) (by simp [results, Try.results19, go_sem]) rfl ⟨tt, HT.out, by rw [HD.out], hu⟩
end Go.Proofs.Ytnaldifgnpnbhaa
