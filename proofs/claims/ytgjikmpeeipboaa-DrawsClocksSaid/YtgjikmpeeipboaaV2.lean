/-
  The least tick of a clock's alarms.
-/
import Derived.Test.YtgjikmpeeipboaaV1
import Derived.Test.YtgjikmpeeipboaaRC1
namespace Go.Proofs.Ytgjikmpeeipboaa
open Go.RowKit
attribute [local go_sem] min2_int min_two
def MinPost (w : World) (xs : List Int) (e : Ending) (w' : World) : Prop := ∃ m, e = .returned (.int .i64 m) ∧ m ∈ xs ∧ (∀ y ∈ xs, m ≤ y) ∧ w = w'
theorem min_spec (w : World) (F : Nat → Prop) (v : Value) (xs : List Int) (h : Rd intE w F v xs) (h1 : 0 < xs.length) (h6 : xs.length ≤ 1000000) : Calls Try.prog 39 #[v] w (MinPost w xs) := by
  obtain ⟨b, o, c, rfl, hc, _, m0⟩ := h.int h1
  rw [Nat.add_zero] at m0
  obtain ⟨N, hN⟩ : ∃ N, xs.length = N := ⟨_, rfl⟩
  have HN := Lib.hid hN
  have hx0 : xs[0] ∈ xs.take 1 ∧ ∀ y ∈ xs.take 1, xs[0] ≤ y := by
    have e : xs.take 1 = [xs[0]] := by
      cases xs with
      | nil => simp at h1
      | cons a r => simp
    rw [e]
    exact ⟨by simp, fun y hy => by rw [List.mem_singleton.1 hy]; exact Int.le_refl _⟩
  have HX := Lib.hid hx0
  clear hx0
  generalize xs[0] = x0 at m0 HX
  rw [hN] at hc h1 h6 ⊢
  clear hN
  have t1 : decide ((N : Int) < 1) = false := decide_eq_false (by omega)
  have k0 : (0 : Int) < N := by omega
  go_enter Try.func39, Try.ntmps39
  go_wp2
  go_loopw [3, 4] (fun mv i wr => wr = w ∧ ∃ (k : Nat) (m : Int), 1 ≤ k ∧ k ≤ N ∧ i = .int .i64 k ∧ mv = .int .i64 m ∧ Hid (m ∈ xs.take k ∧ ∀ y ∈ xs.take k, m ≤ y)) (fun _ i _ => N - (intOf i).toNat)
  case atStart => exact ⟨by simp, 1, x0, by omega, by omega, rfl, rfl, HX⟩
  case round =>
    obtain ⟨rfl, k, m, hk1, hk, rfl, rfl, hm⟩ := hrel
    by_cases hkl : k < N
    · have hkl' : k < xs.length := by rw [HN.out]; exact hkl
      obtain ⟨b', o', c', e1, _, _, m1⟩ := h.int hkl'
      rw [HN.out] at e1
      cases e1
      have hnew : min m xs[k] ∈ xs.take (k + 1) ∧ ∀ y ∈ xs.take (k + 1), min m xs[k] ≤ y := by
        obtain ⟨h2, h3⟩ := hm.out
        rw [take_snoc xs k hkl']
        refine ⟨?_, fun y hy => ?_⟩
        · rcases Int.le_total m xs[k] with h4 | h4
          · rw [Int.min_eq_left h4]; exact List.mem_append_left _ h2
          · rw [Int.min_eq_right h4]; exact List.mem_append_right _ (List.mem_singleton.2 rfl)
        · rcases List.mem_append.1 hy with hy | hy
          · have := h3 y hy; omega
          · rw [List.mem_singleton.1 hy]; omega
      have HNW := Lib.hid hnew
      clear hnew
      generalize xs[k] = y at m1 HNW
      go_wp2
      go_roundw
      case rel => exact ⟨by simp, k + 1, min m y, by omega, by omega, by go_num, rfl, HNW⟩
      case measure => simp [intOf]; omega
    · obtain rfl : k = N := by omega
      have hend : MinPost wr xs (.returned (.int .i64 m)) wr := by
        obtain ⟨h2, h3⟩ := hm.out
        rw [List.take_of_length_le (by rw [HN.out]; omega)] at h2 h3
        exact ⟨m, rfl, h2, h3, rfl⟩
      go_wp2
      go_ret
      exact hend
def CNextPost (w : World) (L : List Alm) (e : Ending) (w' : World) : Prop := e = .returned (.tuple #[.int .i64 (nextV L), .bool !L.isEmpty]) ∧ Upd Non w w'
set_option maxRecDepth 100000 in
set_option maxHeartbeats 1000000 in
theorem cnext_spec (w : World) (p b n : Nat) (t : Int) (L : List Alm) (h : ClkAt w p b n t L) (hlen : L.length ≤ 1000000) : Calls Try.prog 29 #[.pointer (some ⟨p, 0, none⟩)] w (CNextPost w L) := by
  obtain ⟨hblk, hpb, ⟨D, hown, hL⟩, srt, hib⟩ := id h
  have c1 : w.cell? ⟨p, 1, none⟩ = some (.map (some b)) := blk_at hblk 1
  obtain ⟨_, hsize⟩ := size_of hown hL
  cases L with
  | nil =>
    have hend : CNextPost w [] (.returned (.tuple #[.int .i64 0, .bool false])) w := ⟨rfl, Upd.refl _ _⟩
    simp only [List.length_nil] at hsize
    go_enter Try.func29, Try.ntmps29
    go_wp2_with (at_len; refine wpList_len_own _ rfl _ 32 rfl 3 3 Try.underlying32 _ b n D rfl hown ?_; rw [hsize])
    go_ret2
    exact hend
  | cons x xs =>
    have hlt := hown.lt
    have hu1 : Upd Non w (w.alloc (.cells #[.map (some b)] 32)) := (Upd.refl _ _).alloc _
    have cm : (w.alloc (.cells #[.map (some b)] 32)).cell? ⟨w.heap.size, 0, none⟩ = some (.map (some b)) := blk_at (heap_alloc_new w _) 0
    have HT := ticks_spec (w.alloc (.cells #[.map (some b)] 32)) b n w.heap.size D (x :: xs) (owns_upd hown (hu1.block b hlt id)) hL cm hlen
    have HV := values_spec w b
    have HM := fun W v ts (hp : ts.Perm ((x :: xs).map (·.2))) (hr : Rd intE W (New (w.alloc (.cells #[.map (some b)] 32)) W) v ts) => min_spec W _ v ts hr (by rw [hp.length_eq]; simp) (by rw [hp.length_eq]; simpa using hlen)
    have hmin : ∀ (ts : List Int) (m : Int), ts.Perm ((x :: xs).map (·.2)) → m ∈ ts → (∀ y ∈ ts, m ≤ y) → m = x.2 := fun ts m hp h1 h2 => by
      have h3 := h2 x.2 (hp.mem_iff.2 (by simp))
      obtain ⟨y, hy, e⟩ := List.mem_map.1 (hp.mem_iff.1 h1)
      rcases List.mem_cons.1 hy with rfl | hy
      · exact e.symm
      · have := ltA_iff.1 ((List.pairwise_cons.1 srt).1 y hy)
        have e : y.2 = m := e
        omega
    have hend : ∀ w', Upd Non w w' → CNextPost w (x :: xs) (.returned (.tuple #[.int .i64 x.2, .bool true])) w' := fun w' hu => ⟨rfl, hu⟩
    obtain ⟨N, hN⟩ : ∃ N, (x :: xs).length = N := ⟨_, rfl⟩
    rw [hN] at hsize
    have t1 : ((N : Int) == 0) = false := by simp at hN; simp; omega
    clear hlen h hN
    go_enter Try.func29, Try.ntmps29
    go_wp2_with (first
      | (at_len; refine wpList_len_own _ rfl _ 32 rfl 3 3 Try.underlying32 _ b n D rfl hown ?_; rw [hsize])
      | (go_at_call 41; (with_reducible refine HV.mono ?_); rintro e w2 ⟨rfl, rfl⟩)
      | (go_at_call 40; (with_reducible refine HT.mono ?_); rintro e w3 ⟨v, ts, rfl, hu3, hp, hr⟩)
      | (go_at_call 39; (with_reducible refine (HM w3 v ts hp hr).mono ?_); rintro e w4 ⟨m, rfl, hm1, hm2, rfl⟩; obtain rfl := hmin ts m hp hm1 hm2))
    go_ret2
    exact hend _ (hu1.trans hu3)
end Go.Proofs.Ytgjikmpeeipboaa
