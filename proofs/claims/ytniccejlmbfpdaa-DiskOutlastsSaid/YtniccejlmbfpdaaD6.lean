/-
  slices.Backward over pending writes: its contract.
-/
import Derived.RangeFuncNested
import Derived.RangeFuncBound
import Derived.RangeFuncCalls
import Derived.RangeFuncLeaves
import Derived.Shelf.Abstract
import Derived.Shelf.RegionOpen
import Derived.OwnWalkIn
import Derived.TacticsInMore
import Derived.LoopNIn
import Derived.LoopIn
import Derived.Test.YtniccejlmbfpdaaD5
import Derived.Deep.DeepCutAuto
namespace Go.Proofs.Ytniccejlmbfpdaa
open Go.RowKit Go.Shelf
attribute [local go_sem] Oper.semAt_some

/-- what has come when m rounds are over: the last m places, from the end -/
def upto (len m : Nat) : List Nat := (List.range m).map fun j => len - 1 - j
theorem upto_succ (len m : Nat) : upto len (m + 1) = upto len m ++ [len - 1 - m] := by simp [upto, List.range_succ]
theorem upto_length (len m : Nat) : (upto len m).length = m := by simp [upto]

set_option maxRecDepth 100000 in
set_option maxHeartbeats 2000000 in
theorem back1_in (Fc : Fence) (n : Nat) (h84 : Fc.fn 84) (hro : Fc.round = none) (hn : 1 ≤ n) (l Bs n₀ b off len cap : Nat) (xs : Nat → Int) (dv : Nat → Value) (_hd : ∀ k, (dv k).oneCell' = true) (hreach : len ≤ 1048576) (hcap : len ≤ cap) (hb : b < n₀) (hBn : Bs < n₀) (J Jx : List Nat → World → Prop)
    (hY : ∀ (pre : List Nat) (x : Nat) (W : World), J pre W → pre.length < len → YieldAt Fc (n - 1) Try.prog l #[.int .i64 (x : Int), .agg #[.int .i64 (xs x), dv x]] W fun e W' =>
      (e = .returned (.bool true) ∧ J (pre ++ [x]) W' ∧ Below n₀ W W') ∨ (e = .returned (.bool false) ∧ Jx (pre ++ [x]) W'))
    (W : World) (hBs : W.cell? ⟨Bs, 0, none⟩ = some (.slice (some ⟨b, off, none⟩) len cap)) (hc : ∀ k, k < len → W.cell? ⟨b, off + k * 2, none⟩ = some (.int .i64 (xs k)) ∧ W.cell? ⟨b, off + k * 2 + 1, none⟩ = some (dv k)) (h0 : J [] W) :
    CallsIn Fc n Try.prog 84 #[.func (.yield l) #[] #[], .pointer (some ⟨Bs, 0, none⟩)] W fun e W' => (∃ v, e = .returned v) ∧
      ((∃ ys, ys = upto len len ∧ J ys W') ∨ (∃ pre, (∃ m, m ≤ len ∧ pre = upto len m) ∧ Jx pre W')) := by
  refine callsIn_of_wp Try.func84 rfl h84 ?_ hro
  simp only [Try.ntmps84, List.size_toArray, List.length_cons, List.length_nil, Nat.reduceAdd, Nat.reduceSub, Array.replicate_succ, Array.replicate_zero, List.push_toArray, List.append_toArray, List.nil_append, List.cons_append]
  gi_wp2
  gi_loopw [3] (fun i wr => ((i = .int .i64 (-1) ∧ J (upto len len) wr) ∨ ∃ k : Nat, k < len ∧ i = .int .i64 k ∧ J (upto len (len - 1 - k)) wr) ∧ Below n₀ W wr)
    (fun i _ => (intOf i + 1).toNat)
  case atStart =>
    refine ⟨?_, Below.refl _ _⟩
    rcases Nat.eq_zero_or_pos len with h | h
    · subst h
      exact .inl ⟨rfl, h0⟩
    · refine .inr ⟨len - 1, by omega, ?_, by simpa [upto] using h0⟩
      go_num
  case round =>
    obtain ⟨hrel, hnx⟩ := hrel
    have hBx := (hnx.cell (p := ⟨Bs, 0, none⟩) hBn).trans hBs
    rcases hrel with ⟨rfl, hJs⟩ | ⟨k, hlt, rfl, hJs⟩
    · gi_wp2
      go_end0
      exact ⟨⟨_, rfl⟩, .inl ⟨_, rfl, hJs⟩⟩
    · obtain ⟨fn, tmps, assign, body, hy, hR⟩ := hY _ k wr hJs (by rw [upto_length]; omega)
      have hc0 := (hnx.cell (p := ⟨b, off + k * 2, none⟩) hb).trans (hc k hlt).1
      have hc1 := (hnx.cell (p := ⟨b, off + k * 2 + 1, none⟩) hb).trans (hc k hlt).2
      gi_wp2
      refine hR.mono ?_
      rintro e W3 (⟨rfl, hJ3, hk3⟩ | ⟨rfl, hJx3⟩)
      · have hap : upto len (len - 1 - k) ++ [k] = upto len (len - k) := by
          have := upto_succ len (len - 1 - k)
          rw [show len - 1 - k + 1 = len - k by omega, show len - 1 - (len - 1 - k) = k by omega] at this
          exact this.symm
        rw [hap] at hJ3
        gi_wp2
        go_roundw
        case rel =>
          refine ⟨?_, hnx.trans hk3⟩
          rcases Nat.eq_zero_or_pos k with h | h
          · subst h
            exact .inl ⟨rfl, hJ3⟩
          · exact .inr ⟨k - 1, by omega, by go_num, by rw [show len - 1 - (k - 1) = len - k by omega]; exact hJ3⟩
        case measure => simp [intOf]
      · have hap : upto len (len - 1 - k) ++ [k] = upto len (len - k) := by
          have := upto_succ len (len - 1 - k)
          rw [show len - 1 - k + 1 = len - k by omega, show len - 1 - (len - 1 - k) = k by omega] at this
          exact this.symm
        rw [hap] at hJx3
        gi_wp2
        refine bodyPost_ret (results_none rfl _ _ _) rfl ?_
        exact ⟨⟨_, rfl⟩, .inr ⟨_, ⟨len - k, by omega, rfl⟩, hJx3⟩⟩

set_option maxRecDepth 100000 in
set_option maxHeartbeats 1000000 in
theorem back1_nil (Fc : Fence) (n : Nat) (h84 : Fc.fn 84) (hro : Fc.round = none) (l Bs c : Nat) (A : Option Addr) (J : List Nat → World → Prop) (W : World) (hBs : W.cell? ⟨Bs, 0, none⟩ = some (.slice A 0 c)) (h0 : J [] W) :
    CallsIn Fc n Try.prog 84 #[.func (.yield l) #[] #[], .pointer (some ⟨Bs, 0, none⟩)] W fun e W' => (∃ v, e = .returned v) ∧ J [] W' := by
  refine callsIn_of_wp Try.func84 rfl h84 ?_ hro
  simp only [Try.ntmps84, List.size_toArray, List.length_cons, List.length_nil, Nat.reduceAdd, Nat.reduceSub, Array.replicate_succ, Array.replicate_zero, List.push_toArray, List.append_toArray, List.nil_append, List.cons_append]
  gi_wp2
  gi_loopw [3] (fun i wr => i = .int .i64 (-1) ∧ J [] wr) (fun _ _ => 0)
  case atStart => exact ⟨rfl, h0⟩
  case round =>
    obtain ⟨rfl, hJs⟩ := hrel
    gi_wp2
    go_end0
    exact ⟨⟨_, rfl⟩, hJs⟩

theorem back_in (Fc : Fence) (n : Nat) (h66 : Fc.fn 66) (hro : Fc.round = none) (a : Option Addr) (len cap : Nat) (w : World) :
    CallsIn Fc n Try.prog 66 #[.slice a len cap] w fun e w' => e = .returned (.func (.func 84) #[] #[.pointer (some ⟨w.heap.size, 0, none⟩)]) ∧ w' = w.alloc (.cells #[.slice a len cap] 57) := by
  refine callsIn_of_wp Try.func66 rfl h66 ?_ hro
  simp only [Try.ntmps66, List.size_toArray, List.length_cons, List.length_nil, Nat.reduceAdd, Nat.reduceSub, Array.replicate_succ, Array.replicate_zero, List.push_toArray, List.append_toArray, List.nil_append, List.cons_append]
  gi_wp2
  go_ret
  exact ⟨rfl, rfl⟩

/-- the k-th write, as handed on -/
def encW (xs : Nat → Int) (dv : Nat → Value) (k : Nat) : Array Value := #[.int .i64 (k : Int), .agg #[.int .i64 (xs k), dv k]]
theorem back_stops (Fc : Fence) (n : Nat) (h84 : Fc.fn 84) (hro : Fc.round = none) (hn : 1 ≤ n) (Bs n₀ : Nat) (sv : Value) (es : List Ent) (dv : Nat → Value) (hd : ∀ k, (dv k).oneCell' = true) (hlen : es.length ≤ 1048576) (w : World) (hBs : Bs < n₀) (hn₀ : n₀ ≤ w.heap.size)
    (hc : w.cell? ⟨Bs, 0, none⟩ = some sv) (A : Option Addr) (c : Nat) (hsv : sv = .slice A es.length c) (hcl : es.length ≤ c)
    (hcs : 0 < es.length → ∃ b o, A = some ⟨b, o, none⟩ ∧ b < n₀ ∧ ∀ k, k < es.length → w.cell? ⟨b, o + k * 2, none⟩ = some (.int .i64 (es[k]?.getD (0, [])).1) ∧ w.cell? ⟨b, o + k * 2 + 1, none⟩ = some (dv k)) :
    SeqStopsK Fc n Try.prog 84 #[.pointer (some ⟨Bs, 0, none⟩)] (encW (fun k => (es[k]?.getD (0, [])).1) dv) (Below n₀) (fun ys => ys = upto es.length es.length)
      (fun pre => ∃ m, m ≤ es.length ∧ pre = upto es.length m) es.length w := fun l J Jx W hW _ _ hY h0 => by
  have hW' := hW.mono hn₀
  have hc' := (hW'.cell (p := ⟨Bs, 0, none⟩) hBs).trans hc
  subst hsv
  rcases Nat.eq_zero_or_pos es.length with h | h
  · rw [h] at hc'
    exact (back1_nil Fc n h84 hro l Bs c A J W hc' h0).mono fun e W' ⟨he, hj⟩ => ⟨he, .inl ⟨_, rfl, by rw [h]; exact hj⟩⟩
  · obtain ⟨b, o, rfl, hb, hcell⟩ := hcs h
    exact back1_in Fc n h84 hro hn l Bs n₀ b o es.length c _ dv hd hlen hcl hb hBs J Jx hY W hc' (fun k hk => ⟨(hW'.cell (p := ⟨b, o + k * 2, none⟩) hb).trans (hcell k hk).1, (hW'.cell (p := ⟨b, o + k * 2 + 1, none⟩) hb).trans (hcell k hk).2⟩) h0
end Go.Proofs.Ytniccejlmbfpdaa
