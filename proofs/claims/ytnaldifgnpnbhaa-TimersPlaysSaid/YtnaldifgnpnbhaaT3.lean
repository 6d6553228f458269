/-
  The walk of slices.Delete at items, of one place.
-/
import Derived.Test.YtnaldifgnpnbhaaT2
namespace Go.Proofs.Ytnaldifgnpnbhaa
open Go.RowKit

/-- append in the midst of a block, whatever the source -/
theorem run_appendO {P : Program} {e : TypeId} {F : Nat → Prop} (w : World) (t ty : TypeId) (k : Nat) (ht : P.underlying t = some (.slice e)) (hs : (P.info? e).map (·.size) = some k) (hk : 0 < k)
    (g i m c N : Nat) (B : Option Addr) (c' : Nat) (cur ds : List Value) (et : TypeId) (hg : w.heap[g]? = some (.cells cur.toArray et (0, 0))) (hat : At w F B ds) (hdl : ds.length = m * k) (h1 : ∀ u ∈ ds, u.oneCell' = true) (hN : i + m = N) (hc : N ≤ c) (hfit : i * k + ds.length ≤ cur.length) :
    (Builtin.append_ #[t, t] ty #[.slice (some ⟨g, 0, none⟩) i c, .slice B m c']).run P w = .ok (.slice (some ⟨g, 0, none⟩) N c) (w.setRow g (cur.take (i * k) ++ ds ++ cur.drop (i * k + ds.length)).toArray) := by
  subst hN
  obtain ⟨ti, hi, hz⟩ := Option.map_eq_some_iff.1 hs
  have hfs := run_first (P := P) (c := c') hat hdl hk
  have hst := run_storeCells_at P g (i * k) et ds 0 cur.toArray w hg (by simpa using hfit) h1
  have hadd : (⟨g, 0, none⟩ : Addr).add (i * k) = ⟨g, i * k, none⟩ := by unfold Addr.add; split <;> simp_all
  simp only [Nat.add_zero] at hst
  simp [Builtin.append_, run_underlying ht, sizeOf, typeInfo, hi, Builtin.lenOf, hz, hfs, hc, hadd, hst]

def DelPost (w : World) (g : Nat) (xs : List It) (i : Nat) (e : Ending) (w' : World) : Prop :=
  ∃ v', e = .returned v' ∧ Upd (fun q => q = g) w w' ∧ Buf itE 33 w' g Non v' (xs.take i ++ xs.drop (i + 1))

set_option maxRecDepth 100000 in
set_option maxHeartbeats 4000000 in
theorem delete_spec (w : World) (g i : Nat) (xs : List It) (v : Value) (hb : Buf itE 33 w g Non v xs) (hi : i < xs.length) (hn : xs.length ≤ 1048576) :
    Calls Try.prog 34 #[v, .int .i64 i, .int .i64 (i + 1 : Nat)] w (DelPost w g xs i) := by
  rcases hb with ⟨_, h⟩ | ⟨c, cs, rest, rfl, hg, hrel, hlen, hc, hm⟩
  · subst h
    simp at hi
  obtain ⟨N, hN⟩ : ∃ N, xs.length = N + 1 := ⟨xs.length - 1, by omega⟩
  rw [hN] at hi hn hc ⊢
  rw [sz_itE] at hlen
  rw [maxLen_eq] at hm
  obtain ⟨ca, cb', rfl, hal, hbl', ra, rb'⟩ := hrel.split i (by omega)
  obtain ⟨cx, cb, rfl, hxl, hbl, _, rb⟩ := rb'.split 1 (by simp; omega)
  rw [sz_itE] at hal hbl hxl hbl'
  rw [List.drop_drop] at rb
  rw [List.length_drop, hN] at hbl
  have hrl : rest.length = c * 6 - (N + 1) * 6 := by simp only [List.length_append] at hlen hbl'; rw [hN] at hbl'; omega
  have hbl1 : cb.length = (N - i) * 6 := by rw [hbl]; congr 1; omega
  have hcbo : ∀ u ∈ cb, u.oneCell' = true := fun u hu => hrel.one u (by simp [hu])
  obtain ⟨cur, hcur⟩ : ∃ cur, cur = ca ++ (cx ++ cb) ++ rest := ⟨_, rfl⟩
  rw [← hcur] at hg
  obtain ⟨L1, hL1⟩ : ∃ L1, L1 = cur.take (i * 6) ++ cb ++ cur.drop (i * 6 + cb.length) := ⟨_, rfl⟩
  have hcl : cur.length = c * 6 := by rw [hcur]; exact hlen
  have hr : ∀ ty B m c', m = N - i → At w.drew (fun q => q = g) B cb → (Builtin.append_ #[27, 27] ty #[.slice (some ⟨g, 0, none⟩) i c, .slice B m c']).run Try.prog w.drew = .ok (.slice (some ⟨g, 0, none⟩) N c) (w.drew.setRow g L1.toArray) := fun ty B m c' hmm hat => by
    have := run_appendO (P := Try.prog) w.drew 27 ty 6 Try.underlying27 sz33 (by decide) g i m c N B c' cur cb 33 hg hat (by rw [hmm]; exact hbl1) hcbo (by omega) (by omega) (by rw [hcl, hbl1]; omega)
    rw [this, hL1]
  have hl1 : L1.length = c * 6 := by rw [hL1]; simp only [List.length_append, List.length_take, List.length_drop, hcl, hbl1]; omega
  have hL1e : ∃ y6, L1 = (ca ++ cb) ++ (y6 ++ rest) ∧ y6.length = 6 := by
    refine ⟨(cx ++ cb).drop cb.length, ?_, by rw [List.length_drop, List.length_append]; omega⟩
    have e : cur = ca ++ ((cx ++ cb) ++ rest) := by rw [hcur, List.append_assoc]
    rw [hL1, e, List.take_left' hal, ← List.drop_drop, List.drop_left' hal, List.drop_append_of_le_length (by simp)]
  obtain ⟨y6, hL1e, hy6⟩ := hL1e
  obtain ⟨W1, hW1⟩ : ∃ W1, W1 = w.drew.setRow g L1.toArray := ⟨_, rfl⟩
  have hg1 : W1.heap[g]? = some (.cells L1.toArray 33 (0, 0)) := by rw [hW1]; exact setRow_heap w.drew g cur.toArray L1.toArray 33 (0, 0) hg
  have hu1 : Upd (fun q => q = g) w W1 := by rw [hW1]; exact ((Upd.refl _ w).drew).trans (upd_setRow w.drew g L1.toArray)
  let z : Value := .agg #[.int .i64 0, .int .i64 0, .int .i64 0, .int .i64 0, .int .i64 0, .int .i64 0]
  have hzz : (Builtin.zeroCells z.cells 1).toList = List.replicate 6 (.int .i64 0) := by kernel_rfl
  obtain ⟨Z, hZ⟩ : ∃ Z, Z = (Builtin.zeroCells z.cells 1).toList := ⟨_, rfl⟩
  have hzl : Z.length = 6 := by rw [hZ, hzz]; rfl
  have hz1 : ∀ u ∈ Z, u.oneCell' = true := by rw [hZ, hzz]; intro u hu; rw [(List.mem_replicate.1 hu).2]; rfl
  have hclr : ∀ ty c', (Builtin.clear_ #[27] ty #[.slice (some ⟨g, N * 6, none⟩) 1 c']).run Try.prog W1 = .ok (.tuple #[]) (W1.setRow g ((ca ++ cb) ++ (Z ++ rest)).toArray) := fun ty c' => by
    have hsz : (Builtin.zeroCells z.cells 1).size = 6 := by kernel_rfl
    have := run_clearB (P := Try.prog) W1 27 ty 33 z g (N * 6) 1 c' L1 33 Try.underlying27 (by kernel_rfl) hg1 (by decide) (by rw [hsz, hl1]; omega) (by rw [← hZ]; exact hz1)
    rw [this, ← hZ, hsz, hL1e]
    have hab : (ca ++ cb).length = N * 6 := by rw [List.length_append, hal, hbl1]; omega
    rw [List.take_left' hab, ← List.drop_drop, List.drop_left' hab, List.drop_left' hy6, List.append_assoc]
  obtain ⟨L2, hL2⟩ : ∃ L2, L2 = (ca ++ cb) ++ (Z ++ rest) := ⟨_, rfl⟩
  have hfin : DelPost w g xs i (.returned (.slice (some ⟨g, 0, none⟩) N c)) (W1.setRow g L2.toArray) := by
    have hb := setRow_heap W1 g L1.toArray L2.toArray 33 (0, 0) hg1
    have hl : (xs.take i ++ xs.drop (i + 1)).length = N := by simp; omega
    refine ⟨_, rfl, hu1.trans (upd_setRow W1 g _), .inr ⟨c, ca ++ cb, Z ++ rest, by rw [hl], by rw [hb, hL2], ?_, ?_, by omega, by rw [maxLen_eq]; omega⟩⟩
    · exact Rel.append (ra.flat itE_flat) (rb.flat itE_flat)
    · simp only [List.length_append, hal, hbl1, hrl, hzl, sz_itE]; omega
  rw [← hL2] at hclr
  rw [← hW1] at hr
  have hatc : c = i + 1 → At w.drew (fun q => q = g) (some ⟨g, 0, none⟩) cb := fun h => by
    have : cb = [] := List.eq_nil_of_length_eq_zero (by rw [hbl1]; omega)
    rw [this]; exact At.nil _
  have hatd : At w.drew (fun q => q = g) (some ⟨g, (i + 1) * 6, none⟩) cb := fun _ => ⟨g, _, rfl, rfl, fun j hj => by
    show w.cell? _ = _
    rw [blk_at hg, hcur]
    simp only [List.getElem?_toArray]
    rw [List.append_assoc, List.getElem?_append_right (by omega), List.append_assoc, List.getElem?_append_right (by omega), List.getElem?_append_left (by omega)]
    congr 1; omega⟩
  clear hL2 hL1 hL1e hl1 hW1 hg1 hu1 hg hrel hlen hal hbl ra rb hcl hrl hcur hbl' rb' hbl1 hcbo hN hZ
  have hw1 : ((i + 1 : Nat) : Int) = (i : Int) + 1 := by omega
  have hb1 : (0 : Int) ≤ (i : Int) + 1 := by omega
  have htn : ((i : Int) + 1).toNat = i + 1 := by omega
  have hb3 : (i : Int) ≤ (N : Int) := by omega
  have hin : i ≤ N := by omega
  have hb4 : ¬ (c = N) := by omega
  have hb5 : ¬ (c = 0) := by omega
  have hnc : N + 1 ≤ c := by omega
  have hic : i ≤ c := by omega
  have hic' : (i : Int) ≤ (c : Int) := by omega
  have hb6 : (i : Int) ≤ (i : Int) + 1 := by omega
  rw [hw1]
  by_cases hci : c = i + 1
  · have hA := hatc hci
    obtain rfl : N = i := by omega
    subst hci
    have hr' := fun ty => hr ty _ 0 0 (by omega) hA
    clear hr hatd hatc
    go_enter Try.func34, Try.ntmps34
    go_wp2_with (fail)
    go_region_law (refine step_append_run rfl _ _ 27 27 rfl _ _ (by simp [Act.eval, Act.put]) (by simp [Act.eval, Act.put]) (hr' _) ?_)
    go_wp2_with (at_builtin; refine wpList_clear_run _ rfl _ 27 rfl _ rfl (hclr _ _) ?_)
    go_wp2
    go_ret
    exact hfin
  · have hr' := fun ty => hr ty _ (N - i) (c - (i + 1)) rfl hatd
    clear hr hatd hatc
    go_enter Try.func34, Try.ntmps34
    go_wp2_with (fail)
    go_region_law (refine step_append_run rfl _ _ 27 27 rfl _ _ (by simp [Act.eval, Act.put]) (by simp [Act.eval, Act.put]) (hr' _) ?_)
    go_wp2_with (at_builtin; refine wpList_clear_run _ rfl _ 27 rfl _ rfl (hclr _ _) ?_)
    go_wp2
    go_ret
    exact hfin
end Go.Proofs.Ytnaldifgnpnbhaa
