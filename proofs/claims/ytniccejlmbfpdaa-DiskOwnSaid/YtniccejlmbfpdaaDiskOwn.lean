/-
  DiskOwn.
-/
import Derived.Test.YtniccejlmbfpdaaD8
import Derived.Test.YtniccejlmbfpdaaLaw
namespace Go.Proofs.Ytniccejlmbfpdaa
open Go.ChangeShapes Go.WideShapes Go.ChangeAt Go.RowKit
attribute [local go_sem] max2_int min2_int max_two min_two

def ow (f : UInt8) : List UInt8 := k0.set 3 f
def od1 (f : UInt8) : Dk := (writeD 2 (newD 2 64) 1 (ow f)).2
def od2 (f : UInt8) : Dk := (syncD (od1 f)).2
theorem ow_len (f : UInt8) : (ow f).length = 64 := by kernel_rfl
theorem ow_get (f : UInt8) : (ow f)[3]? = some f := by kernel_rfl
theorem od1_read (f : UInt8) : readD 2 (od1 f) 1 = (0, ow f) := by kernel_rfl
theorem od2_kept (f : UInt8) : ((od2 f).kept.length, (od2 f).kept[67]?) = (128, some f) := by kernel_rfl
theorem od2_read (f : UInt8) : readD 2 (od2 f) 1 = (0, ow f) := by kernel_rfl

set_option maxRecDepth 100000 in
set_option maxHeartbeats 1000000 in
theorem downs_walk (w : World) (f t : Int) (hf0 : 0 ≤ f ∧ f ≤ 255) : Calls Try.prog 7 #[.int .u8 f, .int .u8 t] w fun e w' => e = .returned (.bool true) ∧ Below w.heap.size w w' := by
  obtain ⟨fb, rfl⟩ : ∃ fb : UInt8, (fb.toNat : Int) = f := ⟨UInt8.ofNat f.toNat, by simp [UInt8.toNat_ofNat']; omega⟩
  clear hf0
  obtain ⟨z, hz⟩ : ∃ z, z = k0 := ⟨_, rfl⟩
  have hmk : ∀ w, (Instr.makeSlice 44 (.int .i64 64) (.int .i64 64)).run Try.prog w = .ok (.slice (some ⟨w.heap.size, 0, none⟩) 64 64) (w.alloc (.cells (z.map bv).toArray 5)) := fun w => by rw [hz]; exact make_bytes w 64 (by omega)
  have hmc : ∀ w : World, (w.alloc (.cells (z.map bv).toArray 5)).cell? ⟨w.heap.size, 3, none⟩ = some (.int .u8 0) := fun w => by
    have h := blk_at (heap_alloc_new w (.cells (z.map bv).toArray 5)) 3
    rw [h, hz]; rfl
  have hmf : ∀ w : World, (w.alloc (.cells (z.map bv).toArray 5)).frozen? ⟨w.heap.size, 3, none⟩ = false := fun w => blk_free (heap_alloc_new w _) 3
  have hrow : (((z.map bv).set 3 (.int .u8 (fb.toNat : Int))).toArray) = ((ow fb).map bv).toArray := by rw [hz, ow, List.map_set]; rfl
  clear hz
  go_enter Try.func7, Try.ntmps7
  go_wp2_with fail
  refine (dknown_spec w).mono ?_
  rintro e w1 ⟨rfl, hu1⟩
  go_wp2_with fail
  refine (newOf w w1 hu1 2 64 (by omega) (by omega) (by omega) (by omega)).mono ?_
  rintro e w2 ⟨p, g, rfl, hu2, hm2⟩
  have hup := (Upd.refl Non w2).alloc (.cells ((ow fb).map bv).toArray 5)
  have hblk := heap_alloc_new w2 (.cells ((ow fb).map bv).toArray 5)
  have hlt2 := hm2.lt
  go_wp2_with fail
  generalize w2.alloc (.cells ((ow fb).map bv).toArray 5) = W3 at hup hblk ⊢
  have hrd := rd_row hblk (by rw [ow_len]; decide)
  rw [ow_len] at hrd
  refine ((hm2.non hup).write (x := 1) hrd (fun q hq => by have hq : q = w2.heap.size := hq; exact ⟨by rw [hq]; exact blk_lt hblk, fun e => by have e : q = p := e; omega⟩) (by decide) (by decide) (by rw [ow_len]; decide)).mono ?_
  rintro e w4 ⟨rfl, hm4, hu4⟩
  change Mine w w4 _ p g 2 (od1 fb) at hm4
  have hb4 : w4.heap[w2.heap.size]? = some (.cells ((ow fb).map bv).toArray 5 (0, 0)) := (hu4.block _ (blk_lt hblk) (fun h => by rcases h with h | h | h; omega; omega; exact h)).trans hblk
  have hc4 : w4.cell? ⟨w2.heap.size, 3, none⟩ = some (.int .u8 (fb.toNat : Int)) := by rw [blk_at hb4]; simp [ow_get, bv]
  have hf4 : w4.frozen? ⟨w2.heap.size, 3, none⟩ = false := blk_free hb4 3
  have hge := hm4.2.2.1
  have hsz3 := hup.size
  have hsz3' := blk_lt hblk
  have hu2' := hu2.size
  have hwn : ¬ Ext Non W3 w4 w2.heap.size := fun h => h.elim id fun h => by have := h.1; omega
  have hsw := hm2.2.2.2.2.size
  go_wp2_with fail
  refine ((hm4.set (a := ⟨w2.heap.size, 3, none⟩) hsw hwn (by show w2.heap.size ≠ p; omega) (by show w2.heap.size ≠ g; omega) _).readF 1).mono ?_
  rintro e w5 ⟨hu5, v5, rfl, hr5, hz5⟩
  have hm5 := (hm4.set (a := ⟨w2.heap.size, 3, none⟩) hsw hwn (by show w2.heap.size ≠ p; omega) (by show w2.heap.size ≠ g; omega) (.int .u8 (bits .xor .u8 (fb.toNat : Int) t))).non hu5
  rw [od1_read] at hr5 ⊢
  have hm4s := hm4.lt
  have hs4 : (w4.setCell ⟨w2.heap.size, 3, none⟩ (.int .u8 (bits .xor .u8 (fb.toNat : Int) t))).heap.size = w4.heap.size := by simp [World.setCell]
  obtain ⟨b5, o5, c5, e5, _, hF5, _⟩ := hr5.byte (k := 0) (by rw [ow_len]; decide)
  rw [ow_len] at e5
  subst e5
  have q5 : w5.cell? ⟨b5, o5 + 3, none⟩ = some (.int .u8 (fb.toNat : Int)) := byte_at hr5 (ow_get fb)
  have f5 : w5.frozen? ⟨b5, o5 + 3, none⟩ = false := hz5 b5 o5 64 c5 rfl 3 (by decide)
  have hb5 : w4.heap.size ≤ b5 := by have := hF5.1; omega
  have hm4' := hm4.2.2.2.2.size
  have hx5 : ¬ Ext Non W3 w4 b5 := fun h => h.elim id fun h => by have := h.2; omega
  go_wp2_with fail
  have hm6 := hm5.set (a := ⟨b5, o5 + 3, none⟩) (by show w.heap.size ≤ b5; omega) hx5 (by show b5 ≠ p; omega) (by show b5 ≠ g; omega) (.int .u8 (((fb.toNat : Int) + 1) % 256))
  refine hm6.sync.mono ?_
  rintro e w6 ⟨rfl, hm7, hu7⟩
  change Mine w w6 _ p g 2 (od2 fb) at hm7
  generalize (syncD (od1 fb)).1 = r6
  have hs5 : (w5.setCell ⟨b5, o5 + 3, none⟩ (.int .u8 (((fb.toNat : Int) + 1) % 256))).heap.size = w5.heap.size := by simp [World.setCell]
  have hs7 := hu7.size
  go_wp2_with fail
  refine hm7.bytesF.mono ?_
  rintro e w8 ⟨v8, rfl, hu8, hr8, hz8⟩
  have hk := od2_kept fb
  simp only [Prod.mk.injEq] at hk
  obtain ⟨hk1, hk2⟩ := hk
  have hm8 := hm7.non hu8
  obtain ⟨b8, o8, c8, e8, _, hF8, _⟩ := hr8.byte (k := 0) (by rw [hk1]; decide)
  rw [hk1] at e8
  subst e8
  have q8 : w8.cell? ⟨b8, o8 + 67, none⟩ = some (.int .u8 (fb.toNat : Int)) := byte_at hr8 hk2
  have f8 : w8.frozen? ⟨b8, o8 + 67, none⟩ = false := hz8 b8 o8 128 c8 rfl 67 (by decide)
  have hb8 : w6.heap.size ≤ b8 := hF8.1
  have hs5' := hu5.size
  have hx8 : ¬ Ext Non W3 w4 b8 := fun h => h.elim id fun h => by have := h.2; omega
  have hl7 := hm7.lt
  have hm7' := hm7.2.2.2.2.size
  go_wp2_with fail
  have hm9 := hm8.set (a := ⟨b8, o8 + 67, none⟩) (by show w.heap.size ≤ b8; omega) hx8 (by show b8 ≠ p; omega) (by show b8 ≠ g; omega) (.int .u8 (((fb.toNat : Int) + 1) % 256))
  refine (hm9.readF 1).mono ?_
  rintro e w9 ⟨hu9, v9, rfl, hr9, hz9⟩
  rw [od2_read] at hr9 ⊢
  obtain ⟨b9, o9, c9, e9, _, _, _⟩ := hr9.byte (k := 0) (by rw [ow_len]; decide)
  rw [ow_len] at e9
  subst e9
  have q9 : w9.cell? ⟨b9, o9 + 3, none⟩ = some (.int .u8 (fb.toNat : Int)) := byte_at hr9 (ow_get fb)
  go_wp2_with fail
  go_ret
  exact ⟨rfl, (hm9.non hu9).2.2.2.2.below⟩
set_option maxRecDepth 100000 in
theorem diskOwn_lifted (os : Os) (started : os.Started) (H : Type) (enc : TypeId × Value → H) :
    ReturnsInHanded {} Try.checked os 7 .any (Rows.diskOwnSpec.pre6 enc Try.prog Try.f7 Rows.diskOwnRow.domain false) (Rows.diskOwnSpec.post enc Try.prog Try.f7 false true false false) := by
  refine returnsInHanded_of_change_sized (C := Try.checked) own started (by kernel_rfl) Try.func7
    (ChangeSpec.witness6 (enc := enc) (C := Try.checked) false ⟨#[], #[.int .u8 0, .int .u8 0], []⟩ 8 (by kernel_rfl) (by kernel_rfl) (by kernel_rfl) (by kernel_rfl)) ?_
  intro W base args ds gs before hval0 hW hcnd hsz0 _
  have hval : ∀ (j : Nat) t v, Try.f7.params[j]? = some t → args[j]? = some v → Value.okWide Try.prog W .any base t v := hval0
  have hW' := hW
  obtain ⟨p, q, hA0, hV, rfl, hfz, hnd⟩ := hW
  have hA : DataW.TrodAll enc Try.prog W 0 (fun _ => true) true Try.f7.params.toList args.toList ds p := hA0
  have hsz : (DataW.weightsEach Try.prog (Try.f7.params.toList ++ Rows.diskOwnSpec.plain.varTypes Try.prog) (ds ++ gs)).all (· ≤ reachBytes) = true := hsz0
  rw [Try.params7] at hA hval hsz
  obtain ⟨v0, vs0, d0, ds0, p0, q0, hargs, rfl, rfl, h0, r0⟩ := trodAll_cons hA
  obtain ⟨v1, vs1, d1, ds1, p1, q1, rfl, rfl, rfl, h1, r1⟩ := trodAll_cons r0
  obtain ⟨rfl, rfl, rfl⟩ := trodAll_nil r1
  obtain rfl : args = #[v0, v1] := by cases args; simp_all
  obtain ⟨rfl, rfl⟩ := trodVars_none hV
  obtain ⟨n0, rfl, rfl, rfl, w0⟩ := open_int Try.underlying5 (hval 0 5 v0 rfl rfl) h0
  have b0 := bounds_u8 w0
  obtain ⟨n1, rfl, rfl, rfl, w1⟩ := open_int Try.underlying5 (hval 1 5 v1 rfl rfl) h1
  have b1 := bounds_u8 w1
  clear hA0 hval0
  refine (downs_walk W _ _ b0).mono fun e W' ⟨he, bel⟩ => ?_
  subst he
  exact ⟨_, rfl, _, _, _, [], _, [], hW', trodAll_mk1 (shut_bool Try.underlying4 _), (trodAll_cons_mk (shut_int Try.underlying5 w0) (trodAll_cons_mk (shut_int Try.underlying5 w1) trodAll_mk0)), rfl, bel.frame _, fun h => by cases h⟩

theorem diskOwn_over : Rows.diskOwnRow.holds Try.pinned (OpenSpec.ofChange Rows.diskOwnSpec) :=
  OpenClaim.holds_of_wide 7 Try.f7 rfl rfl rfl rfl rfl rfl rfl ⟨rfl, rfl, rfl, rfl, rfl⟩ rfl rfl rfl rfl rfl (by kernel_rfl) Try.func7 (by kernel_rfl)
    (of_decide_eq_true (by kernel_rfl)) (by unfold Func.isWrapper; first | (rw [if_pos (by decide +kernel)]; kernel_rfl) | (rw [if_neg (by decide +kernel)]; exact ⟨rfl, rfl⟩))
    (fun os started H enc _ => diskOwn_lifted os started H enc)

theorem diskOwn_holds : Rows.DiskOwnSaid := diskOwn_over
#print axioms diskOwn_holds

end Go.Proofs.Ytniccejlmbfpdaa
