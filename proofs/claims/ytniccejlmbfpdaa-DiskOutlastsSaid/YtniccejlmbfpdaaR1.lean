/-
  The walks of slices.Clone at bytes and of rlog.twins: what they answer is new memory that reads as what came in.
-/
import Derived.Test.YtniccejlmbfpdaaRows
import Derived.Test.YtniccejlmbfpdaaBase
namespace Go.Proofs.Ytniccejlmbfpdaa
open Go.RowKit
theorem info5 : (Try.prog.info? 5).map (fun i => (i.zero, i.size, i.bytes)) = some (some (.int .u8 0), byteE.sz, 1) := by kernel_rfl
theorem nil44 (w : World) (a : Option Addr) (n c : Nat) : (binOp .eql 44 (.slice a n c) (.slice none 0 0)).run Try.prog w = .ok (.bool a.isNone) w := Lib.run_eql_slice_nil w 44 5 a n c 0 0 Try.underlying44

set_option maxRecDepth 100000 in
theorem clone_bytes (w : World) (F : Nat → Prop) (v : Value) (d : List UInt8) (h : Rd byteE w F v d) (hF : Fin w F) (hl : d.length ≤ 140737488355328) :
    Calls Try.prog 63 #[v] w fun e w' => ∃ v', e = .returned v' ∧ Upd Non w w' ∧ Rd byteE w' (New w w') v' d := by
  obtain ⟨A, c, cs, rfl, h1, h2, h3, h4⟩ := h
  have hn := nil44
  rcases A with _ | ad
  · have hd : d.length = 0 := by
      rcases Nat.eq_zero_or_pos d.length with h0 | h0
      · exact h0
      · obtain ⟨_, _, h, _⟩ := h3 (by rw [h4.length]; simpa [byteE] using h0)
        cases h
    obtain rfl := List.eq_nil_of_length_eq_zero hd
    go_enter Try.func63, Try.ntmps63
    go_wp2
    go_ret
    exact ⟨_, rfl, Upd.refl _ _, Rd.nil _ _ _⟩
  · have hal := Upd.alloc (Upd.refl Non w) (.cells #[] 5)
    go_enter Try.func63, Try.ntmps63
    go_wp2_with (at_builtin; refine wpList_append (E := byteE) (e := 5) (F := Non) (xs := []) (ys := d) _ rfl (.tmp 5) (.tmp 6) 44 rfl (.int .u8 0) 1 Try.underlying44 info5 rfl (by decide) rfl (Own.empty _ _ _ _ _) (some ad) c rfl cs Non (h3.keep (alloc_keep hF _)) (h4.flat byteE_flat) (fun k h => h.elim) (Fin.non _) (by rw [maxLen_eq]; simp; omega) (by simp; omega) ?_; intro v' w1 hu ho)
    go_wp2
    go_ret
    exact ⟨_, rfl, hal.trans hu, by simpa using ho.rd.mono (fun k hk => by simp [Non, New] at hk ⊢; omega)⟩

theorem info46 : (Try.prog.info? 46).map (fun i => (i.zero, i.size, i.bytes)) = some (some (.agg #[.int .i64 0, .slice none 0 0]), entE.sz, 32) := by kernel_rfl
set_option maxHeartbeats 1000000 in
set_option maxRecDepth 100000 in
theorem twins_spec (w : World) (F : Nat → Prop) (v : Value) (es : List Ent) (h : Rd entE w F v es) (hF : Fin w F) (hl : es.length ≤ 4398046511104) :
    Calls Try.prog 58 #[v] w fun e w' => ∃ v', e = .returned v' ∧ Upd Non w w' ∧ Own entE 46 w' (New w w') v' es := by
  obtain ⟨A, c, hv, hc, _⟩ := h.shape
  subst hv
  go_enter Try.func58, Try.ntmps58
  go_wp2
  go_loopw [3, 8] (fun o i wr => ∃ k : Nat, k ≤ es.length ∧ i = .int .i64 k ∧ Own entE 46 wr (New w wr) o (es.take k) ∧ Upd Non w wr) (fun _ i _ => es.length - (intOf i).toNat)
  case atStart => exact ⟨0, Nat.zero_le _, rfl, by simpa using Own.nil _ _ _ _, Upd.refl _ _⟩
  case round =>
    obtain ⟨k, hk, rfl, ho, hu⟩ := hrel
    by_cases hlt : k < es.length
    · obtain ⟨b, off, c', dv, e1, _, hf, hdl, hd, c0, c1⟩ := (h.upd hu (Upd.fr_non hF)).ent hlt
      cases e1
      obtain ⟨A1, cA, rfl, _⟩ := hd.shape
      go_wp2_with fail
      obtain ⟨hbu, hbs, hbb⟩ := box_facts wr #[.int .i64 es[k].1, .slice A1 es[k].2.length cA] 46
      generalize wr.alloc (.cells #[.int .i64 es[k].1, .slice A1 es[k].2.length cA] 46) = W at hbu hbs hbb ⊢
      have b0 : W.cell? ⟨wr.heap.size, 0, none⟩ = some (.int .i64 es[k].1) := blk_at hbb 0
      have b1 : W.cell? ⟨wr.heap.size, 1, none⟩ = some (.slice A1 es[k].2.length cA) := blk_at hbb 1
      have hu0 : Upd Non wr W.drew := hbu.drew
      have hlw : wr.heap.size < W.drew.heap.size := by show _ < W.heap.size; omega
      have hdW := hd.upd hu0 (Upd.fr_non (hF.upd hu))
      have hFW := (hF.upd hu).upd hu0
      obtain ⟨h63, h48⟩ := take_len es k hlt es[k] 4398046511104 32 hl (by decide) (by decide)
      go_region_held3 (fun w' => w'.cell? ⟨wr.heap.size, 0, none⟩ = some (.int .i64 es[k].1) ∧ w'.cell? ⟨wr.heap.size, 1, none⟩ = some (.slice A1 es[k].2.length cA))
        (first | exact ⟨b0, b1⟩ | exact ⟨k0, k1⟩ | exact ⟨m0, m1⟩ | go_keep)
        (first
          | (go_at_call 63; refine (clone_bytes W.drew F _ _ hdW hFW hdl).mono ?_; rintro e w1 ⟨v1, rfl, hu1, hr1⟩; obtain ⟨A2, c2, rfl, hc2⟩ := hr1.shape; have k0 := (hu1.cell (p := ⟨wr.heap.size, 0, none⟩) hlw id).trans b0; have k1 := (hu1.cell (p := ⟨wr.heap.size, 1, none⟩) hlw id).trans b1; have hn1 : Fin w1 (New w wr) := (Fin.new.upd hu0).upd hu1; have ho1 := (ho.upd hu0 (Upd.fr_non Fin.new)).upd hu1 (Upd.fr_non (Fin.new.upd hu0)))
          | (refine step_append (E := entE) (e := 46) (F := New w wr) (xs := es.take k) (ys := [es[k]]) _ rfl (.tmp 12) (.tmp 19) 22 rfl _ 32 Try.underlying22 info46 rfl (by decide) rfl (ho1.alloc hn1 _) _ 1 rfl _ (New W.drew w1) (at_box _ _ _) (ent_rel (hr1.alloc Fin.new _) hdl) (sep_new (Nat.le_of_lt hlw)) (hn1.upd ((Upd.refl Non _).alloc _)) h63 h48 ?_; intro v' w2 hu2 ho2; have hu12 : Upd (New w wr) w1 w2 := ((Upd.refl _ w1).alloc _).trans hu2; have m0 := (hu12.cell (p := ⟨wr.heap.size, 0, none⟩) (Nat.lt_of_lt_of_le hlw hu1.size) (fun h => Nat.lt_irrefl _ h.2)).trans k0; have m1 := (hu12.cell (p := ⟨wr.heap.size, 1, none⟩) (Nat.lt_of_lt_of_le hlw hu1.size) (fun h => Nat.lt_irrefl _ h.2)).trans k1))
      go_wp2
      go_roundw
      case rel => exact ⟨k + 1, by omega, by go_num, by rw [take_snoc es k hlt]; exact ho2.mono fun x hx => by have := hu.size; have := hu1.size; have := hu2.size; have := hu12.size; simp only [New, World.size_alloc] at hx ⊢; omega, ((hu.trans hu0).trans hu1).trans' hu12 fun x hx h => absurd h.1 (by omega)⟩
      case measure => simp [intOf]; omega
    · go_wp2
      go_ret
      exact ⟨_, rfl, hu, by have e : es.take k = es := List.take_of_length_le (by omega); rw [e] at ho; exact ho⟩
end Go.Proofs.Ytniccejlmbfpdaa
