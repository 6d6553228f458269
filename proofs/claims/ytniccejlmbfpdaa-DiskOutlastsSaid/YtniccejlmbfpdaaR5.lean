/-
  The walk of the log's known example.
-/
import Derived.Test.YtniccejlmbfpdaaR4
import Derived.Test.YtniccejlmbfpdaaOpen
namespace Go.Proofs.Ytniccejlmbfpdaa
open Go.RowKit
attribute [local go_sem] max2_int min2_int max_two min_two

theorem bare_rel (w : World) (F : Nat → Prop) : ∀ ts : List Int, Rel entE w F (ts.map fun t => (t, [])) (ts.flatMap fun t => [.int .i64 t, .slice none 0 0])
  | [] => rfl
  | t :: ts => ⟨_, _, rfl, ⟨_, rfl, by simp, Rd.nil _ _ _⟩, bare_rel w F ts⟩
set_option maxHeartbeats 2000000 in
set_option maxRecDepth 100000 in
theorem known_spec (w : World) : Calls Try.prog 14 #[] w fun e w' => e = .returned (.bool true) ∧ Upd Non w w' := by
  have b1 := box_facts w #[.int .i64 1, .slice none 0 0, .int .i64 2, .slice none 0 0] 46
  have r1 := rd_box (E := entE) w #[.int .i64 1, .slice none 0 0, .int .i64 2, .slice none 0 0] 46 [(1, []), (2, [])] (bare_rel _ _ [1, 2]) (by decide)
  generalize hW : w.alloc (.cells #[.int .i64 1, .slice none 0 0, .int .i64 2, .slice none 0 0] 46) = W at b1 r1
  have HW := Lib.hid hW
  clear hW
  go_enter Try.func14, Try.ntmps14
  go_wp2_with fail
  rw [HW.out]
  refine (new_spec W _ _ 0 0 _ r1 Fin.new (by decide)).mono ?_
  rintro e w1 ⟨hu1, ⟨hno, _⟩ | ⟨_, p, F, rfl, hL1, hp, hF⟩⟩
  · exact absurd hno (by decide)
  · have s1 := b1.1.size
    go_wp2_with fail
    have b2 := box_facts w1 #[.int .i64 3, .slice none 0 0] 46
    have r2 := rd_box (E := entE) w1 #[.int .i64 3, .slice none 0 0] 46 [(3, [])] (bare_rel _ _ [3]) (by decide)
    generalize w1.alloc (.cells #[.int .i64 3, .slice none 0 0] 46) = W1 at b2 r2 ⊢
    have hL2 := hL1.non b2.1
    refine (merge_spec hL2 (by decide) (by decide) (by decide) r2 Fin.new ?_ (by decide) (by decide) 1 (by decide)).mono ?_
    · intro k hk
      have h1 := hk.1
      exact ⟨fun h => by have := (hF k h).2; omega, fun h => by have := hp.2; omega⟩
    rintro e w2 (⟨hno, _⟩ | ⟨_, hno, _⟩ | ⟨_, m, v, F2, hm, _, _, _, rfl, hu2, hL3, hF2, hr3⟩)
    · exact absurd hno (by decide)
    · exact absurd hno (by decide)
    · have hm0 : m = 0 := by rw [← hm]; decide
      subst hm0
      obtain ⟨A, c, rfl, _⟩ := hr3.shape
      have hL4 : Log w2 F2 p 0 0 [(1, []), (3, [])] := hL3
      have hup : Upd Non w w2 := (((b1.1.trans hu1).trans b2.1).trans' hu2 fun x hx h => by
        rcases h with h | h
        · have := hp.1; have := b1.2.1; omega
        · have := (hF x h).1; have := b1.2.1; omega)
      go_wp2_with fail
      refine (last_spec hL4 (by decide) (by decide) (by decide)).mono ?_
      rintro e w3 ⟨rfl, n3, rfl⟩
      rw [show ((0 : Int) + ([((1 : Int), ([] : List UInt8)), (3, [])].length : Nat)) = 2 from rfl, show lastT 0 [(1, []), (3, [])] = 3 from rfl]
      have hL5 : Log (w2.drewN n3) F2 p 0 0 [(1, []), (3, [])] := hL4.non ((Upd.refl _ _).drewN _)
      go_wp2_with fail
      refine (newer_spec hL5 (by decide) (by decide) (by decide) 1 4).mono ?_
      rintro e w4 ⟨rfl, n4, rfl⟩
      rw [show newer 0 0 [(1, []), (3, [])] 1 4 = true from by decide]
      have hL6 : Log (w2.drewN (n3 + n4)) F2 p 0 0 [(1, []), (3, [])] := hL4.non ((Upd.refl _ _).drewN _)
      go_wp2_with fail
      refine (newer_spec hL6 (by decide) (by decide) (by decide) 1 3).mono ?_
      rintro e w5 ⟨rfl, n5, rfl⟩
      rw [show newer 0 0 [(1, []), (3, [])] 1 3 = false from by decide]
      go_wp2
      go_ret
      exact ⟨rfl, hup.drewN _⟩

end Go.Proofs.Ytniccejlmbfpdaa
