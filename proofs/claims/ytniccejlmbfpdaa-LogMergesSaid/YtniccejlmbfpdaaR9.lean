/-
  The walk of the law's fresh, and plain facts on merging.
-/
import Derived.Test.YtniccejlmbfpdaaR8
namespace Go.Proofs.Ytniccejlmbfpdaa
open Go.RowKit
attribute [local go_sem] max2_int min2_int max_two min_two

def freshB (l : List Ent) (k : Nat) (u : Int) : Bool := !((l[k]?.map (·.1)) == some u)
set_option maxRecDepth 100000 in
theorem fresh_spec (w : World) (F : Nat → Prop) (v : Value) (es : List Ent) (k : Nat) (u : Int) (h : Rd entE w F v es) :
    Calls Try.prog 25 #[v, .int .i64 k, .int .i64 u] w fun e w' => e = .returned (.bool (freshB es k u)) ∧ w = w' := by
  obtain ⟨A, c, hv, hc, _⟩ := h.shape
  subst hv
  by_cases hk : k < es.length
  · obtain ⟨b, off, c', dv, e1, _, hf, hdl, hd, c0, c1⟩ := h.ent hk
    cases e1
    have hfb : freshB es k u = (es[k].1 != u) := by
      simp only [freshB, List.getElem?_eq_getElem hk, Option.map_some]
      rfl
    rw [hfb]
    generalize es[k].1 = y at c0
    clear hfb
    have hd1 : decide (es.length ≤ k) = false := decide_eq_false (by omega)
    obtain ⟨q, hq⟩ : ∃ q, (y != u) = q := ⟨_, rfl⟩
    rw [hq]
    cases q
    all_goals
      go_enter Try.func25, Try.ntmps25
      go_wp2
      go_ret
      exact ⟨rfl, rfl⟩
  · have hfb : freshB es k u = true := by
      simp [freshB, List.getElem?_eq_none (show es.length ≤ k by omega)]
    rw [hfb]
    have hd1 : decide (es.length ≤ k) = true := decide_eq_true (by omega)
    go_enter Try.func25, Try.ntmps25
    go_wp2
    go_ret
    exact ⟨rfl, rfl⟩

/-- each entry is one of mine or one of theirs, at its place -/
def Mix (mine theirs es : List Ent) : Prop := ∀ (k : Nat) (e : Ent), es[k]? = some e → mine[k]? = some e ∨ theirs[k]? = some e
theorem met_each (i t : Int) (es : List Ent) : ∀ (l : List Ent) (y : Int) (j : Nat) (h : j < l.length), j < met i t es y l → matchB i t es (y + j) l[j].1 = true
  | [], _, _, h, _ => absurd h (by simp)
  | e :: l, y, j, h, hm => by
    simp only [met] at hm
    split at hm
    · rename_i hb
      match j with
      | 0 => simpa using hb
      | j + 1 =>
        have hl : j < l.length := by simpa using h
        have := met_each i t es l (y + 1) j hl (by omega)
        rw [show y + 1 + (j : Int) = y + ((j + 1 : Nat) : Int) by omega] at this
        exact this
    · omega
theorem match_get {es : List Ent} {k : Nat} {u : Int} (h : matchB 0 0 es (k + 1) u = true) : ∃ e, es[k]? = some e ∧ e.1 = u := by
  have hin := (match_in h).2
  have hk : k < es.length := by omega
  rw [show (k : Int) + 1 = 0 + 1 + (k : Int) by omega, match_at 0 0 es k hk] at h
  exact ⟨es[k], List.getElem?_eq_getElem hk, by simpa using h⟩
/-- behind Merge: the entries handed on are there, by their terms; nothing has come that is neither mine nor theirs -/
theorem merged_all {theirs es : List Ent} {fr pa : Nat} (h1 : fr ≤ pa) (h2 : pa ≤ theirs.length)
    (hm : met 0 0 es (fr + 1) ((theirs.take pa).drop fr) = ((theirs.take pa).drop fr).length) : ∀ k, fr ≤ k → k < pa → ∃ e f, es[k]? = some e ∧ theirs[k]? = some f ∧ e.1 = f.1 := by
  intro k h3 h4
  have hl : ((theirs.take pa).drop fr).length = pa - fr := by simp; omega
  have := met_each 0 0 es ((theirs.take pa).drop fr) (fr + 1) (k - fr) (by omega) (by rw [hm]; omega)
  rw [show (fr : Int) + 1 + ((k - fr : Nat) : Int) = k + 1 by omega] at this
  obtain ⟨e, he, hu⟩ := match_get this
  refine ⟨e, theirs[k]'(by omega), he, List.getElem?_eq_getElem (by omega), ?_⟩
  rw [hu]
  simp only [List.getElem_drop, List.getElem_take]
  congr 2
  omega
theorem merged_some {mine theirs es : List Ent} {fr pa m : Nat} (h1 : fr ≤ pa) (h2 : pa ≤ theirs.length) (hmix : Mix mine theirs es)
    (hm : met 0 0 es (fr + 1) ((theirs.take pa).drop fr) = m) (hlt : m < ((theirs.take pa).drop fr).length) (hle : fr + m ≤ es.length) :
    Mix mine theirs (es.take (fr + m) ++ ((theirs.take pa).drop fr).drop m) ∧ (es.take (fr + m) ++ ((theirs.take pa).drop fr).drop m).length = pa ∧
    ∀ k, fr ≤ k → k < pa → ∃ e f, (es.take (fr + m) ++ ((theirs.take pa).drop fr).drop m)[k]? = some e ∧ theirs[k]? = some f ∧ e.1 = f.1 := by
  have hl : ((theirs.take pa).drop fr).length = pa - fr := by simp; omega
  have htl : (es.take (fr + m)).length = fr + m := by simp; omega
  have hat : ∀ k, fr + m ≤ k → (es.take (fr + m) ++ ((theirs.take pa).drop fr).drop m)[k]? = (theirs.take pa)[k]? := by
    intro k hk
    rw [List.getElem?_append_right (by omega), List.getElem?_drop, List.getElem?_drop, htl]
    congr 1
    omega
  have hbe : ∀ k, k < fr + m → (es.take (fr + m) ++ ((theirs.take pa).drop fr).drop m)[k]? = es[k]? := by
    intro k hk
    rw [List.getElem?_append_left (by omega), List.getElem?_take, if_pos hk]
  refine ⟨fun k e he => ?_, by simp only [List.length_append, htl, List.length_drop, hl]; omega, fun k h3 h4 => ?_⟩
  · rcases Nat.lt_or_ge k (fr + m) with h | h
    · rw [hbe k h] at he
      exact hmix k e he
    · rw [hat k h, List.getElem?_take] at he
      split at he
      · exact .inr he
      · cases he
  · rcases Nat.lt_or_ge k (fr + m) with h | h
    · rw [hbe k h]
      have := met_each 0 0 es ((theirs.take pa).drop fr) (fr + 1) (k - fr) (by omega) (by rw [hm]; omega)
      rw [show (fr : Int) + 1 + ((k - fr : Nat) : Int) = k + 1 by omega] at this
      obtain ⟨e, he, hu⟩ := match_get this
      refine ⟨e, theirs[k]'(by omega), he, List.getElem?_eq_getElem (by omega), ?_⟩
      rw [hu]
      simp only [List.getElem_drop, List.getElem_take]
      congr 2
      omega
    · rw [hat k h, List.getElem?_take, if_pos h4]
      exact ⟨theirs[k]'(by omega), theirs[k]'(by omega), List.getElem?_eq_getElem (by omega), List.getElem?_eq_getElem (by omega), rfl⟩
theorem mix_fresh {mine theirs es : List Ent} (h : Mix mine theirs es) {k : Nat} {e f : Ent} (he : es[k]? = some e) (hf : theirs[k]? = some f) (ht : e.1 = f.1) (hd : e.2 ≠ f.2) : freshB mine k f.1 = false := by
  rcases h k e he with h | h
  · simp [freshB, h, ht]
  · rw [hf] at h
    cases h
    exact absurd rfl hd

end Go.Proofs.Ytniccejlmbfpdaa
