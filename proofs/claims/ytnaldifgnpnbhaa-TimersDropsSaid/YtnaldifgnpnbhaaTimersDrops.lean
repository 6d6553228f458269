/-
  What is dropped is just what is of that run, and all else stays, in order: the law TimersDrops returns true at every input.
-/
import Derived.Test.YtnaldifgnpnbhaaT16
namespace Go.Proofs.Ytnaldifgnpnbhaa
open Go.Maps Go.ChangeShapes Go.WideShapes Go.ChangeAt Go.RowKit

theorem neq33_same (a0 a1 a2 a3 a4 a5 : Int) (w : World) :
    (binOp .neq 33 (.agg #[.int .i64 a0, .int .i64 a1, .int .i64 a2, .int .i64 a3, .int .i64 a4, .int .i64 a5]) (.agg #[.int .i64 a0, .int .i64 a1, .int .i64 a2, .int .i64 a3, .int .i64 a4, .int .i64 a5])).run Try.prog w = .ok (.bool false) w := by
  rw [run_neq_struct]
  go_simp
attribute [local go_sem ↓ high] neq33_same
theorem sorted_ext : ∀ {a b : List It}, Sorted a → Sorted b → (∀ x, x ∈ a ↔ x ∈ b) → a = b
  | [], [], _, _, _ => rfl
  | [], y :: ys, _, _, h => by have := (h y).2 (by simp); simp at this
  | x :: xs, [], _, _, h => by have := (h x).1 (by simp); simp at this
  | x :: xs, y :: ys, ha, hb, h => by
    obtain ⟨a1, a2⟩ := List.pairwise_cons.1 ha
    obtain ⟨b1, b2⟩ := List.pairwise_cons.1 hb
    have hirr : ∀ z : It, ¬ cmpI z z < 0 := fun z => by rw [cmpI_refl]; omega
    have hxy : x = y := by
      rcases List.mem_cons.1 ((h x).1 (by simp)) with e | hx
      · exact e
      · rcases List.mem_cons.1 ((h y).2 (by simp)) with e | hy
        · exact e.symm
        · exact absurd (cmpI_trans _ _ _ (b1 x hx) (a1 y hy)) (hirr y)
    subst hxy
    congr 1
    refine sorted_ext a2 b2 fun z => ⟨fun hz => ?_, fun hz => ?_⟩
    · rcases List.mem_cons.1 ((h z).1 (List.mem_cons_of_mem _ hz)) with e | h'
      · subst e; exact absurd (a1 z hz) (hirr z)
      · exact h'
    · rcases List.mem_cons.1 ((h z).2 (List.mem_cons_of_mem _ hz)) with e | h'
      · subst e; exact absurd (b1 z hz) (hirr z)
      · exact h'
theorem sorted_drop {l : List It} (h : Sorted l) (fl ru : Int) : Sorted (dropR l fl ru) := h.sublist (List.filter_sublist ..)
theorem drop_mem (l : List It) (fl ru : Int) (x : It) : x ∈ dropR l fl ru ↔ x ∈ l ∧ ofRun fl ru x = false := by simp [dropR]
theorem drop_add_of {l : List It} (h : Sorted l) (fl ru : Int) (x : It) (hx : ofRun fl ru x = true) : dropR (addR l x).2 fl ru = dropR l fl ru :=
  sorted_ext (sorted_drop (sorted_add h x) fl ru) (sorted_drop h fl ru) fun y => by
    rw [drop_mem, drop_mem, add_mem h]
    constructor
    · rintro ⟨rfl | h1, h2⟩
      · rw [hx] at h2; cases h2
      · exact ⟨h1, h2⟩
    · exact fun ⟨h1, h2⟩ => ⟨.inr h1, h2⟩
theorem drop_add_not {l : List It} (h : Sorted l) (fl ru : Int) (x : It) (hx : ofRun fl ru x = false) : dropR (addR l x).2 fl ru = (addR (dropR l fl ru) x).2 :=
  sorted_ext (sorted_drop (sorted_add h x) fl ru) (sorted_add (sorted_drop h fl ru) x) fun y => by
    rw [drop_mem, add_mem h, add_mem (sorted_drop h fl ru), drop_mem]
    constructor
    · rintro ⟨rfl | h1, h2⟩
      · exact .inl rfl
      · exact .inr ⟨h1, h2⟩
    · rintro (rfl | ⟨h1, h2⟩)
      · exact ⟨.inl rfl, hx⟩
      · exact ⟨.inr h1, h2⟩
theorem drop_drop (l : List It) (fl ru : Int) : dropR (dropR l fl ru) fl ru = dropR l fl ru := by simp [dropR]
theorem drop_le (l : List It) (fl ru : Int) : (dropR l fl ru).length ≤ l.length := List.length_filter_le _ _

/-- how many are gone -/
def goneN (l : List It) (fl ru : Int) : Int := (l.length : Int) - (dropR l fl ru).length
theorem gone_of {l : List It} (h : Sorted l) (fl ru : Int) (x : It) (hx : ofRun fl ru x = true) : goneN (addR l x).2 fl ru = goneN l fl ru + (if (addR l x).1 = true then 1 else 0) := by
  unfold goneN
  rw [drop_add_of h fl ru x hx]
  by_cases hm : x ∈ l
  · rw [add_old h hm]; simp
  · obtain ⟨a1, a2, _⟩ := add_new h hm 0
    rw [a1, a2]; simp; omega
theorem gone_not {l : List It} (h : Sorted l) (fl ru : Int) (x : It) (hx : ofRun fl ru x = false) : goneN (addR l x).2 fl ru = goneN l fl ru := by
  unfold goneN
  rw [drop_add_not h fl ru x hx]
  by_cases hm : x ∈ l
  · rw [add_old h hm, add_old (sorted_drop h fl ru) ((drop_mem _ _ _ _).2 ⟨hm, hx⟩)]
  · obtain ⟨_, a2, _⟩ := add_new h hm 0
    obtain ⟨_, b2, _⟩ := add_new (sorted_drop h fl ru) (fun h' => hm ((drop_mem _ _ _ _).1 h').1) 0
    rw [a2, b2]; omega

theorem HOwn.sep {w W W' : World} {F G : Nat → Prop} {p q : Nat} {la lb la' : List It} (ha : HOwn w W F p la) (hb : HOwn w W G q lb) (hd : ∀ x, F x → ¬ G x) (hs : HStep 64 33 W F p la' W') :
    HOwn w W' (Ext F W W') p la' ∧ HOwn w W' G q lb ∧ ∀ x, Ext F W W' x → ¬ G x := by
  have h1 := ha.step hs
  refine ⟨h1, ⟨hb.1.upd hs.1 fun x hx hf => hd x hf hx, hb.2.1, h1.2.2⟩, fun x hx hg => hx.elim (fun h => hd x h hg) fun h => ?_⟩
  have := h.1
  have := hb.1.fin x hg
  omega

set_option maxRecDepth 100000 in
set_option maxHeartbeats 2000000 in
theorem drops_walk (w : World) (v : Value) (l : List It) (fl ru : Int) (h : Rd itE w (Old w) v l) (_hn : l.length ≤ 2932031007402) :
    Calls Try.prog 7 #[v, .int .i64 fl, .int .i64 ru] w fun e w' => e = .returned (.bool true) ∧ Below w.heap.size w w' := by
  obtain ⟨A, c, rfl, hc, _⟩ := h.shape
  by_cases h250 : l.length ≤ 250
  · go_enter Try.func7, Try.ntmps7
    go_wp2_with fail
    refine (tknown_spec w).mono ?_
    rintro e w1 ⟨rfl, hu1⟩
    go_wp2_with fail
    refine (new_spec w1).mono ?_
    rintro e w2 ⟨rfl, hu2, hh2⟩
    have ha2 : HOwn w w2 (fun q => q = w1.heap.size) w1.heap.size [] := ⟨hh2, fun q hq => by have hq : q = w1.heap.size := hq; have := hu1.size; omega, hu1.trans hu2⟩
    have hpl := hh2.lt
    go_wp2_with fail
    refine (new_spec w2).mono ?_
    rintro e w3 ⟨rfl, hu3, hh3⟩
    have ha3 := ha2.non hu3
    have hb3 : HOwn w w3 (fun q => q = w2.heap.size) w2.heap.size [] := ⟨hh3, fun q hq => by have hq : q = w2.heap.size := hq; have := hu1.size; have := hu2.size; omega, ha3.2.2⟩
    have hd3 : ∀ x, (fun q => q = w1.heap.size) x → ¬ (fun q => q = w2.heap.size) x := fun x h1 h2 => by have h1 : x = w1.heap.size := h1; have h2 : x = w2.heap.size := h2; omega
    have hg3 : goneN [] fl ru = 0 := by simp [goneN, dropR]
    clear hh2 hh3 ha2
    go_wp2_with fail
    generalize w1.heap.size = pa at ha3 hd3 ⊢
    generalize w2.heap.size = pb at hb3 hd3 ⊢
    go_loopw [9, 10, 11] (fun gv i _ wr => ∃ (k : Nat) (F G : Nat → Prop) (la : List It), k ≤ l.length ∧ i = .int .i64 k ∧ gv = .int .i64 (goneN la fl ru) ∧ HOwn w wr F pa la ∧ HOwn w wr G pb (dropR la fl ru) ∧ Hid (∀ x, F x → ¬ G x) ∧ Sorted la ∧ la.length ≤ k) (fun _ i _ _ => l.length - (intOf i).toNat)
    case atStart => exact ⟨0, _, _, [], Nat.zero_le _, rfl, by rw [hg3], ha3, hb3, Lib.hid hd3, List.Pairwise.nil, Nat.zero_le _⟩
    case round =>
      clear ha3 hb3 hd3 hg3
      obtain ⟨k, F, G, la, hk, rfl, rfl, ha, hb, hd, hso, hll⟩ := hrel
      have hux := ha.2.2
      have hdl := drop_le la fl ru
      by_cases hlt : k < l.length
      · obtain ⟨b1, o1, c1, e1, _, hb1, hxw, m0, m1, m2, m3, m4, m5⟩ := (h.upd hux (Upd.fr_non (Fin.old w))).it hlt
        cases e1
        obtain ⟨x, hx⟩ : ∃ x, l[k] = x := ⟨_, rfl⟩
        rw [hx] at hxw m0 m1 m2 m3 m4 m5
        clear hx
        have hb1' : b1 < w.heap.size := hb1
        have hbW : b1 < wr.heap.size := Nat.lt_of_lt_of_le hb1' hux.size
        have hbF : ¬ F b1 := fun hf => by have := ha.2.1 b1 hf; omega
        obtain ⟨la', hla'⟩ : ∃ la', (addR la x).2 = la' := ⟨_, rfl⟩
        obtain ⟨is, his⟩ : ∃ is, (addR la x).1 = is := ⟨_, rfl⟩
        have hso' : Sorted la' := by rw [← hla']; exact sorted_add hso x
        have hll' : la'.length ≤ k + 1 := by rw [← hla']; have := add_len la x; omega
        have HA : Calls Try.prog 12 #[.pointer (some ⟨pa, 0, none⟩), .agg #[.int .i64 x.at_, .int .i64 x.flow, .int .i64 x.run, .int .i64 x.ref, .int .i64 x.turn, .int .i64 x.kind]] wr (fun e w' => e = .returned (.bool is) ∧ HStep 64 33 wr F pa la' w') :=
          (add_spec wr F pa la x ha.1 (hso.srt (by omega) x) hxw).mono fun e w' h => by unfold AddPost at h; rw [his, hla'] at h; exact h
        by_cases hof : x.flow = fl ∧ x.run = ru
        · have hofr : ofRun fl ru x = true := by simp [ofRun, hof.1, hof.2]
          have hg := gone_of hso fl ru x hofr
          have hdr := drop_add_of hso fl ru x hofr
          rw [hla'] at hdr
          rw [his, hla'] at hg
          have HG := Lib.hid hg
          have HDR := Lib.hid hdr
          have HF1 := Lib.hid hof.1
          have HF2 := Lib.hid hof.2
          clear hg hdr hla' his hofr hof
          go_wp2_with fail
          with_reducible refine HA.mono ?_
          rintro e w4 ⟨rfl, hst⟩
          obtain ⟨sa, sb, sd⟩ := ha.sep hb hd.out hst
          have n0 := (hst.1.cell (p := ⟨b1, o1 + k * 6, none⟩) hbW hbF).trans m0
          have n1 := (hst.1.cell (p := ⟨b1, o1 + k * 6 + 1, none⟩) hbW hbF).trans m1
          have n2 := (hst.1.cell (p := ⟨b1, o1 + k * 6 + 2, none⟩) hbW hbF).trans m2
          have n3 := (hst.1.cell (p := ⟨b1, o1 + k * 6 + 3, none⟩) hbW hbF).trans m3
          have n4 := (hst.1.cell (p := ⟨b1, o1 + k * 6 + 4, none⟩) hbW hbF).trans m4
          have n5 := (hst.1.cell (p := ⟨b1, o1 + k * 6 + 5, none⟩) hbW hbF).trans m5
          rw [HF1.out] at n1
          rw [HF2.out] at n2
          clear HA ha hb hd m0 m1 m2 m3 m4 m5
          cases is
          · go_wp2
            go_roundw
            case rel => exact ⟨k + 1, _, G, la', by omega, by go_num, by rw [HG.out]; simp, sa, by rw [HDR.out]; exact sb, Lib.hid sd, hso', hll'⟩
            case measure => simp [intOf]; omega
          · have hgb : -9223372036854775808 ≤ goneN la fl ru ∧ goneN la fl ru ≤ 1048576 := by unfold goneN; omega
            go_wp2
            go_roundw
            case rel => exact ⟨k + 1, _, G, la', by omega, by go_num, by rw [HG.out]; simp, sa, by rw [HDR.out]; exact sb, Lib.hid sd, hso', hll'⟩
            case measure => simp [intOf]; omega
        · by_cases hf1 : x.flow = fl
          · have hf2 : ¬ x.run = ru := fun h => hof ⟨hf1, h⟩
            have hofr : ofRun fl ru x = false := by simp [ofRun, hf2]
            have hf2' : (x.run == ru) = false := by simpa using hf2
            have HF1 := Lib.hid hf1
            clear hf1 hof
            have hg := gone_not hso fl ru x hofr
            have hdr := drop_add_not hso fl ru x hofr
            rw [hla'] at hdr
            rw [hla'] at hg
            have HG := Lib.hid hg
            have HDR := Lib.hid hdr
            clear hg hdr hla' his hofr
            go_wp2_with fail
            with_reducible refine HA.mono ?_
            rintro e w4 ⟨rfl, hst⟩
            obtain ⟨sa, sb, sd⟩ := ha.sep hb hd.out hst
            have n0 := (hst.1.cell (p := ⟨b1, o1 + k * 6, none⟩) hbW hbF).trans m0
            have n1 := (hst.1.cell (p := ⟨b1, o1 + k * 6 + 1, none⟩) hbW hbF).trans m1
            have n2 := (hst.1.cell (p := ⟨b1, o1 + k * 6 + 2, none⟩) hbW hbF).trans m2
            have n3 := (hst.1.cell (p := ⟨b1, o1 + k * 6 + 3, none⟩) hbW hbF).trans m3
            have n4 := (hst.1.cell (p := ⟨b1, o1 + k * 6 + 4, none⟩) hbW hbF).trans m4
            have n5 := (hst.1.cell (p := ⟨b1, o1 + k * 6 + 5, none⟩) hbW hbF).trans m5
            rw [HF1.out] at n1
            obtain ⟨rb, hrb⟩ : ∃ rb, (addR (dropR la fl ru) x).1 = rb := ⟨_, rfl⟩
            have HB : Calls Try.prog 12 #[.pointer (some ⟨pb, 0, none⟩), .agg #[.int .i64 x.at_, .int .i64 fl, .int .i64 x.run, .int .i64 x.ref, .int .i64 x.turn, .int .i64 x.kind]] w4 (fun e w' => e = .returned (.bool rb) ∧ HStep 64 33 w4 G pb (dropR la' fl ru) w') := by
              have h0 := (add_spec w4 G pb (dropR la fl ru) x sb.1 ((sorted_drop hso fl ru).srt (by omega) x) hxw).mono fun e w' h => (by unfold AddPost at h; rw [hrb, ← HDR.out] at h; exact h : e = .returned (.bool rb) ∧ HStep 64 33 w4 G pb (dropR la' fl ru) w')
              simp only [It.cells] at h0
              rw [HF1.out] at h0
              exact h0
            clear HA ha hb hd hrb m0 m1 m2 m3 m4 m5
            go_wp2_with fail
            with_reducible refine HB.mono ?_
            rintro e w5 ⟨rfl, hst2⟩
            obtain ⟨tb, ta, td⟩ := sb.sep sa (fun x h1 h2 => sd x h2 h1) hst2
            go_wp2
            go_roundw
            case rel => exact ⟨k + 1, _, _, la', by omega, by go_num, by rw [HG.out], ta, tb, Lib.hid (fun x h1 h2 => td x h2 h1), hso', hll'⟩
            case measure => simp [intOf]; omega
          · have hofr : ofRun fl ru x = false := by simp [ofRun, hf1]
            have hf1' : (x.flow == fl) = false := by simpa using hf1
            have hg := gone_not hso fl ru x hofr
            have hdr := drop_add_not hso fl ru x hofr
            rw [hla'] at hdr
            rw [hla'] at hg
            have HG := Lib.hid hg
            have HDR := Lib.hid hdr
            clear hg hdr hla' his hofr
            go_wp2_with fail
            with_reducible refine HA.mono ?_
            rintro e w4 ⟨rfl, hst⟩
            obtain ⟨sa, sb, sd⟩ := ha.sep hb hd.out hst
            have n0 := (hst.1.cell (p := ⟨b1, o1 + k * 6, none⟩) hbW hbF).trans m0
            have n1 := (hst.1.cell (p := ⟨b1, o1 + k * 6 + 1, none⟩) hbW hbF).trans m1
            have n2 := (hst.1.cell (p := ⟨b1, o1 + k * 6 + 2, none⟩) hbW hbF).trans m2
            have n3 := (hst.1.cell (p := ⟨b1, o1 + k * 6 + 3, none⟩) hbW hbF).trans m3
            have n4 := (hst.1.cell (p := ⟨b1, o1 + k * 6 + 4, none⟩) hbW hbF).trans m4
            have n5 := (hst.1.cell (p := ⟨b1, o1 + k * 6 + 5, none⟩) hbW hbF).trans m5
            obtain ⟨rb, hrb⟩ : ∃ rb, (addR (dropR la fl ru) x).1 = rb := ⟨_, rfl⟩
            have HB : Calls Try.prog 12 #[.pointer (some ⟨pb, 0, none⟩), .agg #[.int .i64 x.at_, .int .i64 x.flow, .int .i64 x.run, .int .i64 x.ref, .int .i64 x.turn, .int .i64 x.kind]] w4 (fun e w' => e = .returned (.bool rb) ∧ HStep 64 33 w4 G pb (dropR la' fl ru) w') := by
              have h0 := (add_spec w4 G pb (dropR la fl ru) x sb.1 ((sorted_drop hso fl ru).srt (by omega) x) hxw).mono fun e w' h => (by unfold AddPost at h; rw [hrb, ← HDR.out] at h; exact h : e = .returned (.bool rb) ∧ HStep 64 33 w4 G pb (dropR la' fl ru) w')
              simp only [It.cells] at h0
              exact h0
            clear HA ha hb hd hrb m0 m1 m2 m3 m4 m5
            go_wp2_with fail
            with_reducible refine HB.mono ?_
            rintro e w5 ⟨rfl, hst2⟩
            obtain ⟨tb, ta, td⟩ := sb.sep sa (fun x h1 h2 => sd x h2 h1) hst2
            go_wp2
            go_roundw
            case rel => exact ⟨k + 1, _, _, la', by omega, by go_num, by rw [HG.out], ta, tb, Lib.hid (fun x h1 h2 => td x h2 h1), hso', hll'⟩
            case measure => simp [intOf]; omega
      · obtain rfl : k = l.length := by omega
        have hdb := drop_le la fl ru
        have HD : Calls Try.prog 25 #[.pointer (some ⟨pa, 0, none⟩), .int .i64 fl, .int .i64 ru] wr (fun e w' => e = .returned (.int .i64 (goneN la fl ru)) ∧ HStep 64 33 wr F pa (dropR la fl ru) w') := drop_spec wr F pa la fl ru ha.1 (by omega)
        go_wp2_with fail
        with_reducible refine HD.mono ?_
        rintro e w4 ⟨rfl, hst⟩
        obtain ⟨sa, sb, sd⟩ := ha.sep hb hd.out hst
        have HLa := len_spec w4 _ pa _ sa.1
        have HLb := len_spec w4 _ pb _ sb.1
        have hdd := drop_drop la fl ru
        generalize hlb : dropR la fl ru = lb at sa sb HLa HLb hdb hdd
        have HBB := Lib.hid hlb
        clear hlb HD ha hb hst
        have hlb250 : lb.length ≤ 250 := by omega
        go_wp2_with fail
        with_reducible refine HLa.mono ?_
        rintro e w5 ⟨rfl, rfl⟩
        go_wp2_with fail
        with_reducible refine HLb.mono ?_
        rintro e w5 ⟨rfl, rfl⟩
        have hL1 := list_spec w4 _ pa lb sa.1 (by omega)
        go_wp2_with fail
        with_reducible refine hL1.mono ?_
        rintro e w5 ⟨v5, rfl, hu5, hr5⟩
        obtain ⟨A5, c5, rfl, _⟩ := hr5.shape
        have sa5 := sa.non hu5
        have sb5 := sb.non hu5
        have hL2 := list_spec w5 _ pb lb sb5.1 (by omega)
        go_wp2_with fail
        with_reducible refine hL2.mono ?_
        rintro e w6 ⟨v6, rfl, hu6, hr6⟩
        obtain ⟨A6, c6, rfl, _⟩ := hr6.shape
        have sa6 := sa5.non hu6
        have hr56 := hr5.upd hu6 (Upd.fr_non Fin.new)
        have hN5 : Fin w6 (New w4 w5) := (Fin.new).upd hu6
        have hN6 : Fin w6 (New w5 w6) := Fin.new
        generalize New w4 w5 = N5 at hr56 hN5
        generalize New w5 w6 = N6 at hr6 hN6
        clear hL1 hL2 sa sb sa5 sb5 hu5 hu6 hr5 HLa HLb hd
        go_wp2_with fail
        go_loopw [14] (fun i wr => ∃ k : Nat, k ≤ lb.length ∧ i = .int .i64 k ∧ Upd Non w6 wr) (fun i _ => lb.length - (intOf i).toNat)
        case atStart => exact ⟨0, Nat.zero_le _, rfl, Upd.refl _ _⟩
        case round =>
          obtain ⟨j, hj, rfl, hu⟩ := hrel
          by_cases hjl : j < lb.length
          · obtain ⟨p1, q1, g1, e1, _, _, _, x0, x1, x2, x3, x4, x5⟩ := (hr56.upd hu (Upd.fr_non hN5)).it hjl
            cases e1
            obtain ⟨p2, q2, g2, e2, _, _, _, y0, y1, y2, y3, y4, y5⟩ := (hr6.upd hu (Upd.fr_non hN6)).it hjl
            cases e2
            generalize lb[j] = z at x0 x1 x2 x3 x4 x5 y0 y1 y2 y3 y4 y5
            go_wp2_with fail
            go_quiet (fail)
            go_wp2
            go_roundw
            case rel => exact ⟨j + 1, by omega, by go_num, hu.drewN _⟩
            case measure => simp [intOf]; omega
          · obtain rfl : j = lb.length := by omega
            have sa7 := sa6.non hu
            have HD2 : Calls Try.prog 25 #[.pointer (some ⟨pa, 0, none⟩), .int .i64 fl, .int .i64 ru] wr (fun e w' => e = .returned (.int .i64 0) ∧ Upd Non w w') := (drop_spec wr _ pa lb fl ru sa7.1 (by omega)).mono fun e w' h => by
              unfold DropPost at h
              rw [hdd] at h
              have h3 := sa7.step h.2
              exact ⟨by rw [h.1]; congr 2; omega, h3.2.2⟩
            clear hdd sa6 sa7 hr56 hr6
            go_wp2_with fail
            with_reducible refine HD2.mono ?_
            rintro e w8 ⟨rfl, hu8⟩
            go_wp2
            go_ret
            exact ⟨rfl, hu8.below⟩
  · go_enter Try.func7, Try.ntmps7
    go_wp2_with fail
    refine (tknown_spec w).mono ?_
    rintro e w1 ⟨rfl, hu1⟩
    go_wp2
    go_ret
    exact ⟨rfl, hu1.below⟩
set_option maxRecDepth 100000 in
theorem timersDrops_lifted (os : Os) (started : os.Started) (H : Type) (enc : TypeId × Value → H) :
    ReturnsInHanded {} Try.checked os 7 .any (Rows.timersDropsSpec.pre6 enc Try.prog Try.f7 Rows.timersDropsRow.domain false) (Rows.timersDropsSpec.post enc Try.prog Try.f7 false true false false) := by
  refine returnsInHanded_of_change_sized (C := Try.checked) own started (by kernel_rfl) Try.func7
    (ChangeSpec.witness6 (enc := enc) (C := Try.checked) false ⟨#[], #[.slice none 0 0, .int .i64 0, .int .i64 0], []⟩ 8 (by kernel_rfl) (by kernel_rfl) (by kernel_rfl) (by kernel_rfl)) ?_
  intro W base args ds gs before hval0 hW hcnd hsz0 _
  have hval : ∀ (j : Nat) t v, Try.f7.params[j]? = some t → args[j]? = some v → Value.okWide Try.prog W .any base t v := hval0
  have hW' := hW
  obtain ⟨p, q, hA0, hV, rfl, hfz, hnd⟩ := hW
  have hA : DataW.TrodAll enc Try.prog W 0 (fun _ => true) true Try.f7.params.toList args.toList ds p := hA0
  have hsz : (DataW.weightsEach Try.prog (Try.f7.params.toList ++ Rows.timersDropsSpec.plain.varTypes Try.prog) (ds ++ gs)).all (· ≤ reachBytes) = true := hsz0
  rw [Try.params7] at hA hval hsz
  obtain ⟨v0, vs0, d0, ds0, p0, q0, hargs, rfl, rfl, h0, r0⟩ := trodAll_cons hA
  obtain ⟨v1, vs1, d1, ds1, p1, q1, rfl, rfl, rfl, h1, r1⟩ := trodAll_cons r0
  obtain ⟨v2, vs2, d2, ds2, p2, q2, rfl, rfl, rfl, h2, r2⟩ := trodAll_cons r1
  obtain ⟨rfl, rfl, rfl⟩ := trodAll_nil r2
  obtain rfl : args = #[v0, v1, v2] := by cases args; simp_all
  obtain ⟨rfl, rfl⟩ := trodVars_none hV
  obtain ⟨a0, len0, cap0, rfl⟩ := okWide_slice Try.underlying27 (hval 0 27 v0 rfl rfl)
  have lt0 : ∀ x ∈ p0, x.block < W.heap.size := by obtain ⟨m, hm⟩ := h0; exact DataW.trod_lt m _ _ _ hm
  obtain ⟨x0, hx0, lx0⟩ := open_arg opens_it Try.underlying27 (by kernel_rfl) rfl h0 (weights_of hsz (j := 0) rfl rfl)
  rw [show Try.prog.bytesOf 33 = 48 from by kernel_rfl] at lx0
  simp only [reachBytes] at lx0
  obtain ⟨n1, rfl, rfl, rfl, w1⟩ := open_int Try.underlying3 (hval 1 3 v1 rfl rfl) h1
  have b1 := bounds_i64 w1
  obtain ⟨n2, rfl, rfl, rfl, w2⟩ := open_int Try.underlying3 (hval 2 3 v2 rfl rfl) h2
  have b2 := bounds_i64 w2
  clear hA0 hval0
  refine (drops_walk W _ x0 n1 n2 hx0 (by omega)).mono fun e W' ⟨he, bel⟩ => ?_
  subst he
  exact ⟨_, rfl, _, _, _, [], _, [], hW', trodAll_mk1 (shut_bool Try.underlying4 _), (trodAll_cons_mk (Below.trod laidOut (by kernel_rfl) (of_decide_eq_true (by kernel_rfl)) h0 bel lt0) (trodAll_cons_mk (shut_int Try.underlying3 w1) (trodAll_cons_mk (shut_int Try.underlying3 w2) trodAll_mk0))), rfl, bel.frame _, fun h => by cases h⟩

theorem timersDrops_over : Rows.timersDropsRow.holds Try.pinned (OpenSpec.ofChange Rows.timersDropsSpec) :=
  OpenClaim.holds_of_wide 7 Try.f7 rfl rfl rfl rfl rfl rfl rfl ⟨rfl, rfl, rfl, rfl, rfl⟩ rfl rfl rfl rfl rfl (by kernel_rfl) Try.func7 (by kernel_rfl)
    (of_decide_eq_true (by kernel_rfl)) (by unfold Func.isWrapper; first | (rw [if_pos (by decide +kernel)]; kernel_rfl) | (rw [if_neg (by decide +kernel)]; exact ⟨rfl, rfl⟩))
    (fun os started H enc _ => timersDrops_lifted os started H enc)

theorem timersDrops_holds : Rows.TimersDropsSaid := timersDrops_over
#print axioms timersDrops_holds

end Go.Proofs.Ytnaldifgnpnbhaa
