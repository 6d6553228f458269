/-
  More words: bytes as a string; comparing strings.
-/
import Derived.Test.YtniccejlmbfpdaaBase
namespace Go.Proofs.Ytniccejlmbfpdaa
open Go.RowKit

def str (d : List UInt8) : ByteArray := ⟨d.toArray⟩
theorem baToList_loop (b : ByteArray) : ∀ (n i : Nat) (r : List UInt8), b.size - i = n → ByteArray.toList.loop b i r = r.reverse ++ b.data.toList.drop i
  | 0, i, r, h => by
    unfold ByteArray.toList.loop
    have hs : b.data.toList.length = b.size := rfl
    rw [if_neg (by omega), List.drop_of_length_le (by omega), List.append_nil]
  | n + 1, i, r, h => by
    unfold ByteArray.toList.loop
    have hs : b.data.toList.length = b.size := rfl
    rw [if_pos (by omega), baToList_loop b n (i + 1) _ (by omega), List.drop_eq_getElem_cons (i := i) (by omega)]
    have hi : i < b.data.size := by show i < b.size; omega
    simp [ByteArray.get!, getElem!_pos b.data i hi]
theorem str_toList (d : List UInt8) : (str d).toList = d := by
  unfold ByteArray.toList
  rw [baToList_loop _ _ 0 [] rfl]
  simp [str]
theorem str_eq (a b : List UInt8) : ((str a).toList == (str b).toList) = (a == b) := by rw [str_toList, str_toList]

theorem conv_bytes {P : Program} {src e dst : TypeId} (hs : P.underlying src = some (.slice e)) (he : P.underlying e = some (.int .u8)) (hd : P.underlying dst = some .string)
    {w : World} {F : Nat → Prop} {v : Value} {d : List UInt8} (h : Rd byteE w F v d) : (convert src dst v).run P w = .ok (.string (str d)) w := by
  have hb : ∀ (d : List UInt8) cs, Rel byteE w F d cs → cs = d.map bv := by
    intro d
    induction d with
    | nil => intro cs h; exact h
    | cons x xs ih =>
      intro cs h
      obtain ⟨l, r, rfl, ho, hr⟩ := h
      have ho : l = [bv x] := ho
      rw [ho, ih r hr]
      rfl
  obtain ⟨A, c, cs, rfl, h1, h2, h3, h4⟩ := h
  obtain rfl := hb d cs h4
  rcases Nat.eq_zero_or_pos d.length with h0 | h0
  · obtain rfl := List.eq_nil_of_length_eq_zero h0
    rw [run_convert_bytes_string w src dst e _ _ _ hs he hd]
    rcases A with _ | a <;> simp [Conv.bytesToString, str] <;> rfl
  · obtain ⟨b, o, rfl, _, hc⟩ := h3 (by simpa using h0)
    have hx : strOfNums (d.map fun x => (x.toNat : Int)) = str d := by
      simp only [strOfNums, str, List.map_map]
      congr 2
      conv => rhs; rw [← List.map_id d]
      apply List.map_congr_left
      intro x _
      simp
    rw [← hx]
    refine run_convert_bytes_arg w src e hs he b o d.length c _ (by simp) (fun i hi => ?_) dst hd
    rw [hc i (by simpa using hi)]
    simp [bv, List.getD, hi]
end Go.Proofs.Ytniccejlmbfpdaa
