/- Plain Lean: what is written is read; what is read was written; prefixes. -/
import Derived.Test.YtompkpleiichaaaWireReader2
namespace Go.Proofs.Ytompkpleiichaaa
open Go.RowKit

def InI (n : Int) : Prop := -9223372036854775808 ≤ n ∧ n ≤ 9223372036854775807
theorem decU_int {n : Int} (h : InI n) (r : List UInt8) : decU 0 0 (encInt n ++ r) = (0, zigI n, r) := decU_enc (zigI_lt h.1 h.2) r
theorem encInt_pos (n : Int) : 0 < (encInt n).length := varint_pos _
theorem decRaw_enc {bs : List UInt8} (h : bs.length ≤ 18446744073709551615) (r : List UInt8) : decRaw (encRaw bs ++ r) = (0, bs, r) := by
  have e : decU 0 0 (encRaw bs ++ r) = (0, bs.length, bs ++ r) := by unfold encRaw; rw [List.append_assoc]; exact decU_enc h _
  unfold decRaw
  rw [e]
  simp
theorem decK_enc : ∀ (l : List Int) (_ : ∀ n ∈ l, InI n) (r : List UInt8), decK l.length (l.flatMap encInt ++ r) = (0, l, r)
  | [], _, r => rfl
  | n :: l, h, r => by
    have hn := h n (by simp)
    have ih := decK_enc l (fun m hm => h m (by simp [hm])) r
    rw [List.flatMap_cons, List.append_assoc, List.length_cons, decK, decU_int hn, if_neg (by simp), ih, if_neg (by simp), unzig_zig]
theorem flat_len (l : List Int) : l.length ≤ (l.flatMap encInt).length := by
  induction l with
  | nil => simp
  | cons n l ih => rw [List.flatMap_cons, List.length_append, List.length_cons]; have := encInt_pos n; omega
theorem decInts_enc {l : List Int} (hl : l.length ≤ 18446744073709551615) (h : ∀ n ∈ l, InI n) (r : List UInt8) : decInts (encInts l ++ r) = (0, l, r) := by
  have e : decU 0 0 (encInts l ++ r) = (0, l.length, l.flatMap encInt ++ r) := by unfold encInts; rw [List.append_assoc]; exact decU_enc hl _
  have := flat_len l
  unfold decInts
  rw [e, if_neg (by simp), if_neg (by simp only [List.length_append]; omega)]
  exact decK_enc l h r
theorem decBool_enc (b : Bool) (r : List UInt8) : decBool (encBool b ++ r) = (0, b, r) := by cases b <;> rfl
end Go.Proofs.Ytompkpleiichaaa
