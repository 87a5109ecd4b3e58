/- For every list of numbers and bytes worldmintlaw29.ProofEncoding returns true: what is decoded is encoded as the same bytes. No condition. -/
import Derived.WalkKit
import GoSem.Claim
import Derived.Test.YtikfcpkobgejmaaProg
import Derived.Lib.AppendStr
import Derived.Lib.Hide
import Derived.WalkSpells
import Derived.WalkLawsBesides
import Derived.Deep.DeepCutAuto
import Derived.BigQuiet
import Derived.Test.YtikfcpkobgejmaaGProofChecks15

/- Plain Lean: varints, zigzag, and reading them. -/
namespace Go.Proofs.Ytikfcpkobgejmaa
open Go.RowKit

/-- The varint of a number. -/
def varint (n : Nat) : List UInt8 := if _h : n < 128 then [UInt8.ofNat n] else UInt8.ofNat (n % 128 + 128) :: varint (n / 128)
termination_by n
decreasing_by omega
theorem varint_lt {n : Nat} (h : n < 128) : varint n = [UInt8.ofNat n] := by rw [varint, dif_pos h]
theorem varint_ge {n : Nat} (h : 128 ≤ n) : varint n = UInt8.ofNat (n % 128 + 128) :: varint (n / 128) := by rw [varint, dif_neg (by omega)]
theorem varint_len (k : Nat) : ∀ {n : Nat}, n < 128 ^ (k + 1) → (varint n).length ≤ k + 1 := by
  induction k with
  | zero => intro n h; rw [varint_lt (by simpa using h)]; simp
  | succ k ih =>
    intro n h
    by_cases h1 : n < 128
    · rw [varint_lt h1]; simp
    · rw [varint_ge (by omega)]
      have : n / 128 < 128 ^ (k + 1) := Nat.div_lt_of_lt_mul (by rw [Nat.pow_succ] at h; omega)
      have := ih this
      simp only [List.length_cons]; omega
theorem varint_len10 {n : Nat} (h : n ≤ 18446744073709551615) : (varint n).length ≤ 10 := varint_len 9 (by omega)
theorem varint_pos (n : Nat) : 0 < (varint n).length := by
  by_cases h : n < 128
  · rw [varint_lt h]; simp
  · rw [varint_ge (by omega)]; simp
/-- The zigzag form. -/
def zigI (n : Int) : Nat := if n < 0 then (2 * (-(n + 1)) + 1).toNat else (2 * n).toNat
def unzigI (z : Nat) : Int := if z % 2 = 1 then -((z / 2 : Nat) : Int) - 1 else ((z / 2 : Nat) : Int)
theorem zigI_lt {n : Int} (h1 : -9223372036854775808 ≤ n) (h2 : n ≤ 9223372036854775807) : zigI n ≤ 18446744073709551615 := by unfold zigI; split <;> omega
theorem unzig_zig (n : Int) : unzigI (zigI n) = n := by unfold unzigI zigI; split <;> split <;> omega
theorem zig_unzig (z : Nat) : zigI (unzigI z) = z := by unfold unzigI zigI; split <;> split <;> omega
theorem unzigI_range {z : Nat} (h : z ≤ 18446744073709551615) : -9223372036854775808 ≤ unzigI z ∧ unzigI z ≤ 9223372036854775807 := by unfold unzigI; split <;> omega

/-- The encodings. -/
def encInt (n : Int) : List UInt8 := varint (zigI n)
def encBool (b : Bool) : List UInt8 := if b then [1] else [0]
def encRaw (bs : List UInt8) : List UInt8 := varint bs.length ++ bs
def encInts (l : List Int) : List UInt8 := varint l.length ++ l.flatMap encInt
def encIntsTo (l : List Int) (k : Nat) : List UInt8 := varint l.length ++ (l.take k).flatMap encInt
theorem encIntsTo_zero (l : List Int) : encIntsTo l 0 = varint l.length := by simp [encIntsTo]
theorem encIntsTo_succ (l : List Int) (k : Nat) (hk : k < l.length) : encIntsTo l (k + 1) = encIntsTo l k ++ encInt (l[k]?.getD 0) := by
  unfold encIntsTo
  rw [List.take_succ_eq_append_getElem hk, List.flatMap_append, List.append_assoc]
  simp [hk]
theorem encIntsTo_all (l : List Int) (n : Nat) (h : l.length ≤ n) : encIntsTo l n = encInts l := by unfold encIntsTo encInts; rw [List.take_of_length_le h]

theorem ofNat_toNat {n : Nat} (h : n < 256) : (((UInt8.ofNat n).toNat : Nat) : Int) = (n : Int) := by rw [UInt8.toNat_ofNat']; omega
end Go.Proofs.Ytikfcpkobgejmaa

/- Plain facts on the 64-bit hash of package hash: no program in sight. -/
namespace Go.Proofs.Ytikfcpkobgejmaa
open Go.RowKit

/-- One step of the hash, as the walk spells it. -/
def mixI (a b : Int) : Int :=
  bits BinOp.xor IntKind.u64 (IntKind.u64.wrap (bits BinOp.xor IntKind.u64 a b * 11400714819323198485))
    (IntKind.u64.wrap (bits BinOp.xor IntKind.u64 a b * 11400714819323198485) / 4294967296)

theorem wrap_u64 (n : Int) : IntKind.u64.wrap n = n % 18446744073709551616 := by
  simp [IntKind.wrap, IntKind.bits, IntKind.signed]
theorem mixI_alt (a b : Int) : mixI a b = bits BinOp.xor IntKind.u64 (IntKind.u64.wrap (bits BinOp.xor IntKind.u64 a b * 11400714819323198485))
    (IntKind.u64.wrap ((IntKind.u64.wrap (bits BinOp.xor IntKind.u64 a b * 11400714819323198485)).tdiv 4294967296)) := by
  unfold mixI
  congr 1
  generalize bits BinOp.xor IntKind.u64 a b * 11400714819323198485 = x
  rw [wrap_u64, wrap_u64]
  have h0 : 0 ≤ x % 18446744073709551616 := Int.emod_nonneg _ (by decide)
  have h1 : x % 18446744073709551616 < 18446744073709551616 := Int.emod_lt_of_pos _ (by decide)
  rw [Int.tdiv_eq_ediv_of_nonneg h0]
  omega

/-- The little-endian number of a list of bytes. -/
def wordN : List UInt8 → Nat
  | [] => 0
  | b :: bs => b.toNat + 256 * wordN bs

theorem wordN_lt (bs : List UInt8) : wordN bs < 256 ^ bs.length := by
  induction bs with
  | nil => simp [wordN]
  | cons b bs ih =>
    have hb : b.toNat < 256 := b.toNat_lt
    simp only [wordN, List.length_cons, Nat.pow_succ]
    omega

theorem wordN_snoc (bs : List UInt8) (b : UInt8) : wordN (bs ++ [b]) = wordN bs + 256 ^ bs.length * b.toNat := by
  induction bs with
  | nil => simp [wordN]
  | cons c bs ih =>
    simp only [List.cons_append, wordN, ih, List.length_cons, Nat.pow_succ, Nat.mul_add]
    have : 256 * (256 ^ bs.length * b.toNat) = 256 ^ bs.length * 256 * b.toNat := by
      rw [← Nat.mul_assoc, Nat.mul_comm 256]
    omega

/-- Group number k of 8 bytes. -/
def group (bs : List UInt8) (k : Nat) : List UInt8 := (bs.drop (8 * k)).take 8

def nwords (bs : List UInt8) : Nat := (bs.length + 7) / 8

def wordAt (bs : List UInt8) (k : Nat) : Int := (wordN (group bs k) : Nat)

/-- The words of a list of bytes, the first k of them. -/
def wordsTo (bs : List UInt8) (k : Nat) : List Int := (List.range k).map (wordAt bs)
def wordsI (bs : List UInt8) : List Int := wordsTo bs (nwords bs)

theorem wordsTo_succ (bs : List UInt8) (k : Nat) : wordsTo bs (k + 1) = wordsTo bs k ++ [wordAt bs k] := by simp [wordsTo, List.range_succ]
theorem wordsTo_zero (bs : List UInt8) : wordsTo bs 0 = [] := rfl
theorem wordsTo_length (bs : List UInt8) (k : Nat) : (wordsTo bs k).length = k := by simp [wordsTo]

theorem group_length (bs : List UInt8) (k : Nat) : (group bs k).length = min 8 (bs.length - 8 * k) := by simp [group]

/-- One round of the program's loop over a group. -/
theorem word_step (g : List UInt8) (j : Nat) (h8 : j < 8) (hj : j < g.length) :
    bits BinOp.or IntKind.u64 ((wordN (g.take j) : Nat) : Int) (IntKind.u64.wrap (IntKind.u64.wrap (((g[j]?.getD 0).toNat : Nat) : Int) * 2 ^ (8 * j))) = ((wordN (g.take (j + 1)) : Nat) : Int) := by
  have hb : (g[j]?.getD 0).toNat < 256 := UInt8.toNat_lt _
  have hlt := wordN_lt (g.take j)
  have hl : (g.take j).length = j := by simp; omega
  rw [hl] at hlt
  have hp : (256 : Nat) ^ j = 2 ^ (8 * j) := by rw [show (256 : Nat) = 2 ^ 8 from rfl, ← Nat.pow_mul]
  have hpw : 2 ^ (8 * j) ≤ 2 ^ 56 := Nat.pow_le_pow_right (by decide) (by omega)
  have e1 : wordN (g.take (j + 1)) = wordN (g.take j) + 2 ^ (8 * j) * (g[j]?.getD 0).toNat := by
    rw [List.take_succ_eq_append_getElem hj, wordN_snoc, hl, hp]
    simp [hj]
  generalize (g[j]?.getD 0).toNat = c at *
  generalize wordN (g.take j) = x at *
  have hcm : 2 ^ (8 * j) * c ≤ 2 ^ 56 * 255 := Nat.mul_le_mul hpw (by omega)
  rw [wrap_u64, wrap_u64]
  have e2 : ((c : Int) % 18446744073709551616 * 2 ^ (8 * j)) % 18446744073709551616 = ((2 ^ (8 * j) * c : Nat) : Int) := by
    rw [Int.emod_eq_of_lt (a := (c : Int)) (by omega) (by omega)]
    rw [show ((c : Int) * 2 ^ (8 * j)) = ((2 ^ (8 * j) * c : Nat) : Int) from by push_cast; exact Int.mul_comm _ _]
    exact Int.emod_eq_of_lt (by omega) (by omega)
  rw [e2, u64_or_nat _ _ (by omega) (by omega), e1]
  congr 1
  rw [Nat.or_comm, ← Nat.two_pow_add_eq_or_of_lt (by omega)]
  omega

/-- One round of the reference's loop over a group. -/
theorem word_back (g : List UInt8) (r : Nat) (hr : r < g.length) (h8 : g.length ≤ 8) :
    IntKind.u64.wrap (IntKind.u64.wrap (256 * ((wordN (g.drop (r + 1)) : Nat) : Int)) + IntKind.u64.wrap (((g[r]?.getD 0).toNat : Nat) : Int)) = ((wordN (g.drop r) : Nat) : Int) := by
  have e : wordN (g.drop r) = (g[r]?.getD 0).toNat + 256 * wordN (g.drop (r + 1)) := by
    rw [List.drop_eq_getElem_cons hr, wordN]
    simp [hr]
  have h1 := wordN_lt (g.drop r)
  have h2 : 256 ^ (g.drop r).length ≤ 256 ^ 8 := Nat.pow_le_pow_right (by decide) (by simp; omega)
  rw [wrap_u64, wrap_u64, wrap_u64]
  omega

theorem group_take (bs : List UInt8) (k m : Nat) (h : (group bs k).length ≤ m) : (group bs k).take m = group bs k := List.take_of_length_le h

/-- All the steps of a list of words. -/
def mixAll (s : Int) (ws : List Int) : Int := ws.foldl mixI s
theorem mixAll_snoc (s : Int) (ws : List Int) (x : Int) : mixAll s (ws ++ [x]) = mixI (mixAll s ws) x := by simp [mixAll]
theorem mixAll_nil (s : Int) : mixAll s [] = s := rfl

/-- An int as a word. -/
def toU (n : Int) : Int := IntKind.u64.wrap n
/-- A word as an int. -/
def toI (n : Int) : Int := wrap64 n

/-- The hash of a label and integers. -/
def sumI (label : List UInt8) (ws : List Int) : Int :=
  mixI (mixAll (mixI (mixI (mixAll 0 (wordsI label)) (label.length : Nat)) (ws.length : Nat)) (ws.map toU)) 0

/-- The state behind the first j integers. -/
def sumTo (label : List UInt8) (n : Nat) (ws : List Int) (j : Nat) : Int :=
  mixAll (mixI (mixI (mixAll 0 (wordsI label)) (label.length : Nat)) (n : Nat)) ((ws.take j).map toU)
theorem sumTo_zero (label : List UInt8) (n : Nat) (ws : List Int) : sumTo label n ws 0 = mixI (mixI (mixAll 0 (wordsI label)) (label.length : Nat)) (n : Nat) := rfl
theorem sumTo_succ (label : List UInt8) (n : Nat) (ws : List Int) (j : Nat) (hj : j < ws.length) : sumTo label n ws (j + 1) = mixI (sumTo label n ws j) (IntKind.u64.wrap (ws[j]?.getD 0)) := by
  unfold sumTo
  rw [List.take_succ_eq_append_getElem hj, List.map_append, List.map_cons, List.map_nil, mixAll_snoc]
  simp [hj, toU]
theorem sumTo_all (label : List UInt8) (n : Nat) (ws : List Int) (hn : ws.length = n) : mixI (sumTo label n ws n) 0 = sumI label ws := by
  unfold sumTo sumI
  rw [List.take_of_length_le (by omega), hn]

def bytesI (label bs : List UInt8) : Int := sumI label ((wordsI bs).map toI ++ [((bs.length : Nat) : Int)])

def pairBytes : List UInt8 := [112, 97, 105, 114]
def pairI (a b : Int) : Int := sumI pairBytes [toI a, toI b]

end Go.Proofs.Ytikfcpkobgejmaa

/- The hash is one to one in each of its words: no program in sight. -/
namespace Go.Proofs.Ytikfcpkobgejmaa
open Go.RowKit

/-- A word of 64 bits. -/
def InU (n : Int) : Prop := 0 ≤ n ∧ n < 18446744073709551616

def mixB (s w : BitVec 64) : BitVec 64 := ((s ^^^ w) * 11400714819323198485#64) ^^^ (((s ^^^ w) * 11400714819323198485#64) >>> 32)

theorem bits_xor_u64 (a b : Int) : bits BinOp.xor IntKind.u64 a b = ((BitVec.ofInt 64 a ^^^ BitVec.ofInt 64 b).toNat : Int) := by
  show IntKind.u64.wrap ((BitVec.ofInt 64 a ^^^ BitVec.ofInt 64 b).toNat : Int) = _
  rw [wrap_u64]
  have := (BitVec.ofInt 64 a ^^^ BitVec.ofInt 64 b).isLt
  omega

theorem ofInt_toNat64 (x : BitVec 64) : BitVec.ofInt 64 (x.toNat : Int) = x := by
  rw [BitVec.ofInt_natCast, BitVec.ofNat_toNat, BitVec.setWidth_eq]

theorem mixI_eq (a b : Int) : mixI a b = ((mixB (BitVec.ofInt 64 a) (BitVec.ofInt 64 b)).toNat : Int) := by
  have hm : IntKind.u64.wrap (bits BinOp.xor IntKind.u64 a b * 11400714819323198485) = (((BitVec.ofInt 64 a ^^^ BitVec.ofInt 64 b) * 11400714819323198485#64).toNat : Int) := by
    rw [bits_xor_u64, wrap_u64, BitVec.toNat_mul]
    simp
  unfold mixI mixB
  rw [hm]
  generalize (BitVec.ofInt 64 a ^^^ BitVec.ofInt 64 b) * 11400714819323198485#64 = m
  have hs : (m.toNat : Int) / (4294967296 : Int) = ((m >>> 32).toNat : Int) := by
    rw [BitVec.toNat_ushiftRight, Nat.shiftRight_eq_div_pow]
    rfl
  rw [hs, bits_xor_u64, ofInt_toNat64, ofInt_toNat64]

theorem xorshift_inj (m m' : BitVec 64) (h : m ^^^ (m >>> 32) = m' ^^^ (m' >>> 32)) : m = m' := by
  have h2 : m >>> 32 = m' >>> 32 := by
    have e : ∀ x : BitVec 64, (x ^^^ (x >>> 32)) >>> 32 = x >>> 32 := by
      intro x
      rw [BitVec.ushiftRight_xor_distrib, ← BitVec.shiftRight_add]
      have : x >>> (32 + 32) = 0#64 := BitVec.ushiftRight_eq_zero (by decide)
      rw [this, BitVec.xor_zero]
    rw [← e m, ← e m', h]
  rw [h2] at h
  exact (BitVec.xor_left_inj (m' >>> 32)).1 h

theorem mul_inj (x y : BitVec 64) (h : x * 11400714819323198485#64 = y * 11400714819323198485#64) : x = y := by
  have e : ∀ z : BitVec 64, z * 11400714819323198485#64 * 17428512612931826493#64 = z := by
    intro z
    rw [BitVec.mul_assoc, show 11400714819323198485#64 * 17428512612931826493#64 = 1#64 from by decide, BitVec.mul_one]
  rw [← e x, ← e y, h]

theorem mixB_inj_word (s w w' : BitVec 64) (h : mixB s w = mixB s w') : w = w' :=
  (BitVec.xor_right_inj s).1 (mul_inj _ _ (xorshift_inj _ _ h))
theorem mixB_inj_state (s s' w : BitVec 64) (h : mixB s w = mixB s' w) : s = s' :=
  (BitVec.xor_left_inj w).1 (mul_inj _ _ (xorshift_inj _ _ h))

theorem ofInt_inj {a b : Int} (ha : InU a) (hb : InU b) (h : BitVec.ofInt 64 a = BitVec.ofInt 64 b) : a = b := by
  have h' := congrArg BitVec.toNat h
  rw [BitVec.toNat_ofInt, BitVec.toNat_ofInt] at h'
  unfold InU at ha hb
  omega

theorem mixI_in (a b : Int) : InU (mixI a b) := by
  rw [mixI_eq]
  have := (mixB (BitVec.ofInt 64 a) (BitVec.ofInt 64 b)).isLt
  exact ⟨by omega, by omega⟩

theorem mixI_word {s x y : Int} (hx : InU x) (hy : InU y) (h : mixI s x = mixI s y) : x = y := by
  rw [mixI_eq, mixI_eq] at h
  exact ofInt_inj hx hy (mixB_inj_word (BitVec.ofInt 64 s) _ _ (BitVec.eq_of_toNat_eq (Int.ofNat.inj h)))
theorem mixI_state {s t x : Int} (hs : InU s) (ht : InU t) (h : mixI s x = mixI t x) : s = t := by
  rw [mixI_eq, mixI_eq] at h
  exact ofInt_inj hs ht (mixB_inj_state _ _ (BitVec.ofInt 64 x) (BitVec.eq_of_toNat_eq (Int.ofNat.inj h)))

theorem mixAll_in {s : Int} (hs : InU s) (l : List Int) : InU (mixAll s l) := by
  induction l generalizing s with
  | nil => exact hs
  | cons x l ih => exact ih (mixI_in _ _)
theorem mixAll_state {s t : Int} (hs : InU s) (ht : InU t) (l : List Int) (h : mixAll s l = mixAll t l) : s = t := by
  induction l generalizing s t with
  | nil => exact h
  | cons x l ih => exact mixI_state hs ht (ih (mixI_in _ _) (mixI_in _ _) h)

/-- One word apart. -/
theorem mixAll_one {s x y : Int} (l r : List Int) (hx : InU x) (hy : InU y) : mixAll s (l ++ x :: r) = mixAll s (l ++ y :: r) ↔ x = y := by
  constructor
  · intro h
    simp only [mixAll, List.foldl_append, List.foldl_cons] at h
    exact mixI_word hx hy (mixAll_state (mixI_in _ _) (mixI_in _ _) r h)
  · rintro rfl; rfl

theorem toU_in (n : Int) : InU (toU n) := by
  unfold toU; rw [wrap_u64]; exact ⟨Int.emod_nonneg _ (by decide), Int.emod_lt_of_pos _ (by decide)⟩

theorem natU (n : Nat) (h : n < 18446744073709551616) : InU (n : Int) := ⟨by omega, by omega⟩
theorem zeroU : InU 0 := ⟨by decide, by decide⟩

/-- The words that a sum absorbs. -/
def sumWords (label : List UInt8) (ws : List Int) : List Int := wordsI label ++ [((label.length : Nat) : Int), ((ws.length : Nat) : Int)] ++ ws.map toU ++ [0]
theorem sumI_words (label : List UInt8) (ws : List Int) : sumI label ws = mixAll 0 (sumWords label ws) := by
  simp [sumI, sumWords, mixAll]

/-- Two sums whose words differ at one place. -/
theorem sum_one (label : List UInt8) (l r : List Int) (x y : Int) : sumI label (l ++ x :: r) = sumI label (l ++ y :: r) ↔ toU x = toU y := by
  rw [sumI_words, sumI_words]
  have e : ∀ z, sumWords label (l ++ z :: r) = (wordsI label ++ [((label.length : Nat) : Int), (((l ++ z :: r).length : Nat) : Int)] ++ l.map toU) ++ toU z :: (r.map toU ++ [0]) := by
    intro z; simp [sumWords]
  rw [e, e]
  have hl : ∀ z, (l ++ z :: r).length = l.length + r.length + 1 := by intro z; simp; omega
  rw [hl, hl]
  exact mixAll_one _ _ (toU_in _) (toU_in _)

theorem toU_inj {a b : Int} (ha : -9223372036854775808 ≤ a ∧ a ≤ 9223372036854775807) (hb : -9223372036854775808 ≤ b ∧ b ≤ 9223372036854775807) : toU a = toU b ↔ a = b := by
  unfold toU; rw [wrap_u64, wrap_u64]; omega
theorem toU_toI {a : Int} (ha : InU a) : toU (toI a) = a := by
  unfold toU toI wrap64; rw [wrap_u64]; unfold InU at ha; omega

/-- Sums that differ at one integer. -/
theorem sum_set (label : List UInt8) (xs : List Int) (k : Nat) (v : Int) (hk : k < xs.length) (h1 : -9223372036854775808 ≤ xs[k] ∧ xs[k] ≤ 9223372036854775807) (h2 : -9223372036854775808 ≤ v ∧ v ≤ 9223372036854775807) :
    sumI label xs = sumI label (xs.set k v) ↔ xs[k] = v := by
  have e1 : xs = xs.take k ++ xs[k] :: xs.drop (k + 1) := by simp
  have e2 : xs.set k v = xs.take k ++ v :: xs.drop (k + 1) := by rw [List.set_eq_take_append_cons_drop, if_pos hk]
  rw [e2]
  conv => lhs; lhs; rw [e1]
  rw [sum_one, toU_inj h1 h2]

/-- Sums under two labels whose words differ at one place. -/
theorem sum_label_one {la lb : List UInt8} (ws : List Int) {l r : List Int} {x y : Int} (hx : InU x) (hy : InU y) (ea : wordsI la = l ++ x :: r) (eb : wordsI lb = l ++ y :: r) (hl : la.length = lb.length) :
    sumI la ws = sumI lb ws ↔ x = y := by
  rw [sumI_words, sumI_words]
  unfold sumWords
  rw [ea, eb, hl]
  simp only [List.append_assoc, List.cons_append]
  exact mixAll_one _ _ hx hy

theorem wordN_inj : ∀ {a b : List UInt8}, a.length = b.length → wordN a = wordN b → a = b
  | [], [], _, _ => rfl
  | x :: a, y :: b, hl, h => by
    have hx : x.toNat < 256 := x.toNat_lt
    have hy : y.toNat < 256 := y.toNat_lt
    simp only [wordN] at h
    have h1 : x = y := UInt8.toNat_inj.1 (by omega)
    have h2 : a = b := wordN_inj (by simpa using hl) (by omega)
    rw [h1, h2]

theorem group_lt (bs : List UInt8) (k : Nat) : wordN (group bs k) < 18446744073709551616 := by
  have h := wordN_lt (group bs k)
  have h8 : (group bs k).length ≤ 8 := by rw [group_length]; omega
  have := Nat.pow_le_pow_right (n := 256) (by decide) h8
  omega
theorem wordAt_in (bs : List UInt8) (k : Nat) : InU (wordAt bs k) := natU _ (group_lt bs k)

/-- The words, one of them singled out. -/
theorem words_split (bs : List UInt8) (g : Nat) (hg : g < nwords bs) : wordsI bs = (List.range g).map (wordAt bs) ++ wordAt bs g :: ((List.range (nwords bs - g - 1)).map fun j => wordAt bs (g + 1 + j)) := by
  unfold wordsI wordsTo
  obtain ⟨d, hd⟩ : ∃ d, nwords bs = g + (1 + d) := ⟨nwords bs - g - 1, by omega⟩
  rw [hd, List.range_add, List.map_append, List.map_map, List.range_add, List.map_append]
  congr 1
  have : g + (1 + d) - g - 1 = d := by omega
  rw [this]
  simp [Function.comp_def, Nat.add_assoc]

/-- Two lists of bytes of one length that agree outside of group g. -/
theorem words_one {a b : List UInt8} {g : Nat} (hl : a.length = b.length) (hg : g < nwords a) (hout : ∀ j, j ≠ g → group a j = group b j) :
    ∃ l r, wordsI a = l ++ wordAt a g :: r ∧ wordsI b = l ++ wordAt b g :: r := by
  have hn : nwords b = nwords a := by unfold nwords; rw [hl]
  refine ⟨(List.range g).map (wordAt a), _, words_split a g hg, ?_⟩
  rw [words_split b g (by omega), hn]
  congr 1
  · refine List.map_congr_left fun j hj => ?_
    unfold wordAt
    rw [hout j (by have := List.mem_range.1 hj; omega)]
  · congr 1
    refine List.map_congr_left fun j hj => ?_
    unfold wordAt
    rw [hout (g + 1 + j) (by omega)]

theorem groups_ext {a b : List UInt8} (_hl : a.length = b.length) (h : ∀ j, group a j = group b j) : a = b := by
  refine List.ext_getElem? fun i => ?_
  have := congrArg (fun l : List UInt8 => l[i % 8]?) (h (i / 8))
  simp only [group, List.getElem?_take, List.getElem?_drop] at this
  rw [if_pos (by omega), if_pos (by omega)] at this
  have e : 8 * (i / 8) + i % 8 = i := by omega
  rwa [e] at this

/-- Two lists that agree outside of a group have the word of that group in common just where they are one. -/
theorem word_eq_iff {a b : List UInt8} {g : Nat} (hl : a.length = b.length) (hout : ∀ j, j ≠ g → group a j = group b j) : wordAt a g = wordAt b g ↔ a = b := by
  constructor
  · intro h
    have h' : wordN (group a g) = wordN (group b g) := by unfold wordAt at h; omega
    have hgl : (group a g).length = (group b g).length := by rw [group_length, group_length, hl]
    have hg := wordN_inj hgl h'
    exact groups_ext hl fun j => by
      by_cases e : j = g
      · rw [e]; exact hg
      · exact hout j e
  · rintro rfl; rfl

/-- bytes: one group apart. -/
theorem bytes_one (label : List UInt8) {a b : List UInt8} {g : Nat} (hl : a.length = b.length) (hg : g < nwords a) (hout : ∀ j, j ≠ g → group a j = group b j) : bytesI label a = bytesI label b ↔ a = b := by
  obtain ⟨l, r, ea, eb⟩ := words_one hl hg hout
  unfold bytesI
  rw [ea, eb, hl]
  simp only [List.map_append, List.map_cons, List.append_assoc, List.cons_append]
  rw [sum_one, toU_toI (wordAt_in a g), toU_toI (wordAt_in b g)]
  exact word_eq_iff hl hout

/-- labels: one group apart. -/
theorem label_one {a b : List UInt8} (ws : List Int) {g : Nat} (hl : a.length = b.length) (hg : g < nwords a) (hout : ∀ j, j ≠ g → group a j = group b j) : sumI a ws = sumI b ws ↔ a = b := by
  obtain ⟨l, r, ea, eb⟩ := words_one hl hg hout
  rw [sum_label_one ws (wordAt_in a g) (wordAt_in b g) ea eb hl]
  exact word_eq_iff hl hout

/-- A change within one group. -/
theorem group_set {bs : List UInt8} {k : Nat} {v : UInt8} (j : Nat) (hj : j ≠ k / 8) : group (bs.set k v) j = group bs j := by
  unfold group
  refine List.ext_getElem? fun i => ?_
  simp only [List.getElem?_take, List.getElem?_drop]
  split
  · rw [List.getElem?_set_ne (by omega)]
  · rfl

theorem wordN_zero (g : List UInt8) : wordN (g ++ [0]) = wordN g := by rw [wordN_snoc]; simp

/-- A zero byte behind a group that is not full. -/
theorem words_zero (bs : List UInt8) (h : bs.length % 8 ≠ 0) : wordsI (bs ++ [0]) = wordsI bs := by
  have hn : nwords (bs ++ [0]) = nwords bs := by unfold nwords; simp; omega
  unfold wordsI wordsTo
  rw [hn]
  refine List.map_congr_left fun j hj => ?_
  have hj' := List.mem_range.1 hj
  unfold wordAt
  congr 1
  unfold group nwords at *
  rw [List.drop_append_of_le_length (by omega)]
  by_cases h8 : bs.length - 8 * j ≥ 8
  · rw [List.take_append_of_le_length (by simp; omega)]
  · rw [List.take_of_length_le (by simp; omega), List.take_of_length_le (l := bs.drop (8 * j)) (by simp; omega), wordN_zero]

theorem bytes_zero (label bs : List UInt8) (h : bs.length % 8 ≠ 0) (hl : bs.length < 4294967296) : bytesI label (bs ++ [0]) ≠ bytesI label bs := by
  have key : ∀ (l : List Int) (m n : Nat), m < 4294967297 → n < 4294967297 → sumI label (l ++ [((m : Nat) : Int)]) = sumI label (l ++ [((n : Nat) : Int)]) → m = n := by
    intro l m n hm hn e
    have h1 := (sum_one label l [] (m : Int) (n : Int)).1 e
    rw [toU_inj ⟨by omega, by omega⟩ ⟨by omega, by omega⟩] at h1
    omega
  unfold bytesI
  rw [words_zero bs h]
  intro e
  have h2 := key _ _ _ (by rw [List.length_append]; simp only [List.length_cons, List.length_nil]; omega) (by omega) e
  rw [List.length_append] at h2
  simp only [List.length_cons, List.length_nil] at h2
  omega

theorem pair_first {a b : Int} (c : Int) (ha : InU a) (hb : InU b) : pairI a c = pairI b c ↔ a = b := by
  have h := sum_one pairBytes [] [toI c] (toI a) (toI b)
  rw [toU_toI ha, toU_toI hb] at h
  exact h
theorem pair_second {a b : Int} (c : Int) (ha : InU a) (hb : InU b) : pairI c a = pairI c b ↔ a = b := by
  have h := sum_one pairBytes [toI c] [] (toI a) (toI b)
  rw [toU_toI ha, toU_toI hb] at h
  exact h

end Go.Proofs.Ytikfcpkobgejmaa

/- Plain Lean: what the bit operations of package wire come to. -/
namespace Go.Proofs.Ytikfcpkobgejmaa
open Go.RowKit

theorem not64 (x : Nat) (hx : x < 18446744073709551616) : (BitVec.ofNat 64 x ^^^ BitVec.allOnes 64).toNat = 18446744073709551615 - x := by
  rw [BitVec.xor_allOnes, BitVec.toNat_not, BitVec.toNat_ofNat]
  omega
theorem zig_bits {n : Int} (h1 : -9223372036854775808 ≤ n) (h2 : n ≤ 9223372036854775807) :
    bits BinOp.xor IntKind.u64 (IntKind.u64.wrap (IntKind.u64.wrap n * 2)) (IntKind.u64.wrap (n / 9223372036854775808)) = ((zigI n : Nat) : Int) := by
  rw [bits_xor_u64]
  simp only [wrap_u64]
  unfold zigI
  by_cases h : n < 0
  · rw [if_pos h]
    have e1 : n / 9223372036854775808 % 18446744073709551616 = 18446744073709551615 := by omega
    have e2 : n % 18446744073709551616 * 2 % 18446744073709551616 = ((18446744073709551616 + 2 * n).toNat : Int) := by omega
    have e3 : BitVec.ofInt 64 18446744073709551615 = BitVec.allOnes 64 := by decide +kernel
    rw [e1, e2, e3, BitVec.ofInt_natCast, not64 _ (by omega)]
    omega
  · rw [if_neg h]
    have e1 : n / 9223372036854775808 % 18446744073709551616 = 0 := by omega
    have e2 : n % 18446744073709551616 * 2 % 18446744073709551616 = ((2 * n).toNat : Int) := by omega
    rw [e1, e2, BitVec.ofInt_natCast, show BitVec.ofInt 64 0 = 0#64 by decide +kernel, BitVec.xor_zero, BitVec.toNat_ofNat]
    omega
theorem bits_and_one (n : Nat) : bits BinOp.and IntKind.u64 (n : Int) 1 = ((n % 2 : Nat) : Int) := by
  show IntKind.u64.wrap ((BitVec.ofInt 64 (n : Int) &&& BitVec.ofInt 64 1).toNat : Int) = _
  rw [wrap_u64, BitVec.toNat_and, BitVec.ofInt_natCast, BitVec.toNat_ofNat, show (BitVec.ofInt 64 1).toNat = 1 by decide +kernel, Nat.and_one_is_mod]
  omega
theorem unzig_bits {n : Nat} (h : n ≤ 18446744073709551615) :
    bits BinOp.xor IntKind.i64 ((n : Int) / 2) (wrap64 (-wrap64 (bits BinOp.and IntKind.u64 (n : Int) 1))) = unzigI n := by
  rw [bits_and_one n]
  show IntKind.i64.wrap ((BitVec.ofInt 64 ((n : Int) / 2) ^^^ BitVec.ofInt 64 (wrap64 (-wrap64 ((n % 2 : Nat) : Int)))).toNat : Int) = _
  unfold unzigI
  have ew : ∀ x : Int, IntKind.i64.wrap x = (x + 9223372036854775808) % 18446744073709551616 - 9223372036854775808 := by
    intro x
    simp [IntKind.wrap, IntKind.bits, IntKind.signed]
    omega
  have e0 : BitVec.ofInt 64 ((n : Int) / 2) = BitVec.ofNat 64 (n / 2) := by rw [show (n : Int) / 2 = ((n / 2 : Nat) : Int) by omega, BitVec.ofInt_natCast]
  rw [e0]
  by_cases h2 : n % 2 = 1
  · rw [if_pos h2, h2]
    have e1 : wrap64 (-wrap64 ((1 : Nat) : Int)) = -1 := by decide +kernel
    have e3 : BitVec.ofInt 64 (-1) = BitVec.allOnes 64 := by decide +kernel
    rw [e1, e3, not64 _ (by omega), ew]
    omega
  · rw [if_neg h2]
    have e1 : wrap64 (-wrap64 ((n % 2 : Nat) : Int)) = 0 := by rw [show n % 2 = 0 by omega]; decide +kernel
    rw [e1, show BitVec.ofInt 64 0 = 0#64 by decide +kernel, BitVec.xor_zero, BitVec.toNat_ofNat, ew]
    omega
theorem and127_fin : ∀ n : Fin 256, bits BinOp.and IntKind.u8 ((n.val : Nat) : Int) 127 = ((n.val % 128 : Nat) : Int) := by decide +kernel
theorem and127 (c : UInt8) : bits BinOp.and IntKind.u8 ((c.toNat : Nat) : Int) 127 = ((c.toNat % 128 : Nat) : Int) := and127_fin ⟨c.toNat, c.toNat_lt⟩
theorem or_step {i acc : Nat} {c : UInt8} (hi : i ≤ 9) (ha : acc < 128 ^ i) (h9 : i = 9 → c.toNat % 128 ≤ 1) :
    bits BinOp.or IntKind.u64 (acc : Int) (IntKind.u64.wrap (IntKind.u64.wrap (bits BinOp.and IntKind.u8 ((c.toNat : Nat) : Int) 127) * 2 ^ (7 * i))) = ((acc + c.toNat % 128 * 128 ^ i : Nat) : Int) := by
  rw [and127]
  have hm : c.toNat % 128 < 128 := Nat.mod_lt _ (by decide)
  generalize c.toNat % 128 = x at *
  have hp : (128 : Nat) ^ i = 2 ^ (7 * i) := by rw [show (128 : Nat) = 2 ^ 7 from rfl, ← Nat.pow_mul]
  have hbound : 2 ^ (7 * i) * x < 18446744073709551616 := by
    by_cases e : i = 9
    · subst e
      have := h9 rfl
      have : 2 ^ (7 * 9) * x ≤ 2 ^ (7 * 9) * 1 := Nat.mul_le_mul (Nat.le_refl _) this
      omega
    · have h8 : 2 ^ (7 * i) ≤ 2 ^ 56 := Nat.pow_le_pow_right (by decide) (by omega)
      have : 2 ^ (7 * i) * x ≤ 2 ^ 56 * 127 := Nat.mul_le_mul h8 (by omega)
      omega
  have hacc : acc < 18446744073709551616 := by
    have : 128 ^ i ≤ 128 ^ 9 := Nat.pow_le_pow_right (by decide) hi
    omega
  rw [wrap_u64, wrap_u64]
  have e2 : ((x : Int) % 18446744073709551616 * 2 ^ (7 * i)) % 18446744073709551616 = ((2 ^ (7 * i) * x : Nat) : Int) := by
    rw [Int.emod_eq_of_lt (a := (x : Int)) (by omega) (by omega)]
    rw [show ((x : Int) * 2 ^ (7 * i)) = ((2 ^ (7 * i) * x : Nat) : Int) from by push_cast; exact Int.mul_comm _ _]
    exact Int.emod_eq_of_lt (by omega) (by omega)
  rw [hp] at ha ⊢
  rw [e2, u64_or_nat _ _ (by omega) (by omega)]
  congr 1
  rw [Nat.or_comm, ← Nat.two_pow_add_eq_or_of_lt (by omega), Nat.mul_comm x]
  omega
end Go.Proofs.Ytikfcpkobgejmaa

/- The walks of wire's Writer. -/
namespace Go.Proofs.Ytikfcpkobgejmaa
open Go.RowKit

theorem own_ne {w : World} {B gd n size e T : Nat} {v : Value} {xs : List Value} {cs : Array Value} (hT : T ≠ e) (hB : Blk w gd T cs) (hown : w.ownsRow B e size v n xs) : v.ownBlock ≠ some gd := by
  intro h
  rcases hown.2 with ⟨rfl, _⟩ | ⟨g, cap, cur, rfl, _, hg, _⟩
  · simp [Value.ownBlock] at h
  · obtain rfl : g = gd := by simpa [Value.ownBlock] using h
    unfold Blk at hB
    rw [hB] at hg
    injection hg with hg
    injection hg with _ hg
    exact hT hg
theorem own_put {w w3 : World} {B gd n n' T e : Nat} {v v' : Value} {xs xs' : List Value} (hT : T ≠ e) (hBg : B ≤ gd) (hB : Blk w gd T #[v]) (hown : w.ownsRow B e 1 v n xs) (hg : w.grownBy w3 v.ownBlock) (hown3 : w3.ownsRow B e 1 v' n' xs') :
    w3.cell? ⟨gd, 0, none⟩ = some v ∧ w3.frozen? ⟨gd, 0, none⟩ = false ∧ Blk (w3.setCell ⟨gd, 0, none⟩ v') gd T #[v'] ∧ (w3.setCell ⟨gd, 0, none⟩ v').ownsRow B e 1 v' n' xs' ∧ Below B w (w3.setCell ⟨gd, 0, none⟩ v') := by
  have h3 : Blk w3 gd T #[v] := hB.grown hg (Ne.symm (own_ne hT hB hown))
  refine ⟨by simpa using h3.cell 0, h3.frozen 0, by simpa using h3.set_ 0 v', ?_, ?_⟩
  · exact hown3.kept (only_set (only_refl w3 (some gd)) (.inl rfl) v') (.inr (own_ne hT h3 hown3))
  · exact ((Below.refl B w).grown hg (by have := hB.lt; omega) (fun k e => (hown.lt k e).1)).setCell hBg _

/-- A Writer at block gd, all of it in blocks from B on, with the bytes bs. -/
def Wr (w : World) (B gd : Nat) (bs : List UInt8) : Prop :=
  B ≤ gd ∧ ∃ A n c, bs.length = n ∧ Blk w gd 105 #[.slice A n c] ∧ w.ownsRow B 5 1 (.slice A n c) n (bs.map fun b => Value.int .u8 ((b.toNat : Nat) : Int))
theorem Wr.all {w w' : World} {B gd : Nat} {bs : List UInt8} (h : Wr w B gd bs) (hb : Below w.heap.size w w') : Wr w' B gd bs := by
  obtain ⟨h0, A, n, c, h1, h2, h3⟩ := h
  exact ⟨h0, A, n, c, h1, h2.all hb, own_keep h3 hb⟩
theorem Wr.new (w : World) : Wr (w.alloc (.cells #[.slice none 0 0] 105)) w.heap.size w.heap.size [] := ⟨Nat.le_refl _, none, 0, 0, rfl, Blk.new _ _ _, World.ownsRow_nil _ _ _ _⟩
theorem Wr.lt {w : World} {B gd : Nat} {bs : List UInt8} (h : Wr w B gd bs) : B ≤ gd ∧ gd < w.heap.size := by
  obtain ⟨h0, A, n, c, h1, h2, h3⟩ := h
  exact ⟨h0, h2.lt⟩
theorem info_u8 : (Try.prog.info? 5).map (fun i => (i.zero, i.size, i.bytes)) = some (some (.int .u8 0), 1, 1) := by kernel_rfl

/-- One byte more. -/
theorem Wr.one {w : World} {B gd : Nat} {bs : List UInt8} (h : Wr w B gd bs) (hl : bs.length ≤ 35184372088832) (x : UInt8) (xi : Int) (hx : xi = ((x.toNat : Nat) : Int)) :
    ∃ A n c g cap w3, w.cell? ⟨gd, 0, none⟩ = some (.slice A n c) ∧
      Hid ((Builtin.append_ #[72, 72] 72 #[.slice A n c, .slice (some ⟨w.heap.size, 0, none⟩) 1 1]).run Try.prog (w.alloc (.cells #[.int .u8 xi] 5)) = .ok (.slice (some ⟨g, 0, none⟩) (n + 1) cap) w3) ∧
      w3.cell? ⟨gd, 0, none⟩ = some (.slice A n c) ∧ w3.frozen? ⟨gd, 0, none⟩ = false ∧ Hid (Wr (w3.setCell ⟨gd, 0, none⟩ (.slice (some ⟨g, 0, none⟩) (n + 1) cap)) B gd (bs ++ [x])) ∧ Hid (Below B w (w3.setCell ⟨gd, 0, none⟩ (.slice (some ⟨g, 0, none⟩) (n + 1) cap))) := by
  subst hx
  obtain ⟨h0, A, n, c, rfl, h2, h3⟩ := h
  obtain ⟨i0, hi, hz0, hz1, hz2⟩ := info_parts info_u8
  obtain ⟨g, cap, w3, hap, hown, hg, _, _⟩ := run_append_one (P := Try.prog) w B 72 72 5 i0 _ 1 Try.underlying72 hi hz0 hz1 hz2 rfl _ _ _ h3 (.int .u8 ((x.toNat : Nat) : Int)) rfl (by unfold maxLen; omega) (by omega) (by have := h2.lt; omega)
  obtain ⟨k1, k2, k3, k4, k5⟩ := own_put (by decide) h0 h2 h3 hg hown
  refine ⟨A, _, c, g, cap, w3, by simpa using h2.cell 0, Lib.hid hap, k1, k2, Lib.hid ⟨h0, _, _, _, ?_, k3, ?_⟩, Lib.hid k5⟩
  · simp
  · rw [List.map_append]; exact k4

theorem or128_fin : ∀ n : Fin 256, n.val ||| 128 = n.val % 128 + 128 := by decide +kernel
theorem or128 (m : Nat) : bits BinOp.or IntKind.u8 ((m : Int) % 256) 128 = (((UInt8.ofNat (m % 128 + 128)).toNat : Nat) : Int) := by
  rw [ofNat_toNat (by omega)]
  show IntKind.u8.wrap ((BitVec.ofInt 8 ((m : Int) % 256) ||| BitVec.ofInt 8 128).toNat : Int) = _
  have e1 : BitVec.ofInt 8 ((m : Int) % 256) = BitVec.ofNat 8 (m % 256) := by
    rw [show (m : Int) % 256 = ((m % 256 : Nat) : Int) by omega, BitVec.ofInt_natCast]
  have e2 : (BitVec.ofInt 8 128).toNat = 128 := by decide +kernel
  rw [BitVec.toNat_or, e1, e2, BitVec.toNat_ofNat]
  have h := or128_fin ⟨m % 256, by omega⟩
  simp only at h
  rw [show m % 256 % 2 ^ 8 = m % 256 by omega, h]
  simp [IntKind.wrap, IntKind.bits, IntKind.signed]
  omega

set_option maxRecDepth 100000 in
set_option maxHeartbeats 1000000 in
theorem wuint_any (B gd : Nat) (bs : List UInt8) (n : Nat) (ni : Int) (hni : ni = (n : Int)) (w : World) (HW : Hid (Wr w B gd bs)) (hn : n ≤ 18446744073709551615) (hl : bs.length ≤ 17592186044416) :
    Calls Try.prog 72 #[.pointer (some ⟨gd, 0, none⟩), .int .u64 ni] w fun e w' => e = .returned (.tuple #[]) ∧ Wr w' B gd (bs ++ varint n) ∧ Below B w w' := by
  subst hni
  have HV := Lib.hid (varint_len10 hn)
  go_enter Try.func72, Try.ntmps72
  go_wp2
  go_loopw [1] (fun v wr => ∃ m : Nat, ∃ pre : List UInt8, v = .int .u64 (m : Int) ∧ m ≤ 18446744073709551615 ∧ Hid (pre ++ varint m = bs ++ varint n) ∧ Hid (Wr wr B gd pre) ∧ Below B w wr) (fun v _ => (intOf v).toNat)
  case atStart => exact ⟨n, bs, rfl, hn, Lib.hid rfl, HW, Below.refl _ _⟩
  case round =>
    obtain ⟨m, pre, rfl, hm, HE, HWr, hb⟩ := hrel
    have hpl : pre.length ≤ 35184372088832 := by
      have h1 := congrArg List.length HE.out
      simp only [List.length_append] at h1
      have := HV.out
      omega
    by_cases hge : 128 ≤ m
    · obtain ⟨A, k, c, g, cap, w3, hc, HA, hc3, hf3, HW3, HB3⟩ := HWr.out.one hpl (UInt8.ofNat (m % 128 + 128)) (bits BinOp.or IntKind.u8 ((m : Int) % 256) 128) (or128 m)
      go_wp2_with (at_builtin; refine wpList_append_run HA.out rfl rfl rfl rfl ?_)
      exact ⟨⟨m / 128, _, by go_num, by omega, Lib.hid (by rw [← HE.out, varint_ge hge, List.append_assoc]; rfl), HW3, hb.trans HB3.out⟩, by simp [intOf]; omega⟩
    · obtain ⟨A, k, c, g, cap, w3, hc, HA, hc3, hf3, HW3, HB3⟩ := HWr.out.one hpl (UInt8.ofNat m) (m : Int) (by rw [ofNat_toNat (by omega)])
      go_wp2_with (at_builtin; refine wpList_append_run HA.out rfl rfl rfl rfl ?_)
      go_end0
      exact ⟨rfl, by rw [← HE.out, varint_lt (by omega)]; exact HW3.out, hb.trans HB3.out⟩

set_option maxRecDepth 100000 in
set_option maxHeartbeats 400000 in
theorem zigzag_any (n : Int) (w : World) (h1 : -9223372036854775808 ≤ n) (h2 : n ≤ 9223372036854775807) :
    Calls Try.prog 73 #[.int .i64 n] w fun e w' => e = .returned (.int .u64 ((zigI n : Nat) : Int)) ∧ w = w' := by
  go_enter Try.func73, Try.ntmps73
  have HZ := Lib.hid (zig_bits h1 h2)
  go_wp2
  go_ret
  rw [HZ.out]
  exact ⟨rfl, rfl⟩

set_option maxRecDepth 100000 in
set_option maxHeartbeats 400000 in
theorem unzigzag_any (n : Nat) (ni : Int) (hni : ni = (n : Int)) (w : World) (h2 : n ≤ 18446744073709551615) :
    Calls Try.prog 61 #[.int .u64 ni] w fun e w' => e = .returned (.int .i64 (unzigI n)) ∧ w = w' := by
  subst hni
  go_enter Try.func61, Try.ntmps61
  have HZ := Lib.hid (unzig_bits h2)
  go_wp2
  go_ret
  rw [HZ.out]
  exact ⟨rfl, rfl⟩

set_option maxRecDepth 100000 in
set_option maxHeartbeats 400000 in
theorem wint_any (B gd : Nat) (bs : List UInt8) (n : Int) (w : World) (HW : Hid (Wr w B gd bs)) (h1 : -9223372036854775808 ≤ n) (h2 : n ≤ 9223372036854775807) (hl : bs.length ≤ 17592186044416) :
    Calls Try.prog 57 #[.pointer (some ⟨gd, 0, none⟩), .int .i64 n] w fun e w' => e = .returned (.tuple #[]) ∧ Wr w' B gd (bs ++ encInt n) ∧ Below B w w' := by
  go_enter Try.func57, Try.ntmps57
  go_wp2_with (first
    | (go_at_call 73; ((with_reducible refine (zigzag_any _ _ h1 h2).mono ?_); rintro e w1 ⟨rfl, rfl⟩))
    | (go_at_call 72; ((with_reducible refine (wuint_any B gd bs _ _ rfl _ HW (zigI_lt h1 h2) hl).mono ?_); rintro e w1 ⟨rfl, hW1, hb1⟩)))
  go_end0
  exact ⟨rfl, hW1, hb1⟩


/-- Many bytes more. -/
theorem Wr.more {w : World} {B gd : Nat} {bs : List UInt8} (h : Wr w B gd bs) (A' : Option Addr) (m c' : Nat) (xs : List UInt8) (hx : xs.length = m) (hR : Rd w w.heap.size A' m (vByte xs)) (hl : bs.length + m ≤ 70368744177664) :
    ∃ A n c A3 n3 c3 w3, w.cell? ⟨gd, 0, none⟩ = some (.slice A n c) ∧
      Hid ((Builtin.append_ #[72, 72] 72 #[.slice A n c, .slice A' m c']).run Try.prog w = .ok (.slice A3 n3 c3) w3) ∧
      w3.cell? ⟨gd, 0, none⟩ = some (.slice A n c) ∧ w3.frozen? ⟨gd, 0, none⟩ = false ∧ Hid (Wr (w3.setCell ⟨gd, 0, none⟩ (.slice A3 n3 c3)) B gd (bs ++ xs)) ∧ Hid (Below B w (w3.setCell ⟨gd, 0, none⟩ (.slice A3 n3 c3))) := by
  obtain ⟨h0, A, n, c, rfl, h2, h3⟩ := h
  obtain ⟨i0, hi, hz0, hz1, hz2⟩ := info_parts info_u8
  obtain ⟨v', w3, hap, hown, hg, _⟩ := run_append_rd (P := Try.prog) w B 72 72 5 i0 _ 1 Try.underlying72 hi hz0 hz1 hz2 rfl _ _ _ h3 w.heap.size A' m c' (vByte xs) hR hR.none_ (fun _ _ => rfl) (by unfold maxLen; omega) (by omega) (by have := h2.lt; omega)
  obtain ⟨k1, k2, k3, k4, k5⟩ := own_put (by decide) h0 h2 h3 hg hown
  obtain ⟨A3, c3, rfl⟩ := own_slice hown
  refine ⟨A, _, c, _, _, _, w3, by simpa using h2.cell 0, Lib.hid hap, k1, k2, Lib.hid ⟨h0, _, _, _, ?_, k3, ?_⟩, Lib.hid k5⟩
  · simp [hx]
  · have e : (List.range m).map (vByte xs) = xs.map fun b => Value.int .u8 ((b.toNat : Nat) : Int) := by
      subst hx
      refine List.ext_getElem (by simp) fun i h1 h2 => ?_
      have hi : i < xs.length := by simpa using h2
      simp [vByte, hi]
    rw [List.map_append, ← e]; exact k4
theorem strCells_eq (s : ByteArray) : Lib.strCells s = s.data.toList.map fun b => Value.int .u8 ((b.toNat : Nat) : Int) := rfl

theorem wpList_append_run2 {P : Program} {w : World} {ops : Array Oper} {rest : List Oper} {o : Oper} {a : Act} {Q : Exit → Act → World → Prop} {s x : Operand} {t u : TypeId} {v vx v' : Value} {w' : World}
    (hrun : (Builtin.append_ #[t, u] o.type #[v, vx]).run P w = .ok v' w') (hgd : o.guard = none) (ho : o.op = .call { callee := .builtin .append, args := #[s, x], argTypes := #[t, u] }) (hs : a.eval s = v) (hx : a.eval x = vx)
    (h : wpList P ops Q rest (a.put o.dst v') w') : wpList P ops Q (o :: rest) a w :=
  wpList_plain hgd fun _ hK => by
    unfold Oper.wp execOp
    simp only [ho, resolve, invoke, builtin, Sem.run_bind, Sem.run_pure, Result.andThen_ok, List.map_toArray, List.map_cons, List.map_nil, hs, hx, hrun]
    exact hK _ _ h

theorem encInt_len {n : Int} (h1 : -9223372036854775808 ≤ n) (h2 : n ≤ 9223372036854775807) : (encInt n).length ≤ 10 := varint_len10 (zigI_lt h1 h2)
theorem encIntsTo_len (l : List Int) (hl : l.length ≤ 1099511627776) (hr : ∀ j : Nat, -9223372036854775808 ≤ l[j]?.getD 0 ∧ l[j]?.getD 0 ≤ 9223372036854775807) : ∀ k : Nat, k ≤ l.length → (encIntsTo l k).length ≤ 10 + 10 * k
  | 0, _ => by rw [encIntsTo_zero]; exact varint_len10 (by omega)
  | k + 1, h => by
    rw [encIntsTo_succ l k (by omega), List.length_append]
    have := encIntsTo_len l hl hr k (by omega)
    have := encInt_len (hr k).1 (hr k).2
    omega


set_option maxRecDepth 100000 in
set_option maxHeartbeats 400000 in
theorem clone_any (A : Option Addr) (n c : Nat) (bs : List UInt8) (w : World) (HX : Hid (bs.length = n)) (hR : Rd w w.heap.size A n (vByte bs)) (hn : n ≤ 70368744177664) :
    Calls Try.prog 59 #[.slice A n c] w fun e w' => ∃ A' c', e = .returned (.slice A' n c') ∧ n ≤ c' ∧ c' ≤ 9223372036854775807 ∧
      w'.ownsRow w.heap.size 5 1 (.slice A' n c') n (bs.map fun b => Value.int .u8 ((b.toNat : Nat) : Int)) ∧ Rd w' w'.heap.size A' n (vByte bs) ∧ Below w.heap.size w w' := by
  obtain ⟨i0, hi, hz0, hz1, hz2⟩ := info_parts info_u8
  have hq := Lib.run_eql_slice_nil (P := Try.prog) w 72 5 A n c 0 0 Try.underlying72
  rcases A with _ | a
  · have h0 := hR.none_ rfl
    subst h0
    obtain rfl : bs = [] := List.eq_nil_of_length_eq_zero HX.out
    go_enter Try.func59, Try.ntmps59
    go_wp2
    go_ret
    exact ⟨none, 0, rfl, by omega, by omega, World.ownsRow_nil _ _ _ _, Rd.nil, Below.refl _ _⟩
  · have ho : (w.alloc (.cells #[] 5)).ownsRow w.heap.size 5 1 (.slice (some ⟨w.heap.size, 0, none⟩) 0 0) 0 [] := World.ownsRow_made w #[] 0 (Nat.le_refl _) (by decide) rfl
    obtain ⟨v, w3, hap, hown, hg, _⟩ := run_append_rd (P := Try.prog) (w.alloc (.cells #[] 5)) w.heap.size 72 72 5 i0 _ 1 Try.underlying72 hi hz0 hz1 hz2 rfl _ 0 [] ho w.heap.size (some a) n c (vByte bs) (hR.alloc (Nat.le_refl _) _) (fun h => by cases h) (fun _ _ => rfl) (by unfold maxLen; omega) (by omega) (by simp)
    have HA := Lib.hid hap; clear hap
    simp only [Nat.zero_add, List.nil_append] at hown
    obtain ⟨A', c', rfl⟩ := own_slice hown
    have e : (List.range n).map (vByte bs) = bs.map fun b => Value.int .u8 ((b.toNat : Nat) : Int) := by
      refine List.ext_getElem (by simp [HX.out]) fun i h1 h2 => ?_
      have hi : i < bs.length := by simpa using h2
      simp [vByte, hi]
    rw [e] at hown
    clear e
    go_enter Try.func59, Try.ntmps59
    go_wp2_with (at_builtin; refine wpList_append_run HA.out rfl rfl rfl rfl ?_)
    go_ret
    obtain ⟨_, r2, r3⟩ := rd_bytes hown
    exact ⟨A', c', rfl, r2, own_cap hown, hown, r3, ((Below.refl _ _).alloc (Nat.le_refl _) _).grown hg (by simp) (fun k e => (ho.lt k e).1)⟩

set_option maxRecDepth 100000 in
set_option maxHeartbeats 400000 in
theorem wdone_any (B gd : Nat) (bs : List UInt8) (w : World) (HW : Hid (Wr w B gd bs)) (hl : bs.length ≤ 70368744177664) :
    Calls Try.prog 58 #[.pointer (some ⟨gd, 0, none⟩)] w fun e w' => ∃ A' n c', e = .returned (.slice A' n c') ∧ n ≤ c' ∧ c' ≤ 9223372036854775807 ∧ Hid (bs.length = n) ∧
      w'.ownsRow w.heap.size 5 1 (.slice A' n c') n (bs.map fun b => Value.int .u8 ((b.toNat : Nat) : Int)) ∧ Rd w' w'.heap.size A' n (vByte bs) ∧ Below w.heap.size w w' := by
  obtain ⟨h0, A, n, c, hx, h2, h3⟩ := HW.out
  have hc : w.cell? ⟨gd, 0, none⟩ = some (.slice A n c) := by simpa using h2.cell 0
  have HX := Lib.hid hx
  obtain ⟨_, _, r3⟩ := rd_bytes h3
  have hn : n ≤ 70368744177664 := by omega
  clear hx h2 h3
  go_enter Try.func58, Try.ntmps58
  go_wp2_with (go_at_call 59; ((with_reducible refine (clone_any _ _ _ bs _ HX r3 hn).mono ?_); rintro e w2 ⟨A', c', rfl, q1, q2, q3, q4, q5⟩))
  go_ret
  exact ⟨A', n, c', rfl, q1, q2, HX, q3, q4, q5⟩

end Go.Proofs.Ytikfcpkobgejmaa

/- Plain Lean: reading varints and lists. -/
namespace Go.Proofs.Ytikfcpkobgejmaa
open Go.RowKit

/-- The byte c at place i is refused. -/
def badAt (i : Nat) (c : UInt8) : Bool := (decide (i = 9) && decide (1 < c.toNat)) || (decide (0 < i) && decide (c.toNat = 0))
/-- Reading a varint from place i on: the error, the number, the rest. -/
def decU : Nat → Nat → List UInt8 → Int × Nat × List UInt8
  | _, _, [] => (3, 0, [])
  | i, acc, c :: r => if badAt i c then (2, 0, []) else if c.toNat < 128 then (0, acc + c.toNat * 128 ^ i, r) else decU (i + 1) (acc + c.toNat % 128 * 128 ^ i) r
theorem decU_nil (i acc : Nat) : decU i acc [] = (3, 0, []) := rfl
theorem decU_bad {i acc : Nat} {c : UInt8} {r : List UInt8} (h : badAt i c = true) : decU i acc (c :: r) = (2, 0, []) := by rw [decU, if_pos h]
theorem decU_end {i acc : Nat} {c : UInt8} {r : List UInt8} (h : badAt i c = false) (hc : c.toNat < 128) : decU i acc (c :: r) = (0, acc + c.toNat * 128 ^ i, r) := by rw [decU, if_neg (by simp [h]), if_pos hc]
theorem decU_go {i acc : Nat} {c : UInt8} {r : List UInt8} (h : badAt i c = false) (hc : 128 ≤ c.toNat) : decU i acc (c :: r) = decU (i + 1) (acc + c.toNat % 128 * 128 ^ i) r := by rw [decU, if_neg (by simp [h]), if_neg (by omega)]
/-- An error, and nothing with it; or a rest that is no longer. -/
theorem decU_out : ∀ (bs : List UInt8) (i acc : Nat), (decU i acc bs).1 = 0 ∨ ((decU i acc bs).1 = 2 ∨ (decU i acc bs).1 = 3) ∧ (decU i acc bs).2 = (0, [])
  | [], _, _ => .inr ⟨.inr rfl, rfl⟩
  | c :: r, i, acc => by
    by_cases h : badAt i c = true
    · rw [decU_bad h]; exact .inr ⟨.inl rfl, rfl⟩
    · by_cases hc : c.toNat < 128
      · rw [decU_end (by simpa using h) hc]; exact .inl rfl
      · rw [decU_go (by simpa using h) (by omega)]; exact decU_out r _ _
theorem pow128_le {i : Nat} (h : i ≤ 9) : 128 ^ i ≤ 9223372036854775808 := Nat.le_trans (Nat.pow_le_pow_right (by decide) h) (by decide)
/-- What is read fits. -/
theorem decU_lt : ∀ (bs : List UInt8) (i acc : Nat), i ≤ 9 → acc < 128 ^ i → (decU i acc bs).2.1 ≤ 18446744073709551615 ∧ (decU i acc bs).2.2.length ≤ bs.length
  | [], _, _, _, _ => ⟨by simp [decU], by simp [decU]⟩
  | c :: r, i, acc, hi, ha => by
    have hp := pow128_le hi
    by_cases h : badAt i c = true
    · rw [decU_bad h]; exact ⟨by simp, by simp⟩
    · have h' : badAt i c = false := by simpa using h
      by_cases hc : c.toNat < 128
      · rw [decU_end h' hc]
        refine ⟨?_, by simp⟩
        simp only
        by_cases h9 : i = 9
        · subst h9
          have : c.toNat ≤ 1 := by
            unfold badAt at h'
            simp at h'
            omega
          omega
        · have h8 : 128 ^ i ≤ 128 ^ 8 := Nat.pow_le_pow_right (by decide) (by omega)
          have : c.toNat * 128 ^ i ≤ 127 * 128 ^ 8 := Nat.mul_le_mul (by omega) h8
          omega
      · rw [decU_go h' (by omega)]
        by_cases h9 : i = 9
        · subst h9
          unfold badAt at h'
          simp at h'
          omega
        · have hm : c.toNat % 128 * 128 ^ i ≤ 127 * 128 ^ i := Nat.mul_le_mul (by omega) (Nat.le_refl _)
          have := decU_lt r (i + 1) (acc + c.toNat % 128 * 128 ^ i) (by omega) (by rw [Nat.pow_succ]; omega)
          exact ⟨this.1, by simp only [List.length_cons]; omega⟩
/-- Round trip. -/
theorem decU_varint (n : Nat) : ∀ (i acc : Nat) (r : List UInt8), i ≤ 9 → n * 128 ^ i < 18446744073709551616 → (i = 0 ∨ 0 < n) → decU i acc (varint n ++ r) = (0, acc + n * 128 ^ i, r) := by
  induction n using Nat.strongRecOn with
  | ind n ih =>
    intro i acc r hi hn h0
    by_cases h : n < 128
    · rw [varint_lt h]
      have hc : (UInt8.ofNat n).toNat = n := by rw [UInt8.toNat_ofNat']; omega
      rw [List.singleton_append, decU_end ?_ (by omega), hc]
      unfold badAt
      rw [hc]
      by_cases h9 : i = 9
      · subst h9
        have : n ≤ 1 := by omega
        simp; omega
      · simp [h9]; omega
    · have hc : (UInt8.ofNat (n % 128 + 128)).toNat = n % 128 + 128 := by rw [UInt8.toNat_ofNat']; omega
      have h9 : i ≠ 9 := by
        rintro rfl
        have : 128 * 128 ^ 9 ≤ n * 128 ^ 9 := Nat.mul_le_mul (by omega) (Nat.le_refl _)
        omega
      rw [varint_ge (by omega), List.cons_append, decU_go ?_ (by omega), hc]
      · have e : n = n / 128 * 128 + n % 128 := by omega
        have e2 : n / 128 * 128 ^ (i + 1) + n % 128 * 128 ^ i = n * 128 ^ i := by
          rw [Nat.pow_succ, ← Nat.mul_assoc, Nat.mul_right_comm, ← Nat.add_mul, ← e]
        rw [ih (n / 128) (by omega) (i + 1) _ r (by omega) (by omega) (.inr (by omega)), show (n % 128 + 128) % 128 = n % 128 by omega]
        congr 2
        omega
      · unfold badAt
        rw [hc]
        simp [h9]
theorem decU_enc {n : Nat} (h : n ≤ 18446744073709551615) (r : List UInt8) : decU 0 0 (varint n ++ r) = (0, n, r) := by
  have := decU_varint n 0 0 r (by decide) (by omega) (.inl rfl)
  simpa using this
/-- One encoding. -/
theorem decU_one : ∀ (bs : List UInt8) (i acc v : Nat) (r : List UInt8), i ≤ 9 → decU i acc bs = (0, v, r) → ∃ n, bs = varint n ++ r ∧ v = acc + n * 128 ^ i ∧ (0 < i → 0 < n)
  | [], i, acc, v, r, _, h => by rw [decU_nil] at h; simp at h
  | c :: bs, i, acc, v, r, hi, h => by
    by_cases hb : badAt i c = true
    · rw [decU_bad hb] at h; simp at h
    · have hb' : badAt i c = false := by simpa using hb
      by_cases hc : c.toNat < 128
      · rw [decU_end hb' hc] at h
        injection h with _ h
        injection h with h1 h2
        subst h1 h2
        refine ⟨c.toNat, ?_, rfl, fun h0 => ?_⟩
        · rw [varint_lt hc]; simp
        · unfold badAt at hb'; simp at hb'; omega
      · rw [decU_go hb' (by omega)] at h
        have h9 : i ≠ 9 := by
          rintro rfl
          unfold badAt at hb'; simp at hb'; omega
        obtain ⟨n, e1, e2, e3⟩ := decU_one bs (i + 1) _ v r (by omega) h
        have hn := e3 (by omega)
        have hc2 := c.toNat_lt
        refine ⟨c.toNat % 128 + 128 * n, ?_, ?_, fun _ => by omega⟩
        · rw [varint_ge (by omega), show (c.toNat % 128 + 128 * n) % 128 + 128 = c.toNat by omega, show (c.toNat % 128 + 128 * n) / 128 = n by omega, e1]
          simp
        · rw [e2, Nat.add_mul, Nat.pow_succ, ← Nat.mul_assoc, Nat.mul_right_comm, Nat.mul_comm n 128]
          omega
theorem decU_inv {bs r : List UInt8} {v : Nat} (h : decU 0 0 bs = (0, v, r)) : bs = varint v ++ r := by
  obtain ⟨n, e1, e2, _⟩ := decU_one bs 0 0 v r (by decide) h
  have : v = n := by simpa using e2
  subst this; exact e1
/-- A proper prefix. -/
theorem decU_cut (n : Nat) : ∀ (i acc k : Nat), i ≤ 9 → n * 128 ^ i < 18446744073709551616 → (i = 0 ∨ 0 < n) → k < (varint n).length → decU i acc ((varint n).take k) = (3, 0, []) := by
  induction n using Nat.strongRecOn with
  | ind n ih =>
    intro i acc k hi hn h0 hk
    cases k with
    | zero => simp [decU_nil]
    | succ k =>
      by_cases h : n < 128
      · rw [varint_lt h] at hk; simp at hk
      · have hc : (UInt8.ofNat (n % 128 + 128)).toNat = n % 128 + 128 := by rw [UInt8.toNat_ofNat']; omega
        have h9 : i ≠ 9 := by
          rintro rfl
          have : 128 * 128 ^ 9 ≤ n * 128 ^ 9 := Nat.mul_le_mul (by omega) (Nat.le_refl _)
          omega
        rw [varint_ge (by omega)] at hk ⊢
        rw [List.take_succ_cons, decU_go ?_ (by omega)]
        · have e2 : n / 128 * 128 ^ (i + 1) ≤ n * 128 ^ i := by
            rw [Nat.pow_succ, ← Nat.mul_assoc, Nat.mul_right_comm]
            exact Nat.mul_le_mul (by omega) (Nat.le_refl _)
          exact ih (n / 128) (by omega) (i + 1) _ k (by omega) (by omega) (.inr (by omega)) (by simpa using hk)
        · unfold badAt
          rw [hc]
          simp [h9]
theorem decU_prefix {n : Nat} (h : n ≤ 18446744073709551615) {k : Nat} (hk : k < (varint n).length) : decU 0 0 ((varint n).take k) = (3, 0, []) :=
  decU_cut n 0 0 k (by decide) (by omega) (.inl rfl) hk

/-- Reading bytes: the length, then the bytes. -/
def decRaw (bs : List UInt8) : Int × List UInt8 × List UInt8 :=
  if (decU 0 0 bs).1 ≠ 0 then ((decU 0 0 bs).1, [], []) else if (decU 0 0 bs).2.2.length < (decU 0 0 bs).2.1 then (3, [], []) else (0, (decU 0 0 bs).2.2.take (decU 0 0 bs).2.1, (decU 0 0 bs).2.2.drop (decU 0 0 bs).2.1)
/-- Reading k signed numbers. -/
def decK : Nat → List UInt8 → Int × List Int × List UInt8
  | 0, r => (0, [], r)
  | k + 1, r => if (decU 0 0 r).1 ≠ 0 then ((decU 0 0 r).1, [], []) else if (decK k (decU 0 0 r).2.2).1 ≠ 0 then ((decK k (decU 0 0 r).2.2).1, [], []) else (0, unzigI (decU 0 0 r).2.1 :: (decK k (decU 0 0 r).2.2).2.1, (decK k (decU 0 0 r).2.2).2.2)
def decInts (bs : List UInt8) : Int × List Int × List UInt8 :=
  if (decU 0 0 bs).1 ≠ 0 then ((decU 0 0 bs).1, [], []) else if (decU 0 0 bs).2.2.length < (decU 0 0 bs).2.1 then (3, [], []) else decK (decU 0 0 bs).2.1 (decU 0 0 bs).2.2
def decBool (bs : List UInt8) : Int × Bool × List UInt8 :=
  match bs with
  | [] => (3, false, [])
  | c :: r => if 1 < c.toNat then (2, false, []) else (0, decide (c.toNat = 1), r)
end Go.Proofs.Ytikfcpkobgejmaa

/- The walks of wire's Reader. -/
namespace Go.Proofs.Ytikfcpkobgejmaa
open Go.RowKit

/-- A Reader at block gd: at no error the bytes that are left. -/
def Rdr (w : World) (B gd : Nat) (rest : List UInt8) (err : Int) : Prop :=
  gd < B ∧ B ≤ w.heap.size ∧ ∃ A n c, Blk w gd 110 #[.slice A n c, .int .i64 err] ∧ n ≤ c ∧ c ≤ 9223372036854775807 ∧ (err = 0 → rest.length = n ∧ n ≤ 70368744177664 ∧ Rd w B A n (vByte rest))
theorem Rdr.grown {w w' : World} {B gd : Nat} {rest : List UInt8} {err : Int} {row : Option Nat} (h : Rdr w B gd rest err) (hg : w.grownBy w' row) (hr : ∀ r, row = some r → B ≤ r) : Rdr w' B gd rest err := by
  obtain ⟨k1, k2, A, n, c, h1, h2, h3, h4⟩ := h
  have hne : ∀ b, b < B → some b ≠ row := fun b hb e => by have := hr b e.symm; omega
  refine ⟨k1, Nat.le_trans k2 hg.size, A, n, c, h1.grown hg (hne gd k1), h2, h3, fun e => ⟨(h4 e).1, (h4 e).2.1, ?_⟩⟩
  exact (h4 e).2.2.keep fun b hb => hg.block b (by omega) (hne b hb)
theorem Rdr.all {w w' : World} {B gd : Nat} {rest : List UInt8} {err : Int} (h : Rdr w B gd rest err) (hb : Below w.heap.size w w') : Rdr w' B gd rest err :=
  h.grown (only_of_below hb none) (fun _ e => by cases e)
theorem Rdr.more {w : World} {B B' gd : Nat} {rest : List UInt8} {err : Int} (h : Rdr w B gd rest err) (hB : B ≤ B') (hB' : B' ≤ w.heap.size) : Rdr w B' gd rest err := by
  obtain ⟨k1, k2, A, n, c, h1, h2, h3, h4⟩ := h
  exact ⟨by omega, hB', A, n, c, h1, h2, h3, fun e => ⟨(h4 e).1, (h4 e).2.1, (h4 e).2.2.more hB⟩⟩
theorem Rdr.lt {w : World} {B gd : Nat} {rest : List UInt8} {err : Int} (h : Rdr w B gd rest err) : gd < B ∧ B ≤ w.heap.size := ⟨h.1, h.2.1⟩
/-- The row of what is left does not lie in the Reader's own block. -/
theorem rd_set {w : World} {B gd n m c k : Nat} {A A' : Option Addr} {bs : List UInt8} {T : TypeId} {err : Int} {u : Value} (hR : Rd w B A n (vByte bs)) (hD : Blk w gd T #[.slice A' m c, .int .i64 err]) : Rd (w.setCell ⟨gd, k, none⟩ u) B A n (vByte bs) := by
  intro h
  obtain ⟨b, off, e, hb, hc⟩ := hR h
  have hne : b ≠ gd := by
    rintro rfl
    have h0 := hc 0 h
    rw [Nat.add_zero, Blk.cell hD off] at h0
    rcases off with _ | _ | off <;> simp [vByte] at h0
  exact ⟨b, off, e, hb, fun j hj => (World.cell?_of_block (w := w) (Below.heap_setCell w _ u b hne)).trans (hc j hj)⟩
/-- An error is recorded. -/
theorem Rdr.fail {w : World} {B gd : Nat} {rest : List UInt8} {err : Int} (h : Rdr w B gd rest err) (e : Int) (he : e ≠ 0) : Rdr (w.setCell ⟨gd, 1, none⟩ (.int .i64 e)) B gd [] e := by
  obtain ⟨k1, k2, A, n, c, h1, h2, h3, h4⟩ := h
  exact ⟨k1, by simpa [World.setCell] using k2, A, n, c, by simpa using h1.set_ 1 (.int .i64 e), h2, h3, fun h => absurd h he⟩

set_option maxRecDepth 100000 in
set_option maxHeartbeats 400000 in
theorem octet_err (B gd : Nat) (rest : List UInt8) (err : Int) (w : World) (HR : Hid (Rdr w B gd rest err)) (he : err ≠ 0) :
    Calls Try.prog 74 #[.pointer (some ⟨gd, 0, none⟩)] w fun e w' => e = .returned (.int .u8 0) ∧ w = w' := by
  obtain ⟨k1, k2, A, n, c, h1, h2, h3, h4⟩ := HR.out
  have hc1 : w.cell? ⟨gd, 1, none⟩ = some (.int .i64 err) := by simpa using h1.cell 1
  have hb : (err != 0) = true := by simpa using he
  clear h1 h4 he
  go_enter Try.func74, Try.ntmps74
  go_wp2
  go_ret
  exact ⟨rfl, rfl⟩

set_option maxRecDepth 100000 in
set_option maxHeartbeats 400000 in
theorem octet_nil (B gd : Nat) (w : World) (HR : Hid (Rdr w B gd [] 0)) :
    Calls Try.prog 74 #[.pointer (some ⟨gd, 0, none⟩)] w fun e w' => e = .returned (.int .u8 0) ∧ Rdr w' B gd [] 3 ∧ w.grownBy w' (some gd) := by
  obtain ⟨k1, k2, A, n, c, h1, h2, h3, h4⟩ := HR.out
  have hc0 : w.cell? ⟨gd, 0, none⟩ = some (.slice A n c) := by simpa using h1.cell 0
  have hc1 : w.cell? ⟨gd, 1, none⟩ = some (.int .i64 0) := by simpa using h1.cell 1
  have hf1 : w.frozen? ⟨gd, 1, none⟩ = false := h1.frozen 1
  have hn : ((n : Int) == 0) = true := by have := (h4 rfl).1; simp at this; simp; omega
  have HF := Lib.hid (HR.out.fail 3 (by decide))
  clear h1 h4
  go_enter Try.func74, Try.ntmps74
  go_wp2
  go_ret
  exact ⟨rfl, HF.out, only_set (only_refl _ _) (.inl rfl) _⟩

theorem Rdr.step {w : World} {B gd n c bk off : Nat} {b : UInt8} {r : List UInt8} (hB : Blk w gd 110 #[.slice (some ⟨bk, off, none⟩) n c, .int .i64 0]) (k1 : gd < B) (k2 : B ≤ w.heap.size) (hR : Rd w B (some ⟨bk, off, none⟩) n (vByte (b :: r))) (hl : (b :: r).length = n) (hn : 1 ≤ n) (hnc : n ≤ c) (hc : c ≤ 9223372036854775807) (hm : n ≤ 70368744177664)
    (o' : Nat) (ho : c ≠ 1 → o' = off + 1) : Rdr (w.setCell ⟨gd, 0, none⟩ (.slice (some ⟨bk, o', none⟩) (n - 1) (c - 1))) B gd r 0 := by
  refine ⟨k1, by simpa [World.setCell] using k2, some ⟨bk, o', none⟩, n - 1, c - 1, by simpa using hB.set_ 0 (.slice (some ⟨bk, o', none⟩) (n - 1) (c - 1)), by omega, by omega, fun _ => ⟨by simp at hl; omega, by omega, ?_⟩⟩
  refine rd_set (T := 110) (A' := some ⟨bk, off, none⟩) (m := n) (c := c) (err := 0) ?_ hB
  intro h0
  have := ho (by omega)
  subst this
  obtain ⟨b', off', e, hb, hcell⟩ := hR (by omega)
  cases e
  exact ⟨bk, off + 1, rfl, hb, fun j hj => by
    rw [Nat.add_right_comm, Nat.add_assoc, hcell (j + 1) (by omega)]
    simp [vByte]⟩
set_option maxRecDepth 100000 in
set_option maxHeartbeats 400000 in
theorem octet_cons (B gd : Nat) (b : UInt8) (r : List UInt8) (w : World) (HR : Hid (Rdr w B gd (b :: r) 0)) :
    Calls Try.prog 74 #[.pointer (some ⟨gd, 0, none⟩)] w fun e w' => e = .returned (.int .u8 ((b.toNat : Nat) : Int)) ∧ Rdr w' B gd r 0 ∧ w.grownBy w' (some gd) := by
  obtain ⟨k1, k2, A, n, c, h1, h2, h3, h4⟩ := HR.out
  have hc0 : w.cell? ⟨gd, 0, none⟩ = some (.slice A n c) := by simpa using h1.cell 0
  have hc1 : w.cell? ⟨gd, 1, none⟩ = some (.int .i64 0) := by simpa using h1.cell 1
  have hf0 : w.frozen? ⟨gd, 0, none⟩ = false := h1.frozen 0
  obtain ⟨hl, hmx, hR⟩ := h4 rfl
  have hn1 : 1 ≤ n := by simp at hl; omega
  have hn : ((n : Int) == 0) = false := by simp; omega
  obtain ⟨bk, off, rfl, hbk, hcell⟩ := hR (by omega)
  have hcb : w.cell? ⟨bk, off, none⟩ = some (.int .u8 ((b.toNat : Nat) : Int)) := by simpa [vByte] using hcell 0 (by omega)
  have hcp : 1 ≤ c := by omega
  have HL := Lib.hid hl
  have HH := Lib.hid h1
  have HHR := Lib.hid hR
  clear hR h1 h4 hcell hl
  go_enter Try.func74, Try.ntmps74
  go_wp2
  · go_ret
    have hc1' : c = 1 := by assumption
    subst hc1'
    exact ⟨rfl, Rdr.step (c := 1) HH.out k1 k2 HHR.out HL.out hn1 h2 (by omega) hmx off (fun h => absurd rfl h), only_set (only_refl _ _) (.inl rfl) _⟩
  · go_ret
    exact ⟨rfl, Rdr.step HH.out k1 k2 HHR.out HL.out hn1 h2 (by omega) hmx (off + 1) (fun _ => rfl), only_set (only_refl _ _) (.inl rfl) _⟩

/-- Reading in a state. -/
def readU (rest : List UInt8) (err : Int) : Int × Nat × List UInt8 := if err = 0 then decU 0 0 rest else (err, 0, [])
theorem Rdr.any {w : World} {B gd : Nat} {rest : List UInt8} {err : Int} (h : Rdr w B gd rest err) (he : err ≠ 0) (rest' : List UInt8) : Rdr w B gd rest' err := by
  obtain ⟨k1, k2, A, n, c, h1, h2, h3, h4⟩ := h
  exact ⟨k1, k2, A, n, c, h1, h2, h3, fun h => absurd h he⟩
theorem Rdr.err_cell {w : World} {B gd : Nat} {rest : List UInt8} {err : Int} (h : Rdr w B gd rest err) : w.cell? ⟨gd, 1, none⟩ = some (.int .i64 err) ∧ w.frozen? ⟨gd, 1, none⟩ = false := by
  obtain ⟨_, _, A, n, c, h1, h2, h3, h4⟩ := h
  exact ⟨by simpa using h1.cell 1, h1.frozen 1⟩
theorem bad_cases {i : Nat} {c : UInt8} (h : badAt i c = true) :
    (((i : Int) == 9) = true ∧ 1 < ((c.toNat : Nat) : Int)) ∨ (((i : Int) == 9) = false ∧ 0 < (i : Int) ∧ (((c.toNat : Nat) : Int) == 0) = true) ∨ (((i : Int) == 9) = true ∧ ((c.toNat : Nat) : Int) ≤ 1 ∧ 0 < (i : Int) ∧ (((c.toNat : Nat) : Int) == 0) = true) := by
  unfold badAt at h
  simp at h ⊢
  omega
theorem ok_cases {i : Nat} {c : UInt8} (h : badAt i c = false) :
    (((i : Int) == 9) = true ∧ ((c.toNat : Nat) : Int) ≤ 1 ∧ 0 < (i : Int) ∧ (((c.toNat : Nat) : Int) == 0) = false) ∨ (((i : Int) == 9) = false ∧ 0 < (i : Int) ∧ (((c.toNat : Nat) : Int) == 0) = false) ∨ (((i : Int) == 9) = false ∧ (i : Int) ≤ 0) := by
  unfold badAt at h
  simp at h ⊢
  omega

set_option maxRecDepth 100000 in
set_option maxHeartbeats 400000 in
theorem ruint_any (B gd : Nat) (rest : List UInt8) (err : Int) (w : World) (HR : Hid (Rdr w B gd rest err)) :
    Calls Try.prog 62 #[.pointer (some ⟨gd, 0, none⟩)] w fun e w' => e = .returned (.int .u64 (((readU rest err).2.1 : Nat) : Int)) ∧ Rdr w' B gd (readU rest err).2.2 (readU rest err).1 ∧ w.grownBy w' (some gd) := by
  by_cases he : err = 0
  · subst he
    have HU := Lib.hid (show readU rest 0 = decU 0 0 rest from rfl)
    go_enter Try.func62, Try.ntmps62
    go_wp2
    go_loopw [3, 4] (fun nv iv wr => ∃ i acc : Nat, ∃ cur : List UInt8, i ≤ 9 ∧ iv = .int .i64 (i : Int) ∧ nv = .int .u64 (acc : Int) ∧ Hid (acc < 128 ^ i) ∧ acc ≤ 18446744073709551615 ∧ Hid (decU i acc cur = decU 0 0 rest) ∧ Hid (Rdr wr B gd cur 0) ∧ w.grownBy wr (some gd)) (fun _ iv _ => 10 - (intOf iv).toNat)
    case atStart => exact ⟨0, 0, rest, by omega, rfl, rfl, Lib.hid (by decide), by omega, Lib.hid rfl, HR, only_refl _ _⟩
    case round =>
      obtain ⟨i, acc, cur, hi, rfl, rfl, HA, hacc, HD, HRr, ho⟩ := hrel
      cases cur with
      | nil =>
        go_wp2_with fail
        refine (octet_nil B gd _ HRr).mono ?_
        rintro e w1 ⟨rfl, hR1, ho1⟩
        obtain ⟨hc1, hf1⟩ := hR1.err_cell
        go_wp2
        go_ret
        rw [HU.out, ← HD.out, decU_nil]
        exact ⟨rfl, hR1, ho.trans ho1⟩
      | cons c r =>
        go_wp2_with fail
        refine (octet_cons B gd c r _ HRr).mono ?_
        rintro e w1 ⟨rfl, hR1, ho1⟩
        replace ho := ho.trans ho1
        obtain ⟨hc1, hf1⟩ := hR1.err_cell
        have hcl := c.toNat_lt
        cases hbad : badAt i c with
        | true =>
          have HF := Lib.hid (hR1.fail 2 (by decide))
          rw [decU_bad hbad] at HD
          rcases bad_cases hbad with ⟨q1, q2⟩ | ⟨q1, q2, q3⟩ | ⟨q1, q2, q3, q4⟩
          all_goals
            clear hbad ho1
            go_wp2
            go_ret
            rw [HU.out, ← HD.out]
            exact ⟨rfl, HF.out, only_set ho (.inl rfl) _⟩
        | false =>
          rcases ok_cases hbad with ⟨q1, q2, q3, q4⟩ | ⟨q1, q2, q3⟩ | ⟨q1, q2⟩
          all_goals
            clear ho1
            have HB := Lib.hid (or_step (c := c) hi HA.out (fun h => by subst h; unfold badAt at hbad; simp at hbad; omega))
            by_cases hc : c.toNat < 128
            · rw [decU_end hbad hc] at HD
              clear hbad
              go_wp2
              go_ret
              rw [HU.out, ← HD.out, HB.out, Nat.mod_eq_of_lt hc]
              exact ⟨rfl, hR1, ho⟩
            · first
                | (exfalso; omega)
                | (rw [decU_go hbad (by omega)] at HD
                   have hi9 : i ≠ 9 := by rintro rfl; unfold badAt at hbad; simp at hbad; omega
                   have HA2 : Hid (acc + c.toNat % 128 * 128 ^ i < 128 ^ (i + 1)) := by
                     refine Lib.hid ?_
                     have h1 := HA.out
                     have h2 : c.toNat % 128 * 128 ^ i ≤ 127 * 128 ^ i := Nat.mul_le_mul (by omega) (Nat.le_refl _)
                     rw [Nat.pow_succ]; omega
                   have hle : acc + c.toNat % 128 * 128 ^ i ≤ 18446744073709551615 := by
                     have h1 := HA2.out
                     have h2 : 128 ^ (i + 1) ≤ 128 ^ 9 := Nat.pow_le_pow_right (by decide) (by omega)
                     omega
                   have HLE := Lib.hid hle
                   clear hbad hle
                   go_wp2
                   exact ⟨⟨i + 1, _, r, by omega, by go_num, congrArg (Value.int .u64) HB.out, HA2, HLE.out, HD, Lib.hid hR1, ho⟩, by simp [intOf]; omega⟩)
  · have HU := Lib.hid (show readU rest err = (err, 0, []) from if_neg he)
    obtain ⟨hc1, hf1⟩ := HR.out.err_cell
    have hq : (err != 0) = true := by simpa using he
    go_enter Try.func62, Try.ntmps62
    go_wp2
    go_loopw [3, 4] (fun nv iv wr => nv = .int .u64 0 ∧ iv = .int .i64 0 ∧ wr = w) (fun _ _ _ => 0)
    case atStart => exact ⟨rfl, rfl, rfl⟩
    case round =>
      obtain ⟨rfl, rfl, rfl⟩ := hrel
      go_wp2_with fail
      refine (octet_err B gd rest err _ HR he).mono ?_
      rintro e w1 ⟨rfl, rfl⟩
      clear he
      go_wp2
      go_ret
      rw [HU.out]
      exact ⟨rfl, HR.out.any (by simpa using hq) _, only_refl _ _⟩

end Go.Proofs.Ytikfcpkobgejmaa

/- The walks of wire's Reader: Int, Bool, End, Read and the lists. -/
namespace Go.Proofs.Ytikfcpkobgejmaa
open Go.RowKit

theorem readU_lt (rest : List UInt8) (err : Int) : (readU rest err).2.1 ≤ 18446744073709551615 := by
  unfold readU
  split
  · exact (decU_lt rest 0 0 (by decide) (by decide)).1
  · simp
set_option maxRecDepth 100000 in
set_option maxHeartbeats 400000 in
theorem rint_any (B gd : Nat) (rest : List UInt8) (err : Int) (w : World) (HR : Hid (Rdr w B gd rest err)) :
    Calls Try.prog 39 #[.pointer (some ⟨gd, 0, none⟩)] w fun e w' => e = .returned (.int .i64 (unzigI (readU rest err).2.1)) ∧ Rdr w' B gd (readU rest err).2.2 (readU rest err).1 ∧ w.grownBy w' (some gd) := by
  go_enter Try.func39, Try.ntmps39
  go_wp2_with (first
    | (go_at_call 62; ((with_reducible refine (ruint_any B gd rest err _ HR).mono ?_); rintro e w1 ⟨rfl, hR1, ho1⟩))
    | (go_at_call 61; ((with_reducible refine (unzigzag_any _ _ rfl _ (readU_lt rest err)).mono ?_); rintro e w2 ⟨rfl, rfl⟩)))
  go_ret
  exact ⟨rfl, hR1, ho1⟩

def readB (rest : List UInt8) (err : Int) : Int × Bool × List UInt8 := if err = 0 then decBool rest else (err, false, [])

def endI (rest : List UInt8) (err : Int) : Int := if err = 0 then (if rest.length = 0 then 0 else 2) else err
set_option maxRecDepth 100000 in
set_option maxHeartbeats 400000 in
theorem rend_any (B gd : Nat) (rest : List UInt8) (err : Int) (w : World) (HR : Hid (Rdr w B gd rest err)) :
    Calls Try.prog 40 #[.pointer (some ⟨gd, 0, none⟩)] w fun e w' => e = .returned (.int .i64 (endI rest err)) ∧ w = w' := by
  obtain ⟨k1, k2, A, n, c, h1, h2, h3, h4⟩ := HR.out
  have hc0 : w.cell? ⟨gd, 0, none⟩ = some (.slice A n c) := by simpa using h1.cell 0
  have hc1 : w.cell? ⟨gd, 1, none⟩ = some (.int .i64 err) := by simpa using h1.cell 1
  by_cases he : err = 0
  · subst he
    have hl := (h4 rfl).1
    clear h1 h4
    by_cases hn : n = 0
    · have HE := Lib.hid (show endI rest 0 = 0 by unfold endI; rw [if_pos rfl, if_pos (by omega)])
      have hn' : (n : Int) ≤ 0 := by omega
      clear hl
      go_enter Try.func40, Try.ntmps40
      go_wp2
      go_ret
      rw [HE.out]
      exact ⟨rfl, rfl⟩
    · have HE := Lib.hid (show endI rest 0 = 2 by unfold endI; rw [if_pos rfl, if_neg (by omega)])
      have hn' : 0 < (n : Int) := by omega
      clear hl
      go_enter Try.func40, Try.ntmps40
      go_wp2
      go_ret
      rw [HE.out]
      exact ⟨rfl, rfl⟩
  · have HE := Lib.hid (show endI rest err = err by unfold endI; rw [if_neg he])
    have hq : (err != 0) = true := by simpa using he
    clear h1 h4 he
    go_enter Try.func40, Try.ntmps40
    go_wp2
    go_ret
    rw [HE.out]
    exact ⟨rfl, rfl⟩

/-- The blocks from lo to hi lie as they lay. -/
def Within (lo hi : Nat) (w w'' : World) : Prop := w.heap.size ≤ w''.heap.size ∧ ∀ b, lo ≤ b → b < hi → w''.heap[b]? = w.heap[b]?
theorem Within.grown {lo hi : Nat} {w w' w'' : World} {row : Option Nat} (h : Within lo hi w w') (hg : w'.grownBy w'' row) (hr : ∀ r, row = some r → r < lo ∨ hi ≤ r) (hhi : hi ≤ w.heap.size) : Within lo hi w w'' :=
  ⟨Nat.le_trans h.1 hg.size, fun b h1 h2 => (hg.block b (by have := h.1; omega) (fun e => by have := hr b e.symm; omega)).trans (h.2 b h1 h2)⟩
theorem Within.refl (lo hi : Nat) (w : World) : Within lo hi w w := ⟨Nat.le_refl _, fun _ _ _ => rfl⟩
set_option maxRecDepth 100000 in
set_option maxHeartbeats 400000 in
theorem read_any (A : Option Addr) (n c : Nat) (bs : List UInt8) (w : World) (HX : Hid (bs.length = n)) (hR : Rd w w.heap.size A n (vByte bs)) (hn : n ≤ 70368744177664) :
    Calls Try.prog 37 #[.slice A n c] w fun e w' => ∃ gd, e = .returned (.pointer (some ⟨gd, 0, none⟩)) ∧ w.heap.size ≤ gd ∧ Rdr w' w'.heap.size gd bs 0 ∧ Below w.heap.size w w' ∧ Hid (∀ w'', Within w.heap.size w'.heap.size w' w'' → Rdr w'' w'.heap.size gd bs 0) := by
  go_enter Try.func37, Try.ntmps37
  go_wp2_with (go_at_call 59; ((with_reducible refine (clone_any _ _ _ bs _ HX hR hn).mono ?_); rintro e w2 ⟨A', c', rfl, q1, q2, q3, q4, q5⟩))
  go_ret
  refine ⟨w2.heap.size, rfl, q5.size, ⟨by simp, Nat.le_refl _, A', n, c', Blk.new _ _ _, q1, q2, fun _ => ⟨HX.out, hn, (q4.alloc (Nat.le_refl _) _).more (by simp)⟩⟩, q5.alloc q5.size _, Lib.hid ?_⟩
  intro w'' hw
  refine ⟨by simp, hw.1, A', n, c', (hw.2 _ q5.size (by simp)).trans (Blk.new _ _ _), q1, q2, fun _ => ⟨HX.out, hn, fun h0 => ?_⟩⟩
  obtain ⟨g, rfl, hg1, hg2⟩ := own_some q3 h0
  obtain ⟨b, off, e, hb, hc⟩ := q4 h0
  cases e
  refine ⟨g, 0, rfl, by simp; omega, fun j hj => ?_⟩
  rw [World.cell?_of_block (w := w2.alloc _) (hw.2 g hg1 (by simp; omega)), ((Below.refl _ w2).alloc (Nat.le_refl _) _).cell hb]
  exact hc j hj

theorem only_more {a w w' : World} {gd : Nat} {row : Option Nat} (h : a.grownBy w (some gd)) (hg : w.grownBy w' row) (hr : ∀ r, row = some r → a.heap.size ≤ r) : a.grownBy w' (some gd) :=
  ⟨hg.os.trans h.os, hg.tape.trans h.tape, hg.output.trans h.output, Nat.le_trans h.size hg.size, fun i hi hne => (hg.block i (Nat.lt_of_lt_of_le hi h.size) (fun e => by have := hr i e.symm; omega)).trans (h.block i hi hne)⟩

def readRaw (rest : List UInt8) (err : Int) : Int × List UInt8 × List UInt8 := if err = 0 then decRaw rest else (err, [], [])
theorem readRaw_err {rest : List UInt8} {err : Int} (h : (readU rest err).1 ≠ 0) : readRaw rest err = ((readU rest err).1, [], []) := by
  unfold readRaw
  unfold readU at h ⊢
  split
  · rename_i he
    rw [if_pos he] at h
    unfold decRaw
    rw [if_pos h]
  · rfl
theorem readU_ok {rest : List UInt8} {err : Int} (h : (readU rest err).1 = 0) : err = 0 ∧ readU rest err = decU 0 0 rest := by
  unfold readU at h ⊢
  split at h
  · rename_i he
    exact ⟨he, if_pos he⟩
  · rename_i he
    exact absurd h he
theorem readRaw_more {rest : List UInt8} {err : Int} (h : (readU rest err).1 = 0) (h2 : (readU rest err).2.2.length < (readU rest err).2.1) : readRaw rest err = (3, [], []) := by
  obtain ⟨rfl, e⟩ := readU_ok h
  rw [e] at h h2
  unfold readRaw decRaw
  rw [if_pos rfl, if_neg (by simpa using h), if_pos h2]
theorem readRaw_ok {rest : List UInt8} {err : Int} (h : (readU rest err).1 = 0) (h2 : (readU rest err).2.1 ≤ (readU rest err).2.2.length) : readRaw rest err = (0, (readU rest err).2.2.take (readU rest err).2.1, (readU rest err).2.2.drop (readU rest err).2.1) := by
  obtain ⟨rfl, e⟩ := readU_ok h
  rw [e] at h h2 ⊢
  unfold readRaw decRaw
  rw [if_pos rfl, if_neg (by simpa using h), if_neg (by omega)]

def readInts (rest : List UInt8) (err : Int) : Int × List Int × List UInt8 := if err = 0 then decInts rest else (err, [], [])
theorem readInts_err {rest : List UInt8} {err : Int} (h : (readU rest err).1 ≠ 0) : readInts rest err = ((readU rest err).1, [], []) := by
  unfold readInts
  unfold readU at h ⊢
  split
  · rename_i he
    rw [if_pos he] at h
    unfold decInts
    rw [if_pos h]
  · rfl
theorem readInts_more {rest : List UInt8} {err : Int} (h : (readU rest err).1 = 0) (h2 : (readU rest err).2.2.length < (readU rest err).2.1) : readInts rest err = (3, [], []) := by
  obtain ⟨rfl, e⟩ := readU_ok h
  rw [e] at h h2
  unfold readInts decInts
  rw [if_pos rfl, if_neg (by simpa using h), if_pos h2]
theorem readInts_ok {rest : List UInt8} {err : Int} (h : (readU rest err).1 = 0) (h2 : (readU rest err).2.1 ≤ (readU rest err).2.2.length) : readInts rest err = decK (readU rest err).2.1 (readU rest err).2.2 := by
  obtain ⟨rfl, e⟩ := readU_ok h
  rw [e] at h h2 ⊢
  unfold readInts decInts
  rw [if_pos rfl, if_neg (by simpa using h), if_neg (by omega)]
/-- Numbers ahead of what is read. -/
def ahead (pre : List Int) (q : Int × List Int × List UInt8) : Int × List Int × List UInt8 := if q.1 = 0 then (0, pre ++ q.2.1, q.2.2) else (q.1, [], [])
theorem decK_out : ∀ (k : Nat) (r : List UInt8), (decK k r).1 = 0 ∨ (decK k r).2 = ([], [])
  | 0, r => .inl rfl
  | k + 1, r => by
    rw [decK]
    split
    · exact .inr rfl
    · split
      · exact .inr rfl
      · exact .inl rfl
theorem ahead_nil (k : Nat) (r : List UInt8) : ahead [] (decK k r) = decK k r := by
  unfold ahead
  split
  · rename_i h; rw [List.nil_append, ← h]
  · rename_i h
    rcases decK_out k r with h2 | h2
    · exact absurd h2 h
    · rw [← h2]
theorem ahead_bad {pre : List Int} {k : Nat} {r : List UInt8} (h : (decU 0 0 r).1 ≠ 0) : ahead pre (decK (k + 1) r) = ((decU 0 0 r).1, [], []) := by
  rw [decK, if_pos h]
  unfold ahead
  rw [if_neg h]
theorem ahead_go {pre : List Int} {k : Nat} {r : List UInt8} (h : (decU 0 0 r).1 = 0) : ahead pre (decK (k + 1) r) = ahead (pre ++ [unzigI (decU 0 0 r).2.1]) (decK k (decU 0 0 r).2.2) := by
  rw [decK, if_neg (by simpa using h)]
  unfold ahead
  by_cases h2 : (decK k (decU 0 0 r).2.2).1 = 0
  · simp [h2]
  · simp [h2]



end Go.Proofs.Ytikfcpkobgejmaa

/- Plain Lean: what is written is read; what is read was written; prefixes. -/
namespace Go.Proofs.Ytikfcpkobgejmaa
open Go.RowKit

def InI (n : Int) : Prop := -9223372036854775808 ≤ n ∧ n ≤ 9223372036854775807
theorem decU_int {n : Int} (h : InI n) (r : List UInt8) : decU 0 0 (encInt n ++ r) = (0, zigI n, r) := decU_enc (zigI_lt h.1 h.2) r
theorem encInt_pos (n : Int) : 0 < (encInt n).length := varint_pos _
theorem decRaw_enc {bs : List UInt8} (h : bs.length ≤ 18446744073709551615) (r : List UInt8) : decRaw (encRaw bs ++ r) = (0, bs, r) := by
  have e : decU 0 0 (encRaw bs ++ r) = (0, bs.length, bs ++ r) := by unfold encRaw; rw [List.append_assoc]; exact decU_enc h _
  unfold decRaw
  rw [e]
  simp
theorem decK_enc : ∀ (l : List Int) (_ : ∀ n ∈ l, InI n) (r : List UInt8), decK l.length (l.flatMap encInt ++ r) = (0, l, r)
  | [], _, r => rfl
  | n :: l, h, r => by
    have hn := h n (by simp)
    have ih := decK_enc l (fun m hm => h m (by simp [hm])) r
    rw [List.flatMap_cons, List.append_assoc, List.length_cons, decK, decU_int hn, if_neg (by simp), ih, if_neg (by simp), unzig_zig]
theorem flatI_len (l : List Int) : l.length ≤ (l.flatMap encInt).length := by
  induction l with
  | nil => simp
  | cons n l ih => rw [List.flatMap_cons, List.length_append, List.length_cons]; have := encInt_pos n; omega
theorem decInts_enc {l : List Int} (hl : l.length ≤ 18446744073709551615) (h : ∀ n ∈ l, InI n) (r : List UInt8) : decInts (encInts l ++ r) = (0, l, r) := by
  have e : decU 0 0 (encInts l ++ r) = (0, l.length, l.flatMap encInt ++ r) := by unfold encInts; rw [List.append_assoc]; exact decU_enc hl _
  have := flatI_len l
  unfold decInts
  rw [e, if_neg (by simp), if_neg (by simp only [List.length_append]; omega)]
  exact decK_enc l h r
theorem decBool_enc (b : Bool) (r : List UInt8) : decBool (encBool b ++ r) = (0, b, r) := by cases b <;> rfl
end Go.Proofs.Ytikfcpkobgejmaa

/- certificates: their encoding and its reading, plain. -/
namespace Go.Proofs.Ytikfcpkobgejmaa
open Go.RowKit

/-- A node without its slice. -/
abbrev P4 := Int × Int × Int × List Int
def encN (x : P4) : List UInt8 := encInt x.1 ++ (encInt x.2.1 ++ (encInt x.2.2.1 ++ (encInt (x.2.2.2.length : Int) ++ x.2.2.2.flatMap encInt)))
def encP (v : Int) (L : List P4) : List UInt8 := encInt v ++ (encInt (L.length : Int) ++ L.flatMap encN)
def P4.In (x : P4) : Prop := InI x.1 ∧ InI x.2.1 ∧ InI x.2.2.1 ∧ ∀ p ∈ x.2.2.2, InI p
/-- A reader's error and the bytes that are left. -/
abbrev RS := Int × List UInt8
def rI (s : RS) : Int × RS := (unzigI (readU s.2 s.1).2.1, (readU s.2 s.1).1, (readU s.2 s.1).2.2)
def rK : Nat → RS → List Int × RS
  | 0, s => ([], s)
  | k + 1, s => ((rK k s).1 ++ [(rI (rK k s).2).1], (rI (rK k s).2).2)
/-- One node: its three numbers, then its prices, if their number is possible. -/
def rNd (lim : Nat) (s : RS) : Option (P4 × RS) :=
  let b := rI s
  let i := rI b.2
  let o := rI i.2
  let c := rI o.2
  if c.1 < 0 ∨ (lim : Int) < c.1 then none else some ((b.1, i.1, o.1, (rK c.1.toNat c.2).1), (rK c.1.toNat c.2).2)
def rN (lim : Nat) : Nat → RS → Option (List P4 × RS)
  | 0, s => some ([], s)
  | k + 1, s => (rN lim k s).bind fun q => (rNd lim q.2).map fun y => (q.1 ++ [y.1], y.2)
def decP (bs : List UInt8) : Option (Int × List P4) :=
  let v := rI (0, bs)
  let n := rI v.2
  if n.1 < 0 ∨ (bs.length : Int) < n.1 then none else
    (rN bs.length n.1.toNat n.2).bind fun q => if endI q.2.2 q.2.1 = 0 then some (v.1, q.1) else none
theorem rI_enc {x : Int} (h : InI x) (r : List UInt8) : rI (0, encInt x ++ r) = (x, 0, r) := by
  unfold rI readU
  dsimp only
  rw [if_pos rfl, decU_int h r]
  simp [unzig_zig]
theorem rI_range (s : RS) : InI (rI s).1 := by
  have h := readU_lt s.2 s.1
  exact unzigI_range h
/-- What was read without an error stood there. -/
theorem rI_ok {s : RS} (h : (rI s).2.1 = 0) : s.1 = 0 ∧ s.2 = encInt (rI s).1 ++ (rI s).2.2 := by
  obtain ⟨h1, h2⟩ := readU_ok (rest := s.2) (err := s.1) h
  refine ⟨h1, ?_⟩
  have h3 : decU 0 0 s.2 = (0, (readU s.2 s.1).2.1, (readU s.2 s.1).2.2) := by
    rw [h2]
    have h4 : (decU 0 0 s.2).1 = 0 := by rw [← h2]; exact h
    rw [← h4]
  have h5 := decU_inv h3
  unfold rI
  dsimp only
  unfold encInt
  rw [zig_unzig]
  exact h5
theorem rK_len (k : Nat) (s : RS) : (rK k s).1.length = k := by
  induction k with
  | zero => rfl
  | succ k ih => rw [rK, List.length_append, ih]; rfl
theorem rK_range (k : Nat) (s : RS) : ∀ p ∈ (rK k s).1, InI p := by
  induction k with
  | zero => intro p hp; simp [rK] at hp
  | succ k ih =>
    intro p hp
    rw [rK] at hp
    rcases List.mem_append.1 hp with h | h
    · exact ih p h
    · rw [List.mem_singleton] at h
      rw [h]
      exact rI_range _
theorem rK_ok (k : Nat) : ∀ s : RS, (rK k s).2.1 = 0 → s.1 = 0 ∧ s.2 = (rK k s).1.flatMap encInt ++ (rK k s).2.2 := by
  induction k with
  | zero => intro s h; exact ⟨h, rfl⟩
  | succ k ih =>
    intro s h
    rw [rK] at h
    obtain ⟨h1, h2⟩ := rI_ok h
    obtain ⟨h3, h4⟩ := ih s h1
    refine ⟨h3, ?_⟩
    rw [h4, h2, rK]
    simp [List.flatMap_append]
theorem rK_enc (l : List Int) (hl : ∀ p ∈ l, InI p) (r : List UInt8) : ∀ k, k ≤ l.length → rK k (0, l.flatMap encInt ++ r) = (l.take k, 0, (l.drop k).flatMap encInt ++ r) := by
  intro k
  induction k with
  | zero => intro _; simp [rK]
  | succ k ih =>
    intro hk
    have hk' : k < l.length := by omega
    rw [rK, ih (by omega)]
    dsimp only
    rw [List.drop_eq_getElem_cons hk', List.flatMap_cons, List.append_assoc, rI_enc (hl _ (List.getElem_mem hk')), List.take_succ_eq_append_getElem hk']
theorem rNd_enc {lim : Nat} {x : P4} (hx : x.In) (hc : x.2.2.2.length ≤ lim) (hb : lim ≤ 9223372036854775807) (r : List UInt8) : rNd lim (0, encN x ++ r) = some (x, 0, r) := by
  obtain ⟨b, i, o, l⟩ := x
  obtain ⟨h1, h2, h3, h4⟩ := hx
  dsimp only at h1 h2 h3 h4 hc
  unfold rNd encN
  dsimp only
  simp only [List.append_assoc]
  rw [rI_enc h1]
  dsimp only
  rw [rI_enc h2]
  dsimp only
  rw [rI_enc h3]
  dsimp only
  rw [rI_enc (x := (l.length : Int)) (by constructor <;> omega)]
  dsimp only
  rw [if_neg (by omega), Int.toNat_natCast, rK_enc l h4 r l.length (Nat.le_refl _)]
  simp
theorem rN_enc {lim : Nat} (L : List P4) (hL : ∀ x ∈ L, x.In ∧ x.2.2.2.length ≤ lim) (hb : lim ≤ 9223372036854775807) (r : List UInt8) : ∀ k, k ≤ L.length → rN lim k (0, L.flatMap encN ++ r) = some (L.take k, 0, (L.drop k).flatMap encN ++ r) := by
  intro k
  induction k with
  | zero => intro _; simp [rN]
  | succ k ih =>
    intro hk
    have hk' : k < L.length := by omega
    have hx := hL _ (List.getElem_mem hk')
    rw [rN, ih (by omega)]
    dsimp only [Option.bind]
    rw [List.drop_eq_getElem_cons hk', List.flatMap_cons, List.append_assoc, rNd_enc hx.1 hx.2 hb, List.take_succ_eq_append_getElem hk']
    rfl
theorem encInt_ge (l : List Int) : l.length ≤ (l.flatMap encInt).length := flatI_len l
theorem encN_ge (x : P4) : 1 + x.2.2.2.length ≤ (encN x).length := by
  unfold encN
  simp only [List.length_append]
  have := encInt_pos x.1
  have := encInt_ge x.2.2.2
  omega
theorem encL_ge (L : List P4) : L.length ≤ (L.flatMap encN).length ∧ ∀ x ∈ L, x.2.2.2.length ≤ (L.flatMap encN).length := by
  induction L with
  | nil => simp
  | cons a t ih =>
    rw [List.flatMap_cons, List.length_append, List.length_cons]
    have h := encN_ge a
    refine ⟨by omega, fun x hx => ?_⟩
    rcases List.mem_cons.1 hx with rfl | hx
    · omega
    · have := ih.2 x hx
      omega
theorem decP_enc {v : Int} {L : List P4} (hv : InI v) (hL : ∀ x ∈ L, x.In) (hb : (encP v L).length ≤ 1000000000000) : decP (encP v L) = some (v, L) := by
  have hlen : L.length ≤ (encP v L).length ∧ ∀ x ∈ L, x.2.2.2.length ≤ (encP v L).length := by
    have h := encL_ge L
    unfold encP
    simp only [List.length_append]
    exact ⟨by omega, fun x hx => by have := h.2 x hx; omega⟩
  obtain ⟨lim, hlim⟩ : ∃ q, (encP v L).length = q := ⟨_, rfl⟩
  rw [hlim] at hlen hb
  unfold decP
  rw [hlim]
  unfold encP
  dsimp only
  rw [rI_enc hv]
  dsimp only
  rw [rI_enc (x := (L.length : Int)) (by constructor <;> omega)]
  dsimp only
  rw [if_neg (by omega), Int.toNat_natCast]
  have h := rN_enc (lim := lim) L (fun x hx => ⟨hL x hx, hlen.2 x hx⟩) (by omega) [] L.length (Nat.le_refl _)
  rw [List.append_nil] at h
  rw [h]
  simp [endI]
theorem rNd_ok {lim : Nat} {s : RS} {y : P4 × RS} (h : rNd lim s = some y) (h0 : y.2.1 = 0) : s.1 = 0 ∧ s.2 = encN y.1 ++ y.2.2 ∧ y.1.In := by
  unfold rNd at h
  dsimp only at h
  split at h
  · cases h
  · rename_i hc
    injection h with h
    subst h
    dsimp only at h0 ⊢
    obtain ⟨k1, k2⟩ := rK_ok _ _ h0
    obtain ⟨o1, o2⟩ := rI_ok k1
    obtain ⟨i1, i2⟩ := rI_ok o1
    obtain ⟨b1, b2⟩ := rI_ok i1
    obtain ⟨s1, s2⟩ := rI_ok b1
    refine ⟨s1, ?_, rI_range _, rI_range _, rI_range _, rK_range _ _⟩
    unfold encN
    dsimp only
    rw [rK_len, Int.toNat_of_nonneg (by omega)]
    simp only [List.append_assoc]
    rw [← k2, ← o2, ← i2, ← b2, ← s2]
theorem rN_ok {lim : Nat} : ∀ (k : Nat) (s : RS) (q : List P4 × RS), rN lim k s = some q → q.2.1 = 0 → s.1 = 0 ∧ s.2 = q.1.flatMap encN ++ q.2.2 ∧ (∀ x ∈ q.1, x.In) ∧ q.1.length = k := by
  intro k
  induction k with
  | zero =>
    intro s q h h0
    injection h with h
    subst h
    exact ⟨h0, rfl, fun x hx => by simp at hx, rfl⟩
  | succ k ih =>
    intro s q h h0
    rw [rN, Option.bind_eq_some_iff] at h
    obtain ⟨p, hp, h⟩ := h
    rw [Option.map_eq_some_iff] at h
    obtain ⟨y, hy, rfl⟩ := h
    dsimp only at h0
    obtain ⟨y1, y2, y3⟩ := rNd_ok hy h0
    obtain ⟨p1, p2, p3, p4⟩ := ih s p hp y1
    refine ⟨p1, ?_, fun x hx => ?_, by rw [List.length_append, p4]; rfl⟩
    · dsimp only
      rw [p2, y2, List.flatMap_append]
      simp
    · rcases List.mem_append.1 hx with h | h
      · exact p3 x h
      · rw [List.mem_singleton] at h
        rw [h]
        exact y3
theorem decP_ok {bs : List UInt8} {v : Int} {L : List P4} (h : decP bs = some (v, L)) : encP v L = bs ∧ InI v ∧ ∀ x ∈ L, x.In := by
  unfold decP at h
  dsimp only at h
  split at h
  · cases h
  · rename_i hc
    rw [Option.bind_eq_some_iff] at h
    obtain ⟨q, hq, h⟩ := h
    split at h
    · rename_i he
      injection h with h
      have he0 : q.2.1 = 0 ∧ q.2.2 = [] := by
        unfold endI at he
        split at he
        · rename_i h0
          split at he
          · rename_i h1
            exact ⟨h0, List.eq_nil_of_length_eq_zero h1⟩
          · cases he
        · rename_i h0
          exact absurd he h0
      obtain ⟨q1, q2, q3, q4⟩ := rN_ok _ _ _ hq he0.1
      rw [he0.2, List.append_nil] at q2
      obtain ⟨n1, n2⟩ := rI_ok q1
      obtain ⟨v1, v2⟩ := rI_ok n1
      simp only [Prod.mk.injEq] at h
      obtain ⟨rfl, rfl⟩ := h
      refine ⟨?_, rI_range _, q3⟩
      unfold encP
      rw [q4, Int.toNat_of_nonneg (by omega), ← q2, ← n2, ← v2]
    · cases h
end Go.Proofs.Ytikfcpkobgejmaa

/- wire's Writer known by its own blocks: contracts that say which blocks turn. -/
namespace Go.Proofs.Ytikfcpkobgejmaa
open Go.RowKit

/-- A Writer at block gd whose slice is v, with the bytes bs. -/
def WrV (w : World) (gd : Nat) (v : Value) (bs : List UInt8) : Prop :=
  Blk w gd 105 #[v] ∧ w.ownsRow 0 5 1 v bs.length (bs.map fun b => Value.int .u8 ((b.toNat : Nat) : Int))
def WF (gd : Nat) (v : Value) (b : Nat) : Prop := b = gd ∨ v.ownBlock = some b
def WrNext (gd : Nat) (v : Value) (bs : List UInt8) (w w' : World) : Prop :=
  ∃ v', WrV w' gd v' bs ∧ Mod (WF gd v) w w' ∧ (v'.ownBlock = v.ownBlock ∨ ∀ b, v'.ownBlock = some b → w.heap.size ≤ b)
section
variable {w w' w'' : World} {gd : Nat} {v : Value} {bs bs' : List UInt8} {F : Nat → Prop}
theorem WrV.new (w : World) : WrV (w.alloc (.cells #[.slice none 0 0] 105)) w.heap.size (.slice none 0 0) [] := ⟨Blk.new _ _ _, World.ownsRow_nil _ _ _ _⟩
theorem WrV.mod (h : WrV w gd v bs) (m : Mod F w w') (hF : ∀ b, WF gd v b → ¬ F b) : WrV w' gd v bs := ⟨m.blk h.1 (hF _ (.inl rfl)), m.own h.2 (fun g e => hF g (.inr e))⟩
theorem WrV.all (h : WrV w gd v bs) (hb : Below w.heap.size w w') : WrV w' gd v bs := h.mod (F := fun _ => False) (Mod.of_below _ hb) (fun _ _ hf => hf)
theorem WrV.lt (h : WrV w gd v bs) : ∀ b, WF gd v b → b < w.heap.size := by
  rintro b (rfl | e)
  · exact h.1.lt
  · exact (h.2.lt b e).2
theorem WrV.slice (h : WrV w gd v bs) : ∃ A c, v = .slice A bs.length c := own_slice h.2
theorem WrNext.refl (h : WrV w gd v bs) : WrNext gd v bs w w := ⟨v, h, Mod.refl _ _, .inl rfl⟩
theorem WrNext.trans (h : WrNext gd v bs w w') (k : ∀ v', WrV w' gd v' bs → WrNext gd v' bs' w' w'') : WrNext gd v bs' w w'' := by
  obtain ⟨v1, h1, m1, o1⟩ := h
  obtain ⟨v2, h2, m2, o2⟩ := k v1 h1
  refine ⟨v2, h2, m1.trans m2 ?_, ?_⟩
  · rintro b (rfl | e)
    · exact .inl (.inl rfl)
    · rcases o1 with o | o
      · exact .inl (.inr (by rw [← o]; exact e))
      · exact .inr (o b e)
  · rcases o2 with o | o
    · rw [o]; exact o1
    · exact .inr (fun b e => Nat.le_trans m1.size (o b e))
theorem WrNext.step {v1 : Value} (h : WrV w' gd v1 bs) (m1 : Mod (WF gd v) w w') (o1 : v1.ownBlock = v.ownBlock ∨ ∀ b, v1.ownBlock = some b → w.heap.size ≤ b) (k : WrNext gd v1 bs' w' w'') : WrNext gd v bs' w w'' := by
  obtain ⟨v2, h2, m2, o2⟩ := k
  refine ⟨v2, h2, m1.trans m2 ?_, ?_⟩
  · rintro b (rfl | e)
    · exact .inl (.inl rfl)
    · rcases o1 with o | o
      · exact .inl (.inr (by rw [← o]; exact e))
      · exact .inr (o b e)
  · rcases o2 with o | o
    · rw [o]; exact o1
    · exact .inr (fun b e => Nat.le_trans m1.size (o b e))
theorem WrV.wr (h : WrV w gd v bs) : Wr w 0 gd bs := by
  obtain ⟨A, c, rfl⟩ := h.slice
  exact ⟨Nat.zero_le _, A, _, c, rfl, h.1, h.2⟩
theorem wrv_put {w3 : World} {v' : Value} (h : WrV w gd v bs) (hg : w.grownBy w3 v.ownBlock) (hown : w3.ownsRow 0 5 1 v' bs'.length (bs'.map fun b => Value.int .u8 ((b.toNat : Nat) : Int))) (ho : v'.ownBlock = v.ownBlock ∨ ∀ b, v'.ownBlock = some b → w.heap.size ≤ b) :
    w3.cell? ⟨gd, 0, none⟩ = some v ∧ w3.frozen? ⟨gd, 0, none⟩ = false ∧ WrNext gd v bs' w (w3.setCell ⟨gd, 0, none⟩ v') := by
  obtain ⟨k1, k2, k3, k4, -⟩ := own_put (by decide) (Nat.zero_le _) h.1 h.2 hg hown
  exact ⟨k1, k2, v', ⟨k3, k4⟩, (Mod.of_grown hg (fun g e => .inl (.inr e))).set (.inl (.inl rfl)) _, ho⟩
end
theorem WrV.one {w : World} {gd : Nat} {v : Value} {bs : List UInt8} (h : WrV w gd v bs) (hl : bs.length ≤ 35184372088832) (x : UInt8) (xi : Int) (hx : xi = ((x.toNat : Nat) : Int)) :
    ∃ A n c g cap w3, w.cell? ⟨gd, 0, none⟩ = some (.slice A n c) ∧
      Hid ((Builtin.append_ #[72, 72] 72 #[.slice A n c, .slice (some ⟨w.heap.size, 0, none⟩) 1 1]).run Try.prog (w.alloc (.cells #[.int .u8 xi] 5)) = .ok (.slice (some ⟨g, 0, none⟩) (n + 1) cap) w3) ∧
      w3.cell? ⟨gd, 0, none⟩ = some (.slice A n c) ∧ w3.frozen? ⟨gd, 0, none⟩ = false ∧ Hid (WrNext gd v (bs ++ [x]) w (w3.setCell ⟨gd, 0, none⟩ (.slice (some ⟨g, 0, none⟩) (n + 1) cap))) := by
  subst hx
  obtain ⟨A, c, rfl⟩ := h.slice
  obtain ⟨i0, hi, hz0, hz1, hz2⟩ := info_parts info_u8
  obtain ⟨g, cap, w3, hap, hown, hg, ho, _⟩ := run_append_one (P := Try.prog) w 0 72 72 5 i0 _ 1 Try.underlying72 hi hz0 hz1 hz2 rfl _ _ _ h.2 (.int .u8 ((x.toNat : Nat) : Int)) rfl (by unfold maxLen; omega) (by omega) (Nat.zero_le _)
  obtain ⟨k1, k2, k3⟩ := wrv_put (bs' := bs ++ [x]) h hg (by rw [List.map_append, List.length_append]; exact hown) (v' := .slice (some ⟨g, 0, none⟩) (bs.length + 1) cap) (ho.imp (fun e => by simpa [Value.ownBlock] using e) (fun e b eb => by simp [Value.ownBlock] at eb; omega))
  exact ⟨A, _, c, g, cap, w3, by simpa using h.1.cell 0, Lib.hid hap, k1, k2, Lib.hid k3⟩
theorem WrV.more {w : World} {gd : Nat} {v : Value} {bs : List UInt8} (h : WrV w gd v bs) (A' : Option Addr) (m c' : Nat) (xs : List UInt8) (hx : xs.length = m) (hR : Rd w w.heap.size A' m (vByte xs)) (hl : bs.length + m ≤ 70368744177664) :
    ∃ A n c A3 n3 c3 w3, w.cell? ⟨gd, 0, none⟩ = some (.slice A n c) ∧
      Hid ((Builtin.append_ #[72, 72] 72 #[.slice A n c, .slice A' m c']).run Try.prog w = .ok (.slice A3 n3 c3) w3) ∧
      w3.cell? ⟨gd, 0, none⟩ = some (.slice A n c) ∧ w3.frozen? ⟨gd, 0, none⟩ = false ∧ Hid (WrNext gd v (bs ++ xs) w (w3.setCell ⟨gd, 0, none⟩ (.slice A3 n3 c3))) := by
  obtain ⟨A, c, rfl⟩ := h.slice
  obtain ⟨i0, hi, hz0, hz1, hz2⟩ := info_parts info_u8
  obtain ⟨v', w3, hap, hown, hg, ho⟩ := run_append_rd (P := Try.prog) w 0 72 72 5 i0 _ 1 Try.underlying72 hi hz0 hz1 hz2 rfl _ _ _ h.2 w.heap.size A' m c' (vByte xs) hR hR.none_ (fun _ _ => rfl) (by unfold maxLen; omega) (by omega) (Nat.zero_le _)
  have e : (List.range m).map (vByte xs) = xs.map fun b => Value.int .u8 ((b.toNat : Nat) : Int) := by
    subst hx
    refine List.ext_getElem (by simp) fun i h1 h2 => ?_
    have hi : i < xs.length := by simpa using h2
    simp [vByte, hi]
  rw [e, ← hx] at hown
  obtain ⟨A3, c3, rfl⟩ := own_slice hown
  obtain ⟨k1, k2, k3⟩ := wrv_put (bs' := bs ++ xs) h hg (by rw [List.map_append, List.length_append]; exact hown) (ho.imp (fun e => e) (fun e b eb => by rw [e] at eb; injection eb with eb; omega))
  exact ⟨A, _, c, _, _, _, w3, by simpa using h.1.cell 0, Lib.hid hap, k1, k2, Lib.hid k3⟩

set_option maxRecDepth 100000 in
theorem wuintV_any (gd : Nat) (v : Value) (bs : List UInt8) (n : Nat) (ni : Int) (hni : ni = (n : Int)) (w : World) (HW : Hid (WrV w gd v bs)) (hn : n ≤ 18446744073709551615) (hl : bs.length ≤ 17592186044416) :
    Calls Try.prog 72 #[.pointer (some ⟨gd, 0, none⟩), .int .u64 ni] w fun e w' => e = .returned (.tuple #[]) ∧ WrNext gd v (bs ++ varint n) w w' := by
  subst hni
  have HV := Lib.hid (varint_len10 hn)
  go_enter Try.func72, Try.ntmps72
  go_wp2
  go_loopw [1] (fun u wr => ∃ m : Nat, ∃ pre : List UInt8, u = .int .u64 (m : Int) ∧ m ≤ 18446744073709551615 ∧ Hid (pre ++ varint m = bs ++ varint n) ∧ Hid (WrNext gd v pre w wr)) (fun u _ => (intOf u).toNat)
  case atStart => exact ⟨n, bs, rfl, hn, Lib.hid rfl, Lib.hid (WrNext.refl HW.out)⟩
  case round =>
    obtain ⟨m, pre, rfl, hm, HE, HWr⟩ := hrel
    have hpl : pre.length ≤ 35184372088832 := by
      have h1 := congrArg List.length HE.out
      simp only [List.length_append] at h1
      have := HV.out
      omega
    obtain ⟨v1, h1, m1, o1⟩ := HWr.out
    by_cases hge : 128 ≤ m
    · obtain ⟨A, k, c, g, cap, w3, hc, HA, hc3, hf3, HW3⟩ := h1.one hpl (UInt8.ofNat (m % 128 + 128)) (bits BinOp.or IntKind.u8 ((m : Int) % 256) 128) (or128 m)
      have HZ := Lib.hid (WrNext.step h1 m1 o1 HW3.out)
      clear h1 m1 o1 HWr HW3
      go_wp2_with (at_builtin; refine wpList_append_run HA.out rfl rfl rfl rfl ?_)
      exact ⟨⟨m / 128, _, by go_num, by omega, Lib.hid (by rw [← HE.out, varint_ge hge, List.append_assoc]; rfl), HZ⟩, by simp [intOf]; omega⟩
    · obtain ⟨A, k, c, g, cap, w3, hc, HA, hc3, hf3, HW3⟩ := h1.one hpl (UInt8.ofNat m) (m : Int) (by rw [ofNat_toNat (by omega)])
      have HZ := Lib.hid (WrNext.step h1 m1 o1 HW3.out)
      clear h1 m1 o1 HWr HW3
      go_wp2_with (at_builtin; refine wpList_append_run HA.out rfl rfl rfl rfl ?_)
      go_end0
      exact ⟨rfl, by rw [← HE.out, varint_lt (by omega)]; exact HZ.out⟩

end Go.Proofs.Ytikfcpkobgejmaa

/- package proof: Encode. -/
namespace Go.Proofs.Ytikfcpkobgejmaa
open Go.RowKit

/-- A Writer whose blocks lie from B on. -/
def WrB (w : World) (B gd : Nat) (bs : List UInt8) : Prop := ∃ v, WrV w gd v bs ∧ (∀ b, WF gd v b → B ≤ b)
/-- Blocks that are neither a Writer nor bytes stay. -/
def KeepX (w w' : World) : Prop := ∀ g T cs, T ≠ 105 → T ≠ 5 → Blk w g T cs → Blk w' g T cs
theorem WrV.far {w : World} {gd : Nat} {v : Value} {bs : List UInt8} (h : WrV w gd v bs) {g T : Nat} {cs : Array Value} (hB : Blk w g T cs) (h1 : T ≠ 105) (h2 : T ≠ 5) : ¬ WF gd v g := by
  rintro (rfl | hf)
  · exact h1 (hB.ty.unique h.1.ty)
  · exact h2 (hB.ty.unique (own_ty h.2 hf))
theorem WrB.all {w w' : World} {B gd : Nat} {bs : List UInt8} (h : WrB w B gd bs) (hb : Below w.heap.size w w') : WrB w' B gd bs := by
  obtain ⟨v, h1, h2⟩ := h
  exact ⟨v, h1.all hb, h2⟩
theorem WrB.next {w w' : World} {B gd : Nat} {v : Value} {bs bs' : List UInt8} (h1 : WrV w gd v bs) (h2 : ∀ b, WF gd v b → B ≤ b) (hB : B ≤ w.heap.size) (hn : WrNext gd v bs' w w') : WrB w' B gd bs' ∧ Below B w w' ∧ KeepX w w' := by
  obtain ⟨v', k1, k2, k3⟩ := hn
  refine ⟨⟨v', k1, fun b hb => ?_⟩, Mod.below (Below.refl B w) k2 hB (fun b hb => h2 b hb), fun g T cs t1 t2 hk => k2.blk hk (h1.far hk t1 t2)⟩
  rcases hb with rfl | hb
  · exact h2 _ (.inl rfl)
  · rcases k3 with k3 | k3
    · exact h2 b (.inr (by rw [← k3]; exact hb))
    · exact Nat.le_trans hB (k3 b hb)
set_option maxHeartbeats 1000000 in
theorem wintB_any (B gd : Nat) (bs : List UInt8) (n : Int) (w : World) (HW : Hid (WrB w B gd bs)) (hn : InI n) (hl : bs.length ≤ 17592186044416) (hB : B ≤ w.heap.size) :
    Calls Try.prog 57 #[.pointer (some ⟨gd, 0, none⟩), .int .i64 n] w fun e w' => e = .returned (.tuple #[]) ∧ WrB w' B gd (bs ++ encInt n) ∧ Below B w w' ∧ KeepX w w' := by
  obtain ⟨v, hv, hf⟩ := HW.out
  have HV := Lib.hid hv
  have HF := Lib.hid hf
  obtain ⟨h1, h2⟩ := hn
  clear hv hf
  go_enter Try.func57, Try.ntmps57
  go_wp2_with (first
    | (go_at_call 73; ((with_reducible refine (zigzag_any _ _ h1 h2).mono ?_); rintro e w1 ⟨rfl, rfl⟩))
    | (go_at_call 72; ((with_reducible refine (wuintV_any gd v bs _ _ rfl _ HV (zigI_lt h1 h2) hl).mono ?_); rintro e w1 ⟨rfl, hN1⟩)))
  have hz := WrB.next HV.out HF.out hB hN1
  go_end0
  exact ⟨rfl, hz⟩
theorem own_low {w : World} {B B' e size n : Nat} {v : Value} {xs : List Value} (h : w.ownsRow B e size v n xs) (hb : B' ≤ B) : w.ownsRow B' e size v n xs := by
  obtain ⟨h1, h2⟩ := h
  refine ⟨h1, ?_⟩
  rcases h2 with h2 | ⟨g, cap, cur, h2, h3, h4, h5⟩
  · exact .inl h2
  · exact .inr ⟨g, cap, cur, h2, Nat.le_trans hb h3, h4, h5⟩
def Nd.p4 (x : Nd) : P4 := (x.bid, x.inn, x.out, x.prices)
def EncPost (bs : List UInt8) (w : World) (e : Ending) (w' : World) : Prop := ∃ A' n c', e = .returned (.slice A' n c') ∧ n ≤ c' ∧ c' ≤ 9223372036854775807 ∧ Hid (bs.length = n) ∧ w'.ownsRow w.heap.size 5 1 (.slice A' n c') n (bs.map fun b => Value.int .u8 ((b.toNat : Nat) : Int)) ∧ Below w.heap.size w w'
/-- The bytes up to node k. -/
def encTo (v : Int) (N : List Nd) (k : Nat) : List UInt8 := encInt v ++ encInt (N.length : Int) ++ ((N.take k).map Nd.p4).flatMap encN
def encHd (x : P4) (j : Nat) : List UInt8 := encInt x.1 ++ (encInt x.2.1 ++ (encInt x.2.2.1 ++ (encInt (x.2.2.2.length : Int) ++ (x.2.2.2.take j).flatMap encInt)))
theorem encTo_succ (v : Int) (N : List Nd) {k : Nat} (hk : k < N.length) : encTo v N (k + 1) = encTo v N k ++ encN (N[k]).p4 := by
  unfold encTo
  rw [List.take_succ_eq_append_getElem hk, List.map_append, List.flatMap_append]
  simp [List.append_assoc]
theorem encTo_all (v : Int) (N : List Nd) : encTo v N N.length = encP v (N.map Nd.p4) := by
  unfold encTo encP
  rw [List.take_length, List.length_map]
  simp [List.append_assoc]
theorem encTo_le (v : Int) (N : List Nd) (k : Nat) : (encTo v N k).length ≤ (encP v (N.map Nd.p4)).length := by
  rw [← encTo_all]
  unfold encTo
  simp only [List.length_append]
  have h : (N.map Nd.p4).flatMap encN = ((N.take k).map Nd.p4).flatMap encN ++ ((N.drop k).map Nd.p4).flatMap encN := by
    rw [← List.flatMap_append, ← List.map_append, List.take_append_drop]
  rw [List.take_length, h, List.length_append]
  omega
theorem encHd_succ (x : P4) {j : Nat} (hj : j < x.2.2.2.length) : encHd x (j + 1) = encHd x j ++ encInt (x.2.2.2[j]?.getD 0) := by
  unfold encHd
  rw [List.take_succ_eq_append_getElem hj, List.flatMap_append, List.getElem?_eq_getElem hj]
  simp [List.append_assoc]
theorem encHd_all (x : P4) : encHd x x.2.2.2.length = encN x := by
  unfold encHd encN
  rw [List.take_length]
theorem encHd_le (x : P4) (j : Nat) : (encHd x j).length ≤ (encN x).length := by
  rw [← encHd_all]
  unfold encHd
  simp only [List.length_append]
  have h : x.2.2.2.flatMap encInt = (x.2.2.2.take j).flatMap encInt ++ (x.2.2.2.drop j).flatMap encInt := by
    rw [← List.flatMap_append, List.take_append_drop]
  rw [List.take_length, h, List.length_append]
  omega
set_option maxRecDepth 100000 in
set_option maxHeartbeats 8000000 in
theorem enc_any (v : Int) (A : Option Addr) (nn cn : Nat) (N : List Nd) (w : World) (HN : Hid (Nds w (A, nn, cn) N)) (hm : nn ≤ 1000000000000) (hv : InI v) (HI : Hid (∀ x ∈ N, x.p4.In)) (HL : Hid ((encP v (N.map Nd.p4)).length ≤ 1000000000000)) :
    Calls Try.prog 35 #[.agg #[.int .i64 v, .slice A nn cn]] w (EncPost (encP v (N.map Nd.p4)) w) := by
  have HNL := Lib.hid HN.out.rows.len
  dsimp only at HNL
  go_enter Try.func35, Try.ntmps35
  go_upto_region 2 with (fail)
  have hb2 := ((Below.refl w.heap.size w).alloc (Nat.le_refl _) (.cells #[.int .i64 v, .slice A nn cn] 44)).alloc (by simp) (.cells #[.slice none 0 0] 105)
  have hp2 := Blk.alloc (Blk.new w 44 #[.int .i64 v, .slice A nn cn]) (.cells #[.slice none 0 0] 105)
  have hw2 : WrB ((w.alloc (.cells #[.int .i64 v, .slice A nn cn] 44)).alloc (.cells #[.slice none 0 0] 105)) (w.heap.size + 1) (w.heap.size + 1) [] := by
    have h := WrV.new (w.alloc (.cells #[.int .i64 v, .slice A nn cn] 44))
    rw [World.size_alloc] at h
    refine ⟨_, h, fun b hb => ?_⟩
    rcases hb with rfl | hb
    · exact Nat.le_refl _
    · simp [Value.ownBlock] at hb
  obtain ⟨w2, hw⟩ : ∃ w2, (w.alloc (.cells #[.int .i64 v, .slice A nn cn] 44)).alloc (.cells #[.slice none 0 0] 105) = w2 := ⟨_, rfl⟩
  have hs2 : w2.heap.size = w.heap.size + 1 + 1 := by rw [← hw]; simp
  rw [hw] at hb2 hp2 hw2 ⊢
  obtain ⟨gp, hgp⟩ : ∃ gp, w.heap.size = gp := ⟨_, rfl⟩
  rw [hgp] at hp2 hw2 hs2 ⊢
  obtain ⟨gw, hgw⟩ : ∃ gw, gp + 1 = gw := ⟨_, rfl⟩
  rw [hgw] at hw2 hs2 ⊢
  have HS := Lib.hid (And.intro (show w.heap.size ≤ gw by omega) (show gp < gw by omega))
  have HB2 := Lib.hid hb2
  have HP2 := Lib.hid hp2
  have HW2 := Lib.hid hw2
  have hg2 : gw ≤ w2.heap.size := by omega
  have p0 := hp2.cell 0
  have p1 := hp2.cell 1
  simp at p0 p1
  clear hb2 hp2 hw2 hw hgp hgw hs2
  go_wp2_with fail
  refine (wintB_any gw gw [] v w2 HW2 hv (by simp) hg2).mono ?_
  rintro e w3 ⟨rfl, hw3, hb3, -⟩
  have HW3 := Lib.hid hw3
  have HP3 := Lib.hid (HP2.out.below hb3 HS.out.2)
  have HB3 := Lib.hid (HB2.out.trans (hb3.mono HS.out.1))
  have hg3 : gw ≤ w3.heap.size := Nat.le_trans hg2 hb3.size
  have q1 := HP3.out.cell 1
  simp at q1
  clear p0 p1 hw3 hb3 hg2
  go_wp2_with fail
  have hl3 : ([] ++ encInt v).length ≤ 17592186044416 := by have := encInt_len hv.1 hv.2; simp; omega
  refine (wintB_any gw gw ([] ++ encInt v) (nn : Int) w3 HW3 (by constructor <;> omega) hl3 hg3).mono ?_
  rintro e w4 ⟨rfl, hw4, hb4, -⟩
  have HW4 : Hid (WrB w4 gw gw (encTo v N 0)) := Lib.hid (by
    unfold encTo
    rw [HNL.out]
    simpa using hw4)
  have HP4 := Lib.hid (HP3.out.below hb4 HS.out.2)
  have HB4 := Lib.hid (HB3.out.trans (hb4.mono HS.out.1))
  have hg4 : gw ≤ w4.heap.size := Nat.le_trans hg3 hb4.size
  have q1 := HP4.out.cell 1
  simp at q1
  clear hw4 hb4 hg3 HW2 HW3 HP2 HP3 HB2 HB3 hl3
  go_wp2
  go_loopw [22] (fun iv wr => ∃ k : Nat, k ≤ nn ∧ iv = .int .i64 (k : Int) ∧ Hid (WrB wr gw gw (encTo v N k)) ∧ Hid (Below w.heap.size w wr) ∧ gw ≤ wr.heap.size) (fun iv _ => nn - (intOf iv).toNat)
  case atStart => exact ⟨0, by omega, rfl, HW4, HB4, hg4⟩
  case round =>
    clear HW4 HP4 HB4 q1 hg4
    obtain ⟨k, hk, rfl, HW, HB, hg⟩ := hrel
    by_cases hkm : k < nn
    rotate_left
    · obtain rfl : k = nn := by omega
      have hle : (encTo v N k).length ≤ 70368744177664 := by
        have h1 := encTo_le v N k
        have h2 := HL.out
        omega
      obtain ⟨vw, hvw, hvf⟩ := HW.out
      have HWW := Lib.hid hvw.wr
      clear hvw hvf
      go_wp2_with fail
      refine (wdone_any 0 gw (encTo v N k) wr HWW hle).mono ?_
      rintro e w5 ⟨A5, n5, c5, rfl, h1, h2, h3, h4, -, h5⟩
      have HF : Hid (EncPost (encP v (N.map Nd.p4)) w (.returned (.slice A5 n5 c5)) w5) := Lib.hid (by
        have he : encTo v N k = encP v (N.map Nd.p4) := by rw [← encTo_all, HNL.out]
        rw [he] at h3 h4
        exact ⟨A5, n5, c5, rfl, h1, h2, h3, own_low h4 HB.out.size, HB.out.trans (h5.mono HB.out.size)⟩)
      clear h1 h2 h3 h4 h5 hle HWW HW
      go_wp2
      go_ret
      exact HF.out
    have hkl : k < N.length := by rw [HNL.out]; exact hkm
    obtain ⟨b, off, bi, iq, oq, sA, sn, sc, ps, hA, hbw, c0, c1, c2, c3, hin, he⟩ := (HN.out.all HB.out).get (k := k) hkl
    subst hA
    have hxi := HI.out _ (List.getElem_mem hkl)
    have hsucc := encTo_succ v N hkl
    have hle := encTo_le v N (k + 1)
    have how := HN.out.ok _ (List.getElem_mem hkl)
    rw [← ndAt_eq hkl, he] at hxi hsucc how
    dsimp only [Nd.ok] at how
    obtain ⟨x, hx⟩ : ∃ x : P4, Nd.p4 ⟨bi, iq, oq, (sA, sn, sc), ps⟩ = x := ⟨_, rfl⟩
    have hpl := hin.len
    dsimp only at hpl
    obtain ⟨x1, x2, x3, x4⟩ := hxi
    dsimp only [Nd.p4] at x1 x2 x3 x4
    rw [hx] at hsucc
    have HX := Lib.hid hx
    have HSU := Lib.hid hsucc
    have HLE : Hid ((encTo v N k).length + (encN x).length ≤ 1000000000000) := Lib.hid (by
      have h1 := HL.out
      rw [hsucc, List.length_append] at hle
      omega)
    have HPS := Lib.hid x4
    have HIN := Lib.hid how
    have HXL : Hid (x.2.2.2.length = sn) := Lib.hid (by rw [← hx]; exact hpl)
    have HXP : Hid (x.2.2.2 = ps) := Lib.hid (by rw [← hx]; rfl)
    have HPL := Lib.hid hpl
    have hki : (k : Int) < (nn : Int) := by omega
    have hsn : sn ≤ 9223372036854775807 := Nat.le_trans hin.cap hin.max
    clear hx hsucc hle hin he hkl x4 hpl how
    have hx5 := Blk.new wr 55 #[.int .i64 bi, .int .i64 iq, .int .i64 oq, .slice sA sn sc]
    have hb5 : Below wr.heap.size wr (wr.alloc (.cells #[.int .i64 bi, .int .i64 iq, .int .i64 oq, .slice sA sn sc] 55)) := (Below.refl _ _).alloc (Nat.le_refl _) _
    go_upto_region 7 with (fail)
    obtain ⟨w5, hw5⟩ : ∃ w5, wr.alloc (.cells #[.int .i64 bi, .int .i64 iq, .int .i64 oq, .slice sA sn sc] 55) = w5 := ⟨_, rfl⟩
    obtain ⟨g5, hg5⟩ : ∃ g5, wr.heap.size = g5 := ⟨_, rfl⟩
    rw [hw5] at hx5 hb5 ⊢
    rw [hg5] at hx5 ⊢
    have HX5 := Lib.hid hx5
    have HW5 := Lib.hid (HW.out.all hb5)
    have HB5 := Lib.hid (bt HB.out hb5)
    have hg5' : gw ≤ w5.heap.size := Nat.le_trans hg hb5.size
    have y0 := hx5.cell 0
    simp at y0
    clear hx5 hb5 hw5 hg5 hg HW HB c0 c1 c2 c3 hbw
    have hl5 : (encTo v N k).length ≤ 17592186044416 := by have := HLE.out; omega
    go_wp2_with fail
    refine (wintB_any gw gw _ bi w5 HW5 x1 hl5 hg5').mono ?_
    rintro e w6 ⟨rfl, hw6, hb6, hk6⟩
    have HW6 := Lib.hid hw6
    have HX6 := Lib.hid (hk6 _ _ _ (by decide) (by decide) HX5.out)
    have HB6 := Lib.hid (HB5.out.trans (hb6.mono HS.out.1))
    have hg6' : gw ≤ w6.heap.size := Nat.le_trans hg5' hb6.size
    have y0 := HX6.out.cell 1
    simp at y0
    clear hw6 hb6 hk6 HW5 HX5 HB5 hg5' hl5
    have hl6 : (encTo v N k ++ encInt bi).length ≤ 17592186044416 := by
      have := HLE.out
      have := encInt_len x1.1 x1.2
      have := encInt_len x2.1 x2.2
      have := encInt_len x3.1 x3.2
      simp only [List.length_append]
      omega
    go_wp2_with fail
    refine (wintB_any gw gw _ iq w6 HW6 x2 hl6 hg6').mono ?_
    rintro e w7 ⟨rfl, hw7, hb7, hk7⟩
    have HW7 := Lib.hid hw7
    have HX7 := Lib.hid (hk7 _ _ _ (by decide) (by decide) HX6.out)
    have HB7 := Lib.hid (HB6.out.trans (hb7.mono HS.out.1))
    have hg7' : gw ≤ w7.heap.size := Nat.le_trans hg6' hb7.size
    have y0 := HX7.out.cell 2
    simp at y0
    clear hw7 hb7 hk7 HW6 HX6 HB6 hg6' hl6
    have hl7 : (encTo v N k ++ encInt bi ++ encInt iq).length ≤ 17592186044416 := by
      have := HLE.out
      have := encInt_len x1.1 x1.2
      have := encInt_len x2.1 x2.2
      have := encInt_len x3.1 x3.2
      simp only [List.length_append]
      omega
    go_wp2_with fail
    refine (wintB_any gw gw _ oq w7 HW7 x3 hl7 hg7').mono ?_
    rintro e w8 ⟨rfl, hw8, hb8, hk8⟩
    have HW8 := Lib.hid hw8
    have HX8 := Lib.hid (hk8 _ _ _ (by decide) (by decide) HX7.out)
    have HB8 := Lib.hid (HB7.out.trans (hb8.mono HS.out.1))
    have hg8' : gw ≤ w8.heap.size := Nat.le_trans hg7' hb8.size
    have y0 := HX8.out.cell 3
    simp at y0
    clear hw8 hb8 hk8 HW7 HX7 HB7 hg7' hl7
    have hl8 : (encTo v N k ++ encInt bi ++ encInt iq ++ encInt oq).length ≤ 17592186044416 := by
      have := HLE.out
      have := encInt_len x1.1 x1.2
      have := encInt_len x2.1 x2.2
      have := encInt_len x3.1 x3.2
      simp only [List.length_append]
      omega
    go_wp2_with fail
    refine (wintB_any gw gw _ (sn : Int) w8 HW8 (by constructor <;> omega) hl8 hg8').mono ?_
    rintro e w9 ⟨rfl, hw9, hb9, hk9⟩
    have HW9 := Lib.hid hw9
    have HX9 := Lib.hid (hk9 _ _ _ (by decide) (by decide) HX8.out)
    have HB9 := Lib.hid (HB8.out.trans (hb9.mono HS.out.1))
    have hg9' : gw ≤ w9.heap.size := Nat.le_trans hg8' hb9.size
    have HZ9 : Hid (WrB w9 gw gw (encTo v N k ++ encHd x 0)) := Lib.hid (by
      rw [← HX.out]
      unfold encHd Nd.p4
      dsimp only
      rw [HPL.out]
      simpa [List.append_assoc] using hw9)
    have y0 := HX9.out.cell 3
    simp at y0
    clear hw9 hb9 hk9 HW8 HX8 HB8 hg8' hl8 HW9
    go_wp2
    go_loopw [46] (fun iv wr => ∃ j : Nat, j ≤ sn ∧ iv = .int .i64 (j : Int) ∧ Hid (WrB wr gw gw (encTo v N k ++ encHd x j)) ∧ Hid (Below w.heap.size w wr) ∧ gw ≤ wr.heap.size) (fun iv _ => sn - (intOf iv).toNat)
    case atStart => exact ⟨0, by omega, rfl, HZ9, HB9, hg9'⟩
    case round =>
      clear HZ9 HB9 hg9' HX9 y0
      obtain ⟨j, hj, rfl, HW, HB, hg⟩ := hrel
      by_cases hjm : j < sn
      rotate_left
      · obtain rfl : j = sn := by omega
        have HW' : Hid (WrB wr gw gw (encTo v N (k + 1))) := Lib.hid (by
          have h := encHd_all x
          rw [HXL.out] at h
          rw [HSU.out, ← h]
          exact HW.out)
        clear HW
        go_wp2
        exact ⟨⟨k + 1, by omega, by go_num, HW', HB, hg⟩, by simp [intOf]; omega⟩
      obtain ⟨b2, o2, hA2, -, c0⟩ := (NIn.all HIN.out HB.out).cell (k := j) hjm
      dsimp only at hA2
      subst hA2
      have hpi : InI (ps[j]?.getD 0) := by
        have hjl : j < ps.length := by rw [HPL.out]; exact hjm
        rw [List.getElem?_eq_getElem hjl]
        exact HPS.out _ (List.getElem_mem hjl)
      have HSJ : Hid (encTo v N k ++ encHd x j ++ encInt (ps[j]?.getD 0) = encTo v N k ++ encHd x (j + 1)) := Lib.hid (by rw [encHd_succ x (by rw [HXL.out]; exact hjm), HXP.out, List.append_assoc])
      obtain ⟨pj, hpj⟩ : ∃ q, ps[j]?.getD 0 = q := ⟨_, rfl⟩
      rw [hpj] at hpi HSJ c0
      have hlj : (encTo v N k ++ encHd x j).length ≤ 17592186044416 := by
        have := HLE.out
        have := encHd_le x j
        rw [List.length_append]
        omega
      have hji : (j : Int) < (sn : Int) := by omega
      clear hpj
      go_wp2_with fail
      refine (wintB_any gw gw _ pj wr HW hpi hlj hg).mono ?_
      rintro e w6 ⟨rfl, hw6, hb6, -⟩
      rw [HSJ.out] at hw6
      have HW6 := Lib.hid hw6
      have HB6 := Lib.hid (HB.out.trans (hb6.mono HS.out.1))
      have hg6 : gw ≤ w6.heap.size := Nat.le_trans hg hb6.size
      clear hw6 hb6 HW HB hg hlj
      go_wp2
      exact ⟨⟨j + 1, by omega, by go_num, HW6, HB6, hg6⟩, by simp [intOf]; omega⟩
end Go.Proofs.Ytikfcpkobgejmaa

/- package proof: what Decode keeps while it reads. -/
namespace Go.Proofs.Ytikfcpkobgejmaa
open Go.RowKit

/-- A Reader told by its error and its rest. -/
def RdrS (w : World) (B gd : Nat) (s : RS) : Prop := Rdr w B gd s.2 s.1
theorem rintS_any (B gd : Nat) (s : RS) (w : World) (HR : Hid (RdrS w B gd s)) :
    Calls Try.prog 39 #[.pointer (some ⟨gd, 0, none⟩)] w fun e w' => e = .returned (.int .i64 (rI s).1) ∧ RdrS w' B gd (rI s).2 ∧ w.grownBy w' (some gd) :=
  rint_any B gd s.2 s.1 w HR
theorem RdrS.ty {w : World} {B gd : Nat} {s : RS} (h : RdrS w B gd s) : Ty w gd 110 := by
  obtain ⟨k1, k2, A, n, c, h1, -⟩ := h
  exact h1.ty
theorem RdrS.low {w w' : World} {B gd : Nat} {s : RS} {F : Nat → Prop} (h : RdrS w B gd s) (m : Mod F w w') (hF : ∀ b, F b → B ≤ b) : RdrS w' B gd s := by
  obtain ⟨k1, k2, A, n, c, h1, h2, h3, h4⟩ := h
  have hb : ∀ b, b < B → w'.heap[b]? = w.heap[b]? := fun b hb => m.block b (Nat.lt_of_lt_of_le hb k2) (fun hf => by have := hF b hf; omega)
  exact ⟨k1, Nat.le_trans k2 m.size, A, n, c, m.blk h1 (fun hf => by have := hF gd hf; omega), h2, h3, fun e => ⟨(h4 e).1, (h4 e).2.1, (h4 e).2.2.keep hb⟩⟩
/-- A slice of ints in a block of ints below D. -/
structure TB (w : World) (D : Nat) (s : Sl) (xs : List Int) : Prop where
  nin : NIn w D s xs
  ty : 0 < s.2.1 → ∃ b off, s.1 = some ⟨b, off, none⟩ ∧ Ty w b 3
theorem TB.nil (w : World) (D : Nat) : TB w D (none, 0, 0) [] := ⟨NIn.nil _ _, fun h => absurd h (by simp)⟩
theorem TB.more {w : World} {D D' : Nat} {s : Sl} {xs : List Int} (h : TB w D s xs) (hD : D ≤ D') : TB w D' s xs := ⟨h.nin.more hD, h.ty⟩
theorem TB.mod {w w' : World} {D : Nat} {s : Sl} {xs : List Int} {F : Nat → Prop} (h : TB w D s xs) (m : Mod F w w') (hD : D ≤ w.heap.size) (hF : ∀ b, F b → b < D → ¬ Ty w b 3) : TB w' D s xs := by
  have key : 0 < s.2.1 → ∃ b off, s.1 = some ⟨b, off, none⟩ ∧ Ty w b 3 ∧ b < D ∧ w'.heap[b]? = w.heap[b]? := fun h0 => by
    obtain ⟨b, off, e, ht⟩ := h.ty h0
    obtain ⟨b2, off2, e2, hb2, -⟩ := h.nin.rd h0
    rw [e] at e2
    injection e2 with e2
    injection e2 with e2 e3 _
    subst e2 e3
    exact ⟨b, off, e, ht, hb2, m.block b (Nat.lt_of_lt_of_le hb2 hD) (fun hf => hF b hf hb2 ht)⟩
  refine ⟨⟨h.nin.len, h.nin.cap, h.nin.max, fun h0 => ?_⟩, fun h0 => ?_⟩
  · obtain ⟨b, off, e, -, hb, hk⟩ := key h0
    obtain ⟨b2, off2, e2, hb2, hc⟩ := h.nin.rd h0
    rw [e] at e2
    injection e2 with e2
    injection e2 with e2 e3 _
    subst e2 e3
    exact ⟨b, off, e, hb, fun j hj => (World.cell?_of_block (w := w) hk).trans (hc j hj)⟩
  · obtain ⟨b, off, e, ht, hb, hk⟩ := key h0
    exact ⟨b, off, e, ht.keep hk⟩
theorem TB.own {w : World} {B n c : Nat} {A : Option Addr} {xs : List Int} (h : OwnI w B A n c xs) : TB w w.heap.size (A, n, c) xs := ⟨(TI.own h).nin, (TI.own h).ty⟩
/-- What Decode has made so far, ahead of the node under way. -/
structure DSt (w0 : World) (B D gd g2 g5 : Nat) (v : Int) (A : Option Addr) (k c : Nat) (N : List Nd) (w : World) : Prop where
  lt : w0.heap.size ≤ gd ∧ gd < B ∧ w0.heap.size ≤ g2 ∧ g2 < gd ∧ B ≤ g5 ∧ g5 < D ∧ D ≤ w.heap.size
  res : Blk w g2 44 #[.int .i64 0, .slice none 0 0]
  p : Blk w g5 44 #[.int .i64 v, .slice A k c]
  row : NdsR w B 55 A k c N
  rowD : ∀ g, (Value.slice A k c).ownBlock = some g → g < D
  ok : ∀ x ∈ N, TB w D x.s x.prices
  below : Below w0.heap.size w0 w
theorem DSt.mod {w0 w w' : World} {B D gd g2 g5 k c : Nat} {v : Int} {A : Option Addr} {N : List Nd} {F : Nat → Prop} (h : DSt w0 B D gd g2 g5 v A k c N w) (m : Mod F w w') (hF : ∀ b, F b → b ≠ g2 ∧ b ≠ g5 ∧ (Value.slice A k c).ownBlock ≠ some b ∧ (b < D → ¬ Ty w b 3) ∧ w0.heap.size ≤ b) : DSt w0 B D gd g2 g5 v A k c N w' := by
  obtain ⟨h1, h2, h3, h4, h5, h6, h7⟩ := h.lt
  exact ⟨⟨h1, h2, h3, h4, h5, h6, Nat.le_trans h7 m.size⟩, m.blk h.res (fun hf => (hF _ hf).1 rfl), m.blk h.p (fun hf => (hF _ hf).2.1 rfl), ⟨h.row.len, m.own h.row.row (fun g hg hf => (hF g hf).2.2.1 hg)⟩, h.rowD, fun x hx => (h.ok x hx).mod m h7 (fun b hb => (hF b hb).2.2.2.1), Mod.below h.below m h.below.size (fun b hb => (hF b hb).2.2.2.2)⟩
theorem DSt.all {w0 w w' : World} {B D gd g2 g5 k c : Nat} {v : Int} {A : Option Addr} {N : List Nd} (h : DSt w0 B D gd g2 g5 v A k c N w) (hb : Below w.heap.size w w') : DSt w0 B D gd g2 g5 v A k c N w' := h.mod (F := fun _ => False) (Mod.of_below _ hb) (fun _ hf => hf.elim)
/-- A read by the Reader leaves it. -/
theorem DSt.read {w0 w w' : World} {B D gd g2 g5 k c : Nat} {v : Int} {A : Option Addr} {N : List Nd} {s : RS} (h : DSt w0 B D gd g2 g5 v A k c N w) (hr : RdrS w B gd s) (hg : w.grownBy w' (some gd)) : DSt w0 B D gd g2 g5 v A k c N w' := by
  obtain ⟨h1, h2, h3, h4, h5, h6, h7⟩ := h.lt
  refine h.mod (F := fun b => b = gd) (Mod.of_grown hg (fun g e => by injection e with e; exact .inl e.symm)) (fun b hb => ?_)
  subst hb
  exact ⟨by omega, by omega, fun e => hr.ty.not (by decide) (own_ty h.row.row e), fun _ => hr.ty.not (by decide), h1⟩
/-- With more of the memory counted as made. -/
theorem DSt.more {w0 w : World} {B D D' gd g2 g5 k c : Nat} {v : Int} {A : Option Addr} {N : List Nd} (h : DSt w0 B D gd g2 g5 v A k c N w) (h1 : D ≤ D') (h2 : D' ≤ w.heap.size) : DSt w0 B D' gd g2 g5 v A k c N w :=
  ⟨⟨h.lt.1, h.lt.2.1, h.lt.2.2.1, h.lt.2.2.2.1, h.lt.2.2.2.2.1, by have := h.lt; omega, h2⟩, h.res, h.p, h.row, fun g hg => Nat.lt_of_lt_of_le (h.rowD g hg) h1, fun x hx => (h.ok x hx).more h1, h.below⟩
/-- A block of the node under way, left by a read. -/
theorem Blk.read {w w' : World} {gd g t : Nat} {cs : Array Value} (h : Blk w g t cs) (hg : w.grownBy w' (some gd)) (hne : g ≠ gd) : Blk w' g t cs := h.grown hg (fun e => hne (by injection e))
theorem rN_none {lim : Nat} {s0 : RS} {k : Nat} {q : List P4 × RS} (h : rN lim k s0 = some q) (hn : rNd lim q.2 = none) : ∀ m, k < m → rN lim m s0 = none := by
  intro m hm
  obtain ⟨d, rfl⟩ : ∃ d, m = k + 1 + d := ⟨m - (k + 1), by omega⟩
  clear hm
  induction d with
  | zero =>
    rw [Nat.add_zero, rN, h]
    simp [hn]
  | succ d ih =>
    rw [← Nat.add_assoc, rN, ih]
    rfl
theorem rN_some {lim : Nat} {s0 : RS} {k : Nat} {L : List P4} {s s' : RS} {y : P4} (h : rN lim k s0 = some (L, s)) (hn : rNd lim s = some (y, s')) : rN lim (k + 1) s0 = some (L ++ [y], s') := by
  rw [rN, h]
  simp [hn]
def DecdPost (bs : List UInt8) (w : World) (e : Ending) (w' : World) : Prop :=
  (∃ v N A m c, decP bs = some (v, N.map Nd.p4) ∧ e = .returned (.tuple #[.agg #[.int .i64 v, .slice A m c], .int .i64 0]) ∧ Nds w' (A, m, c) N ∧ Below w.heap.size w w') ∨
  (decP bs = none ∧ e = .returned (.tuple #[.agg #[.int .i64 0, .slice none 0 0], .int .i64 2]) ∧ Below w.heap.size w w')
end Go.Proofs.Ytikfcpkobgejmaa

/- package proof: Decode. -/
namespace Go.Proofs.Ytikfcpkobgejmaa
open Go.RowKit

theorem ownsRow_only {w w' : World} {B n c gd : Nat} {A : Option Addr} {xs : List Int} (h : OwnI w B A n c xs) (hg : w.grownBy w' (some gd)) (hB : gd < B) : OwnI w' B A n c xs :=
  World.ownsRow.kept h hg (.inr (fun e => by have := (own_ge h e).1; omega))
set_option maxRecDepth 100000 in
set_option maxHeartbeats 16000000 in
theorem dec_any (A0 : Option Addr) (n0 c0 : Nat) (bs : List UInt8) (w : World) (HX : Hid (bs.length = n0)) (HRD : Hid (Rd w w.heap.size A0 n0 (vByte bs))) (hn : n0 ≤ 1000000) :
    Calls Try.prog 36 #[.slice A0 n0 c0] w (DecdPost bs w) := by
  go_enter Try.func36, Try.ntmps36
  go_upto_region 1 with (fail)
  have hb1 : Below w.heap.size w (w.alloc (.cells #[.int .i64 0, .slice none 0 0] 44)) := (Below.refl _ _).alloc (Nat.le_refl _) _
  have hk1 := Blk.new w 44 #[.int .i64 0, .slice none 0 0]
  obtain ⟨w1, hw1⟩ : ∃ w1, w.alloc (.cells #[.int .i64 0, .slice none 0 0] 44) = w1 := ⟨_, rfl⟩
  obtain ⟨g2, hg2⟩ : ∃ g2, w.heap.size = g2 := ⟨_, rfl⟩
  have hz1 : w1.heap.size = g2 + 1 := by rw [← hw1, World.size_alloc, hg2]
  rw [hw1] at hb1 hk1 ⊢
  rw [hg2] at hk1
  try rw [hg2]
  have HG2 : Hid (w.heap.size ≤ g2) := Lib.hid (Nat.le_of_eq hg2)
  have HK1 := Lib.hid hk1
  have HB1 := Lib.hid hb1
  clear hw1 hg2 hk1 hb1
  go_wp2_with fail
  refine (read_any A0 n0 c0 bs w1 HX (HRD.out.all HB1.out) (by omega)).mono ?_
  rintro e w2 ⟨gd, rfl, hgd, hr2, hb2, -⟩
  obtain ⟨B, hB⟩ : ∃ B, w2.heap.size = B := ⟨_, rfl⟩
  rw [hB] at hr2
  have hgdB : gd < B := hr2.lt.1
  have HR2 : Hid (RdrS w2 B gd (0, bs)) := Lib.hid hr2
  have HK2 := Lib.hid (HK1.out.all hb2)
  have HB2 := Lib.hid (bt HB1.out hb2)
  clear hr2 hb2 HK1 HB1
  have hdec : decP bs = if (rI (rI (0, bs)).2).1 < 0 ∨ (bs.length : Int) < (rI (rI (0, bs)).2).1 then none else (rN bs.length (rI (rI (0, bs)).2).1.toNat (rI (rI (0, bs)).2).2).bind fun q => if endI q.2.2 q.2.1 = 0 then some ((rI (0, bs)).1, q.1) else none := rfl
  rw [HX.out] at hdec
  have HDC := Lib.hid hdec
  clear hdec
  go_wp2_with fail
  refine (rintS_any B gd (0, bs) w2 HR2).mono ?_
  rintro e w3 ⟨rfl, hr3, hg3⟩
  have HK3 := Lib.hid (HK2.out.read hg3 (show g2 ≠ gd by omega))
  have HB3 : Hid (Below w.heap.size w w3) := Lib.hid (HB2.out.grown hg3 HB2.out.size (fun k e => by injection e with e; have := HG2.out; have := HK2.out.lt; omega))
  have hz3 : B ≤ w3.heap.size := by rw [← hB]; exact hg3.size
  obtain ⟨v, hv⟩ : ∃ x, (rI (0, bs)).1 = x := ⟨_, rfl⟩
  obtain ⟨s1, hs1⟩ : ∃ x, (rI (0, bs)).2 = x := ⟨_, rfl⟩
  rw [hs1] at hr3
  have HDC1 : Hid (decP bs = if (rI s1).1 < 0 ∨ (n0 : Int) < (rI s1).1 then none else (rN n0 (rI s1).1.toNat (rI s1).2).bind fun q => if endI q.2.2 q.2.1 = 0 then some (v, q.1) else none) := Lib.hid (by rw [← hs1, ← hv]; exact HDC.out)
  rw [hv]
  have HR3 := Lib.hid hr3
  clear hv hs1 hr3 hg3 HR2 HK2 HB2 HDC
  go_upto_region 3 with (fail)
  have hb4 : Below w3.heap.size w3 (w3.alloc (.cells #[.int .i64 v, .slice none 0 0] 44)) := (Below.refl _ _).alloc (Nat.le_refl _) _
  have hk4 := Blk.new w3 44 #[.int .i64 v, .slice none 0 0]
  obtain ⟨w4, hw4⟩ : ∃ w4, w3.alloc (.cells #[.int .i64 v, .slice none 0 0] 44) = w4 := ⟨_, rfl⟩
  obtain ⟨g5, hg5⟩ : ∃ g5, w3.heap.size = g5 := ⟨_, rfl⟩
  rw [hw4] at hb4 hk4 ⊢
  have HR4 : Hid (RdrS w4 B gd s1) := Lib.hid (HR3.out.low (Mod.of_below (fun _ => False) hb4) (fun _ hf => hf.elim))
  rw [hg5] at hk4
  try rw [hg5]
  have HD4 : Hid (DSt w B w4.heap.size gd g2 g5 v none 0 0 [] w4) := Lib.hid ⟨⟨by have := HG2.out; omega, hgdB, HG2.out, by omega, by omega, hk4.lt, Nat.le_refl _⟩, HK3.out.all hb4, hk4, ⟨rfl, World.ownsRow_nil _ _ _ _⟩, fun g hg => by simp [Value.ownBlock] at hg, fun x hx => by simp at hx, bt HB3.out hb4⟩
  clear hw4 hg5 hb4 hk4 HR3 HK3 HB3 hz3 hz1 hgd
  clear hB
  go_wp2_with fail
  refine (rintS_any B gd s1 w4 HR4).mono ?_
  rintro e w5 ⟨rfl, hr5, hg5⟩
  have HD5 := Lib.hid (HD4.out.read HR4.out hg5)
  have hrg5 := rI_range s1
  obtain ⟨nv, hnv⟩ : ∃ x, (rI s1).1 = x := ⟨_, rfl⟩
  obtain ⟨s2, hs2⟩ : ∃ x, (rI s1).2 = x := ⟨_, rfl⟩
  have HQ5 : Hid (rI s1 = (nv, s2)) := Lib.hid (by rw [← hnv, ← hs2])
  rw [hs2] at hr5
  rw [hnv] at hrg5 ⊢
  have HR5 := Lib.hid hr5
  clear hnv hs2 hr5 hg5 HR4 HD4
  have HDC2 : Hid (decP bs = if nv < 0 ∨ (n0 : Int) < nv then none else (rN n0 nv.toNat s2).bind fun q => if endI q.2.2 q.2.1 = 0 then some (v, q.1) else none) := Lib.hid (by
    have h := HDC1.out
    rw [HQ5.out] at h
    exact h)
  clear HDC1 HQ5 hrg5
  --@1
  by_cases h1 : nv < 0
  · as_aux_lemma =>
      have HDE := HD5
      have HFE : Hid (DecdPost bs w (.returned (.tuple #[.agg #[.int .i64 0, .slice none 0 0], .int .i64 2])) ((w5.setCell ⟨g2, 0, none⟩ (.int .i64 0)).setCell ⟨g2, 1, none⟩ (.slice none 0 0))) := Lib.hid (.inr ⟨by rw [HDC2.out, if_pos (.inl h1)], rfl, (HDE.out.below.setCell (p := ⟨g2, 0, none⟩) HDE.out.lt.2.2.1 _).setCell (p := ⟨g2, 1, none⟩) HDE.out.lt.2.2.1 _⟩)
      have HRE := Lib.hid ((HDE.out.res.set_ 0 (.int .i64 0)).set_ 1 (.slice none 0 0))
      have u0 := HDE.out.res.cell 0
      have u1 := HDE.out.res.cell 1
      have u2 := HDE.out.res.frozen 0
      have u3 := HDE.out.res.frozen 1
      have y0 := HRE.out.cell 0
      have y1 := HRE.out.cell 1
      simp at u0 u1 y0 y1
      go_wp2
      exact bodyPost_ret (v := .tuple #[.agg #[.int .i64 0, .slice none 0 0], .int .i64 2]) (by simp [results, Try.results36, go_sem, y0, y1]) rfl HFE.out
  by_cases h2 : (n0 : Int) < nv
  · as_aux_lemma =>
      have HDE := HD5
      have HFE : Hid (DecdPost bs w (.returned (.tuple #[.agg #[.int .i64 0, .slice none 0 0], .int .i64 2])) ((w5.setCell ⟨g2, 0, none⟩ (.int .i64 0)).setCell ⟨g2, 1, none⟩ (.slice none 0 0))) := Lib.hid (.inr ⟨by rw [HDC2.out, if_pos (.inr h2)], rfl, (HDE.out.below.setCell (p := ⟨g2, 0, none⟩) HDE.out.lt.2.2.1 _).setCell (p := ⟨g2, 1, none⟩) HDE.out.lt.2.2.1 _⟩)
      have HRE := Lib.hid ((HDE.out.res.set_ 0 (.int .i64 0)).set_ 1 (.slice none 0 0))
      have u0 := HDE.out.res.cell 0
      have u1 := HDE.out.res.cell 1
      have u2 := HDE.out.res.frozen 0
      have u3 := HDE.out.res.frozen 1
      have y0 := HRE.out.cell 0
      have y1 := HRE.out.cell 1
      simp at u0 u1 y0 y1
      go_wp2
      exact bodyPost_ret (v := .tuple #[.agg #[.int .i64 0, .slice none 0 0], .int .i64 2]) (by simp [results, Try.results36, go_sem, y0, y1]) rfl HFE.out
  obtain ⟨nn, rfl⟩ : ∃ nn : Nat, nv = (nn : Int) := ⟨nv.toNat, by omega⟩
  have HDC : Hid (decP bs = (rN n0 nn s2).bind fun q => if endI q.2.2 q.2.1 = 0 then some (v, q.1) else none) := Lib.hid (by rw [HDC2.out, if_neg (by omega), Int.toNat_natCast])
  have hnn : nn ≤ n0 := by omega
  clear HDC2
  have hz1 : decide ((nn : Int) < 0) = false := by simp
  have hz2 : decide ((n0 : Int) < (nn : Int)) = false := by simp; omega
  have hz3 : decide (n0 < nn) = false := by simp; omega
  go_wp2
  try simp only [hz1, hz2, hz3, Bool.or_false]
  clear hz1 hz2 hz3
  go_loopw [26] (fun iv wr => ∃ k : Nat, k ≤ nn ∧ iv = .int .i64 (k : Int) ∧ ∃ (A : Option Addr) (c : Nat) (N : List Nd) (s : RS), Hid (rN n0 k s2 = some (N.map Nd.p4, s)) ∧ Hid (RdrS wr B gd s) ∧ Hid (DSt w B wr.heap.size gd g2 g5 v A k c N wr)) (fun iv _ => nn - (intOf iv).toNat)
  case atStart => exact ⟨0, by omega, rfl, none, 0, [], s2, Lib.hid rfl, HR5, Lib.hid (HD5.out.more HD5.out.lt.2.2.2.2.2.2 (Nat.le_refl _))⟩
  case round =>
    clear HR5 HD5
    obtain ⟨k, hk, rfl, A, c, N, s, HRN, HRw, HDw⟩ := hrel
    by_cases hkm : k < nn
    rotate_left
    · as_aux_lemma =>
      obtain rfl : k = nn := by omega
      go_wp2_with fail
      refine (rend_any B gd s.2 s.1 wr HRw).mono ?_
      rintro e w6 ⟨rfl, rfl⟩
      obtain ⟨en, hen⟩ : ∃ x, endI s.2 s.1 = x := ⟨_, rfl⟩
      rw [hen]
      by_cases he0 : en = 0
      · subst he0
        have hdc : decP bs = some (v, N.map Nd.p4) := by rw [HDC.out, HRN.out]; simp [hen]
        have hne : ∀ g, (Value.slice A k c).ownBlock = some g → g ≠ g2 := fun g hg e => by
          have := (own_ge HDw.out.row.row hg).1
          have := HDw.out.lt
          omega
        have hm : Mod (fun b => b = g2) wr ((wr.setCell ⟨g2, 0, none⟩ (.int .i64 v)).setCell ⟨g2, 1, none⟩ (.slice A k c)) := ((Mod.refl (fun b => b = g2) wr).set (p := ⟨g2, 0, none⟩) (.inl rfl) (.int .i64 v)).set (p := ⟨g2, 1, none⟩) (.inl rfl) (.slice A k c)
        have HFE : Hid (DecdPost bs w (.returned (.tuple #[.agg #[.int .i64 v, .slice A k c], .int .i64 0])) ((wr.setCell ⟨g2, 0, none⟩ (.int .i64 v)).setCell ⟨g2, 1, none⟩ (.slice A k c))) := Lib.hid (.inl ⟨v, N, A, k, c, hdc, rfl, ⟨Rows.of_own Nd.cells_length (hm.own HDw.out.row.row (fun g hg hf => hne g hg hf)) (by decide), fun x hx => ((HDw.out.ok x hx).mod hm (Nat.le_refl _) (fun b hb _ => by rw [hb]; exact HDw.out.res.ty.not (by decide))).nin.more hm.size⟩, Mod.below HDw.out.below hm HDw.out.below.size (fun b hb => by rw [hb]; exact HDw.out.lt.2.2.1)⟩)
        have HRE := Lib.hid ((HDw.out.res.set_ 0 (.int .i64 v)).set_ 1 (.slice A k c))
        have u0 := HDw.out.res.cell 0
        have u1 := HDw.out.res.cell 1
        have u2 := HDw.out.res.frozen 0
        have u3 := HDw.out.res.frozen 1
        have p0 := HDw.out.p.cell 0
        have p1 := HDw.out.p.cell 1
        have y0 := HRE.out.cell 0
        have y1 := HRE.out.cell 1
        simp at u0 u1 y0 y1 p0 p1
        clear hdc hne hm hen
        go_wp2
        exact bodyPost_ret (v := .tuple #[.agg #[.int .i64 v, .slice A k c], .int .i64 0]) (by simp [results, Try.results36, go_sem, y0, y1]) rfl HFE.out
      · have HEN := Lib.hid (And.intro hen he0)
        have heb : (en == 0) = false := by simp [he0]
        clear hen
        have HDE := HDw
        have HFE : Hid (DecdPost bs w (.returned (.tuple #[.agg #[.int .i64 0, .slice none 0 0], .int .i64 2])) ((wr.setCell ⟨g2, 0, none⟩ (.int .i64 0)).setCell ⟨g2, 1, none⟩ (.slice none 0 0))) := Lib.hid (.inr ⟨by rw [HDC.out, HRN.out]; simp [HEN.out.1, HEN.out.2], rfl, (HDE.out.below.setCell (p := ⟨g2, 0, none⟩) HDE.out.lt.2.2.1 _).setCell (p := ⟨g2, 1, none⟩) HDE.out.lt.2.2.1 _⟩)
        have HRE := Lib.hid ((HDE.out.res.set_ 0 (.int .i64 0)).set_ 1 (.slice none 0 0))
        have u0 := HDE.out.res.cell 0
        have u1 := HDE.out.res.cell 1
        have u2 := HDE.out.res.frozen 0
        have u3 := HDE.out.res.frozen 1
        have y0 := HRE.out.cell 0
        have y1 := HRE.out.cell 1
        simp at u0 u1 y0 y1
        go_wp2
        exact bodyPost_ret (v := .tuple #[.agg #[.int .i64 0, .slice none 0 0], .int .i64 2]) (by simp [results, Try.results36, go_sem, y0, y1]) rfl HFE.out
    --@2
    have hki : (k : Int) < (nn : Int) := by omega
    have HR0 := HRw
    have HD0 := HDw
    obtain ⟨w0, hw0⟩ : ∃ w0, wr = w0 := ⟨_, rfl⟩
    rw [hw0] at HR0 HD0 ⊢
    clear HRw HDw
    clear hw0
    go_wp2_with fail
    refine (rintS_any B gd s w0 HR0).mono ?_
    rintro e w6 ⟨rfl, hr6, hg6⟩
    have HD6 := Lib.hid (HD0.out.read HR0.out hg6)
    have hrg6 := rI_range s
    obtain ⟨b, hb⟩ : ∃ x, (rI s).1 = x := ⟨_, rfl⟩
    obtain ⟨s6, hs6⟩ : ∃ x, (rI s).2 = x := ⟨_, rfl⟩
    have HQ6 : Hid (rI s = (b, s6)) := Lib.hid (by rw [← hb, ← hs6])
    rw [hs6] at hr6
    rw [hb] at hrg6 ⊢
    have HR6 := Lib.hid hr6
    clear hb hs6 hr6 hg6 HR0 HD0
    go_wp2_with fail
    refine (rintS_any B gd s6 w6 HR6).mono ?_
    rintro e w7 ⟨rfl, hr7, hg7⟩
    have HD7 := Lib.hid (HD6.out.read HR6.out hg7)
    have hrg7 := rI_range s6
    obtain ⟨i, hi⟩ : ∃ x, (rI s6).1 = x := ⟨_, rfl⟩
    obtain ⟨s7, hs7⟩ : ∃ x, (rI s6).2 = x := ⟨_, rfl⟩
    have HQ7 : Hid (rI s6 = (i, s7)) := Lib.hid (by rw [← hi, ← hs7])
    rw [hs7] at hr7
    rw [hi] at hrg7 ⊢
    have HR7 := Lib.hid hr7
    clear hi hs7 hr7 hg7 HR6 HD6
    go_wp2_with fail
    refine (rintS_any B gd s7 w7 HR7).mono ?_
    rintro e w8 ⟨rfl, hr8, hg8⟩
    have HD8 := Lib.hid (HD7.out.read HR7.out hg8)
    have hrg8 := rI_range s7
    obtain ⟨o, ho⟩ : ∃ x, (rI s7).1 = x := ⟨_, rfl⟩
    obtain ⟨s8, hs8⟩ : ∃ x, (rI s7).2 = x := ⟨_, rfl⟩
    have HQ8 : Hid (rI s7 = (o, s8)) := Lib.hid (by rw [← ho, ← hs8])
    rw [hs8] at hr8
    rw [ho] at hrg8 ⊢
    have HR8 := Lib.hid hr8
    clear ho hs8 hr8 hg8 HR7 HD7
    go_upto_region 9 with (fail)
    have hb9 : Below w8.heap.size w8 (w8.alloc (.cells #[.int .i64 b, .int .i64 i, .int .i64 o, .slice none 0 0] 55)) := (Below.refl _ _).alloc (Nat.le_refl _) _
    have hk9 := Blk.new w8 55 #[.int .i64 b, .int .i64 i, .int .i64 o, .slice none 0 0]
    have hd8 := HD8.out.more HD8.out.lt.2.2.2.2.2.2 (Nat.le_refl _)
    obtain ⟨w9, hw9⟩ : ∃ w9, w8.alloc (.cells #[.int .i64 b, .int .i64 i, .int .i64 o, .slice none 0 0] 55) = w9 := ⟨_, rfl⟩
    obtain ⟨g7, hg7⟩ : ∃ g7, w8.heap.size = g7 := ⟨_, rfl⟩
    rw [hw9] at hb9 hk9 ⊢
    have HR9 : Hid (RdrS w9 B gd s8) := Lib.hid (HR8.out.low (Mod.of_below (fun _ => False) hb9) (fun _ hf => hf.elim))
    have hd9 := hd8.all hb9
    rw [hg7] at hk9 hd9
    try rw [hg7]
    have HD9 := Lib.hid hd9
    have HK9 := Lib.hid hk9
    have hg7d : g7 ≠ gd := by have := hd9.lt; omega
    have HLT : Hid (gd < g7) := Lib.hid (by have := hd9.lt; omega)
    clear hw9 hg7 hb9 hk9 hd8 hd9 HR8 HD8
    go_wp2_with fail
    refine (rintS_any B gd s8 w9 HR9).mono ?_
    rintro e w10 ⟨rfl, hr10, hg10⟩
    have HD10 := Lib.hid (HD9.out.read HR9.out hg10)
    have HK10 := Lib.hid (HK9.out.read hg10 hg7d)
    have hrg10 := rI_range s8
    obtain ⟨cv, hcv⟩ : ∃ x, (rI s8).1 = x := ⟨_, rfl⟩
    obtain ⟨s10, hs10⟩ : ∃ x, (rI s8).2 = x := ⟨_, rfl⟩
    have HQ10 : Hid (rI s8 = (cv, s10)) := Lib.hid (by rw [← hcv, ← hs10])
    rw [hs10] at hr10
    rw [hcv] at hrg10 ⊢
    have HR10 := Lib.hid hr10
    clear hcv hs10 hr10 hg10 HR9 HD9
    have HND : Hid (rNd n0 s = if cv < 0 ∨ (n0 : Int) < cv then none else some ((b, i, o, (rK cv.toNat s10).1), (rK cv.toNat s10).2)) := Lib.hid (by
      unfold rNd
      rw [HQ6.out]
      dsimp only
      rw [HQ7.out]
      dsimp only
      rw [HQ8.out]
      dsimp only
      rw [HQ10.out])
    clear HQ6 HQ7 HQ8 HQ10 hrg6 hrg7 hrg8 hrg10 HK9
    by_cases h3 : cv < 0
    · as_aux_lemma =>
        have HDE := HD10
        have HFE : Hid (DecdPost bs w (.returned (.tuple #[.agg #[.int .i64 0, .slice none 0 0], .int .i64 2])) ((w10.setCell ⟨g2, 0, none⟩ (.int .i64 0)).setCell ⟨g2, 1, none⟩ (.slice none 0 0))) := Lib.hid (.inr ⟨by rw [HDC.out, rN_none HRN.out (by rw [HND.out, if_pos (.inl h3)]) nn hkm]; rfl, rfl, (HDE.out.below.setCell (p := ⟨g2, 0, none⟩) HDE.out.lt.2.2.1 _).setCell (p := ⟨g2, 1, none⟩) HDE.out.lt.2.2.1 _⟩)
        have HRE := Lib.hid ((HDE.out.res.set_ 0 (.int .i64 0)).set_ 1 (.slice none 0 0))
        have u0 := HDE.out.res.cell 0
        have u1 := HDE.out.res.cell 1
        have u2 := HDE.out.res.frozen 0
        have u3 := HDE.out.res.frozen 1
        have y0 := HRE.out.cell 0
        have y1 := HRE.out.cell 1
        simp at u0 u1 y0 y1
        go_wp2
        exact bodyPost_ret (v := .tuple #[.agg #[.int .i64 0, .slice none 0 0], .int .i64 2]) (by simp [results, Try.results36, go_sem, y0, y1]) rfl HFE.out
    by_cases h4 : (n0 : Int) < cv
    · as_aux_lemma =>
        have HDE := HD10
        have HFE : Hid (DecdPost bs w (.returned (.tuple #[.agg #[.int .i64 0, .slice none 0 0], .int .i64 2])) ((w10.setCell ⟨g2, 0, none⟩ (.int .i64 0)).setCell ⟨g2, 1, none⟩ (.slice none 0 0))) := Lib.hid (.inr ⟨by rw [HDC.out, rN_none HRN.out (by rw [HND.out, if_pos (.inr h4)]) nn hkm]; rfl, rfl, (HDE.out.below.setCell (p := ⟨g2, 0, none⟩) HDE.out.lt.2.2.1 _).setCell (p := ⟨g2, 1, none⟩) HDE.out.lt.2.2.1 _⟩)
        have HRE := Lib.hid ((HDE.out.res.set_ 0 (.int .i64 0)).set_ 1 (.slice none 0 0))
        have u0 := HDE.out.res.cell 0
        have u1 := HDE.out.res.cell 1
        have u2 := HDE.out.res.frozen 0
        have u3 := HDE.out.res.frozen 1
        have y0 := HRE.out.cell 0
        have y1 := HRE.out.cell 1
        simp at u0 u1 y0 y1
        go_wp2
        exact bodyPost_ret (v := .tuple #[.agg #[.int .i64 0, .slice none 0 0], .int .i64 2]) (by simp [results, Try.results36, go_sem, y0, y1]) rfl HFE.out
    obtain ⟨cn, rfl⟩ : ∃ cn : Nat, cv = (cn : Int) := ⟨cv.toNat, by omega⟩
    have HNS : Hid (rNd n0 s = some ((b, i, o, (rK cn s10).1), (rK cn s10).2)) := Lib.hid (by rw [HND.out, if_neg (by omega), Int.toNat_natCast])
    have hcn : cn ≤ n0 := by omega
    clear HND
    --@3
    have hz1 : decide ((cn : Int) < 0) = false := by simp
    have hz2 : decide ((n0 : Int) < (cn : Int)) = false := by simp; omega
    have hz3 : decide (n0 < cn) = false := by simp; omega
    go_wp2
    try simp only [hz1, hz2, hz3, Bool.or_false]
    clear hz1 hz2 hz3
    go_loopw [47] (fun iv wr => ∃ j : Nat, j ≤ cn ∧ iv = .int .i64 (j : Int) ∧ ∃ (As : Option Addr) (cs : Nat), Hid (OwnI wr (g7 + 1) As j cs (rK j s10).1) ∧ Hid (Blk wr g7 55 #[.int .i64 b, .int .i64 i, .int .i64 o, .slice As j cs]) ∧ Hid (RdrS wr B gd (rK j s10).2) ∧ Hid (DSt w B g7 gd g2 g5 v A k c N wr)) (fun iv _ => cn - (intOf iv).toNat)
    case atStart => exact ⟨0, by omega, rfl, none, 0, Lib.hid (World.ownsRow_nil _ _ _ _), HK10, HR10, HD10⟩
    case round =>
      clear HK10 HR10 HD10
      obtain ⟨j, hj, rfl, As, cs, HOj, HXj, HRj, HDj⟩ := hrel
      by_cases hjm : j < cn
      · as_aux_lemma =>
        have hji : (j : Int) < (cn : Int) := by omega
        have HDR : Hid (Below wr.heap.size wr wr.drew) := Lib.hid (below_drewN (Below.refl _ _) 1)
        go_wp2
        refine beginG (S := (fun w' => w'.cell? ⟨g7, 3, none⟩ = some (.slice As j cs) ∧ w'.frozen? ⟨g7, 3, none⟩ = false)) 7 (by kernel_rfl) ⟨(HXj.out.all HDR.out).cell 3, (HXj.out.all HDR.out).frozen 3⟩ (fun hHeld => ?_)
        refine takeG 0 (some 49) (v := ?_) (by rfl) (by rfl) (by kernel_rfl) (by kernel_rfl) (by decide) (by kernel_rfl) (by kernel_rfl) (fun _ _ _ h => h) ?_ (by assumption) ?_
        rotate_left
        · (intro o ho w hSw; obtain ⟨z0, z1⟩ := hSw; cases ho; go_simp; try with_reducible rfl)
        try simp only [Act.put, List.setIfInBounds_toArray, List.set_cons_zero, List.set_cons_succ]
        refine takeG 1 (some 50) (v := ?_) (by rfl) (by rfl) (by kernel_rfl) (by kernel_rfl) (by decide) (by kernel_rfl) (by kernel_rfl) (fun _ _ _ h => h) ?_ (by assumption) ?_
        rotate_left
        · (intro o ho w hSw; obtain ⟨z0, z1⟩ := hSw; cases ho; go_simp; try with_reducible rfl)
        try simp only [Act.put, List.setIfInBounds_toArray, List.set_cons_zero, List.set_cons_succ]
        refine takeG 2 (some 51) (v := ?_) (by rfl) (by rfl) (by kernel_rfl) (by kernel_rfl) (by decide) (by kernel_rfl) (by kernel_rfl) (fun _ _ _ h => h) ?_ (by assumption) ?_
        rotate_left
        · (intro o ho w hSw; obtain ⟨z0, z1⟩ := hSw; cases ho; go_simp; try with_reducible rfl)
        try simp only [Act.put, List.setIfInBounds_toArray, List.set_cons_zero, List.set_cons_succ]
        refine readyG (i := 3) (by kernel_rfl) rfl (fun K hK => ?_)
        go_simp
        go_at_call 39
        (refine (rintS_any B gd (rK j s10).2 _ (Lib.hid (HRj.out.low (Mod.of_below (fun _ => False) HDR.out) (fun _ hf => hf.elim)))).mono ?_)
        rintro e w5 ⟨rfl, hr5, hg5⟩
        have HD5 := Lib.hid ((HDj.out.all HDR.out).read (HRj.out.low (Mod.of_below (fun _ => False) HDR.out) (fun _ hf => hf.elim)) hg5)
        have hx5 := (HXj.out.all HDR.out).read hg5 hg7d
        have ho5 : OwnI w5 (g7 + 1) As j cs (rK j s10).1 := ownsRow_only (HOj.out.all HDR.out) hg5 (by have := HLT.out; omega)
        obtain ⟨A6, c6, w6, hr6, ho6, hb6, hm6, hg6⟩ := app_elem2 (w := w5) 22 slT_ints ho5 #[.int .i64 (rI (rK j s10).2).1] rfl (by intro u hu; simp at hu; rcases hu with rfl; rfl) (by omega) (by decide) (by have := hx5.lt; omega)
        have HX5 := Lib.hid hx5
        have HO5 := Lib.hid ho5
        have HR5 := Lib.hid hr5
        have HAP := Lib.hid hr6
        have HO6 := Lib.hid ho6
        have HM6 := Lib.hid hm6
        have HX6 : Hid (Blk w6 g7 55 #[.int .i64 b, .int .i64 i, .int .i64 o, .slice As j cs]) := Lib.hid (hm6.blk hx5 (fun hf => by have := (own_ge ho5 hf).1; omega))
        have HA5 : Hid (Below w5.heap.size w5 (w5.alloc (.cells #[.int .i64 (rI (rK j s10).2).1] 3))) := Lib.hid ((Below.refl _ _).alloc (Nat.le_refl _) _)
        clear hx5 ho5 hr5 hr6 ho6 hb6 hm6 hg6 hg5
        go_wp2
        refine hK.out _ _ ?_ (fun hHa => ?_)
        · exact ⟨(HX5.out).cell 3, (HX5.out).frozen 3⟩
        clear hK K
        try simp only [Act.put, List.setIfInBounds_toArray, List.set_cons_zero, List.set_cons_succ]
        refine readyG (i := 4) (by kernel_rfl) rfl (fun K hK => ?_)
        go_simp
        refine hK.out _ _ ?_ (fun hHb => ?_)
        · exact ⟨(HX5.out.all HA5.out).cell 3, (HX5.out.all HA5.out).frozen 3⟩
        clear hK K
        try simp only [Act.put, List.setIfInBounds_toArray, List.set_cons_zero, List.set_cons_succ]
        refine readyG (i := 5) (by kernel_rfl) rfl (fun K hK => ?_)
        refine step_app (t := 22) HAP.out (by kernel_rfl) (by rfl) (by rfl) (by rfl) ?_
        refine hK.out _ _ ?_ (fun hHc => ?_)
        · exact ⟨(HX6.out).cell 3, (HX6.out).frozen 3⟩
        clear hK K
        (try simp only [Act.put]); (try simp only [List.setIfInBounds_toArray]); (try simp only [List.set_cons_succ]); (try simp only [List.set_cons_zero])
        refine takeG 6 (some 55) (v := ?_) (by rfl) (by rfl) (by kernel_rfl) (by kernel_rfl) (by decide) (by kernel_rfl) (by kernel_rfl) (fun _ _ _ h => h) ?_ (by assumption) ?_
        rotate_left
        · (intro o ho w hSw; obtain ⟨z0, z1⟩ := hSw; cases ho; go_simp; try with_reducible rfl)
        (try simp only [Act.put]); (try simp only [List.setIfInBounds_toArray]); (try simp only [List.set_cons_succ]); (try simp only [List.set_cons_zero])
        refine lastG (by kernel_rfl) rfl (fun K hK => ?_)
        obtain ⟨f0, f1⟩ := hHc
        go_simp
        refine hK.out _ _ ?_
        clear hK K
        (try simp only [Act.put]); (try simp only [List.setIfInBounds_toArray]); (try simp only [List.set_cons_succ]); (try simp only [List.set_cons_zero])
        refine doneG (by kernel_rfl) ?_ _
        --@4
        have hlt := HDj.out.lt
        have hge : ∀ b, (Value.slice As j cs).ownBlock = some b → g7 + 1 ≤ b := fun b hb => (own_ge HO5.out hb).1
        have hd6 := HD5.out.mod HM6.out (fun b hb => by
          have h1 := hge b hb
          refine ⟨by omega, by omega, fun e => ?_, fun h => by omega, by omega⟩
          have h2 := HD5.out.rowD b e
          omega)
        have hr6 := HR5.out.low HM6.out (fun b hb => by have := hge b hb; omega)
        have hmz : Mod (fun b => b = g7) w6 (w6.setCell ⟨g7, 3, none⟩ (.slice A6 (j + 1) c6)) := (Mod.refl (fun b => b = g7) w6).set (p := ⟨g7, 3, none⟩) (.inl rfl) _
        have hdz := hd6.mod hmz (fun b hb => by
          subst hb
          exact ⟨by omega, by omega, fun e => by have := hd6.rowD _ e; omega, fun h => by omega, by omega⟩)
        have hrz := hr6.low hmz (fun b hb => by omega)
        have hxz := HX6.out.set_ 3 (.slice A6 (j + 1) c6)
        have hoz : OwnI (w6.setCell ⟨g7, 3, none⟩ (.slice A6 (j + 1) c6)) (g7 + 1) A6 (j + 1) c6 (rK (j + 1) s10).1 := ownsRow_setCell_below (by rw [rK, List.map_append]; exact HO6.out) (by simp) _
        have HDz := Lib.hid hdz
        have HRz := Lib.hid hrz
        have HXz : Hid (Blk (w6.setCell ⟨g7, 3, none⟩ (.slice A6 (j + 1) c6)) g7 55 #[.int .i64 b, .int .i64 i, .int .i64 o, .slice A6 (j + 1) c6]) := Lib.hid hxz
        have HOz := Lib.hid hoz
        clear hlt hge hd6 hr6 hmz hdz hrz hxz hoz HD5 HR5 HX5 HO5 HAP HO6 HM6 HX6 HA5 HDj HRj HXj HOj HDR hHeld hHa hHb f0 f1
        go_wp2
        exact ⟨⟨j + 1, by omega, by go_num, A6, c6, HOz, HXz, HRz, HDz⟩, by simp [intOf]; omega⟩
      · as_aux_lemma =>
        obtain rfl : j = cn := by omega
        --@5
        have hlt := HDj.out.lt
        obtain ⟨A6, c6, w6, hr6, ho6, hb6, hm6, hg6⟩ := app_elem2 (w := wr) 42 slT_cert HDj.out.row.row #[.int .i64 b, .int .i64 i, .int .i64 o, .slice As j cs] rfl (by intro u hu; simp at hu; rcases hu with rfl | rfl | rfl | rfl <;> rfl) (by omega) (by decide) (by omega)
        have hge : ∀ b, (Value.slice A k c).ownBlock = some b → B ≤ b := fun b hb => (own_ge HDj.out.row.row hb).1
        have hty : ∀ b, (Value.slice A k c).ownBlock = some b → Ty wr b 55 := fun b hb => own_ty HDj.out.row.row hb
        have hp6 := hm6.blk HDj.out.p (fun hf => (hty _ hf).not (by decide) HDj.out.p.ty)
        have hs6 := hm6.blk HDj.out.res (fun hf => (hty _ hf).not (by decide) HDj.out.res.ty)
        have hmz : Mod (fun b => b = g5) w6 (w6.setCell ⟨g5, 1, none⟩ (.slice A6 (k + 1) c6)) := (Mod.refl (fun b => b = g5) w6).set (p := ⟨g5, 1, none⟩) (.inl rfl) _
        have hrz := (HRj.out.low hm6 hge).low hmz (fun b hb => by omega)
        have hlen := HDj.out.row.len
        have hbz : Below w.heap.size w (w6.setCell ⟨g5, 1, none⟩ (.slice A6 (k + 1) c6)) := (Mod.below HDj.out.below hm6 HDj.out.below.size (fun b hb => by have := hge b hb; omega)).setCell (p := ⟨g5, 1, none⟩) (by show w.heap.size ≤ g5; omega) _
        have hsz : (w6.setCell ⟨g5, 1, none⟩ (.slice A6 (k + 1) c6)).heap.size = w6.heap.size := by simp [World.setCell]
        have hsm := hm6.size
        have htb : ∀ s xs, TB wr wr.heap.size s xs → TB (w6.setCell ⟨g5, 1, none⟩ (.slice A6 (k + 1) c6)) (w6.setCell ⟨g5, 1, none⟩ (.slice A6 (k + 1) c6)).heap.size s xs := fun s xs h => by
          have h1 := h.mod hm6 (Nat.le_refl _) (fun b hb _ => (hty b hb).not (by decide))
          have h2 := (h1.more hsm).mod hmz (Nat.le_refl _) (fun b hb _ => by rw [hb]; exact hp6.ty.not (by decide))
          exact h2.more (by omega)
        have HDz : Hid (DSt w B (w6.setCell ⟨g5, 1, none⟩ (.slice A6 (k + 1) c6)).heap.size gd g2 g5 v A6 (k + 1) c6 (N ++ [⟨b, i, o, (As, j, cs), (rK j s10).1⟩]) (w6.setCell ⟨g5, 1, none⟩ (.slice A6 (k + 1) c6))) := Lib.hid
          ⟨⟨hlt.1, hlt.2.1, hlt.2.2.1, hlt.2.2.2.1, hlt.2.2.2.2.1, by have := hp6.lt; omega, Nat.le_refl _⟩, hmz.blk hs6 (fun e => by omega), hp6.set_ 1 _,
           ⟨by rw [List.length_append, hlen]; rfl, by rw [List.flatMap_append]; exact hmz.own ho6 (fun g hg hf => by rw [hf] at hg; exact (own_ty ho6 hg).not (by decide) hp6.ty)⟩,
           fun g hg => by rw [hsz]; exact (own_ge ho6 hg).2,
           fun x hx => by
            rcases List.mem_append.1 hx with h | h
            · exact htb _ _ ((HDj.out.ok x h).more hlt.2.2.2.2.2.2)
            · rw [List.mem_singleton] at h
              subst h
              exact htb _ _ (TB.own HOj.out), hbz⟩
        have HRNz : Hid (rN n0 (k + 1) s2 = some ((N ++ [(⟨b, i, o, (As, j, cs), (rK j s10).1⟩ : Nd)]).map Nd.p4, (rK j s10).2)) := Lib.hid (by rw [List.map_append]; exact rN_some HRN.out HNS.out)
        have HRz := Lib.hid hrz
        have HAP := Lib.hid hr6
        have x0 := HXj.out.cell 0
        have x1 := HXj.out.cell 1
        have x2 := HXj.out.cell 2
        have x3 := HXj.out.cell 3
        have p1 := HDj.out.p.cell 1
        have e1 := hp6.cell 1
        have e2 := hp6.frozen 1
        simp at x0 x1 x2 x3 p1 e1
        clear hlt hr6 ho6 hb6 hm6 hg6 hge hty hp6 hs6 hmz hrz hlen hbz hsz hsm htb HDj HRj HOj HXj HRN HNS HDC hg7d HLT
        go_wp2_with (at_builtin; refine wpList_append_run HAP.out (by rfl) (by rfl) (by rfl) (by rfl) ?_; clear HAP)
        exact ⟨⟨k + 1, by omega, by go_num, A6, c6, _, _, HRNz, HRz, HDz⟩, by simp [intOf]; omega⟩
end Go.Proofs.Ytikfcpkobgejmaa

/- reference: Same (of 29), of equal certificates. -/
namespace Go.Proofs.Ytikfcpkobgejmaa
open Go.RowKit

set_option maxRecDepth 100000 in
set_option maxHeartbeats 8000000 in
theorem same29_true (v : Int) (A A' : Option Addr) (n c n' c' : Nat) (N N' : List Nd) (w : World) (HN : Hid (Nds w (A, n, c) N)) (HN' : Hid (Nds w (A', n', c') N')) (HE : Hid (N.map Nd.p4 = N'.map Nd.p4)) (hn : n ≤ 1000000) :
    Calls Try.prog 38 #[.agg #[.int .i64 v, .slice A n c], .agg #[.int .i64 v, .slice A' n' c']] w fun e w' => e = .returned (.bool true) ∧ Below w.heap.size w w' := by
  have HNL := Lib.hid HN.out.rows.len
  have HNL' := Lib.hid HN'.out.rows.len
  dsimp only at HNL HNL'
  obtain rfl : n = n' := by
    have h := congrArg List.length HE.out
    rw [List.length_map, List.length_map, HNL.out, HNL'.out] at h
    exact h
  go_enter Try.func38, Try.ntmps38
  go_upto_region 1 with (fail)
  have hb2 := ((Below.refl w.heap.size w).alloc (Nat.le_refl _) (.cells #[.int .i64 v, .slice A n c] 30)).alloc (by simp) (.cells #[.int .i64 v, .slice A' n c'] 30)
  have hk2 := Blk.alloc (Blk.new w 30 #[.int .i64 v, .slice A n c]) (.cells #[.int .i64 v, .slice A' n c'] 30)
  have hk3 := Blk.new (w.alloc (.cells #[.int .i64 v, .slice A n c] 30)) 30 #[.int .i64 v, .slice A' n c']
  rw [World.size_alloc] at hk3
  obtain ⟨w2, hw2⟩ : ∃ w2, (w.alloc (.cells #[.int .i64 v, .slice A n c] 30)).alloc (.cells #[.int .i64 v, .slice A' n c'] 30) = w2 := ⟨_, rfl⟩
  obtain ⟨g2, hg2⟩ : ∃ g, w.heap.size = g := ⟨_, rfl⟩
  rw [hw2] at hb2 hk2 hk3 ⊢
  rw [hg2] at hk2 hk3 ⊢
  obtain ⟨g3, hg3⟩ : ∃ g, g2 + 1 = g := ⟨_, rfl⟩
  rw [hg3] at hk3 ⊢
  have HB2 := Lib.hid hb2
  have HK22 := Lib.hid hk2
  have HK32 := Lib.hid hk3
  have q0 := hk2.cell 0
  have q1 := hk2.cell 1
  have r0 := hk3.cell 0
  have r1 := hk3.cell 1
  simp at q0 q1 r0 r1
  clear hw2 hg2 hg3 hb2 hk2 hk3
  go_wp2
  clear q0 q1 r0 r1
  go_loopw [5] (fun iv wr => ∃ k : Nat, k ≤ n ∧ iv = .int .i64 (k : Int) ∧ Hid (Below w2.heap.size w2 wr)) (fun iv _ => n - (intOf iv).toNat)
  case atStart => exact ⟨0, by omega, rfl, Lib.hid (Below.refl _ _)⟩
  case round =>
    obtain ⟨k, hk, rfl, HBr⟩ := hrel
    have HB := Lib.hid (bt HB2.out HBr.out)
    have HK2 := Lib.hid (HK22.out.all HBr.out)
    have HK3 := Lib.hid (HK32.out.all HBr.out)
    have q1 := HK2.out.cell 1
    simp at q1
    by_cases hkm : k < n
    rotate_left
    · obtain rfl : k = n := by omega
      go_wp2
      go_ret
      exact ⟨rfl, HB.out⟩
    have hkl : k < N.length := by rw [HNL.out]; exact hkm
    have hkl' : k < N'.length := by rw [HNL'.out]; exact hkm
    have hee : (ndAt N k).p4 = (ndAt N' k).p4 := by
      have h := congrArg (fun l => l[k]?) HE.out
      simp only [List.getElem?_map, List.getElem?_eq_getElem hkl, List.getElem?_eq_getElem hkl', Option.map_some, Option.some.injEq] at h
      rw [ndAt_eq hkl, ndAt_eq hkl']
      exact h
    obtain ⟨b1, o1, bi, iq, oq, s1, n1, c1, ps1, hA, hb1, d0, d1, d2, d3, hi1, he1⟩ := (HN.out.all HB.out).get hkl
    obtain ⟨b2, o2, bj, jq, pq, s2, n2, c2, ps2, hA', hb2, e0, e1, e2, e3, hi2, he2⟩ := (HN'.out.all HB.out).get hkl'
    rw [he1, he2] at hee
    simp only [Nd.p4, Prod.mk.injEq] at hee
    obtain ⟨rfl, rfl, rfl, hpe⟩ := hee
    subst hA hA'
    have HPE := Lib.hid hpe
    have HI1 := Lib.hid hi1
    have HI2 := Lib.hid hi2
    have HC1 := Lib.hid (And.intro d0 (And.intro d1 (And.intro d2 d3)))
    have HC2 := Lib.hid (And.intro e0 (And.intro e1 (And.intro e2 e3)))
    have hm1 : n1 ≤ 9223372036854775807 := Nat.le_trans hi1.cap hi1.max
    have hm2 : n2 ≤ 9223372036854775807 := Nat.le_trans hi2.cap hi2.max
    have hki : (k : Int) < (n : Int) := by omega
    clear hpe hi1 hi2 he1 he2 d0 d1 d2 d3 e0 e1 e2 e3 hkl hkl'
    go_wp2
    have hS10 : Below wr.heap.size wr wr.drew := below_drewN (Below.refl _ _) 1
    refine wp_region_held_drew (S := (fun w' => w'.cell? ⟨g2, 1, none⟩ = some (.slice (some ⟨b1, o1, none⟩) n c) ∧ w'.cell? ⟨g3, 1, none⟩ = some (.slice (some ⟨b2, o2, none⟩) n c') ∧ w'.cell? ⟨b1, o1 + k * 4 + 3, none⟩ = some (.slice s1 n1 c1) ∧ w'.cell? ⟨b2, o2 + k * 4 + 3, none⟩ = some (.slice s2 n2 c2))) (by kernel_rfl) ⟨(HK2.out.all hS10).cell 1, (HK3.out.all hS10).cell 1, (hS10.cell (p := ⟨b1, o1 + k * 4 + 3, none⟩) hb1).trans HC1.out.2.2.2, (hS10.cell (p := ⟨b2, o2 + k * 4 + 3, none⟩) hb2).trans HC2.out.2.2.2⟩ (fun hHeld => ?_)
    refine takeH 0 (some 28) (v := ?_) (by rfl) (by rfl) (by kernel_rfl) (by kernel_rfl) (by kernel_rfl) (fun _ _ _ h => h) ?_ (by assumption) ?_
    rotate_left
    · (intro o ho w hSw; obtain ⟨z0, z1, z2, z3⟩ := hSw; cases ho; go_simp; try with_reducible rfl)
    try simp only [Act.put, List.setIfInBounds_toArray, List.set_cons_zero, List.set_cons_succ]
    refine takeH 1 (some 29) (v := ?_) (by rfl) (by rfl) (by kernel_rfl) (by kernel_rfl) (by kernel_rfl) (fun _ _ _ h => h) ?_ (by assumption) ?_
    rotate_left
    · (intro o ho w hSw; obtain ⟨z0, z1, z2, z3⟩ := hSw; cases ho; go_simp; try with_reducible rfl)
    try simp only [Act.put, List.setIfInBounds_toArray, List.set_cons_zero, List.set_cons_succ]
    refine takeH 2 (some 30) (v := ?_) (by rfl) (by rfl) (by kernel_rfl) (by kernel_rfl) (by kernel_rfl) (fun _ _ _ h => h) ?_ (by assumption) ?_
    rotate_left
    · (intro o ho w hSw; obtain ⟨z0, z1, z2, z3⟩ := hSw; cases ho; go_simp; try with_reducible rfl)
    try simp only [Act.put, List.setIfInBounds_toArray, List.set_cons_zero, List.set_cons_succ]
    refine takeH 3 (some 31) (v := ?_) (by rfl) (by rfl) (by kernel_rfl) (by kernel_rfl) (by kernel_rfl) (fun _ _ _ h => h) ?_ (by assumption) ?_
    rotate_left
    · (intro o ho w hSw; obtain ⟨z0, z1, z2, z3⟩ := hSw; cases ho; go_simp; try with_reducible rfl)
    try simp only [Act.put, List.setIfInBounds_toArray, List.set_cons_zero, List.set_cons_succ]
    refine takeH 4 (some 32) (v := ?_) (by rfl) (by rfl) (by kernel_rfl) (by kernel_rfl) (by kernel_rfl) (fun _ _ _ h => h) ?_ (by assumption) ?_
    rotate_left
    · (intro o ho w hSw; obtain ⟨z0, z1, z2, z3⟩ := hSw; cases ho; go_simp; try with_reducible rfl)
    try simp only [Act.put, List.setIfInBounds_toArray, List.set_cons_zero, List.set_cons_succ]
    refine takeH 5 (some 33) (v := ?_) (by rfl) (by rfl) (by kernel_rfl) (by kernel_rfl) (by kernel_rfl) (fun _ _ _ h => h) ?_ (by assumption) ?_
    rotate_left
    · (intro o ho w hSw; obtain ⟨z0, z1, z2, z3⟩ := hSw; cases ho; go_simp; try with_reducible rfl)
    try simp only [Act.put, List.setIfInBounds_toArray, List.set_cons_zero, List.set_cons_succ]
    refine takeH 6 (some 34) (v := ?_) (by rfl) (by rfl) (by kernel_rfl) (by kernel_rfl) (by kernel_rfl) (fun _ _ _ h => h) ?_ (by assumption) ?_
    rotate_left
    · (intro o ho w hSw; obtain ⟨z0, z1, z2, z3⟩ := hSw; cases ho; go_simp; try with_reducible rfl)
    try simp only [Act.put, List.setIfInBounds_toArray, List.set_cons_zero, List.set_cons_succ]
    refine takeH 7 (some 35) (v := ?_) (by rfl) (by rfl) (by kernel_rfl) (by kernel_rfl) (by kernel_rfl) (fun _ _ _ h => h) ?_ (by assumption) ?_
    rotate_left
    · (intro o ho w hSw; obtain ⟨z0, z1, z2, z3⟩ := hSw; cases ho; go_simp; try with_reducible rfl)
    try simp only [Act.put, List.setIfInBounds_toArray, List.set_cons_zero, List.set_cons_succ]
    refine takeH 8 (some 36) (v := ?_) (by rfl) (by rfl) (by kernel_rfl) (by kernel_rfl) (by kernel_rfl) (fun _ _ _ h => h) ?_ (by assumption) ?_
    rotate_left
    · (intro o ho w hSw; obtain ⟨z0, z1, z2, z3⟩ := hSw; cases ho; go_simp; try with_reducible rfl)
    try simp only [Act.put, List.setIfInBounds_toArray, List.set_cons_zero, List.set_cons_succ]
    refine takeH 9 (some 37) (v := ?_) (by rfl) (by rfl) (by kernel_rfl) (by kernel_rfl) (by kernel_rfl) (fun _ _ _ h => h) ?_ (by assumption) ?_
    rotate_left
    · (intro o ho w hSw; obtain ⟨z0, z1, z2, z3⟩ := hSw; cases ho; go_simp; try with_reducible rfl)
    try simp only [Act.put, List.setIfInBounds_toArray, List.set_cons_zero, List.set_cons_succ]
    refine takeH 10 (some 38) (v := ?_) (by rfl) (by rfl) (by kernel_rfl) (by kernel_rfl) (by kernel_rfl) (fun _ _ _ h => h) ?_ (by assumption) ?_
    rotate_left
    · (intro o ho w hSw; obtain ⟨z0, z1, z2, z3⟩ := hSw; cases ho; go_simp; try with_reducible rfl)
    try simp only [Act.put, List.setIfInBounds_toArray, List.set_cons_zero, List.set_cons_succ]
    refine takeH 11 (some 39) (v := ?_) (by rfl) (by rfl) (by kernel_rfl) (by kernel_rfl) (by kernel_rfl) (fun _ _ _ h => h) ?_ (by assumption) ?_
    rotate_left
    · (intro o ho w hSw; obtain ⟨z0, z1, z2, z3⟩ := hSw; cases ho; go_simp; try with_reducible rfl)
    try simp only [Act.put, List.setIfInBounds_toArray, List.set_cons_zero, List.set_cons_succ]
    refine wpAnyH_ready (rs := [12]) (by kernel_rfl) (by simp) ?_
    refine AllReadyH.cons rfl (fun K hK => ?_) AllReadyH.nil
    go_simp
    go_at_call 60
    (refine (sameInts_true s1 s2 n1 n2 c1 c2 ps1 ps2 _ HPE.out (Lib.hid HI1.out.len) (Lib.hid HI2.out.len) (NIn.all HI1.out hS10).rd (NIn.all HI2.out hS10).rd (by omega) (by omega)).mono ?_)
    rintro e w5 ⟨rfl, hb5⟩
    have hS5 := bt hS10 hb5
    clear hb5
    go_wp2
    refine hK.out _ _ ?_ (fun hh12 => ?_)
    · exact ⟨(HK2.out.all hS5).cell 1, (HK3.out.all hS5).cell 1, (hS5.cell (p := ⟨b1, o1 + k * 4 + 3, none⟩) hb1).trans HC1.out.2.2.2, (hS5.cell (p := ⟨b2, o2 + k * 4 + 3, none⟩) hb2).trans HC2.out.2.2.2⟩
    clear hK K
    try simp only [Act.put, List.setIfInBounds_toArray, List.set_cons_zero, List.set_cons_succ]
    refine takeH 13 (some 6) (v := ?_) (by rfl) (by rfl) (by kernel_rfl) (by kernel_rfl) (by kernel_rfl) (fun _ _ _ h => h) ?_ (by assumption) ?_
    rotate_left
    · (intro o ho w hSw; obtain ⟨z0, z1, z2, z3⟩ := hSw; cases ho; go_simp; try with_reducible rfl)
    try simp only [Act.put, List.setIfInBounds_toArray, List.set_cons_zero, List.set_cons_succ]
    refine wpAnyH_done (by kernel_rfl) ?_ _
    clear hh12 hHeld
    go_wp2
    obtain ⟨z0, z1, z2, z3, z4, z5, z6, z7⟩ : _ ∧ _ ∧ _ ∧ _ ∧ _ ∧ _ ∧ _ ∧ _ := ⟨(HK2.out.all hS5).cell 1, (HK3.out.all hS5).cell 1, (hS5.cell (p := ⟨b1, o1 + k * 4, none⟩) hb1).trans HC1.out.1, (hS5.cell (p := ⟨b1, o1 + k * 4 + 1, none⟩) hb1).trans HC1.out.2.1, (hS5.cell (p := ⟨b1, o1 + k * 4 + 2, none⟩) hb1).trans HC1.out.2.2.1, (hS5.cell (p := ⟨b2, o2 + k * 4, none⟩) hb2).trans HC2.out.1, (hS5.cell (p := ⟨b2, o2 + k * 4 + 1, none⟩) hb2).trans HC2.out.2.1, (hS5.cell (p := ⟨b2, o2 + k * 4 + 2, none⟩) hb2).trans HC2.out.2.2.1⟩
    simp at z0 z1
    have hbb : decide (bi = bi) = true := by simp
    have hss := bt HBr.out hS5
    clear hS10 hS5 HK2 HK3 HC1 HC2 HPE HI1 HI2 HB q1 hm1 hm2 hb1 hb2
    go_quiet (fail)
    go_wp2
    exact ⟨⟨k + 1, by omega, by go_num, Lib.hid (bt hss (below_drewN (Below.refl _ _) _))⟩, by simp [intOf]; omega⟩
end Go.Proofs.Ytikfcpkobgejmaa

/- law 29: what ProofEncoding needs of the plain encoding. -/
namespace Go.Proofs.Ytikfcpkobgejmaa
open Go.RowKit

theorem rintE_any (B gd : Nat) (x : Int) (r : List UInt8) (w : World) (HR : Hid (RdrS w B gd (0, encInt x ++ r))) (hx : InI x) :
    Calls Try.prog 39 #[.pointer (some ⟨gd, 0, none⟩)] w fun e w' => e = .returned (.int .i64 x) ∧ RdrS w' B gd (0, r) ∧ w.grownBy w' (some gd) := by
  refine (rintS_any B gd (0, encInt x ++ r) w HR).mono ?_
  rintro e w' ⟨rfl, h1, h2⟩
  rw [rI_enc hx] at h1 ⊢
  exact ⟨rfl, h1, h2⟩
theorem flat_le {l : List Int} (h : ∀ p ∈ l, InI p) : (l.flatMap encInt).length ≤ 10 * l.length := by
  induction l with
  | nil => simp
  | cons a t ih =>
    have h1 := h a (by simp)
    have h2 := ih (fun p hp => h p (by simp [hp]))
    have h3 := encInt_len h1.1 h1.2
    rw [List.flatMap_cons, List.length_append, List.length_cons]
    omega
theorem encN_le {x : P4} {m : Nat} (h : x.In) (hm : x.2.2.2.length ≤ m) (hm2 : m ≤ 1000) : (encN x).length ≤ 40 + 10 * m := by
  obtain ⟨b, i, o, l⟩ := x
  obtain ⟨h1, h2, h3, h4⟩ := h
  dsimp only at h1 h2 h3 h4 hm
  unfold encN
  simp only [List.length_append]
  have e1 := encInt_len h1.1 h1.2
  have e2 := encInt_len h2.1 h2.2
  have e3 := encInt_len h3.1 h3.2
  have e4 := encInt_len (n := (l.length : Int)) (by omega) (by omega)
  have e5 := flat_le h4
  omega
theorem encL_le {L : List P4} {m : Nat} (h : ∀ x ∈ L, x.In ∧ x.2.2.2.length ≤ m) (hm : m ≤ 1000) : (L.flatMap encN).length ≤ (40 + 10 * m) * L.length := by
  induction L with
  | nil => simp
  | cons a t ih =>
    have h1 := h a (by simp)
    have h2 := ih (fun p hp => h p (by simp [hp]))
    have h3 := encN_le h1.1 h1.2 hm
    rw [List.flatMap_cons, List.length_append, List.length_cons, Nat.mul_succ]
    omega
theorem encP_le {v : Int} {L : List P4} {m : Nat} (hv : InI v) (h : ∀ x ∈ L, x.In ∧ x.2.2.2.length ≤ m) (hm : m ≤ 9) (hn : L.length ≤ 2048) : (encP v L).length ≤ 300000 := by
  have h1 := encL_le h (by omega)
  have e1 := encInt_len hv.1 hv.2
  have e4 := encInt_len (n := (L.length : Int)) (by omega) (by omega)
  have h2 : (40 + 10 * m) * L.length ≤ 130 * L.length := Nat.mul_le_mul_right _ (by omega)
  unfold encP
  simp only [List.length_append]
  omega
theorem encP_pos (v : Int) (L : List P4) : 0 < (encP v L).length := by
  unfold encP
  have := encInt_pos v
  rw [List.length_append]
  omega
/-- What Spoilt makes of a fine certificate has numbers in range. -/
theorem alt_in {N N' : List Nd} {n : Int} {w : World} {s : Sl} (h : NdsAlt N n N') (hN : ∀ x ∈ N, NdFine x) (hn : InI n) (hw : Nds w s N') : ∀ y ∈ N'.map Nd.p4, y.In ∧ y.2.2.2.length ≤ 9 := fun y hy => by
  obtain ⟨x, hx, rfl⟩ := List.mem_map.1 hy
  have hl : x.prices.length = x.s.2.1 := (hw.ok x hx).len
  have z0 : InI 0 := by constructor <;> omega
  rcases h x hx with rfl | ⟨y, hy, h1, h2, h3, h4, h5⟩
  · refine ⟨⟨by constructor <;> simp [Nd.p4, nl0], by simpa [Nd.p4, nl0] using z0, by simpa [Nd.p4, nl0] using z0, fun p hp => by simp [Nd.p4, nl0] at hp⟩, by simp [Nd.p4, nl0]⟩
  · obtain ⟨f1, f2, f3, f4, f5⟩ := hN y hy
    refine ⟨⟨?_, ?_, ?_, fun p hp => ?_⟩, ?_⟩
    · show InI x.bid
      rcases h1 with h | h <;> rw [h]
      · constructor <;> omega
      · exact hn
    · show InI x.inn
      rcases h2 with h | h <;> rw [h]
      · constructor <;> omega
      · exact hn
    · show InI x.out
      rcases h3 with h | h <;> rw [h]
      · constructor <;> omega
      · exact hn
    · rcases h5 p hp with h | h
      · rw [f5 p h]
        exact z0
      · rw [h]
        exact hn
    · show x.prices.length ≤ 9
      omega
end Go.Proofs.Ytikfcpkobgejmaa

/- law 29: what the tail of ProofEncoding needs. -/
namespace Go.Proofs.Ytikfcpkobgejmaa
open Go.RowKit

theorem rendE_any (B gd : Nat) (w : World) (HR : Hid (RdrS w B gd (0, []))) :
    Calls Try.prog 40 #[.pointer (some ⟨gd, 0, none⟩)] w fun e w' => e = .returned (.int .i64 0) ∧ w = w' :=
  rend_any B gd [] 0 w HR
theorem encP_ge (v : Int) (L : List P4) : L.length ≤ (encP v L).length := by
  have h := (encL_ge L).1
  unfold encP
  simp only [List.length_append]
  omega
/-- 'append([]byte{}, b...)'. -/
theorem copyP_run (w : World) (A : Option Addr) (n c : Nat) (bs : List UInt8) (hx : bs.length = n) (hR : Rd w w.heap.size A n (vByte bs)) (hn : n ≤ 70368744177664) :
    ∃ A' c' w3, Hid ((Builtin.append_ #[72, 72] 72 #[.slice (some ⟨w.heap.size, 0, none⟩) 0 0, .slice A n c]).run Try.prog (w.alloc (.cells #[] 5)) = .ok (.slice A' n c') w3) ∧ n ≤ c' ∧ c' ≤ 9223372036854775807 ∧
      w3.ownsRow w.heap.size 5 1 (.slice A' n c') n (bs.map fun b => Value.int .u8 ((b.toNat : Nat) : Int)) ∧ Rd w3 w3.heap.size A' n (vByte bs) ∧ Below w.heap.size w w3 := by
  obtain ⟨i0, hi, hz0, hz1, hz2⟩ := info_parts info_few
  have ho : (w.alloc (.cells #[] 5)).ownsRow w.heap.size 5 1 (.slice (some ⟨w.heap.size, 0, none⟩) 0 0) 0 [] := World.ownsRow_made w #[] 0 (Nat.le_refl _) (by decide) rfl
  obtain ⟨v, w3, hap, hown, hg, _⟩ := run_append_rd (P := Try.prog) (w.alloc (.cells #[] 5)) w.heap.size 72 72 5 i0 _ 1 Try.underlying72 hi hz0 hz1 hz2 rfl _ 0 [] ho w.heap.size A n c (vByte bs) (hR.alloc (Nat.le_refl _) _) hR.none_ (fun _ _ => rfl) (by unfold maxLen; omega) (by omega) (by simp)
  simp only [Nat.zero_add, List.nil_append] at hown
  obtain ⟨A', c', rfl⟩ := own_slice hown
  have e : (List.range n).map (vByte bs) = bs.map fun b => Value.int .u8 ((b.toNat : Nat) : Int) := by
    refine List.ext_getElem (by simp [hx]) fun i h1 h2 => ?_
    have hi : i < bs.length := by simpa using h2
    simp [vByte, hi]
  rw [e] at hown
  obtain ⟨_, r2, r3⟩ := rd_bytes hown
  exact ⟨A', c', w3, Lib.hid hap, r2, own_cap hown, hown, r3, ((Below.refl _ _).alloc (Nat.le_refl _) _).grown hg (by simp) (fun k e => (ho.lt k e).1)⟩
end Go.Proofs.Ytikfcpkobgejmaa

/- law 29: taken. -/
namespace Go.Proofs.Ytikfcpkobgejmaa
open Go.RowKit

theorem slT_taken : SlT Try.prog 28 34 4 48 := SlT.of Try.underlying28 (by kernel_rfl) (by decide)
def TakenPost (v : Int) (N : List Nd) (w : World) (e : Ending) (w' : World) : Prop := ∃ A' c', e = .returned (.agg #[.int .i64 v, .slice A' N.length c']) ∧ w'.ownsRow w.heap.size 34 4 (.slice A' N.length c') N.length (N.flatMap Nd.cells) ∧ Below w.heap.size w w'
set_option maxRecDepth 100000 in
set_option maxHeartbeats 4000000 in
theorem taken_any (v : Int) (An : Option Addr) (nn cn : Nat) (N : List Nd) (w : World) (HN : Hid (Nds w (An, nn, cn) N)) (hm : nn ≤ 10000) :
    Calls Try.prog 29 #[.agg #[.int .i64 v, .slice An nn cn]] w (TakenPost v N w) := by
  have HNL := Lib.hid HN.out.rows.len
  dsimp only at HNL
  go_enter Try.func29, Try.ntmps29
  go_wp2
  have hb0 := (((Below.refl w.heap.size w).alloc (Nat.le_refl _) (.cells #[.int .i64 v, .slice An nn cn] 44)).alloc (by simp) (.cells #[.int .i64 0, .slice none 0 0] 30)).alloc (by simp; omega) (.cells #[.int .i64 v, .slice none 0 0] 30)
  have hk0 := Blk.alloc (Blk.alloc (Blk.new w 44 #[.int .i64 v, .slice An nn cn]) (.cells #[.int .i64 0, .slice none 0 0] 30)) (.cells #[.int .i64 v, .slice none 0 0] 30)
  have hk1 := Blk.alloc (Blk.new (w.alloc (.cells #[.int .i64 v, .slice An nn cn] 44)) 30 #[.int .i64 0, .slice none 0 0]) (.cells #[.int .i64 v, .slice none 0 0] 30)
  have hk2 := Blk.new ((w.alloc (.cells #[.int .i64 v, .slice An nn cn] 44)).alloc (.cells #[.int .i64 0, .slice none 0 0] 30)) 30 #[.int .i64 v, .slice none 0 0]
  simp only [World.size_alloc] at hk1 hk2
  obtain ⟨w0, hw0⟩ : ∃ w0, ((w.alloc (.cells #[.int .i64 v, .slice An nn cn] 44)).alloc (.cells #[.int .i64 0, .slice none 0 0] 30)).alloc (.cells #[.int .i64 v, .slice none 0 0] 30) = w0 := ⟨_, rfl⟩
  have hz0 : w0.heap.size = w.heap.size + 1 + 1 + 1 := by rw [← hw0]; simp
  rw [hw0] at hb0 hk0 hk1 hk2 ⊢
  obtain ⟨gp, hgp⟩ : ∃ gp, w.heap.size = gp := ⟨_, rfl⟩
  rw [hgp] at hk0 hk1 hk2 hz0 ⊢
  have HZ := Lib.hid hz0
  have HGP := Lib.hid hgp
  have HB0 := Lib.hid hb0
  have HK0 := Lib.hid hk0
  have HK1 := Lib.hid hk1
  have HK2 := Lib.hid hk2
  clear hw0 hz0 hgp hb0 hk0 hk1 hk2
  go_loopw [4] (fun iv wr => ∃ (k : Nat) (A' : Option Addr) (c' : Nat), k ≤ nn ∧ iv = .int .i64 (k : Int) ∧ Hid (Blk wr gp 44 #[.int .i64 v, .slice An nn cn]) ∧ Hid (Blk wr (gp + 1) 30 #[.int .i64 0, .slice none 0 0]) ∧ Hid (Blk wr (gp + 1 + 1) 30 #[.int .i64 v, .slice A' k c']) ∧ Hid (wr.ownsRow (gp + 1 + 1 + 1) 34 4 (.slice A' k c') k ((N.take k).flatMap Nd.cells)) ∧ Hid (Below w.heap.size w wr)) (fun iv _ => nn - (intOf iv).toNat)
  case atStart => exact ⟨0, none, 0, by omega, rfl, HK0, HK1, HK2, Lib.hid (by rw [List.take_zero]; exact World.ownsRow_nil _ _ _ _), HB0⟩
  case round =>
    clear HK0 HK1 HK2
    obtain ⟨k, A', c', hk, rfl, HK0, HK1, HK2, HO, HB⟩ := hrel
    have p1 := HK0.out.cell 1
    have r0 := HK2.out.cell 0
    have r1 := HK2.out.cell 1
    simp at p1 r0 r1
    by_cases hkm : k < nn
    · obtain ⟨b, off, bi, iq, oq, sA, sn, sc, ps, hA, hbw, c0, c1, c2, c3, hin, he⟩ := (HN.out.all HB.out).get (k := k) (by rw [HNL.out]; exact hkm)
      subst hA
      have HTK : Hid ((N.take (k + 1)).flatMap Nd.cells = (N.take k).flatMap Nd.cells ++ #[.int .i64 bi, .int .i64 iq, .int .i64 oq, .slice sA sn sc].toList) := Lib.hid (by
        have hkl : k < N.length := by rw [HNL.out]; exact hkm
        rw [← List.take_append_getElem hkl, List.flatMap_append]
        rw [← ndAt_eq hkl, he]
        rfl)
      have hlt2 : gp + 1 + 1 < wr.heap.size := HK2.out.lt
      obtain ⟨A5, c5, w5, hr5, ho5, hb5, -⟩ := app_elem (w := wr.alloc (.cells #[.int .i64 bi, .int .i64 iq, .int .i64 oq, .slice sA sn sc] 55)) 28 slT_taken (HO.out.alloc _) #[.int .i64 bi, .int .i64 iq, .int .i64 oq, .slice sA sn sc] rfl (by intro u hu; simp at hu; rcases hu with rfl | rfl | rfl | rfl <;> rfl) (by omega) (by decide) (by simp; omega)
      have hba : Below (gp + 1 + 1 + 1) wr w5 := ((Below.refl (gp + 1 + 1 + 1) wr).alloc (by omega) _).trans hb5
      rw [World.size_alloc] at hr5
      have HR5 := Lib.hid hr5
      have HO5 := Lib.hid ho5
      have HK05 : Hid (Blk w5 gp 44 #[.int .i64 v, .slice (some ⟨b, off, none⟩) nn cn]) := Lib.hid (HK0.out.below hba (by omega))
      have HK15 : Hid (Blk w5 (gp + 1) 30 #[.int .i64 0, .slice none 0 0]) := Lib.hid (HK1.out.below hba (by omega))
      have hk25 : Blk w5 (gp + 1 + 1) 30 #[.int .i64 v, .slice A' k c'] := HK2.out.below hba (by omega)
      have HK25 := Lib.hid hk25
      have HB5 : Hid (Below w.heap.size w w5) := Lib.hid (HB.out.trans (hba.mono (by rw [HGP.out]; omega)))
      have d0 := hk25.cell 1
      have d1 := hk25.frozen 1
      simp at d0
      clear hr5 ho5 hb5 hin he hbw hba hk25
      have hki : (k : Int) < (nn : Int) := by omega
      go_wp2_with (at_builtin; refine wpList_append_run HR5.out (by rfl) (by rfl) (by rfl) (by rfl) ?_)
      refine ⟨⟨k + 1, A5, c5, by omega, by go_num, Lib.hid ?_, Lib.hid ?_, Lib.hid ?_, Lib.hid ?_, Lib.hid ?_⟩, by simp [intOf]; omega⟩
      · exact HK05.out.far (by simp; omega) _
      · exact HK15.out.far (by simp) _
      · exact HK25.out.set_ 1 _
      · rw [HTK.out]
        exact ownsRow_setCell_below HO5.out (by simp) _
      · exact HB5.out.setCell (by rw [HGP.out]; simp; omega) _
    · obtain rfl : k = nn := by omega
      have q0 := HK1.out.cell 0
      have q1 := HK1.out.cell 1
      have q2 := HK1.out.frozen 0
      have q3 := HK1.out.frozen 1
      simp at q0 q1
      have HF : Hid (∀ wz, Below w.heap.size w wz → wz.ownsRow (gp + 1 + 1 + 1) 34 4 (.slice A' k c') k ((N.take k).flatMap Nd.cells) → TakenPost v N w (.returned (.agg #[.int .i64 v, .slice A' k c'])) wz) := Lib.hid (fun wz hbz h => by
        rw [List.take_of_length_le (by rw [HNL.out]; exact Nat.le_refl _)] at h
        refine ⟨A', c', by rw [HNL.out], ?_, hbz⟩
        rw [HNL.out]
        exact own_lower h (by rw [HGP.out]; omega))
      have hkz := (HK1.out.set_ 0 (.int .i64 v)).set_ 1 (.slice A' k c')
      have y0 := hkz.cell 0
      have y1 := hkz.cell 1
      simp at y0 y1
      clear hkz
      go_wp2
      refine bodyPost_ret (v := .agg #[.int .i64 v, .slice A' k c']) (by simp [results, Try.results29, go_sem, y0, y1]) rfl (HF.out _ ?_ ?_)
      · exact (HB.out.setCell (by rw [HGP.out]; simp) _).setCell (by rw [HGP.out]; simp) _
      · exact ownsRow_setCell_below (ownsRow_setCell_below HO.out (by simp) _) (by simp) _
end Go.Proofs.Ytikfcpkobgejmaa

/- For every list of numbers and bytes worldmintlaw29.ProofEncoding returns true: what is decoded is encoded as the same bytes. No condition. -/
namespace Go.Proofs.Ytikfcpkobgejmaa
open Go.ChangeShapes Go.WideShapes Go.ChangeAt Go.RowKit Go.ChangeMaps


set_option maxRecDepth 100000 in
set_option maxHeartbeats 8000000 in
theorem ProofEncoding_walk (W : World) (a0 : Int) (ha0 : Hid ((Lit.int .i64 a0).wf = true)) (A1 : Option Addr) (n1 c1 : Nat) (f1 : Nat → Int) (_hA1 : A1 = none → n1 = 0) (_hn1 : n1 ≤ c1) (_hc1 : c1 ≤ 9223372036854775807) (hR1 : Rd W W.heap.size A1 n1 (fun j => .int .i64 (f1 j))) (hw1 : Hid (∀ j, j < n1 → (Lit.int .i64 (f1 j)).wf = true)) (a2 : Int) (ha2 : Hid ((Lit.int .i64 a2).wf = true)) (a3 : Int) (ha3 : Hid ((Lit.int .i64 a3).wf = true)) (a4 : Int) (ha4 : Hid ((Lit.int .i64 a4).wf = true)) (a5 : Int) (ha5 : Hid ((Lit.int .u8 a5).wf = true)) (A6 : Option Addr) (n6 c6 : Nat) (f6 : Nat → Int) (hA6 : A6 = none → n6 = 0) (hn6 : n6 ≤ c6) (hc6 : c6 ≤ 9223372036854775807) (hR6 : Rd W W.heap.size A6 n6 (fun j => .int .u8 (f6 j))) (hw6 : Hid (∀ j, j < n6 → (Lit.int .u8 (f6 j)).wf = true)) :
    Calls Try.prog 9 #[.int .i64 a0, .slice A1 n1 c1, .int .i64 a2, .int .i64 a3, .int .i64 a4, .int .u8 a5, .slice A6 n6 c6] W fun e w' => e = .returned (.bool true) ∧ Below W.heap.size W w' := by
  obtain ⟨p00, p01⟩ := wf_i64 ha0.out
  obtain ⟨p20, p21⟩ := wf_i64 ha2.out
  obtain ⟨p30, p31⟩ := wf_i64 ha3.out
  obtain ⟨p40, p41⟩ := wf_i64 ha4.out
  obtain ⟨p50, p51⟩ := wf_u8 ha5.out
  have HR1 := Lib.hid hR1
  have HR6 := Lib.hid hR6
  have HW1 : Hid (∀ j, j < n1 → -9223372036854775808 ≤ f1 j ∧ f1 j ≤ 9223372036854775807) := Lib.hid (fun j hj => wf_i64 (hw1.out j hj))
  have HW6 := Lib.hid (bytes_wf hw6)
  have HA6 := Lib.hid hA6
  clear hR1 hR6 hw1 hw6 ha0 ha2 ha3 ha4 ha5 hA6
  go_enter Try.func9, Try.ntmps9
  go_wp2_with fail
  refine (lots27_any a0 W p00 p01).mono ?_
  rintro e w1 ⟨k, rfl, hk1, hk8, rfl⟩
  go_wp2_with fail
  refine (bids_any k A1 n1 c1 f1 4 4 (by rfl) W hk1 hk8 (by omega) HR1.out HW1).mono ?_
  rintro e w2 ⟨Aa, ca, La, rfl, hla, hoa, hOa, hva, hb2⟩
  have HBA2 : Hid (Bds w2 (Aa, La.length, ca) La) := Lib.hid (Bds.of_own hoa (fun b hb => (hOa b hb).ok))
  have HVA : Hid (validE (k : Int) La = 0) := Lib.hid (by
    unfold validE
    rw [if_neg (by omega), if_neg (by omega)]
    exact hva)
  have HOK := Lib.hid (BidsOk.of_valid HVA.out HBA2.out)
  have HLS : Hid (∀ b ∈ La, b.s.2.1 ≤ 1000000) := Lib.hid (fun b hb => by have := (HOK.out b hb).2.2.1; omega)
  obtain ⟨m, hm⟩ : ∃ m, La.length = m := ⟨_, rfl⟩
  rw [hm] at HBA2 hla ⊢
  have HB2 := Lib.hid hb2
  clear hoa hOa hva hb2 hm HOK HVA
  go_wp2_with fail
  refine (full_any k Aa m ca a4 La w2 HBA2 (by omega) hk8 HLS).mono ?_
  rintro e w3 ⟨Af, mf, cf, Nf, rfl, hmf0, hmf, hNf, hb3⟩
  have HNF := Lib.hid hNf.ndsT
  have HNI := Lib.hid hNf.fine
  have HNS : Hid (∀ x ∈ Nf, x.s.2.1 ≤ 1000000) := Lib.hid (fun x hx => by have := (hNf.fine x hx).1; omega)
  have HB3 := Lib.hid (bt HB2.out hb3)
  clear hNf hb3 HBA2 HB2 HLS
  go_wp2_with fail
  refine (spoilt29_any a4 Af mf cf Nf a2 a3 a4 w3 HNF (by omega) HNS p20 p21 p30 p31).mono ?_
  rintro e w4 ⟨v, Ap, mp, cp, Np, rfl, hmp, hNp, hb4, hal, hv⟩
  have HVP : Hid (InI v) := Lib.hid (by
    rcases hv with rfl | hv
    · exact ⟨p40, p41⟩
    · exact hv)
  have HIN := Lib.hid (alt_in hal HNI.out ⟨p40, p41⟩ hNp.nds)
  have hmp2 : mp ≤ 2048 := by omega
  have HNm := Lib.hid hNp.rows.len
  dsimp only at HNm
  have HN4 := Lib.hid hNp
  have HB4 := Lib.hid (bt HB3.out hb4)
  obtain ⟨L, hL⟩ : ∃ L, Np.map Nd.p4 = L := ⟨_, rfl⟩
  rw [hL] at HIN
  have HLm : Hid (L.length = mp) := Lib.hid (by rw [← hL, List.length_map, HNm.out])
  have HL := Lib.hid hL
  have HLE := Lib.hid (encP_le HVP.out HIN.out (Nat.le_refl 9) (by rw [HLm.out]; exact hmp2))
  clear hv hal hNp hb4 hmp hL HNF HNI HNS HB3
  go_upto_region 3 with (fail)
  have hb5 : Below w4.heap.size w4 (w4.alloc (.cells #[.int .i64 v, .slice Ap mp cp] 30)) := (Below.refl _ _).alloc (Nat.le_refl _) _
  have hk5 := Blk.new w4 30 #[.int .i64 v, .slice Ap mp cp]
  obtain ⟨w5, hw5⟩ : ∃ w5, w4.alloc (.cells #[.int .i64 v, .slice Ap mp cp] 30) = w5 := ⟨_, rfl⟩
  obtain ⟨gp, hgp⟩ : ∃ g, w4.heap.size = g := ⟨_, rfl⟩
  rw [hw5] at hb5 hk5 ⊢
  rw [hgp] at hk5
  try rw [hgp]
  have HN5 := Lib.hid (HN4.out.all hb5)
  have HB5 := Lib.hid (bt HB4.out hb5)
  have HK5 := Lib.hid hk5
  have q0 := hk5.cell 0
  have q1 := hk5.cell 1
  simp at q0 q1
  clear hw5 hgp hb5 hk5 HN4 HB4
  go_wp2_with fail
  refine (cert_any v Ap mp cp Np w5 (Lib.hid HN5.out.nds) (by omega)).mono ?_
  rintro e w6 ⟨Ac, cc, rfl, hoc, hb6⟩
  rw [HNm.out] at hoc ⊢
  have HC6 : Hid (Nds w6 (Ac, mp, cc) Np) := Lib.hid ⟨Rows.of_own Nd.cells_length hoc (by decide), fun b hb => (HN5.out.nds.ok b hb).all hb6⟩
  have HN6 := Lib.hid (HN5.out.all hb6)
  have HK6 := Lib.hid (HK5.out.all hb6)
  have HB6 := Lib.hid (bt HB5.out hb6)
  clear hoc hb6 q0 q1 HN5 HK5 HB5
  go_wp2_with fail
  have hec := enc_any v Ac mp cc Np w6 HC6 (by omega) HVP.out (Lib.hid (fun x hx => (HIN.out _ (by rw [← HL.out]; exact List.mem_map_of_mem hx)).1)) (Lib.hid (by rw [HL.out]; have := HLE.out; omega))
  rw [HL.out] at hec
  obtain ⟨bs, hbs⟩ : ∃ bs, encP v L = bs := ⟨_, rfl⟩
  rw [hbs] at hec HLE
  have HBS : Hid (bs = encInt v ++ (encInt (mp : Int) ++ L.flatMap encN)) := Lib.hid (by rw [← hbs]; unfold encP; rw [HLm.out])
  have HBE := Lib.hid hbs
  have hpos := encP_pos v L
  rw [hbs] at hpos
  clear hbs
  refine hec.mono ?_
  clear hec
  rintro e w7 ⟨Ab, nb, cb, rfl, hnc, hcm, hlb, hob, hb7⟩
  have HLB := hlb
  have hnb0 : 0 < nb := by rw [← HLB.out]; exact hpos
  have hnb1 : nb ≤ 300000 := by rw [← HLB.out]; exact HLE.out
  have HOB7 := Lib.hid hob
  have HN7 := Lib.hid (HN6.out.all hb7)
  have HK7 := Lib.hid (HK6.out.all hb7)
  have HB7 := Lib.hid (bt HB6.out hb7)
  clear hob hb7 hlb hpos HC6 HN6 HK6 HB6 HLE
  go_wp2_with fail
  refine (dec_any Ab nb cb bs w7 HLB (Lib.hid (rd_bytes HOB7.out).2.2) (by omega)).mono ?_
  have hde : decP bs = some (v, L) := by
    rw [← HBE.out]
    exact decP_enc HVP.out (fun x hx => (HIN.out x hx).1) (by rw [HBE.out, HLB.out]; omega)
  rintro e w8 (⟨v', Nx, Ax, mx, cx, hd, rfl, hNx, hb8⟩ | ⟨hd, -, -⟩)
  rotate_left
  · rw [hde] at hd
    cases hd
  rw [hde] at hd
  injection hd with hd
  simp only [Prod.mk.injEq] at hd
  obtain ⟨rfl, hd2⟩ := hd
  have HLX : Hid (Nx.map Nd.p4 = L) := Lib.hid hd2.symm
  have HNXm : Hid (Nx.length = mp) := Lib.hid (by rw [← HLm.out, ← HLX.out, List.length_map])
  obtain rfl : mp = mx := by rw [← HNXm.out]; exact hNx.rows.len
  have HNX8 := Lib.hid hNx
  have HN8 := Lib.hid (HN7.out.all hb8)
  have HK8 := Lib.hid (HK7.out.all hb8)
  have HB8 := Lib.hid (bt HB7.out hb8)
  have HOB8 := Lib.hid (own_keep HOB7.out (hb8))
  clear hd2 hde hNx hb8 HN7 HK7 HB7
--@1
  go_upto_region 5 with (fail)
  have hb9 : Below w8.heap.size w8 (w8.alloc (.cells #[.int .i64 v, .slice Ax mp cx] 44)) := (Below.refl _ _).alloc (Nat.le_refl _) _
  have hk9 := Blk.new w8 44 #[.int .i64 v, .slice Ax mp cx]
  obtain ⟨w9, hw9⟩ : ∃ w9, w8.alloc (.cells #[.int .i64 v, .slice Ax mp cx] 44) = w9 := ⟨_, rfl⟩
  obtain ⟨gx, hgx⟩ : ∃ g, w8.heap.size = g := ⟨_, rfl⟩
  rw [hw9] at hb9 hk9 ⊢
  rw [hgx] at hk9
  try rw [hgx]
  have HNX9 := Lib.hid (HNX8.out.all hb9)
  have HN9 := Lib.hid (HN8.out.all hb9)
  have HKP9 := Lib.hid (HK8.out.all hb9)
  have HKX9 := Lib.hid hk9
  have HB9 := Lib.hid (bt HB8.out hb9)
  have HOB9 := Lib.hid (own_keep HOB8.out hb9)
  clear hw9 hgx hb9 hk9 HNX8 HN8 HK8 HB8 HOB8 HOB7
  go_wp2_with fail
  refine (read_any Ab nb cb bs w9 HLB (rd_bytes HOB9.out).2.2 (by omega)).mono ?_
  rintro e w8 ⟨gd, rfl, hgd, hr8, hb8, -⟩
  obtain ⟨B, hB⟩ : ∃ B, w8.heap.size = B := ⟨_, rfl⟩
  rw [hB] at hr8
  have HR : Hid (RdrS w8 B gd (0, bs)) := Lib.hid hr8
  have HNX := Lib.hid (HNX9.out.all hb8)
  have HN := Lib.hid (HN9.out.all hb8)
  have HKP := Lib.hid (HKP9.out.all hb8)
  have HKX := Lib.hid (HKX9.out.all hb8)
  have HB := Lib.hid (bt HB9.out hb8)
  have HOB := Lib.hid (own_keep HOB9.out hb8)
  have hxd : gx ≠ gd := by have := HKX9.out.lt; omega
  have hpd : gp ≠ gd := by have := HKP9.out.lt; omega
  have HGD : Hid (W.heap.size ≤ gd) := Lib.hid (by have := HB9.out.size; omega)
  have hnbb : ((nb : Int) == 0) = false := by simp; omega
  clear hgd hr8 hb8 hB HNX9 HN9 HKP9 HKX9 HB9 HOB9
  go_wp2
  have hS10 : Below w8.heap.size w8 w8.drew := below_drewN (Below.refl _ _) 1
--@2
  refine wp_region_held_drew (S := (fun w' => w'.cell? ⟨gx, 0, none⟩ = some (.int .i64 v) ∧ w'.cell? ⟨gx, 1, none⟩ = some (.slice Ax mp cx) ∧ w'.cell? ⟨gp, 0, none⟩ = some (.int .i64 v) ∧ w'.cell? ⟨gp, 1, none⟩ = some (.slice Ap mp cp))) (by kernel_rfl) ⟨(HKX.out.all hS10).cell 0, (HKX.out.all hS10).cell 1, (HKP.out.all hS10).cell 0, (HKP.out.all hS10).cell 1⟩ (fun hHeld => ?_)
  refine takeH 0 (some 50) (v := ?_) (by rfl) (by rfl) (by kernel_rfl) (by kernel_rfl) (by kernel_rfl) (fun _ _ _ h => h) ?_ (by assumption) ?_
  rotate_left
  · (intro o ho w hSw; obtain ⟨z0, z1, z2, z3⟩ := hSw; cases ho; go_simp; try with_reducible rfl)
  try simp only [Act.put, List.setIfInBounds_toArray, List.set_cons_zero, List.set_cons_succ]
  refine takeH 1 (some 51) (v := .bool false) (by rfl) (by rfl) (by kernel_rfl) (by kernel_rfl) (by kernel_rfl) (fun _ _ _ h => h) ?_ (by assumption) ?_
  skip
  · (intro o ho w hSw; obtain ⟨z0, z1, z2, z3⟩ := hSw; cases ho; go_simp; try with_reducible rfl)
  try simp only [Act.put, List.setIfInBounds_toArray, List.set_cons_zero, List.set_cons_succ]
  refine takeH 2 (some 52) (v := ?_) (by rfl) (by rfl) (by kernel_rfl) (by kernel_rfl) (by kernel_rfl) (fun _ _ _ h => h) ?_ (by assumption) ?_
  rotate_left
  · (intro o ho w hSw; obtain ⟨z0, z1, z2, z3⟩ := hSw; cases ho; go_simp; try with_reducible rfl)
  try simp only [Act.put, List.setIfInBounds_toArray, List.set_cons_zero, List.set_cons_succ]
  first
  | refine skipH 3 (some 53) (by rfl) (by rfl) (by kernel_rfl) (by kernel_rfl) (by kernel_rfl) (fun _ _ _ h => h) (by assumption) ?_
  | refine takeH 3 (some 53) (v := ?_) (by rfl) (by rfl) (by kernel_rfl) (by kernel_rfl) (by kernel_rfl) (fun _ _ _ h => h) ?_ (by assumption) ?_
    rotate_left
    · (intro o ho w hSw; obtain ⟨z0, z1, z2, z3⟩ := hSw; cases ho; go_simp; try with_reducible rfl)
  try simp only [Act.put, List.setIfInBounds_toArray, List.set_cons_zero, List.set_cons_succ]
  first
  | refine skipH 5 (some 55) (by rfl) (by rfl) (by kernel_rfl) (by kernel_rfl) (by kernel_rfl) (fun _ _ _ h => h) (by assumption) ?_
  | refine takeH 5 (some 55) (v := ?_) (by rfl) (by rfl) (by kernel_rfl) (by kernel_rfl) (by kernel_rfl) (fun _ _ _ h => h) ?_ (by assumption) ?_
    rotate_left
    · (intro o ho w hSw; obtain ⟨z0, z1, z2, z3⟩ := hSw; cases ho; go_simp; try with_reducible rfl)
  try simp only [Act.put, List.setIfInBounds_toArray, List.set_cons_zero, List.set_cons_succ]
  refine wpAnyH_ready (rs := [4]) (by kernel_rfl) (by simp) ?_
  refine AllReadyH.cons rfl (fun K hK => ?_) AllReadyH.nil
  go_simp
  go_at_call 29
  (refine (taken_any v Ax mp cx Nx _ (Lib.hid (HNX.out.all hS10)) (by omega)).mono ?_)
  rintro e w11 ⟨At, ct, rfl, hot, hb11⟩
  have hS11 := bt hS10 hb11
  rw [HNXm.out] at hot ⊢
  have HNT : Hid (Nds w11 (At, mp, ct) Nx) := Lib.hid ⟨Rows.of_own Nd.cells_length hot (by decide), fun b hb => (HNX.out.ok b hb).all hS11⟩
  clear hot hb11
  go_wp2
  refine hK.out _ _ ?_ (fun hh4 => ?_)
  · exact ⟨(HKX.out.all hS11).cell 0, (HKX.out.all hS11).cell 1, (HKP.out.all hS11).cell 0, (HKP.out.all hS11).cell 1⟩
  clear hK K
  try simp only [Act.put, List.setIfInBounds_toArray, List.set_cons_zero, List.set_cons_succ]
  refine wpAnyH_ready (rs := [6]) (by kernel_rfl) (by simp) ?_
  refine AllReadyH.cons rfl (fun K hK => ?_) AllReadyH.nil
  go_simp
  go_at_call 38
  (refine (same29_true v At Ap mp ct mp cp Nx Np _ HNT (Lib.hid (HN.out.nds.all hS11)) (Lib.hid (HLX.out.trans HL.out.symm)) (by omega)).mono ?_)
  rintro e w12 ⟨rfl, hb12⟩
  have hS12 := bt hS11 hb12
  have HR12 : Hid (RdrS w12 B gd (0, encInt v ++ (encInt (mp : Int) ++ L.flatMap encN))) := Lib.hid (by have h := HR.out.low (Mod.of_below (fun _ => False) hS12) (fun _ hf => hf.elim); rw [HBS.out] at h; exact h)
  clear hb12
  go_wp2
  refine hK.out _ _ ?_ (fun hh6 => ?_)
  · exact ⟨(HKX.out.all hS12).cell 0, (HKX.out.all hS12).cell 1, (HKP.out.all hS12).cell 0, (HKP.out.all hS12).cell 1⟩
  clear hK K
  try simp only [Act.put, List.setIfInBounds_toArray, List.set_cons_zero, List.set_cons_succ]
  first
  | refine skipH 7 (some 57) (by rfl) (by rfl) (by kernel_rfl) (by kernel_rfl) (by kernel_rfl) (fun _ _ _ h => h) (by assumption) ?_
  | refine takeH 7 (some 57) (v := .bool false) (by rfl) (by rfl) (by kernel_rfl) (by kernel_rfl) (by kernel_rfl) (fun _ _ _ h => h) ?_ (by assumption) ?_
    skip
    · (intro o ho w hSw; obtain ⟨z0, z1, z2, z3⟩ := hSw; cases ho; go_simp; try with_reducible rfl)
  try simp only [Act.put, List.setIfInBounds_toArray, List.set_cons_zero, List.set_cons_succ]
  refine takeH 8 (some 58) (v := .bool false) (by rfl) (by rfl) (by kernel_rfl) (by kernel_rfl) (by kernel_rfl) (fun _ _ _ h => h) ?_ (by assumption) ?_
  skip
  · (intro o ho w hSw; obtain ⟨z0, z1, z2, z3⟩ := hSw; cases ho; go_simp; try with_reducible rfl)
  try simp only [Act.put, List.setIfInBounds_toArray, List.set_cons_zero, List.set_cons_succ]
  refine takeH 9 (some 59) (v := ?_) (by rfl) (by rfl) (by kernel_rfl) (by kernel_rfl) (by kernel_rfl) (fun _ _ _ h => h) ?_ (by assumption) ?_
  rotate_left
  · (intro o ho w hSw; obtain ⟨z0, z1, z2, z3⟩ := hSw; cases ho; go_simp; try with_reducible rfl)
  try simp only [Act.put, List.setIfInBounds_toArray, List.set_cons_zero, List.set_cons_succ]
  first
  | refine skipH 10 (some 60) (by rfl) (by rfl) (by kernel_rfl) (by kernel_rfl) (by kernel_rfl) (fun _ _ _ h => h) (by assumption) ?_
  | refine takeH 10 (some 60) (v := ?_) (by rfl) (by rfl) (by kernel_rfl) (by kernel_rfl) (by kernel_rfl) (fun _ _ _ h => h) ?_ (by assumption) ?_
    rotate_left
    · (intro o ho w hSw; obtain ⟨z0, z1, z2, z3⟩ := hSw; cases ho; go_simp; try with_reducible rfl)
  try simp only [Act.put, List.setIfInBounds_toArray, List.set_cons_zero, List.set_cons_succ]
  first
  | refine skipH 11 (some 61) (by rfl) (by rfl) (by kernel_rfl) (by kernel_rfl) (by kernel_rfl) (fun _ _ _ h => h) (by assumption) ?_
  | refine takeH 11 (some 61) (v := ?_) (by rfl) (by rfl) (by kernel_rfl) (by kernel_rfl) (by kernel_rfl) (fun _ _ _ h => h) ?_ (by assumption) ?_
    rotate_left
    · (intro o ho w hSw; obtain ⟨z0, z1, z2, z3⟩ := hSw; cases ho; go_simp; try with_reducible rfl)
  try simp only [Act.put, List.setIfInBounds_toArray, List.set_cons_zero, List.set_cons_succ]
  first
  | refine skipH 12 (some 62) (by rfl) (by rfl) (by kernel_rfl) (by kernel_rfl) (by kernel_rfl) (fun _ _ _ h => h) (by assumption) ?_
  | refine takeH 12 (some 62) (v := .bool false) (by rfl) (by rfl) (by kernel_rfl) (by kernel_rfl) (by kernel_rfl) (fun _ _ _ h => h) ?_ (by assumption) ?_
    skip
    · (intro o ho w hSw; obtain ⟨z0, z1, z2, z3⟩ := hSw; cases ho; go_simp; try with_reducible rfl)
  try simp only [Act.put, List.setIfInBounds_toArray, List.set_cons_zero, List.set_cons_succ]
  refine takeH 13 (some 63) (v := .bool false) (by rfl) (by rfl) (by kernel_rfl) (by kernel_rfl) (by kernel_rfl) (fun _ _ _ h => h) ?_ (by assumption) ?_
  skip
  · (intro o ho w hSw; obtain ⟨z0, z1, z2, z3⟩ := hSw; cases ho; go_simp; try with_reducible rfl)
  try simp only [Act.put, List.setIfInBounds_toArray, List.set_cons_zero, List.set_cons_succ]
  refine takeH 14 (some 64) (v := ?_) (by rfl) (by rfl) (by kernel_rfl) (by kernel_rfl) (by kernel_rfl) (fun _ _ _ h => h) ?_ (by assumption) ?_
  rotate_left
  · (intro o ho w hSw; obtain ⟨z0, z1, z2, z3⟩ := hSw; cases ho; go_simp; try with_reducible rfl)
  try simp only [Act.put, List.setIfInBounds_toArray, List.set_cons_zero, List.set_cons_succ]
  first
  | refine skipH 15 (some 65) (by rfl) (by rfl) (by kernel_rfl) (by kernel_rfl) (by kernel_rfl) (fun _ _ _ h => h) (by assumption) ?_
  | refine takeH 15 (some 65) (v := ?_) (by rfl) (by rfl) (by kernel_rfl) (by kernel_rfl) (by kernel_rfl) (fun _ _ _ h => h) ?_ (by assumption) ?_
    rotate_left
    · (intro o ho w hSw; obtain ⟨z0, z1, z2, z3⟩ := hSw; cases ho; go_simp; try with_reducible rfl)
  try simp only [Act.put, List.setIfInBounds_toArray, List.set_cons_zero, List.set_cons_succ]
  first
  | refine skipH 16 (some 66) (by rfl) (by rfl) (by kernel_rfl) (by kernel_rfl) (by kernel_rfl) (fun _ _ _ h => h) (by assumption) ?_
  | refine takeH 16 (some 66) (v := .bool false) (by rfl) (by rfl) (by kernel_rfl) (by kernel_rfl) (by kernel_rfl) (fun _ _ _ h => h) ?_ (by assumption) ?_
    skip
    · (intro o ho w hSw; obtain ⟨z0, z1, z2, z3⟩ := hSw; cases ho; go_simp; try with_reducible rfl)
  try simp only [Act.put, List.setIfInBounds_toArray, List.set_cons_zero, List.set_cons_succ]
  refine takeH 17 (some 67) (v := .bool false) (by rfl) (by rfl) (by kernel_rfl) (by kernel_rfl) (by kernel_rfl) (fun _ _ _ h => h) ?_ (by assumption) ?_
  skip
  · (intro o ho w hSw; obtain ⟨z0, z1, z2, z3⟩ := hSw; cases ho; go_simp; try with_reducible rfl)
  try simp only [Act.put, List.setIfInBounds_toArray, List.set_cons_zero, List.set_cons_succ]
  refine takeH 18 (some 68) (v := ?_) (by rfl) (by rfl) (by kernel_rfl) (by kernel_rfl) (by kernel_rfl) (fun _ _ _ h => h) ?_ (by assumption) ?_
  rotate_left
  · (intro o ho w hSw; obtain ⟨z0, z1, z2, z3⟩ := hSw; cases ho; go_simp; try with_reducible rfl)
  try simp only [Act.put, List.setIfInBounds_toArray, List.set_cons_zero, List.set_cons_succ]
  first
  | refine skipH 19 (some 69) (by rfl) (by rfl) (by kernel_rfl) (by kernel_rfl) (by kernel_rfl) (fun _ _ _ h => h) (by assumption) ?_
  | refine takeH 19 (some 69) (v := ?_) (by rfl) (by rfl) (by kernel_rfl) (by kernel_rfl) (by kernel_rfl) (fun _ _ _ h => h) ?_ (by assumption) ?_
    rotate_left
    · (intro o ho w hSw; obtain ⟨z0, z1, z2, z3⟩ := hSw; cases ho; go_simp; try with_reducible rfl)
  try simp only [Act.put, List.setIfInBounds_toArray, List.set_cons_zero, List.set_cons_succ]
  first
  | refine skipH 21 (some 71) (by rfl) (by rfl) (by kernel_rfl) (by kernel_rfl) (by kernel_rfl) (fun _ _ _ h => h) (by assumption) ?_
  | refine takeH 21 (some 71) (v := ?_) (by rfl) (by rfl) (by kernel_rfl) (by kernel_rfl) (by kernel_rfl) (fun _ _ _ h => h) ?_ (by assumption) ?_
    rotate_left
    · (intro o ho w hSw; obtain ⟨z0, z1, z2, z3⟩ := hSw; cases ho; go_simp; try with_reducible rfl)
  try simp only [Act.put, List.setIfInBounds_toArray, List.set_cons_zero, List.set_cons_succ]
  first
  | refine skipH 22 (some 72) (by rfl) (by rfl) (by kernel_rfl) (by kernel_rfl) (by kernel_rfl) (fun _ _ _ h => h) (by assumption) ?_
  | refine takeH 22 (some 72) (v := ?_) (by rfl) (by rfl) (by kernel_rfl) (by kernel_rfl) (by kernel_rfl) (fun _ _ _ h => h) ?_ (by assumption) ?_
    rotate_left
    · (intro o ho w hSw; obtain ⟨z0, z1, z2, z3⟩ := hSw; cases ho; go_simp; try with_reducible rfl)
  try simp only [Act.put, List.setIfInBounds_toArray, List.set_cons_zero, List.set_cons_succ]
  refine wpAnyH_ready (rs := [20]) (by kernel_rfl) (by simp) ?_
  refine AllReadyH.cons rfl (fun K hK => ?_) AllReadyH.nil
  go_simp
  go_at_call 39
  (refine (rintE_any B gd v _ _ HR12 HVP.out).mono ?_)
  rintro e w13 ⟨rfl, hr13, hg13⟩
  have HR13 := Lib.hid hr13
  have HM13 : Hid (Mod (fun b => b = gd) w8 w13) := Lib.hid ((Mod.of_below (fun b => b = gd) hS12).then_grown hg13 (fun g e => by injection e with e; exact .inl e.symm))
  clear hr13 hg13
  go_wp2
  refine hK.out _ _ ?_ (fun hh20 => ?_)
  · exact ⟨(HM13.out.blk HKX.out hxd).cell 0, (HM13.out.blk HKX.out hxd).cell 1, (HM13.out.blk HKP.out hpd).cell 0, (HM13.out.blk HKP.out hpd).cell 1⟩
  clear hK K
  try simp only [Act.put, List.setIfInBounds_toArray, List.set_cons_zero, List.set_cons_succ]
  first
  | refine skipH 23 (some 73) (by rfl) (by rfl) (by kernel_rfl) (by kernel_rfl) (by kernel_rfl) (fun _ _ _ h => h) (by assumption) ?_
  | refine takeH 23 (some 73) (v := .bool false) (by rfl) (by rfl) (by kernel_rfl) (by kernel_rfl) (by kernel_rfl) (fun _ _ _ h => h) ?_ (by assumption) ?_
    skip
    · (intro o ho w hSw; obtain ⟨z0, z1, z2, z3⟩ := hSw; cases ho; go_simp; try with_reducible rfl)
  try simp only [Act.put, List.setIfInBounds_toArray, List.set_cons_zero, List.set_cons_succ]
  refine takeH 24 (some 74) (v := .bool false) (by rfl) (by rfl) (by kernel_rfl) (by kernel_rfl) (by kernel_rfl) (fun _ _ _ h => h) ?_ (by assumption) ?_
  skip
  · (intro o ho w hSw; obtain ⟨z0, z1, z2, z3⟩ := hSw; cases ho; go_simp; try with_reducible rfl)
  try simp only [Act.put, List.setIfInBounds_toArray, List.set_cons_zero, List.set_cons_succ]
  refine takeH 25 (some 75) (v := ?_) (by rfl) (by rfl) (by kernel_rfl) (by kernel_rfl) (by kernel_rfl) (fun _ _ _ h => h) ?_ (by assumption) ?_
  rotate_left
  · (intro o ho w hSw; obtain ⟨z0, z1, z2, z3⟩ := hSw; cases ho; go_simp; try with_reducible rfl)
  try simp only [Act.put, List.setIfInBounds_toArray, List.set_cons_zero, List.set_cons_succ]
  first
  | refine skipH 26 (some 76) (by rfl) (by rfl) (by kernel_rfl) (by kernel_rfl) (by kernel_rfl) (fun _ _ _ h => h) (by assumption) ?_
  | refine takeH 26 (some 76) (v := ?_) (by rfl) (by rfl) (by kernel_rfl) (by kernel_rfl) (by kernel_rfl) (fun _ _ _ h => h) ?_ (by assumption) ?_
    rotate_left
    · (intro o ho w hSw; obtain ⟨z0, z1, z2, z3⟩ := hSw; cases ho; go_simp; try with_reducible rfl)
  try simp only [Act.put, List.setIfInBounds_toArray, List.set_cons_zero, List.set_cons_succ]
  first
  | refine skipH 28 (some 78) (by rfl) (by rfl) (by kernel_rfl) (by kernel_rfl) (by kernel_rfl) (fun _ _ _ h => h) (by assumption) ?_
  | refine takeH 28 (some 78) (v := ?_) (by rfl) (by rfl) (by kernel_rfl) (by kernel_rfl) (by kernel_rfl) (fun _ _ _ h => h) ?_ (by assumption) ?_
    rotate_left
    · (intro o ho w hSw; obtain ⟨z0, z1, z2, z3⟩ := hSw; cases ho; go_simp; try with_reducible rfl)
  try simp only [Act.put, List.setIfInBounds_toArray, List.set_cons_zero, List.set_cons_succ]
  first
  | refine skipH 29 (some 79) (by rfl) (by rfl) (by kernel_rfl) (by kernel_rfl) (by kernel_rfl) (fun _ _ _ h => h) (by assumption) ?_
  | refine takeH 29 (some 79) (v := ?_) (by rfl) (by rfl) (by kernel_rfl) (by kernel_rfl) (by kernel_rfl) (fun _ _ _ h => h) ?_ (by assumption) ?_
    rotate_left
    · (intro o ho w hSw; obtain ⟨z0, z1, z2, z3⟩ := hSw; cases ho; go_simp; try with_reducible rfl)
  try simp only [Act.put, List.setIfInBounds_toArray, List.set_cons_zero, List.set_cons_succ]
  first
  | refine skipH 30 (some 80) (by rfl) (by rfl) (by kernel_rfl) (by kernel_rfl) (by kernel_rfl) (fun _ _ _ h => h) (by assumption) ?_
  | refine takeH 30 (some 80) (v := ?_) (by rfl) (by rfl) (by kernel_rfl) (by kernel_rfl) (by kernel_rfl) (fun _ _ _ h => h) ?_ (by assumption) ?_
    rotate_left
    · (intro o ho w hSw; obtain ⟨z0, z1, z2, z3⟩ := hSw; cases ho; go_simp; try with_reducible rfl)
  try simp only [Act.put, List.setIfInBounds_toArray, List.set_cons_zero, List.set_cons_succ]
  refine wpAnyH_ready (rs := [27]) (by kernel_rfl) (by simp) ?_
  refine AllReadyH.cons rfl (fun K hK => ?_) AllReadyH.nil
  go_simp
  go_at_call 39
  (refine (rintE_any B gd (mp : Int) _ _ HR13 (by constructor <;> omega)).mono ?_)
  rintro e w14 ⟨rfl, hr14, hg14⟩
  have HR14 := Lib.hid hr14
  have HM14 : Hid (Mod (fun b => b = gd) w8 w14) := Lib.hid (HM13.out.then_grown hg14 (fun g e => by injection e with e; exact .inl e.symm))
  clear hr14 hg14
  go_wp2
  refine hK.out _ _ ?_ (fun hh27 => ?_)
  · exact ⟨(HM14.out.blk HKX.out hxd).cell 0, (HM14.out.blk HKX.out hxd).cell 1, (HM14.out.blk HKP.out hpd).cell 0, (HM14.out.blk HKP.out hpd).cell 1⟩
  clear hK K
  try simp only [Act.put, List.setIfInBounds_toArray, List.set_cons_zero, List.set_cons_succ]
  first
  | refine skipH 31 (some 81) (by rfl) (by rfl) (by kernel_rfl) (by kernel_rfl) (by kernel_rfl) (fun _ _ _ h => h) (by assumption) ?_
  | refine takeH 31 (some 81) (v := .bool false) (by rfl) (by rfl) (by kernel_rfl) (by kernel_rfl) (by kernel_rfl) (fun _ _ _ h => h) ?_ (by assumption) ?_
    skip
    · (intro o ho w hSw; obtain ⟨z0, z1, z2, z3⟩ := hSw; cases ho; go_simp; try with_reducible rfl)
  try simp only [Act.put, List.setIfInBounds_toArray, List.set_cons_zero, List.set_cons_succ]
  refine takeH 32 (some 82) (v := .bool false) (by rfl) (by rfl) (by kernel_rfl) (by kernel_rfl) (by kernel_rfl) (fun _ _ _ h => h) ?_ (by assumption) ?_
  skip
  · (intro o ho w hSw; obtain ⟨z0, z1, z2, z3⟩ := hSw; cases ho; go_simp; try with_reducible rfl)
  try simp only [Act.put, List.setIfInBounds_toArray, List.set_cons_zero, List.set_cons_succ]
  refine wpAnyH_done (by kernel_rfl) ?_ _
--@3
  have HRT := Lib.hid HR.out.ty
  clear hh4 hh6 hh20 hh27 hHeld hS10 hS11 hS12 HR HR12 HR13 HM13 HNX HKX HLX HNXm HNT hxd hnbb
  go_wp2
--@4
  go_loopw [21] (fun iv wr => ∃ i : Nat, i ≤ mp ∧ iv = .int .i64 (i : Int) ∧ Hid (RdrS wr B gd (0, (L.drop i).flatMap encN)) ∧ Hid (Mod (fun b => b = gd) w8 wr)) (fun iv _ => mp - (intOf iv).toNat)
  case atStart => exact ⟨0, by omega, rfl, Lib.hid (by rw [List.drop_zero]; exact HR14.out), HM14⟩
  case round =>
    clear HR14 HM14
    obtain ⟨i, hi, rfl, HRi, HMi⟩ := hrel
    have HKi := Lib.hid (HMi.out.blk HKP.out hpd)
    have q1 := HKi.out.cell 1
    simp at q1
    by_cases him : i < mp
    rotate_left
    · obtain rfl : i = mp := by omega
--@5
      have HR60 : Hid (RdrS wr B gd (0, [])) := Lib.hid (by
        have h := HRi.out
        rw [List.drop_of_length_le (by rw [HLm.out]; exact Nat.le_refl _)] at h
        exact h)
      have HBr : Hid (Below W.heap.size W wr) := Lib.hid (Mod.below HB.out HMi.out HB.out.size (fun b hb => by rw [hb]; exact HGD.out))
      have HBT : Hid (Bts wr Ab nb cb bs) := Lib.hid ((Bts.of_own HOB.out).1.mod HMi.out (fun b hb => by rw [hb]; exact HRT.out.not (by decide)))
      obtain ⟨b5, rfl⟩ : ∃ b : UInt8, a5 = ((b.toNat : Nat) : Int) := ⟨UInt8.ofNat a5.toNat, by simp; omega⟩
      clear HRi HMi HKi HOB HB HN
      go_wp2_with fail
      refine (rendE_any B gd wr HR60).mono ?_
      rintro e w31 ⟨rfl, rfl⟩
      clear HR60 q1
      go_wp2_with fail
      refine (around_nat a2 nb nb wr (by rfl) p20 p21 hnb0 (by omega)).mono ?_
      rintro e w31 ⟨r, rfl, hr, -, rfl⟩
      obtain ⟨A40, c40, w40, HA40, hnc40, hcm40, hown40, hr40, hb40⟩ := copyP_run wr Ab nb cb bs HBT.out.1 HBT.out.rd (by omega)
      obtain ⟨g40, rfl, hg40, hgl40⟩ := own_some hown40 hnb0
      obtain ⟨hc40, hf40⟩ := own_byte hown40 hr
      have hown41 := own_byte_set hown40 r b5
      have hb41 := hb40.setCell (p := ⟨g40, r, none⟩) hg40 (.int .u8 ((b5.toNat : Nat) : Int))
      have HXT : Hid ((bs.set r b5).length = nb) := Lib.hid (by rw [List.length_set]; exact HLB.out)
      have HH := Lib.hid (And.intro hown41 hb41)
      clear hown40 hr40 hb40 hown41 hb41 hnc40 hcm40
      go_wp2_with (at_builtin; refine wpList_append_run HA40.out rfl rfl rfl rfl ?_)
      obtain ⟨hownT, hb41⟩ := HH.out
      obtain ⟨wz, hwz⟩ : ∃ wz, w40.setCell ⟨g40, r, none⟩ (.int .u8 ((b5.toNat : Nat) : Int)) = wz := ⟨_, rfl⟩
      rw [hwz] at hownT hb41 ⊢
      have HRT2 := Lib.hid (rd_bytes hownT).2.2
      have HRB := Lib.hid (((HBT.out.rd).all hb41).less (m := r) (by omega))
      have HBz := Lib.hid (bt HBr.out hb41)
      have hS50 : Below wz.heap.size wz wz.drew := below_drewN (Below.refl _ _) 1
      have hrcb : r ≤ cb := by omega
      clear hownT hb41 hwz HA40 HH hc40 hf40 hg40 hgl40 HBr HBT
--@10
      refine wp_region_held_drew (S := (fun _ => True)) (by kernel_rfl) trivial (fun hHeld => ?_)
      refine takeH 0 (some 170) (v := ?_) (by rfl) (by rfl) (by kernel_rfl) (by kernel_rfl) (by kernel_rfl) (fun _ _ _ h => h) ?_ (by assumption) ?_
      rotate_left
      · (intro o ho w hSw; obtain - := hSw; cases ho; go_simp; try with_reducible rfl)
      try simp only [Act.put, List.setIfInBounds_toArray, List.set_cons_zero, List.set_cons_succ]
      refine takeH 1 (some 171) (v := ?_) (by rfl) (by rfl) (by kernel_rfl) (by kernel_rfl) (by kernel_rfl) (fun _ _ _ h => h) ?_ (by assumption) ?_
      rotate_left
      · (intro o ho w hSw; obtain - := hSw; cases ho; go_simp; try with_reducible rfl)
      try simp only [Act.put, List.setIfInBounds_toArray, List.set_cons_zero, List.set_cons_succ]
      refine takeH 2 (some 172) (v := ?_) (by rfl) (by rfl) (by kernel_rfl) (by kernel_rfl) (by kernel_rfl) (fun _ _ _ h => h) ?_ (by assumption) ?_
      rotate_left
      · (intro o ho w hSw; obtain - := hSw; cases ho; go_simp; try with_reducible rfl)
      try simp only [Act.put, List.setIfInBounds_toArray, List.set_cons_zero, List.set_cons_succ]
      refine takeH 3 (some 173) (v := .slice Ab r cb) (by rfl) (by rfl) (by kernel_rfl) (by kernel_rfl) (by kernel_rfl) (fun _ _ _ h => h) ?_ (by assumption) ?_
      skip
      · (intro o ho w hSw; obtain - := hSw; cases ho; go_simp; try with_reducible rfl)
      try simp only [Act.put, List.setIfInBounds_toArray, List.set_cons_zero, List.set_cons_succ]
      refine takeH 4 (some 174) (v := ?_) (by rfl) (by rfl) (by kernel_rfl) (by kernel_rfl) (by kernel_rfl) (fun _ _ _ h => h) ?_ (by assumption) ?_
      rotate_left
      · (intro o ho w hSw; obtain - := hSw; cases ho; go_simp; try with_reducible rfl)
      try simp only [Act.put, List.setIfInBounds_toArray, List.set_cons_zero, List.set_cons_succ]
      refine wpAnyH_ready (rs := [5]) (by kernel_rfl) (by simp) ?_
      refine AllReadyH.cons rfl (fun K hK => ?_) AllReadyH.nil
      go_simp
      go_at_call 41
      (refine (few_list A6 n6 c6 40 40 (by rfl) f6 _ HA6.out (HR6.out.all (bt HBz.out hS50)) hn6 hc6 (by omega) HW6.out).mono ?_)
      rintro e w51 ⟨A50, c50, k50, fb, rfl, hk1, hk2, hk3, -, hx50, -, -, hR50, hb50⟩
      have hS51 := bt hS50 hb50
      have HR50 := Lib.hid hR50
      clear hR50 hb50
      go_wp2
      refine hK.out _ _ ?_ (fun hh5 => ?_)
      · exact trivial
      clear hK K
      try simp only [Act.put, List.setIfInBounds_toArray, List.set_cons_zero, List.set_cons_succ]
      refine wpAnyH_ready (rs := [6]) (by kernel_rfl) (by simp) ?_
      refine AllReadyH.cons rfl (fun K hK => ?_) AllReadyH.nil
      go_wp2
      refine hK.out _ _ ?_ (fun hh6 => ?_)
      · exact trivial
      clear hK K
      try simp only [Act.put, List.setIfInBounds_toArray]
      refine takeH 7 (some 24) (v := ?_) (by rfl) (by rfl) (by kernel_rfl) (by kernel_rfl) (by kernel_rfl) (fun _ _ _ h => h) ?_ (by assumption) ?_
      rotate_left
      · (intro o ho w hSw; obtain - := hSw; cases ho; go_simp; try with_reducible rfl)
      (try simp only [Act.put]); (try simp only [List.setIfInBounds_toArray]); (try simp only [List.set_cons_succ]); (try simp only [List.set_cons_zero])
      refine wpAnyH_done (by kernel_rfl) ?_ _
--@11
      have hblk : Below w51.heap.size w51 (w51.alloc (.cells #[.slice (some ⟨g40, 0, none⟩) nb c40, .slice Ab r cb, .slice A50 k50 c50] 72)) := (Below.refl _ _).alloc (Nat.le_refl _) _
      have hkl := Blk.new w51 72 #[.slice (some ⟨g40, 0, none⟩) nb c40, .slice Ab r cb, .slice A50 k50 c50]
      obtain ⟨wl, hwl⟩ : ∃ wl, w51.alloc (.cells #[.slice (some ⟨g40, 0, none⟩) nb c40, .slice Ab r cb, .slice A50 k50 c50] 72) = wl := ⟨_, rfl⟩
      obtain ⟨gl, hgl⟩ : ∃ g, w51.heap.size = g := ⟨_, rfl⟩
      rw [hwl] at hblk hkl ⊢
      rw [hgl] at hkl
      try rw [hgl]
      have hS52 := bt hS51 hblk
      have HBl := Lib.hid (bt HBz.out hS52)
      have HKL := Lib.hid hkl
      have HLS : Hid (∀ j, j < 3 → ∃ A n c bs2, (#[.slice (some ⟨g40, 0, none⟩) nb c40, .slice Ab r cb, .slice A50 k50 c50] : Array Value)[j]? = some (.slice A n c) ∧ Hid (bs2.length = n) ∧ n ≤ 1000000 ∧ Hid (Rd wl wl.heap.size A n (vByte bs2))) := Lib.hid (fun j hj => by
        rcases (show j = 0 ∨ j = 1 ∨ j = 2 by omega) with rfl | rfl | rfl
        · exact ⟨_, _, _, _, rfl, HXT, by omega, Lib.hid (HRT2.out.all hS52)⟩
        · refine ⟨_, _, _, bs.take r, rfl, Lib.hid (by rw [List.length_take, HLB.out]; omega), by omega, Lib.hid ((HRB.out.all hS52).congr (fun j hj => ?_))⟩
          unfold vByte
          rw [List.getElem?_take_of_lt hj]
        · exact ⟨_, _, _, _, rfl, hx50, by omega, Lib.hid (HR50.out.all hblk)⟩)
      clear hS50 hS51 hS52 hblk hkl hwl hgl HRT2 HRB HR50 HBz HXT hh5 hh6 hHeld
      go_wp2
--@12
      go_loopw [25] (fun iv w2 => ∃ i : Nat, i ≤ 3 ∧ iv = .int .i64 (i : Int) ∧ Hid (Below wl.heap.size wl w2)) (fun iv _ => 3 - (intOf iv).toNat)
      case atStart => exact ⟨0, by omega, rfl, Lib.hid (Below.refl _ _)⟩
      case round =>
        obtain ⟨i, hi, rfl, HBw⟩ := hrel
        by_cases hi3 : i < 3
        rotate_left
        · obtain rfl : i = 3 := by omega
          go_wp2_with fail
          refine (lives_any _).mono ?_
          rintro e wz ⟨rfl, hbz⟩
          go_wp2
          go_ret
          exact ⟨rfl, bt (bt HBl.out HBw.out) hbz⟩
        obtain ⟨As, ns, cs, bs2, hce, HX2, hns, hrs⟩ := HLS.out i hi3
        have HCE := Lib.hid hce
        have hcell := (HKL.out.all HBw.out).cell i
        rw [hce] at hcell
        have HRW := Lib.hid (hrs.out.all HBw.out)
        have hii : (i : Int) < 3 := by omega
        clear hce hrs
        go_wp2_with fail
        refine (dec_any As ns cs bs2 wr HX2 HRW hns).mono ?_
--@13
        rintro e w52 (⟨v', Nd', Ad, md, cd, hd, rfl, hNd, hb52⟩ | ⟨hd, rfl, hb52⟩)
        · obtain ⟨hd1, hd2, hd3⟩ := decP_ok hd
          have hml : Nd'.length = md := hNd.rows.len
          have HVD : Hid (encP v' (Nd'.map Nd.p4) = bs2 ∧ InI v' ∧ Hid (∀ x ∈ Nd', x.p4.In) ∧ Hid ((encP v' (Nd'.map Nd.p4)).length ≤ 1000000000000)) := Lib.hid ⟨hd1, hd2, Lib.hid (fun x hx => hd3 _ (List.mem_map_of_mem hx)), Lib.hid (by rw [hd1, HX2.out]; omega)⟩
          have hmd : md ≤ 1000000000000 := by
            have h1 := encP_ge v' (Nd'.map Nd.p4)
            rw [hd1, HX2.out, List.length_map, hml] at h1
            omega
          have HND2 := Lib.hid hNd
          have HRS2 := Lib.hid (HRW.out.all hb52)
          clear hd hd1 hd2 hd3 hml hNd hcell
          go_upto_region 28 with (fail)
          have hb60 : Below w52.heap.size w52 (w52.alloc (.cells #[.int .i64 v', .slice Ad md cd] 44)) := (Below.refl _ _).alloc (Nat.le_refl _) _
          have hk60 := Blk.new w52 44 #[.int .i64 v', .slice Ad md cd]
          obtain ⟨w60, hw60⟩ : ∃ w60, w52.alloc (.cells #[.int .i64 v', .slice Ad md cd] 44) = w60 := ⟨_, rfl⟩
          obtain ⟨gq, hgq⟩ : ∃ g, w52.heap.size = g := ⟨_, rfl⟩
          rw [hw60] at hb60 hk60 ⊢
          rw [hgq] at hk60
          try rw [hgq]
          have hBr60 := bt (bt HBw.out hb52) hb60
          have HBr60 := Lib.hid hBr60
          have HKQ := Lib.hid hk60
          have hS60 : Below w60.heap.size w60 w60.drew := below_drewN (Below.refl _ _) 1
          have HCS : Hid (∀ w', Below w60.heap.size w60 w' → w'.cell? ⟨gl, i, none⟩ = some (.slice As ns cs)) := Lib.hid (fun w' h => by
            have h9 := (HKL.out.all (bt hBr60 h)).cell i
            rw [HCE.out] at h9
            exact h9)
          have HND := Lib.hid (HND2.out.all hb60)
          have HRS := Lib.hid (HRS2.out.all hb60)
          clear hb52 hw60 hgq hb60 hk60 HND2 HRS2 hBr60
--@14
          refine wp_region_held_drew (S := (fun w' => w'.cell? ⟨gq, 0, none⟩ = some (.int .i64 v') ∧ w'.cell? ⟨gq, 1, none⟩ = some (.slice Ad md cd) ∧ w'.cell? ⟨gl, i, none⟩ = some (.slice As ns cs))) (by kernel_rfl) ⟨(HKQ.out.all hS60).cell 0, (HKQ.out.all hS60).cell 1, HCS.out _ hS60⟩ (fun hHeld => ?_)
          refine takeH 0 (some 189) (v := ?_) (by rfl) (by rfl) (by kernel_rfl) (by kernel_rfl) (by kernel_rfl) (fun _ _ _ h => h) ?_ (by assumption) ?_
          rotate_left
          · (intro o ho w hSw; obtain ⟨z0, z1, z2⟩ := hSw; cases ho; go_simp; try with_reducible rfl)
          try simp only [Act.put, List.setIfInBounds_toArray, List.set_cons_zero, List.set_cons_succ]
          refine takeH 1 (some 190) (v := .bool false) (by rfl) (by rfl) (by kernel_rfl) (by kernel_rfl) (by kernel_rfl) (fun _ _ _ h => h) ?_ (by assumption) ?_
          skip
          · (intro o ho w hSw; obtain ⟨z0, z1, z2⟩ := hSw; cases ho; go_simp; try with_reducible rfl)
          try simp only [Act.put, List.setIfInBounds_toArray, List.set_cons_zero, List.set_cons_succ]
          refine takeH 2 (some 191) (v := ?_) (by rfl) (by rfl) (by kernel_rfl) (by kernel_rfl) (by kernel_rfl) (fun _ _ _ h => h) ?_ (by assumption) ?_
          rotate_left
          · (intro o ho w hSw; obtain ⟨z0, z1, z2⟩ := hSw; cases ho; go_simp; try with_reducible rfl)
          try simp only [Act.put, List.setIfInBounds_toArray, List.set_cons_zero, List.set_cons_succ]
          first
          | refine skipH 3 (some 192) (by rfl) (by rfl) (by kernel_rfl) (by kernel_rfl) (by kernel_rfl) (fun _ _ _ h => h) (by assumption) ?_
          | refine takeH 3 (some 192) (v := ?_) (by rfl) (by rfl) (by kernel_rfl) (by kernel_rfl) (by kernel_rfl) (fun _ _ _ h => h) ?_ (by assumption) ?_
            rotate_left
            · (intro o ho w hSw; obtain ⟨z0, z1, z2⟩ := hSw; cases ho; go_simp; try with_reducible rfl)
          try simp only [Act.put, List.setIfInBounds_toArray, List.set_cons_zero, List.set_cons_succ]
          first
          | refine skipH 4 (some 193) (by rfl) (by rfl) (by kernel_rfl) (by kernel_rfl) (by kernel_rfl) (fun _ _ _ h => h) (by assumption) ?_
          | refine takeH 4 (some 193) (v := ?_) (by rfl) (by rfl) (by kernel_rfl) (by kernel_rfl) (by kernel_rfl) (fun _ _ _ h => h) ?_ (by assumption) ?_
            rotate_left
            · (intro o ho w hSw; obtain ⟨z0, z1, z2⟩ := hSw; cases ho; go_simp; try with_reducible rfl)
          try simp only [Act.put, List.setIfInBounds_toArray, List.set_cons_zero, List.set_cons_succ]
          first
          | refine skipH 5 (some 194) (by rfl) (by rfl) (by kernel_rfl) (by kernel_rfl) (by kernel_rfl) (fun _ _ _ h => h) (by assumption) ?_
          | refine takeH 5 (some 194) (v := ?_) (by rfl) (by rfl) (by kernel_rfl) (by kernel_rfl) (by kernel_rfl) (fun _ _ _ h => h) ?_ (by assumption) ?_
            rotate_left
            · (intro o ho w hSw; obtain ⟨z0, z1, z2⟩ := hSw; cases ho; go_simp; try with_reducible rfl)
          try simp only [Act.put, List.setIfInBounds_toArray, List.set_cons_zero, List.set_cons_succ]
          first
          | refine skipH 6 (some 195) (by rfl) (by rfl) (by kernel_rfl) (by kernel_rfl) (by kernel_rfl) (fun _ _ _ h => h) (by assumption) ?_
          | refine takeH 6 (some 195) (v := ?_) (by rfl) (by rfl) (by kernel_rfl) (by kernel_rfl) (by kernel_rfl) (fun _ _ _ h => h) ?_ (by assumption) ?_
            rotate_left
            · (intro o ho w hSw; obtain ⟨z0, z1, z2⟩ := hSw; cases ho; go_simp; try with_reducible rfl)
          try simp only [Act.put, List.setIfInBounds_toArray, List.set_cons_zero, List.set_cons_succ]
          first
          | refine skipH 7 (some 196) (by rfl) (by rfl) (by kernel_rfl) (by kernel_rfl) (by kernel_rfl) (fun _ _ _ h => h) (by assumption) ?_
          | refine takeH 7 (some 196) (v := ?_) (by rfl) (by rfl) (by kernel_rfl) (by kernel_rfl) (by kernel_rfl) (fun _ _ _ h => h) ?_ (by assumption) ?_
            rotate_left
            · (intro o ho w hSw; obtain ⟨z0, z1, z2⟩ := hSw; cases ho; go_simp; try with_reducible rfl)
          try simp only [Act.put, List.setIfInBounds_toArray, List.set_cons_zero, List.set_cons_succ]
          first
          | refine skipH 8 (some 197) (by rfl) (by rfl) (by kernel_rfl) (by kernel_rfl) (by kernel_rfl) (fun _ _ _ h => h) (by assumption) ?_
          | refine takeH 8 (some 197) (v := ?_) (by rfl) (by rfl) (by kernel_rfl) (by kernel_rfl) (by kernel_rfl) (fun _ _ _ h => h) ?_ (by assumption) ?_
            rotate_left
            · (intro o ho w hSw; obtain ⟨z0, z1, z2⟩ := hSw; cases ho; go_simp; try with_reducible rfl)
          try simp only [Act.put, List.setIfInBounds_toArray, List.set_cons_zero, List.set_cons_succ]
          first
          | refine skipH 9 (some 198) (by rfl) (by rfl) (by kernel_rfl) (by kernel_rfl) (by kernel_rfl) (fun _ _ _ h => h) (by assumption) ?_
          | refine takeH 9 (some 198) (v := ?_) (by rfl) (by rfl) (by kernel_rfl) (by kernel_rfl) (by kernel_rfl) (fun _ _ _ h => h) ?_ (by assumption) ?_
            rotate_left
            · (intro o ho w hSw; obtain ⟨z0, z1, z2⟩ := hSw; cases ho; go_simp; try with_reducible rfl)
          try simp only [Act.put, List.setIfInBounds_toArray, List.set_cons_zero, List.set_cons_succ]
          first
          | refine skipH 10 (some 199) (by rfl) (by rfl) (by kernel_rfl) (by kernel_rfl) (by kernel_rfl) (fun _ _ _ h => h) (by assumption) ?_
          | refine takeH 10 (some 199) (v := ?_) (by rfl) (by rfl) (by kernel_rfl) (by kernel_rfl) (by kernel_rfl) (fun _ _ _ h => h) ?_ (by assumption) ?_
            rotate_left
            · (intro o ho w hSw; obtain ⟨z0, z1, z2⟩ := hSw; cases ho; go_simp; try with_reducible rfl)
          try simp only [Act.put, List.setIfInBounds_toArray, List.set_cons_zero, List.set_cons_succ]
          refine takeH 11 (some 200) (v := .bool false) (by rfl) (by rfl) (by kernel_rfl) (by kernel_rfl) (by kernel_rfl) (fun _ _ _ h => h) ?_ (by assumption) ?_
          skip
          · (intro o ho w hSw; obtain ⟨z0, z1, z2⟩ := hSw; cases ho; go_simp; try with_reducible rfl)
          try simp only [Act.put, List.setIfInBounds_toArray, List.set_cons_zero, List.set_cons_succ]
          refine takeH 12 (some 201) (v := ?_) (by rfl) (by rfl) (by kernel_rfl) (by kernel_rfl) (by kernel_rfl) (fun _ _ _ h => h) ?_ (by assumption) ?_
          rotate_left
          · (intro o ho w hSw; obtain ⟨z0, z1, z2⟩ := hSw; cases ho; go_simp; try with_reducible rfl)
          try simp only [Act.put, List.setIfInBounds_toArray, List.set_cons_zero, List.set_cons_succ]
          first
          | refine skipH 13 (some 202) (by rfl) (by rfl) (by kernel_rfl) (by kernel_rfl) (by kernel_rfl) (fun _ _ _ h => h) (by assumption) ?_
          | refine takeH 13 (some 202) (v := ?_) (by rfl) (by rfl) (by kernel_rfl) (by kernel_rfl) (by kernel_rfl) (fun _ _ _ h => h) ?_ (by assumption) ?_
            rotate_left
            · (intro o ho w hSw; obtain ⟨z0, z1, z2⟩ := hSw; cases ho; go_simp; try with_reducible rfl)
          try simp only [Act.put, List.setIfInBounds_toArray, List.set_cons_zero, List.set_cons_succ]
          first
          | refine skipH 14 (some 203) (by rfl) (by rfl) (by kernel_rfl) (by kernel_rfl) (by kernel_rfl) (fun _ _ _ h => h) (by assumption) ?_
          | refine takeH 14 (some 203) (v := .bool true) (by rfl) (by rfl) (by kernel_rfl) (by kernel_rfl) (by kernel_rfl) (fun _ _ _ h => h) ?_ (by assumption) ?_
            skip
            · (intro o ho w hSw; obtain ⟨z0, z1, z2⟩ := hSw; cases ho; go_simp; try with_reducible rfl)
          try simp only [Act.put, List.setIfInBounds_toArray, List.set_cons_zero, List.set_cons_succ]
          first
          | refine skipH 15 (some 204) (by rfl) (by rfl) (by kernel_rfl) (by kernel_rfl) (by kernel_rfl) (fun _ _ _ h => h) (by assumption) ?_
          | refine takeH 15 (some 204) (v := ?_) (by rfl) (by rfl) (by kernel_rfl) (by kernel_rfl) (by kernel_rfl) (fun _ _ _ h => h) ?_ (by assumption) ?_
            rotate_left
            · (intro o ho w hSw; obtain ⟨z0, z1, z2⟩ := hSw; cases ho; go_simp; try with_reducible rfl)
          try simp only [Act.put, List.setIfInBounds_toArray, List.set_cons_zero, List.set_cons_succ]
          first
          | refine skipH 16 (some 205) (by rfl) (by rfl) (by kernel_rfl) (by kernel_rfl) (by kernel_rfl) (fun _ _ _ h => h) (by assumption) ?_
          | refine takeH 16 (some 205) (v := ?_) (by rfl) (by rfl) (by kernel_rfl) (by kernel_rfl) (by kernel_rfl) (fun _ _ _ h => h) ?_ (by assumption) ?_
            rotate_left
            · (intro o ho w hSw; obtain ⟨z0, z1, z2⟩ := hSw; cases ho; go_simp; try with_reducible rfl)
          try simp only [Act.put, List.setIfInBounds_toArray, List.set_cons_zero, List.set_cons_succ]
          first
          | refine skipH 18 (some 207) (by rfl) (by rfl) (by kernel_rfl) (by kernel_rfl) (by kernel_rfl) (fun _ _ _ h => h) (by assumption) ?_
          | refine takeH 18 (some 207) (v := ?_) (by rfl) (by rfl) (by kernel_rfl) (by kernel_rfl) (by kernel_rfl) (fun _ _ _ h => h) ?_ (by assumption) ?_
            rotate_left
            · (intro o ho w hSw; obtain ⟨z0, z1, z2⟩ := hSw; cases ho; go_simp; try with_reducible rfl)
          try simp only [Act.put, List.setIfInBounds_toArray, List.set_cons_zero, List.set_cons_succ]
          first
          | refine skipH 19 (some 208) (by rfl) (by rfl) (by kernel_rfl) (by kernel_rfl) (by kernel_rfl) (fun _ _ _ h => h) (by assumption) ?_
          | refine takeH 19 (some 208) (v := ?_) (by rfl) (by rfl) (by kernel_rfl) (by kernel_rfl) (by kernel_rfl) (fun _ _ _ h => h) ?_ (by assumption) ?_
            rotate_left
            · (intro o ho w hSw; obtain ⟨z0, z1, z2⟩ := hSw; cases ho; go_simp; try with_reducible rfl)
          try simp only [Act.put, List.setIfInBounds_toArray, List.set_cons_zero, List.set_cons_succ]
          first
          | refine skipH 20 (some 209) (by rfl) (by rfl) (by kernel_rfl) (by kernel_rfl) (by kernel_rfl) (fun _ _ _ h => h) (by assumption) ?_
          | refine takeH 20 (some 209) (v := ?_) (by rfl) (by rfl) (by kernel_rfl) (by kernel_rfl) (by kernel_rfl) (fun _ _ _ h => h) ?_ (by assumption) ?_
            rotate_left
            · (intro o ho w hSw; obtain ⟨z0, z1, z2⟩ := hSw; cases ho; go_simp; try with_reducible rfl)
          try simp only [Act.put, List.setIfInBounds_toArray, List.set_cons_zero, List.set_cons_succ]
          first
          | refine skipH 21 (some 210) (by rfl) (by rfl) (by kernel_rfl) (by kernel_rfl) (by kernel_rfl) (fun _ _ _ h => h) (by assumption) ?_
          | refine takeH 21 (some 210) (v := ?_) (by rfl) (by rfl) (by kernel_rfl) (by kernel_rfl) (by kernel_rfl) (fun _ _ _ h => h) ?_ (by assumption) ?_
            rotate_left
            · (intro o ho w hSw; obtain ⟨z0, z1, z2⟩ := hSw; cases ho; go_simp; try with_reducible rfl)
          try simp only [Act.put, List.setIfInBounds_toArray, List.set_cons_zero, List.set_cons_succ]
          refine wpAnyH_ready (rs := [17]) (by kernel_rfl) (by simp) ?_
          refine AllReadyH.cons rfl (fun K hK => ?_) AllReadyH.nil
          go_simp
          go_at_call 35
          (refine (enc_any v' Ad md cd Nd' _ (Lib.hid (HND.out.all hS60)) (by omega) HVD.out.2.1 HVD.out.2.2.1 HVD.out.2.2.2).mono ?_)
          rintro e w61 ⟨Ae, ne, ce, rfl, hne1, hne2, hne3, hoe, hbe⟩
          have hS61 := bt hS60 hbe
          have HOE := Lib.hid hoe
          clear hoe hbe
          go_wp2
          refine hK.out _ _ ?_ (fun hh17 => ?_)
          · exact ⟨(HKQ.out.all hS61).cell 0, (HKQ.out.all hS61).cell 1, HCS.out _ hS61⟩
          clear hK K
          try simp only [Act.put, List.setIfInBounds_toArray, List.set_cons_zero, List.set_cons_succ]
          refine wpAnyH_ready (rs := [22]) (by kernel_rfl) (by simp) ?_
          refine AllReadyH.cons rfl (fun K hK => ?_) AllReadyH.nil
          go_simp
          go_at_call 42
          (refine (sameBytes_true Ae As ne ns ce cs (encP v' (Nd'.map Nd.p4)) bs2 _ HVD.out.1 hne3 HX2 (rd_bytes HOE.out).2.2 (HRS.out.all hS61) (by omega) (by omega)).mono ?_)
          rintro e w62 ⟨rfl, hb62⟩
          have hS62 := bt hS61 hb62
          clear hb62
          go_wp2
          refine hK.out _ _ ?_ (fun hh22 => ?_)
          · exact ⟨(HKQ.out.all hS62).cell 0, (HKQ.out.all hS62).cell 1, HCS.out _ hS62⟩
          clear hK K
          try simp only [Act.put, List.setIfInBounds_toArray, List.set_cons_zero, List.set_cons_succ]
          first
          | refine skipH 23 (some 212) (by rfl) (by rfl) (by kernel_rfl) (by kernel_rfl) (by kernel_rfl) (fun _ _ _ h => h) (by assumption) ?_
          | refine takeH 23 (some 212) (v := .bool false) (by rfl) (by rfl) (by kernel_rfl) (by kernel_rfl) (by kernel_rfl) (fun _ _ _ h => h) ?_ (by assumption) ?_
            skip
            · (intro o ho w hSw; obtain ⟨z0, z1, z2⟩ := hSw; cases ho; go_simp; try with_reducible rfl)
          try simp only [Act.put, List.setIfInBounds_toArray, List.set_cons_zero, List.set_cons_succ]
          first
          | refine skipH 24 (some 213) (by rfl) (by rfl) (by kernel_rfl) (by kernel_rfl) (by kernel_rfl) (fun _ _ _ h => h) (by assumption) ?_
          | refine takeH 24 (some 213) (v := .bool false) (by rfl) (by rfl) (by kernel_rfl) (by kernel_rfl) (by kernel_rfl) (fun _ _ _ h => h) ?_ (by assumption) ?_
            skip
            · (intro o ho w hSw; obtain ⟨z0, z1, z2⟩ := hSw; cases ho; go_simp; try with_reducible rfl)
          try simp only [Act.put, List.setIfInBounds_toArray, List.set_cons_zero, List.set_cons_succ]
          refine takeH 25 (some 214) (v := .bool false) (by rfl) (by rfl) (by kernel_rfl) (by kernel_rfl) (by kernel_rfl) (fun _ _ _ h => h) ?_ (by assumption) ?_
          skip
          · (intro o ho w hSw; obtain ⟨z0, z1, z2⟩ := hSw; cases ho; go_simp; try with_reducible rfl)
          try simp only [Act.put, List.setIfInBounds_toArray, List.set_cons_zero, List.set_cons_succ]
          refine wpAnyH_done (by kernel_rfl) ?_ _
--@15
          clear hh17 hh22 hHeld
          go_wp2
          exact ⟨⟨i + 1, by omega, by go_num, Lib.hid (bt HBr60.out hS62)⟩, by simp [intOf]; omega⟩
        · clear hd hcell HX2 HRW
          go_upto_region 28 with (fail)
          have hb60 : Below w52.heap.size w52 (w52.alloc (.cells #[.int .i64 0, .slice none 0 0] 44)) := (Below.refl _ _).alloc (Nat.le_refl _) _
          have hk60 := Blk.new w52 44 #[.int .i64 0, .slice none 0 0]
          obtain ⟨w60, hw60⟩ : ∃ w60, w52.alloc (.cells #[.int .i64 0, .slice none 0 0] 44) = w60 := ⟨_, rfl⟩
          obtain ⟨gq, hgq⟩ : ∃ g, w52.heap.size = g := ⟨_, rfl⟩
          rw [hw60] at hb60 hk60 ⊢
          rw [hgq] at hk60
          try rw [hgq]
          have hBr60 := bt (bt HBw.out hb52) hb60
          have HBr60 := Lib.hid hBr60
          have HKQ := Lib.hid hk60
          have hS60 : Below w60.heap.size w60 w60.drew := below_drewN (Below.refl _ _) 1
          have HCS : Hid (∀ w', Below w60.heap.size w60 w' → w'.cell? ⟨gl, i, none⟩ = some (.slice As ns cs)) := Lib.hid (fun w' h => by
            have h9 := (HKL.out.all (bt hBr60 h)).cell i
            rw [HCE.out] at h9
            exact h9)
          clear hb52 hw60 hgq hb60 hk60 hBr60
--@16
          refine wp_region_held_drew (S := (fun w' => w'.cell? ⟨gq, 0, none⟩ = some (.int .i64 0) ∧ w'.cell? ⟨gq, 1, none⟩ = some (.slice none 0 0) ∧ w'.cell? ⟨gl, i, none⟩ = some (.slice As ns cs))) (by kernel_rfl) ⟨(HKQ.out.all hS60).cell 0, (HKQ.out.all hS60).cell 1, HCS.out _ hS60⟩ (fun hHeld => ?_)
          refine takeH 0 (some 189) (v := ?_) (by rfl) (by rfl) (by kernel_rfl) (by kernel_rfl) (by kernel_rfl) (fun _ _ _ h => h) ?_ (by assumption) ?_
          rotate_left
          · (intro o ho w hSw; obtain ⟨z0, z1, z2⟩ := hSw; cases ho; go_simp; try with_reducible rfl)
          try simp only [Act.put, List.setIfInBounds_toArray, List.set_cons_zero, List.set_cons_succ]
          refine takeH 1 (some 190) (v := .bool true) (by rfl) (by rfl) (by kernel_rfl) (by kernel_rfl) (by kernel_rfl) (fun _ _ _ h => h) ?_ (by assumption) ?_
          skip
          · (intro o ho w hSw; obtain ⟨z0, z1, z2⟩ := hSw; cases ho; go_simp; try with_reducible rfl)
          try simp only [Act.put, List.setIfInBounds_toArray, List.set_cons_zero, List.set_cons_succ]
          refine takeH 2 (some 191) (v := ?_) (by rfl) (by rfl) (by kernel_rfl) (by kernel_rfl) (by kernel_rfl) (fun _ _ _ h => h) ?_ (by assumption) ?_
          rotate_left
          · (intro o ho w hSw; obtain ⟨z0, z1, z2⟩ := hSw; cases ho; go_simp; try with_reducible rfl)
          try simp only [Act.put, List.setIfInBounds_toArray, List.set_cons_zero, List.set_cons_succ]
          first
          | refine skipH 3 (some 192) (by rfl) (by rfl) (by kernel_rfl) (by kernel_rfl) (by kernel_rfl) (fun _ _ _ h => h) (by assumption) ?_
          | refine takeH 3 (some 192) (v := ?_) (by rfl) (by rfl) (by kernel_rfl) (by kernel_rfl) (by kernel_rfl) (fun _ _ _ h => h) ?_ (by assumption) ?_
            rotate_left
            · (intro o ho w hSw; obtain ⟨z0, z1, z2⟩ := hSw; cases ho; go_simp; try with_reducible rfl)
          try simp only [Act.put, List.setIfInBounds_toArray, List.set_cons_zero, List.set_cons_succ]
          first
          | refine skipH 4 (some 193) (by rfl) (by rfl) (by kernel_rfl) (by kernel_rfl) (by kernel_rfl) (fun _ _ _ h => h) (by assumption) ?_
          | refine takeH 4 (some 193) (v := .bool false) (by rfl) (by rfl) (by kernel_rfl) (by kernel_rfl) (by kernel_rfl) (fun _ _ _ h => h) ?_ (by assumption) ?_
            skip
            · (intro o ho w hSw; obtain ⟨z0, z1, z2⟩ := hSw; cases ho; go_simp; try with_reducible rfl)
          try simp only [Act.put, List.setIfInBounds_toArray, List.set_cons_zero, List.set_cons_succ]
          first
          | refine skipH 5 (some 194) (by rfl) (by rfl) (by kernel_rfl) (by kernel_rfl) (by kernel_rfl) (fun _ _ _ h => h) (by assumption) ?_
          | refine takeH 5 (some 194) (v := ?_) (by rfl) (by rfl) (by kernel_rfl) (by kernel_rfl) (by kernel_rfl) (fun _ _ _ h => h) ?_ (by assumption) ?_
            rotate_left
            · (intro o ho w hSw; obtain ⟨z0, z1, z2⟩ := hSw; cases ho; go_simp; try with_reducible rfl)
          try simp only [Act.put, List.setIfInBounds_toArray, List.set_cons_zero, List.set_cons_succ]
          first
          | refine skipH 6 (some 195) (by rfl) (by rfl) (by kernel_rfl) (by kernel_rfl) (by kernel_rfl) (fun _ _ _ h => h) (by assumption) ?_
          | refine takeH 6 (some 195) (v := ?_) (by rfl) (by rfl) (by kernel_rfl) (by kernel_rfl) (by kernel_rfl) (fun _ _ _ h => h) ?_ (by assumption) ?_
            rotate_left
            · (intro o ho w hSw; obtain ⟨z0, z1, z2⟩ := hSw; cases ho; go_simp; try with_reducible rfl)
          try simp only [Act.put, List.setIfInBounds_toArray, List.set_cons_zero, List.set_cons_succ]
          first
          | refine skipH 7 (some 196) (by rfl) (by rfl) (by kernel_rfl) (by kernel_rfl) (by kernel_rfl) (fun _ _ _ h => h) (by assumption) ?_
          | refine takeH 7 (some 196) (v := ?_) (by rfl) (by rfl) (by kernel_rfl) (by kernel_rfl) (by kernel_rfl) (fun _ _ _ h => h) ?_ (by assumption) ?_
            rotate_left
            · (intro o ho w hSw; obtain ⟨z0, z1, z2⟩ := hSw; cases ho; go_simp; try with_reducible rfl)
          try simp only [Act.put, List.setIfInBounds_toArray, List.set_cons_zero, List.set_cons_succ]
          first
          | refine skipH 8 (some 197) (by rfl) (by rfl) (by kernel_rfl) (by kernel_rfl) (by kernel_rfl) (fun _ _ _ h => h) (by assumption) ?_
          | refine takeH 8 (some 197) (v := ?_) (by rfl) (by rfl) (by kernel_rfl) (by kernel_rfl) (by kernel_rfl) (fun _ _ _ h => h) ?_ (by assumption) ?_
            rotate_left
            · (intro o ho w hSw; obtain ⟨z0, z1, z2⟩ := hSw; cases ho; go_simp; try with_reducible rfl)
          try simp only [Act.put, List.setIfInBounds_toArray, List.set_cons_zero, List.set_cons_succ]
          first
          | refine skipH 9 (some 198) (by rfl) (by rfl) (by kernel_rfl) (by kernel_rfl) (by kernel_rfl) (fun _ _ _ h => h) (by assumption) ?_
          | refine takeH 9 (some 198) (v := .bool false) (by rfl) (by rfl) (by kernel_rfl) (by kernel_rfl) (by kernel_rfl) (fun _ _ _ h => h) ?_ (by assumption) ?_
            skip
            · (intro o ho w hSw; obtain ⟨z0, z1, z2⟩ := hSw; cases ho; go_simp; try with_reducible rfl)
          try simp only [Act.put, List.setIfInBounds_toArray, List.set_cons_zero, List.set_cons_succ]
          first
          | refine skipH 10 (some 199) (by rfl) (by rfl) (by kernel_rfl) (by kernel_rfl) (by kernel_rfl) (fun _ _ _ h => h) (by assumption) ?_
          | refine takeH 10 (some 199) (v := .bool false) (by rfl) (by rfl) (by kernel_rfl) (by kernel_rfl) (by kernel_rfl) (fun _ _ _ h => h) ?_ (by assumption) ?_
            skip
            · (intro o ho w hSw; obtain ⟨z0, z1, z2⟩ := hSw; cases ho; go_simp; try with_reducible rfl)
          try simp only [Act.put, List.setIfInBounds_toArray, List.set_cons_zero, List.set_cons_succ]
          refine takeH 11 (some 200) (v := .bool false) (by rfl) (by rfl) (by kernel_rfl) (by kernel_rfl) (by kernel_rfl) (fun _ _ _ h => h) ?_ (by assumption) ?_
          skip
          · (intro o ho w hSw; obtain ⟨z0, z1, z2⟩ := hSw; cases ho; go_simp; try with_reducible rfl)
          try simp only [Act.put, List.setIfInBounds_toArray, List.set_cons_zero, List.set_cons_succ]
          refine takeH 12 (some 201) (v := ?_) (by rfl) (by rfl) (by kernel_rfl) (by kernel_rfl) (by kernel_rfl) (fun _ _ _ h => h) ?_ (by assumption) ?_
          rotate_left
          · (intro o ho w hSw; obtain ⟨z0, z1, z2⟩ := hSw; cases ho; go_simp; try with_reducible rfl)
          try simp only [Act.put, List.setIfInBounds_toArray, List.set_cons_zero, List.set_cons_succ]
          first
          | refine skipH 13 (some 202) (by rfl) (by rfl) (by kernel_rfl) (by kernel_rfl) (by kernel_rfl) (fun _ _ _ h => h) (by assumption) ?_
          | refine takeH 13 (some 202) (v := ?_) (by rfl) (by rfl) (by kernel_rfl) (by kernel_rfl) (by kernel_rfl) (fun _ _ _ h => h) ?_ (by assumption) ?_
            rotate_left
            · (intro o ho w hSw; obtain ⟨z0, z1, z2⟩ := hSw; cases ho; go_simp; try with_reducible rfl)
          try simp only [Act.put, List.setIfInBounds_toArray, List.set_cons_zero, List.set_cons_succ]
          first
          | refine skipH 14 (some 203) (by rfl) (by rfl) (by kernel_rfl) (by kernel_rfl) (by kernel_rfl) (fun _ _ _ h => h) (by assumption) ?_
          | refine takeH 14 (some 203) (v := .bool false) (by rfl) (by rfl) (by kernel_rfl) (by kernel_rfl) (by kernel_rfl) (fun _ _ _ h => h) ?_ (by assumption) ?_
            skip
            · (intro o ho w hSw; obtain ⟨z0, z1, z2⟩ := hSw; cases ho; go_simp; try with_reducible rfl)
          try simp only [Act.put, List.setIfInBounds_toArray, List.set_cons_zero, List.set_cons_succ]
          first
          | refine skipH 15 (some 204) (by rfl) (by rfl) (by kernel_rfl) (by kernel_rfl) (by kernel_rfl) (fun _ _ _ h => h) (by assumption) ?_
          | refine takeH 15 (some 204) (v := ?_) (by rfl) (by rfl) (by kernel_rfl) (by kernel_rfl) (by kernel_rfl) (fun _ _ _ h => h) ?_ (by assumption) ?_
            rotate_left
            · (intro o ho w hSw; obtain ⟨z0, z1, z2⟩ := hSw; cases ho; go_simp; try with_reducible rfl)
          try simp only [Act.put, List.setIfInBounds_toArray, List.set_cons_zero, List.set_cons_succ]
          first
          | refine skipH 16 (some 205) (by rfl) (by rfl) (by kernel_rfl) (by kernel_rfl) (by kernel_rfl) (fun _ _ _ h => h) (by assumption) ?_
          | refine takeH 16 (some 205) (v := ?_) (by rfl) (by rfl) (by kernel_rfl) (by kernel_rfl) (by kernel_rfl) (fun _ _ _ h => h) ?_ (by assumption) ?_
            rotate_left
            · (intro o ho w hSw; obtain ⟨z0, z1, z2⟩ := hSw; cases ho; go_simp; try with_reducible rfl)
          try simp only [Act.put, List.setIfInBounds_toArray, List.set_cons_zero, List.set_cons_succ]
          first
          | refine skipH 17 (some 206) (by rfl) (by rfl) (by kernel_rfl) (by kernel_rfl) (by kernel_rfl) (fun _ _ _ h => h) (by assumption) ?_
          | refine takeH 17 (some 206) (v := ?_) (by rfl) (by rfl) (by kernel_rfl) (by kernel_rfl) (by kernel_rfl) (fun _ _ _ h => h) ?_ (by assumption) ?_
            rotate_left
            · (intro o ho w hSw; obtain ⟨z0, z1, z2⟩ := hSw; cases ho; go_simp; try with_reducible rfl)
          try simp only [Act.put, List.setIfInBounds_toArray, List.set_cons_zero, List.set_cons_succ]
          first
          | refine skipH 18 (some 207) (by rfl) (by rfl) (by kernel_rfl) (by kernel_rfl) (by kernel_rfl) (fun _ _ _ h => h) (by assumption) ?_
          | refine takeH 18 (some 207) (v := ?_) (by rfl) (by rfl) (by kernel_rfl) (by kernel_rfl) (by kernel_rfl) (fun _ _ _ h => h) ?_ (by assumption) ?_
            rotate_left
            · (intro o ho w hSw; obtain ⟨z0, z1, z2⟩ := hSw; cases ho; go_simp; try with_reducible rfl)
          try simp only [Act.put, List.setIfInBounds_toArray, List.set_cons_zero, List.set_cons_succ]
          first
          | refine skipH 19 (some 208) (by rfl) (by rfl) (by kernel_rfl) (by kernel_rfl) (by kernel_rfl) (fun _ _ _ h => h) (by assumption) ?_
          | refine takeH 19 (some 208) (v := ?_) (by rfl) (by rfl) (by kernel_rfl) (by kernel_rfl) (by kernel_rfl) (fun _ _ _ h => h) ?_ (by assumption) ?_
            rotate_left
            · (intro o ho w hSw; obtain ⟨z0, z1, z2⟩ := hSw; cases ho; go_simp; try with_reducible rfl)
          try simp only [Act.put, List.setIfInBounds_toArray, List.set_cons_zero, List.set_cons_succ]
          first
          | refine skipH 20 (some 209) (by rfl) (by rfl) (by kernel_rfl) (by kernel_rfl) (by kernel_rfl) (fun _ _ _ h => h) (by assumption) ?_
          | refine takeH 20 (some 209) (v := ?_) (by rfl) (by rfl) (by kernel_rfl) (by kernel_rfl) (by kernel_rfl) (fun _ _ _ h => h) ?_ (by assumption) ?_
            rotate_left
            · (intro o ho w hSw; obtain ⟨z0, z1, z2⟩ := hSw; cases ho; go_simp; try with_reducible rfl)
          try simp only [Act.put, List.setIfInBounds_toArray, List.set_cons_zero, List.set_cons_succ]
          first
          | refine skipH 21 (some 210) (by rfl) (by rfl) (by kernel_rfl) (by kernel_rfl) (by kernel_rfl) (fun _ _ _ h => h) (by assumption) ?_
          | refine takeH 21 (some 210) (v := ?_) (by rfl) (by rfl) (by kernel_rfl) (by kernel_rfl) (by kernel_rfl) (fun _ _ _ h => h) ?_ (by assumption) ?_
            rotate_left
            · (intro o ho w hSw; obtain ⟨z0, z1, z2⟩ := hSw; cases ho; go_simp; try with_reducible rfl)
          try simp only [Act.put, List.setIfInBounds_toArray, List.set_cons_zero, List.set_cons_succ]
          first
          | refine skipH 22 (some 211) (by rfl) (by rfl) (by kernel_rfl) (by kernel_rfl) (by kernel_rfl) (fun _ _ _ h => h) (by assumption) ?_
          | refine takeH 22 (some 211) (v := ?_) (by rfl) (by rfl) (by kernel_rfl) (by kernel_rfl) (by kernel_rfl) (fun _ _ _ h => h) ?_ (by assumption) ?_
            rotate_left
            · (intro o ho w hSw; obtain ⟨z0, z1, z2⟩ := hSw; cases ho; go_simp; try with_reducible rfl)
          try simp only [Act.put, List.setIfInBounds_toArray, List.set_cons_zero, List.set_cons_succ]
          first
          | refine skipH 23 (some 212) (by rfl) (by rfl) (by kernel_rfl) (by kernel_rfl) (by kernel_rfl) (fun _ _ _ h => h) (by assumption) ?_
          | refine takeH 23 (some 212) (v := ?_) (by rfl) (by rfl) (by kernel_rfl) (by kernel_rfl) (by kernel_rfl) (fun _ _ _ h => h) ?_ (by assumption) ?_
            rotate_left
            · (intro o ho w hSw; obtain ⟨z0, z1, z2⟩ := hSw; cases ho; go_simp; try with_reducible rfl)
          try simp only [Act.put, List.setIfInBounds_toArray, List.set_cons_zero, List.set_cons_succ]
          first
          | refine skipH 24 (some 213) (by rfl) (by rfl) (by kernel_rfl) (by kernel_rfl) (by kernel_rfl) (fun _ _ _ h => h) (by assumption) ?_
          | refine takeH 24 (some 213) (v := .bool false) (by rfl) (by rfl) (by kernel_rfl) (by kernel_rfl) (by kernel_rfl) (fun _ _ _ h => h) ?_ (by assumption) ?_
            skip
            · (intro o ho w hSw; obtain ⟨z0, z1, z2⟩ := hSw; cases ho; go_simp; try with_reducible rfl)
          try simp only [Act.put, List.setIfInBounds_toArray, List.set_cons_zero, List.set_cons_succ]
          refine takeH 25 (some 214) (v := .bool false) (by rfl) (by rfl) (by kernel_rfl) (by kernel_rfl) (by kernel_rfl) (fun _ _ _ h => h) ?_ (by assumption) ?_
          skip
          · (intro o ho w hSw; obtain ⟨z0, z1, z2⟩ := hSw; cases ho; go_simp; try with_reducible rfl)
          try simp only [Act.put, List.setIfInBounds_toArray, List.set_cons_zero, List.set_cons_succ]
          refine wpAnyH_done (by kernel_rfl) ?_ _
--@17
          clear hHeld
          go_wp2
          exact ⟨⟨i + 1, by omega, by go_num, Lib.hid (bt HBr60.out hS60)⟩, by simp [intOf]; omega⟩
    have hni := HN.out.mod HMi.out (fun b hb => by rw [hb]; exact ⟨HRT.out.not (by decide), HRT.out.not (by decide)⟩)
    have hil : i < Np.length := by rw [HNm.out]; exact him
    obtain ⟨bn, on, bi, iq, oq, sA, sn, sc, ps, hA, hbn, c0, c1, c2, c3, hin, he⟩ := hni.nds.get hil
    obtain ⟨bt2, ot2, et2, hty⟩ := hni.ty (by dsimp only; omega)
    rw [hA] at et2
    injection et2 with et2
    injection et2 with et2 et3 _
    subst et2 et3
    subst hA
    have hbd : bn ≠ gd := fun e => by
      rw [e] at hty
      exact (hty.not (show (34 : Nat) ≠ 110 by decide)) HRi.out.ty
    have hti := hni.ok _ (List.getElem_mem hil)
    rw [← ndAt_eq hil, he] at hti
    dsimp only at hti
    have HC : Hid (∀ w', Mod (fun b => b = gd) wr w' → (w'.cell? ⟨gp, 1, none⟩ = some (.slice (some ⟨bn, on, none⟩) mp cp) ∧ w'.cell? ⟨bn, on + i * 4, none⟩ = some (.int .i64 bi) ∧ w'.cell? ⟨bn, on + i * 4 + 1, none⟩ = some (.int .i64 iq) ∧ w'.cell? ⟨bn, on + i * 4 + 2, none⟩ = some (.int .i64 oq) ∧ w'.cell? ⟨bn, on + i * 4 + 3, none⟩ = some (.slice sA sn sc)) ∧ NIn w' w'.heap.size (sA, sn, sc) ps) := Lib.hid (fun w' hm => by
      have hb := hm.block bn hbn hbd
      exact ⟨⟨(hm.blk HKi.out hpd).cell 1, (World.cell?_of_block (w := wr) hb).trans c0, (World.cell?_of_block (w := wr) hb).trans c1, (World.cell?_of_block (w := wr) hb).trans c2, (World.cell?_of_block (w := wr) hb).trans c3⟩, (hti.mod hm (fun b hb => by rw [hb]; exact HRi.out.ty.not (by decide))).nin⟩)
    have hLi : L.drop i = (bi, iq, oq, ps) :: L.drop (i + 1) := by
      have hl : i < L.length := by rw [HLm.out]; exact him
      rw [List.drop_eq_getElem_cons hl]
      congr 1
      have h : L[i]? = some (ndAt Np i).p4 := by rw [← HL.out, List.getElem?_map, List.getElem?_eq_getElem hil, ndAt_eq hil]; rfl
      rw [he, List.getElem?_eq_getElem hl] at h
      exact Option.some.inj h
    have hpl : ps.length = sn := hin.len
    have HPL := Lib.hid hpl
    have hsn : sn ≤ 9223372036854775807 := Nat.le_trans hin.cap hin.max
    have HX : Hid (InI bi ∧ InI iq ∧ InI oq ∧ ∀ p ∈ ps, InI p) := Lib.hid (by
      have h := (HIN.out (bi, iq, oq, ps) (by
        have : (bi, iq, oq, ps) ∈ L.drop i := by rw [hLi]; simp
        exact List.mem_of_mem_drop this)).1
      exact h)
    have HR20 : Hid (RdrS wr.drew B gd (0, encInt bi ++ (encInt iq ++ (encInt oq ++ (encInt (sn : Int) ++ (ps.flatMap encInt ++ (L.drop (i + 1)).flatMap encN)))))) := Lib.hid (by
      have h := HRi.out.low (Mod.of_below (fun _ => False) (below_drewN (Below.refl wr.heap.size wr) 1)) (fun _ hf => hf.elim)
      rw [hLi, List.flatMap_cons] at h
      rw [show encN (bi, iq, oq, ps) = encInt bi ++ (encInt iq ++ (encInt oq ++ (encInt (ps.length : Int) ++ ps.flatMap encInt))) from rfl, hpl] at h
      simp only [List.append_assoc] at h
      exact h)
    have HM20 : Hid (Mod (fun b => b = gd) wr wr.drew) := Lib.hid (Mod.of_below _ (below_drewN (Below.refl wr.heap.size wr) 1))
    have hii : (i : Int) < (mp : Int) := by omega
    clear hni hil c0 c1 c2 c3 hin he hbn hty hbd hti hLi hpl HRi HKi
    go_wp2
    clear q1
--@6
    refine wp_region_held_drew (S := (fun w' => w'.cell? ⟨gp, 1, none⟩ = some (.slice (some ⟨bn, on, none⟩) mp cp) ∧ w'.cell? ⟨bn, on + i * 4, none⟩ = some (.int .i64 bi) ∧ w'.cell? ⟨bn, on + i * 4 + 1, none⟩ = some (.int .i64 iq) ∧ w'.cell? ⟨bn, on + i * 4 + 2, none⟩ = some (.int .i64 oq) ∧ w'.cell? ⟨bn, on + i * 4 + 3, none⟩ = some (.slice sA sn sc))) (by kernel_rfl) (HC.out _ HM20.out).1 (fun hHeld => ?_)
    refine takeH 0 (some 90) (v := ?_) (by rfl) (by rfl) (by kernel_rfl) (by kernel_rfl) (by kernel_rfl) (fun _ _ _ h => h) ?_ (by assumption) ?_
    rotate_left
    · (intro o ho w hSw; obtain ⟨z0, z1, z2, z3, z4⟩ := hSw; cases ho; go_simp; try with_reducible rfl)
    try simp only [Act.put, List.setIfInBounds_toArray, List.set_cons_zero, List.set_cons_succ]
    refine takeH 2 (some 92) (v := ?_) (by rfl) (by rfl) (by kernel_rfl) (by kernel_rfl) (by kernel_rfl) (fun _ _ _ h => h) ?_ (by assumption) ?_
    rotate_left
    · (intro o ho w hSw; obtain ⟨z0, z1, z2, z3, z4⟩ := hSw; cases ho; go_simp; try with_reducible rfl)
    try simp only [Act.put, List.setIfInBounds_toArray, List.set_cons_zero, List.set_cons_succ]
    refine takeH 3 (some 93) (v := ?_) (by rfl) (by rfl) (by kernel_rfl) (by kernel_rfl) (by kernel_rfl) (fun _ _ _ h => h) ?_ (by assumption) ?_
    rotate_left
    · (intro o ho w hSw; obtain ⟨z0, z1, z2, z3, z4⟩ := hSw; cases ho; go_simp; try with_reducible rfl)
    try simp only [Act.put, List.setIfInBounds_toArray, List.set_cons_zero, List.set_cons_succ]
    refine takeH 4 (some 94) (v := ?_) (by rfl) (by rfl) (by kernel_rfl) (by kernel_rfl) (by kernel_rfl) (fun _ _ _ h => h) ?_ (by assumption) ?_
    rotate_left
    · (intro o ho w hSw; obtain ⟨z0, z1, z2, z3, z4⟩ := hSw; cases ho; go_simp; try with_reducible rfl)
    try simp only [Act.put, List.setIfInBounds_toArray, List.set_cons_zero, List.set_cons_succ]
    refine takeH 5 (some 95) (v := ?_) (by rfl) (by rfl) (by kernel_rfl) (by kernel_rfl) (by kernel_rfl) (fun _ _ _ h => h) ?_ (by assumption) ?_
    rotate_left
    · (intro o ho w hSw; obtain ⟨z0, z1, z2, z3, z4⟩ := hSw; cases ho; go_simp; try with_reducible rfl)
    try simp only [Act.put, List.setIfInBounds_toArray, List.set_cons_zero, List.set_cons_succ]
    refine takeH 6 (some 96) (v := ?_) (by rfl) (by rfl) (by kernel_rfl) (by kernel_rfl) (by kernel_rfl) (fun _ _ _ h => h) ?_ (by assumption) ?_
    rotate_left
    · (intro o ho w hSw; obtain ⟨z0, z1, z2, z3, z4⟩ := hSw; cases ho; go_simp; try with_reducible rfl)
    try simp only [Act.put, List.setIfInBounds_toArray, List.set_cons_zero, List.set_cons_succ]
    refine takeH 7 (some 97) (v := ?_) (by rfl) (by rfl) (by kernel_rfl) (by kernel_rfl) (by kernel_rfl) (fun _ _ _ h => h) ?_ (by assumption) ?_
    rotate_left
    · (intro o ho w hSw; obtain ⟨z0, z1, z2, z3, z4⟩ := hSw; cases ho; go_simp; try with_reducible rfl)
    try simp only [Act.put, List.setIfInBounds_toArray, List.set_cons_zero, List.set_cons_succ]
    refine wpAnyH_ready (rs := [1]) (by kernel_rfl) (by simp) ?_
    refine AllReadyH.cons rfl (fun K hK => ?_) AllReadyH.nil
    go_simp
    go_at_call 39
    (refine (rintE_any B gd bi _ _ HR20 HX.out.1).mono ?_)
    rintro e w21 ⟨rfl, hr21, hg21⟩
    have HR21 := Lib.hid hr21
    have HM21 : Hid (Mod (fun b => b = gd) wr w21) := Lib.hid (HM20.out.then_grown hg21 (fun g e => by injection e with e; exact .inl e.symm))
    clear hr21 hg21
    go_wp2
    refine hK.out _ _ ?_ (fun hh1 => ?_)
    · exact (HC.out _ HM21.out).1
    clear hK K
    try simp only [Act.put, List.setIfInBounds_toArray, List.set_cons_zero, List.set_cons_succ]
    refine takeH 8 (some 98) (v := .bool false) (by rfl) (by rfl) (by kernel_rfl) (by kernel_rfl) (by kernel_rfl) (fun _ _ _ h => h) ?_ (by assumption) ?_
    skip
    · (intro o ho w hSw; obtain ⟨z0, z1, z2, z3, z4⟩ := hSw; cases ho; go_simp; try with_reducible rfl)
    try simp only [Act.put, List.setIfInBounds_toArray, List.set_cons_zero, List.set_cons_succ]
    refine takeH 9 (some 99) (v := ?_) (by rfl) (by rfl) (by kernel_rfl) (by kernel_rfl) (by kernel_rfl) (fun _ _ _ h => h) ?_ (by assumption) ?_
    rotate_left
    · (intro o ho w hSw; obtain ⟨z0, z1, z2, z3, z4⟩ := hSw; cases ho; go_simp; try with_reducible rfl)
    try simp only [Act.put, List.setIfInBounds_toArray, List.set_cons_zero, List.set_cons_succ]
    first
    | refine skipH 10 (some 100) (by rfl) (by rfl) (by kernel_rfl) (by kernel_rfl) (by kernel_rfl) (fun _ _ _ h => h) (by assumption) ?_
    | refine takeH 10 (some 100) (v := ?_) (by rfl) (by rfl) (by kernel_rfl) (by kernel_rfl) (by kernel_rfl) (fun _ _ _ h => h) ?_ (by assumption) ?_
      rotate_left
      · (intro o ho w hSw; obtain ⟨z0, z1, z2, z3, z4⟩ := hSw; cases ho; go_simp; try with_reducible rfl)
    try simp only [Act.put, List.setIfInBounds_toArray, List.set_cons_zero, List.set_cons_succ]
    first
    | refine skipH 12 (some 102) (by rfl) (by rfl) (by kernel_rfl) (by kernel_rfl) (by kernel_rfl) (fun _ _ _ h => h) (by assumption) ?_
    | refine takeH 12 (some 102) (v := ?_) (by rfl) (by rfl) (by kernel_rfl) (by kernel_rfl) (by kernel_rfl) (fun _ _ _ h => h) ?_ (by assumption) ?_
      rotate_left
      · (intro o ho w hSw; obtain ⟨z0, z1, z2, z3, z4⟩ := hSw; cases ho; go_simp; try with_reducible rfl)
    try simp only [Act.put, List.setIfInBounds_toArray, List.set_cons_zero, List.set_cons_succ]
    first
    | refine skipH 13 (some 103) (by rfl) (by rfl) (by kernel_rfl) (by kernel_rfl) (by kernel_rfl) (fun _ _ _ h => h) (by assumption) ?_
    | refine takeH 13 (some 103) (v := ?_) (by rfl) (by rfl) (by kernel_rfl) (by kernel_rfl) (by kernel_rfl) (fun _ _ _ h => h) ?_ (by assumption) ?_
      rotate_left
      · (intro o ho w hSw; obtain ⟨z0, z1, z2, z3, z4⟩ := hSw; cases ho; go_simp; try with_reducible rfl)
    try simp only [Act.put, List.setIfInBounds_toArray, List.set_cons_zero, List.set_cons_succ]
    first
    | refine skipH 14 (some 104) (by rfl) (by rfl) (by kernel_rfl) (by kernel_rfl) (by kernel_rfl) (fun _ _ _ h => h) (by assumption) ?_
    | refine takeH 14 (some 104) (v := ?_) (by rfl) (by rfl) (by kernel_rfl) (by kernel_rfl) (by kernel_rfl) (fun _ _ _ h => h) ?_ (by assumption) ?_
      rotate_left
      · (intro o ho w hSw; obtain ⟨z0, z1, z2, z3, z4⟩ := hSw; cases ho; go_simp; try with_reducible rfl)
    try simp only [Act.put, List.setIfInBounds_toArray, List.set_cons_zero, List.set_cons_succ]
    first
    | refine skipH 15 (some 105) (by rfl) (by rfl) (by kernel_rfl) (by kernel_rfl) (by kernel_rfl) (fun _ _ _ h => h) (by assumption) ?_
    | refine takeH 15 (some 105) (v := ?_) (by rfl) (by rfl) (by kernel_rfl) (by kernel_rfl) (by kernel_rfl) (fun _ _ _ h => h) ?_ (by assumption) ?_
      rotate_left
      · (intro o ho w hSw; obtain ⟨z0, z1, z2, z3, z4⟩ := hSw; cases ho; go_simp; try with_reducible rfl)
    try simp only [Act.put, List.setIfInBounds_toArray, List.set_cons_zero, List.set_cons_succ]
    first
    | refine skipH 16 (some 106) (by rfl) (by rfl) (by kernel_rfl) (by kernel_rfl) (by kernel_rfl) (fun _ _ _ h => h) (by assumption) ?_
    | refine takeH 16 (some 106) (v := ?_) (by rfl) (by rfl) (by kernel_rfl) (by kernel_rfl) (by kernel_rfl) (fun _ _ _ h => h) ?_ (by assumption) ?_
      rotate_left
      · (intro o ho w hSw; obtain ⟨z0, z1, z2, z3, z4⟩ := hSw; cases ho; go_simp; try with_reducible rfl)
    try simp only [Act.put, List.setIfInBounds_toArray, List.set_cons_zero, List.set_cons_succ]
    first
    | refine skipH 17 (some 107) (by rfl) (by rfl) (by kernel_rfl) (by kernel_rfl) (by kernel_rfl) (fun _ _ _ h => h) (by assumption) ?_
    | refine takeH 17 (some 107) (v := ?_) (by rfl) (by rfl) (by kernel_rfl) (by kernel_rfl) (by kernel_rfl) (fun _ _ _ h => h) ?_ (by assumption) ?_
      rotate_left
      · (intro o ho w hSw; obtain ⟨z0, z1, z2, z3, z4⟩ := hSw; cases ho; go_simp; try with_reducible rfl)
    try simp only [Act.put, List.setIfInBounds_toArray, List.set_cons_zero, List.set_cons_succ]
    refine wpAnyH_ready (rs := [11]) (by kernel_rfl) (by simp) ?_
    refine AllReadyH.cons rfl (fun K hK => ?_) AllReadyH.nil
    go_simp
    go_at_call 39
    (refine (rintE_any B gd iq _ _ HR21 HX.out.2.1).mono ?_)
    rintro e w22 ⟨rfl, hr22, hg22⟩
    have HR22 := Lib.hid hr22
    have HM22 : Hid (Mod (fun b => b = gd) wr w22) := Lib.hid (HM21.out.then_grown hg22 (fun g e => by injection e with e; exact .inl e.symm))
    clear hr22 hg22
    go_wp2
    refine hK.out _ _ ?_ (fun hh11 => ?_)
    · exact (HC.out _ HM22.out).1
    clear hK K
    try simp only [Act.put, List.setIfInBounds_toArray, List.set_cons_zero, List.set_cons_succ]
    first
    | refine skipH 18 (some 108) (by rfl) (by rfl) (by kernel_rfl) (by kernel_rfl) (by kernel_rfl) (fun _ _ _ h => h) (by assumption) ?_
    | refine takeH 18 (some 108) (v := .bool false) (by rfl) (by rfl) (by kernel_rfl) (by kernel_rfl) (by kernel_rfl) (fun _ _ _ h => h) ?_ (by assumption) ?_
      skip
      · (intro o ho w hSw; obtain ⟨z0, z1, z2, z3, z4⟩ := hSw; cases ho; go_simp; try with_reducible rfl)
    try simp only [Act.put, List.setIfInBounds_toArray, List.set_cons_zero, List.set_cons_succ]
    refine takeH 19 (some 109) (v := .bool false) (by rfl) (by rfl) (by kernel_rfl) (by kernel_rfl) (by kernel_rfl) (fun _ _ _ h => h) ?_ (by assumption) ?_
    skip
    · (intro o ho w hSw; obtain ⟨z0, z1, z2, z3, z4⟩ := hSw; cases ho; go_simp; try with_reducible rfl)
    try simp only [Act.put, List.setIfInBounds_toArray, List.set_cons_zero, List.set_cons_succ]
    refine takeH 20 (some 110) (v := ?_) (by rfl) (by rfl) (by kernel_rfl) (by kernel_rfl) (by kernel_rfl) (fun _ _ _ h => h) ?_ (by assumption) ?_
    rotate_left
    · (intro o ho w hSw; obtain ⟨z0, z1, z2, z3, z4⟩ := hSw; cases ho; go_simp; try with_reducible rfl)
    try simp only [Act.put, List.setIfInBounds_toArray, List.set_cons_zero, List.set_cons_succ]
    first
    | refine skipH 21 (some 111) (by rfl) (by rfl) (by kernel_rfl) (by kernel_rfl) (by kernel_rfl) (fun _ _ _ h => h) (by assumption) ?_
    | refine takeH 21 (some 111) (v := ?_) (by rfl) (by rfl) (by kernel_rfl) (by kernel_rfl) (by kernel_rfl) (fun _ _ _ h => h) ?_ (by assumption) ?_
      rotate_left
      · (intro o ho w hSw; obtain ⟨z0, z1, z2, z3, z4⟩ := hSw; cases ho; go_simp; try with_reducible rfl)
    try simp only [Act.put, List.setIfInBounds_toArray, List.set_cons_zero, List.set_cons_succ]
    first
    | refine skipH 23 (some 113) (by rfl) (by rfl) (by kernel_rfl) (by kernel_rfl) (by kernel_rfl) (fun _ _ _ h => h) (by assumption) ?_
    | refine takeH 23 (some 113) (v := ?_) (by rfl) (by rfl) (by kernel_rfl) (by kernel_rfl) (by kernel_rfl) (fun _ _ _ h => h) ?_ (by assumption) ?_
      rotate_left
      · (intro o ho w hSw; obtain ⟨z0, z1, z2, z3, z4⟩ := hSw; cases ho; go_simp; try with_reducible rfl)
    try simp only [Act.put, List.setIfInBounds_toArray, List.set_cons_zero, List.set_cons_succ]
    first
    | refine skipH 24 (some 114) (by rfl) (by rfl) (by kernel_rfl) (by kernel_rfl) (by kernel_rfl) (fun _ _ _ h => h) (by assumption) ?_
    | refine takeH 24 (some 114) (v := ?_) (by rfl) (by rfl) (by kernel_rfl) (by kernel_rfl) (by kernel_rfl) (fun _ _ _ h => h) ?_ (by assumption) ?_
      rotate_left
      · (intro o ho w hSw; obtain ⟨z0, z1, z2, z3, z4⟩ := hSw; cases ho; go_simp; try with_reducible rfl)
    try simp only [Act.put, List.setIfInBounds_toArray, List.set_cons_zero, List.set_cons_succ]
    first
    | refine skipH 25 (some 115) (by rfl) (by rfl) (by kernel_rfl) (by kernel_rfl) (by kernel_rfl) (fun _ _ _ h => h) (by assumption) ?_
    | refine takeH 25 (some 115) (v := ?_) (by rfl) (by rfl) (by kernel_rfl) (by kernel_rfl) (by kernel_rfl) (fun _ _ _ h => h) ?_ (by assumption) ?_
      rotate_left
      · (intro o ho w hSw; obtain ⟨z0, z1, z2, z3, z4⟩ := hSw; cases ho; go_simp; try with_reducible rfl)
    try simp only [Act.put, List.setIfInBounds_toArray, List.set_cons_zero, List.set_cons_succ]
    first
    | refine skipH 26 (some 116) (by rfl) (by rfl) (by kernel_rfl) (by kernel_rfl) (by kernel_rfl) (fun _ _ _ h => h) (by assumption) ?_
    | refine takeH 26 (some 116) (v := ?_) (by rfl) (by rfl) (by kernel_rfl) (by kernel_rfl) (by kernel_rfl) (fun _ _ _ h => h) ?_ (by assumption) ?_
      rotate_left
      · (intro o ho w hSw; obtain ⟨z0, z1, z2, z3, z4⟩ := hSw; cases ho; go_simp; try with_reducible rfl)
    try simp only [Act.put, List.setIfInBounds_toArray, List.set_cons_zero, List.set_cons_succ]
    first
    | refine skipH 27 (some 117) (by rfl) (by rfl) (by kernel_rfl) (by kernel_rfl) (by kernel_rfl) (fun _ _ _ h => h) (by assumption) ?_
    | refine takeH 27 (some 117) (v := ?_) (by rfl) (by rfl) (by kernel_rfl) (by kernel_rfl) (by kernel_rfl) (fun _ _ _ h => h) ?_ (by assumption) ?_
      rotate_left
      · (intro o ho w hSw; obtain ⟨z0, z1, z2, z3, z4⟩ := hSw; cases ho; go_simp; try with_reducible rfl)
    try simp only [Act.put, List.setIfInBounds_toArray, List.set_cons_zero, List.set_cons_succ]
    first
    | refine skipH 28 (some 118) (by rfl) (by rfl) (by kernel_rfl) (by kernel_rfl) (by kernel_rfl) (fun _ _ _ h => h) (by assumption) ?_
    | refine takeH 28 (some 118) (v := ?_) (by rfl) (by rfl) (by kernel_rfl) (by kernel_rfl) (by kernel_rfl) (fun _ _ _ h => h) ?_ (by assumption) ?_
      rotate_left
      · (intro o ho w hSw; obtain ⟨z0, z1, z2, z3, z4⟩ := hSw; cases ho; go_simp; try with_reducible rfl)
    try simp only [Act.put, List.setIfInBounds_toArray, List.set_cons_zero, List.set_cons_succ]
    refine wpAnyH_ready (rs := [22]) (by kernel_rfl) (by simp) ?_
    refine AllReadyH.cons rfl (fun K hK => ?_) AllReadyH.nil
    go_simp
    go_at_call 39
    (refine (rintE_any B gd oq _ _ HR22 HX.out.2.2.1).mono ?_)
    rintro e w23 ⟨rfl, hr23, hg23⟩
    have HR23 := Lib.hid hr23
    have HM23 : Hid (Mod (fun b => b = gd) wr w23) := Lib.hid (HM22.out.then_grown hg23 (fun g e => by injection e with e; exact .inl e.symm))
    clear hr23 hg23
    go_wp2
    refine hK.out _ _ ?_ (fun hh22 => ?_)
    · exact (HC.out _ HM23.out).1
    clear hK K
    try simp only [Act.put, List.setIfInBounds_toArray, List.set_cons_zero, List.set_cons_succ]
    first
    | refine skipH 29 (some 119) (by rfl) (by rfl) (by kernel_rfl) (by kernel_rfl) (by kernel_rfl) (fun _ _ _ h => h) (by assumption) ?_
    | refine takeH 29 (some 119) (v := .bool false) (by rfl) (by rfl) (by kernel_rfl) (by kernel_rfl) (by kernel_rfl) (fun _ _ _ h => h) ?_ (by assumption) ?_
      skip
      · (intro o ho w hSw; obtain ⟨z0, z1, z2, z3, z4⟩ := hSw; cases ho; go_simp; try with_reducible rfl)
    try simp only [Act.put, List.setIfInBounds_toArray, List.set_cons_zero, List.set_cons_succ]
    refine takeH 30 (some 120) (v := .bool false) (by rfl) (by rfl) (by kernel_rfl) (by kernel_rfl) (by kernel_rfl) (fun _ _ _ h => h) ?_ (by assumption) ?_
    skip
    · (intro o ho w hSw; obtain ⟨z0, z1, z2, z3, z4⟩ := hSw; cases ho; go_simp; try with_reducible rfl)
    try simp only [Act.put, List.setIfInBounds_toArray, List.set_cons_zero, List.set_cons_succ]
    refine takeH 31 (some 121) (v := ?_) (by rfl) (by rfl) (by kernel_rfl) (by kernel_rfl) (by kernel_rfl) (fun _ _ _ h => h) ?_ (by assumption) ?_
    rotate_left
    · (intro o ho w hSw; obtain ⟨z0, z1, z2, z3, z4⟩ := hSw; cases ho; go_simp; try with_reducible rfl)
    try simp only [Act.put, List.setIfInBounds_toArray, List.set_cons_zero, List.set_cons_succ]
    first
    | refine skipH 32 (some 122) (by rfl) (by rfl) (by kernel_rfl) (by kernel_rfl) (by kernel_rfl) (fun _ _ _ h => h) (by assumption) ?_
    | refine takeH 32 (some 122) (v := ?_) (by rfl) (by rfl) (by kernel_rfl) (by kernel_rfl) (by kernel_rfl) (fun _ _ _ h => h) ?_ (by assumption) ?_
      rotate_left
      · (intro o ho w hSw; obtain ⟨z0, z1, z2, z3, z4⟩ := hSw; cases ho; go_simp; try with_reducible rfl)
    try simp only [Act.put, List.setIfInBounds_toArray, List.set_cons_zero, List.set_cons_succ]
    first
    | refine skipH 34 (some 124) (by rfl) (by rfl) (by kernel_rfl) (by kernel_rfl) (by kernel_rfl) (fun _ _ _ h => h) (by assumption) ?_
    | refine takeH 34 (some 124) (v := ?_) (by rfl) (by rfl) (by kernel_rfl) (by kernel_rfl) (by kernel_rfl) (fun _ _ _ h => h) ?_ (by assumption) ?_
      rotate_left
      · (intro o ho w hSw; obtain ⟨z0, z1, z2, z3, z4⟩ := hSw; cases ho; go_simp; try with_reducible rfl)
    try simp only [Act.put, List.setIfInBounds_toArray, List.set_cons_zero, List.set_cons_succ]
    first
    | refine skipH 35 (some 125) (by rfl) (by rfl) (by kernel_rfl) (by kernel_rfl) (by kernel_rfl) (fun _ _ _ h => h) (by assumption) ?_
    | refine takeH 35 (some 125) (v := ?_) (by rfl) (by rfl) (by kernel_rfl) (by kernel_rfl) (by kernel_rfl) (fun _ _ _ h => h) ?_ (by assumption) ?_
      rotate_left
      · (intro o ho w hSw; obtain ⟨z0, z1, z2, z3, z4⟩ := hSw; cases ho; go_simp; try with_reducible rfl)
    try simp only [Act.put, List.setIfInBounds_toArray, List.set_cons_zero, List.set_cons_succ]
    first
    | refine skipH 36 (some 126) (by rfl) (by rfl) (by kernel_rfl) (by kernel_rfl) (by kernel_rfl) (fun _ _ _ h => h) (by assumption) ?_
    | refine takeH 36 (some 126) (v := ?_) (by rfl) (by rfl) (by kernel_rfl) (by kernel_rfl) (by kernel_rfl) (fun _ _ _ h => h) ?_ (by assumption) ?_
      rotate_left
      · (intro o ho w hSw; obtain ⟨z0, z1, z2, z3, z4⟩ := hSw; cases ho; go_simp; try with_reducible rfl)
    try simp only [Act.put, List.setIfInBounds_toArray, List.set_cons_zero, List.set_cons_succ]
    first
    | refine skipH 37 (some 127) (by rfl) (by rfl) (by kernel_rfl) (by kernel_rfl) (by kernel_rfl) (fun _ _ _ h => h) (by assumption) ?_
    | refine takeH 37 (some 127) (v := ?_) (by rfl) (by rfl) (by kernel_rfl) (by kernel_rfl) (by kernel_rfl) (fun _ _ _ h => h) ?_ (by assumption) ?_
      rotate_left
      · (intro o ho w hSw; obtain ⟨z0, z1, z2, z3, z4⟩ := hSw; cases ho; go_simp; try with_reducible rfl)
    try simp only [Act.put, List.setIfInBounds_toArray, List.set_cons_zero, List.set_cons_succ]
    first
    | refine skipH 38 (some 128) (by rfl) (by rfl) (by kernel_rfl) (by kernel_rfl) (by kernel_rfl) (fun _ _ _ h => h) (by assumption) ?_
    | refine takeH 38 (some 128) (v := ?_) (by rfl) (by rfl) (by kernel_rfl) (by kernel_rfl) (by kernel_rfl) (fun _ _ _ h => h) ?_ (by assumption) ?_
      rotate_left
      · (intro o ho w hSw; obtain ⟨z0, z1, z2, z3, z4⟩ := hSw; cases ho; go_simp; try with_reducible rfl)
    try simp only [Act.put, List.setIfInBounds_toArray, List.set_cons_zero, List.set_cons_succ]
    first
    | refine skipH 39 (some 129) (by rfl) (by rfl) (by kernel_rfl) (by kernel_rfl) (by kernel_rfl) (fun _ _ _ h => h) (by assumption) ?_
    | refine takeH 39 (some 129) (v := ?_) (by rfl) (by rfl) (by kernel_rfl) (by kernel_rfl) (by kernel_rfl) (fun _ _ _ h => h) ?_ (by assumption) ?_
      rotate_left
      · (intro o ho w hSw; obtain ⟨z0, z1, z2, z3, z4⟩ := hSw; cases ho; go_simp; try with_reducible rfl)
    try simp only [Act.put, List.setIfInBounds_toArray, List.set_cons_zero, List.set_cons_succ]
    first
    | refine skipH 40 (some 130) (by rfl) (by rfl) (by kernel_rfl) (by kernel_rfl) (by kernel_rfl) (fun _ _ _ h => h) (by assumption) ?_
    | refine takeH 40 (some 130) (v := ?_) (by rfl) (by rfl) (by kernel_rfl) (by kernel_rfl) (by kernel_rfl) (fun _ _ _ h => h) ?_ (by assumption) ?_
      rotate_left
      · (intro o ho w hSw; obtain ⟨z0, z1, z2, z3, z4⟩ := hSw; cases ho; go_simp; try with_reducible rfl)
    try simp only [Act.put, List.setIfInBounds_toArray, List.set_cons_zero, List.set_cons_succ]
    refine wpAnyH_ready (rs := [33]) (by kernel_rfl) (by simp) ?_
    refine AllReadyH.cons rfl (fun K hK => ?_) AllReadyH.nil
    go_simp
    go_at_call 39
    (refine (rintE_any B gd (sn : Int) _ _ HR23 (by constructor <;> omega)).mono ?_)
    rintro e w24 ⟨rfl, hr24, hg24⟩
    have HR24 := Lib.hid hr24
    have HM24 : Hid (Mod (fun b => b = gd) wr w24) := Lib.hid (HM23.out.then_grown hg24 (fun g e => by injection e with e; exact .inl e.symm))
    clear hr24 hg24
    go_wp2
    refine hK.out _ _ ?_ (fun hh33 => ?_)
    · exact (HC.out _ HM24.out).1
    clear hK K
    try simp only [Act.put, List.setIfInBounds_toArray, List.set_cons_zero, List.set_cons_succ]
    first
    | refine skipH 41 (some 131) (by rfl) (by rfl) (by kernel_rfl) (by kernel_rfl) (by kernel_rfl) (fun _ _ _ h => h) (by assumption) ?_
    | refine takeH 41 (some 131) (v := .bool false) (by rfl) (by rfl) (by kernel_rfl) (by kernel_rfl) (by kernel_rfl) (fun _ _ _ h => h) ?_ (by assumption) ?_
      skip
      · (intro o ho w hSw; obtain ⟨z0, z1, z2, z3, z4⟩ := hSw; cases ho; go_simp; try with_reducible rfl)
    try simp only [Act.put, List.setIfInBounds_toArray, List.set_cons_zero, List.set_cons_succ]
    refine takeH 42 (some 132) (v := .bool false) (by rfl) (by rfl) (by kernel_rfl) (by kernel_rfl) (by kernel_rfl) (fun _ _ _ h => h) ?_ (by assumption) ?_
    skip
    · (intro o ho w hSw; obtain ⟨z0, z1, z2, z3, z4⟩ := hSw; cases ho; go_simp; try with_reducible rfl)
    try simp only [Act.put, List.setIfInBounds_toArray, List.set_cons_zero, List.set_cons_succ]
    refine wpAnyH_done (by kernel_rfl) ?_ _
--@7
    clear hh1 hh11 hh22 hh33 hHeld HR20 HR21 HR22 HR23 HM20 HM21 HM22 HM23
    go_wp2
    obtain ⟨wo, rfl⟩ : ∃ x, x = wr := ⟨_, rfl⟩
    go_loopw [22] (fun iv w2 => ∃ j : Nat, j ≤ sn ∧ iv = .int .i64 (j : Int) ∧ Hid (RdrS w2 B gd (0, (ps.drop j).flatMap encInt ++ (L.drop (i + 1)).flatMap encN)) ∧ Hid (Mod (fun b => b = gd) wo w2)) (fun iv _ => sn - (intOf iv).toNat)
    case atStart => exact ⟨0, by omega, rfl, Lib.hid (by rw [List.drop_zero]; exact HR24.out), HM24⟩
    case round =>
      clear HR24 HM24
      obtain ⟨j, hj, rfl, HRj, HMj⟩ := hrel
      obtain ⟨⟨q1, -, -, -, q3⟩, hin⟩ := HC.out _ HMj.out
      by_cases hjm : j < sn
      rotate_left
      · obtain rfl : j = sn := by omega
        have HR40 : Hid (RdrS wr B gd (0, (L.drop (i + 1)).flatMap encN)) := Lib.hid (by
          have h := HRj.out
          rw [List.drop_of_length_le (by rw [HPL.out]; exact Nat.le_refl _)] at h
          exact h)
        have HM40 : Hid (Mod (fun b => b = gd) w8 wr) := Lib.hid (HMi.out.trans HMj.out (fun b hb => .inl hb))
        clear HRj HMj HMi hin
        go_wp2
        exact ⟨⟨i + 1, by omega, by go_num, HR40, HM40⟩, by simp [intOf]; omega⟩
      obtain ⟨bp, op, hA2, hbp, c0⟩ := hin.cell (k := j) hjm
      dsimp only at hA2
      subst hA2
      have hjl : j < ps.length := by rw [HPL.out]; exact hjm
      have hpj : InI (ps[j]?.getD 0) := by
        rw [List.getElem?_eq_getElem hjl]
        exact HX.out.2.2.2 _ (List.getElem_mem hjl)
      have HP : Hid (∀ w', Mod (fun b => b = gd) wo w' → w'.cell? ⟨bp, op + j, none⟩ = some (.int .i64 (ps[j]?.getD 0))) := Lib.hid (fun w' hm => by
        obtain ⟨b9, o9, e9, -, d9⟩ := (HC.out w' hm).2.cell (k := j) hjm
        injection e9 with e9
        injection e9 with e9 e8 _
        subst e9 e8
        exact d9)
      have HR30 : Hid (RdrS wr.drew B gd (0, encInt (ps[j]?.getD 0) ++ ((ps.drop (j + 1)).flatMap encInt ++ (L.drop (i + 1)).flatMap encN))) := Lib.hid (by
        have h := HRj.out.low (Mod.of_below (fun _ => False) (below_drewN (Below.refl wr.heap.size wr) 1)) (fun _ hf => hf.elim)
        rw [List.drop_eq_getElem_cons hjl, List.flatMap_cons] at h
        rw [List.getElem?_eq_getElem hjl]
        simp only [List.append_assoc] at h
        exact h)
      have HM30 : Hid (Mod (fun b => b = gd) wo wr.drew) := Lib.hid (HMj.out.drew)
      obtain ⟨pj, hpe⟩ : ∃ q, ps[j]?.getD 0 = q := ⟨_, rfl⟩
      rw [hpe] at hpj HP HR30
      have hji : (j : Int) < (sn : Int) := by omega
      clear hpe c0 hbp hin hjl HRj HMj
      go_wp2
      clear q1 q3
--@8
      refine wp_region_held_drew (S := (fun w' => w'.cell? ⟨gp, 1, none⟩ = some (.slice (some ⟨bn, on, none⟩) mp cp) ∧ w'.cell? ⟨bn, on + i * 4 + 3, none⟩ = some (.slice (some ⟨bp, op, none⟩) sn sc) ∧ w'.cell? ⟨bp, op + j, none⟩ = some (.int .i64 pj))) (by kernel_rfl) ⟨(HC.out _ HM30.out).1.1, (HC.out _ HM30.out).1.2.2.2.2, HP.out _ HM30.out⟩ (fun hHeld => ?_)
      refine takeH 0 (some 144) (v := ?_) (by rfl) (by rfl) (by kernel_rfl) (by kernel_rfl) (by kernel_rfl) (fun _ _ _ h => h) ?_ (by assumption) ?_
      rotate_left
      · (intro o ho w hSw; obtain ⟨z0, z1, z2⟩ := hSw; cases ho; go_simp; try with_reducible rfl)
      try simp only [Act.put, List.setIfInBounds_toArray, List.set_cons_zero, List.set_cons_succ]
      refine takeH 2 (some 146) (v := ?_) (by rfl) (by rfl) (by kernel_rfl) (by kernel_rfl) (by kernel_rfl) (fun _ _ _ h => h) ?_ (by assumption) ?_
      rotate_left
      · (intro o ho w hSw; obtain ⟨z0, z1, z2⟩ := hSw; cases ho; go_simp; try with_reducible rfl)
      try simp only [Act.put, List.setIfInBounds_toArray, List.set_cons_zero, List.set_cons_succ]
      refine takeH 3 (some 147) (v := ?_) (by rfl) (by rfl) (by kernel_rfl) (by kernel_rfl) (by kernel_rfl) (fun _ _ _ h => h) ?_ (by assumption) ?_
      rotate_left
      · (intro o ho w hSw; obtain ⟨z0, z1, z2⟩ := hSw; cases ho; go_simp; try with_reducible rfl)
      try simp only [Act.put, List.setIfInBounds_toArray, List.set_cons_zero, List.set_cons_succ]
      refine takeH 4 (some 148) (v := ?_) (by rfl) (by rfl) (by kernel_rfl) (by kernel_rfl) (by kernel_rfl) (fun _ _ _ h => h) ?_ (by assumption) ?_
      rotate_left
      · (intro o ho w hSw; obtain ⟨z0, z1, z2⟩ := hSw; cases ho; go_simp; try with_reducible rfl)
      try simp only [Act.put, List.setIfInBounds_toArray, List.set_cons_zero, List.set_cons_succ]
      refine takeH 5 (some 149) (v := ?_) (by rfl) (by rfl) (by kernel_rfl) (by kernel_rfl) (by kernel_rfl) (fun _ _ _ h => h) ?_ (by assumption) ?_
      rotate_left
      · (intro o ho w hSw; obtain ⟨z0, z1, z2⟩ := hSw; cases ho; go_simp; try with_reducible rfl)
      try simp only [Act.put, List.setIfInBounds_toArray, List.set_cons_zero, List.set_cons_succ]
      refine takeH 6 (some 150) (v := ?_) (by rfl) (by rfl) (by kernel_rfl) (by kernel_rfl) (by kernel_rfl) (fun _ _ _ h => h) ?_ (by assumption) ?_
      rotate_left
      · (intro o ho w hSw; obtain ⟨z0, z1, z2⟩ := hSw; cases ho; go_simp; try with_reducible rfl)
      try simp only [Act.put, List.setIfInBounds_toArray, List.set_cons_zero, List.set_cons_succ]
      refine takeH 7 (some 151) (v := ?_) (by rfl) (by rfl) (by kernel_rfl) (by kernel_rfl) (by kernel_rfl) (fun _ _ _ h => h) ?_ (by assumption) ?_
      rotate_left
      · (intro o ho w hSw; obtain ⟨z0, z1, z2⟩ := hSw; cases ho; go_simp; try with_reducible rfl)
      try simp only [Act.put, List.setIfInBounds_toArray, List.set_cons_zero, List.set_cons_succ]
      refine takeH 8 (some 152) (v := ?_) (by rfl) (by rfl) (by kernel_rfl) (by kernel_rfl) (by kernel_rfl) (fun _ _ _ h => h) ?_ (by assumption) ?_
      rotate_left
      · (intro o ho w hSw; obtain ⟨z0, z1, z2⟩ := hSw; cases ho; go_simp; try with_reducible rfl)
      try simp only [Act.put, List.setIfInBounds_toArray, List.set_cons_zero, List.set_cons_succ]
      refine takeH 9 (some 153) (v := ?_) (by rfl) (by rfl) (by kernel_rfl) (by kernel_rfl) (by kernel_rfl) (fun _ _ _ h => h) ?_ (by assumption) ?_
      rotate_left
      · (intro o ho w hSw; obtain ⟨z0, z1, z2⟩ := hSw; cases ho; go_simp; try with_reducible rfl)
      try simp only [Act.put, List.setIfInBounds_toArray, List.set_cons_zero, List.set_cons_succ]
      refine takeH 10 (some 154) (v := ?_) (by rfl) (by rfl) (by kernel_rfl) (by kernel_rfl) (by kernel_rfl) (fun _ _ _ h => h) ?_ (by assumption) ?_
      rotate_left
      · (intro o ho w hSw; obtain ⟨z0, z1, z2⟩ := hSw; cases ho; go_simp; try with_reducible rfl)
      try simp only [Act.put, List.setIfInBounds_toArray, List.set_cons_zero, List.set_cons_succ]
      refine wpAnyH_ready (rs := [1]) (by kernel_rfl) (by simp) ?_
      refine AllReadyH.cons rfl (fun K hK => ?_) AllReadyH.nil
      go_simp
      go_at_call 39
      (refine (rintE_any B gd pj _ _ HR30 hpj).mono ?_)
      rintro e w31 ⟨rfl, hr31, hg31⟩
      have HR31 := Lib.hid hr31
      have HM31 : Hid (Mod (fun b => b = gd) wo w31) := Lib.hid (HM30.out.then_grown hg31 (fun g e => by injection e with e; exact .inl e.symm))
      clear hr31 hg31
      go_wp2
      refine hK.out _ _ ?_ (fun hh1 => ?_)
      · exact ⟨(HC.out _ HM31.out).1.1, (HC.out _ HM31.out).1.2.2.2.2, HP.out _ HM31.out⟩
      clear hK K
      try simp only [Act.put, List.setIfInBounds_toArray, List.set_cons_zero, List.set_cons_succ]
      refine takeH 11 (some 155) (v := .bool false) (by rfl) (by rfl) (by kernel_rfl) (by kernel_rfl) (by kernel_rfl) (fun _ _ _ h => h) ?_ (by assumption) ?_
      skip
      · (intro o ho w hSw; obtain ⟨z0, z1, z2⟩ := hSw; cases ho; go_simp; try with_reducible rfl)
      try simp only [Act.put, List.setIfInBounds_toArray, List.set_cons_zero, List.set_cons_succ]
      refine wpAnyH_done (by kernel_rfl) ?_ _
--@9
      clear hh1 hHeld HR30 HM30
      go_wp2
      exact ⟨⟨j + 1, by omega, by go_num, HR31, HM31⟩, by simp [intOf]; omega⟩


set_option maxRecDepth 100000 in
theorem ProofEncoding_lifted (os : Os) (started : os.Started) (H : Type) (enc : TypeId × Value → H) :
    ReturnsInHanded {} Try.checked os 9 .any (Rows.proofEncodingSpec.pre6 enc Try.prog Try.f9 Rows.proofEncodingRow.domain false) (Rows.proofEncodingSpec.post enc Try.prog Try.f9 false true false false) := by
  refine returnsInHanded_of_change (C := Try.checked) Try.own started (by kernel_rfl) Try.func9
    (ChangeSpec.witness6 (enc := enc) (C := Try.checked) false ⟨#[], #[.int .i64 0, .slice none 0 0, .int .i64 0, .int .i64 0, .int .i64 0, .int .u8 0, .slice none 0 0], []⟩ 8 (by kernel_rfl) (by kernel_rfl) (by kernel_rfl) (by kernel_rfl)) ?_
  intro W base args ds gs before hval0 hW _ _
  have hval : ∀ (j : Nat) t v, Try.f9.params[j]? = some t → args[j]? = some v → Value.okWide Try.prog W .any base t v := hval0
  have hW' := hW
  obtain ⟨p, q, hT0, hV, rfl, hfz, hnd⟩ := hW
  have hT : DataW.TrodAll enc Try.prog W 0 (fun _ => true) true Try.f9.params.toList args.toList ds p := hT0
  rw [Try.params9] at hT hval
  obtain ⟨v0, vs0, d0, ds0, p0, q0, hargs0, rfl, rfl, h0, r0⟩ := trodAll_cons hT
  obtain ⟨v1, vs1, d1, ds1, p1, q1, hargs1, rfl, rfl, h1, r1⟩ := trodAll_cons r0
  obtain ⟨v2, vs2, d2, ds2, p2, q2, hargs2, rfl, rfl, h2, r2⟩ := trodAll_cons r1
  obtain ⟨v3, vs3, d3, ds3, p3, q3, hargs3, rfl, rfl, h3, r3⟩ := trodAll_cons r2
  obtain ⟨v4, vs4, d4, ds4, p4, q4, hargs4, rfl, rfl, h4, r4⟩ := trodAll_cons r3
  obtain ⟨v5, vs5, d5, ds5, p5, q5, hargs5, rfl, rfl, h5, r5⟩ := trodAll_cons r4
  obtain ⟨v6, vs6, d6, ds6, p6, q6, hargs6, rfl, rfl, h6, r6⟩ := trodAll_cons r5
  obtain ⟨rfl, rfl, rfl⟩ := trodAll_nil r6
  obtain rfl : args = #[v0, v1, v2, v3, v4, v5, v6] := by cases args; simp_all
  obtain ⟨a0, rfl, -, -, w0⟩ := open_int Try.underlying3 (hval 0 3 v0 rfl rfl) h0
  obtain ⟨A1, n1, c1, f1, rfl, hA1, hn1, hc1, hR1, hw1⟩ := open_sl Try.underlying22 Try.underlying3 (by kernel_rfl) (hval 1 22 v1 rfl rfl) h1
  obtain ⟨a2, rfl, -, -, w2⟩ := open_int Try.underlying3 (hval 2 3 v2 rfl rfl) h2
  obtain ⟨a3, rfl, -, -, w3⟩ := open_int Try.underlying3 (hval 3 3 v3 rfl rfl) h3
  obtain ⟨a4, rfl, -, -, w4⟩ := open_int Try.underlying3 (hval 4 3 v4 rfl rfl) h4
  obtain ⟨a5, rfl, -, -, w5⟩ := open_int Try.underlying5 (hval 5 5 v5 rfl rfl) h5
  obtain ⟨A6, n6, c6, f6, rfl, hA6, hn6, hc6, hR6, hw6⟩ := open_sl Try.underlying72 Try.underlying5 (by kernel_rfl) (hval 6 72 v6 rfl rfl) h6
  refine (ProofEncoding_walk W a0 w0 A1 n1 c1 f1 hA1 hn1 hc1 hR1 hw1 a2 w2 a3 w3 a4 w4 a5 w5 A6 n6 c6 f6 hA6 hn6 hc6 hR6 hw6).mono fun e W' ⟨he, hb⟩ => ?_
  subst he
  exact ⟨_, rfl, law_post Try.laidOut (by kernel_rfl) (by kernel_rfl) Try.underlying4 rfl hW' rfl hb⟩

theorem ProofEncoding_holds : Rows.ProofEncodingSaid :=
  OpenClaim.holds_of_wide 9 Try.f9 rfl rfl rfl rfl rfl rfl rfl ⟨rfl, rfl, rfl, rfl, rfl⟩ rfl rfl rfl rfl rfl (by kernel_rfl) Try.func9 (by kernel_rfl)
    (of_decide_eq_true (by kernel_rfl)) (by unfold Func.isWrapper; first | (rw [if_pos (by decide +kernel)]; kernel_rfl) | (rw [if_neg (by decide +kernel)]; exact ⟨rfl, rfl⟩))
    (fun os started H enc _ => ProofEncoding_lifted os started H enc)

end Go.Proofs.Ytikfcpkobgejmaa
