/- Part 2 of the texts that JournalApart needs: WirePlain HashPlain HashInj WireBits WireWriter WireRead WireReader WireReader2 WireRound. -/
import Derived.WalkKit
import GoSem.Claim
import Derived.Test.YtldmokjpfnakkaaProg
import Derived.Lib.AppendStr
import Derived.Lib.Hide
import Derived.WalkSpells
import Derived.WalkLawsBesides
import Derived.Test.YtldmokjpfnakkaaGJournalApart1

/- Plain Lean: varints, zigzag, and reading them. -/
namespace Go.Proofs.Ytldmokjpfnakkaa
open Go.RowKit

/-- The varint of a number. -/
def varint (n : Nat) : List UInt8 := if _h : n < 128 then [UInt8.ofNat n] else UInt8.ofNat (n % 128 + 128) :: varint (n / 128)
termination_by n
decreasing_by omega
theorem varint_lt {n : Nat} (h : n < 128) : varint n = [UInt8.ofNat n] := by rw [varint, dif_pos h]
theorem varint_ge {n : Nat} (h : 128 ≤ n) : varint n = UInt8.ofNat (n % 128 + 128) :: varint (n / 128) := by rw [varint, dif_neg (by omega)]
theorem varint_len (k : Nat) : ∀ {n : Nat}, n < 128 ^ (k + 1) → (varint n).length ≤ k + 1 := by
  induction k with
  | zero => intro n h; rw [varint_lt (by simpa using h)]; simp
  | succ k ih =>
    intro n h
    by_cases h1 : n < 128
    · rw [varint_lt h1]; simp
    · rw [varint_ge (by omega)]
      have : n / 128 < 128 ^ (k + 1) := Nat.div_lt_of_lt_mul (by rw [Nat.pow_succ] at h; omega)
      have := ih this
      simp only [List.length_cons]; omega
theorem varint_len10 {n : Nat} (h : n ≤ 18446744073709551615) : (varint n).length ≤ 10 := varint_len 9 (by omega)
theorem varint_pos (n : Nat) : 0 < (varint n).length := by
  by_cases h : n < 128
  · rw [varint_lt h]; simp
  · rw [varint_ge (by omega)]; simp
/-- The zigzag form. -/
def zigI (n : Int) : Nat := if n < 0 then (2 * (-(n + 1)) + 1).toNat else (2 * n).toNat
def unzigI (z : Nat) : Int := if z % 2 = 1 then -((z / 2 : Nat) : Int) - 1 else ((z / 2 : Nat) : Int)
theorem zigI_lt {n : Int} (h1 : -9223372036854775808 ≤ n) (h2 : n ≤ 9223372036854775807) : zigI n ≤ 18446744073709551615 := by unfold zigI; split <;> omega
theorem unzig_zig (n : Int) : unzigI (zigI n) = n := by unfold unzigI zigI; split <;> split <;> omega
theorem zig_unzig (z : Nat) : zigI (unzigI z) = z := by unfold unzigI zigI; split <;> split <;> omega
theorem unzigI_range {z : Nat} (h : z ≤ 18446744073709551615) : -9223372036854775808 ≤ unzigI z ∧ unzigI z ≤ 9223372036854775807 := by unfold unzigI; split <;> omega

/-- The encodings. -/
def encInt (n : Int) : List UInt8 := varint (zigI n)
def encBool (b : Bool) : List UInt8 := if b then [1] else [0]
def encRaw (bs : List UInt8) : List UInt8 := varint bs.length ++ bs
def encInts (l : List Int) : List UInt8 := varint l.length ++ l.flatMap encInt
def encIntsTo (l : List Int) (k : Nat) : List UInt8 := varint l.length ++ (l.take k).flatMap encInt
theorem encIntsTo_zero (l : List Int) : encIntsTo l 0 = varint l.length := by simp [encIntsTo]
theorem encIntsTo_succ (l : List Int) (k : Nat) (hk : k < l.length) : encIntsTo l (k + 1) = encIntsTo l k ++ encInt (l[k]?.getD 0) := by
  unfold encIntsTo
  rw [List.take_succ_eq_append_getElem hk, List.flatMap_append, List.append_assoc]
  simp [hk]
theorem encIntsTo_all (l : List Int) (n : Nat) (h : l.length ≤ n) : encIntsTo l n = encInts l := by unfold encIntsTo encInts; rw [List.take_of_length_le h]

theorem ofNat_toNat {n : Nat} (h : n < 256) : (((UInt8.ofNat n).toNat : Nat) : Int) = (n : Int) := by rw [UInt8.toNat_ofNat']; omega
end Go.Proofs.Ytldmokjpfnakkaa

/- Plain facts on the 64-bit hash of package hash: no program in sight. -/
namespace Go.Proofs.Ytldmokjpfnakkaa
open Go.RowKit

/-- One step of the hash, as the walk spells it. -/
def mixI (a b : Int) : Int :=
  bits BinOp.xor IntKind.u64 (IntKind.u64.wrap (bits BinOp.xor IntKind.u64 a b * 11400714819323198485))
    (IntKind.u64.wrap (bits BinOp.xor IntKind.u64 a b * 11400714819323198485) / 4294967296)

theorem wrap_u64 (n : Int) : IntKind.u64.wrap n = n % 18446744073709551616 := by
  simp [IntKind.wrap, IntKind.bits, IntKind.signed]
theorem mixI_alt (a b : Int) : mixI a b = bits BinOp.xor IntKind.u64 (IntKind.u64.wrap (bits BinOp.xor IntKind.u64 a b * 11400714819323198485))
    (IntKind.u64.wrap ((IntKind.u64.wrap (bits BinOp.xor IntKind.u64 a b * 11400714819323198485)).tdiv 4294967296)) := by
  unfold mixI
  congr 1
  generalize bits BinOp.xor IntKind.u64 a b * 11400714819323198485 = x
  rw [wrap_u64, wrap_u64]
  have h0 : 0 ≤ x % 18446744073709551616 := Int.emod_nonneg _ (by decide)
  have h1 : x % 18446744073709551616 < 18446744073709551616 := Int.emod_lt_of_pos _ (by decide)
  rw [Int.tdiv_eq_ediv_of_nonneg h0]
  omega

/-- The little-endian number of a list of bytes. -/
def wordN : List UInt8 → Nat
  | [] => 0
  | b :: bs => b.toNat + 256 * wordN bs

theorem wordN_lt (bs : List UInt8) : wordN bs < 256 ^ bs.length := by
  induction bs with
  | nil => simp [wordN]
  | cons b bs ih =>
    have hb : b.toNat < 256 := b.toNat_lt
    simp only [wordN, List.length_cons, Nat.pow_succ]
    omega

theorem wordN_snoc (bs : List UInt8) (b : UInt8) : wordN (bs ++ [b]) = wordN bs + 256 ^ bs.length * b.toNat := by
  induction bs with
  | nil => simp [wordN]
  | cons c bs ih =>
    simp only [List.cons_append, wordN, ih, List.length_cons, Nat.pow_succ, Nat.mul_add]
    have : 256 * (256 ^ bs.length * b.toNat) = 256 ^ bs.length * 256 * b.toNat := by
      rw [← Nat.mul_assoc, Nat.mul_comm 256]
    omega

/-- Group number k of 8 bytes. -/
def group (bs : List UInt8) (k : Nat) : List UInt8 := (bs.drop (8 * k)).take 8

def nwords (bs : List UInt8) : Nat := (bs.length + 7) / 8

def wordAt (bs : List UInt8) (k : Nat) : Int := (wordN (group bs k) : Nat)

/-- The words of a list of bytes, the first k of them. -/
def wordsTo (bs : List UInt8) (k : Nat) : List Int := (List.range k).map (wordAt bs)
def wordsI (bs : List UInt8) : List Int := wordsTo bs (nwords bs)

theorem wordsTo_succ (bs : List UInt8) (k : Nat) : wordsTo bs (k + 1) = wordsTo bs k ++ [wordAt bs k] := by simp [wordsTo, List.range_succ]
theorem wordsTo_zero (bs : List UInt8) : wordsTo bs 0 = [] := rfl
theorem wordsTo_length (bs : List UInt8) (k : Nat) : (wordsTo bs k).length = k := by simp [wordsTo]

theorem group_length (bs : List UInt8) (k : Nat) : (group bs k).length = min 8 (bs.length - 8 * k) := by simp [group]

/-- One round of the program's loop over a group. -/
theorem word_step (g : List UInt8) (j : Nat) (h8 : j < 8) (hj : j < g.length) :
    bits BinOp.or IntKind.u64 ((wordN (g.take j) : Nat) : Int) (IntKind.u64.wrap (IntKind.u64.wrap (((g[j]?.getD 0).toNat : Nat) : Int) * 2 ^ (8 * j))) = ((wordN (g.take (j + 1)) : Nat) : Int) := by
  have hb : (g[j]?.getD 0).toNat < 256 := UInt8.toNat_lt _
  have hlt := wordN_lt (g.take j)
  have hl : (g.take j).length = j := by simp; omega
  rw [hl] at hlt
  have hp : (256 : Nat) ^ j = 2 ^ (8 * j) := by rw [show (256 : Nat) = 2 ^ 8 from rfl, ← Nat.pow_mul]
  have hpw : 2 ^ (8 * j) ≤ 2 ^ 56 := Nat.pow_le_pow_right (by decide) (by omega)
  have e1 : wordN (g.take (j + 1)) = wordN (g.take j) + 2 ^ (8 * j) * (g[j]?.getD 0).toNat := by
    rw [List.take_succ_eq_append_getElem hj, wordN_snoc, hl, hp]
    simp [hj]
  generalize (g[j]?.getD 0).toNat = c at *
  generalize wordN (g.take j) = x at *
  have hcm : 2 ^ (8 * j) * c ≤ 2 ^ 56 * 255 := Nat.mul_le_mul hpw (by omega)
  rw [wrap_u64, wrap_u64]
  have e2 : ((c : Int) % 18446744073709551616 * 2 ^ (8 * j)) % 18446744073709551616 = ((2 ^ (8 * j) * c : Nat) : Int) := by
    rw [Int.emod_eq_of_lt (a := (c : Int)) (by omega) (by omega)]
    rw [show ((c : Int) * 2 ^ (8 * j)) = ((2 ^ (8 * j) * c : Nat) : Int) from by push_cast; exact Int.mul_comm _ _]
    exact Int.emod_eq_of_lt (by omega) (by omega)
  rw [e2, u64_or_nat _ _ (by omega) (by omega), e1]
  congr 1
  rw [Nat.or_comm, ← Nat.two_pow_add_eq_or_of_lt (by omega)]
  omega

/-- One round of the reference's loop over a group. -/
theorem word_back (g : List UInt8) (r : Nat) (hr : r < g.length) (h8 : g.length ≤ 8) :
    IntKind.u64.wrap (IntKind.u64.wrap (256 * ((wordN (g.drop (r + 1)) : Nat) : Int)) + IntKind.u64.wrap (((g[r]?.getD 0).toNat : Nat) : Int)) = ((wordN (g.drop r) : Nat) : Int) := by
  have e : wordN (g.drop r) = (g[r]?.getD 0).toNat + 256 * wordN (g.drop (r + 1)) := by
    rw [List.drop_eq_getElem_cons hr, wordN]
    simp [hr]
  have h1 := wordN_lt (g.drop r)
  have h2 : 256 ^ (g.drop r).length ≤ 256 ^ 8 := Nat.pow_le_pow_right (by decide) (by simp; omega)
  rw [wrap_u64, wrap_u64, wrap_u64]
  omega

theorem group_take (bs : List UInt8) (k m : Nat) (h : (group bs k).length ≤ m) : (group bs k).take m = group bs k := List.take_of_length_le h

/-- All the steps of a list of words. -/
def mixAll (s : Int) (ws : List Int) : Int := ws.foldl mixI s
theorem mixAll_snoc (s : Int) (ws : List Int) (x : Int) : mixAll s (ws ++ [x]) = mixI (mixAll s ws) x := by simp [mixAll]
theorem mixAll_nil (s : Int) : mixAll s [] = s := rfl

/-- An int as a word. -/
def toU (n : Int) : Int := IntKind.u64.wrap n
/-- A word as an int. -/
def toI (n : Int) : Int := wrap64 n

/-- The hash of a label and integers. -/
def sumI (label : List UInt8) (ws : List Int) : Int :=
  mixI (mixAll (mixI (mixI (mixAll 0 (wordsI label)) (label.length : Nat)) (ws.length : Nat)) (ws.map toU)) 0

/-- The state behind the first j integers. -/
def sumTo (label : List UInt8) (n : Nat) (ws : List Int) (j : Nat) : Int :=
  mixAll (mixI (mixI (mixAll 0 (wordsI label)) (label.length : Nat)) (n : Nat)) ((ws.take j).map toU)
theorem sumTo_zero (label : List UInt8) (n : Nat) (ws : List Int) : sumTo label n ws 0 = mixI (mixI (mixAll 0 (wordsI label)) (label.length : Nat)) (n : Nat) := rfl
theorem sumTo_succ (label : List UInt8) (n : Nat) (ws : List Int) (j : Nat) (hj : j < ws.length) : sumTo label n ws (j + 1) = mixI (sumTo label n ws j) (IntKind.u64.wrap (ws[j]?.getD 0)) := by
  unfold sumTo
  rw [List.take_succ_eq_append_getElem hj, List.map_append, List.map_cons, List.map_nil, mixAll_snoc]
  simp [hj, toU]
theorem sumTo_all (label : List UInt8) (n : Nat) (ws : List Int) (hn : ws.length = n) : mixI (sumTo label n ws n) 0 = sumI label ws := by
  unfold sumTo sumI
  rw [List.take_of_length_le (by omega), hn]

def bytesI (label bs : List UInt8) : Int := sumI label ((wordsI bs).map toI ++ [((bs.length : Nat) : Int)])

def pairBytes : List UInt8 := [112, 97, 105, 114]
def pairI (a b : Int) : Int := sumI pairBytes [toI a, toI b]

end Go.Proofs.Ytldmokjpfnakkaa

/- The hash is one to one in each of its words: no program in sight. -/
namespace Go.Proofs.Ytldmokjpfnakkaa
open Go.RowKit

/-- A word of 64 bits. -/
def InU (n : Int) : Prop := 0 ≤ n ∧ n < 18446744073709551616

def mixB (s w : BitVec 64) : BitVec 64 := ((s ^^^ w) * 11400714819323198485#64) ^^^ (((s ^^^ w) * 11400714819323198485#64) >>> 32)

theorem bits_xor_u64 (a b : Int) : bits BinOp.xor IntKind.u64 a b = ((BitVec.ofInt 64 a ^^^ BitVec.ofInt 64 b).toNat : Int) := by
  show IntKind.u64.wrap ((BitVec.ofInt 64 a ^^^ BitVec.ofInt 64 b).toNat : Int) = _
  rw [wrap_u64]
  have := (BitVec.ofInt 64 a ^^^ BitVec.ofInt 64 b).isLt
  omega

theorem ofInt_toNat64 (x : BitVec 64) : BitVec.ofInt 64 (x.toNat : Int) = x := by
  rw [BitVec.ofInt_natCast, BitVec.ofNat_toNat, BitVec.setWidth_eq]

theorem mixI_eq (a b : Int) : mixI a b = ((mixB (BitVec.ofInt 64 a) (BitVec.ofInt 64 b)).toNat : Int) := by
  have hm : IntKind.u64.wrap (bits BinOp.xor IntKind.u64 a b * 11400714819323198485) = (((BitVec.ofInt 64 a ^^^ BitVec.ofInt 64 b) * 11400714819323198485#64).toNat : Int) := by
    rw [bits_xor_u64, wrap_u64, BitVec.toNat_mul]
    simp
  unfold mixI mixB
  rw [hm]
  generalize (BitVec.ofInt 64 a ^^^ BitVec.ofInt 64 b) * 11400714819323198485#64 = m
  have hs : (m.toNat : Int) / (4294967296 : Int) = ((m >>> 32).toNat : Int) := by
    rw [BitVec.toNat_ushiftRight, Nat.shiftRight_eq_div_pow]
    rfl
  rw [hs, bits_xor_u64, ofInt_toNat64, ofInt_toNat64]

theorem xorshift_inj (m m' : BitVec 64) (h : m ^^^ (m >>> 32) = m' ^^^ (m' >>> 32)) : m = m' := by
  have h2 : m >>> 32 = m' >>> 32 := by
    have e : ∀ x : BitVec 64, (x ^^^ (x >>> 32)) >>> 32 = x >>> 32 := by
      intro x
      rw [BitVec.ushiftRight_xor_distrib, ← BitVec.shiftRight_add]
      have : x >>> (32 + 32) = 0#64 := BitVec.ushiftRight_eq_zero (by decide)
      rw [this, BitVec.xor_zero]
    rw [← e m, ← e m', h]
  rw [h2] at h
  exact (BitVec.xor_left_inj (m' >>> 32)).1 h

theorem mul_inj (x y : BitVec 64) (h : x * 11400714819323198485#64 = y * 11400714819323198485#64) : x = y := by
  have e : ∀ z : BitVec 64, z * 11400714819323198485#64 * 17428512612931826493#64 = z := by
    intro z
    rw [BitVec.mul_assoc, show 11400714819323198485#64 * 17428512612931826493#64 = 1#64 from by decide, BitVec.mul_one]
  rw [← e x, ← e y, h]

theorem mixB_inj_word (s w w' : BitVec 64) (h : mixB s w = mixB s w') : w = w' :=
  (BitVec.xor_right_inj s).1 (mul_inj _ _ (xorshift_inj _ _ h))
theorem mixB_inj_state (s s' w : BitVec 64) (h : mixB s w = mixB s' w) : s = s' :=
  (BitVec.xor_left_inj w).1 (mul_inj _ _ (xorshift_inj _ _ h))

theorem ofInt_inj {a b : Int} (ha : InU a) (hb : InU b) (h : BitVec.ofInt 64 a = BitVec.ofInt 64 b) : a = b := by
  have h' := congrArg BitVec.toNat h
  rw [BitVec.toNat_ofInt, BitVec.toNat_ofInt] at h'
  unfold InU at ha hb
  omega

theorem mixI_in (a b : Int) : InU (mixI a b) := by
  rw [mixI_eq]
  have := (mixB (BitVec.ofInt 64 a) (BitVec.ofInt 64 b)).isLt
  exact ⟨by omega, by omega⟩

theorem mixI_word {s x y : Int} (hx : InU x) (hy : InU y) (h : mixI s x = mixI s y) : x = y := by
  rw [mixI_eq, mixI_eq] at h
  exact ofInt_inj hx hy (mixB_inj_word (BitVec.ofInt 64 s) _ _ (BitVec.eq_of_toNat_eq (Int.ofNat.inj h)))
theorem mixI_state {s t x : Int} (hs : InU s) (ht : InU t) (h : mixI s x = mixI t x) : s = t := by
  rw [mixI_eq, mixI_eq] at h
  exact ofInt_inj hs ht (mixB_inj_state _ _ (BitVec.ofInt 64 x) (BitVec.eq_of_toNat_eq (Int.ofNat.inj h)))

theorem mixAll_in {s : Int} (hs : InU s) (l : List Int) : InU (mixAll s l) := by
  induction l generalizing s with
  | nil => exact hs
  | cons x l ih => exact ih (mixI_in _ _)
theorem mixAll_state {s t : Int} (hs : InU s) (ht : InU t) (l : List Int) (h : mixAll s l = mixAll t l) : s = t := by
  induction l generalizing s t with
  | nil => exact h
  | cons x l ih => exact mixI_state hs ht (ih (mixI_in _ _) (mixI_in _ _) h)

/-- One word apart. -/
theorem mixAll_one {s x y : Int} (l r : List Int) (hx : InU x) (hy : InU y) : mixAll s (l ++ x :: r) = mixAll s (l ++ y :: r) ↔ x = y := by
  constructor
  · intro h
    simp only [mixAll, List.foldl_append, List.foldl_cons] at h
    exact mixI_word hx hy (mixAll_state (mixI_in _ _) (mixI_in _ _) r h)
  · rintro rfl; rfl

theorem toU_in (n : Int) : InU (toU n) := by
  unfold toU; rw [wrap_u64]; exact ⟨Int.emod_nonneg _ (by decide), Int.emod_lt_of_pos _ (by decide)⟩

theorem natU (n : Nat) (h : n < 18446744073709551616) : InU (n : Int) := ⟨by omega, by omega⟩
theorem zeroU : InU 0 := ⟨by decide, by decide⟩

/-- The words that a sum absorbs. -/
def sumWords (label : List UInt8) (ws : List Int) : List Int := wordsI label ++ [((label.length : Nat) : Int), ((ws.length : Nat) : Int)] ++ ws.map toU ++ [0]
theorem sumI_words (label : List UInt8) (ws : List Int) : sumI label ws = mixAll 0 (sumWords label ws) := by
  simp [sumI, sumWords, mixAll]

/-- Two sums whose words differ at one place. -/
theorem sum_one (label : List UInt8) (l r : List Int) (x y : Int) : sumI label (l ++ x :: r) = sumI label (l ++ y :: r) ↔ toU x = toU y := by
  rw [sumI_words, sumI_words]
  have e : ∀ z, sumWords label (l ++ z :: r) = (wordsI label ++ [((label.length : Nat) : Int), (((l ++ z :: r).length : Nat) : Int)] ++ l.map toU) ++ toU z :: (r.map toU ++ [0]) := by
    intro z; simp [sumWords]
  rw [e, e]
  have hl : ∀ z, (l ++ z :: r).length = l.length + r.length + 1 := by intro z; simp; omega
  rw [hl, hl]
  exact mixAll_one _ _ (toU_in _) (toU_in _)

theorem toU_inj {a b : Int} (ha : -9223372036854775808 ≤ a ∧ a ≤ 9223372036854775807) (hb : -9223372036854775808 ≤ b ∧ b ≤ 9223372036854775807) : toU a = toU b ↔ a = b := by
  unfold toU; rw [wrap_u64, wrap_u64]; omega
theorem toU_toI {a : Int} (ha : InU a) : toU (toI a) = a := by
  unfold toU toI wrap64; rw [wrap_u64]; unfold InU at ha; omega

/-- Sums that differ at one integer. -/
theorem sum_set (label : List UInt8) (xs : List Int) (k : Nat) (v : Int) (hk : k < xs.length) (h1 : -9223372036854775808 ≤ xs[k] ∧ xs[k] ≤ 9223372036854775807) (h2 : -9223372036854775808 ≤ v ∧ v ≤ 9223372036854775807) :
    sumI label xs = sumI label (xs.set k v) ↔ xs[k] = v := by
  have e1 : xs = xs.take k ++ xs[k] :: xs.drop (k + 1) := by simp
  have e2 : xs.set k v = xs.take k ++ v :: xs.drop (k + 1) := by rw [List.set_eq_take_append_cons_drop, if_pos hk]
  rw [e2]
  conv => lhs; lhs; rw [e1]
  rw [sum_one, toU_inj h1 h2]

/-- Sums under two labels whose words differ at one place. -/
theorem sum_label_one {la lb : List UInt8} (ws : List Int) {l r : List Int} {x y : Int} (hx : InU x) (hy : InU y) (ea : wordsI la = l ++ x :: r) (eb : wordsI lb = l ++ y :: r) (hl : la.length = lb.length) :
    sumI la ws = sumI lb ws ↔ x = y := by
  rw [sumI_words, sumI_words]
  unfold sumWords
  rw [ea, eb, hl]
  simp only [List.append_assoc, List.cons_append]
  exact mixAll_one _ _ hx hy

theorem wordN_inj : ∀ {a b : List UInt8}, a.length = b.length → wordN a = wordN b → a = b
  | [], [], _, _ => rfl
  | x :: a, y :: b, hl, h => by
    have hx : x.toNat < 256 := x.toNat_lt
    have hy : y.toNat < 256 := y.toNat_lt
    simp only [wordN] at h
    have h1 : x = y := UInt8.toNat_inj.1 (by omega)
    have h2 : a = b := wordN_inj (by simpa using hl) (by omega)
    rw [h1, h2]

theorem group_lt (bs : List UInt8) (k : Nat) : wordN (group bs k) < 18446744073709551616 := by
  have h := wordN_lt (group bs k)
  have h8 : (group bs k).length ≤ 8 := by rw [group_length]; omega
  have := Nat.pow_le_pow_right (n := 256) (by decide) h8
  omega
theorem wordAt_in (bs : List UInt8) (k : Nat) : InU (wordAt bs k) := natU _ (group_lt bs k)

/-- The words, one of them singled out. -/
theorem words_split (bs : List UInt8) (g : Nat) (hg : g < nwords bs) : wordsI bs = (List.range g).map (wordAt bs) ++ wordAt bs g :: ((List.range (nwords bs - g - 1)).map fun j => wordAt bs (g + 1 + j)) := by
  unfold wordsI wordsTo
  obtain ⟨d, hd⟩ : ∃ d, nwords bs = g + (1 + d) := ⟨nwords bs - g - 1, by omega⟩
  rw [hd, List.range_add, List.map_append, List.map_map, List.range_add, List.map_append]
  congr 1
  have : g + (1 + d) - g - 1 = d := by omega
  rw [this]
  simp [Function.comp_def, Nat.add_assoc]

/-- Two lists of bytes of one length that agree outside of group g. -/
theorem words_one {a b : List UInt8} {g : Nat} (hl : a.length = b.length) (hg : g < nwords a) (hout : ∀ j, j ≠ g → group a j = group b j) :
    ∃ l r, wordsI a = l ++ wordAt a g :: r ∧ wordsI b = l ++ wordAt b g :: r := by
  have hn : nwords b = nwords a := by unfold nwords; rw [hl]
  refine ⟨(List.range g).map (wordAt a), _, words_split a g hg, ?_⟩
  rw [words_split b g (by omega), hn]
  congr 1
  · refine List.map_congr_left fun j hj => ?_
    unfold wordAt
    rw [hout j (by have := List.mem_range.1 hj; omega)]
  · congr 1
    refine List.map_congr_left fun j hj => ?_
    unfold wordAt
    rw [hout (g + 1 + j) (by omega)]

theorem groups_ext {a b : List UInt8} (_hl : a.length = b.length) (h : ∀ j, group a j = group b j) : a = b := by
  refine List.ext_getElem? fun i => ?_
  have := congrArg (fun l : List UInt8 => l[i % 8]?) (h (i / 8))
  simp only [group, List.getElem?_take, List.getElem?_drop] at this
  rw [if_pos (by omega), if_pos (by omega)] at this
  have e : 8 * (i / 8) + i % 8 = i := by omega
  rwa [e] at this

/-- Two lists that agree outside of a group have the word of that group in common just where they are one. -/
theorem word_eq_iff {a b : List UInt8} {g : Nat} (hl : a.length = b.length) (hout : ∀ j, j ≠ g → group a j = group b j) : wordAt a g = wordAt b g ↔ a = b := by
  constructor
  · intro h
    have h' : wordN (group a g) = wordN (group b g) := by unfold wordAt at h; omega
    have hgl : (group a g).length = (group b g).length := by rw [group_length, group_length, hl]
    have hg := wordN_inj hgl h'
    exact groups_ext hl fun j => by
      by_cases e : j = g
      · rw [e]; exact hg
      · exact hout j e
  · rintro rfl; rfl

/-- bytes: one group apart. -/
theorem bytes_one (label : List UInt8) {a b : List UInt8} {g : Nat} (hl : a.length = b.length) (hg : g < nwords a) (hout : ∀ j, j ≠ g → group a j = group b j) : bytesI label a = bytesI label b ↔ a = b := by
  obtain ⟨l, r, ea, eb⟩ := words_one hl hg hout
  unfold bytesI
  rw [ea, eb, hl]
  simp only [List.map_append, List.map_cons, List.append_assoc, List.cons_append]
  rw [sum_one, toU_toI (wordAt_in a g), toU_toI (wordAt_in b g)]
  exact word_eq_iff hl hout

/-- labels: one group apart. -/
theorem label_one {a b : List UInt8} (ws : List Int) {g : Nat} (hl : a.length = b.length) (hg : g < nwords a) (hout : ∀ j, j ≠ g → group a j = group b j) : sumI a ws = sumI b ws ↔ a = b := by
  obtain ⟨l, r, ea, eb⟩ := words_one hl hg hout
  rw [sum_label_one ws (wordAt_in a g) (wordAt_in b g) ea eb hl]
  exact word_eq_iff hl hout

/-- A change within one group. -/
theorem group_set {bs : List UInt8} {k : Nat} {v : UInt8} (j : Nat) (hj : j ≠ k / 8) : group (bs.set k v) j = group bs j := by
  unfold group
  refine List.ext_getElem? fun i => ?_
  simp only [List.getElem?_take, List.getElem?_drop]
  split
  · rw [List.getElem?_set_ne (by omega)]
  · rfl

theorem wordN_zero (g : List UInt8) : wordN (g ++ [0]) = wordN g := by rw [wordN_snoc]; simp

/-- A zero byte behind a group that is not full. -/
theorem words_zero (bs : List UInt8) (h : bs.length % 8 ≠ 0) : wordsI (bs ++ [0]) = wordsI bs := by
  have hn : nwords (bs ++ [0]) = nwords bs := by unfold nwords; simp; omega
  unfold wordsI wordsTo
  rw [hn]
  refine List.map_congr_left fun j hj => ?_
  have hj' := List.mem_range.1 hj
  unfold wordAt
  congr 1
  unfold group nwords at *
  rw [List.drop_append_of_le_length (by omega)]
  by_cases h8 : bs.length - 8 * j ≥ 8
  · rw [List.take_append_of_le_length (by simp; omega)]
  · rw [List.take_of_length_le (by simp; omega), List.take_of_length_le (l := bs.drop (8 * j)) (by simp; omega), wordN_zero]

theorem bytes_zero (label bs : List UInt8) (h : bs.length % 8 ≠ 0) (hl : bs.length < 4294967296) : bytesI label (bs ++ [0]) ≠ bytesI label bs := by
  have key : ∀ (l : List Int) (m n : Nat), m < 4294967297 → n < 4294967297 → sumI label (l ++ [((m : Nat) : Int)]) = sumI label (l ++ [((n : Nat) : Int)]) → m = n := by
    intro l m n hm hn e
    have h1 := (sum_one label l [] (m : Int) (n : Int)).1 e
    rw [toU_inj ⟨by omega, by omega⟩ ⟨by omega, by omega⟩] at h1
    omega
  unfold bytesI
  rw [words_zero bs h]
  intro e
  have h2 := key _ _ _ (by rw [List.length_append]; simp only [List.length_cons, List.length_nil]; omega) (by omega) e
  rw [List.length_append] at h2
  simp only [List.length_cons, List.length_nil] at h2
  omega

theorem pair_first {a b : Int} (c : Int) (ha : InU a) (hb : InU b) : pairI a c = pairI b c ↔ a = b := by
  have h := sum_one pairBytes [] [toI c] (toI a) (toI b)
  rw [toU_toI ha, toU_toI hb] at h
  exact h
theorem pair_second {a b : Int} (c : Int) (ha : InU a) (hb : InU b) : pairI c a = pairI c b ↔ a = b := by
  have h := sum_one pairBytes [toI c] [] (toI a) (toI b)
  rw [toU_toI ha, toU_toI hb] at h
  exact h

end Go.Proofs.Ytldmokjpfnakkaa

/- Plain Lean: what the bit operations of package wire come to. -/
namespace Go.Proofs.Ytldmokjpfnakkaa
open Go.RowKit

theorem not64 (x : Nat) (hx : x < 18446744073709551616) : (BitVec.ofNat 64 x ^^^ BitVec.allOnes 64).toNat = 18446744073709551615 - x := by
  rw [BitVec.xor_allOnes, BitVec.toNat_not, BitVec.toNat_ofNat]
  omega
theorem zig_bits {n : Int} (h1 : -9223372036854775808 ≤ n) (h2 : n ≤ 9223372036854775807) :
    bits BinOp.xor IntKind.u64 (IntKind.u64.wrap (IntKind.u64.wrap n * 2)) (IntKind.u64.wrap (n / 9223372036854775808)) = ((zigI n : Nat) : Int) := by
  rw [bits_xor_u64]
  simp only [wrap_u64]
  unfold zigI
  by_cases h : n < 0
  · rw [if_pos h]
    have e1 : n / 9223372036854775808 % 18446744073709551616 = 18446744073709551615 := by omega
    have e2 : n % 18446744073709551616 * 2 % 18446744073709551616 = ((18446744073709551616 + 2 * n).toNat : Int) := by omega
    have e3 : BitVec.ofInt 64 18446744073709551615 = BitVec.allOnes 64 := by decide +kernel
    rw [e1, e2, e3, BitVec.ofInt_natCast, not64 _ (by omega)]
    omega
  · rw [if_neg h]
    have e1 : n / 9223372036854775808 % 18446744073709551616 = 0 := by omega
    have e2 : n % 18446744073709551616 * 2 % 18446744073709551616 = ((2 * n).toNat : Int) := by omega
    rw [e1, e2, BitVec.ofInt_natCast, show BitVec.ofInt 64 0 = 0#64 by decide +kernel, BitVec.xor_zero, BitVec.toNat_ofNat]
    omega
theorem bits_and_one (n : Nat) : bits BinOp.and IntKind.u64 (n : Int) 1 = ((n % 2 : Nat) : Int) := by
  show IntKind.u64.wrap ((BitVec.ofInt 64 (n : Int) &&& BitVec.ofInt 64 1).toNat : Int) = _
  rw [wrap_u64, BitVec.toNat_and, BitVec.ofInt_natCast, BitVec.toNat_ofNat, show (BitVec.ofInt 64 1).toNat = 1 by decide +kernel, Nat.and_one_is_mod]
  omega
theorem unzig_bits {n : Nat} (h : n ≤ 18446744073709551615) :
    bits BinOp.xor IntKind.i64 ((n : Int) / 2) (wrap64 (-wrap64 (bits BinOp.and IntKind.u64 (n : Int) 1))) = unzigI n := by
  rw [bits_and_one n]
  show IntKind.i64.wrap ((BitVec.ofInt 64 ((n : Int) / 2) ^^^ BitVec.ofInt 64 (wrap64 (-wrap64 ((n % 2 : Nat) : Int)))).toNat : Int) = _
  unfold unzigI
  have ew : ∀ x : Int, IntKind.i64.wrap x = (x + 9223372036854775808) % 18446744073709551616 - 9223372036854775808 := by
    intro x
    simp [IntKind.wrap, IntKind.bits, IntKind.signed]
    omega
  have e0 : BitVec.ofInt 64 ((n : Int) / 2) = BitVec.ofNat 64 (n / 2) := by rw [show (n : Int) / 2 = ((n / 2 : Nat) : Int) by omega, BitVec.ofInt_natCast]
  rw [e0]
  by_cases h2 : n % 2 = 1
  · rw [if_pos h2, h2]
    have e1 : wrap64 (-wrap64 ((1 : Nat) : Int)) = -1 := by decide +kernel
    have e3 : BitVec.ofInt 64 (-1) = BitVec.allOnes 64 := by decide +kernel
    rw [e1, e3, not64 _ (by omega), ew]
    omega
  · rw [if_neg h2]
    have e1 : wrap64 (-wrap64 ((n % 2 : Nat) : Int)) = 0 := by rw [show n % 2 = 0 by omega]; decide +kernel
    rw [e1, show BitVec.ofInt 64 0 = 0#64 by decide +kernel, BitVec.xor_zero, BitVec.toNat_ofNat, ew]
    omega
theorem and127_fin : ∀ n : Fin 256, bits BinOp.and IntKind.u8 ((n.val : Nat) : Int) 127 = ((n.val % 128 : Nat) : Int) := by decide +kernel
theorem and127 (c : UInt8) : bits BinOp.and IntKind.u8 ((c.toNat : Nat) : Int) 127 = ((c.toNat % 128 : Nat) : Int) := and127_fin ⟨c.toNat, c.toNat_lt⟩
theorem or_step {i acc : Nat} {c : UInt8} (hi : i ≤ 9) (ha : acc < 128 ^ i) (h9 : i = 9 → c.toNat % 128 ≤ 1) :
    bits BinOp.or IntKind.u64 (acc : Int) (IntKind.u64.wrap (IntKind.u64.wrap (bits BinOp.and IntKind.u8 ((c.toNat : Nat) : Int) 127) * 2 ^ (7 * i))) = ((acc + c.toNat % 128 * 128 ^ i : Nat) : Int) := by
  rw [and127]
  have hm : c.toNat % 128 < 128 := Nat.mod_lt _ (by decide)
  generalize c.toNat % 128 = x at *
  have hp : (128 : Nat) ^ i = 2 ^ (7 * i) := by rw [show (128 : Nat) = 2 ^ 7 from rfl, ← Nat.pow_mul]
  have hbound : 2 ^ (7 * i) * x < 18446744073709551616 := by
    by_cases e : i = 9
    · subst e
      have := h9 rfl
      have : 2 ^ (7 * 9) * x ≤ 2 ^ (7 * 9) * 1 := Nat.mul_le_mul (Nat.le_refl _) this
      omega
    · have h8 : 2 ^ (7 * i) ≤ 2 ^ 56 := Nat.pow_le_pow_right (by decide) (by omega)
      have : 2 ^ (7 * i) * x ≤ 2 ^ 56 * 127 := Nat.mul_le_mul h8 (by omega)
      omega
  have hacc : acc < 18446744073709551616 := by
    have : 128 ^ i ≤ 128 ^ 9 := Nat.pow_le_pow_right (by decide) hi
    omega
  rw [wrap_u64, wrap_u64]
  have e2 : ((x : Int) % 18446744073709551616 * 2 ^ (7 * i)) % 18446744073709551616 = ((2 ^ (7 * i) * x : Nat) : Int) := by
    rw [Int.emod_eq_of_lt (a := (x : Int)) (by omega) (by omega)]
    rw [show ((x : Int) * 2 ^ (7 * i)) = ((2 ^ (7 * i) * x : Nat) : Int) from by push_cast; exact Int.mul_comm _ _]
    exact Int.emod_eq_of_lt (by omega) (by omega)
  rw [hp] at ha ⊢
  rw [e2, u64_or_nat _ _ (by omega) (by omega)]
  congr 1
  rw [Nat.or_comm, ← Nat.two_pow_add_eq_or_of_lt (by omega), Nat.mul_comm x]
  omega
end Go.Proofs.Ytldmokjpfnakkaa

/- The walks of wire's Writer. -/
namespace Go.Proofs.Ytldmokjpfnakkaa
open Go.RowKit

theorem own_ne {w : World} {B gd n size e T : Nat} {v : Value} {xs : List Value} {cs : Array Value} (hT : T ≠ e) (hB : Blk w gd T cs) (hown : w.ownsRow B e size v n xs) : v.ownBlock ≠ some gd := by
  intro h
  rcases hown.2 with ⟨rfl, _⟩ | ⟨g, cap, cur, rfl, _, hg, _⟩
  · simp [Value.ownBlock] at h
  · obtain rfl : g = gd := by simpa [Value.ownBlock] using h
    unfold Blk at hB
    rw [hB] at hg
    injection hg with hg
    injection hg with _ hg
    exact hT hg
theorem own_put {w w3 : World} {B gd n n' T e : Nat} {v v' : Value} {xs xs' : List Value} (hT : T ≠ e) (hBg : B ≤ gd) (hB : Blk w gd T #[v]) (hown : w.ownsRow B e 1 v n xs) (hg : w.grownBy w3 v.ownBlock) (hown3 : w3.ownsRow B e 1 v' n' xs') :
    w3.cell? ⟨gd, 0, none⟩ = some v ∧ w3.frozen? ⟨gd, 0, none⟩ = false ∧ Blk (w3.setCell ⟨gd, 0, none⟩ v') gd T #[v'] ∧ (w3.setCell ⟨gd, 0, none⟩ v').ownsRow B e 1 v' n' xs' ∧ Below B w (w3.setCell ⟨gd, 0, none⟩ v') := by
  have h3 : Blk w3 gd T #[v] := hB.grown hg (Ne.symm (own_ne hT hB hown))
  refine ⟨by simpa using h3.cell 0, h3.frozen 0, by simpa using h3.set_ 0 v', ?_, ?_⟩
  · exact hown3.kept (only_set (only_refl w3 (some gd)) (.inl rfl) v') (.inr (own_ne hT h3 hown3))
  · exact ((Below.refl B w).grown hg (by have := hB.lt; omega) (fun k e => (hown.lt k e).1)).setCell hBg _

/-- A Writer at block gd, all of it in blocks from B on, with the bytes bs. -/
def Wr (w : World) (B gd : Nat) (bs : List UInt8) : Prop :=
  B ≤ gd ∧ ∃ A n c, bs.length = n ∧ Blk w gd 37 #[.slice A n c] ∧ w.ownsRow B 5 1 (.slice A n c) n (bs.map fun b => Value.int .u8 ((b.toNat : Nat) : Int))
theorem Wr.all {w w' : World} {B gd : Nat} {bs : List UInt8} (h : Wr w B gd bs) (hb : Below w.heap.size w w') : Wr w' B gd bs := by
  obtain ⟨h0, A, n, c, h1, h2, h3⟩ := h
  exact ⟨h0, A, n, c, h1, h2.all hb, own_keep h3 hb⟩
theorem Wr.new (w : World) : Wr (w.alloc (.cells #[.slice none 0 0] 37)) w.heap.size w.heap.size [] := ⟨Nat.le_refl _, none, 0, 0, rfl, Blk.new _ _ _, World.ownsRow_nil _ _ _ _⟩
theorem Wr.lt {w : World} {B gd : Nat} {bs : List UInt8} (h : Wr w B gd bs) : B ≤ gd ∧ gd < w.heap.size := by
  obtain ⟨h0, A, n, c, h1, h2, h3⟩ := h
  exact ⟨h0, h2.lt⟩
theorem info_u8 : (Try.prog.info? 5).map (fun i => (i.zero, i.size, i.bytes)) = some (some (.int .u8 0), 1, 1) := by kernel_rfl

/-- One byte more. -/
theorem Wr.one {w : World} {B gd : Nat} {bs : List UInt8} (h : Wr w B gd bs) (hl : bs.length ≤ 35184372088832) (x : UInt8) (xi : Int) (hx : xi = ((x.toNat : Nat) : Int)) :
    ∃ A n c g cap w3, w.cell? ⟨gd, 0, none⟩ = some (.slice A n c) ∧
      Hid ((Builtin.append_ #[23, 23] 23 #[.slice A n c, .slice (some ⟨w.heap.size, 0, none⟩) 1 1]).run Try.prog (w.alloc (.cells #[.int .u8 xi] 5)) = .ok (.slice (some ⟨g, 0, none⟩) (n + 1) cap) w3) ∧
      w3.cell? ⟨gd, 0, none⟩ = some (.slice A n c) ∧ w3.frozen? ⟨gd, 0, none⟩ = false ∧ Hid (Wr (w3.setCell ⟨gd, 0, none⟩ (.slice (some ⟨g, 0, none⟩) (n + 1) cap)) B gd (bs ++ [x])) ∧ Hid (Below B w (w3.setCell ⟨gd, 0, none⟩ (.slice (some ⟨g, 0, none⟩) (n + 1) cap))) := by
  subst hx
  obtain ⟨h0, A, n, c, rfl, h2, h3⟩ := h
  obtain ⟨i0, hi, hz0, hz1, hz2⟩ := info_parts info_u8
  obtain ⟨g, cap, w3, hap, hown, hg, _, _⟩ := run_append_one (P := Try.prog) w B 23 23 5 i0 _ 1 Try.underlying23 hi hz0 hz1 hz2 rfl _ _ _ h3 (.int .u8 ((x.toNat : Nat) : Int)) rfl (by unfold maxLen; omega) (by omega) (by have := h2.lt; omega)
  obtain ⟨k1, k2, k3, k4, k5⟩ := own_put (by decide) h0 h2 h3 hg hown
  refine ⟨A, _, c, g, cap, w3, by simpa using h2.cell 0, Lib.hid hap, k1, k2, Lib.hid ⟨h0, _, _, _, ?_, k3, ?_⟩, Lib.hid k5⟩
  · simp
  · rw [List.map_append]; exact k4

theorem or128_fin : ∀ n : Fin 256, n.val ||| 128 = n.val % 128 + 128 := by decide +kernel
theorem or128 (m : Nat) : bits BinOp.or IntKind.u8 ((m : Int) % 256) 128 = (((UInt8.ofNat (m % 128 + 128)).toNat : Nat) : Int) := by
  rw [ofNat_toNat (by omega)]
  show IntKind.u8.wrap ((BitVec.ofInt 8 ((m : Int) % 256) ||| BitVec.ofInt 8 128).toNat : Int) = _
  have e1 : BitVec.ofInt 8 ((m : Int) % 256) = BitVec.ofNat 8 (m % 256) := by
    rw [show (m : Int) % 256 = ((m % 256 : Nat) : Int) by omega, BitVec.ofInt_natCast]
  have e2 : (BitVec.ofInt 8 128).toNat = 128 := by decide +kernel
  rw [BitVec.toNat_or, e1, e2, BitVec.toNat_ofNat]
  have h := or128_fin ⟨m % 256, by omega⟩
  simp only at h
  rw [show m % 256 % 2 ^ 8 = m % 256 by omega, h]
  simp [IntKind.wrap, IntKind.bits, IntKind.signed]
  omega

set_option maxRecDepth 100000 in
set_option maxHeartbeats 1000000 in
theorem wuint_any (B gd : Nat) (bs : List UInt8) (n : Nat) (ni : Int) (hni : ni = (n : Int)) (w : World) (HW : Hid (Wr w B gd bs)) (hn : n ≤ 18446744073709551615) (hl : bs.length ≤ 17592186044416) :
    Calls Try.prog 23 #[.pointer (some ⟨gd, 0, none⟩), .int .u64 ni] w fun e w' => e = .returned (.tuple #[]) ∧ Wr w' B gd (bs ++ varint n) ∧ Below B w w' := by
  subst hni
  have HV := Lib.hid (varint_len10 hn)
  go_enter Try.func23, Try.ntmps23
  go_wp2
  go_loopw [1] (fun v wr => ∃ m : Nat, ∃ pre : List UInt8, v = .int .u64 (m : Int) ∧ m ≤ 18446744073709551615 ∧ Hid (pre ++ varint m = bs ++ varint n) ∧ Hid (Wr wr B gd pre) ∧ Below B w wr) (fun v _ => (intOf v).toNat)
  case atStart => exact ⟨n, bs, rfl, hn, Lib.hid rfl, HW, Below.refl _ _⟩
  case round =>
    obtain ⟨m, pre, rfl, hm, HE, HWr, hb⟩ := hrel
    have hpl : pre.length ≤ 35184372088832 := by
      have h1 := congrArg List.length HE.out
      simp only [List.length_append] at h1
      have := HV.out
      omega
    by_cases hge : 128 ≤ m
    · obtain ⟨A, k, c, g, cap, w3, hc, HA, hc3, hf3, HW3, HB3⟩ := HWr.out.one hpl (UInt8.ofNat (m % 128 + 128)) (bits BinOp.or IntKind.u8 ((m : Int) % 256) 128) (or128 m)
      go_wp2_with (at_builtin; refine wpList_append_run HA.out rfl rfl rfl rfl ?_)
      exact ⟨⟨m / 128, _, by go_num, by omega, Lib.hid (by rw [← HE.out, varint_ge hge, List.append_assoc]; rfl), HW3, hb.trans HB3.out⟩, by simp [intOf]; omega⟩
    · obtain ⟨A, k, c, g, cap, w3, hc, HA, hc3, hf3, HW3, HB3⟩ := HWr.out.one hpl (UInt8.ofNat m) (m : Int) (by rw [ofNat_toNat (by omega)])
      go_wp2_with (at_builtin; refine wpList_append_run HA.out rfl rfl rfl rfl ?_)
      go_end0
      exact ⟨rfl, by rw [← HE.out, varint_lt (by omega)]; exact HW3.out, hb.trans HB3.out⟩

set_option maxRecDepth 100000 in
set_option maxHeartbeats 400000 in
theorem zigzag_any (n : Int) (w : World) (h1 : -9223372036854775808 ≤ n) (h2 : n ≤ 9223372036854775807) :
    Calls Try.prog 44 #[.int .i64 n] w fun e w' => e = .returned (.int .u64 ((zigI n : Nat) : Int)) ∧ w = w' := by
  go_enter Try.func44, Try.ntmps44
  have HZ := Lib.hid (zig_bits h1 h2)
  go_wp2
  go_ret
  rw [HZ.out]
  exact ⟨rfl, rfl⟩

set_option maxRecDepth 100000 in
set_option maxHeartbeats 400000 in
theorem unzigzag_any (n : Nat) (ni : Int) (hni : ni = (n : Int)) (w : World) (h2 : n ≤ 18446744073709551615) :
    Calls Try.prog 81 #[.int .u64 ni] w fun e w' => e = .returned (.int .i64 (unzigI n)) ∧ w = w' := by
  subst hni
  go_enter Try.func81, Try.ntmps81
  have HZ := Lib.hid (unzig_bits h2)
  go_wp2
  go_ret
  rw [HZ.out]
  exact ⟨rfl, rfl⟩

set_option maxRecDepth 100000 in
set_option maxHeartbeats 400000 in
theorem wint_any (B gd : Nat) (bs : List UInt8) (n : Int) (w : World) (HW : Hid (Wr w B gd bs)) (h1 : -9223372036854775808 ≤ n) (h2 : n ≤ 9223372036854775807) (hl : bs.length ≤ 17592186044416) :
    Calls Try.prog 20 #[.pointer (some ⟨gd, 0, none⟩), .int .i64 n] w fun e w' => e = .returned (.tuple #[]) ∧ Wr w' B gd (bs ++ encInt n) ∧ Below B w w' := by
  go_enter Try.func20, Try.ntmps20
  go_wp2_with (first
    | (go_at_call 44; ((with_reducible refine (zigzag_any _ _ h1 h2).mono ?_); rintro e w1 ⟨rfl, rfl⟩))
    | (go_at_call 23; ((with_reducible refine (wuint_any B gd bs _ _ rfl _ HW (zigI_lt h1 h2) hl).mono ?_); rintro e w1 ⟨rfl, hW1, hb1⟩)))
  go_end0
  exact ⟨rfl, hW1, hb1⟩


/-- Many bytes more. -/
theorem Wr.more {w : World} {B gd : Nat} {bs : List UInt8} (h : Wr w B gd bs) (A' : Option Addr) (m c' : Nat) (xs : List UInt8) (hx : xs.length = m) (hR : Rd w w.heap.size A' m (vByte xs)) (hl : bs.length + m ≤ 70368744177664) :
    ∃ A n c A3 n3 c3 w3, w.cell? ⟨gd, 0, none⟩ = some (.slice A n c) ∧
      Hid ((Builtin.append_ #[23, 23] 23 #[.slice A n c, .slice A' m c']).run Try.prog w = .ok (.slice A3 n3 c3) w3) ∧
      w3.cell? ⟨gd, 0, none⟩ = some (.slice A n c) ∧ w3.frozen? ⟨gd, 0, none⟩ = false ∧ Hid (Wr (w3.setCell ⟨gd, 0, none⟩ (.slice A3 n3 c3)) B gd (bs ++ xs)) ∧ Hid (Below B w (w3.setCell ⟨gd, 0, none⟩ (.slice A3 n3 c3))) := by
  obtain ⟨h0, A, n, c, rfl, h2, h3⟩ := h
  obtain ⟨i0, hi, hz0, hz1, hz2⟩ := info_parts info_u8
  obtain ⟨v', w3, hap, hown, hg, _⟩ := run_append_rd (P := Try.prog) w B 23 23 5 i0 _ 1 Try.underlying23 hi hz0 hz1 hz2 rfl _ _ _ h3 w.heap.size A' m c' (vByte xs) hR hR.none_ (fun _ _ => rfl) (by unfold maxLen; omega) (by omega) (by have := h2.lt; omega)
  obtain ⟨k1, k2, k3, k4, k5⟩ := own_put (by decide) h0 h2 h3 hg hown
  obtain ⟨A3, c3, rfl⟩ := own_slice hown
  refine ⟨A, _, c, _, _, _, w3, by simpa using h2.cell 0, Lib.hid hap, k1, k2, Lib.hid ⟨h0, _, _, _, ?_, k3, ?_⟩, Lib.hid k5⟩
  · simp [hx]
  · have e : (List.range m).map (vByte xs) = xs.map fun b => Value.int .u8 ((b.toNat : Nat) : Int) := by
      subst hx
      refine List.ext_getElem (by simp) fun i h1 h2 => ?_
      have hi : i < xs.length := by simpa using h2
      simp [vByte, hi]
    rw [List.map_append, ← e]; exact k4
theorem strCells_eq (s : ByteArray) : Lib.strCells s = s.data.toList.map fun b => Value.int .u8 ((b.toNat : Nat) : Int) := rfl

set_option maxRecDepth 100000 in
set_option maxHeartbeats 400000 in
theorem wraw_any (B gd : Nat) (bs xs : List UInt8) (A : Option Addr) (m c B' : Nat) (w : World) (HW : Hid (Wr w B gd bs)) (HX : Hid (xs.length = m)) (hm : m ≤ 17592186044416) (hR : Rd w B' A m (vByte xs)) (hB : B' ≤ B) (hl : bs.length ≤ 17592186044416) :
    Calls Try.prog 21 #[.pointer (some ⟨gd, 0, none⟩), .slice A m c] w fun e w' => e = .returned (.tuple #[]) ∧ Wr w' B gd (bs ++ encRaw xs) ∧ Below B w w' := by
  have HV := Lib.hid (varint_len10 (n := m) (by omega))
  go_enter Try.func21, Try.ntmps21
  go_wp2_with fail
  refine (wuint_any B gd bs m _ rfl _ HW (by omega) hl).mono ?_
  rintro e w1 ⟨rfl, hW1, hb1⟩
  obtain ⟨A1, k, c1, A3, n3, c3, w3, hc, HA, hc3, hf3, HW3, HB3⟩ := hW1.more A m c xs HX.out ((hR.below hb1 hB).more (by have := hW1.lt; omega)) (by have := HV.out; simp only [List.length_append]; omega)
  go_wp2_with (at_builtin; refine wpList_append_run HA.out rfl rfl rfl rfl ?_)
  go_end0
  exact ⟨rfl, by unfold encRaw; rw [HX.out, ← List.append_assoc]; exact HW3.out, hb1.trans HB3.out⟩

theorem wpList_append_run2 {P : Program} {w : World} {ops : Array Oper} {rest : List Oper} {o : Oper} {a : Act} {Q : Exit → Act → World → Prop} {s x : Operand} {t u : TypeId} {v vx v' : Value} {w' : World}
    (hrun : (Builtin.append_ #[t, u] o.type #[v, vx]).run P w = .ok v' w') (hgd : o.guard = none) (ho : o.op = .call { callee := .builtin .append, args := #[s, x], argTypes := #[t, u] }) (hs : a.eval s = v) (hx : a.eval x = vx)
    (h : wpList P ops Q rest (a.put o.dst v') w') : wpList P ops Q (o :: rest) a w :=
  wpList_plain hgd fun _ hK => by
    unfold Oper.wp execOp
    simp only [ho, resolve, invoke, builtin, Sem.run_bind, Sem.run_pure, Result.andThen_ok, List.map_toArray, List.map_cons, List.map_nil, hs, hx, hrun]
    exact hK _ _ h

theorem encInt_len {n : Int} (h1 : -9223372036854775808 ≤ n) (h2 : n ≤ 9223372036854775807) : (encInt n).length ≤ 10 := varint_len10 (zigI_lt h1 h2)
theorem encIntsTo_len (l : List Int) (hl : l.length ≤ 1099511627776) (hr : ∀ j : Nat, -9223372036854775808 ≤ l[j]?.getD 0 ∧ l[j]?.getD 0 ≤ 9223372036854775807) : ∀ k : Nat, k ≤ l.length → (encIntsTo l k).length ≤ 10 + 10 * k
  | 0, _ => by rw [encIntsTo_zero]; exact varint_len10 (by omega)
  | k + 1, h => by
    rw [encIntsTo_succ l k (by omega), List.length_append]
    have := encIntsTo_len l hl hr k (by omega)
    have := encInt_len (hr k).1 (hr k).2
    omega


set_option maxRecDepth 100000 in
set_option maxHeartbeats 400000 in
theorem clone_any (A : Option Addr) (n c : Nat) (bs : List UInt8) (w : World) (HX : Hid (bs.length = n)) (hR : Rd w w.heap.size A n (vByte bs)) (hn : n ≤ 70368744177664) :
    Calls Try.prog 45 #[.slice A n c] w fun e w' => ∃ A' c', e = .returned (.slice A' n c') ∧ n ≤ c' ∧ c' ≤ 9223372036854775807 ∧
      w'.ownsRow w.heap.size 5 1 (.slice A' n c') n (bs.map fun b => Value.int .u8 ((b.toNat : Nat) : Int)) ∧ Rd w' w'.heap.size A' n (vByte bs) ∧ Below w.heap.size w w' := by
  obtain ⟨i0, hi, hz0, hz1, hz2⟩ := info_parts info_u8
  have hq := Lib.run_eql_slice_nil (P := Try.prog) w 23 5 A n c 0 0 Try.underlying23
  rcases A with _ | a
  · have h0 := hR.none_ rfl
    subst h0
    obtain rfl : bs = [] := List.eq_nil_of_length_eq_zero HX.out
    go_enter Try.func45, Try.ntmps45
    go_wp2
    go_ret
    exact ⟨none, 0, rfl, by omega, by omega, World.ownsRow_nil _ _ _ _, Rd.nil, Below.refl _ _⟩
  · have ho : (w.alloc (.cells #[] 5)).ownsRow w.heap.size 5 1 (.slice (some ⟨w.heap.size, 0, none⟩) 0 0) 0 [] := World.ownsRow_made w #[] 0 (Nat.le_refl _) (by decide) rfl
    obtain ⟨v, w3, hap, hown, hg, _⟩ := run_append_rd (P := Try.prog) (w.alloc (.cells #[] 5)) w.heap.size 23 23 5 i0 _ 1 Try.underlying23 hi hz0 hz1 hz2 rfl _ 0 [] ho w.heap.size (some a) n c (vByte bs) (hR.alloc (Nat.le_refl _) _) (fun h => by cases h) (fun _ _ => rfl) (by unfold maxLen; omega) (by omega) (by simp)
    have HA := Lib.hid hap; clear hap
    simp only [Nat.zero_add, List.nil_append] at hown
    obtain ⟨A', c', rfl⟩ := own_slice hown
    have e : (List.range n).map (vByte bs) = bs.map fun b => Value.int .u8 ((b.toNat : Nat) : Int) := by
      refine List.ext_getElem (by simp [HX.out]) fun i h1 h2 => ?_
      have hi : i < bs.length := by simpa using h2
      simp [vByte, hi]
    rw [e] at hown
    clear e
    go_enter Try.func45, Try.ntmps45
    go_wp2_with (at_builtin; refine wpList_append_run HA.out rfl rfl rfl rfl ?_)
    go_ret
    obtain ⟨_, r2, r3⟩ := rd_bytes hown
    exact ⟨A', c', rfl, r2, own_cap hown, hown, r3, ((Below.refl _ _).alloc (Nat.le_refl _) _).grown hg (by simp) (fun k e => (ho.lt k e).1)⟩

set_option maxRecDepth 100000 in
set_option maxHeartbeats 400000 in
theorem wdone_any (B gd : Nat) (bs : List UInt8) (w : World) (HW : Hid (Wr w B gd bs)) (hl : bs.length ≤ 70368744177664) :
    Calls Try.prog 22 #[.pointer (some ⟨gd, 0, none⟩)] w fun e w' => ∃ A' n c', e = .returned (.slice A' n c') ∧ n ≤ c' ∧ c' ≤ 9223372036854775807 ∧ Hid (bs.length = n) ∧
      w'.ownsRow w.heap.size 5 1 (.slice A' n c') n (bs.map fun b => Value.int .u8 ((b.toNat : Nat) : Int)) ∧ Rd w' w'.heap.size A' n (vByte bs) ∧ Below w.heap.size w w' := by
  obtain ⟨h0, A, n, c, hx, h2, h3⟩ := HW.out
  have hc : w.cell? ⟨gd, 0, none⟩ = some (.slice A n c) := by simpa using h2.cell 0
  have HX := Lib.hid hx
  obtain ⟨_, _, r3⟩ := rd_bytes h3
  have hn : n ≤ 70368744177664 := by omega
  clear hx h2 h3
  go_enter Try.func22, Try.ntmps22
  go_wp2_with (go_at_call 45; ((with_reducible refine (clone_any _ _ _ bs _ HX r3 hn).mono ?_); rintro e w2 ⟨A', c', rfl, q1, q2, q3, q4, q5⟩))
  go_ret
  exact ⟨A', n, c', rfl, q1, q2, HX, q3, q4, q5⟩

end Go.Proofs.Ytldmokjpfnakkaa

/- Plain Lean: reading varints and lists. -/
namespace Go.Proofs.Ytldmokjpfnakkaa
open Go.RowKit

/-- The byte c at place i is refused. -/
def badAt (i : Nat) (c : UInt8) : Bool := (decide (i = 9) && decide (1 < c.toNat)) || (decide (0 < i) && decide (c.toNat = 0))
/-- Reading a varint from place i on: the error, the number, the rest. -/
def decU : Nat → Nat → List UInt8 → Int × Nat × List UInt8
  | _, _, [] => (3, 0, [])
  | i, acc, c :: r => if badAt i c then (2, 0, []) else if c.toNat < 128 then (0, acc + c.toNat * 128 ^ i, r) else decU (i + 1) (acc + c.toNat % 128 * 128 ^ i) r
theorem decU_nil (i acc : Nat) : decU i acc [] = (3, 0, []) := rfl
theorem decU_bad {i acc : Nat} {c : UInt8} {r : List UInt8} (h : badAt i c = true) : decU i acc (c :: r) = (2, 0, []) := by rw [decU, if_pos h]
theorem decU_end {i acc : Nat} {c : UInt8} {r : List UInt8} (h : badAt i c = false) (hc : c.toNat < 128) : decU i acc (c :: r) = (0, acc + c.toNat * 128 ^ i, r) := by rw [decU, if_neg (by simp [h]), if_pos hc]
theorem decU_go {i acc : Nat} {c : UInt8} {r : List UInt8} (h : badAt i c = false) (hc : 128 ≤ c.toNat) : decU i acc (c :: r) = decU (i + 1) (acc + c.toNat % 128 * 128 ^ i) r := by rw [decU, if_neg (by simp [h]), if_neg (by omega)]
/-- An error, and nothing with it; or a rest that is no longer. -/
theorem decU_out : ∀ (bs : List UInt8) (i acc : Nat), (decU i acc bs).1 = 0 ∨ ((decU i acc bs).1 = 2 ∨ (decU i acc bs).1 = 3) ∧ (decU i acc bs).2 = (0, [])
  | [], _, _ => .inr ⟨.inr rfl, rfl⟩
  | c :: r, i, acc => by
    by_cases h : badAt i c = true
    · rw [decU_bad h]; exact .inr ⟨.inl rfl, rfl⟩
    · by_cases hc : c.toNat < 128
      · rw [decU_end (by simpa using h) hc]; exact .inl rfl
      · rw [decU_go (by simpa using h) (by omega)]; exact decU_out r _ _
theorem pow128_le {i : Nat} (h : i ≤ 9) : 128 ^ i ≤ 9223372036854775808 := Nat.le_trans (Nat.pow_le_pow_right (by decide) h) (by decide)
/-- What is read fits. -/
theorem decU_lt : ∀ (bs : List UInt8) (i acc : Nat), i ≤ 9 → acc < 128 ^ i → (decU i acc bs).2.1 ≤ 18446744073709551615 ∧ (decU i acc bs).2.2.length ≤ bs.length
  | [], _, _, _, _ => ⟨by simp [decU], by simp [decU]⟩
  | c :: r, i, acc, hi, ha => by
    have hp := pow128_le hi
    by_cases h : badAt i c = true
    · rw [decU_bad h]; exact ⟨by simp, by simp⟩
    · have h' : badAt i c = false := by simpa using h
      by_cases hc : c.toNat < 128
      · rw [decU_end h' hc]
        refine ⟨?_, by simp⟩
        simp only
        by_cases h9 : i = 9
        · subst h9
          have : c.toNat ≤ 1 := by
            unfold badAt at h'
            simp at h'
            omega
          omega
        · have h8 : 128 ^ i ≤ 128 ^ 8 := Nat.pow_le_pow_right (by decide) (by omega)
          have : c.toNat * 128 ^ i ≤ 127 * 128 ^ 8 := Nat.mul_le_mul (by omega) h8
          omega
      · rw [decU_go h' (by omega)]
        by_cases h9 : i = 9
        · subst h9
          unfold badAt at h'
          simp at h'
          omega
        · have hm : c.toNat % 128 * 128 ^ i ≤ 127 * 128 ^ i := Nat.mul_le_mul (by omega) (Nat.le_refl _)
          have := decU_lt r (i + 1) (acc + c.toNat % 128 * 128 ^ i) (by omega) (by rw [Nat.pow_succ]; omega)
          exact ⟨this.1, by simp only [List.length_cons]; omega⟩
/-- Round trip. -/
theorem decU_varint (n : Nat) : ∀ (i acc : Nat) (r : List UInt8), i ≤ 9 → n * 128 ^ i < 18446744073709551616 → (i = 0 ∨ 0 < n) → decU i acc (varint n ++ r) = (0, acc + n * 128 ^ i, r) := by
  induction n using Nat.strongRecOn with
  | ind n ih =>
    intro i acc r hi hn h0
    by_cases h : n < 128
    · rw [varint_lt h]
      have hc : (UInt8.ofNat n).toNat = n := by rw [UInt8.toNat_ofNat']; omega
      rw [List.singleton_append, decU_end ?_ (by omega), hc]
      unfold badAt
      rw [hc]
      by_cases h9 : i = 9
      · subst h9
        have : n ≤ 1 := by omega
        simp; omega
      · simp [h9]; omega
    · have hc : (UInt8.ofNat (n % 128 + 128)).toNat = n % 128 + 128 := by rw [UInt8.toNat_ofNat']; omega
      have h9 : i ≠ 9 := by
        rintro rfl
        have : 128 * 128 ^ 9 ≤ n * 128 ^ 9 := Nat.mul_le_mul (by omega) (Nat.le_refl _)
        omega
      rw [varint_ge (by omega), List.cons_append, decU_go ?_ (by omega), hc]
      · have e : n = n / 128 * 128 + n % 128 := by omega
        have e2 : n / 128 * 128 ^ (i + 1) + n % 128 * 128 ^ i = n * 128 ^ i := by
          rw [Nat.pow_succ, ← Nat.mul_assoc, Nat.mul_right_comm, ← Nat.add_mul, ← e]
        rw [ih (n / 128) (by omega) (i + 1) _ r (by omega) (by omega) (.inr (by omega)), show (n % 128 + 128) % 128 = n % 128 by omega]
        congr 2
        omega
      · unfold badAt
        rw [hc]
        simp [h9]
theorem decU_enc {n : Nat} (h : n ≤ 18446744073709551615) (r : List UInt8) : decU 0 0 (varint n ++ r) = (0, n, r) := by
  have := decU_varint n 0 0 r (by decide) (by omega) (.inl rfl)
  simpa using this
/-- One encoding. -/
theorem decU_one : ∀ (bs : List UInt8) (i acc v : Nat) (r : List UInt8), i ≤ 9 → decU i acc bs = (0, v, r) → ∃ n, bs = varint n ++ r ∧ v = acc + n * 128 ^ i ∧ (0 < i → 0 < n)
  | [], i, acc, v, r, _, h => by rw [decU_nil] at h; simp at h
  | c :: bs, i, acc, v, r, hi, h => by
    by_cases hb : badAt i c = true
    · rw [decU_bad hb] at h; simp at h
    · have hb' : badAt i c = false := by simpa using hb
      by_cases hc : c.toNat < 128
      · rw [decU_end hb' hc] at h
        injection h with _ h
        injection h with h1 h2
        subst h1 h2
        refine ⟨c.toNat, ?_, rfl, fun h0 => ?_⟩
        · rw [varint_lt hc]; simp
        · unfold badAt at hb'; simp at hb'; omega
      · rw [decU_go hb' (by omega)] at h
        have h9 : i ≠ 9 := by
          rintro rfl
          unfold badAt at hb'; simp at hb'; omega
        obtain ⟨n, e1, e2, e3⟩ := decU_one bs (i + 1) _ v r (by omega) h
        have hn := e3 (by omega)
        have hc2 := c.toNat_lt
        refine ⟨c.toNat % 128 + 128 * n, ?_, ?_, fun _ => by omega⟩
        · rw [varint_ge (by omega), show (c.toNat % 128 + 128 * n) % 128 + 128 = c.toNat by omega, show (c.toNat % 128 + 128 * n) / 128 = n by omega, e1]
          simp
        · rw [e2, Nat.add_mul, Nat.pow_succ, ← Nat.mul_assoc, Nat.mul_right_comm, Nat.mul_comm n 128]
          omega
theorem decU_inv {bs r : List UInt8} {v : Nat} (h : decU 0 0 bs = (0, v, r)) : bs = varint v ++ r := by
  obtain ⟨n, e1, e2, _⟩ := decU_one bs 0 0 v r (by decide) h
  have : v = n := by simpa using e2
  subst this; exact e1
/-- A proper prefix. -/
theorem decU_cut (n : Nat) : ∀ (i acc k : Nat), i ≤ 9 → n * 128 ^ i < 18446744073709551616 → (i = 0 ∨ 0 < n) → k < (varint n).length → decU i acc ((varint n).take k) = (3, 0, []) := by
  induction n using Nat.strongRecOn with
  | ind n ih =>
    intro i acc k hi hn h0 hk
    cases k with
    | zero => simp [decU_nil]
    | succ k =>
      by_cases h : n < 128
      · rw [varint_lt h] at hk; simp at hk
      · have hc : (UInt8.ofNat (n % 128 + 128)).toNat = n % 128 + 128 := by rw [UInt8.toNat_ofNat']; omega
        have h9 : i ≠ 9 := by
          rintro rfl
          have : 128 * 128 ^ 9 ≤ n * 128 ^ 9 := Nat.mul_le_mul (by omega) (Nat.le_refl _)
          omega
        rw [varint_ge (by omega)] at hk ⊢
        rw [List.take_succ_cons, decU_go ?_ (by omega)]
        · have e2 : n / 128 * 128 ^ (i + 1) ≤ n * 128 ^ i := by
            rw [Nat.pow_succ, ← Nat.mul_assoc, Nat.mul_right_comm]
            exact Nat.mul_le_mul (by omega) (Nat.le_refl _)
          exact ih (n / 128) (by omega) (i + 1) _ k (by omega) (by omega) (.inr (by omega)) (by simpa using hk)
        · unfold badAt
          rw [hc]
          simp [h9]
theorem decU_prefix {n : Nat} (h : n ≤ 18446744073709551615) {k : Nat} (hk : k < (varint n).length) : decU 0 0 ((varint n).take k) = (3, 0, []) :=
  decU_cut n 0 0 k (by decide) (by omega) (.inl rfl) hk

/-- Reading bytes: the length, then the bytes. -/
def decRaw (bs : List UInt8) : Int × List UInt8 × List UInt8 :=
  if (decU 0 0 bs).1 ≠ 0 then ((decU 0 0 bs).1, [], []) else if (decU 0 0 bs).2.2.length < (decU 0 0 bs).2.1 then (3, [], []) else (0, (decU 0 0 bs).2.2.take (decU 0 0 bs).2.1, (decU 0 0 bs).2.2.drop (decU 0 0 bs).2.1)
/-- Reading k signed numbers. -/
def decK : Nat → List UInt8 → Int × List Int × List UInt8
  | 0, r => (0, [], r)
  | k + 1, r => if (decU 0 0 r).1 ≠ 0 then ((decU 0 0 r).1, [], []) else if (decK k (decU 0 0 r).2.2).1 ≠ 0 then ((decK k (decU 0 0 r).2.2).1, [], []) else (0, unzigI (decU 0 0 r).2.1 :: (decK k (decU 0 0 r).2.2).2.1, (decK k (decU 0 0 r).2.2).2.2)
def decInts (bs : List UInt8) : Int × List Int × List UInt8 :=
  if (decU 0 0 bs).1 ≠ 0 then ((decU 0 0 bs).1, [], []) else if (decU 0 0 bs).2.2.length < (decU 0 0 bs).2.1 then (3, [], []) else decK (decU 0 0 bs).2.1 (decU 0 0 bs).2.2
def decBool (bs : List UInt8) : Int × Bool × List UInt8 :=
  match bs with
  | [] => (3, false, [])
  | c :: r => if 1 < c.toNat then (2, false, []) else (0, decide (c.toNat = 1), r)
end Go.Proofs.Ytldmokjpfnakkaa

/- The walks of wire's Reader. -/
namespace Go.Proofs.Ytldmokjpfnakkaa
open Go.RowKit

/-- A Reader at block gd: at no error the bytes that are left. -/
def Rdr (w : World) (B gd : Nat) (rest : List UInt8) (err : Int) : Prop :=
  gd < B ∧ B ≤ w.heap.size ∧ ∃ A n c, Blk w gd 74 #[.slice A n c, .int .i64 err] ∧ n ≤ c ∧ c ≤ 9223372036854775807 ∧ (err = 0 → rest.length = n ∧ n ≤ 70368744177664 ∧ Rd w B A n (vByte rest))
theorem Rdr.grown {w w' : World} {B gd : Nat} {rest : List UInt8} {err : Int} {row : Option Nat} (h : Rdr w B gd rest err) (hg : w.grownBy w' row) (hr : ∀ r, row = some r → B ≤ r) : Rdr w' B gd rest err := by
  obtain ⟨k1, k2, A, n, c, h1, h2, h3, h4⟩ := h
  have hne : ∀ b, b < B → some b ≠ row := fun b hb e => by have := hr b e.symm; omega
  refine ⟨k1, Nat.le_trans k2 hg.size, A, n, c, h1.grown hg (hne gd k1), h2, h3, fun e => ⟨(h4 e).1, (h4 e).2.1, ?_⟩⟩
  exact (h4 e).2.2.keep fun b hb => hg.block b (by omega) (hne b hb)
theorem Rdr.all {w w' : World} {B gd : Nat} {rest : List UInt8} {err : Int} (h : Rdr w B gd rest err) (hb : Below w.heap.size w w') : Rdr w' B gd rest err :=
  h.grown (only_of_below hb none) (fun _ e => by cases e)
theorem Rdr.more {w : World} {B B' gd : Nat} {rest : List UInt8} {err : Int} (h : Rdr w B gd rest err) (hB : B ≤ B') (hB' : B' ≤ w.heap.size) : Rdr w B' gd rest err := by
  obtain ⟨k1, k2, A, n, c, h1, h2, h3, h4⟩ := h
  exact ⟨by omega, hB', A, n, c, h1, h2, h3, fun e => ⟨(h4 e).1, (h4 e).2.1, (h4 e).2.2.more hB⟩⟩
theorem Rdr.lt {w : World} {B gd : Nat} {rest : List UInt8} {err : Int} (h : Rdr w B gd rest err) : gd < B ∧ B ≤ w.heap.size := ⟨h.1, h.2.1⟩
/-- The row of what is left does not lie in the Reader's own block. -/
theorem rd_set {w : World} {B gd n m c k : Nat} {A A' : Option Addr} {bs : List UInt8} {T : TypeId} {err : Int} {u : Value} (hR : Rd w B A n (vByte bs)) (hD : Blk w gd T #[.slice A' m c, .int .i64 err]) : Rd (w.setCell ⟨gd, k, none⟩ u) B A n (vByte bs) := by
  intro h
  obtain ⟨b, off, e, hb, hc⟩ := hR h
  have hne : b ≠ gd := by
    rintro rfl
    have h0 := hc 0 h
    rw [Nat.add_zero, Blk.cell hD off] at h0
    rcases off with _ | _ | off <;> simp [vByte] at h0
  exact ⟨b, off, e, hb, fun j hj => (World.cell?_of_block (w := w) (Below.heap_setCell w _ u b hne)).trans (hc j hj)⟩
/-- An error is recorded. -/
theorem Rdr.fail {w : World} {B gd : Nat} {rest : List UInt8} {err : Int} (h : Rdr w B gd rest err) (e : Int) (he : e ≠ 0) : Rdr (w.setCell ⟨gd, 1, none⟩ (.int .i64 e)) B gd [] e := by
  obtain ⟨k1, k2, A, n, c, h1, h2, h3, h4⟩ := h
  exact ⟨k1, by simpa [World.setCell] using k2, A, n, c, by simpa using h1.set_ 1 (.int .i64 e), h2, h3, fun h => absurd h he⟩

set_option maxRecDepth 100000 in
set_option maxHeartbeats 400000 in
theorem octet_err (B gd : Nat) (rest : List UInt8) (err : Int) (w : World) (HR : Hid (Rdr w B gd rest err)) (he : err ≠ 0) :
    Calls Try.prog 47 #[.pointer (some ⟨gd, 0, none⟩)] w fun e w' => e = .returned (.int .u8 0) ∧ w = w' := by
  obtain ⟨k1, k2, A, n, c, h1, h2, h3, h4⟩ := HR.out
  have hc1 : w.cell? ⟨gd, 1, none⟩ = some (.int .i64 err) := by simpa using h1.cell 1
  have hb : (err != 0) = true := by simpa using he
  clear h1 h4 he
  go_enter Try.func47, Try.ntmps47
  go_wp2
  go_ret
  exact ⟨rfl, rfl⟩

set_option maxRecDepth 100000 in
set_option maxHeartbeats 400000 in
theorem octet_nil (B gd : Nat) (w : World) (HR : Hid (Rdr w B gd [] 0)) :
    Calls Try.prog 47 #[.pointer (some ⟨gd, 0, none⟩)] w fun e w' => e = .returned (.int .u8 0) ∧ Rdr w' B gd [] 3 ∧ w.grownBy w' (some gd) := by
  obtain ⟨k1, k2, A, n, c, h1, h2, h3, h4⟩ := HR.out
  have hc0 : w.cell? ⟨gd, 0, none⟩ = some (.slice A n c) := by simpa using h1.cell 0
  have hc1 : w.cell? ⟨gd, 1, none⟩ = some (.int .i64 0) := by simpa using h1.cell 1
  have hf1 : w.frozen? ⟨gd, 1, none⟩ = false := h1.frozen 1
  have hn : ((n : Int) == 0) = true := by have := (h4 rfl).1; simp at this; simp; omega
  have HF := Lib.hid (HR.out.fail 3 (by decide))
  clear h1 h4
  go_enter Try.func47, Try.ntmps47
  go_wp2
  go_ret
  exact ⟨rfl, HF.out, only_set (only_refl _ _) (.inl rfl) _⟩

theorem Rdr.step {w : World} {B gd n c bk off : Nat} {b : UInt8} {r : List UInt8} (hB : Blk w gd 74 #[.slice (some ⟨bk, off, none⟩) n c, .int .i64 0]) (k1 : gd < B) (k2 : B ≤ w.heap.size) (hR : Rd w B (some ⟨bk, off, none⟩) n (vByte (b :: r))) (hl : (b :: r).length = n) (hn : 1 ≤ n) (hnc : n ≤ c) (hc : c ≤ 9223372036854775807) (hm : n ≤ 70368744177664)
    (o' : Nat) (ho : c ≠ 1 → o' = off + 1) : Rdr (w.setCell ⟨gd, 0, none⟩ (.slice (some ⟨bk, o', none⟩) (n - 1) (c - 1))) B gd r 0 := by
  refine ⟨k1, by simpa [World.setCell] using k2, some ⟨bk, o', none⟩, n - 1, c - 1, by simpa using hB.set_ 0 (.slice (some ⟨bk, o', none⟩) (n - 1) (c - 1)), by omega, by omega, fun _ => ⟨by simp at hl; omega, by omega, ?_⟩⟩
  refine rd_set (T := 74) (A' := some ⟨bk, off, none⟩) (m := n) (c := c) (err := 0) ?_ hB
  intro h0
  have := ho (by omega)
  subst this
  obtain ⟨b', off', e, hb, hcell⟩ := hR (by omega)
  cases e
  exact ⟨bk, off + 1, rfl, hb, fun j hj => by
    rw [Nat.add_right_comm, Nat.add_assoc, hcell (j + 1) (by omega)]
    simp [vByte]⟩
set_option maxRecDepth 100000 in
set_option maxHeartbeats 400000 in
theorem octet_cons (B gd : Nat) (b : UInt8) (r : List UInt8) (w : World) (HR : Hid (Rdr w B gd (b :: r) 0)) :
    Calls Try.prog 47 #[.pointer (some ⟨gd, 0, none⟩)] w fun e w' => e = .returned (.int .u8 ((b.toNat : Nat) : Int)) ∧ Rdr w' B gd r 0 ∧ w.grownBy w' (some gd) := by
  obtain ⟨k1, k2, A, n, c, h1, h2, h3, h4⟩ := HR.out
  have hc0 : w.cell? ⟨gd, 0, none⟩ = some (.slice A n c) := by simpa using h1.cell 0
  have hc1 : w.cell? ⟨gd, 1, none⟩ = some (.int .i64 0) := by simpa using h1.cell 1
  have hf0 : w.frozen? ⟨gd, 0, none⟩ = false := h1.frozen 0
  obtain ⟨hl, hmx, hR⟩ := h4 rfl
  have hn1 : 1 ≤ n := by simp at hl; omega
  have hn : ((n : Int) == 0) = false := by simp; omega
  obtain ⟨bk, off, rfl, hbk, hcell⟩ := hR (by omega)
  have hcb : w.cell? ⟨bk, off, none⟩ = some (.int .u8 ((b.toNat : Nat) : Int)) := by simpa [vByte] using hcell 0 (by omega)
  have hcp : 1 ≤ c := by omega
  have HL := Lib.hid hl
  have HH := Lib.hid h1
  have HHR := Lib.hid hR
  clear hR h1 h4 hcell hl
  go_enter Try.func47, Try.ntmps47
  go_wp2
  · go_ret
    have hc1' : c = 1 := by assumption
    subst hc1'
    exact ⟨rfl, Rdr.step (c := 1) HH.out k1 k2 HHR.out HL.out hn1 h2 (by omega) hmx off (fun h => absurd rfl h), only_set (only_refl _ _) (.inl rfl) _⟩
  · go_ret
    exact ⟨rfl, Rdr.step HH.out k1 k2 HHR.out HL.out hn1 h2 (by omega) hmx (off + 1) (fun _ => rfl), only_set (only_refl _ _) (.inl rfl) _⟩

/-- Reading in a state. -/
def readU (rest : List UInt8) (err : Int) : Int × Nat × List UInt8 := if err = 0 then decU 0 0 rest else (err, 0, [])
theorem Rdr.any {w : World} {B gd : Nat} {rest : List UInt8} {err : Int} (h : Rdr w B gd rest err) (he : err ≠ 0) (rest' : List UInt8) : Rdr w B gd rest' err := by
  obtain ⟨k1, k2, A, n, c, h1, h2, h3, h4⟩ := h
  exact ⟨k1, k2, A, n, c, h1, h2, h3, fun h => absurd h he⟩
theorem Rdr.err_cell {w : World} {B gd : Nat} {rest : List UInt8} {err : Int} (h : Rdr w B gd rest err) : w.cell? ⟨gd, 1, none⟩ = some (.int .i64 err) ∧ w.frozen? ⟨gd, 1, none⟩ = false := by
  obtain ⟨_, _, A, n, c, h1, h2, h3, h4⟩ := h
  exact ⟨by simpa using h1.cell 1, h1.frozen 1⟩
theorem bad_cases {i : Nat} {c : UInt8} (h : badAt i c = true) :
    (((i : Int) == 9) = true ∧ 1 < ((c.toNat : Nat) : Int)) ∨ (((i : Int) == 9) = false ∧ 0 < (i : Int) ∧ (((c.toNat : Nat) : Int) == 0) = true) ∨ (((i : Int) == 9) = true ∧ ((c.toNat : Nat) : Int) ≤ 1 ∧ 0 < (i : Int) ∧ (((c.toNat : Nat) : Int) == 0) = true) := by
  unfold badAt at h
  simp at h ⊢
  omega
theorem ok_cases {i : Nat} {c : UInt8} (h : badAt i c = false) :
    (((i : Int) == 9) = true ∧ ((c.toNat : Nat) : Int) ≤ 1 ∧ 0 < (i : Int) ∧ (((c.toNat : Nat) : Int) == 0) = false) ∨ (((i : Int) == 9) = false ∧ 0 < (i : Int) ∧ (((c.toNat : Nat) : Int) == 0) = false) ∨ (((i : Int) == 9) = false ∧ (i : Int) ≤ 0) := by
  unfold badAt at h
  simp at h ⊢
  omega

set_option maxRecDepth 100000 in
set_option maxHeartbeats 400000 in
theorem ruint_any (B gd : Nat) (rest : List UInt8) (err : Int) (w : World) (HR : Hid (Rdr w B gd rest err)) :
    Calls Try.prog 26 #[.pointer (some ⟨gd, 0, none⟩)] w fun e w' => e = .returned (.int .u64 (((readU rest err).2.1 : Nat) : Int)) ∧ Rdr w' B gd (readU rest err).2.2 (readU rest err).1 ∧ w.grownBy w' (some gd) := by
  by_cases he : err = 0
  · subst he
    have HU := Lib.hid (show readU rest 0 = decU 0 0 rest from rfl)
    go_enter Try.func26, Try.ntmps26
    go_wp2
    go_loopw [3, 4] (fun nv iv wr => ∃ i acc : Nat, ∃ cur : List UInt8, i ≤ 9 ∧ iv = .int .i64 (i : Int) ∧ nv = .int .u64 (acc : Int) ∧ Hid (acc < 128 ^ i) ∧ acc ≤ 18446744073709551615 ∧ Hid (decU i acc cur = decU 0 0 rest) ∧ Hid (Rdr wr B gd cur 0) ∧ w.grownBy wr (some gd)) (fun _ iv _ => 10 - (intOf iv).toNat)
    case atStart => exact ⟨0, 0, rest, by omega, rfl, rfl, Lib.hid (by decide), by omega, Lib.hid rfl, HR, only_refl _ _⟩
    case round =>
      obtain ⟨i, acc, cur, hi, rfl, rfl, HA, hacc, HD, HRr, ho⟩ := hrel
      cases cur with
      | nil =>
        go_wp2_with fail
        refine (octet_nil B gd _ HRr).mono ?_
        rintro e w1 ⟨rfl, hR1, ho1⟩
        obtain ⟨hc1, hf1⟩ := hR1.err_cell
        go_wp2
        go_ret
        rw [HU.out, ← HD.out, decU_nil]
        exact ⟨rfl, hR1, ho.trans ho1⟩
      | cons c r =>
        go_wp2_with fail
        refine (octet_cons B gd c r _ HRr).mono ?_
        rintro e w1 ⟨rfl, hR1, ho1⟩
        replace ho := ho.trans ho1
        obtain ⟨hc1, hf1⟩ := hR1.err_cell
        have hcl := c.toNat_lt
        cases hbad : badAt i c with
        | true =>
          have HF := Lib.hid (hR1.fail 2 (by decide))
          rw [decU_bad hbad] at HD
          rcases bad_cases hbad with ⟨q1, q2⟩ | ⟨q1, q2, q3⟩ | ⟨q1, q2, q3, q4⟩
          all_goals
            clear hbad ho1
            go_wp2
            go_ret
            rw [HU.out, ← HD.out]
            exact ⟨rfl, HF.out, only_set ho (.inl rfl) _⟩
        | false =>
          rcases ok_cases hbad with ⟨q1, q2, q3, q4⟩ | ⟨q1, q2, q3⟩ | ⟨q1, q2⟩
          all_goals
            clear ho1
            have HB := Lib.hid (or_step (c := c) hi HA.out (fun h => by subst h; unfold badAt at hbad; simp at hbad; omega))
            by_cases hc : c.toNat < 128
            · rw [decU_end hbad hc] at HD
              clear hbad
              go_wp2
              go_ret
              rw [HU.out, ← HD.out, HB.out, Nat.mod_eq_of_lt hc]
              exact ⟨rfl, hR1, ho⟩
            · first
                | (exfalso; omega)
                | (rw [decU_go hbad (by omega)] at HD
                   have hi9 : i ≠ 9 := by rintro rfl; unfold badAt at hbad; simp at hbad; omega
                   have HA2 : Hid (acc + c.toNat % 128 * 128 ^ i < 128 ^ (i + 1)) := by
                     refine Lib.hid ?_
                     have h1 := HA.out
                     have h2 : c.toNat % 128 * 128 ^ i ≤ 127 * 128 ^ i := Nat.mul_le_mul (by omega) (Nat.le_refl _)
                     rw [Nat.pow_succ]; omega
                   have hle : acc + c.toNat % 128 * 128 ^ i ≤ 18446744073709551615 := by
                     have h1 := HA2.out
                     have h2 : 128 ^ (i + 1) ≤ 128 ^ 9 := Nat.pow_le_pow_right (by decide) (by omega)
                     omega
                   have HLE := Lib.hid hle
                   clear hbad hle
                   go_wp2
                   exact ⟨⟨i + 1, _, r, by omega, by go_num, congrArg (Value.int .u64) HB.out, HA2, HLE.out, HD, Lib.hid hR1, ho⟩, by simp [intOf]; omega⟩)
  · have HU := Lib.hid (show readU rest err = (err, 0, []) from if_neg he)
    obtain ⟨hc1, hf1⟩ := HR.out.err_cell
    have hq : (err != 0) = true := by simpa using he
    go_enter Try.func26, Try.ntmps26
    go_wp2
    go_loopw [3, 4] (fun nv iv wr => nv = .int .u64 0 ∧ iv = .int .i64 0 ∧ wr = w) (fun _ _ _ => 0)
    case atStart => exact ⟨rfl, rfl, rfl⟩
    case round =>
      obtain ⟨rfl, rfl, rfl⟩ := hrel
      go_wp2_with fail
      refine (octet_err B gd rest err _ HR he).mono ?_
      rintro e w1 ⟨rfl, rfl⟩
      clear he
      go_wp2
      go_ret
      rw [HU.out]
      exact ⟨rfl, HR.out.any (by simpa using hq) _, only_refl _ _⟩

end Go.Proofs.Ytldmokjpfnakkaa

/- The walks of wire's Reader: Int, Bool, End, Read and the lists. -/
namespace Go.Proofs.Ytldmokjpfnakkaa
open Go.RowKit

theorem readU_lt (rest : List UInt8) (err : Int) : (readU rest err).2.1 ≤ 18446744073709551615 := by
  unfold readU
  split
  · exact (decU_lt rest 0 0 (by decide) (by decide)).1
  · simp
set_option maxRecDepth 100000 in
set_option maxHeartbeats 400000 in
theorem rint_any (B gd : Nat) (rest : List UInt8) (err : Int) (w : World) (HR : Hid (Rdr w B gd rest err)) :
    Calls Try.prog 73 #[.pointer (some ⟨gd, 0, none⟩)] w fun e w' => e = .returned (.int .i64 (unzigI (readU rest err).2.1)) ∧ Rdr w' B gd (readU rest err).2.2 (readU rest err).1 ∧ w.grownBy w' (some gd) := by
  go_enter Try.func73, Try.ntmps73
  go_wp2_with (first
    | (go_at_call 26; ((with_reducible refine (ruint_any B gd rest err _ HR).mono ?_); rintro e w1 ⟨rfl, hR1, ho1⟩))
    | (go_at_call 81; ((with_reducible refine (unzigzag_any _ _ rfl _ (readU_lt rest err)).mono ?_); rintro e w2 ⟨rfl, rfl⟩)))
  go_ret
  exact ⟨rfl, hR1, ho1⟩

def readB (rest : List UInt8) (err : Int) : Int × Bool × List UInt8 := if err = 0 then decBool rest else (err, false, [])

def endI (rest : List UInt8) (err : Int) : Int := if err = 0 then (if rest.length = 0 then 0 else 2) else err
set_option maxRecDepth 100000 in
set_option maxHeartbeats 400000 in
theorem rend_any (B gd : Nat) (rest : List UInt8) (err : Int) (w : World) (HR : Hid (Rdr w B gd rest err)) :
    Calls Try.prog 27 #[.pointer (some ⟨gd, 0, none⟩)] w fun e w' => e = .returned (.int .i64 (endI rest err)) ∧ w = w' := by
  obtain ⟨k1, k2, A, n, c, h1, h2, h3, h4⟩ := HR.out
  have hc0 : w.cell? ⟨gd, 0, none⟩ = some (.slice A n c) := by simpa using h1.cell 0
  have hc1 : w.cell? ⟨gd, 1, none⟩ = some (.int .i64 err) := by simpa using h1.cell 1
  by_cases he : err = 0
  · subst he
    have hl := (h4 rfl).1
    clear h1 h4
    by_cases hn : n = 0
    · have HE := Lib.hid (show endI rest 0 = 0 by unfold endI; rw [if_pos rfl, if_pos (by omega)])
      have hn' : (n : Int) ≤ 0 := by omega
      clear hl
      go_enter Try.func27, Try.ntmps27
      go_wp2
      go_ret
      rw [HE.out]
      exact ⟨rfl, rfl⟩
    · have HE := Lib.hid (show endI rest 0 = 2 by unfold endI; rw [if_pos rfl, if_neg (by omega)])
      have hn' : 0 < (n : Int) := by omega
      clear hl
      go_enter Try.func27, Try.ntmps27
      go_wp2
      go_ret
      rw [HE.out]
      exact ⟨rfl, rfl⟩
  · have HE := Lib.hid (show endI rest err = err by unfold endI; rw [if_neg he])
    have hq : (err != 0) = true := by simpa using he
    clear h1 h4 he
    go_enter Try.func27, Try.ntmps27
    go_wp2
    go_ret
    rw [HE.out]
    exact ⟨rfl, rfl⟩

/-- The blocks from lo to hi lie as they lay. -/
def Within (lo hi : Nat) (w w'' : World) : Prop := w.heap.size ≤ w''.heap.size ∧ ∀ b, lo ≤ b → b < hi → w''.heap[b]? = w.heap[b]?
theorem Within.grown {lo hi : Nat} {w w' w'' : World} {row : Option Nat} (h : Within lo hi w w') (hg : w'.grownBy w'' row) (hr : ∀ r, row = some r → r < lo ∨ hi ≤ r) (hhi : hi ≤ w.heap.size) : Within lo hi w w'' :=
  ⟨Nat.le_trans h.1 hg.size, fun b h1 h2 => (hg.block b (by have := h.1; omega) (fun e => by have := hr b e.symm; omega)).trans (h.2 b h1 h2)⟩
theorem Within.refl (lo hi : Nat) (w : World) : Within lo hi w w := ⟨Nat.le_refl _, fun _ _ _ => rfl⟩
set_option maxRecDepth 100000 in
set_option maxHeartbeats 400000 in
theorem read_any (A : Option Addr) (n c : Nat) (bs : List UInt8) (w : World) (HX : Hid (bs.length = n)) (hR : Rd w w.heap.size A n (vByte bs)) (hn : n ≤ 70368744177664) :
    Calls Try.prog 24 #[.slice A n c] w fun e w' => ∃ gd, e = .returned (.pointer (some ⟨gd, 0, none⟩)) ∧ w.heap.size ≤ gd ∧ Rdr w' w'.heap.size gd bs 0 ∧ Below w.heap.size w w' ∧ Hid (∀ w'', Within w.heap.size w'.heap.size w' w'' → Rdr w'' w'.heap.size gd bs 0) := by
  go_enter Try.func24, Try.ntmps24
  go_wp2_with (go_at_call 45; ((with_reducible refine (clone_any _ _ _ bs _ HX hR hn).mono ?_); rintro e w2 ⟨A', c', rfl, q1, q2, q3, q4, q5⟩))
  go_ret
  refine ⟨w2.heap.size, rfl, q5.size, ⟨by simp, Nat.le_refl _, A', n, c', Blk.new _ _ _, q1, q2, fun _ => ⟨HX.out, hn, (q4.alloc (Nat.le_refl _) _).more (by simp)⟩⟩, q5.alloc q5.size _, Lib.hid ?_⟩
  intro w'' hw
  refine ⟨by simp, hw.1, A', n, c', (hw.2 _ q5.size (by simp)).trans (Blk.new _ _ _), q1, q2, fun _ => ⟨HX.out, hn, fun h0 => ?_⟩⟩
  obtain ⟨g, rfl, hg1, hg2⟩ := own_some q3 h0
  obtain ⟨b, off, e, hb, hc⟩ := q4 h0
  cases e
  refine ⟨g, 0, rfl, by simp; omega, fun j hj => ?_⟩
  rw [World.cell?_of_block (w := w2.alloc _) (hw.2 g hg1 (by simp; omega)), ((Below.refl _ w2).alloc (Nat.le_refl _) _).cell hb]
  exact hc j hj

theorem only_more {a w w' : World} {gd : Nat} {row : Option Nat} (h : a.grownBy w (some gd)) (hg : w.grownBy w' row) (hr : ∀ r, row = some r → a.heap.size ≤ r) : a.grownBy w' (some gd) :=
  ⟨hg.os.trans h.os, hg.tape.trans h.tape, hg.output.trans h.output, Nat.le_trans h.size hg.size, fun i hi hne => (hg.block i (Nat.lt_of_lt_of_le hi h.size) (fun e => by have := hr i e.symm; omega)).trans (h.block i hi hne)⟩

def readRaw (rest : List UInt8) (err : Int) : Int × List UInt8 × List UInt8 := if err = 0 then decRaw rest else (err, [], [])
theorem readRaw_err {rest : List UInt8} {err : Int} (h : (readU rest err).1 ≠ 0) : readRaw rest err = ((readU rest err).1, [], []) := by
  unfold readRaw
  unfold readU at h ⊢
  split
  · rename_i he
    rw [if_pos he] at h
    unfold decRaw
    rw [if_pos h]
  · rfl
theorem readU_ok {rest : List UInt8} {err : Int} (h : (readU rest err).1 = 0) : err = 0 ∧ readU rest err = decU 0 0 rest := by
  unfold readU at h ⊢
  split at h
  · rename_i he
    exact ⟨he, if_pos he⟩
  · rename_i he
    exact absurd h he
theorem readRaw_more {rest : List UInt8} {err : Int} (h : (readU rest err).1 = 0) (h2 : (readU rest err).2.2.length < (readU rest err).2.1) : readRaw rest err = (3, [], []) := by
  obtain ⟨rfl, e⟩ := readU_ok h
  rw [e] at h h2
  unfold readRaw decRaw
  rw [if_pos rfl, if_neg (by simpa using h), if_pos h2]
theorem readRaw_ok {rest : List UInt8} {err : Int} (h : (readU rest err).1 = 0) (h2 : (readU rest err).2.1 ≤ (readU rest err).2.2.length) : readRaw rest err = (0, (readU rest err).2.2.take (readU rest err).2.1, (readU rest err).2.2.drop (readU rest err).2.1) := by
  obtain ⟨rfl, e⟩ := readU_ok h
  rw [e] at h h2 ⊢
  unfold readRaw decRaw
  rw [if_pos rfl, if_neg (by simpa using h), if_neg (by omega)]

set_option maxRecDepth 100000 in
set_option maxHeartbeats 1000000 in
theorem listb_any (B gd : Nat) (rest : List UInt8) (err : Int) (w : World) (HR : Hid (Rdr w B gd rest err)) :
    Calls Try.prog 46 #[.pointer (some ⟨gd, 0, none⟩), .func (.func 47) #[.pointer (some ⟨gd, 0, none⟩)] #[]] w fun e w' => ∃ A' n' c', e = .returned (.slice A' n' c') ∧ n' ≤ c' ∧ c' ≤ 9223372036854775807 ∧ n' ≤ 70368744177664 ∧ Hid ((readRaw rest err).2.1.length = n') ∧
      w'.ownsRow w.heap.size 5 1 (.slice A' n' c') n' ((readRaw rest err).2.1.map fun b => Value.int .u8 ((b.toNat : Nat) : Int)) ∧ Rdr w' B gd (readRaw rest err).2.2 (readRaw rest err).1 ∧ w.grownBy w' (some gd) := by
  obtain ⟨i0, hi, hz0, hz1, hz2⟩ := info_parts info_u8
  have hgB := HR.out.lt
  go_enter Try.func46, Try.ntmps46
  go_wp2_with fail
  refine (ruint_any B gd rest err _ HR).mono ?_
  rintro e w1 ⟨rfl, hR1, ho1⟩
  have hlt := readU_lt rest err
  by_cases he : (readU rest err).1 = 0
  · by_cases hm : (readU rest err).2.2.length < (readU rest err).2.1
    · have HE := Lib.hid (readRaw_more he hm)
      generalize readU rest err = q at *
      obtain ⟨e1, n, r1⟩ := q
      simp only at *
      subst he
      obtain ⟨k1, k2, A, m, c, h1, h2, h3, h4⟩ := hR1
      obtain ⟨hl, hmx, hRd⟩ := h4 rfl
      have hc0 : w1.cell? ⟨gd, 0, none⟩ = some (.slice A m c) := by simpa using h1.cell 0
      have hc1 : w1.cell? ⟨gd, 1, none⟩ = some (.int .i64 0) := by simpa using h1.cell 1
      have hf1 : w1.frozen? ⟨gd, 1, none⟩ = false := h1.frozen 1
      have HF := Lib.hid (Rdr.fail (rest := r1) ⟨k1, k2, A, m, c, h1, h2, h3, h4⟩ 3 (by decide))
      have hmn : m < n := by omega
      clear h1 h4 hl hm
      go_wp2
      go_ret
      rw [HE.out]
      exact ⟨none, 0, 0, rfl, by omega, by omega, by omega, Lib.hid rfl, World.ownsRow_nil _ _ _ _, HF.out, only_set ho1 (.inl rfl) _⟩
    · have HE := Lib.hid (readRaw_ok he (by omega))
      generalize readU rest err = q at *
      obtain ⟨e1, n, r1⟩ := q
      simp only at *
      subst he
      obtain ⟨k1, k2, A, m, c, h1, h2, h3, h4⟩ := hR1
      obtain ⟨hl, hmx, hRd⟩ := h4 rfl
      have hc0 : w1.cell? ⟨gd, 0, none⟩ = some (.slice A m c) := by simpa using h1.cell 0
      have hc1 : w1.cell? ⟨gd, 1, none⟩ = some (.int .i64 0) := by simpa using h1.cell 1
      have hR1 : Rdr w1 B gd r1 0 := ⟨k1, k2, A, m, c, h1, h2, h3, h4⟩
      have hmn : n ≤ m := by omega
      have hmd : decide (m < n) = false := by simpa using hmn
      have HL : Hid (r1.length = m) := Lib.hid hl
      obtain ⟨w2, hmk, hown2, hb2, hs2⟩ := make_rd (P := Try.prog) w1 23 5 i0 _ 1 Try.underlying23 hi hz0 hz1 hz2 .i64 .i64 n (by omega) (by unfold maxLen; omega)
      have hR2 := Lib.hid (hR1.all hb2)
      have ho2 := only_below ho1 hb2
      have hown2' := own_lower hown2 ho1.size
      clear h1 h4 hl hm hown2 hb2 hRd hR1
      go_wp2
      go_loopw [6, 30] (fun v iv wr => ∃ k : Nat, k ≤ n ∧ iv = .int .i64 (k : Int) ∧ wr.ownsRow w.heap.size 5 1 v k ((r1.take k).map fun b => Value.int .u8 ((b.toNat : Nat) : Int)) ∧ Hid (Rdr wr B gd (r1.drop k) 0) ∧ w.grownBy wr (some gd)) (fun _ iv _ => n - (intOf iv).toNat)
      case atStart => exact ⟨0, by omega, rfl, hown2', hR2, ho2⟩
      case round =>
        clear hown2' hR2 ho2 ho1 hmk hc0 hc1 hs2
        obtain ⟨k, hk, rfl, hown, HRr, ho⟩ := hrel
        obtain ⟨v6, rfl⟩ : ∃ x, x = u6 := ⟨_, rfl⟩
        by_cases hlt : k < n
        · have hkl : k < r1.length := by rw [HL.out]; omega
          have ed : r1.drop k = r1[k] :: r1.drop (k + 1) := List.drop_eq_getElem_cons hkl
          have et : r1.take (k + 1) = r1.take k ++ [r1[k]] := List.take_succ_eq_append_getElem hkl
          rw [ed] at HRr
          have HT := Lib.hid et
          generalize r1[k] = x at *
          clear ed et hkl
          go_wp2_with fail
          refine (octet_cons B gd x _ _ HRr).mono ?_
          rintro e w3 ⟨rfl, hR3, ho3⟩
          have hown3 := hown.kept ho3 (.inr (fun e => by have := (hown.lt gd e).1; omega))
          obtain ⟨g, cap, w4, hap, hown4, hg4, _, _⟩ := run_append_one (P := Try.prog) w3 w.heap.size 23 23 5 i0 _ 1 Try.underlying23 hi hz0 hz1 hz2 rfl _ _ _ hown3 (.int .u8 ((x.toNat : Nat) : Int)) rfl (by unfold maxLen; omega) (by omega) (Nat.le_trans ho.size ho3.size)
          have HA := Lib.hid hap; clear hap
          have hR4 := hR3.grown hg4 (fun r er => by have := (hown3.lt r er).1; omega)
          have ho4 := only_more (ho.trans ho3) hg4 (fun r er => (hown3.lt r er).1)
          obtain ⟨hc1, hf1⟩ := hR4.err_cell
          have HR4 := Lib.hid hR4
          clear hR3 hown3 hg4 ho3 hR4
          go_wp2_with (at_builtin; refine wpList_append_run HA.out rfl rfl rfl rfl ?_)
          refine ⟨⟨k + 1, by omega, by go_num, ?_, HR4, ho4⟩, by simp [intOf]; omega⟩
          rw [HT.out, List.map_append]
          exact hown4
        · obtain rfl : k = n := by omega
          obtain ⟨A', c', rfl⟩ := own_slice hown
          have hr := rd_bytes hown
          go_wp2
          go_ret
          rw [HE.out]
          exact ⟨A', k, c', rfl, hr.2.1, own_cap hown, by omega, Lib.hid (by simp [HL.out]; omega), hown, HRr.out, ho⟩
  · have HE := Lib.hid (readRaw_err he)
    obtain ⟨hc1, hf1⟩ := hR1.err_cell
    generalize readU rest err = q at *
    obtain ⟨e1, n, r1⟩ := q
    simp only at *
    have hq : (e1 != 0) = true := by simpa using he
    go_wp2
    go_ret
    rw [HE.out]
    exact ⟨none, 0, 0, rfl, by omega, by omega, by omega, Lib.hid rfl, World.ownsRow_nil _ _ _ _, hR1.any he _, ho1⟩

set_option maxRecDepth 100000 in
set_option maxHeartbeats 400000 in
theorem rraw_any (B gd : Nat) (rest : List UInt8) (err : Int) (w : World) (HR : Hid (Rdr w B gd rest err)) :
    Calls Try.prog 25 #[.pointer (some ⟨gd, 0, none⟩)] w fun e w' => ∃ A' n' c', e = .returned (.slice A' n' c') ∧ n' ≤ c' ∧ c' ≤ 9223372036854775807 ∧ n' ≤ 70368744177664 ∧ Hid ((readRaw rest err).2.1.length = n') ∧
      w'.ownsRow w.heap.size 5 1 (.slice A' n' c') n' ((readRaw rest err).2.1.map fun b => Value.int .u8 ((b.toNat : Nat) : Int)) ∧ Rdr w' B gd (readRaw rest err).2.2 (readRaw rest err).1 ∧ w.grownBy w' (some gd) := by
  go_enter Try.func25, Try.ntmps25
  go_wp2_with (go_at_call 46; ((with_reducible refine (listb_any B gd rest err _ HR).mono ?_); rintro e w2 ⟨A', n', c', rfl, q1, q2, q3, q4, q5, q6, q7⟩))
  go_ret
  exact ⟨A', n', c', rfl, q1, q2, q3, q4, q5, q6, q7⟩


def readInts (rest : List UInt8) (err : Int) : Int × List Int × List UInt8 := if err = 0 then decInts rest else (err, [], [])
theorem readInts_err {rest : List UInt8} {err : Int} (h : (readU rest err).1 ≠ 0) : readInts rest err = ((readU rest err).1, [], []) := by
  unfold readInts
  unfold readU at h ⊢
  split
  · rename_i he
    rw [if_pos he] at h
    unfold decInts
    rw [if_pos h]
  · rfl
theorem readInts_more {rest : List UInt8} {err : Int} (h : (readU rest err).1 = 0) (h2 : (readU rest err).2.2.length < (readU rest err).2.1) : readInts rest err = (3, [], []) := by
  obtain ⟨rfl, e⟩ := readU_ok h
  rw [e] at h h2
  unfold readInts decInts
  rw [if_pos rfl, if_neg (by simpa using h), if_pos h2]
theorem readInts_ok {rest : List UInt8} {err : Int} (h : (readU rest err).1 = 0) (h2 : (readU rest err).2.1 ≤ (readU rest err).2.2.length) : readInts rest err = decK (readU rest err).2.1 (readU rest err).2.2 := by
  obtain ⟨rfl, e⟩ := readU_ok h
  rw [e] at h h2 ⊢
  unfold readInts decInts
  rw [if_pos rfl, if_neg (by simpa using h), if_neg (by omega)]
/-- Numbers ahead of what is read. -/
def ahead (pre : List Int) (q : Int × List Int × List UInt8) : Int × List Int × List UInt8 := if q.1 = 0 then (0, pre ++ q.2.1, q.2.2) else (q.1, [], [])
theorem decK_out : ∀ (k : Nat) (r : List UInt8), (decK k r).1 = 0 ∨ (decK k r).2 = ([], [])
  | 0, r => .inl rfl
  | k + 1, r => by
    rw [decK]
    split
    · exact .inr rfl
    · split
      · exact .inr rfl
      · exact .inl rfl
theorem ahead_nil (k : Nat) (r : List UInt8) : ahead [] (decK k r) = decK k r := by
  unfold ahead
  split
  · rename_i h; rw [List.nil_append, ← h]
  · rename_i h
    rcases decK_out k r with h2 | h2
    · exact absurd h2 h
    · rw [← h2]
theorem ahead_bad {pre : List Int} {k : Nat} {r : List UInt8} (h : (decU 0 0 r).1 ≠ 0) : ahead pre (decK (k + 1) r) = ((decU 0 0 r).1, [], []) := by
  rw [decK, if_pos h]
  unfold ahead
  rw [if_neg h]
theorem ahead_go {pre : List Int} {k : Nat} {r : List UInt8} (h : (decU 0 0 r).1 = 0) : ahead pre (decK (k + 1) r) = ahead (pre ++ [unzigI (decU 0 0 r).2.1]) (decK k (decU 0 0 r).2.2) := by
  rw [decK, if_neg (by simpa using h)]
  unfold ahead
  by_cases h2 : (decK k (decU 0 0 r).2.2).1 = 0
  · simp [h2]
  · simp [h2]



end Go.Proofs.Ytldmokjpfnakkaa

/- Plain Lean: what is written is read; what is read was written; prefixes. -/
namespace Go.Proofs.Ytldmokjpfnakkaa
open Go.RowKit

def InI (n : Int) : Prop := -9223372036854775808 ≤ n ∧ n ≤ 9223372036854775807
theorem decU_int {n : Int} (h : InI n) (r : List UInt8) : decU 0 0 (encInt n ++ r) = (0, zigI n, r) := decU_enc (zigI_lt h.1 h.2) r
theorem encInt_pos (n : Int) : 0 < (encInt n).length := varint_pos _
theorem decRaw_enc {bs : List UInt8} (h : bs.length ≤ 18446744073709551615) (r : List UInt8) : decRaw (encRaw bs ++ r) = (0, bs, r) := by
  have e : decU 0 0 (encRaw bs ++ r) = (0, bs.length, bs ++ r) := by unfold encRaw; rw [List.append_assoc]; exact decU_enc h _
  unfold decRaw
  rw [e]
  simp
theorem decK_enc : ∀ (l : List Int) (_ : ∀ n ∈ l, InI n) (r : List UInt8), decK l.length (l.flatMap encInt ++ r) = (0, l, r)
  | [], _, r => rfl
  | n :: l, h, r => by
    have hn := h n (by simp)
    have ih := decK_enc l (fun m hm => h m (by simp [hm])) r
    rw [List.flatMap_cons, List.append_assoc, List.length_cons, decK, decU_int hn, if_neg (by simp), ih, if_neg (by simp), unzig_zig]
theorem flat_len (l : List Int) : l.length ≤ (l.flatMap encInt).length := by
  induction l with
  | nil => simp
  | cons n l ih => rw [List.flatMap_cons, List.length_append, List.length_cons]; have := encInt_pos n; omega
theorem decInts_enc {l : List Int} (hl : l.length ≤ 18446744073709551615) (h : ∀ n ∈ l, InI n) (r : List UInt8) : decInts (encInts l ++ r) = (0, l, r) := by
  have e : decU 0 0 (encInts l ++ r) = (0, l.length, l.flatMap encInt ++ r) := by unfold encInts; rw [List.append_assoc]; exact decU_enc hl _
  have := flat_len l
  unfold decInts
  rw [e, if_neg (by simp), if_neg (by simp only [List.length_append]; omega)]
  exact decK_enc l h r
theorem decBool_enc (b : Bool) (r : List UInt8) : decBool (encBool b ++ r) = (0, b, r) := by cases b <;> rfl
end Go.Proofs.Ytldmokjpfnakkaa
