/- Plain facts on the 64-bit hash of package hash: no program in sight. -/
import GoSem.Claim
import Derived.WalkKit
namespace Go.Proofs.Ytompkpleiichaaa
open Go.RowKit

/-- One step of the hash, as the walk spells it. -/
def mixI (a b : Int) : Int :=
  bits BinOp.xor IntKind.u64 (IntKind.u64.wrap (bits BinOp.xor IntKind.u64 a b * 11400714819323198485))
    (IntKind.u64.wrap (bits BinOp.xor IntKind.u64 a b * 11400714819323198485) / 4294967296)

theorem wrap_u64 (n : Int) : IntKind.u64.wrap n = n % 18446744073709551616 := by
  simp [IntKind.wrap, IntKind.bits, IntKind.signed]
theorem mixI_alt (a b : Int) : mixI a b = bits BinOp.xor IntKind.u64 (IntKind.u64.wrap (bits BinOp.xor IntKind.u64 a b * 11400714819323198485))
    (IntKind.u64.wrap ((IntKind.u64.wrap (bits BinOp.xor IntKind.u64 a b * 11400714819323198485)).tdiv 4294967296)) := by
  unfold mixI
  congr 1
  generalize bits BinOp.xor IntKind.u64 a b * 11400714819323198485 = x
  rw [wrap_u64, wrap_u64]
  have h0 : 0 ≤ x % 18446744073709551616 := Int.emod_nonneg _ (by decide)
  have h1 : x % 18446744073709551616 < 18446744073709551616 := Int.emod_lt_of_pos _ (by decide)
  rw [Int.tdiv_eq_ediv_of_nonneg h0]
  omega

/-- The little-endian number of a list of bytes. -/
def wordN : List UInt8 → Nat
  | [] => 0
  | b :: bs => b.toNat + 256 * wordN bs

theorem wordN_lt (bs : List UInt8) : wordN bs < 256 ^ bs.length := by
  induction bs with
  | nil => simp [wordN]
  | cons b bs ih =>
    have hb : b.toNat < 256 := b.toNat_lt
    simp only [wordN, List.length_cons, Nat.pow_succ]
    omega

theorem wordN_snoc (bs : List UInt8) (b : UInt8) : wordN (bs ++ [b]) = wordN bs + 256 ^ bs.length * b.toNat := by
  induction bs with
  | nil => simp [wordN]
  | cons c bs ih =>
    simp only [List.cons_append, wordN, ih, List.length_cons, Nat.pow_succ, Nat.mul_add]
    have : 256 * (256 ^ bs.length * b.toNat) = 256 ^ bs.length * 256 * b.toNat := by
      rw [← Nat.mul_assoc, Nat.mul_comm 256]
    omega

/-- Group number k of 8 bytes. -/
def group (bs : List UInt8) (k : Nat) : List UInt8 := (bs.drop (8 * k)).take 8

def nwords (bs : List UInt8) : Nat := (bs.length + 7) / 8

def wordAt (bs : List UInt8) (k : Nat) : Int := (wordN (group bs k) : Nat)

/-- The words of a list of bytes, the first k of them. -/
def wordsTo (bs : List UInt8) (k : Nat) : List Int := (List.range k).map (wordAt bs)
def wordsI (bs : List UInt8) : List Int := wordsTo bs (nwords bs)

theorem wordsTo_succ (bs : List UInt8) (k : Nat) : wordsTo bs (k + 1) = wordsTo bs k ++ [wordAt bs k] := by simp [wordsTo, List.range_succ]
theorem wordsTo_zero (bs : List UInt8) : wordsTo bs 0 = [] := rfl
theorem wordsTo_length (bs : List UInt8) (k : Nat) : (wordsTo bs k).length = k := by simp [wordsTo]

theorem group_length (bs : List UInt8) (k : Nat) : (group bs k).length = min 8 (bs.length - 8 * k) := by simp [group]

/-- One round of the program's loop over a group. -/
theorem word_step (g : List UInt8) (j : Nat) (h8 : j < 8) (hj : j < g.length) :
    bits BinOp.or IntKind.u64 ((wordN (g.take j) : Nat) : Int) (IntKind.u64.wrap (IntKind.u64.wrap (((g[j]?.getD 0).toNat : Nat) : Int) * 2 ^ (8 * j))) = ((wordN (g.take (j + 1)) : Nat) : Int) := by
  have hb : (g[j]?.getD 0).toNat < 256 := UInt8.toNat_lt _
  have hlt := wordN_lt (g.take j)
  have hl : (g.take j).length = j := by simp; omega
  rw [hl] at hlt
  have hp : (256 : Nat) ^ j = 2 ^ (8 * j) := by rw [show (256 : Nat) = 2 ^ 8 from rfl, ← Nat.pow_mul]
  have hpw : 2 ^ (8 * j) ≤ 2 ^ 56 := Nat.pow_le_pow_right (by decide) (by omega)
  have e1 : wordN (g.take (j + 1)) = wordN (g.take j) + 2 ^ (8 * j) * (g[j]?.getD 0).toNat := by
    rw [List.take_succ_eq_append_getElem hj, wordN_snoc, hl, hp]
    simp [hj]
  generalize (g[j]?.getD 0).toNat = c at *
  generalize wordN (g.take j) = x at *
  have hcm : 2 ^ (8 * j) * c ≤ 2 ^ 56 * 255 := Nat.mul_le_mul hpw (by omega)
  rw [wrap_u64, wrap_u64]
  have e2 : ((c : Int) % 18446744073709551616 * 2 ^ (8 * j)) % 18446744073709551616 = ((2 ^ (8 * j) * c : Nat) : Int) := by
    rw [Int.emod_eq_of_lt (a := (c : Int)) (by omega) (by omega)]
    rw [show ((c : Int) * 2 ^ (8 * j)) = ((2 ^ (8 * j) * c : Nat) : Int) from by push_cast; exact Int.mul_comm _ _]
    exact Int.emod_eq_of_lt (by omega) (by omega)
  rw [e2, u64_or_nat _ _ (by omega) (by omega), e1]
  congr 1
  rw [Nat.or_comm, ← Nat.two_pow_add_eq_or_of_lt (by omega)]
  omega

/-- One round of the reference's loop over a group. -/
theorem word_back (g : List UInt8) (r : Nat) (hr : r < g.length) (h8 : g.length ≤ 8) :
    IntKind.u64.wrap (IntKind.u64.wrap (256 * ((wordN (g.drop (r + 1)) : Nat) : Int)) + IntKind.u64.wrap (((g[r]?.getD 0).toNat : Nat) : Int)) = ((wordN (g.drop r) : Nat) : Int) := by
  have e : wordN (g.drop r) = (g[r]?.getD 0).toNat + 256 * wordN (g.drop (r + 1)) := by
    rw [List.drop_eq_getElem_cons hr, wordN]
    simp [hr]
  have h1 := wordN_lt (g.drop r)
  have h2 : 256 ^ (g.drop r).length ≤ 256 ^ 8 := Nat.pow_le_pow_right (by decide) (by simp; omega)
  rw [wrap_u64, wrap_u64, wrap_u64]
  omega

theorem group_take (bs : List UInt8) (k m : Nat) (h : (group bs k).length ≤ m) : (group bs k).take m = group bs k := List.take_of_length_le h

/-- All the steps of a list of words. -/
def mixAll (s : Int) (ws : List Int) : Int := ws.foldl mixI s
theorem mixAll_snoc (s : Int) (ws : List Int) (x : Int) : mixAll s (ws ++ [x]) = mixI (mixAll s ws) x := by simp [mixAll]
theorem mixAll_nil (s : Int) : mixAll s [] = s := rfl

/-- An int as a word. -/
def toU (n : Int) : Int := IntKind.u64.wrap n
/-- A word as an int. -/
def toI (n : Int) : Int := wrap64 n

/-- The hash of a label and integers. -/
def sumI (label : List UInt8) (ws : List Int) : Int :=
  mixI (mixAll (mixI (mixI (mixAll 0 (wordsI label)) (label.length : Nat)) (ws.length : Nat)) (ws.map toU)) 0

/-- The state behind the first j integers. -/
def sumTo (label : List UInt8) (n : Nat) (ws : List Int) (j : Nat) : Int :=
  mixAll (mixI (mixI (mixAll 0 (wordsI label)) (label.length : Nat)) (n : Nat)) ((ws.take j).map toU)
theorem sumTo_zero (label : List UInt8) (n : Nat) (ws : List Int) : sumTo label n ws 0 = mixI (mixI (mixAll 0 (wordsI label)) (label.length : Nat)) (n : Nat) := rfl
theorem sumTo_succ (label : List UInt8) (n : Nat) (ws : List Int) (j : Nat) (hj : j < ws.length) : sumTo label n ws (j + 1) = mixI (sumTo label n ws j) (IntKind.u64.wrap (ws[j]?.getD 0)) := by
  unfold sumTo
  rw [List.take_succ_eq_append_getElem hj, List.map_append, List.map_cons, List.map_nil, mixAll_snoc]
  simp [hj, toU]
theorem sumTo_all (label : List UInt8) (n : Nat) (ws : List Int) (hn : ws.length = n) : mixI (sumTo label n ws n) 0 = sumI label ws := by
  unfold sumTo sumI
  rw [List.take_of_length_le (by omega), hn]

def bytesI (label bs : List UInt8) : Int := sumI label ((wordsI bs).map toI ++ [((bs.length : Nat) : Int)])

def pairBytes : List UInt8 := [112, 97, 105, 114]
def pairI (a b : Int) : Int := sumI pairBytes [toI a, toI b]

end Go.Proofs.Ytompkpleiichaaa
