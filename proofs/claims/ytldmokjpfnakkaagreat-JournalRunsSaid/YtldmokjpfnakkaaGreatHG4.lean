/- The hash is one to one in each of its words: no program in sight. -/
import Derived.Test.YtldmokjpfnakkaaGreatHG3

namespace Go.Proofs.YtldmokjpfnakkaaGreat
open Go.RowKit

/-- A word of 64 bits. -/
def InU (n : Int) : Prop := 0 ≤ n ∧ n < 18446744073709551616

def mixB (s w : BitVec 64) : BitVec 64 := ((s ^^^ w) * 11400714819323198485#64) ^^^ (((s ^^^ w) * 11400714819323198485#64) >>> 32)

theorem bits_xor_u64 (a b : Int) : bits BinOp.xor IntKind.u64 a b = ((BitVec.ofInt 64 a ^^^ BitVec.ofInt 64 b).toNat : Int) := by
  show IntKind.u64.wrap ((BitVec.ofInt 64 a ^^^ BitVec.ofInt 64 b).toNat : Int) = _
  rw [wrap_u64]
  have := (BitVec.ofInt 64 a ^^^ BitVec.ofInt 64 b).isLt
  omega

theorem ofInt_toNat64 (x : BitVec 64) : BitVec.ofInt 64 (x.toNat : Int) = x := by
  rw [BitVec.ofInt_natCast, BitVec.ofNat_toNat, BitVec.setWidth_eq]

theorem mixI_eq (a b : Int) : mixI a b = ((mixB (BitVec.ofInt 64 a) (BitVec.ofInt 64 b)).toNat : Int) := by
  have hm : IntKind.u64.wrap (bits BinOp.xor IntKind.u64 a b * 11400714819323198485) = (((BitVec.ofInt 64 a ^^^ BitVec.ofInt 64 b) * 11400714819323198485#64).toNat : Int) := by
    rw [bits_xor_u64, wrap_u64, BitVec.toNat_mul]
    simp
  unfold mixI mixB
  rw [hm]
  generalize (BitVec.ofInt 64 a ^^^ BitVec.ofInt 64 b) * 11400714819323198485#64 = m
  have hs : (m.toNat : Int) / (4294967296 : Int) = ((m >>> 32).toNat : Int) := by
    rw [BitVec.toNat_ushiftRight, Nat.shiftRight_eq_div_pow]
    rfl
  rw [hs, bits_xor_u64, ofInt_toNat64, ofInt_toNat64]

theorem xorshift_inj (m m' : BitVec 64) (h : m ^^^ (m >>> 32) = m' ^^^ (m' >>> 32)) : m = m' := by
  have h2 : m >>> 32 = m' >>> 32 := by
    have e : ∀ x : BitVec 64, (x ^^^ (x >>> 32)) >>> 32 = x >>> 32 := by
      intro x
      rw [BitVec.ushiftRight_xor_distrib, ← BitVec.shiftRight_add]
      have : x >>> (32 + 32) = 0#64 := BitVec.ushiftRight_eq_zero (by decide)
      rw [this, BitVec.xor_zero]
    rw [← e m, ← e m', h]
  rw [h2] at h
  exact (BitVec.xor_left_inj (m' >>> 32)).1 h

theorem mul_inj (x y : BitVec 64) (h : x * 11400714819323198485#64 = y * 11400714819323198485#64) : x = y := by
  have e : ∀ z : BitVec 64, z * 11400714819323198485#64 * 17428512612931826493#64 = z := by
    intro z
    rw [BitVec.mul_assoc, show 11400714819323198485#64 * 17428512612931826493#64 = 1#64 from by decide, BitVec.mul_one]
  rw [← e x, ← e y, h]

theorem mixB_inj_word (s w w' : BitVec 64) (h : mixB s w = mixB s w') : w = w' :=
  (BitVec.xor_right_inj s).1 (mul_inj _ _ (xorshift_inj _ _ h))
theorem mixB_inj_state (s s' w : BitVec 64) (h : mixB s w = mixB s' w) : s = s' :=
  (BitVec.xor_left_inj w).1 (mul_inj _ _ (xorshift_inj _ _ h))

theorem ofInt_inj {a b : Int} (ha : InU a) (hb : InU b) (h : BitVec.ofInt 64 a = BitVec.ofInt 64 b) : a = b := by
  have h' := congrArg BitVec.toNat h
  rw [BitVec.toNat_ofInt, BitVec.toNat_ofInt] at h'
  unfold InU at ha hb
  omega

theorem mixI_in (a b : Int) : InU (mixI a b) := by
  rw [mixI_eq]
  have := (mixB (BitVec.ofInt 64 a) (BitVec.ofInt 64 b)).isLt
  exact ⟨by omega, by omega⟩

theorem mixI_word {s x y : Int} (hx : InU x) (hy : InU y) (h : mixI s x = mixI s y) : x = y := by
  rw [mixI_eq, mixI_eq] at h
  exact ofInt_inj hx hy (mixB_inj_word (BitVec.ofInt 64 s) _ _ (BitVec.eq_of_toNat_eq (Int.ofNat.inj h)))
theorem mixI_state {s t x : Int} (hs : InU s) (ht : InU t) (h : mixI s x = mixI t x) : s = t := by
  rw [mixI_eq, mixI_eq] at h
  exact ofInt_inj hs ht (mixB_inj_state _ _ (BitVec.ofInt 64 x) (BitVec.eq_of_toNat_eq (Int.ofNat.inj h)))

theorem mixAll_in {s : Int} (hs : InU s) (l : List Int) : InU (mixAll s l) := by
  induction l generalizing s with
  | nil => exact hs
  | cons x l ih => exact ih (mixI_in _ _)
theorem mixAll_state {s t : Int} (hs : InU s) (ht : InU t) (l : List Int) (h : mixAll s l = mixAll t l) : s = t := by
  induction l generalizing s t with
  | nil => exact h
  | cons x l ih => exact mixI_state hs ht (ih (mixI_in _ _) (mixI_in _ _) h)

/-- One word apart. -/
theorem mixAll_one {s x y : Int} (l r : List Int) (hx : InU x) (hy : InU y) : mixAll s (l ++ x :: r) = mixAll s (l ++ y :: r) ↔ x = y := by
  constructor
  · intro h
    simp only [mixAll, List.foldl_append, List.foldl_cons] at h
    exact mixI_word hx hy (mixAll_state (mixI_in _ _) (mixI_in _ _) r h)
  · rintro rfl; rfl

theorem toU_in (n : Int) : InU (toU n) := by
  unfold toU; rw [wrap_u64]; exact ⟨Int.emod_nonneg _ (by decide), Int.emod_lt_of_pos _ (by decide)⟩

theorem natU (n : Nat) (h : n < 18446744073709551616) : InU (n : Int) := ⟨by omega, by omega⟩
theorem zeroU : InU 0 := ⟨by decide, by decide⟩

/-- The words that a sum absorbs. -/
def sumWords (label : List UInt8) (ws : List Int) : List Int := wordsI label ++ [((label.length : Nat) : Int), ((ws.length : Nat) : Int)] ++ ws.map toU ++ [0]
theorem sumI_words (label : List UInt8) (ws : List Int) : sumI label ws = mixAll 0 (sumWords label ws) := by
  simp [sumI, sumWords, mixAll]

/-- Two sums whose words differ at one place. -/
theorem sum_one (label : List UInt8) (l r : List Int) (x y : Int) : sumI label (l ++ x :: r) = sumI label (l ++ y :: r) ↔ toU x = toU y := by
  rw [sumI_words, sumI_words]
  have e : ∀ z, sumWords label (l ++ z :: r) = (wordsI label ++ [((label.length : Nat) : Int), (((l ++ z :: r).length : Nat) : Int)] ++ l.map toU) ++ toU z :: (r.map toU ++ [0]) := by
    intro z; simp [sumWords]
  rw [e, e]
  have hl : ∀ z, (l ++ z :: r).length = l.length + r.length + 1 := by intro z; simp; omega
  rw [hl, hl]
  exact mixAll_one _ _ (toU_in _) (toU_in _)

theorem toU_inj {a b : Int} (ha : -9223372036854775808 ≤ a ∧ a ≤ 9223372036854775807) (hb : -9223372036854775808 ≤ b ∧ b ≤ 9223372036854775807) : toU a = toU b ↔ a = b := by
  unfold toU; rw [wrap_u64, wrap_u64]; omega
theorem toU_toI {a : Int} (ha : InU a) : toU (toI a) = a := by
  unfold toU toI wrap64; rw [wrap_u64]; unfold InU at ha; omega

/-- Sums that differ at one integer. -/
theorem sum_set (label : List UInt8) (xs : List Int) (k : Nat) (v : Int) (hk : k < xs.length) (h1 : -9223372036854775808 ≤ xs[k] ∧ xs[k] ≤ 9223372036854775807) (h2 : -9223372036854775808 ≤ v ∧ v ≤ 9223372036854775807) :
    sumI label xs = sumI label (xs.set k v) ↔ xs[k] = v := by
  have e1 : xs = xs.take k ++ xs[k] :: xs.drop (k + 1) := by simp
  have e2 : xs.set k v = xs.take k ++ v :: xs.drop (k + 1) := by rw [List.set_eq_take_append_cons_drop, if_pos hk]
  rw [e2]
  conv => lhs; lhs; rw [e1]
  rw [sum_one, toU_inj h1 h2]

/-- Sums under two labels whose words differ at one place. -/
theorem sum_label_one {la lb : List UInt8} (ws : List Int) {l r : List Int} {x y : Int} (hx : InU x) (hy : InU y) (ea : wordsI la = l ++ x :: r) (eb : wordsI lb = l ++ y :: r) (hl : la.length = lb.length) :
    sumI la ws = sumI lb ws ↔ x = y := by
  rw [sumI_words, sumI_words]
  unfold sumWords
  rw [ea, eb, hl]
  simp only [List.append_assoc, List.cons_append]
  exact mixAll_one _ _ hx hy

theorem wordN_inj : ∀ {a b : List UInt8}, a.length = b.length → wordN a = wordN b → a = b
  | [], [], _, _ => rfl
  | x :: a, y :: b, hl, h => by
    have hx : x.toNat < 256 := x.toNat_lt
    have hy : y.toNat < 256 := y.toNat_lt
    simp only [wordN] at h
    have h1 : x = y := UInt8.toNat_inj.1 (by omega)
    have h2 : a = b := wordN_inj (by simpa using hl) (by omega)
    rw [h1, h2]

theorem group_lt (bs : List UInt8) (k : Nat) : wordN (group bs k) < 18446744073709551616 := by
  have h := wordN_lt (group bs k)
  have h8 : (group bs k).length ≤ 8 := by rw [group_length]; omega
  have := Nat.pow_le_pow_right (n := 256) (by decide) h8
  omega
theorem wordAt_in (bs : List UInt8) (k : Nat) : InU (wordAt bs k) := natU _ (group_lt bs k)

/-- The words, one of them singled out. -/
theorem words_split (bs : List UInt8) (g : Nat) (hg : g < nwords bs) : wordsI bs = (List.range g).map (wordAt bs) ++ wordAt bs g :: ((List.range (nwords bs - g - 1)).map fun j => wordAt bs (g + 1 + j)) := by
  unfold wordsI wordsTo
  obtain ⟨d, hd⟩ : ∃ d, nwords bs = g + (1 + d) := ⟨nwords bs - g - 1, by omega⟩
  rw [hd, List.range_add, List.map_append, List.map_map, List.range_add, List.map_append]
  congr 1
  have : g + (1 + d) - g - 1 = d := by omega
  rw [this]
  simp [Function.comp_def, Nat.add_assoc]

/-- Two lists of bytes of one length that agree outside of group g. -/
theorem words_one {a b : List UInt8} {g : Nat} (hl : a.length = b.length) (hg : g < nwords a) (hout : ∀ j, j ≠ g → group a j = group b j) :
    ∃ l r, wordsI a = l ++ wordAt a g :: r ∧ wordsI b = l ++ wordAt b g :: r := by
  have hn : nwords b = nwords a := by unfold nwords; rw [hl]
  refine ⟨(List.range g).map (wordAt a), _, words_split a g hg, ?_⟩
  rw [words_split b g (by omega), hn]
  congr 1
  · refine List.map_congr_left fun j hj => ?_
    unfold wordAt
    rw [hout j (by have := List.mem_range.1 hj; omega)]
  · congr 1
    refine List.map_congr_left fun j hj => ?_
    unfold wordAt
    rw [hout (g + 1 + j) (by omega)]

theorem groups_ext {a b : List UInt8} (_hl : a.length = b.length) (h : ∀ j, group a j = group b j) : a = b := by
  refine List.ext_getElem? fun i => ?_
  have := congrArg (fun l : List UInt8 => l[i % 8]?) (h (i / 8))
  simp only [group, List.getElem?_take, List.getElem?_drop] at this
  rw [if_pos (by omega), if_pos (by omega)] at this
  have e : 8 * (i / 8) + i % 8 = i := by omega
  rwa [e] at this

/-- Two lists that agree outside of a group have the word of that group in common just where they are one. -/
theorem word_eq_iff {a b : List UInt8} {g : Nat} (hl : a.length = b.length) (hout : ∀ j, j ≠ g → group a j = group b j) : wordAt a g = wordAt b g ↔ a = b := by
  constructor
  · intro h
    have h' : wordN (group a g) = wordN (group b g) := by unfold wordAt at h; omega
    have hgl : (group a g).length = (group b g).length := by rw [group_length, group_length, hl]
    have hg := wordN_inj hgl h'
    exact groups_ext hl fun j => by
      by_cases e : j = g
      · rw [e]; exact hg
      · exact hout j e
  · rintro rfl; rfl

/-- bytes: one group apart. -/
theorem bytes_one (label : List UInt8) {a b : List UInt8} {g : Nat} (hl : a.length = b.length) (hg : g < nwords a) (hout : ∀ j, j ≠ g → group a j = group b j) : bytesI label a = bytesI label b ↔ a = b := by
  obtain ⟨l, r, ea, eb⟩ := words_one hl hg hout
  unfold bytesI
  rw [ea, eb, hl]
  simp only [List.map_append, List.map_cons, List.append_assoc, List.cons_append]
  rw [sum_one, toU_toI (wordAt_in a g), toU_toI (wordAt_in b g)]
  exact word_eq_iff hl hout

/-- labels: one group apart. -/
theorem label_one {a b : List UInt8} (ws : List Int) {g : Nat} (hl : a.length = b.length) (hg : g < nwords a) (hout : ∀ j, j ≠ g → group a j = group b j) : sumI a ws = sumI b ws ↔ a = b := by
  obtain ⟨l, r, ea, eb⟩ := words_one hl hg hout
  rw [sum_label_one ws (wordAt_in a g) (wordAt_in b g) ea eb hl]
  exact word_eq_iff hl hout

/-- A change within one group. -/
theorem group_set {bs : List UInt8} {k : Nat} {v : UInt8} (j : Nat) (hj : j ≠ k / 8) : group (bs.set k v) j = group bs j := by
  unfold group
  refine List.ext_getElem? fun i => ?_
  simp only [List.getElem?_take, List.getElem?_drop]
  split
  · rw [List.getElem?_set_ne (by omega)]
  · rfl

theorem wordN_zero (g : List UInt8) : wordN (g ++ [0]) = wordN g := by rw [wordN_snoc]; simp

/-- A zero byte behind a group that is not full. -/
theorem words_zero (bs : List UInt8) (h : bs.length % 8 ≠ 0) : wordsI (bs ++ [0]) = wordsI bs := by
  have hn : nwords (bs ++ [0]) = nwords bs := by unfold nwords; simp; omega
  unfold wordsI wordsTo
  rw [hn]
  refine List.map_congr_left fun j hj => ?_
  have hj' := List.mem_range.1 hj
  unfold wordAt
  congr 1
  unfold group nwords at *
  rw [List.drop_append_of_le_length (by omega)]
  by_cases h8 : bs.length - 8 * j ≥ 8
  · rw [List.take_append_of_le_length (by simp; omega)]
  · rw [List.take_of_length_le (by simp; omega), List.take_of_length_le (l := bs.drop (8 * j)) (by simp; omega), wordN_zero]

theorem bytes_zero (label bs : List UInt8) (h : bs.length % 8 ≠ 0) (hl : bs.length < 4294967296) : bytesI label (bs ++ [0]) ≠ bytesI label bs := by
  have key : ∀ (l : List Int) (m n : Nat), m < 4294967297 → n < 4294967297 → sumI label (l ++ [((m : Nat) : Int)]) = sumI label (l ++ [((n : Nat) : Int)]) → m = n := by
    intro l m n hm hn e
    have h1 := (sum_one label l [] (m : Int) (n : Int)).1 e
    rw [toU_inj ⟨by omega, by omega⟩ ⟨by omega, by omega⟩] at h1
    omega
  unfold bytesI
  rw [words_zero bs h]
  intro e
  have h2 := key _ _ _ (by rw [List.length_append]; simp only [List.length_cons, List.length_nil]; omega) (by omega) e
  rw [List.length_append] at h2
  simp only [List.length_cons, List.length_nil] at h2
  omega

theorem pair_first {a b : Int} (c : Int) (ha : InU a) (hb : InU b) : pairI a c = pairI b c ↔ a = b := by
  have h := sum_one pairBytes [] [toI c] (toI a) (toI b)
  rw [toU_toI ha, toU_toI hb] at h
  exact h
theorem pair_second {a b : Int} (c : Int) (ha : InU a) (hb : InU b) : pairI c a = pairI c b ↔ a = b := by
  have h := sum_one pairBytes [toI c] [] (toI a) (toI b)
  rw [toU_toI ha, toU_toI hb] at h
  exact h

end Go.Proofs.YtldmokjpfnakkaaGreat

/- Plain Lean: what the bit operations of package wire come to. -/
namespace Go.Proofs.YtldmokjpfnakkaaGreat
open Go.RowKit

theorem not64 (x : Nat) (hx : x < 18446744073709551616) : (BitVec.ofNat 64 x ^^^ BitVec.allOnes 64).toNat = 18446744073709551615 - x := by
  rw [BitVec.xor_allOnes, BitVec.toNat_not, BitVec.toNat_ofNat]
  omega
theorem zig_bits {n : Int} (h1 : -9223372036854775808 ≤ n) (h2 : n ≤ 9223372036854775807) :
    bits BinOp.xor IntKind.u64 (IntKind.u64.wrap (IntKind.u64.wrap n * 2)) (IntKind.u64.wrap (n / 9223372036854775808)) = ((zigI n : Nat) : Int) := by
  rw [bits_xor_u64]
  simp only [wrap_u64]
  unfold zigI
  by_cases h : n < 0
  · rw [if_pos h]
    have e1 : n / 9223372036854775808 % 18446744073709551616 = 18446744073709551615 := by omega
    have e2 : n % 18446744073709551616 * 2 % 18446744073709551616 = ((18446744073709551616 + 2 * n).toNat : Int) := by omega
    have e3 : BitVec.ofInt 64 18446744073709551615 = BitVec.allOnes 64 := by decide +kernel
    rw [e1, e2, e3, BitVec.ofInt_natCast, not64 _ (by omega)]
    omega
  · rw [if_neg h]
    have e1 : n / 9223372036854775808 % 18446744073709551616 = 0 := by omega
    have e2 : n % 18446744073709551616 * 2 % 18446744073709551616 = ((2 * n).toNat : Int) := by omega
    rw [e1, e2, BitVec.ofInt_natCast, show BitVec.ofInt 64 0 = 0#64 by decide +kernel, BitVec.xor_zero, BitVec.toNat_ofNat]
    omega
theorem bits_and_one (n : Nat) : bits BinOp.and IntKind.u64 (n : Int) 1 = ((n % 2 : Nat) : Int) := by
  show IntKind.u64.wrap ((BitVec.ofInt 64 (n : Int) &&& BitVec.ofInt 64 1).toNat : Int) = _
  rw [wrap_u64, BitVec.toNat_and, BitVec.ofInt_natCast, BitVec.toNat_ofNat, show (BitVec.ofInt 64 1).toNat = 1 by decide +kernel, Nat.and_one_is_mod]
  omega
theorem unzig_bits {n : Nat} (h : n ≤ 18446744073709551615) :
    bits BinOp.xor IntKind.i64 ((n : Int) / 2) (wrap64 (-wrap64 (bits BinOp.and IntKind.u64 (n : Int) 1))) = unzigI n := by
  rw [bits_and_one n]
  show IntKind.i64.wrap ((BitVec.ofInt 64 ((n : Int) / 2) ^^^ BitVec.ofInt 64 (wrap64 (-wrap64 ((n % 2 : Nat) : Int)))).toNat : Int) = _
  unfold unzigI
  have ew : ∀ x : Int, IntKind.i64.wrap x = (x + 9223372036854775808) % 18446744073709551616 - 9223372036854775808 := by
    intro x
    simp [IntKind.wrap, IntKind.bits, IntKind.signed]
    omega
  have e0 : BitVec.ofInt 64 ((n : Int) / 2) = BitVec.ofNat 64 (n / 2) := by rw [show (n : Int) / 2 = ((n / 2 : Nat) : Int) by omega, BitVec.ofInt_natCast]
  rw [e0]
  by_cases h2 : n % 2 = 1
  · rw [if_pos h2, h2]
    have e1 : wrap64 (-wrap64 ((1 : Nat) : Int)) = -1 := by decide +kernel
    have e3 : BitVec.ofInt 64 (-1) = BitVec.allOnes 64 := by decide +kernel
    rw [e1, e3, not64 _ (by omega), ew]
    omega
  · rw [if_neg h2]
    have e1 : wrap64 (-wrap64 ((n % 2 : Nat) : Int)) = 0 := by rw [show n % 2 = 0 by omega]; decide +kernel
    rw [e1, show BitVec.ofInt 64 0 = 0#64 by decide +kernel, BitVec.xor_zero, BitVec.toNat_ofNat, ew]
    omega
theorem and127_fin : ∀ n : Fin 256, bits BinOp.and IntKind.u8 ((n.val : Nat) : Int) 127 = ((n.val % 128 : Nat) : Int) := by decide +kernel
theorem and127 (c : UInt8) : bits BinOp.and IntKind.u8 ((c.toNat : Nat) : Int) 127 = ((c.toNat % 128 : Nat) : Int) := and127_fin ⟨c.toNat, c.toNat_lt⟩
theorem or_step {i acc : Nat} {c : UInt8} (hi : i ≤ 9) (ha : acc < 128 ^ i) (h9 : i = 9 → c.toNat % 128 ≤ 1) :
    bits BinOp.or IntKind.u64 (acc : Int) (IntKind.u64.wrap (IntKind.u64.wrap (bits BinOp.and IntKind.u8 ((c.toNat : Nat) : Int) 127) * 2 ^ (7 * i))) = ((acc + c.toNat % 128 * 128 ^ i : Nat) : Int) := by
  rw [and127]
  have hm : c.toNat % 128 < 128 := Nat.mod_lt _ (by decide)
  generalize c.toNat % 128 = x at *
  have hp : (128 : Nat) ^ i = 2 ^ (7 * i) := by rw [show (128 : Nat) = 2 ^ 7 from rfl, ← Nat.pow_mul]
  have hbound : 2 ^ (7 * i) * x < 18446744073709551616 := by
    by_cases e : i = 9
    · subst e
      have := h9 rfl
      have : 2 ^ (7 * 9) * x ≤ 2 ^ (7 * 9) * 1 := Nat.mul_le_mul (Nat.le_refl _) this
      omega
    · have h8 : 2 ^ (7 * i) ≤ 2 ^ 56 := Nat.pow_le_pow_right (by decide) (by omega)
      have : 2 ^ (7 * i) * x ≤ 2 ^ 56 * 127 := Nat.mul_le_mul h8 (by omega)
      omega
  have hacc : acc < 18446744073709551616 := by
    have : 128 ^ i ≤ 128 ^ 9 := Nat.pow_le_pow_right (by decide) hi
    omega
  rw [wrap_u64, wrap_u64]
  have e2 : ((x : Int) % 18446744073709551616 * 2 ^ (7 * i)) % 18446744073709551616 = ((2 ^ (7 * i) * x : Nat) : Int) := by
    rw [Int.emod_eq_of_lt (a := (x : Int)) (by omega) (by omega)]
    rw [show ((x : Int) * 2 ^ (7 * i)) = ((2 ^ (7 * i) * x : Nat) : Int) from by push_cast; exact Int.mul_comm _ _]
    exact Int.emod_eq_of_lt (by omega) (by omega)
  rw [hp] at ha ⊢
  rw [e2, u64_or_nat _ _ (by omega) (by omega)]
  congr 1
  rw [Nat.or_comm, ← Nat.two_pow_add_eq_or_of_lt (by omega), Nat.mul_comm x]
  omega
end Go.Proofs.YtldmokjpfnakkaaGreat
