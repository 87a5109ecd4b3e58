/- The walks of the helpers of worldmintref01: Around, Ints, Few, Short, SameInts, SameBytes. -/
import Derived.Test.YtompkpleiichaaaProg
import Derived.Test.YtompkpleiichaaaHMem
import Derived.Lib.Hide
import Derived.WalkKit
import Derived.WalkSpells
import Derived.WalkLawsBesides
import Derived.Deep.QuietTactic
import Derived.BigQuiet
import GoSem.Claim

namespace Go.Proofs.Ytompkpleiichaaa
open Go.RowKit

/-- What Around returns. -/
def aroundI (n most : Int) : Int := (if n < 0 then -(n + 1) else n) % most

theorem aroundI_range (n most : Int) (h : 0 < most) : 0 ≤ aroundI n most ∧ aroundI n most < most := ⟨Int.emod_nonneg _ (by omega), Int.emod_lt_of_pos _ h⟩

set_option maxHeartbeats 400000 in
theorem around_any (n most : Int) (w : World) (h1 : -9223372036854775808 ≤ n) (h2 : n ≤ 9223372036854775807) (h3 : 0 < most) (h4 : most ≤ 9223372036854775807) :
    Calls Try.prog 8 #[.int .i64 n, .int .i64 most] w fun e w' => e = .returned (.int .i64 (aroundI n most)) ∧ w = w' := by
  by_cases h : n < 0
  · have HE := Lib.hid (show aroundI n most = (-(n + 1)).tmod most from by unfold aroundI; rw [if_pos h, Int.tmod_eq_emod_of_nonneg (by omega)])
    go_enter Try.func8, Try.ntmps8
    go_wp2
    go_ret
    rw [HE.out, Int.neg_tmod]
    exact ⟨rfl, rfl⟩
  · have HE := Lib.hid (show aroundI n most = n % most from by unfold aroundI; rw [if_neg h])
    go_enter Try.func8, Try.ntmps8
    go_wp2
    go_ret
    rw [HE.out]
    exact ⟨rfl, rfl⟩


theorem info_few : (Try.prog.info? 5).map (fun i => (i.zero, i.size, i.bytes)) = some (some (.int .u8 0), 1, 1) := by kernel_rfl
set_option maxHeartbeats 400000 in
theorem few_any (A : Option Addr) (n c m B : Nat) (mi : Int) (hmi : mi = (m : Int)) (f : Nat → Value) (w : World) (hA : A = none → n = 0) (hR : Rd w B A n f) (hnc : n ≤ c) (hc : c ≤ 9223372036854775807) (hm : m ≤ 1099511627776) (h1 : ∀ j, j < n → (f j).oneCell' = true) :
    Calls Try.prog 13 #[.slice A n c, .int .i64 mi] w fun e w' => ∃ A' c', e = .returned (.slice A' (min n m) c') ∧ w'.ownsRow w.heap.size 5 1 (.slice A' (min n m) c') (min n m) ((List.range (min n m)).map f) ∧ Below w.heap.size w w' := by
  subst hmi
  obtain ⟨i0, hi, hz0, hz1, hz2⟩ := info_parts info_few
  by_cases hlt : m < n
  · have HM := Lib.hid (show min n m = m by omega)
    obtain ⟨v', w', hap, hown, hg, hat⟩ := run_append_rd (P := Try.prog) w w.heap.size 23 23 5 i0 _ 1 Try.underlying23 hi hz0 hz1 hz2 rfl (.slice none 0 0) 0 [] (World.ownsRow_nil _ _ _ _) B A m c f (hR.less (by omega)) (fun h => by have := hA h; omega) (fun j hj => h1 j (by omega)) (by unfold maxLen; omega) (by omega) (Nat.le_refl _)
    have HA := Lib.hid hap; clear hap hat
    go_enter Try.func13, Try.ntmps13
    go_wp2_with (at_builtin; refine wpList_append_run HA.out rfl rfl rfl rfl ?_)
    go_ret
    obtain ⟨A', c', rfl⟩ := own_slice hown
    simp only [Nat.zero_add, List.nil_append] at hown
    rw [HM.out]
    exact ⟨A', c', by simp, hown, (Below.refl _ _).grown hg (Nat.le_refl _) (by simp [Value.ownBlock])⟩
  · have HM := Lib.hid (show min n m = n by omega)
    obtain ⟨v', w', hap, hown, hg, hat⟩ := run_append_rd (P := Try.prog) w w.heap.size 23 23 5 i0 _ 1 Try.underlying23 hi hz0 hz1 hz2 rfl (.slice none 0 0) 0 [] (World.ownsRow_nil _ _ _ _) B A n c f (hR.less (by omega)) (fun h => by have := hA h; omega) (fun j hj => h1 j (by omega)) (by unfold maxLen; omega) (by omega) (Nat.le_refl _)
    have HA := Lib.hid hap; clear hap hat
    go_enter Try.func13, Try.ntmps13
    go_wp2_with (at_builtin; refine wpList_append_run HA.out rfl rfl rfl rfl ?_)
    go_ret
    obtain ⟨A', c', rfl⟩ := own_slice hown
    simp only [Nat.zero_add, List.nil_append] at hown
    rw [HM.out]
    exact ⟨A', c', by simp, hown, (Below.refl _ _).grown hg (Nat.le_refl _) (by simp [Value.ownBlock])⟩


/-- Two rows are alike. -/
def sameF (n m : Nat) (f g : Nat → Int) : Bool := decide (n = m ∧ ∀ j, j < n → f j = g j)

set_option maxHeartbeats 400000 in
theorem sameBytes_any (A A' : Option Addr) (n m c c' B : Nat) (f g : Nat → Int) (w : World) (hB : B ≤ w.heap.size) (hR : Rd w B A n (fun j => .int .u8 (f j))) (hR' : Rd w B A' m (fun j => .int .u8 (g j))) (hn : n ≤ 9223372036854775807) (hm : m ≤ 9223372036854775807) :
    Calls Try.prog 32 #[.slice A n c, .slice A' m c'] w fun e w' => e = .returned (.bool (sameF n m f g)) ∧ Below w.heap.size w w' := by
  by_cases hnm : n = m
  · obtain rfl := hnm
    go_enter Try.func32, Try.ntmps32
    go_wp2
    go_loopw [5] (fun i wr => ∃ k : Nat, k ≤ n ∧ i = .int .i64 (k : Int) ∧ Hid (∀ j, j < k → f j = g j) ∧ Below w.heap.size w wr) (fun i _ => n - (intOf i).toNat)
    case atStart => exact ⟨0, by omega, rfl, fun j hj => absurd hj (by omega), Below.refl _ _⟩
    case round =>
      obtain ⟨k, hk, rfl, hj, hb⟩ := hrel
      by_cases hlt : k < n
      · obtain ⟨b, off, rfl, hbB, hc⟩ := (hR.below hb hB).at_ hlt
        obtain ⟨b', off', rfl, hbB', hc'⟩ := (hR'.below hb hB).at_ hlt
        have hi0 : (0 : Int) ≤ (k : Int) := by omega
        have hi1 : (k : Int) < (n : Int) := by omega
        by_cases he : f k = g k
        · have hd : (f k != g k) = false := by simp [he]
          go_wp2
          go_quiet (fail)
          go_wp2
          exact ⟨⟨k + 1, by omega, by go_num, fun j hjk => by rcases (show j < k ∨ j = k by omega) with h | rfl; exact hj.out j h; exact he, below_drewN hb _⟩, by simp [intOf]; omega⟩
        · have hd : (f k != g k) = true := by simp [he]
          have HF := Lib.hid (show sameF n n f g = false from decide_eq_false (fun h => he (h.2 k hlt)))
          go_wp2
          go_quiet (fail)
          go_wp2
          go_ret
          rw [HF.out]
          exact ⟨rfl, below_drewN hb _⟩
      · have HF := Lib.hid (show sameF n n f g = true from decide_eq_true ⟨rfl, fun j hjn => hj.out j (by omega)⟩)
        go_wp2
        go_ret
        rw [HF.out]
        exact ⟨rfl, hb⟩
  · have HF := Lib.hid (show sameF n m f g = false from decide_eq_false (fun h => hnm h.1))
    have hd : ((n : Int) != (m : Int)) = true := by simp; omega
    go_enter Try.func32, Try.ntmps32
    go_wp2
    go_ret
    rw [HF.out]
    exact ⟨rfl, Below.refl _ _⟩




/-- Few, as a list. -/
theorem few_list (A : Option Addr) (n c m : Nat) (mi : Int) (hmi : mi = (m : Int)) (f : Nat → Int) (w : World) (hA : A = none → n = 0) (hR : Rd w w.heap.size A n (fun j => .int .u8 (f j))) (hnc : n ≤ c) (hc : c ≤ 9223372036854775807) (hm : m ≤ 1099511627776)
    (hw : ∀ j, j < n → 0 ≤ f j ∧ f j ≤ 255) :
    Calls Try.prog 13 #[.slice A n c, .int .i64 mi] w fun e w' => ∃ A' c' k bs, e = .returned (.slice A' k c') ∧ k ≤ c' ∧ c' ≤ 9223372036854775807 ∧ k ≤ m ∧ Hid (k = min n m) ∧ Hid (bs.length = k) ∧ Hid (bs = (List.range k).map fun j => UInt8.ofNat (f j).toNat) ∧
      w'.ownsRow w.heap.size 5 1 (.slice A' k c') k (bs.map fun b => Value.int .u8 (b.toNat : Nat)) ∧ Rd w' w'.heap.size A' k (vByte bs) ∧ Below w.heap.size w w' := by
  refine (few_any A n c m _ mi hmi _ w hA hR hnc hc hm (fun _ _ => rfl)).mono ?_
  rintro e w' ⟨A', c', rfl, hown, hb⟩
  have he : (List.range (min n m)).map (fun j => Value.int .u8 (f j)) = ((List.range (min n m)).map fun j => UInt8.ofNat (f j).toNat).map fun b => Value.int .u8 ((b.toNat : Nat) : Int) := by
    rw [List.map_map]
    refine List.map_congr_left fun j hj => ?_
    have h := hw j (by have := List.mem_range.1 hj; omega)
    simp only [Function.comp_apply]
    congr 1
    have : (UInt8.ofNat (f j).toNat).toNat = (f j).toNat := by rw [UInt8.toNat_ofNat']; have h2 := h.2; have h1 := h.1; omega
    rw [this]; omega
  rw [he] at hown
  have hr := Rd.of_own hown (f := vByte ((List.range (min n m)).map fun j => UInt8.ofNat (f j).toNat)) (by intro j hj; simp [vByte, hj])
  exact ⟨A', c', min n m, _, rfl, hr.2.1, own_cap hown, by omega, rfl, by show _ = _; simp, rfl, hown, hr.2.2, hb⟩



theorem sameBytes_list (A A' : Option Addr) (n m c c' : Nat) (xs ys : List UInt8) (w : World) (hx : Hid (xs.length = n)) (hy : Hid (ys.length = m)) (hR : Rd w w.heap.size A n (vByte xs)) (hR' : Rd w w.heap.size A' m (vByte ys)) (hn : n ≤ 9223372036854775807) (hm : m ≤ 9223372036854775807) :
    Calls Try.prog 32 #[.slice A n c, .slice A' m c'] w fun e w' => e = .returned (.bool (decide (xs = ys))) ∧ Below w.heap.size w w' := by
  refine (sameBytes_any A A' n m c c' w.heap.size (fun j => ((xs[j]?.getD 0).toNat : Nat)) (fun j => ((ys[j]?.getD 0).toNat : Nat)) w (Nat.le_refl _) hR hR' hn hm).mono ?_
  rintro e w' ⟨rfl, hb⟩
  refine ⟨?_, hb⟩
  congr 2
  unfold sameF
  rw [decide_eq_decide]
  have h1 := hx.out
  have h2 := hy.out
  constructor
  · rintro ⟨h, hj⟩
    refine List.ext_getElem (by omega) fun i hi hi' => ?_
    have := hj i (by omega)
    simp [hi, hi'] at this
    exact UInt8.toNat_inj.1 (by omega)
  · rintro rfl
    exact ⟨by omega, fun _ _ => rfl⟩
theorem sameBytes_true (A A' : Option Addr) (n m c c' : Nat) (xs ys : List UInt8) (w : World) (he : xs = ys) (hx : Hid (xs.length = n)) (hy : Hid (ys.length = m)) (hR : Rd w w.heap.size A n (vByte xs)) (hR' : Rd w w.heap.size A' m (vByte ys)) (hn : n ≤ 9223372036854775807) (hm : m ≤ 9223372036854775807) :
    Calls Try.prog 32 #[.slice A n c, .slice A' m c'] w fun e w' => e = .returned (.bool true) ∧ Below w.heap.size w w' :=
  (sameBytes_list A A' n m c c' xs ys w hx hy hR hR' hn hm).mono fun e w' ⟨h, hb⟩ => ⟨by rw [h, decide_eq_true he], hb⟩


/-- Few of bytes that are known as a list. -/
theorem few_bytes (A : Option Addr) (n c m : Nat) (mi : Int) (hmi : mi = (m : Int)) (bs : List UInt8) (w : World) (hl : Hid (bs.length = n)) (hR : Rd w w.heap.size A n (vByte bs)) (hnc : n ≤ c) (hc : c ≤ 9223372036854775807) (hm : m ≤ 1099511627776) :
    Calls Try.prog 13 #[.slice A n c, .int .i64 mi] w fun e w' => ∃ A' c' k bs', e = .returned (.slice A' k c') ∧ k ≤ c' ∧ c' ≤ 9223372036854775807 ∧ k ≤ m ∧ Hid (k = min n m) ∧ Hid (bs'.length = k) ∧ Hid (bs' = bs.take m) ∧
      w'.ownsRow w.heap.size 5 1 (.slice A' k c') k (bs'.map fun b => Value.int .u8 (b.toNat : Nat)) ∧ Rd w' w'.heap.size A' k (vByte bs') ∧ Below w.heap.size w w' := by
  refine (few_list A n c m mi hmi (fun j => ((bs[j]?.getD 0).toNat : Nat)) w hR.none_ hR hnc hc hm (fun j _ => ⟨by omega, by have := (bs[j]?.getD 0).toNat_lt; omega⟩)).mono ?_
  rintro e w' ⟨A', c', k, bs', rfl, h1, h2, h3, h4, h5, h6, h7, h8, h9⟩
  refine ⟨A', c', k, bs', rfl, h1, h2, h3, h4, h5, ?_, h7, h8, h9⟩
  show bs' = bs.take m
  rw [h6.out]
  have e1 := hl.out
  have e2 := h4.out
  refine List.ext_getElem (by simp; omega) fun i hi hi' => ?_
  have hib : i < bs.length := by simp at hi'; omega
  simp [hib]



theorem around_nat (n : Int) (m : Nat) (mi : Int) (w : World) (hmi : mi = (m : Int)) (h1 : -9223372036854775808 ≤ n) (h2 : n ≤ 9223372036854775807) (h3 : 0 < m) (h4 : m ≤ 9223372036854775807) :
    Calls Try.prog 8 #[.int .i64 n, .int .i64 mi] w fun e w' => ∃ k : Nat, e = .returned (.int .i64 (k : Int)) ∧ k < m ∧ Hid ((k : Int) = aroundI n m) ∧ w = w' := by
  subst hmi
  have hr := aroundI_range n m (by omega)
  refine (around_any n m w h1 h2 (by omega) (by omega)).mono ?_
  rintro e w' ⟨rfl, rfl⟩
  exact ⟨(aroundI n m).toNat, by rw [Int.toNat_of_nonneg hr.1], by omega, by show _ = _; omega, rfl⟩


end Go.Proofs.Ytompkpleiichaaa

/- Plain facts on the 64-bit hash of package hash: no program in sight. -/
namespace Go.Proofs.Ytompkpleiichaaa
open Go.RowKit

/-- One step of the hash, as the walk spells it. -/
def mixI (a b : Int) : Int :=
  bits BinOp.xor IntKind.u64 (IntKind.u64.wrap (bits BinOp.xor IntKind.u64 a b * 11400714819323198485))
    (IntKind.u64.wrap (bits BinOp.xor IntKind.u64 a b * 11400714819323198485) / 4294967296)

theorem wrap_u64 (n : Int) : IntKind.u64.wrap n = n % 18446744073709551616 := by
  simp [IntKind.wrap, IntKind.bits, IntKind.signed]
theorem mixI_alt (a b : Int) : mixI a b = bits BinOp.xor IntKind.u64 (IntKind.u64.wrap (bits BinOp.xor IntKind.u64 a b * 11400714819323198485))
    (IntKind.u64.wrap ((IntKind.u64.wrap (bits BinOp.xor IntKind.u64 a b * 11400714819323198485)).tdiv 4294967296)) := by
  unfold mixI
  congr 1
  generalize bits BinOp.xor IntKind.u64 a b * 11400714819323198485 = x
  rw [wrap_u64, wrap_u64]
  have h0 : 0 ≤ x % 18446744073709551616 := Int.emod_nonneg _ (by decide)
  have h1 : x % 18446744073709551616 < 18446744073709551616 := Int.emod_lt_of_pos _ (by decide)
  rw [Int.tdiv_eq_ediv_of_nonneg h0]
  omega

/-- The little-endian number of a list of bytes. -/
def wordN : List UInt8 → Nat
  | [] => 0
  | b :: bs => b.toNat + 256 * wordN bs

theorem wordN_lt (bs : List UInt8) : wordN bs < 256 ^ bs.length := by
  induction bs with
  | nil => simp [wordN]
  | cons b bs ih =>
    have hb : b.toNat < 256 := b.toNat_lt
    simp only [wordN, List.length_cons, Nat.pow_succ]
    omega

theorem wordN_snoc (bs : List UInt8) (b : UInt8) : wordN (bs ++ [b]) = wordN bs + 256 ^ bs.length * b.toNat := by
  induction bs with
  | nil => simp [wordN]
  | cons c bs ih =>
    simp only [List.cons_append, wordN, ih, List.length_cons, Nat.pow_succ, Nat.mul_add]
    have : 256 * (256 ^ bs.length * b.toNat) = 256 ^ bs.length * 256 * b.toNat := by
      rw [← Nat.mul_assoc, Nat.mul_comm 256]
    omega

/-- Group number k of 8 bytes. -/
def group (bs : List UInt8) (k : Nat) : List UInt8 := (bs.drop (8 * k)).take 8

def nwords (bs : List UInt8) : Nat := (bs.length + 7) / 8

def wordAt (bs : List UInt8) (k : Nat) : Int := (wordN (group bs k) : Nat)

/-- The words of a list of bytes, the first k of them. -/
def wordsTo (bs : List UInt8) (k : Nat) : List Int := (List.range k).map (wordAt bs)
def wordsI (bs : List UInt8) : List Int := wordsTo bs (nwords bs)

theorem wordsTo_succ (bs : List UInt8) (k : Nat) : wordsTo bs (k + 1) = wordsTo bs k ++ [wordAt bs k] := by simp [wordsTo, List.range_succ]
theorem wordsTo_zero (bs : List UInt8) : wordsTo bs 0 = [] := rfl
theorem wordsTo_length (bs : List UInt8) (k : Nat) : (wordsTo bs k).length = k := by simp [wordsTo]

theorem group_length (bs : List UInt8) (k : Nat) : (group bs k).length = min 8 (bs.length - 8 * k) := by simp [group]

/-- One round of the program's loop over a group. -/
theorem word_step (g : List UInt8) (j : Nat) (h8 : j < 8) (hj : j < g.length) :
    bits BinOp.or IntKind.u64 ((wordN (g.take j) : Nat) : Int) (IntKind.u64.wrap (IntKind.u64.wrap (((g[j]?.getD 0).toNat : Nat) : Int) * 2 ^ (8 * j))) = ((wordN (g.take (j + 1)) : Nat) : Int) := by
  have hb : (g[j]?.getD 0).toNat < 256 := UInt8.toNat_lt _
  have hlt := wordN_lt (g.take j)
  have hl : (g.take j).length = j := by simp; omega
  rw [hl] at hlt
  have hp : (256 : Nat) ^ j = 2 ^ (8 * j) := by rw [show (256 : Nat) = 2 ^ 8 from rfl, ← Nat.pow_mul]
  have hpw : 2 ^ (8 * j) ≤ 2 ^ 56 := Nat.pow_le_pow_right (by decide) (by omega)
  have e1 : wordN (g.take (j + 1)) = wordN (g.take j) + 2 ^ (8 * j) * (g[j]?.getD 0).toNat := by
    rw [List.take_succ_eq_append_getElem hj, wordN_snoc, hl, hp]
    simp [hj]
  generalize (g[j]?.getD 0).toNat = c at *
  generalize wordN (g.take j) = x at *
  have hcm : 2 ^ (8 * j) * c ≤ 2 ^ 56 * 255 := Nat.mul_le_mul hpw (by omega)
  rw [wrap_u64, wrap_u64]
  have e2 : ((c : Int) % 18446744073709551616 * 2 ^ (8 * j)) % 18446744073709551616 = ((2 ^ (8 * j) * c : Nat) : Int) := by
    rw [Int.emod_eq_of_lt (a := (c : Int)) (by omega) (by omega)]
    rw [show ((c : Int) * 2 ^ (8 * j)) = ((2 ^ (8 * j) * c : Nat) : Int) from by push_cast; exact Int.mul_comm _ _]
    exact Int.emod_eq_of_lt (by omega) (by omega)
  rw [e2, u64_or_nat _ _ (by omega) (by omega), e1]
  congr 1
  rw [Nat.or_comm, ← Nat.two_pow_add_eq_or_of_lt (by omega)]
  omega

/-- One round of the reference's loop over a group. -/
theorem word_back (g : List UInt8) (r : Nat) (hr : r < g.length) (h8 : g.length ≤ 8) :
    IntKind.u64.wrap (IntKind.u64.wrap (256 * ((wordN (g.drop (r + 1)) : Nat) : Int)) + IntKind.u64.wrap (((g[r]?.getD 0).toNat : Nat) : Int)) = ((wordN (g.drop r) : Nat) : Int) := by
  have e : wordN (g.drop r) = (g[r]?.getD 0).toNat + 256 * wordN (g.drop (r + 1)) := by
    rw [List.drop_eq_getElem_cons hr, wordN]
    simp [hr]
  have h1 := wordN_lt (g.drop r)
  have h2 : 256 ^ (g.drop r).length ≤ 256 ^ 8 := Nat.pow_le_pow_right (by decide) (by simp; omega)
  rw [wrap_u64, wrap_u64, wrap_u64]
  omega

theorem group_take (bs : List UInt8) (k m : Nat) (h : (group bs k).length ≤ m) : (group bs k).take m = group bs k := List.take_of_length_le h

/-- All the steps of a list of words. -/
def mixAll (s : Int) (ws : List Int) : Int := ws.foldl mixI s
theorem mixAll_snoc (s : Int) (ws : List Int) (x : Int) : mixAll s (ws ++ [x]) = mixI (mixAll s ws) x := by simp [mixAll]
theorem mixAll_nil (s : Int) : mixAll s [] = s := rfl

/-- An int as a word. -/
def toU (n : Int) : Int := IntKind.u64.wrap n
/-- A word as an int. -/
def toI (n : Int) : Int := wrap64 n

/-- The hash of a label and integers. -/
def sumI (label : List UInt8) (ws : List Int) : Int :=
  mixI (mixAll (mixI (mixI (mixAll 0 (wordsI label)) (label.length : Nat)) (ws.length : Nat)) (ws.map toU)) 0

/-- The state behind the first j integers. -/
def sumTo (label : List UInt8) (n : Nat) (ws : List Int) (j : Nat) : Int :=
  mixAll (mixI (mixI (mixAll 0 (wordsI label)) (label.length : Nat)) (n : Nat)) ((ws.take j).map toU)
theorem sumTo_zero (label : List UInt8) (n : Nat) (ws : List Int) : sumTo label n ws 0 = mixI (mixI (mixAll 0 (wordsI label)) (label.length : Nat)) (n : Nat) := rfl
theorem sumTo_succ (label : List UInt8) (n : Nat) (ws : List Int) (j : Nat) (hj : j < ws.length) : sumTo label n ws (j + 1) = mixI (sumTo label n ws j) (IntKind.u64.wrap (ws[j]?.getD 0)) := by
  unfold sumTo
  rw [List.take_succ_eq_append_getElem hj, List.map_append, List.map_cons, List.map_nil, mixAll_snoc]
  simp [hj, toU]
theorem sumTo_all (label : List UInt8) (n : Nat) (ws : List Int) (hn : ws.length = n) : mixI (sumTo label n ws n) 0 = sumI label ws := by
  unfold sumTo sumI
  rw [List.take_of_length_le (by omega), hn]

def bytesI (label bs : List UInt8) : Int := sumI label ((wordsI bs).map toI ++ [((bs.length : Nat) : Int)])

def pairBytes : List UInt8 := [112, 97, 105, 114]
def pairI (a b : Int) : Int := sumI pairBytes [toI a, toI b]

end Go.Proofs.Ytompkpleiichaaa
