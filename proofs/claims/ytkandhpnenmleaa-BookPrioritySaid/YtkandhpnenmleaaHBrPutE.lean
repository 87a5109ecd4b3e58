/- book: the reference's Place, its errors. -/
import Derived.Test.YtkandhpnenmleaaHBrVoid
import Derived.Test.YtkandhpnenmleaaHBrBest

namespace Go.Proofs.Ytkandhpnenmleaa
open Go.RowKit

def RPlacePost (B g : Nat) (A : Option Addr) (n c : Nat) (b : BkS) (acc : Int) (buy : Bool) (price m : Int) (w : World) (e : Ending) (w' : World) : Prop :=
  ∃ A' c', e = .returned (.tuple #[.int .i64 (placeE b acc buy price m).1, .slice A' (placeE b acc buy price m).2.1.length c', .int .i64 (placeE b acc buy price m).2.2.1]) ∧ w'.ownsRow w.heap.size 105 4 (.slice A' (placeE b acc buy price m).2.1.length c') (placeE b acc buy price m).2.1.length ((placeE b acc buy price m).2.1.flatMap Trd.cells) ∧ RPost B g A n c w (placeE b acc buy price m).2.2.2 w'
theorem RPlacePost.err {B g n c : Nat} {A : Option Addr} {l : List ROrd} {b : BkS} {acc price m e : Int} {buy : Bool} {w w' : World} (HK : RAt w B g A n c l b) (he : placeErr b acc price m = e) (h0 : e ≠ 0) (hb : Below w.heap.size w w') : RPlacePost B g A n c b acc buy price m w (.returned (.tuple #[.int .i64 0, .slice none 0 0, .int .i64 e])) w' := by
  have h : placeE b acc buy price m = (0, [], e, b) := by unfold placeE; rw [he, if_neg h0]
  unfold RPlacePost
  rw [h]
  exact ⟨none, 0, rfl, World.ownsRow_nil _ _ _ 4, A, n, c, l, RNext.same HK hb⟩
theorem rng_iff {price m : Int} (h1 : 1 ≤ price) (h2 : price ≤ 1099511627776) (h3 : 1 ≤ m) : (1099511627776 : Int).tdiv price < m ↔ (inR price = false ∨ inR m = false ∨ (1099511627776 : Int).tdiv m < price) := by
  have hp : inR price = true := by unfold inR; simp; omega
  rw [Int.tdiv_eq_ediv_of_nonneg (by omega), Int.tdiv_eq_ediv_of_nonneg (by omega)]
  have e1 : (1099511627776 : Int) / price < m ↔ 1099511627776 < m * price := Int.ediv_lt_iff_lt_mul (by omega)
  have e2 : (1099511627776 : Int) / m < price ↔ 1099511627776 < price * m := Int.ediv_lt_iff_lt_mul (by omega)
  rw [e1, e2, hp, Int.mul_comm m price]
  constructor
  · intro h
    exact .inr (.inr h)
  · rintro (h | h | h)
    · cases h
    · have hm : 1099511627776 < m := by
        unfold inR at h
        rw [Bool.and_eq_false_iff, decide_eq_false_iff_not, decide_eq_false_iff_not] at h
        omega
      have : 1 * m ≤ price * m := Int.mul_le_mul_of_nonneg_right h1 (by omega)
      omega
    · exact h
set_option maxRecDepth 100000 in
theorem rplace_err1 (B g n c : Nat) (A : Option Addr) (l : List ROrd) (b : BkS) (buy : Bool) (acc price m : Int) (w : World) (HK : Hid (RAt w B g A n c l b)) (h : acc < 1 ∨ 1073741824 < acc) : Calls Try.prog 40 #[.pointer (some ⟨g, 0, none⟩), .int .i64 acc, .bool buy, .int .i64 price, .int .i64 m] w (RPlacePost B g A n c b acc buy price m w) := by
  have HE : Hid (∀ w', Below w.heap.size w w' → RPlacePost B g A n c b acc buy price m w (.returned (.tuple #[.int .i64 0, .slice none 0 0, .int .i64 1])) w') := Lib.hid (fun w' hb => RPlacePost.err HK.out (by unfold placeErr; rw [if_pos h]) (by decide) hb)
  rcases h with h | h
  · go_enter Try.func40, Try.ntmps40
    go_wp2
    refine bodyPost_ret (v := .tuple #[.int .i64 0, .slice none 0 0, .int .i64 1]) (by simp [results, Try.results40, go_sem]) rfl (HE.out _ (Below.refl _ _))
  · have h2 : ¬ acc < 1 := by omega
    go_enter Try.func40, Try.ntmps40
    go_wp2
    refine bodyPost_ret (v := .tuple #[.int .i64 0, .slice none 0 0, .int .i64 1]) (by simp [results, Try.results40, go_sem]) rfl (HE.out _ (Below.refl _ _))
set_option maxRecDepth 100000 in
theorem rplace_err2 (B g n c : Nat) (A : Option Addr) (l : List ROrd) (b : BkS) (buy : Bool) (acc price m : Int) (w : World) (HK : Hid (RAt w B g A n c l b)) (h1 : 1 ≤ acc) (h2 : acc ≤ 1073741824) (h : inR price = false ∨ inR m = false ∨ (1099511627776 : Int).tdiv m < price) : Calls Try.prog 40 #[.pointer (some ⟨g, 0, none⟩), .int .i64 acc, .bool buy, .int .i64 price, .int .i64 m] w (RPlacePost B g A n c b acc buy price m w) := by
  have HE : Hid (∀ w', Below w.heap.size w w' → RPlacePost B g A n c b acc buy price m w (.returned (.tuple #[.int .i64 0, .slice none 0 0, .int .i64 5])) w') := Lib.hid (fun w' hb => RPlacePost.err HK.out (by unfold placeErr; rw [if_neg (by omega), if_pos h]) (by decide) hb)
  by_cases k1 : price < 1
  · clear h
    go_enter Try.func40, Try.ntmps40
    go_wp2
    refine bodyPost_ret (v := .tuple #[.int .i64 0, .slice none 0 0, .int .i64 5]) (by simp [results, Try.results40, go_sem]) rfl (HE.out _ (Below.refl _ _))
  by_cases k2 : m < 1
  · clear h
    go_enter Try.func40, Try.ntmps40
    go_wp2
    refine bodyPost_ret (v := .tuple #[.int .i64 0, .slice none 0 0, .int .i64 5]) (by simp [results, Try.results40, go_sem]) rfl (HE.out _ (Below.refl _ _))
  by_cases k3 : 1099511627776 < price
  · clear h
    go_enter Try.func40, Try.ntmps40
    go_wp2
    refine bodyPost_ret (v := .tuple #[.int .i64 0, .slice none 0 0, .int .i64 5]) (by simp [results, Try.results40, go_sem]) rfl (HE.out _ (Below.refl _ _))
  have k4 : (1099511627776 : Int).tdiv price < m := (rng_iff (by omega) (by omega) (by omega)).2 h
  have k5 : (1099511627776 : Int) / price < m := by rw [← Int.tdiv_eq_ediv_of_nonneg (by omega)]; exact k4
  have hp0 : ¬ price = 0 := by omega
  have hp1 : 1 ≤ price := by omega
  clear h
  go_enter Try.func40, Try.ntmps40
  go_wp2
  refine bodyPost_ret (v := .tuple #[.int .i64 0, .slice none 0 0, .int .i64 5]) (by simp [results, Try.results40, go_sem]) rfl (HE.out _ (Below.refl _ _))
set_option maxRecDepth 100000 in
theorem rplace_err3 (B g n c : Nat) (A : Option Addr) (l : List ROrd) (b : BkS) (buy : Bool) (acc price m : Int) (w : World) (HK : Hid (RAt w B g A n c l b)) (h1 : 1 ≤ acc) (h2 : acc ≤ 1073741824) (hp : inR price = true) (hn : inR m = true) (hd : price ≤ (1099511627776 : Int).tdiv m) (h : 4096 ≤ b.bs.length + b.ss.length) : Calls Try.prog 40 #[.pointer (some ⟨g, 0, none⟩), .int .i64 acc, .bool buy, .int .i64 price, .int .i64 m] w (RPlacePost B g A n c b acc buy price m w) := by
  have HE : Hid (∀ w', Below w.heap.size w w' → RPlacePost B g A n c b acc buy price m w (.returned (.tuple #[.int .i64 0, .slice none 0 0, .int .i64 4])) w') := Lib.hid (fun w' hb => RPlacePost.err HK.out (by unfold placeErr; rw [if_neg (by omega), if_neg (by rw [hp, hn]; simp; omega), if_pos h]) (by decide) hb)
  have HOL : Hid ((l.filter ROrd.open).length = b.bs.length + b.ss.length) := Lib.hid (by
    rw [HK.out.rel.opens, List.length_map, BkS.openIds_len HK.out.ok])
  have k6 : ¬ (1099511627776 : Int).tdiv price < m := fun e => by
    have hp' := hp
    have hn' := hn
    unfold inR at hp' hn'
    rw [Bool.and_eq_true, decide_eq_true_eq, decide_eq_true_eq] at hp' hn'
    have := (rng_iff (by omega) (by omega) (by omega)).1 e
    rw [hp, hn] at this
    simp at this
    omega
  unfold inR at hp hn
  rw [Bool.and_eq_true, decide_eq_true_eq, decide_eq_true_eq] at hp hn
  obtain ⟨p1, p2⟩ := hp
  obtain ⟨n1, n2⟩ := hn
  have k7 : ¬ (1099511627776 : Int) / price < m := by rw [← Int.tdiv_eq_ediv_of_nonneg (by omega)]; exact k6
  have hp0 : ¬ price = 0 := by omega
  have k1 : ¬ price < 1 := by omega
  have k2 : ¬ m < 1 := by omega
  have k3 : ¬ 1099511627776 < price := by omega
  have HO := Lib.hid (rorders_any B g n c A l w (Lib.hid HK.out.rb))
  obtain ⟨k, hk⟩ : ∃ k, (l.filter ROrd.open).length = k := ⟨_, rfl⟩
  have hk4 : 4096 ≤ (k : Int) := by have := HOL.out; omega
  have HKK := Lib.hid hk
  clear hk hd h
  go_enter Try.func40, Try.ntmps40
  go_wp2_with fail
  refine HO.out.mono ?_
  rintro e w1 ⟨A1, c1, rfl, -, hb1⟩
  rw [HKK.out]
  go_wp2
  refine bodyPost_ret (v := .tuple #[.int .i64 0, .slice none 0 0, .int .i64 4]) (by simp [results, Try.results40, go_sem]) rfl (HE.out _ hb1)
end Go.Proofs.Ytkandhpnenmleaa
