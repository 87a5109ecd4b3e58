/- package lexer, at any offset of a text of words, blanks and ';'. -/
import Derived.Test.YtgepbklpobobbaaGreatDoorHG15

namespace Go.Proofs.YtgepbklpobobbaaGreatDoor
open Go.RowKit

/-- The kind of the byte at an offset; 0 at the end. -/
def KAt (s : ByteArray) (j : Nat) (k : Int) : Prop := (j = s.size ∧ k = 0) ∨ ∃ h : j < s.size, kd s[j].toNat = some k
theorem KAt.le {s : ByteArray} {j : Nat} {k : Int} (h : KAt s j k) : j ≤ s.size := by
  rcases h with ⟨h, _⟩ | ⟨h, _⟩ <;> omega
theorem KAt.lt {s : ByteArray} {j : Nat} {k : Int} (h : KAt s j k) (hk : k ≠ 0) : j < s.size := by
  rcases h with ⟨_, h⟩ | ⟨h, _⟩
  · exact absurd h hk
  · exact h
set_option maxRecDepth 100000 in
theorem kindAt_at (s : ByteArray) (j : Nat) (k : Int) (w : World) (h : Hid (KAt s j k)) (HK : Hid (KL w)) : Calls Tryz.prog 202 #[.string s, .int .i64 (j : Int)] w fun e w' => e = .returned (.int .u8 k) ∧ w' = w := by
  rcases h.out with ⟨rfl, rfl⟩ | ⟨hj, hk⟩
  · exact kindAt_end s w
  · have hkI : ¬ ((s.size : Int) ≤ (j : Int)) := by omega
    have hk0 : (0 : Int) ≤ (j : Int) := by omega
    have hk1 : (j : Int) < (s.size : Int) := by omega
    have hc := HK.out s[j].toNat k hk
    have hb := (kd_lt hk).1
    clear hk
    go_enter Tryz.func202, Tryz.ntmps202
    go_wp2
    go_ret
    exact ⟨rfl, rfl⟩
set_option maxRecDepth 100000 in
set_option maxHeartbeats 1000000 in
theorem skip_at (s : ByteArray) (a p : Nat) (w : World) (hap : a ≤ p) (hps : p ≤ s.size) (hss : s.size ≤ 100000) (HBL : Hid (∀ j, a ≤ j → j < p → KAt s j 1)) (k : Int) (HE : Hid (KAt s p k)) (h1 : k ≠ 1) (h2 : k ≠ 2) (HK : Hid (KL w)) :
    Calls Tryz.prog 173 #[.string s, .int .i64 (a : Int)] w fun e w' => e = .returned (.int .i64 (p : Int)) ∧ w' = w := by
  go_enter Tryz.func173, Tryz.ntmps173
  go_wp2
  go_loopg [1] (p - a) (fun gk iv wr => ∃ j : Nat, a ≤ j ∧ j + gk = p ∧ iv = .int .i64 (j : Int) ∧ wr = w)
  case atStart => exact ⟨a, Nat.le_refl _, by omega, rfl, rfl⟩
  case round =>
    obtain ⟨j, hj, hjg, rfl, rfl⟩ := hrel
    have HJ := Lib.hid hj
    have HJG := Lib.hid hjg
    rcases Nat.lt_or_ge j s.size with hlt | hge
    · have hltI : (j : Int) < (s.size : Int) := by omega
      rcases Nat.lt_or_ge j p with hlp | hgp
      · have HKA := Lib.hid (HBL.out j hj hlp)
        clear hj hjg hlt
        go_wp2_with fail
        refine (kindAt_at s j 1 _ HKA HK).mono ?_
        rintro e w2 ⟨rfl, hw2⟩
        rw [hw2]
        clear hw2
        go_wp2
        go_roundg (p - (j + 1))
        case measure => have := HJG.out; omega
        case rel => exact ⟨j + 1, by have := HJ.out; omega, by have := HJG.out; omega, by go_num, rfl⟩
      · obtain rfl : j = p := by omega
        clear hj hjg hlt
        have h1b : (k == 1) = false := by simpa using h1
        have h2b : (k == 2) = false := by simpa using h2
        clear h1 h2
        go_wp2_with fail
        refine (kindAt_at s j k _ HE HK).mono ?_
        rintro e w2 ⟨rfl, hw2⟩
        rw [hw2]
        clear hw2
        go_wp2
        go_ret
        exact ⟨rfl, rfl⟩
    · obtain rfl : j = p := by omega
      obtain rfl : j = s.size := by omega
      clear hj hjg
      go_wp2
      go_ret
      exact ⟨rfl, rfl⟩
end Go.Proofs.YtgepbklpobobbaaGreatDoor

/- package lexer: next at a word and at ';', at any offset. -/
namespace Go.Proofs.YtgepbklpobobbaaGreatDoor
open Go.RowKit

/-- The kind at j in a word that ends at q, before a byte of kind k. -/
def kq (j q : Nat) (k : Int) : Int := if j < q then 3 else k
theorem kq_lt {j q : Nat} {k : Int} (h : j < q) : kq j q k = 3 := if_pos h
theorem kq_ge {j q : Nat} {k : Int} (h : ¬ j < q) : kq j q k = k := if_neg h
set_option maxRecDepth 100000 in
set_option maxHeartbeats 4000000 in
theorem nextW_any (s : ByteArray) (p q : Nat) (txt : ByteArray) (k : Int) (w : World) (hpq : p < q) (hq : q ≤ 100000) (hl : q ≤ p + 16) (HW : Hid (∀ j, p ≤ j → j < q → KAt s j 3)) (HE : Hid (KAt s q k)) (hk3 : k ≠ 3) (hk4 : k ≠ 4) (hk5 : k ≠ 5) (HT : Hid (s.extract p q = txt)) (HK : Hid (KL w)) : Calls Tryz.prog 174 #[.string s, .int .i64 (p : Int)] w fun e w' => e = .returned (.tuple #[.agg #[.int .i64 0, .string txt, .int .i64 0, .int .i64 (p : Int)], .int .i64 0]) ∧ Below w.heap.size w w' := by
  have hk3b : (k == 3) = false := by simpa using hk3
  have hk4b : (k == 4) = false := by simpa using hk4
  have hk5b : (k == 5) = false := by simpa using hk5
  have hqs := HE.out.le
  have HKB := Lib.hid (show ∀ (j : Nat), p ≤ j → j ≤ q → KAt s j (kq j q k) from fun j h1 h2 => by
    rcases Nat.lt_or_ge j q with h | h
    · rw [kq_lt h]; exact HW.out j h1 h
    · obtain rfl : j = q := by omega
      rw [kq_ge (Nat.lt_irrefl _)]
      exact HE.out)
  have wp1 : IntKind.i64.wrap ((p : Int) + 1) = ((p + 1 : Nat) : Int) := by rw [IntWalk.i64_in _ (by omega)]; rfl
  have HWP := Lib.hid wp1
  clear hk3 hk4 hk5
  have HBA := Lib.hid (((Below.refl w.heap.size w).alloc (Nat.le_refl _) (.cells #[.int .i64 0, .string ⟨#[]⟩, .int .i64 0, .int .i64 0] 189)).alloc (by simp) (.cells #[.int .i64 0, .string ⟨#[]⟩, .int .i64 0, .int .i64 (p : Int)] 189))
  have k1 := Blk.alloc (Blk.new w 189 #[.int .i64 0, .string ⟨#[]⟩, .int .i64 0, .int .i64 0]) (.cells #[.int .i64 0, .string ⟨#[]⟩, .int .i64 0, .int .i64 (p : Int)] 189)
  have k2 := Blk.new0 (g := w.heap.size + 1) (w.alloc (.cells #[.int .i64 0, .string ⟨#[]⟩, .int .i64 0, .int .i64 0] 189)) 189 #[.int .i64 0, .string ⟨#[]⟩, .int .i64 0, .int .i64 (p : Int)] (by simp)
  go_enter Tryz.func174, Tryz.ntmps174
  go_wp2_with fail
  obtain ⟨w2, hw2⟩ : ∃ w2, (w.alloc (.cells #[.int .i64 0, .string ⟨#[]⟩, .int .i64 0, .int .i64 0] 189)).alloc (.cells #[.int .i64 0, .string ⟨#[]⟩, .int .i64 0, .int .i64 (p : Int)] 189) = w2 := ⟨_, rfl⟩
  obtain ⟨b, hb⟩ : ∃ b, w.heap.size = b := ⟨_, rfl⟩
  rw [hw2] at HBA k1 k2 ⊢
  rw [hb] at k1 k2 ⊢
  have HBW := Lib.hid hb
  have HK2 := Lib.hid (HK.out.all HBA.out)
  have q0 : w2.cell? ⟨b + 1, 0, none⟩ = some (.int .i64 0) := k2.cell 0
  have r0 := k2.frozen 0
  obtain ⟨w3, hw3⟩ : ∃ w3, w2.setCell ⟨b + 1, 0, none⟩ (.int .i64 0) = w3 := ⟨_, rfl⟩
  have j1 := k1.far (p := ⟨b + 1, 0, none⟩) (by show b ≠ b + 1; omega) (.int .i64 0)
  have j2 := k2.set_ 0 (.int .i64 0)
  simp only [List.setIfInBounds_toArray, List.set_cons_zero] at j2
  have hb3 : Below w.heap.size w w3 := by rw [← hw3]; exact HBA.out.setCell (p := ⟨b + 1, 0, none⟩) (by rw [hb]; exact Nat.le_succ _) _
  rw [hw3] at j1 j2
  have HB3 := Lib.hid hb3
  have HK3 := Lib.hid (HK.out.all hb3)
  have J1 := Lib.hid j1
  have J2 := Lib.hid j2
  clear hw2 hb k1 k2 j1 j2 hb3
  refine (kindAt_at s p 3 _ (Lib.hid (HW.out p (Nat.le_refl _) hpq)) HK2).mono ?_
  rintro e w4 ⟨rfl, hw4⟩
  rw [hw4]
  clear hw4
  go_wp2_with fail
  clear hw3 q0 r0
  try rw [wp1]
  refine (kindAt_at s (p + 1) _ _ (Lib.hid (HKB.out (p + 1) (by omega) (by omega))) HK3).mono ?_
  rintro e w4 ⟨rfl, hw4⟩
  rw [hw4]
  clear hw4 wp1
  go_wp2
  go_loopg [7, 8] (q - p) (fun gk v7 v8 wr => ∃ j : Nat, j + gk = q + 1 ∧ p + 1 ≤ j ∧ j ≤ q ∧ v7 = .int .i64 (j : Int) ∧ v8 = .int .u8 (kq j q k) ∧ wr = w3)
  case atStart => exact ⟨p + 1, by omega, by omega, by omega, rfl, rfl, rfl⟩
  case round =>
    obtain ⟨j, hj, hj1, hj2, rfl, rfl, rfl⟩ := hrel
    have HJJ := Lib.hid hj
    rcases Nat.lt_or_ge j q with hlt | hge
    · rw [kq_lt hlt]
      have HKN := Lib.hid (HKB.out (j + 1) (by omega) (by omega))
      have HLT := Lib.hid hlt
      have HJ1 := Lib.hid hj1
      clear hj hlt hj1 hj2
      have ej : IntKind.i64.wrap ((j : Int) + 1) = ((j + 1 : Nat) : Int) := by rw [IntWalk.i64_in _ (by have := HLT.out; omega)]; rfl
      go_wp2_with fail
      refine (kindAt_at s (j + 1) _ _ HKN HK3).mono ?_
      rintro e w4 ⟨rfl, hw4⟩
      rw [hw4]
      clear hw4
      go_wp2
      go_roundg (q - j)
      case measure => have := HJJ.out; have := HLT.out; omega
      case rel => exact ⟨j + 1, by have := HJJ.out; have := HLT.out; omega, by have := HJ1.out; omega, HLT.out, by go_num, rfl, rfl⟩
    · obtain rfl : j = q := by omega
      rw [kq_ge (Nat.lt_irrefl _)]
      have hsub : IntKind.i64.wrap ((j : Int) - (p : Int)) = ((j - p : Nat) : Int) := by rw [IntWalk.i64_in _ (by omega)]; omega
      have hI : ¬ ((16 : Int) < ((j - p : Nat) : Int)) := by omega
      have hlo : (0 : Int) ≤ (p : Int) := by omega
      have hmid : (p : Int) ≤ (j : Int) := by omega
      have hhi : (j : Int) ≤ (s.size : Int) := by omega
      clear hj HJJ HKB
      have p0 : wr.cell? ⟨b + 1, 0, none⟩ = some (.int .i64 0) := J2.out.cell 0
      have p1 : wr.cell? ⟨b + 1, 1, none⟩ = some (.string ⟨#[]⟩) := J2.out.cell 1
      have p2 : wr.cell? ⟨b + 1, 2, none⟩ = some (.int .i64 0) := J2.out.cell 2
      have p3 : wr.cell? ⟨b + 1, 3, none⟩ = some (.int .i64 (p : Int)) := J2.out.cell 3
      have f1 := J2.out.frozen 1
      obtain ⟨w5, hw5⟩ : ∃ w5, wr.setCell ⟨b + 1, 1, none⟩ (.string (s.extract p j)) = w5 := ⟨_, rfl⟩
      have j1 := J1.out.far (p := ⟨b + 1, 1, none⟩) (by show b ≠ b + 1; omega) (.string (s.extract p j))
      have j2 := J2.out.set_ 1 (.string (s.extract p j))
      simp only [List.setIfInBounds_toArray, List.set_cons_zero, List.set_cons_succ] at j2
      have hb5 : Below w.heap.size w w5 := by rw [← hw5]; exact HB3.out.setCell (p := ⟨b + 1, 1, none⟩) (by rw [HBW.out]; exact Nat.le_succ _) _
      rw [hw5] at j1 j2
      have t0 : w5.cell? ⟨b + 1, 0, none⟩ = some (.int .i64 0) := j2.cell 0
      have t1 : w5.cell? ⟨b + 1, 1, none⟩ = some (.string (s.extract p j)) := j2.cell 1
      have t2 : w5.cell? ⟨b + 1, 2, none⟩ = some (.int .i64 0) := j2.cell 2
      have t3 : w5.cell? ⟨b + 1, 3, none⟩ = some (.int .i64 (p : Int)) := j2.cell 3
      have u0 : w5.cell? ⟨b, 0, none⟩ = some (.int .i64 0) := j1.cell 0
      have u1 : w5.cell? ⟨b, 1, none⟩ = some (.string ⟨#[]⟩) := j1.cell 1
      have u2 : w5.cell? ⟨b, 2, none⟩ = some (.int .i64 0) := j1.cell 2
      have u3 : w5.cell? ⟨b, 3, none⟩ = some (.int .i64 0) := j1.cell 3
      have v0 := j1.frozen 0
      have v1 := j1.frozen 1
      have v2 := j1.frozen 2
      have v3 := j1.frozen 3
      have W1 := j1.set_ 0 (.int .i64 0)
      simp only [List.setIfInBounds_toArray, List.set_cons_zero] at W1
      have W2 := W1.set_ 1 (.string (s.extract p j))
      simp only [List.setIfInBounds_toArray, List.set_cons_zero, List.set_cons_succ] at W2
      have W3 := W2.set_ 2 (.int .i64 0)
      simp only [List.setIfInBounds_toArray, List.set_cons_zero, List.set_cons_succ] at W3
      have W4 := W3.set_ 3 (.int .i64 (p : Int))
      simp only [List.setIfInBounds_toArray, List.set_cons_zero, List.set_cons_succ] at W4
      obtain ⟨w6, hw6⟩ : ∃ w6, (((w5.setCell ⟨b, 0, none⟩ (.int .i64 0)).setCell ⟨b, 1, none⟩ (.string (s.extract p j))).setCell ⟨b, 2, none⟩ (.int .i64 0)).setCell ⟨b, 3, none⟩ (.int .i64 (p : Int)) = w6 := ⟨_, rfl⟩
      have hb6 : Below w.heap.size w w6 := by
        have hbb : w.heap.size ≤ b := Nat.le_of_eq HBW.out
        rw [← hw6]
        exact (((hb5.setCell (p := ⟨b, 0, none⟩) hbb _).setCell (p := ⟨b, 1, none⟩) hbb _).setCell (p := ⟨b, 2, none⟩) hbb _).setCell (p := ⟨b, 3, none⟩) hbb _
      rw [hw6] at W4
      have HW4 := Lib.hid W4
      have HB6 := Lib.hid hb6
      have HW6 := Lib.hid hw6
      clear j1 j2 hb5 W1 W2 W3 W4 hb6 hw6
      go_wp2
      have hw6 := HW6.out
      try rw [hw6]
      have j8 := HW4.out
      have p0 : w6.cell? ⟨b, 0, none⟩ = some (.int .i64 0) := j8.cell 0
      have p1 : w6.cell? ⟨b, 1, none⟩ = some (.string (s.extract p j)) := j8.cell 1
      have p2 : w6.cell? ⟨b, 2, none⟩ = some (.int .i64 0) := j8.cell 2
      have p3 : w6.cell? ⟨b, 3, none⟩ = some (.int .i64 (p : Int)) := j8.cell 3
      refine bodyPost_ret (v := .tuple #[.agg #[.int .i64 0, .string (s.extract p j), .int .i64 0, .int .i64 (p : Int)], .int .i64 0]) (by simp [results, Tryz.results174, go_sem, p0, p1, p2, p3]) rfl ⟨by rw [HT.out], HB6.out⟩
set_option maxRecDepth 100000 in
set_option maxHeartbeats 4000000 in
theorem nextS_any (s : ByteArray) (p : Nat) (txt : ByteArray) (w : World) (hq : p ≤ 100000) (HE : Hid (KAt s p 7)) (HT : Hid (s.extract p (p + 1) = txt)) (HK : Hid (KL w)) : Calls Tryz.prog 174 #[.string s, .int .i64 (p : Int)] w fun e w' => e = .returned (.tuple #[.agg #[.int .i64 2, .string txt, .int .i64 0, .int .i64 (p : Int)], .int .i64 0]) ∧ Below w.heap.size w w' := by
  have hps := HE.out.lt (by decide)
  have wp1 : IntKind.i64.wrap ((p : Int) + 1) = ((p + 1 : Nat) : Int) := by rw [IntWalk.i64_in _ (by omega)]; rfl
  have hlo : (0 : Int) ≤ (p : Int) := by omega
  have hmid : (p : Int) ≤ ((p + 1 : Nat) : Int) := by omega
  have hhi : ((p + 1 : Nat) : Int) ≤ (s.size : Int) := by omega
  have HBA := Lib.hid (((Below.refl w.heap.size w).alloc (Nat.le_refl _) (.cells #[.int .i64 0, .string ⟨#[]⟩, .int .i64 0, .int .i64 0] 189)).alloc (by simp) (.cells #[.int .i64 0, .string ⟨#[]⟩, .int .i64 0, .int .i64 (p : Int)] 189))
  have k1 := Blk.alloc (Blk.new w 189 #[.int .i64 0, .string ⟨#[]⟩, .int .i64 0, .int .i64 0]) (.cells #[.int .i64 0, .string ⟨#[]⟩, .int .i64 0, .int .i64 (p : Int)] 189)
  have k2 := Blk.new0 (g := w.heap.size + 1) (w.alloc (.cells #[.int .i64 0, .string ⟨#[]⟩, .int .i64 0, .int .i64 0] 189)) 189 #[.int .i64 0, .string ⟨#[]⟩, .int .i64 0, .int .i64 (p : Int)] (by simp)
  go_enter Tryz.func174, Tryz.ntmps174
  go_wp2_with fail
  obtain ⟨w2, hw2⟩ : ∃ w2, (w.alloc (.cells #[.int .i64 0, .string ⟨#[]⟩, .int .i64 0, .int .i64 0] 189)).alloc (.cells #[.int .i64 0, .string ⟨#[]⟩, .int .i64 0, .int .i64 (p : Int)] 189) = w2 := ⟨_, rfl⟩
  obtain ⟨b, hb⟩ : ∃ b, w.heap.size = b := ⟨_, rfl⟩
  rw [hw2] at HBA k1 k2 ⊢
  rw [hb] at k1 k2 ⊢
  have HBW := Lib.hid hb
  have HK2 := Lib.hid (HK.out.all HBA.out)
  have q0 : w2.cell? ⟨b + 1, 0, none⟩ = some (.int .i64 0) := k2.cell 0
  have r0 := k2.frozen 0
  obtain ⟨w3, hw3⟩ : ∃ w3, w2.setCell ⟨b + 1, 0, none⟩ (.int .i64 2) = w3 := ⟨_, rfl⟩
  have j1 := k1.far (p := ⟨b + 1, 0, none⟩) (by show b ≠ b + 1; omega) (.int .i64 2)
  have j2 := k2.set_ 0 (.int .i64 2)
  simp only [List.setIfInBounds_toArray, List.set_cons_zero] at j2
  have hb3 : Below w.heap.size w w3 := by rw [← hw3]; exact HBA.out.setCell (p := ⟨b + 1, 0, none⟩) (by rw [hb]; exact Nat.le_succ _) _
  rw [hw3] at j1 j2
  have HB3 := Lib.hid hb3
  have HK3 := Lib.hid (HK.out.all hb3)
  have J1 := Lib.hid j1
  have J2 := Lib.hid j2
  clear hw2 hb k1 k2 j1 j2 hb3
  refine (kindAt_at s p 7 _ HE HK2).mono ?_
  rintro e w4 ⟨rfl, hw4⟩
  rw [hw4]
  clear hw4
  have p0 : w3.cell? ⟨b + 1, 0, none⟩ = some (.int .i64 2) := J2.out.cell 0
  have p1 : w3.cell? ⟨b + 1, 1, none⟩ = some (.string ⟨#[]⟩) := J2.out.cell 1
  have p2 : w3.cell? ⟨b + 1, 2, none⟩ = some (.int .i64 0) := J2.out.cell 2
  have p3 : w3.cell? ⟨b + 1, 3, none⟩ = some (.int .i64 (p : Int)) := J2.out.cell 3
  have f1 := J2.out.frozen 1
  obtain ⟨w5, hw5⟩ : ∃ w5, w3.setCell ⟨b + 1, 1, none⟩ (.string (s.extract p (p + 1))) = w5 := ⟨_, rfl⟩
  have j1 := J1.out.far (p := ⟨b + 1, 1, none⟩) (by show b ≠ b + 1; omega) (.string (s.extract p (p + 1)))
  have j2 := J2.out.set_ 1 (.string (s.extract p (p + 1)))
  simp only [List.setIfInBounds_toArray, List.set_cons_zero, List.set_cons_succ] at j2
  have hb5 : Below w.heap.size w w5 := by rw [← hw5]; exact HB3.out.setCell (p := ⟨b + 1, 1, none⟩) (by rw [HBW.out]; exact Nat.le_succ _) _
  rw [hw5] at j1 j2
  have t0 : w5.cell? ⟨b + 1, 0, none⟩ = some (.int .i64 2) := j2.cell 0
  have t1 : w5.cell? ⟨b + 1, 1, none⟩ = some (.string (s.extract p (p + 1))) := j2.cell 1
  have t2 : w5.cell? ⟨b + 1, 2, none⟩ = some (.int .i64 0) := j2.cell 2
  have t3 : w5.cell? ⟨b + 1, 3, none⟩ = some (.int .i64 (p : Int)) := j2.cell 3
  have u0 : w5.cell? ⟨b, 0, none⟩ = some (.int .i64 0) := j1.cell 0
  have u1 : w5.cell? ⟨b, 1, none⟩ = some (.string ⟨#[]⟩) := j1.cell 1
  have u2 : w5.cell? ⟨b, 2, none⟩ = some (.int .i64 0) := j1.cell 2
  have u3 : w5.cell? ⟨b, 3, none⟩ = some (.int .i64 0) := j1.cell 3
  have v0 := j1.frozen 0
  have v1 := j1.frozen 1
  have v2 := j1.frozen 2
  have v3 := j1.frozen 3
  have W1 := j1.set_ 0 (.int .i64 2)
  simp only [List.setIfInBounds_toArray, List.set_cons_zero] at W1
  have W2 := W1.set_ 1 (.string (s.extract p (p + 1)))
  simp only [List.setIfInBounds_toArray, List.set_cons_zero, List.set_cons_succ] at W2
  have W3 := W2.set_ 2 (.int .i64 0)
  simp only [List.setIfInBounds_toArray, List.set_cons_zero, List.set_cons_succ] at W3
  have W4 := W3.set_ 3 (.int .i64 (p : Int))
  simp only [List.setIfInBounds_toArray, List.set_cons_zero, List.set_cons_succ] at W4
  obtain ⟨w6, hw6⟩ : ∃ w6, (((w5.setCell ⟨b, 0, none⟩ (.int .i64 2)).setCell ⟨b, 1, none⟩ (.string (s.extract p (p + 1)))).setCell ⟨b, 2, none⟩ (.int .i64 0)).setCell ⟨b, 3, none⟩ (.int .i64 (p : Int)) = w6 := ⟨_, rfl⟩
  have hb6 : Below w.heap.size w w6 := by
    have hbb : w.heap.size ≤ b := Nat.le_of_eq HBW.out
    rw [← hw6]
    exact (((hb5.setCell (p := ⟨b, 0, none⟩) hbb _).setCell (p := ⟨b, 1, none⟩) hbb _).setCell (p := ⟨b, 2, none⟩) hbb _).setCell (p := ⟨b, 3, none⟩) hbb _
  rw [hw6] at W4
  have HW4 := Lib.hid W4
  have HB6 := Lib.hid hb6
  have HW6 := Lib.hid hw6
  clear j1 j2 hb5 W1 W2 W3 W4 hb6 hw6
  go_wp2
  have hw6 := HW6.out
  try rw [hw6]
  have j8 := HW4.out
  have p0 : w6.cell? ⟨b, 0, none⟩ = some (.int .i64 2) := j8.cell 0
  have p1 : w6.cell? ⟨b, 1, none⟩ = some (.string (s.extract p (p + 1))) := j8.cell 1
  have p2 : w6.cell? ⟨b, 2, none⟩ = some (.int .i64 0) := j8.cell 2
  have p3 : w6.cell? ⟨b, 3, none⟩ = some (.int .i64 (p : Int)) := j8.cell 3
  refine bodyPost_ret (v := .tuple #[.agg #[.int .i64 2, .string (s.extract p (p + 1)), .int .i64 0, .int .i64 (p : Int)], .int .i64 0]) (by simp [results, Tryz.results174, go_sem, p0, p1, p2, p3]) rfl ⟨by rw [HT.out], HB6.out⟩
end Go.Proofs.YtgepbklpobobbaaGreatDoor

/- ledger: the row of a change's flows; append to a row of whatever structs. -/
namespace Go.Proofs.YtgepbklpobobbaaGreatDoor
open Go.RowKit

theorem run_append1b {P : Program} {w : World} {base t e size bytes n : Nat} {v : Value} {xs : List Value} {ty : TypeId} (hT : SlT P t e size bytes) (hown : w.ownsRow base e size v n xs) {gb : Nat} {cs : Array Value} (hsrc : Blk w gb e cs) (hcs : cs.size = size) (h1 : ∀ u ∈ cs.toList, u.oneCell' = true)
    (hn : n < 1000000000) (hby : bytes ≤ 1024) (hbase : base ≤ w.heap.size) :
    ∃ g cap w', (Builtin.append_ #[t, t] ty #[v, .slice (some ⟨gb, 0, none⟩) 1 1]).run P w = .ok (.slice (some ⟨g, 0, none⟩) (n + 1) cap) w' ∧ w'.ownsRow base e size (.slice (some ⟨g, 0, none⟩) (n + 1) cap) (n + 1) (xs ++ cs.toList) ∧
      w.grownBy w' v.ownBlock ∧ (some g = v.ownBlock ∨ g = w.heap.size) := by
  obtain ⟨i, z, ht, hi, hz, hs, hb, hzs, hsz⟩ := hT
  have hmul : (n + 1) * bytes ≤ 140737488355328 := Nat.le_trans (Nat.mul_le_mul (show n + 1 ≤ 1000000000 by omega) hby) (by decide)
  obtain ⟨v', w', hrun, h2, h3, _, h5⟩ := run_append_own_at (P := P) w base t ty e i z size bytes ht hi hz hs hb hzs hsz v n xs hown ⟨gb, 0, none⟩ 1 1 cs.toList (by simpa using hcs)
      (fun j u hu => by
        have ea : (⟨gb, 0, none⟩ : Addr).add j = ⟨gb, j, none⟩ := by unfold Addr.add; split <;> simp_all
        rw [ea, Blk.cell hsrc j]
        simpa using hu)
      h1 (by unfold maxLen; omega) hmul hbase
  obtain ⟨g, cap, rfl⟩ := ownsRow_succ h2
  refine ⟨g, cap, w', hrun, h2, h3, ?_⟩
  rcases h5 with h5 | h5
  · exact .inl (by simpa [Value.ownBlock] using h5)
  · exact .inr (by simpa [Value.ownBlock] using h5)
/-- append of the rows of a slice onto a row of the call's own. -/
theorem run_appendN {P : Program} {w : World} {base t e size bytes n : Nat} {v : Value} {xs : List Value} {ty : TypeId} (hT : SlT P t e size bytes) (hown : w.ownsRow base e size v n xs) (A : Option Addr) (m c : Nat) (news : List Value) (hl : news.length = m * size) (hA : A = none → m = 0)
    (hnews : ∀ ad, A = some ad → ∀ j u, news[j]? = some u → w.cell? (ad.add j) = some u) (h1 : ∀ u ∈ news, u.oneCell' = true) (hn : n + m < 1000000000) (hby : bytes ≤ 1024) (hbase : base ≤ w.heap.size) :
    ∃ A' c' w', (Builtin.append_ #[t, t] ty #[v, .slice A m c]).run P w = .ok (.slice A' (n + m) c') w' ∧ w'.ownsRow base e size (.slice A' (n + m) c') (n + m) (xs ++ news) ∧ w.grownBy w' v.ownBlock ∧
      ∀ b, (Value.slice A' (n + m) c').ownBlock = some b → v.ownBlock = some b ∨ w.heap.size ≤ b := by
  have hT' := hT
  obtain ⟨i, z, ht, hi, hz, hs, hb, hzs, hsz⟩ := hT
  rcases A with _ | ad
  · have hm := hA rfl
    subst hm
    have hnil : news = [] := List.eq_nil_of_length_eq_zero (by simpa using hl)
    subst hnil
    obtain ⟨A', c', rfl⟩ := own_split hown
    refine ⟨A', c', w, ?_, by simpa using hown, only_refl _ _, fun b hb => .inl hb⟩
    rcases hown.2 with ⟨h, h0⟩ | ⟨g, cap, cur, h, _, _, hnc, _⟩
    · cases h
      simp [Builtin.append_, run_underlying ht, sizeOf, typeInfo, hi, Builtin.lenOf, Builtin.firstCells]
    · injection h with h _ h3
      subst h h3
      simp [Builtin.append_, run_underlying ht, sizeOf, typeInfo, hi, Builtin.lenOf, Builtin.firstCells, hnc, storeCells]
  · have hmul : (n + m) * bytes ≤ 140737488355328 := Nat.le_trans (Nat.mul_le_mul (show n + m ≤ 1000000000 by omega) hby) (by decide)
    obtain ⟨v', w', hrun, h2, h3, _, h5⟩ := run_append_own_at (P := P) w base t ty e i z size bytes ht hi hz hs hb hzs hsz v n xs hown ad m c news hl (hnews ad rfl) h1 (by unfold maxLen; omega) hmul hbase
    obtain ⟨A', c', rfl⟩ := own_split h2
    refine ⟨A', c', w', hrun, h2, h3, fun b hb => ?_⟩
    rcases h5 with h5 | h5
    · exact .inl (by rw [← h5]; exact hb)
    · rw [h5] at hb
      injection hb with hb
      exact .inr (by omega)
theorem slT_flow : SlT Tryz.prog 99 256 11 120 := SlT.of Tryz.underlying99 (by kernel_rfl) (by decide)
theorem ChAt.lt {B : Nat} {w : World} {L : Led} {S0 S : LSt} {C : Chg} (h : ChAt B w L S0 S C) {b : Nat} (hb : ChF C b) : b < w.heap.size := by
  obtain ⟨xs, hx, -⟩ := h.fl
  rcases hb with rfl | rfl | rfl | rfl | rfl | hb
  · exact h.c.lt
  · exact h.s.lt
  · exact h.t.lt
  · exact h.i.lt
  · exact h.r.lt
  · exact (hx.lt b hb).2
theorem ChAt.flow {B : Nat} {w : World} {L : Led} {S0 S : LSt} {C : Chg} (h : ChAt B w L S0 S C) (gb : Nat) (cs : Array Value) (hsrc : Blk w gb 256 cs) (hcs : cs.size = 11) (h1 : ∀ u ∈ cs.toList, u.oneCell' = true) (hn : S.nf < 1000000) (hB : B ≤ w.heap.size) (ty : TypeId) :
    ∃ (V : Sl) (w' : World), (Builtin.append_ #[99, 99] ty #[slV C.fl, .slice (some ⟨gb, 0, none⟩) 1 1]).run Tryz.prog w = .ok (slV V) w' ∧
      w'.cell? ⟨C.gc, 12, none⟩ = some (slV C.fl) ∧ w'.frozen? ⟨C.gc, 12, none⟩ = false ∧ ChAt B (w'.setCell ⟨C.gc, 12, none⟩ (slV V)) L S0 { S with nf := S.nf + 1 } { C with fl := V } ∧ Mod (ChF C) w (w'.setCell ⟨C.gc, 12, none⟩ (slV V)) ∧ Mod (ChF C) w w' := by
  obtain ⟨xs, hx, hx1⟩ := h.fl
  have hnf := h.nf
  obtain ⟨g, cap, w', hrun, h2, h3, h4⟩ := run_append1b (ty := ty) slT_flow hx hsrc hcs h1 (by omega) (by decide) hB
  have m1 : Mod (fun b => (slV C.fl).ownBlock = some b) w w' := Mod.of_grown h3 (fun g e => .inl e)
  have hty : ∀ b t, (slV C.fl).ownBlock = some b → Ty w b t → t = 256 := fun b t hb ht => ht.unique (Ty.of_own hx hb)
  have hc' : Blk w' C.gc 129 (C.cells L S0) := m1.blk h.c (fun e => absurd (hty _ _ e h.c.ty) (by decide))
  have hgt : Ty w' g 256 := Ty.of_own h2 rfl
  obtain ⟨V, hV⟩ : ∃ V : Sl, V = (some ⟨g, 0, none⟩, S.nf - S0.nf + 1, cap) := ⟨_, rfl⟩
  have hVe : slV V = .slice (some ⟨g, 0, none⟩) (S.nf - S0.nf + 1) cap := by rw [hV]; rfl
  rw [← hVe] at hrun h2
  have m2 : Mod (fun b => b = C.gc) w' (w'.setCell ⟨C.gc, 12, none⟩ (slV V)) := (Mod.refl (fun b => b = C.gc) w').set (.inl rfl) _
  have m : Mod (fun b => (slV C.fl).ownBlock = some b ∨ b = C.gc) w (w'.setCell ⟨C.gc, 12, none⟩ (slV V)) := (m1.mono (fun b hb => .inl (.inl hb))).trans m2 (fun b hb => .inl (.inr hb))
  have hmap : ∀ {b : Nat}, (∀ t, ¬ Ty w b t) → ¬ ((slV C.fl).ownBlock = some b ∨ b = C.gc) := by
    rintro b hb (e | e)
    · exact hb _ (Ty.of_own hx e)
    · exact hb _ (e ▸ h.c.ty)
  have hlot : ∀ b, ((slV C.fl).ownBlock = some b ∨ b = C.gc) → ¬ Ty w b 184 := by
    rintro b (e | e) ht
    · exact absurd (hty _ _ e ht) (by decide)
    · rw [e] at ht
      exact absurd (ht.unique h.c.ty) (by decide)
  have hcells : ({ C with fl := V } : Chg).cells L S0 = (C.cells L S0).setIfInBounds 12 (slV V) := by simp [Chg.cells]
  refine ⟨V, w', hrun, hc'.cell 12, hc'.frozen 12, ⟨?_, h.s.mod m (hmap (fun t => h.s.not_ty)), h.t.mod m (hmap (fun t => h.t.not_ty)), h.i.mod m (hmap (fun t => h.i.not_ty)), h.r.mod m (hmap (fun t => h.r.not_ty)),
    fun k => (h.st k).mod m hlot, h.tt, ⟨xs ++ cs.toList, ?_, fun u hu => (List.mem_append.1 hu).elim (hx1 u) (h1 u)⟩, Nat.le_succ_of_le hnf, h.sh, h.lo, h.dm⟩, m.mono (fun b hb => .inl (hb.elim (fun e => .inr (.inr (.inr (.inr (.inr e))))) (fun e => .inl e))), m1.mono (fun b hb => .inl (.inr (.inr (.inr (.inr (.inr hb))))))⟩
  · rw [hcells]
    exact hc'.set_ 12 (slV V)
  · have e : S.nf + 1 - S0.nf = S.nf - S0.nf + 1 := by omega
    show World.ownsRow _ B _ 11 (slV V) (S.nf + 1 - S0.nf) _
    rw [e]
    exact m2.own h2 (fun g' hg' e' => by
      rw [hVe] at hg'
      injection hg' with hg'
      have e2 : g = C.gc := hg'.trans e'
      rw [e2] at hgt
      exact absurd (hgt.unique hc'.ty) (by decide))
end Go.Proofs.YtgepbklpobobbaaGreatDoor
