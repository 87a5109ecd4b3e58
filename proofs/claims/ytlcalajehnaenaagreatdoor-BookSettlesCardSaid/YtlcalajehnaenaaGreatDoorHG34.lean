/- ledger: Post and Can, for the two kinds of steps. -/
import Derived.Test.YtlcalajehnaenaaGreatDoorHLdPost
import Derived.Test.YtlcalajehnaenaaGreatDoorHG11
import Derived.Test.YtlcalajehnaenaaGreatDoorHG12
namespace Go.Proofs.YtlcalajehnaenaaGreatDoor
open Go.RowKit
structure StepOk (mx : Int → Bool) (w : World) (L : Led) (S0 : LSt) (K : Int) (z : Bool) (actor tick : Int) (A : Option Addr) (n c : Nat) (ms : List Mv) : Prop where
 mv : MvAt w A n c ms
 ok : ∀ m ∈ ms, MvOk L.it.2.1 m
 from_ : ∀ m ∈ ms, if z = true then m.frm = 0 else 1 ≤ m.frm
 n0 : 1 ≤ n
 n1 : n ≤ 64
 ac : 0 ≤ actor ∧ actor ≤ 1073741824
 t0 : 0 ≤ tick
 t1 : tick ≤ 1099511627776
 t2 : S0.now ≤ tick
 ns : S0.ns ≤ 60000 - 1
 k : K + sumN ms ≤ 1073741824
 it : L.it.2.1 ≤ 64
 nf : S0.nf + n ≤ 1000000
def kindZ (z : Bool) : Int := if z then 0 else 2
theorem try_any (mx : Int → Bool) (K : Int) (L : Led) (S0 : LSt) (z : Bool) (id actor tick : Int) (A : Option Addr) (n c : Nat) (ms : List Mv) (w : World) (HL : Hid (LedAt mx w L S0)) (HO : Hid (LOk mx K S0)) (H : Hid (StepOk mx w L S0 K z actor tick A n c ms)) :
 ∀ w1, Below w.heap.size w w1 → Calls Tryz.prog 28 #[.pointer (some ⟨L.gl, 0, none⟩), stA id (kindZ z) actor tick (-1) 0 (.slice A n c)] w1 (TryPost mx w1 L S0 ms (kindZ z) actor tick) := by
 intro w1 hb
 obtain ⟨hm, hok, hf, n0, n1, ac, t0, t1, t2, ns, k, it, nf⟩ := H.out
 cases z with
 | true => exact try0_any mx K L S0 id actor tick A n c ms w1 (Lib.hid (HL.out.all hb)) HO (Lib.hid (hm.all hb)) (Lib.hid hok) (Lib.hid (fun m hm => by have := hf m hm; rwa [if_pos rfl] at this)) n0 n1 ac t0 t1 t2 (by omega) k it nf
 | false => exact try2_any mx K L S0 id actor tick A n c ms w1 (Lib.hid (HL.out.all hb)) HO (Lib.hid (hm.all hb)) (Lib.hid hok) (Lib.hid (fun m hm => by have := hf m hm; rwa [if_neg (by decide)] at this)) n0 n1 ac t0 t1 t2 (by omega) k it nf
theorem post_any (mx : Int → Bool) (K : Int) (L : Led) (S0 : LSt) (z : Bool) (id actor tick : Int) (A : Option Addr) (n c : Nat) (ms : List Mv) (w : World) (HL : Hid (LedAt mx w L S0)) (HO : Hid (LOk mx K S0)) (H : Hid (StepOk mx w L S0 K z actor tick A n c ms)) :
 Calls Tryz.prog 7 #[.pointer (some ⟨L.gl, 0, none⟩), stA id (kindZ z) actor tick (-1) 0 (.slice A n c)] w (PostPost mx w L S0 ms tick) :=
 postG mx K L S0 id (kindZ z) actor tick A n c ms w HL HO H.out.mv.1 (Lib.hid (fun m hm => ⟨(H.out.ok m hm).n0, (H.out.ok m hm).n1⟩)) H.out.nf (Lib.hid (try_any mx K L S0 z id actor tick A n c ms w HL HO H))
end Go.Proofs.YtlcalajehnaenaaGreatDoor
namespace Go.Proofs.YtlcalajehnaenaaGreatDoor
open Go.RowKit
set_option maxRecDepth 100000 in
theorem balance_any {mx : Int → Bool} (L : Led) (S : LSt) (a i : Int) (w : World) (HL : Hid (LedAt mx w L S)) (ha : 0 ≤ a ∧ a < 2147483648) (hi : 0 ≤ i ∧ i < 2147483648) (HO : Hid (LotsOk (S.st (kOf a i)))) (hn : Hid ((S.st (kOf a i)).length ≤ 1000000)) :
 Calls Tryz.prog 11 #[.pointer (some ⟨L.gl, 0, none⟩), .int .i64 a, .int .i64 i] w fun e w' => e = .returned (.int .i64 (totL (S.st (kOf a i)))) ∧ Below w.heap.size w w' := by
 obtain ⟨V, hv, hls⟩ := HL.out.st (kOf a i)
 obtain ⟨j, hj, hz⟩ := infoLots
 have hlk := HL.out.s.look kEncOk Tryz.underlying88 hj hz (kOf a i)
 rw [hv, kOf_enc ha hi] at hlk
 have hlk : (Instr.lookup 88 (.map (some L.lS)) (.agg #[.int .i64 a, .int .i64 i]) false).run Tryz.prog w = .ok (slV V) w := hlk
 have c2 : w.cell? ⟨L.gl, 5, none⟩ = some (.map (some L.lS)) := HL.out.c.cell 5
 obtain ⟨A, n, c⟩ := V
 have HLS := Lib.hid hls
 unfold slV at hlk
 have hnn : n ≤ 1000000 := by
  have h1 : (S.st (kOf a i)).length = n := hls.len
  have h2 := hn.out
  omega
 clear hls hv hj hz
 go_enter Tryz.func11, Tryz.ntmps11
 go_wp2_with fail
 refine (total_any A n c _ w HLS HO hnn).mono ?_
 rintro e w2 ⟨rfl, hb2⟩
 have HB := Lib.hid hb2
 clear hb2
 go_wp2
 go_ret
 exact ⟨rfl, HB.out⟩
set_option maxRecDepth 100000 in
theorem ltot_any {mx : Int → Bool} (L : Led) (S : LSt) (i : Int) (w : World) (HL : Hid (LedAt mx w L S)) :
 Calls Tryz.prog 12 #[.pointer (some ⟨L.gl, 0, none⟩), .int .i64 i] w fun e w' => e = .returned (.int .i64 (S.tot i)) ∧ w' = w := by
 have c2 : w.cell? ⟨L.gl, 6, none⟩ = some (.map (some L.lT)) := HL.out.c.cell 6
 have hlk := HL.out.lookT i
 rw [HL.out.tt i] at hlk
 go_enter Tryz.func12, Tryz.ntmps12
 go_wp2
 go_ret
 exact ⟨rfl, rfl⟩
end Go.Proofs.YtlcalajehnaenaaGreatDoor
namespace Go.Proofs.YtlcalajehnaenaaGreatDoor
open Go.RowKit
def KAt (s : ByteArray) (j : Nat) (k : Int) : Prop := (j = s.size ∧ k = 0) ∨ ∃ h : j < s.size, kd s[j].toNat = some k
theorem KAt.le {s : ByteArray} {j : Nat} {k : Int} (h : KAt s j k) : j ≤ s.size := by
 rcases h with ⟨h, _⟩ | ⟨h, _⟩ <;> omega
theorem KAt.lt {s : ByteArray} {j : Nat} {k : Int} (h : KAt s j k) (hk : k ≠ 0) : j < s.size := by
 rcases h with ⟨_, h⟩ | ⟨h, _⟩
 ·exact absurd h hk
 ·exact h
set_option maxRecDepth 100000 in
theorem kindAt_at (s : ByteArray) (j : Nat) (k : Int) (w : World) (h : Hid (KAt s j k)) (HK : Hid (KL w)) : Calls Tryz.prog 204 #[.string s, .int .i64 (j : Int)] w fun e w' => e = .returned (.int .u8 k) ∧ w' = w := by
 rcases h.out with ⟨rfl, rfl⟩ | ⟨hj, hk⟩
 ·exact kindAt_end s w
 ·have hkI : ¬ ((s.size : Int) ≤ (j : Int)) := by omega
  have hk0 : (0 : Int) ≤ (j : Int) := by omega
  have hk1 : (j : Int) < (s.size : Int) := by omega
  have hc := HK.out s[j].toNat k hk
  have hb := (kd_lt hk).1
  clear hk
  go_enter Tryz.func204, Tryz.ntmps204
  go_wp2
  go_ret
  exact ⟨rfl, rfl⟩
set_option maxRecDepth 100000 in
set_option maxHeartbeats 1000000 in
theorem skip_at (s : ByteArray) (a p : Nat) (w : World) (hap : a ≤ p) (hps : p ≤ s.size) (hss : s.size ≤ 100000) (HBL : Hid (∀ j, a ≤ j → j < p → KAt s j 1)) (k : Int) (HE : Hid (KAt s p k)) (h1 : k ≠ 1) (h2 : k ≠ 2) (HK : Hid (KL w)) :
 Calls Tryz.prog 166 #[.string s, .int .i64 (a : Int)] w fun e w' => e = .returned (.int .i64 (p : Int)) ∧ w' = w := by
 go_enter Tryz.func166, Tryz.ntmps166
 go_wp2
 go_loopg [1] (p - a) (fun gk iv wr => ∃ j : Nat, a ≤ j ∧ j + gk = p ∧ iv = .int .i64 (j : Int) ∧ wr = w)
 case atStart => exact ⟨a, Nat.le_refl _, by omega, rfl, rfl⟩
 case round =>
  obtain ⟨j, hj, hjg, rfl, rfl⟩ := hrel
  have HJ := Lib.hid hj
  have HJG := Lib.hid hjg
  rcases Nat.lt_or_ge j s.size with hlt | hge
  ·have hltI : (j : Int) < (s.size : Int) := by omega
   rcases Nat.lt_or_ge j p with hlp | hgp
   ·have HKA := Lib.hid (HBL.out j hj hlp)
    clear hj hjg hlt
    go_wp2_with fail
    refine (kindAt_at s j 1 _ HKA HK).mono ?_
    rintro e w2 ⟨rfl, hw2⟩
    rw [hw2]
    clear hw2
    go_wp2
    go_roundg (p - (j + 1))
    case measure => have := HJG.out; omega
    case rel => exact ⟨j + 1, by have := HJ.out; omega, by have := HJG.out; omega, by go_num, rfl⟩
   ·obtain rfl : j = p := by omega
    clear hj hjg hlt
    have h1b : (k == 1) = false := by simpa using h1
    have h2b : (k == 2) = false := by simpa using h2
    clear h1 h2
    go_wp2_with fail
    refine (kindAt_at s j k _ HE HK).mono ?_
    rintro e w2 ⟨rfl, hw2⟩
    rw [hw2]
    clear hw2
    go_wp2
    go_ret
    exact ⟨rfl, rfl⟩
  ·obtain rfl : j = p := by omega
   obtain rfl : j = s.size := by omega
   clear hj hjg
   go_wp2
   go_ret
   exact ⟨rfl, rfl⟩
end Go.Proofs.YtlcalajehnaenaaGreatDoor
namespace Go.Proofs.YtlcalajehnaenaaGreatDoor
open Go.RowKit
def kq (j q : Nat) (k : Int) : Int := if j < q then 3 else k
theorem kq_lt {j q : Nat} {k : Int} (h : j < q) : kq j q k = 3 := if_pos h
theorem kq_ge {j q : Nat} {k : Int} (h : ¬ j < q) : kq j q k = k := if_neg h
set_option maxRecDepth 100000 in
set_option maxHeartbeats 4000000 in
theorem nextW_any (s : ByteArray) (p q : Nat) (txt : ByteArray) (k : Int) (w : World) (hpq : p < q) (hq : q ≤ 100000) (hl : q ≤ p + 16) (HW : Hid (∀ j, p ≤ j → j < q → KAt s j 3)) (HE : Hid (KAt s q k)) (hk3 : k ≠ 3) (hk4 : k ≠ 4) (hk5 : k ≠ 5) (HT : Hid (s.extract p q = txt)) (HK : Hid (KL w)) : Calls Tryz.prog 167 #[.string s, .int .i64 (p : Int)] w fun e w' => e = .returned (.tuple #[.agg #[.int .i64 0, .string txt, .int .i64 0, .int .i64 (p : Int)], .int .i64 0]) ∧ Below w.heap.size w w' := by
 have hk3b : (k == 3) = false := by simpa using hk3
 have hk4b : (k == 4) = false := by simpa using hk4
 have hk5b : (k == 5) = false := by simpa using hk5
 have hqs := HE.out.le
 have HKB := Lib.hid (show ∀ (j : Nat), p ≤ j → j ≤ q → KAt s j (kq j q k) from fun j h1 h2 => by
  rcases Nat.lt_or_ge j q with h | h
  ·rw [kq_lt h]; exact HW.out j h1 h
  ·obtain rfl : j = q := by omega
   rw [kq_ge (Nat.lt_irrefl _)]
   exact HE.out)
 have wp1 : IntKind.i64.wrap ((p : Int) + 1) = ((p + 1 : Nat) : Int) := by rw [IntWalk.i64_in _ (by omega)]; rfl
 have HWP := Lib.hid wp1
 clear hk3 hk4 hk5
 have HBA := Lib.hid (((Below.refl w.heap.size w).alloc (Nat.le_refl _) (.cells #[.int .i64 0, .string ⟨#[]⟩, .int .i64 0, .int .i64 0] 170)).alloc (by simp) (.cells #[.int .i64 0, .string ⟨#[]⟩, .int .i64 0, .int .i64 (p : Int)] 170))
 have k1 := Blk.alloc (Blk.new w 170 #[.int .i64 0, .string ⟨#[]⟩, .int .i64 0, .int .i64 0]) (.cells #[.int .i64 0, .string ⟨#[]⟩, .int .i64 0, .int .i64 (p : Int)] 170)
 have k2 := Blk.new0 (g := w.heap.size + 1) (w.alloc (.cells #[.int .i64 0, .string ⟨#[]⟩, .int .i64 0, .int .i64 0] 170)) 170 #[.int .i64 0, .string ⟨#[]⟩, .int .i64 0, .int .i64 (p : Int)] (by simp)
 go_enter Tryz.func167, Tryz.ntmps167
 go_wp2_with fail
 obtain ⟨w2, hw2⟩ : ∃ w2, (w.alloc (.cells #[.int .i64 0, .string ⟨#[]⟩, .int .i64 0, .int .i64 0] 170)).alloc (.cells #[.int .i64 0, .string ⟨#[]⟩, .int .i64 0, .int .i64 (p : Int)] 170) = w2 := ⟨_, rfl⟩
 obtain ⟨b, hb⟩ : ∃ b, w.heap.size = b := ⟨_, rfl⟩
 rw [hw2] at HBA k1 k2 ⊢
 rw [hb] at k1 k2 ⊢
 have HBW := Lib.hid hb
 have HK2 := Lib.hid (HK.out.all HBA.out)
 have q0 : w2.cell? ⟨b + 1, 0, none⟩ = some (.int .i64 0) := k2.cell 0
 have r0 := k2.frozen 0
 obtain ⟨w3, hw3⟩ : ∃ w3, w2.setCell ⟨b + 1, 0, none⟩ (.int .i64 0) = w3 := ⟨_, rfl⟩
 have j1 := k1.far (p := ⟨b + 1, 0, none⟩) (by show b ≠ b + 1; omega) (.int .i64 0)
 have j2 := k2.set_ 0 (.int .i64 0)
 simp only [List.setIfInBounds_toArray, List.set_cons_zero] at j2
 have hb3 : Below w.heap.size w w3 := by rw [← hw3]; exact HBA.out.setCell (p := ⟨b + 1, 0, none⟩) (by rw [hb]; exact Nat.le_succ _) _
 rw [hw3] at j1 j2
 have HB3 := Lib.hid hb3
 have HK3 := Lib.hid (HK.out.all hb3)
 have J1 := Lib.hid j1
 have J2 := Lib.hid j2
 clear hw2 hb k1 k2 j1 j2 hb3
 refine (kindAt_at s p 3 _ (Lib.hid (HW.out p (Nat.le_refl _) hpq)) HK2).mono ?_
 rintro e w4 ⟨rfl, hw4⟩
 rw [hw4]
 clear hw4
 go_wp2_with fail
 clear hw3 q0 r0
 try rw [wp1]
 refine (kindAt_at s (p + 1) _ _ (Lib.hid (HKB.out (p + 1) (by omega) (by omega))) HK3).mono ?_
 rintro e w4 ⟨rfl, hw4⟩
 rw [hw4]
 clear hw4 wp1
 go_wp2
 go_loopg [7, 8] (q - p) (fun gk v7 v8 wr => ∃ j : Nat, j + gk = q + 1 ∧ p + 1 ≤ j ∧ j ≤ q ∧ v7 = .int .i64 (j : Int) ∧ v8 = .int .u8 (kq j q k) ∧ wr = w3)
 case atStart => exact ⟨p + 1, by omega, by omega, by omega, rfl, rfl, rfl⟩
 case round =>
  obtain ⟨j, hj, hj1, hj2, rfl, rfl, rfl⟩ := hrel
  have HJJ := Lib.hid hj
  rcases Nat.lt_or_ge j q with hlt | hge
  ·rw [kq_lt hlt]
   have HKN := Lib.hid (HKB.out (j + 1) (by omega) (by omega))
   have HLT := Lib.hid hlt
   have HJ1 := Lib.hid hj1
   clear hj hlt hj1 hj2
   have ej : IntKind.i64.wrap ((j : Int) + 1) = ((j + 1 : Nat) : Int) := by rw [IntWalk.i64_in _ (by have := HLT.out; omega)]; rfl
   go_wp2_with fail
   refine (kindAt_at s (j + 1) _ _ HKN HK3).mono ?_
   rintro e w4 ⟨rfl, hw4⟩
   rw [hw4]
   clear hw4
   go_wp2
   go_roundg (q - j)
   case measure => have := HJJ.out; have := HLT.out; omega
   case rel => exact ⟨j + 1, by have := HJJ.out; have := HLT.out; omega, by have := HJ1.out; omega, HLT.out, by go_num, rfl, rfl⟩
  ·obtain rfl : j = q := by omega
   rw [kq_ge (Nat.lt_irrefl _)]
   have hsub : IntKind.i64.wrap ((j : Int) - (p : Int)) = ((j - p : Nat) : Int) := by rw [IntWalk.i64_in _ (by omega)]; omega
   have hI : ¬ ((16 : Int) < ((j - p : Nat) : Int)) := by omega
   have hlo : (0 : Int) ≤ (p : Int) := by omega
   have hmid : (p : Int) ≤ (j : Int) := by omega
   have hhi : (j : Int) ≤ (s.size : Int) := by omega
   clear hj HJJ HKB
   have p0 : wr.cell? ⟨b + 1, 0, none⟩ = some (.int .i64 0) := J2.out.cell 0
   have p1 : wr.cell? ⟨b + 1, 1, none⟩ = some (.string ⟨#[]⟩) := J2.out.cell 1
   have p2 : wr.cell? ⟨b + 1, 2, none⟩ = some (.int .i64 0) := J2.out.cell 2
   have p3 : wr.cell? ⟨b + 1, 3, none⟩ = some (.int .i64 (p : Int)) := J2.out.cell 3
   have f1 := J2.out.frozen 1
   obtain ⟨w5, hw5⟩ : ∃ w5, wr.setCell ⟨b + 1, 1, none⟩ (.string (s.extract p j)) = w5 := ⟨_, rfl⟩
   have j1 := J1.out.far (p := ⟨b + 1, 1, none⟩) (by show b ≠ b + 1; omega) (.string (s.extract p j))
   have j2 := J2.out.set_ 1 (.string (s.extract p j))
   simp only [List.setIfInBounds_toArray, List.set_cons_zero, List.set_cons_succ] at j2
   have hb5 : Below w.heap.size w w5 := by rw [← hw5]; exact HB3.out.setCell (p := ⟨b + 1, 1, none⟩) (by rw [HBW.out]; exact Nat.le_succ _) _
   rw [hw5] at j1 j2
   have t0 : w5.cell? ⟨b + 1, 0, none⟩ = some (.int .i64 0) := j2.cell 0
   have t1 : w5.cell? ⟨b + 1, 1, none⟩ = some (.string (s.extract p j)) := j2.cell 1
   have t2 : w5.cell? ⟨b + 1, 2, none⟩ = some (.int .i64 0) := j2.cell 2
   have t3 : w5.cell? ⟨b + 1, 3, none⟩ = some (.int .i64 (p : Int)) := j2.cell 3
   have u0 : w5.cell? ⟨b, 0, none⟩ = some (.int .i64 0) := j1.cell 0
   have u1 : w5.cell? ⟨b, 1, none⟩ = some (.string ⟨#[]⟩) := j1.cell 1
   have u2 : w5.cell? ⟨b, 2, none⟩ = some (.int .i64 0) := j1.cell 2
   have u3 : w5.cell? ⟨b, 3, none⟩ = some (.int .i64 0) := j1.cell 3
   have v0 := j1.frozen 0
   have v1 := j1.frozen 1
   have v2 := j1.frozen 2
   have v3 := j1.frozen 3
   have W1 := j1.set_ 0 (.int .i64 0)
   simp only [List.setIfInBounds_toArray, List.set_cons_zero] at W1
   have W2 := W1.set_ 1 (.string (s.extract p j))
   simp only [List.setIfInBounds_toArray, List.set_cons_zero, List.set_cons_succ] at W2
   have W3 := W2.set_ 2 (.int .i64 0)
   simp only [List.setIfInBounds_toArray, List.set_cons_zero, List.set_cons_succ] at W3
   have W4 := W3.set_ 3 (.int .i64 (p : Int))
   simp only [List.setIfInBounds_toArray, List.set_cons_zero, List.set_cons_succ] at W4
   obtain ⟨w6, hw6⟩ : ∃ w6, (((w5.setCell ⟨b, 0, none⟩ (.int .i64 0)).setCell ⟨b, 1, none⟩ (.string (s.extract p j))).setCell ⟨b, 2, none⟩ (.int .i64 0)).setCell ⟨b, 3, none⟩ (.int .i64 (p : Int)) = w6 := ⟨_, rfl⟩
   have hb6 : Below w.heap.size w w6 := by
    have hbb : w.heap.size ≤ b := Nat.le_of_eq HBW.out
    rw [← hw6]
    exact (((hb5.setCell (p := ⟨b, 0, none⟩) hbb _).setCell (p := ⟨b, 1, none⟩) hbb _).setCell (p := ⟨b, 2, none⟩) hbb _).setCell (p := ⟨b, 3, none⟩) hbb _
   rw [hw6] at W4
   have HW4 := Lib.hid W4
   have HB6 := Lib.hid hb6
   have HW6 := Lib.hid hw6
   clear j1 j2 hb5 W1 W2 W3 W4 hb6 hw6
   go_wp2
   have hw6 := HW6.out
   try rw [hw6]
   have j8 := HW4.out
   have p0 : w6.cell? ⟨b, 0, none⟩ = some (.int .i64 0) := j8.cell 0
   have p1 : w6.cell? ⟨b, 1, none⟩ = some (.string (s.extract p j)) := j8.cell 1
   have p2 : w6.cell? ⟨b, 2, none⟩ = some (.int .i64 0) := j8.cell 2
   have p3 : w6.cell? ⟨b, 3, none⟩ = some (.int .i64 (p : Int)) := j8.cell 3
   refine bodyPost_ret (v := .tuple #[.agg #[.int .i64 0, .string (s.extract p j), .int .i64 0, .int .i64 (p : Int)], .int .i64 0]) (by simp [results, Tryz.results167, go_sem, p0, p1, p2, p3]) rfl ⟨by rw [HT.out], HB6.out⟩
set_option maxRecDepth 100000 in
set_option maxHeartbeats 4000000 in
theorem nextS_any (s : ByteArray) (p : Nat) (txt : ByteArray) (w : World) (hq : p ≤ 100000) (HE : Hid (KAt s p 7)) (HT : Hid (s.extract p (p + 1) = txt)) (HK : Hid (KL w)) : Calls Tryz.prog 167 #[.string s, .int .i64 (p : Int)] w fun e w' => e = .returned (.tuple #[.agg #[.int .i64 2, .string txt, .int .i64 0, .int .i64 (p : Int)], .int .i64 0]) ∧ Below w.heap.size w w' := by
 have hps := HE.out.lt (by decide)
 have wp1 : IntKind.i64.wrap ((p : Int) + 1) = ((p + 1 : Nat) : Int) := by rw [IntWalk.i64_in _ (by omega)]; rfl
 have hlo : (0 : Int) ≤ (p : Int) := by omega
 have hmid : (p : Int) ≤ ((p + 1 : Nat) : Int) := by omega
 have hhi : ((p + 1 : Nat) : Int) ≤ (s.size : Int) := by omega
 have HBA := Lib.hid (((Below.refl w.heap.size w).alloc (Nat.le_refl _) (.cells #[.int .i64 0, .string ⟨#[]⟩, .int .i64 0, .int .i64 0] 170)).alloc (by simp) (.cells #[.int .i64 0, .string ⟨#[]⟩, .int .i64 0, .int .i64 (p : Int)] 170))
 have k1 := Blk.alloc (Blk.new w 170 #[.int .i64 0, .string ⟨#[]⟩, .int .i64 0, .int .i64 0]) (.cells #[.int .i64 0, .string ⟨#[]⟩, .int .i64 0, .int .i64 (p : Int)] 170)
 have k2 := Blk.new0 (g := w.heap.size + 1) (w.alloc (.cells #[.int .i64 0, .string ⟨#[]⟩, .int .i64 0, .int .i64 0] 170)) 170 #[.int .i64 0, .string ⟨#[]⟩, .int .i64 0, .int .i64 (p : Int)] (by simp)
 go_enter Tryz.func167, Tryz.ntmps167
 go_wp2_with fail
 obtain ⟨w2, hw2⟩ : ∃ w2, (w.alloc (.cells #[.int .i64 0, .string ⟨#[]⟩, .int .i64 0, .int .i64 0] 170)).alloc (.cells #[.int .i64 0, .string ⟨#[]⟩, .int .i64 0, .int .i64 (p : Int)] 170) = w2 := ⟨_, rfl⟩
 obtain ⟨b, hb⟩ : ∃ b, w.heap.size = b := ⟨_, rfl⟩
 rw [hw2] at HBA k1 k2 ⊢
 rw [hb] at k1 k2 ⊢
 have HBW := Lib.hid hb
 have HK2 := Lib.hid (HK.out.all HBA.out)
 have q0 : w2.cell? ⟨b + 1, 0, none⟩ = some (.int .i64 0) := k2.cell 0
 have r0 := k2.frozen 0
 obtain ⟨w3, hw3⟩ : ∃ w3, w2.setCell ⟨b + 1, 0, none⟩ (.int .i64 2) = w3 := ⟨_, rfl⟩
 have j1 := k1.far (p := ⟨b + 1, 0, none⟩) (by show b ≠ b + 1; omega) (.int .i64 2)
 have j2 := k2.set_ 0 (.int .i64 2)
 simp only [List.setIfInBounds_toArray, List.set_cons_zero] at j2
 have hb3 : Below w.heap.size w w3 := by rw [← hw3]; exact HBA.out.setCell (p := ⟨b + 1, 0, none⟩) (by rw [hb]; exact Nat.le_succ _) _
 rw [hw3] at j1 j2
 have HB3 := Lib.hid hb3
 have HK3 := Lib.hid (HK.out.all hb3)
 have J1 := Lib.hid j1
 have J2 := Lib.hid j2
 clear hw2 hb k1 k2 j1 j2 hb3
 refine (kindAt_at s p 7 _ HE HK2).mono ?_
 rintro e w4 ⟨rfl, hw4⟩
 rw [hw4]
 clear hw4
 have p0 : w3.cell? ⟨b + 1, 0, none⟩ = some (.int .i64 2) := J2.out.cell 0
 have p1 : w3.cell? ⟨b + 1, 1, none⟩ = some (.string ⟨#[]⟩) := J2.out.cell 1
 have p2 : w3.cell? ⟨b + 1, 2, none⟩ = some (.int .i64 0) := J2.out.cell 2
 have p3 : w3.cell? ⟨b + 1, 3, none⟩ = some (.int .i64 (p : Int)) := J2.out.cell 3
 have f1 := J2.out.frozen 1
 obtain ⟨w5, hw5⟩ : ∃ w5, w3.setCell ⟨b + 1, 1, none⟩ (.string (s.extract p (p + 1))) = w5 := ⟨_, rfl⟩
 have j1 := J1.out.far (p := ⟨b + 1, 1, none⟩) (by show b ≠ b + 1; omega) (.string (s.extract p (p + 1)))
 have j2 := J2.out.set_ 1 (.string (s.extract p (p + 1)))
 simp only [List.setIfInBounds_toArray, List.set_cons_zero, List.set_cons_succ] at j2
 have hb5 : Below w.heap.size w w5 := by rw [← hw5]; exact HB3.out.setCell (p := ⟨b + 1, 1, none⟩) (by rw [HBW.out]; exact Nat.le_succ _) _
 rw [hw5] at j1 j2
 have t0 : w5.cell? ⟨b + 1, 0, none⟩ = some (.int .i64 2) := j2.cell 0
 have t1 : w5.cell? ⟨b + 1, 1, none⟩ = some (.string (s.extract p (p + 1))) := j2.cell 1
 have t2 : w5.cell? ⟨b + 1, 2, none⟩ = some (.int .i64 0) := j2.cell 2
 have t3 : w5.cell? ⟨b + 1, 3, none⟩ = some (.int .i64 (p : Int)) := j2.cell 3
 have u0 : w5.cell? ⟨b, 0, none⟩ = some (.int .i64 0) := j1.cell 0
 have u1 : w5.cell? ⟨b, 1, none⟩ = some (.string ⟨#[]⟩) := j1.cell 1
 have u2 : w5.cell? ⟨b, 2, none⟩ = some (.int .i64 0) := j1.cell 2
 have u3 : w5.cell? ⟨b, 3, none⟩ = some (.int .i64 0) := j1.cell 3
 have v0 := j1.frozen 0
 have v1 := j1.frozen 1
 have v2 := j1.frozen 2
 have v3 := j1.frozen 3
 have W1 := j1.set_ 0 (.int .i64 2)
 simp only [List.setIfInBounds_toArray, List.set_cons_zero] at W1
 have W2 := W1.set_ 1 (.string (s.extract p (p + 1)))
 simp only [List.setIfInBounds_toArray, List.set_cons_zero, List.set_cons_succ] at W2
 have W3 := W2.set_ 2 (.int .i64 0)
 simp only [List.setIfInBounds_toArray, List.set_cons_zero, List.set_cons_succ] at W3
 have W4 := W3.set_ 3 (.int .i64 (p : Int))
 simp only [List.setIfInBounds_toArray, List.set_cons_zero, List.set_cons_succ] at W4
 obtain ⟨w6, hw6⟩ : ∃ w6, (((w5.setCell ⟨b, 0, none⟩ (.int .i64 2)).setCell ⟨b, 1, none⟩ (.string (s.extract p (p + 1)))).setCell ⟨b, 2, none⟩ (.int .i64 0)).setCell ⟨b, 3, none⟩ (.int .i64 (p : Int)) = w6 := ⟨_, rfl⟩
 have hb6 : Below w.heap.size w w6 := by
  have hbb : w.heap.size ≤ b := Nat.le_of_eq HBW.out
  rw [← hw6]
  exact (((hb5.setCell (p := ⟨b, 0, none⟩) hbb _).setCell (p := ⟨b, 1, none⟩) hbb _).setCell (p := ⟨b, 2, none⟩) hbb _).setCell (p := ⟨b, 3, none⟩) hbb _
 rw [hw6] at W4
 have HW4 := Lib.hid W4
 have HB6 := Lib.hid hb6
 have HW6 := Lib.hid hw6
 clear j1 j2 hb5 W1 W2 W3 W4 hb6 hw6
 go_wp2
 have hw6 := HW6.out
 try rw [hw6]
 have j8 := HW4.out
 have p0 : w6.cell? ⟨b, 0, none⟩ = some (.int .i64 2) := j8.cell 0
 have p1 : w6.cell? ⟨b, 1, none⟩ = some (.string (s.extract p (p + 1))) := j8.cell 1
 have p2 : w6.cell? ⟨b, 2, none⟩ = some (.int .i64 0) := j8.cell 2
 have p3 : w6.cell? ⟨b, 3, none⟩ = some (.int .i64 (p : Int)) := j8.cell 3
 refine bodyPost_ret (v := .tuple #[.agg #[.int .i64 2, .string (s.extract p (p + 1)), .int .i64 0, .int .i64 (p : Int)], .int .i64 0]) (by simp [results, Tryz.results167, go_sem, p0, p1, p2, p3]) rfl ⟨by rw [HT.out], HB6.out⟩
end Go.Proofs.YtlcalajehnaenaaGreatDoor
namespace Go.Proofs.YtlcalajehnaenaaGreatDoor
open Go.RowKit
def TkIs (w : World) (A : Option Addr) (n c : Nat) (ts : List Tk) : Prop := ts.length = n ∧ n ≤ c ∧ c ≤ 9223372036854775807 ∧ RowT w 170 A (ts.flatMap tkV)
section
variable {w w' : World} {A : Option Addr} {n c : Nat} {ts : List Tk} {F : Nat → Prop}
theorem TkIs.mod (h : TkIs w A n c ts) (m : Mod F w w') (hF : ∀ b, F b → ¬ Ty w b 170) : TkIs w' A n c ts := ⟨h.1, h.2.1, h.2.2.1, h.2.2.2.mod m hF⟩
theorem TkIs.all (h : TkIs w A n c ts) (hb : Below w.heap.size w w') : TkIs w' A n c ts := h.mod (F := fun _ => False) (Mod.of_below _ hb) (fun _ hf => hf.elim)
theorem TkIs.head {t : Tk} (h : TkIs w A n c (t :: ts)) : ∃ b off, A = some ⟨b, off, none⟩ ∧ b < w.heap.size ∧ Ty w b 170 ∧ w.cell? ⟨b, off, none⟩ = some (.int .i64 t.kind) ∧ w.cell? ⟨b, off + 1, none⟩ = some (.string t.text) ∧ w.cell? ⟨b, off + 2, none⟩ = some (.int .i64 t.n) ∧ w.cell? ⟨b, off + 3, none⟩ = some (.int .i64 t.at_) := by
 obtain ⟨b, off, e, h1, h2, hc⟩ := h.2.2.2.cells (by rw [flatT_length tkV 4 tkV_len]; simp)
 have hl : ((t :: ts).flatMap tkV).length = (t :: ts).length * 4 := flatT_length tkV 4 tkV_len _
 rw [List.length_cons] at hl
 refine ⟨b, off, e, h1, h2, ?_, ?_, ?_, ?_⟩
 ·exact hc 0 (by omega)
 ·exact hc 1 (by omega)
 ·exact hc 2 (by omega)
 ·exact hc 3 (by omega)
theorem TkIs.tail {t : Tk} {b off : Nat} (h : TkIs w (some ⟨b, off, none⟩) n c (t :: ts)) : (c ≠ 1 → TkIs w (some ⟨b, off + 4, none⟩) (n - 1) (c - 1) ts) ∧ (c = 1 → ts = [] ∧ n = 1) := by
 obtain ⟨h1, h2, h3, h4⟩ := h
 rw [List.length_cons] at h1
 refine ⟨fun hc => ⟨by omega, by omega, by omega, fun hn => ?_⟩, fun hc => ⟨List.eq_nil_of_length_eq_zero (by omega), by omega⟩⟩
 have hl : ((t :: ts).flatMap tkV).length = (t :: ts).length * 4 := flatT_length tkV 4 tkV_len _
 have hl2 : (ts.flatMap tkV).length = ts.length * 4 := flatT_length tkV 4 tkV_len _
 rw [List.length_cons] at hl
 obtain ⟨b2, o2, e2, h5⟩ := h4.drop 4 (by omega)
 injection e2 with e2
 injection e2 with e3 e4
 subst e3 e4
 have e5 : ((t :: ts).flatMap tkV).drop 4 = ts.flatMap tkV := by rw [List.flatMap_cons]; rfl
 rw [e5] at h5
 exact h5 hn
end
def rdC (A : Option Addr) (n c : Nat) (e : Int) (D : List Value) : Array Value := (Value.slice A n c :: .int .i64 e :: D).toArray
set_option maxRecDepth 100000 in
theorem is_kind (r : Nat) (A : Option Addr) (n c : Nat) (e : Int) (D : List Value) (t : Tk) (ts : List Tk) (k : Int) (s : ByteArray) (w : World) (HB : Hid (Blk w r 126 (rdC A n c e D))) (HT : Hid (TkIs w A n c (t :: ts))) (hk : t.kind ≠ k) :
 Calls Tryz.prog 85 #[.pointer (some ⟨r, 0, none⟩), .int .i64 k, .string s] w fun e w' => e = .returned (.bool false) ∧ w' = w := by
 have c0 : w.cell? ⟨r, 0, none⟩ = some (.slice A n c) := HB.out.cell 0
 obtain ⟨b, off, rfl, -, -, t0, t1, t2, t3⟩ := HT.out.head
 have hn := HT.out.1
 rw [List.length_cons] at hn
 have hn0 : (0 : Int) < (n : Int) := by omega
 have hkb : (t.kind == k) = false := by simpa using hk
 clear hn hk
 go_enter Tryz.func85, Tryz.ntmps85
 go_wp2
 go_ret
 exact ⟨rfl, rfl⟩
set_option maxRecDepth 100000 in
theorem is_empty (r : Nat) (A : Option Addr) (n c : Nat) (e : Int) (D : List Value) (t : Tk) (ts : List Tk) (k : Int) (w : World) (HB : Hid (Blk w r 126 (rdC A n c e D))) (HT : Hid (TkIs w A n c (t :: ts))) (hk : t.kind = k) :
 Calls Tryz.prog 85 #[.pointer (some ⟨r, 0, none⟩), .int .i64 k, .string ⟨#[]⟩] w fun e w' => e = .returned (.bool true) ∧ w' = w := by
 have c0 : w.cell? ⟨r, 0, none⟩ = some (.slice A n c) := HB.out.cell 0
 obtain ⟨b, off, rfl, -, -, t0, t1, t2, t3⟩ := HT.out.head
 have hn := HT.out.1
 rw [List.length_cons] at hn
 have hn0 : (0 : Int) < (n : Int) := by omega
 rw [hk] at t0
 clear hn hk
 go_enter Tryz.func85, Tryz.ntmps85
 go_wp2
 go_ret
 exact ⟨rfl, rfl⟩
set_option maxRecDepth 100000 in
theorem is_text (r : Nat) (A : Option Addr) (n c : Nat) (e : Int) (D : List Value) (t : Tk) (ts : List Tk) (k : Int) (s : ByteArray) (w : World) (HB : Hid (Blk w r 126 (rdC A n c e D))) (HT : Hid (TkIs w A n c (t :: ts))) (hk : t.kind = k) (hs : s.toList.isEmpty = false) (ht : t.text = s) :
 Calls Tryz.prog 85 #[.pointer (some ⟨r, 0, none⟩), .int .i64 k, .string s] w fun e w' => e = .returned (.bool true) ∧ w' = w := by
 have c0 : w.cell? ⟨r, 0, none⟩ = some (.slice A n c) := HB.out.cell 0
 obtain ⟨b, off, rfl, -, -, t0, t1, t2, t3⟩ := HT.out.head
 have hn := HT.out.1
 rw [List.length_cons] at hn
 have hn0 : (0 : Int) < (n : Int) := by omega
 rw [hk] at t0
 rw [ht] at t1
 clear hn hk ht
 go_enter Tryz.func85, Tryz.ntmps85
 go_wp2
 go_ret
 exact ⟨rfl, rfl⟩
end Go.Proofs.YtlcalajehnaenaaGreatDoor
namespace Go.Proofs.YtlcalajehnaenaaGreatDoor
open Go.RowKit
def NeedTo (r : Nat) (n : Nat) (e : Int) (D : List Value) (ts : List Tk) (w w' : World) : Prop := ∃ A' c', Blk w' r 126 (rdC A' (n - 1) c' e D) ∧ TkIs w' A' (n - 1) c' ts ∧ Mod (fun x => x = r) w w'
set_option maxRecDepth 100000 in
set_option maxHeartbeats 4000000 in
theorem need_any (r : Nat) (A : Option Addr) (n c : Nat) (e : Int) (D : List Value) (t : Tk) (ts : List Tk) (k : Int) (s : ByteArray) (w : World) (HB : Hid (Blk w r 126 (rdC A n c e D))) (HT : Hid (TkIs w A n c (t :: ts)))
 (HIS : Hid (∀ W, Blk W r 126 (rdC A n c e D) → TkIs W A n c (t :: ts) → Calls Tryz.prog 85 #[.pointer (some ⟨r, 0, none⟩), .int .i64 k, .string s] W fun e w' => e = .returned (.bool true) ∧ w' = W)) :
 Calls Tryz.prog 87 #[.pointer (some ⟨r, 0, none⟩), .int .i64 k, .string s] w fun x w' => x = .returned (tkA t) ∧ NeedTo r n e D ts w w' := by
 obtain ⟨b, off, rfl, hbl, hbt, -, -, -, -⟩ := HT.out.head
 have hbr : b ≠ r := fun e => by subst e; exact absurd (hbt.unique HB.out.ty) (by decide)
 have hrl := HB.out.lt
 have h1 := ((Below.refl w.heap.size w).alloc (Nat.le_refl _) (.cells #[.int .i64 0, .string ⟨#[]⟩, .int .i64 0, .int .i64 0] 170))
 have k1 := Blk.new w 170 #[.int .i64 0, .string ⟨#[]⟩, .int .i64 0, .int .i64 0]
 go_enter Tryz.func87, Tryz.ntmps87
 go_wp2_with fail
 obtain ⟨w1, hw1⟩ : ∃ w1, w.alloc (.cells #[.int .i64 0, .string ⟨#[]⟩, .int .i64 0, .int .i64 0] 170) = w1 := ⟨_, rfl⟩
 rw [hw1] at h1 k1 ⊢
 have k3 := HB.out.all h1
 have ht := HT.out.all h1
 refine (HIS.out w1 k3 ht).mono ?_
 rintro e1 w4 ⟨rfl, hw4⟩
 rw [hw4]
 clear hw4
 obtain ⟨b', off', e', -, -, t0, t1, t2, t3⟩ := ht.head
 injection e' with e'
 injection e' with e1 e2
 subst e1 e2
 have c0 : w1.cell? ⟨r, 0, none⟩ = some (.slice (some ⟨b, off, none⟩) n c) := k3.cell 0
 have hn := HT.out.1
 have hcm := HT.out.2.2.1
 have hnc := HT.out.2.1
 rw [List.length_cons] at hn
 have hn1 : (1 : Int) ≤ (n : Int) := by omega
 have hn0 : (0 : Int) < (n : Int) := by omega
 obtain ⟨b0, hb0⟩ : ∃ b0, w.heap.size = b0 := ⟨_, rfl⟩
 have hsz1 : w1.heap.size = b0 + 1 := by rw [← hw1, ← hb0]; simp
 rw [hb0] at k1
 have h2 := (Below.refl w1.heap.size w1).alloc (Nat.le_refl _) (.cells #[.int .i64 t.kind, .string t.text, .int .i64 t.n, .int .i64 t.at_] 170)
 have k2 := Blk.new w1 170 #[.int .i64 t.kind, .string t.text, .int .i64 t.n, .int .i64 t.at_]
 obtain ⟨w2, hw2⟩ : ∃ w2, w1.alloc (.cells #[.int .i64 t.kind, .string t.text, .int .i64 t.n, .int .i64 t.at_] 170) = w2 := ⟨_, rfl⟩
 rw [hw2] at h2 k2
 rw [hsz1] at k2
 have k1 := k1.all h2
 have k3 := k3.all h2
 have c2 : w2.cell? ⟨r, 0, none⟩ = some (.slice (some ⟨b, off, none⟩) n c) := k3.cell 0
 have f2 := k3.frozen 0
 have HB2 := Lib.hid (h1.trans (h2.mono h1.size))
 have HFIN : Hid (∀ W A' c', Blk W r 126 (rdC A' (n - 1) c' e D) → TkIs w A' (n - 1) c' ts → Mod (fun x => x = r) w W → NeedTo r n e D ts w W) := Lib.hid (fun W A' c' a1 a2 a3 => ⟨A', c', a1, a2.mod a3 (fun x hx hy => by subst hx; exact absurd (hy.unique HB.out.ty) (by decide)), a3⟩)
 have hrl0 : r < b0 := by omega
 obtain ⟨tl1, tl2⟩ := HT.out.tail
 clear h1 h2 hw1 ht hcm hbl hbt hbr hrl
 rcases Nat.eq_or_lt_of_le (show 1 ≤ c by omega) with hc1 | hc1
 ·obtain rfl : c = 1 := hc1.symm
  obtain ⟨rfl, hn1'⟩ := tl2 rfl
  have HTL : Hid (TkIs w (some ⟨b, off, none⟩) (n - 1) 0 []) := Lib.hid ⟨by rw [hn1']; rfl, by omega, by decide, RowT.nil _ _ _⟩
  clear tl1 tl2 hn
  subst hn1'
  clear hn1 hn0 hnc
  obtain ⟨w3, hw3⟩ : ∃ w3, w2.setCell ⟨r, 0, none⟩ (.slice (some ⟨b, off, none⟩) 0 0) = w3 := ⟨_, rfl⟩
  have j1 := k1.far (p := ⟨r, 0, none⟩) (by show b0 ≠ r; omega) (.slice (some ⟨b, off, none⟩) 0 0)
  have j2 := k2.far (p := ⟨r, 0, none⟩) (by show b0 + 1 ≠ r; omega) (.slice (some ⟨b, off, none⟩) 0 0)
  have j3 := k3.set_ 0 (.slice (some ⟨b, off, none⟩) 0 0)
  have hm3 : Mod (fun x => x = r) w w3 := by rw [← hw3]; exact ((Mod.of_below (fun x => x = r) HB2.out).set (p := ⟨r, 0, none⟩) (.inl rfl) _)
  rw [hw3] at j1 j2 j3
  have p0 : w3.cell? ⟨b0 + 1, 0, none⟩ = some (.int .i64 t.kind) := j2.cell 0
  have p1 : w3.cell? ⟨b0 + 1, 1, none⟩ = some (.string t.text) := j2.cell 1
  have p2 : w3.cell? ⟨b0 + 1, 2, none⟩ = some (.int .i64 t.n) := j2.cell 2
  have p3 : w3.cell? ⟨b0 + 1, 3, none⟩ = some (.int .i64 t.at_) := j2.cell 3
  have u0 : w3.cell? ⟨b0, 0, none⟩ = some (.int .i64 0) := j1.cell 0
  have u1 : w3.cell? ⟨b0, 1, none⟩ = some (.string ⟨#[]⟩) := j1.cell 1
  have u2 : w3.cell? ⟨b0, 2, none⟩ = some (.int .i64 0) := j1.cell 2
  have u3 : w3.cell? ⟨b0, 3, none⟩ = some (.int .i64 0) := j1.cell 3
  have v0 := j1.frozen 0
  have v1 := j1.frozen 1
  have v2 := j1.frozen 2
  have v3 := j1.frozen 3
  have W1 := j1.set_ 0 (.int .i64 t.kind)
  simp only [List.setIfInBounds_toArray, List.set_cons_zero] at W1
  have W2 := W1.set_ 1 (.string t.text)
  simp only [List.setIfInBounds_toArray, List.set_cons_zero, List.set_cons_succ] at W2
  have W3 := W2.set_ 2 (.int .i64 t.n)
  simp only [List.setIfInBounds_toArray, List.set_cons_zero, List.set_cons_succ] at W3
  have W4 := W3.set_ 3 (.int .i64 t.at_)
  simp only [List.setIfInBounds_toArray, List.set_cons_zero, List.set_cons_succ] at W4
  have R1 := j3.far (p := ⟨b0, 0, none⟩) (by show r ≠ b0; omega) (.int .i64 t.kind)
  have R2 := R1.far (p := ⟨b0, 1, none⟩) (by show r ≠ b0; omega) (.string t.text)
  have R3 := R2.far (p := ⟨b0, 2, none⟩) (by show r ≠ b0; omega) (.int .i64 t.n)
  have R4 := R3.far (p := ⟨b0, 3, none⟩) (by show r ≠ b0; omega) (.int .i64 t.at_)
  have M4 := (((hm3.set (p := ⟨b0, 0, none⟩) (.inr (by show w.heap.size ≤ b0; omega)) (.int .i64 t.kind)).set (p := ⟨b0, 1, none⟩) (.inr (by show w.heap.size ≤ b0; omega)) (.string t.text)).set (p := ⟨b0, 2, none⟩) (.inr (by show w.heap.size ≤ b0; omega)) (.int .i64 t.n)).set (p := ⟨b0, 3, none⟩) (.inr (by show w.heap.size ≤ b0; omega)) (.int .i64 t.at_)
  obtain ⟨w6, hw6⟩ : ∃ w6, (((w3.setCell ⟨b0, 0, none⟩ (.int .i64 t.kind)).setCell ⟨b0, 1, none⟩ (.string t.text)).setCell ⟨b0, 2, none⟩ (.int .i64 t.n)).setCell ⟨b0, 3, none⟩ (.int .i64 t.at_) = w6 := ⟨_, rfl⟩
  rw [hw6] at W4 R4 M4
  have HW4 := Lib.hid W4
  have HR4 := Lib.hid R4
  have HM4 := Lib.hid M4
  have HW6 := Lib.hid hw6
  have HW3 := Lib.hid hw3
  clear j1 j2 j3 hm3 W1 W2 W3 W4 R1 R2 R3 R4 M4 hw6 k1 k2 k3
  go_wp2
  try rw [HW6.out]
  have j8 := HW4.out
  have p0 : w6.cell? ⟨b0, 0, none⟩ = some (.int .i64 t.kind) := j8.cell 0
  have p1 : w6.cell? ⟨b0, 1, none⟩ = some (.string t.text) := j8.cell 1
  have p2 : w6.cell? ⟨b0, 2, none⟩ = some (.int .i64 t.n) := j8.cell 2
  have p3 : w6.cell? ⟨b0, 3, none⟩ = some (.int .i64 t.at_) := j8.cell 3
  refine bodyPost_ret (v := tkA t) (by simp [results, Tryz.results87, go_sem, p0, p1, p2, p3, tkA]) rfl ⟨rfl, HFIN.out _ _ _ HR4.out HTL.out HM4.out⟩
 ·have hc1b : (c == 1) = false := by simp; omega
  have hc1n : ¬ (c = 1) := by omega
  have hc1i : ¬ ((c : Int) = 1) := by omega
  have HTL : Hid (TkIs w (some ⟨b, off + 4, none⟩) (n - 1) (c - 1) ts) := Lib.hid (tl1 hc1n)
  clear tl1 tl2 hn
  obtain ⟨w3, hw3⟩ : ∃ w3, w2.setCell ⟨r, 0, none⟩ (.slice (some ⟨b, off + 4, none⟩) (n - 1) (c - 1)) = w3 := ⟨_, rfl⟩
  have j1 := k1.far (p := ⟨r, 0, none⟩) (by show b0 ≠ r; omega) (.slice (some ⟨b, off + 4, none⟩) (n - 1) (c - 1))
  have j2 := k2.far (p := ⟨r, 0, none⟩) (by show b0 + 1 ≠ r; omega) (.slice (some ⟨b, off + 4, none⟩) (n - 1) (c - 1))
  have j3 := k3.set_ 0 (.slice (some ⟨b, off + 4, none⟩) (n - 1) (c - 1))
  have hm3 : Mod (fun x => x = r) w w3 := by rw [← hw3]; exact ((Mod.of_below (fun x => x = r) HB2.out).set (p := ⟨r, 0, none⟩) (.inl rfl) _)
  rw [hw3] at j1 j2 j3
  have p0 : w3.cell? ⟨b0 + 1, 0, none⟩ = some (.int .i64 t.kind) := j2.cell 0
  have p1 : w3.cell? ⟨b0 + 1, 1, none⟩ = some (.string t.text) := j2.cell 1
  have p2 : w3.cell? ⟨b0 + 1, 2, none⟩ = some (.int .i64 t.n) := j2.cell 2
  have p3 : w3.cell? ⟨b0 + 1, 3, none⟩ = some (.int .i64 t.at_) := j2.cell 3
  have u0 : w3.cell? ⟨b0, 0, none⟩ = some (.int .i64 0) := j1.cell 0
  have u1 : w3.cell? ⟨b0, 1, none⟩ = some (.string ⟨#[]⟩) := j1.cell 1
  have u2 : w3.cell? ⟨b0, 2, none⟩ = some (.int .i64 0) := j1.cell 2
  have u3 : w3.cell? ⟨b0, 3, none⟩ = some (.int .i64 0) := j1.cell 3
  have v0 := j1.frozen 0
  have v1 := j1.frozen 1
  have v2 := j1.frozen 2
  have v3 := j1.frozen 3
  have W1 := j1.set_ 0 (.int .i64 t.kind)
  simp only [List.setIfInBounds_toArray, List.set_cons_zero] at W1
  have W2 := W1.set_ 1 (.string t.text)
  simp only [List.setIfInBounds_toArray, List.set_cons_zero, List.set_cons_succ] at W2
  have W3 := W2.set_ 2 (.int .i64 t.n)
  simp only [List.setIfInBounds_toArray, List.set_cons_zero, List.set_cons_succ] at W3
  have W4 := W3.set_ 3 (.int .i64 t.at_)
  simp only [List.setIfInBounds_toArray, List.set_cons_zero, List.set_cons_succ] at W4
  have R1 := j3.far (p := ⟨b0, 0, none⟩) (by show r ≠ b0; omega) (.int .i64 t.kind)
  have R2 := R1.far (p := ⟨b0, 1, none⟩) (by show r ≠ b0; omega) (.string t.text)
  have R3 := R2.far (p := ⟨b0, 2, none⟩) (by show r ≠ b0; omega) (.int .i64 t.n)
  have R4 := R3.far (p := ⟨b0, 3, none⟩) (by show r ≠ b0; omega) (.int .i64 t.at_)
  have M4 := (((hm3.set (p := ⟨b0, 0, none⟩) (.inr (by show w.heap.size ≤ b0; omega)) (.int .i64 t.kind)).set (p := ⟨b0, 1, none⟩) (.inr (by show w.heap.size ≤ b0; omega)) (.string t.text)).set (p := ⟨b0, 2, none⟩) (.inr (by show w.heap.size ≤ b0; omega)) (.int .i64 t.n)).set (p := ⟨b0, 3, none⟩) (.inr (by show w.heap.size ≤ b0; omega)) (.int .i64 t.at_)
  obtain ⟨w6, hw6⟩ : ∃ w6, (((w3.setCell ⟨b0, 0, none⟩ (.int .i64 t.kind)).setCell ⟨b0, 1, none⟩ (.string t.text)).setCell ⟨b0, 2, none⟩ (.int .i64 t.n)).setCell ⟨b0, 3, none⟩ (.int .i64 t.at_) = w6 := ⟨_, rfl⟩
  rw [hw6] at W4 R4 M4
  have HW4 := Lib.hid W4
  have HR4 := Lib.hid R4
  have HM4 := Lib.hid M4
  have HW6 := Lib.hid hw6
  have HW3 := Lib.hid hw3
  clear j1 j2 j3 hm3 W1 W2 W3 W4 R1 R2 R3 R4 M4 hw6 k1 k2 k3
  go_wp2
  try rw [HW6.out]
  have j8 := HW4.out
  have p0 : w6.cell? ⟨b0, 0, none⟩ = some (.int .i64 t.kind) := j8.cell 0
  have p1 : w6.cell? ⟨b0, 1, none⟩ = some (.string t.text) := j8.cell 1
  have p2 : w6.cell? ⟨b0, 2, none⟩ = some (.int .i64 t.n) := j8.cell 2
  have p3 : w6.cell? ⟨b0, 3, none⟩ = some (.int .i64 t.at_) := j8.cell 3
  refine bodyPost_ret (v := tkA t) (by simp [results, Tryz.results87, go_sem, p0, p1, p2, p3, tkA]) rfl ⟨rfl, HFIN.out _ _ _ HR4.out HTL.out HM4.out⟩
end Go.Proofs.YtlcalajehnaenaaGreatDoor
namespace Go.Proofs.YtlcalajehnaenaaGreatDoor
open Go.RowKit
def putN (w : World) (g : Nat) : Nat → List Value → World
 | _, [] => w
 | off, v :: vs => putN (w.setCell ⟨g, off, none⟩ v) g (off + 1) vs
theorem Blk.putN {g : Nat} {t : TypeId} : ∀ (vs : List Value) {w : World} {off : Nat} {cs : List Value}, Blk w g t cs.toArray → off + vs.length ≤ cs.length → Blk (Go.Proofs.YtlcalajehnaenaaGreatDoor.putN w g off vs) g t (cs.take off ++ (vs ++ cs.drop (off + vs.length))).toArray
 | [], w, off, cs, h, hl => by
   have e : cs.take off ++ ([] ++ cs.drop (off + ([] : List Value).length)) = cs := by simp
   rw [e]
   exact h
 | v :: vs, w, off, cs, h, hl => by
   rw [List.length_cons] at hl
   have h1 := h.set_ off v
   rw [List.setIfInBounds_toArray] at h1
   have h2 := Blk.putN vs (off := off + 1) h1 (by rw [List.length_set]; omega)
   have e : (cs.set off v).take (off + 1) ++ (vs ++ (cs.set off v).drop (off + 1 + vs.length)) = cs.take off ++ (v :: vs ++ cs.drop (off + (v :: vs).length)) := by
    have hd : (cs.set off v).drop (off + 1 + vs.length) = cs.drop (off + 1 + vs.length) := List.drop_set_of_lt (by omega)
    rw [hd, List.take_add_one, List.length_cons, List.take_set_of_le (Nat.le_refl _)]
    simp only [List.getElem?_set_self (show off < cs.length by omega), Option.toList_some, List.append_assoc, List.cons_append, List.nil_append]
    rw [show off + 1 + vs.length = off + (vs.length + 1) by omega]
   rw [e] at h2
   exact h2
theorem Mod.putN {F : Nat → Prop} {w : World} {g : Nat} (hg : F g ∨ w.heap.size ≤ g) : ∀ (vs : List Value) {w' : World} {off : Nat}, Mod F w w' → Mod F w (Go.Proofs.YtlcalajehnaenaaGreatDoor.putN w' g off vs)
 | [], _, _, m => m
 | v :: vs, _, off, m => Mod.putN hg vs (m.set (p := ⟨g, off, none⟩) hg v)
def declV (nm : ByteArray) (co : Bool) (at_ : Int) : List Value := [.int .i64 0, .string nm, .int .i64 at_, .bool false, .bool false, .bool co, .int .i64 0, .int .i64 0, .int .i64 0, .int .i64 0, .int .i64 0, .int .i64 0, .slice none 0 0, .slice none 0 0, .slice none 0 0, .slice none 0 0, .slice none 0 0]
def itemS : ByteArray := ⟨#[105, 116, 101, 109]⟩
def coinS : ByteArray := ⟨#[99, 111, 105, 110]⟩
def semiS : ByteArray := ⟨#[59]⟩
set_option maxRecDepth 100000 in
theorem kind_item (r : Nat) (A : Option Addr) (n c : Nat) (e : Int) (D : List Value) (t : Tk) (ts : List Tk) (w : World) (HB : Hid (Blk w r 126 (rdC A n c e D))) (HT : Hid (TkIs w A n c (t :: ts))) (hk : t.kind = 0) (ht : t.text = itemS) :
 Calls Tryz.prog 89 #[.pointer (some ⟨r, 0, none⟩)] w fun x w' => x = .returned (.int .i64 0) ∧ w' = w := by
 have hix : (Instr.index 249 (.agg #[.string itemS, .string ⟨#[114, 117, 108, 101]⟩, .string ⟨#[115, 112, 97, 119, 110]⟩, .string ⟨#[108, 111, 111, 116]⟩, .string ⟨#[116, 97, 120]⟩]) (.int .i64 0)).run Tryz.prog w = .ok (.string itemS) w := by kernel_rfl
 unfold itemS at hix
 go_enter Tryz.func89, Tryz.ntmps89
 go_wp2
 go_loopg [3, 4, 6] 0 (fun gk v3 v4 v6 wr => v6 = .int .i64 0 ∧ wr = w)
 case atStart => exact ⟨rfl, rfl⟩
 case round =>
  obtain ⟨rfl, rfl⟩ := hrel
  go_wp2_with fail
  refine (is_text r A n c e D t ts 0 itemS wr HB HT hk (by kernel_rfl) ht).mono ?_
  rintro e w2 ⟨rfl, hw2⟩
  rw [hw2]
  clear hw2
  go_wp2
  go_ret
  exact ⟨rfl, rfl⟩
set_option maxRecDepth 100000 in
theorem coin_any (r : Nat) (A : Option Addr) (n c : Nat) (e : Int) (nm : ByteArray) (at_ : Int) (w : World) (HB : Hid (Blk w r 126 (rdC A n c e (declV nm false at_)))) :
 Calls Tryz.prog 42 #[.pointer (some ⟨r, 0, none⟩)] w fun x w' => x = .returned (.tuple #[]) ∧ Blk w' r 126 (rdC A n c e (declV nm true at_)) ∧ Mod (fun b => b = r) w w' := by
 have c7 : w.cell? ⟨r, 7, none⟩ = some (.bool false) := HB.out.cell 7
 have f7 := HB.out.frozen 7
 have hbs := HB.out.set_ 7 (.bool true)
 have hm := (Mod.refl (fun b => b = r) w).set (p := ⟨r, 7, none⟩) (.inl rfl) (.bool true)
 obtain ⟨w2, hw2⟩ : ∃ w2, w.setCell ⟨r, 7, none⟩ (.bool true) = w2 := ⟨_, rfl⟩
 rw [hw2] at hbs hm
 have HBS := Lib.hid hbs
 have HM := Lib.hid hm
 clear hbs hm
 go_enter Tryz.func42, Tryz.ntmps42
 go_wp2
 go_end0
 exact ⟨rfl, HBS.out, HM.out⟩
theorem infoFn : ∃ i z, Tryz.prog.info? 1 = some i ∧ i.zero = some z := by
 have h : ((Tryz.prog.info? 1).bind (fun i => i.zero)).isSome = true := by kernel_rfl
 obtain ⟨z, hz⟩ := Option.isSome_iff_exists.1 h
 obtain ⟨i, hi, hz⟩ := Option.bind_eq_some_iff.1 hz
 exact ⟨i, z, hi, hz⟩
set_option maxRecDepth 100000 in
theorem options_none (r : Nat) (A : Option Addr) (n c mk : Nat) (e : Int) (D : List Value) (t : Tk) (ts : List Tk) (w : World) (HB : Hid (Blk w r 126 (rdC A n c e D))) (HT : Hid (TkIs w A n c (t :: ts))) (hk : t.kind ≠ 0) :
 Calls Tryz.prog 90 #[.pointer (some ⟨r, 0, none⟩), .map (some mk)] w fun x w' => x = .returned (.tuple #[]) ∧ Below w.heap.size w w' := by
 have hba := (Below.refl w.heap.size w).alloc (Nat.le_refl _) (.map #[] 0)
 have HBA := Lib.hid hba
 clear hba
 have hmm : (Instr.makeMap 250 none).run Tryz.prog w = .ok (.map (some w.heap.size)) (w.alloc (.map #[] 0)) := rfl
 go_enter Tryz.func90, Tryz.ntmps90
 go_wp2
 clear hmm
 go_loopg [5, 6, 7] 0 (fun gk v5 v6 v7 wr => wr = w.alloc (.map #[] 0))
 case atStart => rfl
 case round =>
  obtain rfl := hrel
  go_wp2_with fail
  refine (is_kind r A n c e D t ts 0 ⟨#[]⟩ _ (Lib.hid (HB.out.all HBA.out)) (Lib.hid (HT.out.all HBA.out)) hk).mono ?_
  rintro e w2 ⟨rfl, hw2⟩
  rw [hw2]
  clear hw2
  go_wp2
  go_end0
  exact ⟨rfl, HBA.out⟩
end Go.Proofs.YtlcalajehnaenaaGreatDoor
