/- package parser: declaration, at an item. -/
import Derived.Test.YtlcalajehnaenaaGreatDoorHLdPaE
import Derived.Test.YtlcalajehnaenaaGreatDoorHG12
import Derived.Defers
import Derived.Recover
namespace Go.Proofs.YtlcalajehnaenaaGreatDoor
open Go.RowKit
def coT (co : Bool) (tC : Tk) : List Tk := if co = true then [tC] else []
def DeclTo (r n' : Nat) (e : Int) (nm : ByteArray) (co : Bool) (at_ : Int) (ts : List Tk) (w w' : World) : Prop := ∃ A' c', Blk w' r 126 (rdC A' n' c' e (declV nm co at_)) ∧ TkIs w' A' n' c' ts ∧ Mod (fun x => x = r) w w'
set_option maxRecDepth 100000 in
set_option maxHeartbeats 4000000 in
theorem declaration_any (r : Nat) (A : Option Addr) (n c mk mp : Nat) (e : Int) (nm0 : ByteArray) (co0 : Bool) (at0 : Int) (co : Bool) (tI tN tC tS : Tk) (ts : List Tk) (es : List (SK × Value)) (w : World) (HB : Hid (Blk w r 126 (rdC A n c e (declV nm0 co0 at0)))) (HT : Hid (TkIs w A n c (tI :: tN :: (coT co tC ++ tS :: ts))))
 (hI : tI.kind = 0) (hIt : tI.text = itemS) (hN : tN.kind = 0) (hC : tC.kind = 0) (hCt : tC.text = coinS) (hS : tS.kind = 2) (hSt : tS.text = semiS)
 (HM : Hid (GMap sEnc w mk es)) (HC : Hid (glk es (nmK coinS) = some (.func (.func 42) #[.pointer (some ⟨r, 0, none⟩)] #[]))) :
 Calls Tryz.prog 51 #[.pointer (some ⟨r, 0, none⟩), .map (some mk), .map (some mp)] w fun x w' => x = .returned (.tuple #[]) ∧ DeclTo r ts.length e tN.text co tN.at_ ts w w' := by
 have hmr : mk ≠ r := fun e => by
  subst e
  exact HM.out.not_ty HB.out.ty
 go_enter Tryz.func51, Tryz.ntmps51
 go_wp2_with fail
 refine (kind_item r A n c e _ tI _ w HB HT hI hIt).mono ?_
 rintro e9 w9 ⟨rfl, hw9⟩
 rw [hw9]
 clear hw9
 go_wp2_with fail
 refine (need_any r A n c e _ tI _ 0 ⟨#[]⟩ w HB HT (Lib.hid (fun W a1 a2 => is_empty r A n c e _ tI _ 0 W (Lib.hid a1) (Lib.hid a2) hI))).mono ?_
 rintro e9 w1 ⟨rfl, A1, c1, hB1, hT1, hm1⟩
 have HB1 := Lib.hid hB1
 have HT1 := Lib.hid hT1
 clear hB1 hT1
 go_wp2_with fail
 refine (need_any r A1 (n - 1) c1 e _ tN _ 0 ⟨#[]⟩ w1 HB1 HT1 (Lib.hid (fun W a1 a2 => is_empty r A1 (n - 1) c1 e _ tN _ 0 W (Lib.hid a1) (Lib.hid a2) hN))).mono ?_
 rintro e9 w2 ⟨rfl, A2, c2, hB2, hT2, hm2⟩
 have hm2 : Mod (fun x => x = r) w w2 := hm1.trans hm2 (fun b hb => .inl hb)
 have hba := (Below.refl w2.heap.size w2).alloc (Nat.le_refl _) (.cells #[.int .i64 0, .string tN.text, .int .i64 tN.n, .int .i64 tN.at_] 170)
 have k2 := Blk.new w2 170 #[.int .i64 0, .string tN.text, .int .i64 tN.n, .int .i64 tN.at_]
 have hrl := hB2.lt
 obtain ⟨b2, hb2⟩ : ∃ b2, w2.heap.size = b2 := ⟨_, rfl⟩
 obtain ⟨w3, hw3⟩ : ∃ w3, w2.alloc (.cells #[.int .i64 0, .string tN.text, .int .i64 tN.n, .int .i64 tN.at_] 170) = w3 := ⟨_, rfl⟩
 rw [hw3] at hba k2
 have hB3 := hB2.all hba
 have hT3 := hT2.all hba
 have hm3 := hm2.then_below hba
 rw [hb2] at k2
 have y1 : w3.cell? ⟨b2, 1, none⟩ = some (.string tN.text) := k2.cell 1
 have y3 : w3.cell? ⟨b2, 3, none⟩ = some (.int .i64 tN.at_) := k2.cell 3
 have o2 : w3.cell? ⟨r, 2, none⟩ = some (.int .i64 0) := hB3.cell 2
 have f2 := hB3.frozen 2
 have o3 : w3.cell? ⟨r, 3, none⟩ = some (.string nm0) := hB3.cell 3
 have f3 := hB3.frozen 3
 have o4 : w3.cell? ⟨r, 4, none⟩ = some (.int .i64 at0) := hB3.cell 4
 have f4 := hB3.frozen 4
 have o5 : w3.cell? ⟨r, 5, none⟩ = some (.bool false) := hB3.cell 5
 have f5 := hB3.frozen 5
 have o6 : w3.cell? ⟨r, 6, none⟩ = some (.bool false) := hB3.cell 6
 have f6 := hB3.frozen 6
 have o7 : w3.cell? ⟨r, 7, none⟩ = some (.bool co0) := hB3.cell 7
 have f7 := hB3.frozen 7
 have o8 : w3.cell? ⟨r, 8, none⟩ = some (.int .i64 0) := hB3.cell 8
 have f8 := hB3.frozen 8
 have o9 : w3.cell? ⟨r, 9, none⟩ = some (.int .i64 0) := hB3.cell 9
 have f9 := hB3.frozen 9
 have o10 : w3.cell? ⟨r, 10, none⟩ = some (.int .i64 0) := hB3.cell 10
 have f10 := hB3.frozen 10
 have o11 : w3.cell? ⟨r, 11, none⟩ = some (.int .i64 0) := hB3.cell 11
 have f11 := hB3.frozen 11
 have o12 : w3.cell? ⟨r, 12, none⟩ = some (.int .i64 0) := hB3.cell 12
 have f12 := hB3.frozen 12
 have o13 : w3.cell? ⟨r, 13, none⟩ = some (.int .i64 0) := hB3.cell 13
 have f13 := hB3.frozen 13
 have o14 : w3.cell? ⟨r, 14, none⟩ = some (.slice none 0 0) := hB3.cell 14
 have f14 := hB3.frozen 14
 have o15 : w3.cell? ⟨r, 15, none⟩ = some (.slice none 0 0) := hB3.cell 15
 have f15 := hB3.frozen 15
 have o16 : w3.cell? ⟨r, 16, none⟩ = some (.slice none 0 0) := hB3.cell 16
 have f16 := hB3.frozen 16
 have o17 : w3.cell? ⟨r, 17, none⟩ = some (.slice none 0 0) := hB3.cell 17
 have f17 := hB3.frozen 17
 have o18 : w3.cell? ⟨r, 18, none⟩ = some (.slice none 0 0) := hB3.cell 18
 have f18 := hB3.frozen 18
 obtain ⟨w4, hw4⟩ : ∃ w4, (((((((((((((((((w3).setCell ⟨r, 2, none⟩ (.int .i64 0)).setCell ⟨r, 3, none⟩ (.string tN.text)).setCell ⟨r, 4, none⟩ (.int .i64 tN.at_)).setCell ⟨r, 5, none⟩ (.bool false)).setCell ⟨r, 6, none⟩ (.bool false)).setCell ⟨r, 7, none⟩ (.bool false)).setCell ⟨r, 8, none⟩ (.int .i64 0)).setCell ⟨r, 9, none⟩ (.int .i64 0)).setCell ⟨r, 10, none⟩ (.int .i64 0)).setCell ⟨r, 11, none⟩ (.int .i64 0)).setCell ⟨r, 12, none⟩ (.int .i64 0)).setCell ⟨r, 13, none⟩ (.int .i64 0)).setCell ⟨r, 14, none⟩ (.slice none 0 0)).setCell ⟨r, 15, none⟩ (.slice none 0 0)).setCell ⟨r, 16, none⟩ (.slice none 0 0)).setCell ⟨r, 17, none⟩ (.slice none 0 0)).setCell ⟨r, 18, none⟩ (.slice none 0 0) = w4 := ⟨_, rfl⟩
 have e4 : putN w3 r 2 (declV tN.text false tN.at_) = w4 := hw4
 have hB4 := Blk.putN (declV tN.text false tN.at_) (off := 2) hB3 (by show 2 + 17 ≤ 19; decide)
 have hm4 := Mod.putN (F := fun x => x = r) (g := r) (.inl rfl) (declV tN.text false tN.at_) (off := 2) hm3
 have hT4 : TkIs (putN w3 r 2 (declV tN.text false tN.at_)) A2 (n - 1 - 1) c2 (coT co tC ++ tS :: ts) := hT3.mod (Mod.putN (F := fun x => x = r) (.inl rfl) _ (Mod.refl _ _)) (fun x hx hy => by subst hx; exact absurd (hy.unique hB3.ty) (by decide))
 rw [e4] at hB4 hm4 hT4
 have HB4 : Hid (Blk w4 r 126 (rdC A2 (n - 1 - 1) c2 e (declV tN.text false tN.at_))) := Lib.hid hB4
 have HT4 := Lib.hid hT4
 have HD4 := Lib.hid hm4
 have HM4 : Hid (GMap sEnc w4 mk es) := Lib.hid (HM.out.mod hm4 hmr)
 clear hm1 hm2 hba k2 hB2 hT2 hB3 hT3 hm3 e4 hB4 hm4 hT4 HB1 HT1
 have HOPT : Hid (Calls Tryz.prog 90 #[.pointer (some ⟨r, 0, none⟩), .map (some mk)] w4 fun x w' => x = .returned (.tuple #[]) ∧ ∃ A5 n5 c5, Blk w' r 126 (rdC A5 n5 c5 e (declV tN.text co tN.at_)) ∧ TkIs w' A5 n5 c5 (tS :: ts) ∧ Mod (fun x => x = r) w4 w') := Lib.hid (by
  cases co
  ·refine (options_none r A2 (n - 1 - 1) c2 mk e _ tS ts w4 HB4 HT4 (by rw [hS]; decide)).mono ?_
   rintro x w5 ⟨rfl, hb5⟩
   exact ⟨rfl, A2, _, c2, HB4.out.all hb5, HT4.out.all hb5, Mod.of_below _ hb5⟩
  ·refine (options_coin r A2 (n - 1 - 1) c2 mk e tN.text tN.at_ tC tS ts es w4 HB4 HT4 hC hCt (by rw [hS]; decide) HM4 HC).mono ?_
   rintro x w5 ⟨rfl, A5, c5, a1, a2, a3⟩
   exact ⟨rfl, A5, _, c5, a1, a2, a3⟩)
 clear HB4 HT4 HM4
 unfold tkA
 go_wp2_with fail
 clear y1 y3 hw4 o2 f2 o3 f3 o4 f4 o5 f5 o6 f6 o7 f7 o8 f8 o9 f9 o10 f10 o11 f11 o12 f12 o13 f13 o14 f14 o15 f15 o16 f16 o17 f17 o18 f18
 refine HOPT.out.mono ?_
 rintro x9 w5 ⟨rfl, A5, n5, c5, hB5, hT5, hm5⟩
 have HB5 := Lib.hid hB5
 have HT5 := Lib.hid hT5
 have HD5 : Hid (Mod (fun x => x = r) w w5) := Lib.hid (HD4.out.trans hm5 (fun b hb => .inl hb))
 clear HOPT hB5 hT5 hm5
 go_wp2_with fail
 refine (need_any r A5 n5 c5 e _ tS ts 2 semiS w5 HB5 HT5 (Lib.hid (fun W a1 a2 => is_text r A5 n5 c5 e _ tS ts 2 semiS W (Lib.hid a1) (Lib.hid a2) hS (by kernel_rfl) hSt))).mono ?_
 rintro x9 w6 ⟨rfl, A6, c6, hB6, hT6, hm6⟩
 have hn5 : n5 - 1 = ts.length := by
  have := HT5.out.1
  rw [List.length_cons] at this
  omega
 rw [hn5] at hB6 hT6
 have HF : Hid (DeclTo r ts.length e tN.text co tN.at_ ts w w6) := Lib.hid ⟨A6, c6, hB6, hT6, HD5.out.trans hm6 (fun b hb => .inl hb)⟩
 clear hn5 hB6 hT6 hm6
 go_wp2
 go_end0
 exact ⟨rfl, HF.out⟩
end Go.Proofs.YtlcalajehnaenaaGreatDoor
namespace Go.Proofs.YtlcalajehnaenaaGreatDoor
open Go.RowKit
set_option maxRecDepth 100000 in
theorem pdoor (b2 b3 b4 : Nat) (w : World) : CallsD Tryz.prog 39 #[.pointer (some ⟨b2, 0, none⟩), .pointer (some ⟨b3, 0, none⟩), .pointer (some ⟨b4, 0, none⟩)] .returning w fun e u' w' => e = .returned (.tuple #[]) ∧ u' = .returning ∧ Below w.heap.size w w' := by
 have hta : (Instr.typeAssert (.nilIface) 20 122 true).run Tryz.prog w = .ok (.tuple #[.agg #[.int .i64 0], .bool false]) w := by kernel_rfl
 refine callsD_of_wpS Tryz.func39 rfl fun c₀ cs hu => ?_
 apply wpS_seq
 apply wpS_region
 simp [wpOpsS, go_sem, recoverD, hu, Tryz.ntmps39, Exit.thenS, hta]
 apply wpS_seq
 apply wpS_region
 simp [wpOpsS, go_sem, Exit.thenS]
 refine wpS_cond (t := false) (by simp [Act.eval, Array.replicate]) ?_
 simp only [Bool.false_eq_true, if_false]
 refine wpS_of_wp (wp_skip ?_)
 have hb := (Below.refl w.heap.size w).alloc (Nat.le_refl _) (.cells #[.int .i64 0] 122)
 cases c₀
 simp_all [bodyPostS, results, Tryz.results39]
end Go.Proofs.YtlcalajehnaenaaGreatDoor
