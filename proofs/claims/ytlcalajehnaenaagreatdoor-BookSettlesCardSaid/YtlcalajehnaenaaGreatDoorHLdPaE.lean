/- package parser: options at 'coin', declaration. -/
import Derived.Test.YtlcalajehnaenaaGreatDoorHG34
namespace Go.Proofs.YtlcalajehnaenaaGreatDoor
open Go.RowKit
theorem coinS_toks : coinS.size ≤ 16 := by decide
def CoinTo (r n : Nat) (e : Int) (nm : ByteArray) (at_ : Int) (ts : List Tk) (w w' : World) : Prop := ∃ A' c', Blk w' r 126 (rdC A' (n - 1) c' e (declV nm true at_)) ∧ TkIs w' A' (n - 1) c' ts ∧ Mod (fun x => x = r) w w'
set_option maxRecDepth 100000 in
set_option maxHeartbeats 4000000 in
theorem options_coin (r : Nat) (A : Option Addr) (n c mk : Nat) (e : Int) (nm : ByteArray) (at_ : Int) (t1 t2 : Tk) (ts : List Tk) (es : List (SK × Value)) (w : World) (HB : Hid (Blk w r 126 (rdC A n c e (declV nm false at_)))) (HT : Hid (TkIs w A n c (t1 :: t2 :: ts))) (h1 : t1.kind = 0) (ht1 : t1.text = coinS) (h2 : t2.kind ≠ 0)
 (HM : Hid (GMap sEnc w mk es)) (HC : Hid (glk es (nmK coinS) = some (.func (.func 42) #[.pointer (some ⟨r, 0, none⟩)] #[]))) :
 Calls Tryz.prog 90 #[.pointer (some ⟨r, 0, none⟩), .map (some mk)] w fun x w' => x = .returned (.tuple #[]) ∧ CoinTo r n e nm at_ (t2 :: ts) w w' := by
 have hba := (Below.refl w.heap.size w).alloc (Nat.le_refl _) (.map #[] 0)
 have HS1 := Lib.hid (GMap.new sEnc w)
 have HM1 := Lib.hid (HM.out.all hba)
 have HB1 := Lib.hid (HB.out.all hba)
 have HT1 := Lib.hid (HT.out.all hba)
 have HD1 := Lib.hid (Mod.of_below (fun x => x = r) hba)
 have hrl := HB.out.lt
 have hmr : mk ≠ r := fun e => by
  subst e
  exact HM.out.not_ty HB.out.ty
 have hmm : (Instr.makeMap 250 none).run Tryz.prog w = .ok (.map (some w.heap.size)) (w.alloc (.map #[] 0)) := rfl
 clear hba
 go_enter Tryz.func90, Tryz.ntmps90
 go_wp2
 clear hmm
 go_loopg [5, 6, 7] 1 (fun gk v5 v6 v7 wr => (gk = 1 ∧ Hid (Blk wr r 126 (rdC A n c e (declV nm false at_))) ∧ Hid (TkIs wr A n c (t1 :: t2 :: ts)) ∧ Hid (GMap sEnc wr w.heap.size []) ∧ Hid (GMap sEnc wr mk es) ∧ Hid (Mod (fun x => x = r) w wr)) ∨ (gk = 0 ∧ Hid (CoinTo r n e nm at_ (t2 :: ts) w wr)))
 case atStart => exact .inl ⟨rfl, HB1, HT1, HS1, HM1, HD1⟩
 case round =>
  clear HB1 HT1 HS1 HM1 HD1
  rcases hrel with ⟨rfl, HB1, HT1, HS1, HM1, HD1⟩ | ⟨rfl, HF⟩
  ·go_wp2_with fail
   refine (is_empty r A n c e _ t1 (t2 :: ts) 0 _ HB1 HT1 h1).mono ?_
   rintro e9 w9 ⟨rfl, hw9⟩
   rw [hw9]
   clear hw9
   obtain ⟨b, off, rfl, -, -, q0, q1, q2, q3⟩ := HT1.out.head
   rw [ht1] at q1
   have c0 : wr.cell? ⟨r, 0, none⟩ = some (.slice (some ⟨b, off, none⟩) n c) := HB1.out.cell 0
   have hn := HT1.out.1
   rw [List.length_cons] at hn
   have hn0 : (0 : Int) < (n : Int) := by omega
   obtain ⟨jF, zF, hjF, hzF⟩ := infoFn
   have hk2 := HM1.out.look2 sEncOk Tryz.underlying127 hjF hzF (nmK coinS)
   rw [HC.out, nmK_enc coinS_toks] at hk2
   have hk2 : (Instr.lookup 127 (.map (some mk)) (.string coinS) true).run Tryz.prog wr = .ok (.tuple #[.func (.func 42) #[.pointer (some ⟨r, 0, none⟩)] #[], .bool true]) wr := hk2
   obtain ⟨jB, hjB, hzB⟩ := infoB
   have hk1 := HS1.out.look sEncOk Tryz.underlying250 hjB hzB (nmK coinS)
   rw [nmK_enc coinS_toks] at hk1
   have hk1 : (Instr.lookup 250 (.map (some w.heap.size)) (.string coinS) false).run Tryz.prog wr = .ok (.bool false) wr := hk1
   obtain ⟨w2, hrun, -, hg2, -⟩ := HS1.out.store sEncOk Tryz.underlying250 (nmK coinS) (.bool true)
   rw [nmK_enc coinS_toks] at hrun
   have hm2 : Mod (fun x => x = r) w w2 := HD1.out.then_grown hg2 (fun g e => by injection e with e; subst e; exact .inr (Nat.le_refl _))
   have hm2' : Mod (fun x => x = w.heap.size) wr w2 := Mod.of_grown hg2 (fun g e => by injection e with e; subst e; exact .inl rfl)
   have hB2 := hm2'.blk HB1.out (fun e => by omega)
   have hT2 := HT1.out.mod hm2' (fun x hx hy => by subst hx; exact HS1.out.not_ty hy)
   have HB2 := Lib.hid hB2
   have HT2 := Lib.hid hT2
   have HD2 := Lib.hid hm2
   clear hn hm2 hm2' hg2 hB2 hT2 hjF hzF hjB hzB
   go_wp2_with fail
   clear hk1 hk2 hrun
   refine (need_any r _ n c e _ t1 (t2 :: ts) 0 ⟨#[]⟩ w2 HB2 HT2 (Lib.hid (fun W a1 a2 => is_empty r _ n c e _ t1 (t2 :: ts) 0 W (Lib.hid a1) (Lib.hid a2) h1))).mono ?_
   rintro e9 w3 ⟨rfl, A3, c3, hB3, hT3, hm3⟩
   have HB3 := Lib.hid hB3
   have HT3 := Lib.hid hT3
   have HD3 : Hid (Mod (fun x => x = r) w w3) := Lib.hid (HD2.out.trans hm3 (fun b hb => .inl hb))
   clear hB3 hT3 hm3
   go_wp2_with fail
   refine (coin_any r A3 (n - 1) c3 e nm at_ w3 HB3).mono ?_
   rintro e9 w4 ⟨rfl, hB4, hm4⟩
   have HF4 : Hid (CoinTo r n e nm at_ (t2 :: ts) w w4) := Lib.hid ⟨A3, c3, hB4, HT3.out.mod hm4 (fun x hx hy => by subst hx; exact absurd (hy.unique HB3.out.ty) (by decide)), HD3.out.trans hm4 (fun b hb => .inl hb)⟩
   clear hB4 hm4
   go_wp2
   go_roundg 0
   case measure => omega
   case rel => exact .inr ⟨rfl, HF4⟩
  ·obtain ⟨A3, c3, hB3, hT3, hm3⟩ := HF.out
   go_wp2_with fail
   refine (is_kind r A3 (n - 1) c3 e _ t2 ts 0 ⟨#[]⟩ _ (Lib.hid hB3) (Lib.hid hT3) h2).mono ?_
   rintro e9 w9 ⟨rfl, hw9⟩
   rw [hw9]
   clear hw9 hB3 hT3 hm3
   go_wp2
   go_end0
   exact ⟨rfl, HF.out⟩
end Go.Proofs.YtlcalajehnaenaaGreatDoor
