/- For every list of seeds, position and number worldmintlaw04.DiceTickets returns true. No condition. -/
import Derived.Test.YtklkppmmnlachaaDiceLives
import Derived.Test.YtklkppmmnlachaaDiceRefRoll
import Derived.Test.YtklkppmmnlachaaRefHelp
import Derived.Test.YtklkppmmnlachaaHashInj
import Derived.Deep.RegionHeld3
import Derived.Test.YtklkppmmnlachaaDiceJoin
import Derived.Test.YtklkppmmnlachaaWireRound
import Derived.Test.YtklkppmmnlachaaLaw
namespace Go.Proofs.Ytklkppmmnlachaa
open Go.ChangeShapes Go.WideShapes Go.ChangeAt Go.RowKit Go.ChangeMaps

theorem info_rows2 : (Try.prog.info? 28).map (fun i => (i.zero, i.size, i.bytes)) = some (some (.slice none 0 0), 1, 24) := by kernel_rfl
theorem hseed_any (A : Option Addr) (len cap : Nat) (bs : List UInt8) (w : World) (HL : Hid (bs.length = len)) (hlc : len ≤ cap) (hmax : len ≤ 35184372088832) (hR : Rd w w.heap.size A len (vByte bs)) :
    Calls Try.prog 49 #[.string ⟨#[115, 101, 101, 100]⟩, .slice A len cap] w fun e w' => e = .returned (.int .u64 (commitI bs)) ∧ Below w.heap.size w w' :=
  (hbytes_any ⟨#[115, 101, 101, 100]⟩ A len cap w.heap.size bs w HL (by decide) hlc hmax (Nat.le_refl _) hR).mono fun _ _ ⟨h, hb⟩ => ⟨h, hb⟩
theorem vticket (c : Int) (A : Option Addr) (len cap : Nat) (bs : List UInt8) (at_ n r : Int) (w : World) (HL : Hid (bs.length = len)) (hlc : len ≤ cap) (hmax : len ≤ 35184372088832) (hR : Rd w w.heap.size A len (vByte bs))
    (hat : Hid (-9223372036854775808 ≤ at_ ∧ at_ ≤ 9223372036854775807)) (hn1 : n ≤ 9223372036854775807) (HV : Hid (verifyI c bs [116, 105, 99, 107, 101, 116] at_ n r = true)) :
    Calls Try.prog 25 #[.int .u64 c, .slice A len cap, .string ⟨#[116, 105, 99, 107, 101, 116]⟩, .int .i64 at_, .int .i64 n, .int .i64 r] w fun e w' => e = .returned (.bool true) ∧ Below w.heap.size w w' :=
  (verify_any c ⟨#[116, 105, 99, 107, 101, 116]⟩ A len cap bs at_ n r w HL (by decide) hlc hmax hR hat hn1).mono fun _ _ ⟨h, hb⟩ => ⟨h.trans (congrArg (fun b => Ending.returned (.bool b)) HV.out), hb⟩
theorem roll_cases {key at_ n : Int} (hn : 1 ≤ n) : rollErr key at_ n = 0 ∨ rollErr key at_ n = 4 := by
  unfold rollErr
  rw [if_neg (by omega)]
  split
  · exact .inl rfl
  · exact .inr rfl
theorem rd_only {w w' : World} {B gd n : Nat} {A : Option Addr} {bs rest : List UInt8} {err : Int} (h : Rd w w.heap.size A n (vByte bs)) (hg : w.grownBy w' (some gd)) (hR : Rdr w B gd rest err) : Rd w' w'.heap.size A n (vByte bs) := by
  obtain ⟨_, _, A1, n1, c1, q1, _⟩ := hR
  intro hn
  obtain ⟨b, off, e, hb, hc⟩ := h hn
  have hne : b ≠ gd := by
    rintro rfl
    have h0 := hc 0 hn
    rw [Nat.add_zero, Blk.cell q1 off] at h0
    rcases off with _ | _ | off <;> simp [vByte] at h0
  exact ⟨b, off, e, Nat.lt_of_lt_of_le hb hg.size, fun j hj => (World.cell?_of_block (w := w) (hg.block b hb (by simpa using hne))).trans (hc j hj)⟩

set_option maxRecDepth 100000 in
set_option maxHeartbeats 1000000 in
theorem DiceTickets_walk (W : World) (A0 : Option Addr) (n0 c0 : Nat) (L0 : List (List UInt8)) (_hn0 : n0 ≤ c0) (_hc0 : c0 ≤ 9223372036854775807) (hR0 : RdRows W A0 n0 L0) (a1 : Int) (ha1 : Hid ((Lit.int .i64 a1).wf = true)) (a2 : Int) (ha2 : Hid ((Lit.int .i64 a2).wf = true)) :
    Calls Try.prog 10 #[.slice A0 n0 c0, .int .i64 a1, .int .i64 a2] W fun e w' => e = .returned (.bool true) ∧ Below W.heap.size W w' := by
  obtain ⟨hr10, hr11⟩ := wf_i64 ha1.out
  obtain ⟨hr20, hr21⟩ := wf_i64 ha2.out
  obtain ⟨iR, hiR, hzR0, hzR1, hzR2⟩ := info_parts info_rows2
  have hb := Below.refl W.heap.size W
  go_enter Try.func10, Try.ntmps10
  obtain ⟨wz, rfl⟩ : ∃ x, x = W := ⟨_, rfl⟩
  go_wp2
  go_loopw [7, 8] (fun v i wr => ∃ k : Nat, ∃ L : List (List UInt8), k ≤ n0 ∧ k ≤ 4 ∧ i = .int .i64 (k : Int) ∧ OwnRows wr wz.heap.size 28 v k L ∧ Hid (∀ j : Nat, (L[j]?.getD []).length ≤ 12) ∧ Below wz.heap.size wz wr) (fun _ i _ => n0 - (intOf i).toNat)
  case atStart => exact ⟨0, [], by omega, by omega, rfl, OwnRows.nil _ _ _, Lib.hid (fun j => by simp), Below.refl _ _⟩
  case round =>
    obtain ⟨k, L, hk, hk4, rfl, hOR, HLm, hbr⟩ := hrel
    obtain ⟨v13, rfl⟩ : ∃ x, x = u7 := ⟨_, rfl⟩
    rcases (show (k < n0 ∧ k < 4) ∨ (k < n0 ∧ ¬ k < 4) ∨ ¬ k < n0 by omega) with ⟨hlt, hl4⟩ | ⟨hlt, hl4⟩ | hlt
    · have hl4' : decide ((k : Int) < 4) = true := by simp; omega
      obtain ⟨b, off, A', m, c', bs', rfl, hblt, hcell, HB, HM, hmc, hc', hRr⟩ := (hR0.all hbr).at_ hlt
      go_wp2_with fail
      refine (few_bytes _ _ _ 12 12 rfl bs' _ HM hRr hmc hc' (by decide)).mono ?_
      rintro e w4 ⟨A4, c4, k4, bs4, rfl, hkc4, hcm4, hkm4, HK4, HX4, HE4, hown4, hr4, hb4⟩
      obtain ⟨g, cap, w5, hap, hOR5, hb5⟩ := OwnRows.snoc (P := Try.prog) (t := 47) Try.underlying47 hiR hzR0 hzR1 hzR2 rfl hOR hb4 (A4, k4, c4) bs4 ⟨HX4.out, hkc4, hcm4, hr4⟩ (fun b off hp e0 => by
        obtain ⟨g, e1, e2, _⟩ := own_some hown4 hp
        simp only at e0; rw [e1] at e0; cases e0; exact e2) (by omega) hbr.size
      have HA := Lib.hid hap; clear hap
      have HLm5 : Hid (∀ j : Nat, ((L ++ [bs4])[j]?.getD []).length ≤ 12) := by
        refine Lib.hid fun j => ?_
        by_cases hj : j < L.length
        · rw [List.getElem?_append_left hj]; exact HLm.out j
        · rw [List.getElem?_append_right (by omega)]
          by_cases hj2 : j = L.length
          · subst hj2; simp; have := HX4.out; omega
          · rw [List.getElem?_eq_none (by simp; omega)]; simp
      go_wp2_with (at_builtin; refine wpList_append_run HA.out rfl rfl rfl rfl ?_)
      exact ⟨⟨k + 1, L ++ [bs4], by omega, by omega, by go_num, hOR5, HLm5, hbr.trans hb5⟩, by simp [intOf]; omega⟩
    all_goals
      obtain ⟨A5, c5, rfl⟩ := hOR.slice
      obtain ⟨_, hkc5, hcm5, hrows⟩ := hOR.rd
      have HLm2 : Hid (∀ j : Nat, (L[j]?.getD []).length ≤ 35184372088832) := Lib.hid fun j => by have := HLm.out j; omega
      replace hb := bt hb hbr
      clear hbr hOR HLm
      go_wp2_with fail
      refine (join_any _ _ _ L _ hkc5 hcm5 hrows HLm2).mono ?_
      rintro e w3 ⟨gj, rfl, hownj, hb3⟩
      have hrs := (rd_bytes hownj).2.2
      have HJL := Lib.hid (joinL_length L)
      generalize joinL L = J at *
      replace hb := bt hb hb3
      have HW0 := Lib.hid (Wr.new w3)
      have hbx : Below w3.heap.size w3 (w3.alloc (.cells #[.slice none 0 0] 66)) := (Below.refl _ w3).alloc (Nat.le_refl _) _
      clear hb3 hownj hrows
      go_wp2_with fail
      refine (wraw_any _ _ [] J _ _ _ w3.heap.size _ HW0 HJL (by decide) (hrs.alloc (Nat.le_refl _) _) (Nat.le_refl _) (by decide)).mono ?_
      rintro e w4 ⟨rfl, hW, hb4⟩
      rw [List.nil_append] at hW
      replace HW0 := Lib.hid hW
      replace hbx := hbx.trans hb4
      have hlr : (encRaw J).length ≤ 40 := by
        unfold encRaw
        rw [List.length_append]
        have := varint_len10 (n := J.length) (by rw [HJL.out]; decide)
        have := HJL.out
        omega
      have hli := encInt_len hr10 hr11
      clear hW hb4
      go_wp2_with fail
      refine (wint_any _ _ _ a1 _ HW0 (by omega) (by omega) (by omega)).mono ?_
      rintro e w5 ⟨rfl, hW, hb5⟩
      replace HW0 := Lib.hid hW
      replace hbx := hbx.trans hb5
      clear hW hb5
      go_wp2_with fail
      refine (wdone_any _ _ _ _ HW0 (by rw [List.length_append]; omega)).mono ?_
      rintro e w6 ⟨A6, n6, c6, rfl, hnc6, hcm6, HX6, _, hr6, hb6⟩
      have h6n : n6 ≤ 60 := by rw [← HX6.out, List.length_append]; omega
      replace hbx := hbx.trans (hb6.mono hbx.size)
      clear hb6 HW0
      go_wp2_with fail
      refine (read_any _ _ _ _ _ HX6 hr6 (by omega)).mono ?_
      rintro e w7 ⟨gr, rfl, hgr, hR7, hb7, _⟩
      have HR := Lib.hid hR7
      have hs6 := hbx.size
      replace hbx := hbx.trans (hb7.mono hbx.size)
      clear hb7 hR7 hr6
      go_wp2_with fail
      refine (rraw_any _ _ _ _ _ HR).mono ?_
      rw [show readRaw (encRaw J ++ encInt a1) 0 = (0, J, encInt a1) from decRaw_enc (by rw [HJL.out]; decide) _]
      rintro e w8 ⟨A8, n8, c8, rfl, hnc8, hcm8, _, HX8, hown8, hR8, ho8⟩
      obtain rfl : 8 = n8 := by rw [← HX8.out, HJL.out]
      replace HR := Lib.hid hR8
      replace hbx := below_of_only hbx ho8 hbx.size (by omega)
      have hrt := (rd_bytes hown8).2.2
      have hgr8 := hR8.lt
      clear hR8 ho8 hown8 HX8
      go_wp2_with fail
      refine (rint_any _ _ _ _ _ HR).mono ?_
      rw [show readU (encInt a1) 0 = (0, zigI a1, []) from by have := decU_int (n := a1) ⟨hr10, hr11⟩ []; rw [List.append_nil] at this; exact this]
      simp only [unzig_zig]
      rintro e w9 ⟨rfl, hR9, ho9⟩
      have hrt9 : Rd w9 w9.heap.size A8 8 (vByte J) := rd_only hrt ho9 HR.out
      replace HR := Lib.hid hR9
      replace hbx := below_of_only hbx ho9 hbx.size (by omega)
      clear hR9 ho9 hrt
      go_wp2_with fail
      refine (dnew_any ⟨#[116, 105, 99, 107, 101, 116]⟩ _ _ _ J _ HJL (by decide) hnc8 (by decide) hrt9).mono ?_
      rintro e w10 ⟨gd, rfl, hgd, hD10, hb10⟩
      have HD := Lib.hid hD10
      have hgd3 : w3.heap.size ≤ gd := Nat.le_trans hbx.size hgd
      replace HR := Lib.hid (HR.out.all hb10)
      have hrt10 := hrt9.all hb10
      have hby := hb10
      replace hbx := hbx.trans (hb10.mono hbx.size)
      clear hb10 hD10
      go_wp2_with fail
      refine (rend_any _ _ _ _ _ HR).mono ?_
      rintro e w' ⟨rfl, rfl⟩
      rw [show endI [] 0 = 0 from rfl]
      have qa : (a1 != a1) = false := by simp
      go_wp2_with fail
      refine (seek_any _ _ _ _ _ HD).mono ?_
      rintro e w11 ⟨rfl, hD11, ho11⟩
      replace HD := Lib.hid hD11
      replace hbx := below_of_only hbx ho11 hbx.size hgd3
      replace hby := below_of_only hby ho11 hby.size hgd
      clear hD11 ho11 HR qa
      go_wp2_with fail
      refine (around_nat _ 1000 _ _ rfl (by omega) (by omega) (by omega) (by omega)).mono ?_
      rintro e w' ⟨kk, rfl, hkk, _, rfl⟩
      go_wp2_with fail
      refine (roll_any _ _ _ _ _ HD (Lib.hid ⟨hr10, hr11⟩) (by omega)).mono ?_
      rintro e w12 ⟨rfl, hD12, ho12⟩
      replace hbx := below_of_only hbx ho12 hbx.size hgd3
      replace hby := below_of_only hby ho12 hby.size hgd
      replace hb := bt hb hbx
      replace hrs := hrs.all hbx
      have hrt12 := hrt9.all hby
      clear hD12 ho12 HD hbx hby hrt9 hrt10
      have hsd : (1 : Int) ≤ 1 + (kk : Int) := by omega
      rcases roll_cases (key := bytesI [116, 105, 99, 107, 101, 116] J) (at_ := a1) hsd with hE | hE
      · have HV := Lib.hid (show verifyI (commitI J) J [116, 105, 99, 107, 101, 116] a1 (1 + (kk : Int)) (rollVal (bytesI [116, 105, 99, 107, 101, 116] J) a1 (1 + (kk : Int))) = true by
          unfold verifyI
          rw [hE]
          simp)
        have q1 : (rollErr (bytesI [116, 105, 99, 107, 101, 116] J) a1 (1 + (kk : Int)) != 0) = false := by rw [hE]; rfl
        have q2 : (commitI J == commitI J) = true := by simp
        clear hE
        go_wp2_with (first
    | (go_at_call 49; ((with_reducible refine (hseed_any _ _ _ J _ HJL (by decide) (by decide) hrs).mono ?_); rintro e w13 ⟨rfl, hb13⟩; replace hb := bt hb hb13; replace hrs := hrs.all hb13; replace hrt12 := hrt12.all hb13; clear hb13))
    | (go_at_call 25; ((with_reducible refine (vticket _ _ _ _ J _ _ _ _ HJL (by decide) (by decide) hrs (Lib.hid ⟨hr10, hr11⟩) (by omega) HV).mono ?_); rintro e w13 ⟨rfl, hb13⟩; replace hb := bt hb hb13; replace hrs := hrs.all hb13; replace hrt12 := hrt12.all hb13; clear hb13))
    | (go_at_call 28; ((with_reducible refine (opens_any _ _ _ _ J _ HJL hnc8 (by decide) hrt12).mono ?_); rintro e w13 ⟨rfl, hb13⟩; replace hb := bt hb hb13; clear hb13))
    | (go_at_call 13; ((with_reducible refine (lives4_any _).mono ?_); rintro e w3 ⟨rfl, hb3⟩; replace hb := bt hb hb3; clear hb3)))
        go_ret
        exact ⟨rfl, hb⟩
      · have q1 : (rollErr (bytesI [116, 105, 99, 107, 101, 116] J) a1 (1 + (kk : Int)) != 0) = true := by rw [hE]; rfl
        have q2 : (rollErr (bytesI [116, 105, 99, 107, 101, 116] J) a1 (1 + (kk : Int)) == 4) = true := by rw [hE]; rfl
        clear hE
        go_wp2_with (first
    | (go_at_call 13; ((with_reducible refine (lives4_any _).mono ?_); rintro e w3 ⟨rfl, hb3⟩; replace hb := bt hb hb3; clear hb3)))
        go_ret
        exact ⟨rfl, hb⟩


set_option maxRecDepth 100000 in
theorem DiceTickets_lifted (os : Os) (started : os.Started) (H : Type) (enc : TypeId × Value → H) :
    ReturnsInHanded {} Try.checked os 10 .any (Rows.diceTicketsSpec.pre6 enc Try.prog Try.f10 Rows.diceTicketsRow.domain false) (Rows.diceTicketsSpec.post enc Try.prog Try.f10 false true false false) := by
  refine returnsInHanded_of_change (C := Try.checked) Try.own started (by kernel_rfl) Try.func10
    (ChangeSpec.witness6 (enc := enc) (C := Try.checked) false ⟨#[], #[.slice none 0 0, .int .i64 0, .int .i64 0], []⟩ 8 (by kernel_rfl) (by kernel_rfl) (by kernel_rfl) (by kernel_rfl)) ?_
  intro W base args ds gs before hval0 hW _ _
  have hval : ∀ (j : Nat) t v, Try.f10.params[j]? = some t → args[j]? = some v → Value.okWide Try.prog W .any base t v := hval0
  have hW' := hW
  obtain ⟨p, q, hT0, hV, rfl, hfz, hnd⟩ := hW
  have hT : DataW.TrodAll enc Try.prog W 0 (fun _ => true) true Try.f10.params.toList args.toList ds p := hT0
  rw [Try.params10] at hT hval
  obtain ⟨v0, vs0, d0, ds0, p0, q0, hargs0, rfl, rfl, h0, r0⟩ := trodAll_cons hT
  obtain ⟨v1, vs1, d1, ds1, p1, q1, hargs1, rfl, rfl, h1, r1⟩ := trodAll_cons r0
  obtain ⟨v2, vs2, d2, ds2, p2, q2, hargs2, rfl, rfl, h2, r2⟩ := trodAll_cons r1
  obtain ⟨rfl, rfl, rfl⟩ := trodAll_nil r2
  obtain rfl : args = #[v0, v1, v2] := by cases args; simp_all
  obtain ⟨A0, n0, c0, L0, rfl, hn0, hc0, hR0⟩ := open_rows Try.underlying47 Try.underlying28 Try.underlying5 (by kernel_rfl) (by kernel_rfl) (hval 0 47 v0 rfl rfl) h0
  obtain ⟨a1, rfl, -, -, w1⟩ := open_int Try.underlying3 (hval 1 3 v1 rfl rfl) h1
  obtain ⟨a2, rfl, -, -, w2⟩ := open_int Try.underlying3 (hval 2 3 v2 rfl rfl) h2
  refine (DiceTickets_walk W A0 n0 c0 L0 hn0 hc0 hR0 a1 w1 a2 w2).mono fun e W' ⟨he, hb⟩ => ?_
  subst he
  exact ⟨_, rfl, law_post Try.laidOut (by kernel_rfl) (by kernel_rfl) Try.underlying4 rfl hW' rfl hb⟩

theorem DiceTickets_holds : Rows.DiceTicketsSaid :=
  OpenClaim.holds_of_wide 10 Try.f10 rfl rfl rfl rfl rfl rfl rfl ⟨rfl, rfl, rfl, rfl, rfl⟩ rfl rfl rfl rfl rfl (by kernel_rfl) Try.func10 (by kernel_rfl)
    (of_decide_eq_true (by kernel_rfl)) (by unfold Func.isWrapper; first | (rw [if_pos (by decide +kernel)]; kernel_rfl) | (rw [if_neg (by decide +kernel)]; exact ⟨rfl, rfl⟩))
    (fun os started H enc _ => DiceTickets_lifted os started H enc)

end Go.Proofs.Ytklkppmmnlachaa
