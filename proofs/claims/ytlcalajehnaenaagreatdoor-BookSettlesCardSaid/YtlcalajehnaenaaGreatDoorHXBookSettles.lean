/- The trades of a book, posted in a ledger as exchanges of iron for gold, leave each account with what its orders sold and bought, and the totals unchanged (BookSettles). The listed variable is lexer's table of the kinds of bytes, tied to the program's text. -/
import Derived.Test.YtlcalajehnaenaaGreatDoorHBsR
import Derived.Test.YtlcalajehnaenaaGreatDoorHBsT
import Derived.Deep.DeepCutAuto
import Derived.BigQuiet
import Derived.BigRegion
import Derived.RegionTactic
import Derived.Test.YtlcalajehnaenaaGreatDoorHKindsLaid
import Derived.Test.YtlcalajehnaenaaGreatDoorTie
import Derived.Test.YtlcalajehnaenaaGreatDoorCards
import Derived.SevenTiedAt
namespace Go.Proofs.YtlcalajehnaenaaGreatDoor
open Go.ChangeShapes Go.WideShapes Go.ChangeAt Go.RowKit Go.ChangeMaps
set_option maxRecDepth 100000 in
set_option maxHeartbeats 100000000 in
theorem BookSettles_walk (W : World) (A0 : Option Addr) (n0 c0 : Nat) (f0 : Nat → Int) (_hA0 : A0 = none → n0 = 0) (_hn0 : n0 ≤ c0) (_hc0 : c0 ≤ 9223372036854775807) (hR0 : Rd W W.heap.size A0 n0 (fun j => .int .i64 (f0 j))) (hw0 : Hid (∀ j, j < n0 → (Lit.int .i64 (f0 j)).wf = true)) (HKL : Hid (KL W)) :
 Calls Tryz.prog 3 #[.slice A0 n0 c0] W fun e w' => e = .returned (.bool true) ∧ Below W.heap.size W w' := by
 have hb := Below.refl W.heap.size W
 go_enter Tryz.func3, Tryz.ntmps3
 clear hb
 go_wp2_with fail
 refine (compileI_any _ HKL).mono ?_
 rintro e w1 ⟨Ac, nc, cc, rfl, hI1, hb1⟩
 obtain ⟨ad, rfl⟩ : ∃ ad, Ac = some ad := by
  obtain ⟨b, off, e, -⟩ := hI1.2.2.2.cells (by simp [itemsI, itV])
  exact ⟨_, e⟩
 obtain rfl : nc = 2 := hI1.1.symm
 have hba := (Below.refl w1.heap.size w1).alloc (Nat.le_refl _) (.cells #[.slice (some ad) 2 cc, .slice none 0 0, .slice none 0 0, .slice none 0 0] 28)
 have kba := Blk.new w1 28 #[.slice (some ad) 2 cc, .slice none 0 0, .slice none 0 0, .slice none 0 0]
 have HI1 := Lib.hid (hI1.all hba)
 have HB1 := Lib.hid (hb1.trans (hba.mono hb1.size))
 unfold catA
 clear hb1 hI1
 go_wp2_with fail
 refine (newL_any 0 ad 2 cc itemsI _ (by decide) HI1 (Lib.hid itemsI_ok) (Lib.hid (HKL.out.all HB1.out))).mono ?_
 rintro e w2 ⟨L, rfl, hL2, hit2, -, hlo2, hb2⟩
 have HB2 := Lib.hid (HB1.out.trans (hb2.mono HB1.out.size))
 have HL2 := Lib.hid hL2
 have HLO : Hid (∀ b, LedF L b → W.heap.size ≤ b) := Lib.hid (fun b hb => Nat.le_trans HB1.out.size (hlo2 b hb))
 have HIT := Lib.hid hit2
 obtain ⟨gA, hgA⟩ : ∃ gA, L.gl = gA := ⟨_, rfl⟩
 rw [hgA]
 have HG := Lib.hid hgA
 clear hb2 hL2 hlo2 hit2 hgA HI1 HB1 kba hba
 go_wp2_with fail
 refine (new_any _).mono ?_
 rintro e w3 ⟨V, rfl, hA3, hb3⟩
 have HJ3 := BsM.new (mx := mxOf itemsI) (gg := 0) (gi := 0) (g := fun _ => 0) (r := fun _ => 0) (HB2.out.trans (hb3.mono HB2.out.size)) (hA3.low HB2.out.size) (HL2.out.all hb3) HIT.out HLO.out
 rw [HG.out] at HJ3
 replace HJ3 := Lib.hid HJ3
 obtain ⟨gb, hgb⟩ : ∃ gb, w2.heap.size = gb := ⟨_, rfl⟩
 rw [hgb] at HJ3 ⊢
 clear hA3 hb3 HL2 HB2 HLO HIT HG hgb
 go_wp2_with fail
 go_loopg [8, 9, 10, 11] 4 (fun gk v8 _v9 _v10 _v11 wr => ∃ (j : Nat) (S : LSt), j + gk = 4 ∧ v8 = .int .i64 ((j : Int) + 1) ∧ Hid (LgS (mxOf itemsI) j S) ∧ Hid (BsM False W gb gA 0 0 (mxOf itemsI) none [] none [] [] book0 (fun _ => 0) (fun _ => 0) S wr))
 case atStart => exact ⟨0, lst0 0, by omega, rfl, Lib.hid LgS.zero, HJ3⟩
 case round =>
  clear HJ3
  obtain ⟨j, S, hj, rfl, HS, HJ⟩ := hrel
  have HHJ := Lib.hid hj
  rcases Nat.lt_or_ge j 4 with hlt | hge
  ·have hle : (j : Int) + 1 ≤ 4 := by omega
   have hj0 : (0 : Int) ≤ (j : Int) := by omega
   clear hj
   go_upto_region 10 with (fail)
   have hba := (Below.refl wr.heap.size wr).alloc (Nat.le_refl _) (.cells #[.int .i64 0, .int .i64 ((j : Int) + 1), .int .i64 0, .int .i64 1000000, .slice none 0 0, .int .i64 0, .int .i64 ((j : Int) + 1), .int .i64 1, .int .i64 1000000, .slice none 0 0] 40)
   have kba := Blk.new wr 40 #[.int .i64 0, .int .i64 ((j : Int) + 1), .int .i64 0, .int .i64 1000000, .slice none 0 0, .int .i64 0, .int .i64 ((j : Int) + 1), .int .i64 1, .int .i64 1000000, .slice none 0 0]
   have hbc := (Below.refl (wr.alloc (.cells #[.int .i64 0, .int .i64 ((j : Int) + 1), .int .i64 0, .int .i64 1000000, .slice none 0 0, .int .i64 0, .int .i64 ((j : Int) + 1), .int .i64 1, .int .i64 1000000, .slice none 0 0] 40)).heap.size (wr.alloc (.cells #[.int .i64 0, .int .i64 ((j : Int) + 1), .int .i64 0, .int .i64 1000000, .slice none 0 0, .int .i64 0, .int .i64 ((j : Int) + 1), .int .i64 1, .int .i64 1000000, .slice none 0 0] 40))).alloc (Nat.le_refl _) (.cells #[.int .i64 0, .int .i64 0, .int .i64 ((j : Int) + 1), .int .i64 0, .int .i64 (-1), .int .i64 0, .slice (some ⟨wr.heap.size, 0, none⟩) 2 2] 43)
   obtain ⟨S2, hmv, hS2⟩ := HS.out.next mxI hlt
   have hpost := bs_post true ((j : Int) + 1) 0 (some ⟨wr.heap.size, 0, none⟩) (bsM 0 ((j : Int) + 1) 0 1000000) (bsM 0 ((j : Int) + 1) 1 1000000) S2 (Lib.hid ((HJ.out.all hba).all hbc)) (Lib.hid HS.out.ok) (Lib.hid (mvTwo (kba.all hbc))) (Lib.hid (bsM_ok (by decide) (by omega) (by decide) (by decide) (by omega))) (Lib.hid (bsM_ok (by decide) (by omega) (by decide) (by decide) (by omega))) (Lib.hid rfl) (Lib.hid rfl) (by omega) (by decide) (Lib.hid (by rw [HS.out.now]; exact Int.le_refl _)) (Lib.hid (by have h1 := HS.out.ns; have h2 := HS.out.nf; omega)) (Lib.hid (by show (1000000 : Int) + 1000000 ≤ 1073741824; decide)) (Lib.hid hmv)
   rw [show kindZ true = 0 from rfl] at hpost
   unfold stA at hpost
   have HS2 := Lib.hid hS2
   clear hba kba hbc hmv hS2
   go_wp2_with fail
   refine hpost.mono ?_
   rintro e w6 ⟨k6, rfl, hJ6⟩
   have HJ6 := Lib.hid hJ6
   clear hpost hJ6
   go_wp2_with fail
   go_roundg (4 - (j + 1))
   case measure => have := HHJ.out; omega
   case rel => exact ⟨j + 1, _, by have := HHJ.out; omega, by go_num, HS2, HJ6⟩
  ·obtain rfl : j = 4 := by omega
   clear hj HHJ hge
   go_upto_region 14 with (fail)
   have hb8 : Below wr.heap.size wr ((wr.alloc (.cells #[.int .i64 0, .int .i64 0, .int .i64 0, .int .i64 0, .int .i64 0] 46)).alloc (.cells #[.int .i64 0, .int .i64 0, .int .i64 0, .int .i64 0, .int .i64 0] 46)) := bt ((Below.refl _ _).alloc (Nat.le_refl _) _) ((Below.refl _ _).alloc (Nat.le_refl _) _)
   have hJ8 := HJ.out.start (g' := fun _ => 0) (r' := fun _ => 0) (gg' := wr.heap.size) (gi' := wr.heap.size + 1) hb8 ((Blk.new wr 46 #[.int .i64 0, .int .i64 0, .int .i64 0, .int .i64 0, .int .i64 0]).alloc _) (Blk.new' (wr.alloc _) 46 #[.int .i64 0, .int .i64 0, .int .i64 0, .int .i64 0, .int .i64 0] (by simp)) (Nat.le_refl _) (Nat.le_succ _) (by omega)
   obtain ⟨w8, hw8⟩ : ∃ w8, (wr.alloc (.cells #[.int .i64 0, .int .i64 0, .int .i64 0, .int .i64 0, .int .i64 0] 46)).alloc (.cells #[.int .i64 0, .int .i64 0, .int .i64 0, .int .i64 0, .int .i64 0] 46) = w8 := ⟨_, rfl⟩
   obtain ⟨gi, hgi⟩ : ∃ gi, wr.heap.size + 1 = gi := ⟨_, rfl⟩
   obtain ⟨gg, hgg⟩ : ∃ gg, wr.heap.size = gg := ⟨_, rfl⟩
   rw [hw8, hgi, hgg] at hJ8
   try rw [hw8]
   try rw [hgi]
   try rw [hgg]
   have HJ8 := Lib.hid hJ8
   clear hb8 hw8 hgi hgg HJ hJ8
   go_wp2_with fail
   refine (ops_any A0 n0 c0 f0 24 24 w8 rfl (by decide) (hR0.all HJ8.out.below) (Lib.hid (fun j hj => wf_i64 (hw0.out j hj))) (by omega)).mono ?_
   rintro e w9 ⟨Ao, m, co, l, rfl, hO, hm, hb9⟩
   have HJ9 := Lib.hid ((HJ8.out.all hb9).ops (RowT.of_own hO.own))
   have HLM := Lib.hid hO.len
   have HM24 := Lib.hid hm
   have HP9 := Lib.hid (BsJ.start HS.out)
   clear hO hb9 HJ8 HS hm
   go_wp2_with fail
   go_loopg [15, 16, 17, 18, 19, 20, 21, 22, 23, 24, 25, 26, 27] m (fun gk v15 _v16 _v17 _v18 _v19 _v20 _v21 _v22 _v23 _v24 _v25 _v26 _v27 wr => ∃ (i : Nat) (b : BkS) (T ts : List Trd) (At : Option Addr) (g : Int → Int) (S : LSt), i + gk = m ∧ v15 = .int .i64 (i : Int) ∧ Hid (BsJ (mxOf itemsI) i (i : Int) b T T.length g S) ∧ Hid (BsM True W gb gA gg gi (mxOf itemsI) Ao l At ts [] b g (rOf b.os T) S wr))
   case atStart => exact ⟨0, book0, [], [], none, fun _ => 0, S, by omega, rfl, HP9, HJ9⟩
   case round =>
    clear HJ9 HP9
    obtain ⟨i, b, T, ts, At, g, S, hi, rfl, HP, HJ⟩ := hrel
    have HHI := Lib.hid hi
    rcases Nat.lt_or_ge i m with hlt | hge
    ·have hltI : (i : Int) < (m : Int) := by omega
     have hi0 : (0 : Int) ≤ (i : Int) := by omega
     have hi24 : i < 24 := by have := HM24.out; omega
     clear hi
     have hil : i < l.length := by rw [HLM.out]; exact hlt
     obtain ⟨qo, oo, rfl, o0, o1, o2, o3, o4, o5⟩ := HJ.out.op6 hil
     obtain ⟨x, hx⟩ : ∃ x, l[i] = x := ⟨_, rfl⟩
     rw [hx] at o0 o1 o2 o3 o4 o5
     clear hx hil
     go_upto_region 19 with (fail)
     have hba := (Below.refl wr.heap.size wr).alloc (Nat.le_refl _) (.cells #[.int .i64 x.kind, .int .i64 x.acc, .bool x.buy, .int .i64 x.price, .int .i64 x.n, .int .i64 x.id] 50)
     have kba := Blk.new wr 50 #[.int .i64 x.kind, .int .i64 x.acc, .bool x.buy, .int .i64 x.price, .int .i64 x.n, .int .i64 x.id]
     obtain ⟨w4, hw4⟩ : ∃ w4, wr.alloc (.cells #[.int .i64 x.kind, .int .i64 x.acc, .bool x.buy, .int .i64 x.price, .int .i64 x.n, .int .i64 x.id] 50) = w4 := ⟨_, rfl⟩
     rw [hw4] at hba kba
     try rw [hw4]
     have hJ4 := HJ.out.add hba kba (Nat.le_refl _)
     obtain ⟨gx, hgx⟩ : ∃ gx, wr.heap.size = gx := ⟨_, rfl⟩
     rw [hgx] at hJ4 kba
     try rw [hgx]
     have HJ4 := Lib.hid hJ4
     have x1 : w4.cell? ⟨gx, 1, none⟩ = some (.int .i64 x.acc) := kba.cell 1
     have x2 : w4.cell? ⟨gx, 2, none⟩ = some (.bool x.buy) := kba.cell 2
     have x3 : w4.cell? ⟨gx, 3, none⟩ = some (.int .i64 x.price) := kba.cell 3
     have x4 : w4.cell? ⟨gx, 4, none⟩ = some (.int .i64 x.n) := kba.cell 4
     clear o0 o1 o2 o3 o4 o5 hba kba hw4 hgx HJ hJ4
     by_cases h1 : x.acc < 1
     ·go_wp2_with fail
      go_roundg (m - (i + 1))
      case measure => have := HHI.out; omega
      case rel => exact ⟨i + 1, b, T, ts, At, g, S, by have := HHI.out; omega, by go_num, Lib.hid HP.out.skip, Lib.hid (HJ4.out.fewer (fun x hx => by cases hx))⟩
     ·by_cases h2 : 4 < x.acc
      ·go_wp2_with fail
       go_roundg (m - (i + 1))
       case measure => have := HHI.out; omega
       case rel => exact ⟨i + 1, b, T, ts, At, g, S, by have := HHI.out; omega, by go_num, Lib.hid HP.out.skip, Lib.hid (HJ4.out.fewer (fun x hx => by cases hx))⟩
      ·by_cases h3 : 200 < x.price
       ·go_wp2_with fail
        go_roundg (m - (i + 1))
        case measure => have := HHI.out; omega
        case rel => exact ⟨i + 1, b, T, ts, At, g, S, by have := HHI.out; omega, by go_num, Lib.hid HP.out.skip, Lib.hid (HJ4.out.fewer (fun x hx => by cases hx))⟩
       ·by_cases h4 : 200 < x.n
        ·go_wp2_with fail
         go_roundg (m - (i + 1))
         case measure => have := HHI.out; omega
         case rel => exact ⟨i + 1, b, T, ts, At, g, S, by have := HHI.out; omega, by go_num, Lib.hid HP.out.skip, Lib.hid (HJ4.out.fewer (fun x hx => by cases hx))⟩
        ·obtain ⟨id, us, err, b', hE⟩ : ∃ id us err b', placeE b x.acc x.buy x.price x.n = (id, us, err, b') := ⟨_, _, _, _, rfl⟩
         obtain ⟨tk, htk⟩ : ∃ tk, us.length = tk := ⟨_, rfl⟩
         have HE := Lib.hid hE
         have HTK := Lib.hid htk
         clear hE htk
         go_wp2_with fail
         refine (bs_place x.buy x.acc x.price x.n HJ4 (by have := HP.out.len; omega) HE.out HTK.out).mono ?_
         rintro e w5 ⟨A5, c5, rfl, -, hok5, hJ5⟩
         have hr5 := HP.out.place_r HE.out hok5 ⟨by omega, by omega⟩ (by omega) (by omega)
         rw [← hr5] at hJ5
         have HJ5 := Lib.hid hJ5
         have HP5 := Lib.hid (HP.out.place hi24 HE.out hok5 ⟨by omega, by omega⟩ (by omega) (by omega))
         clear x1 x2 x3 x4 HJ4 HE hJ5 hr5 hok5 HP
         go_wp2_with fail
         refine bs_loop3 hi24 HTK HP5 HJ5 ?_
         clear HP5 HJ5
         intros
         rename_i h5
         obtain ⟨g5, S5, HPE, HJE⟩ := h5
         try dsimp only [Exit.then]
         go_wp2_with fail
         go_roundg (m - (i + 1))
         case measure => have := HHI.out; omega
         case rel => exact ⟨i + 1, b', T ++ us, us, A5, g5, S5, by have := HHI.out; omega, by go_num, HPE, HJE⟩
    ·obtain rfl : i = m := by omega
     have hlen := HP.out.len
     have HLEN := Lib.hid hlen
     have hi24 := HM24.out
     clear hi HHI hge hlen
     go_wp2_with fail
     refine bs_loop4 hi24 HLEN HP HJ (fun c a d v w h => by cases d <;> exact h) ?_
     clear HJ
     intros
     rename_i HJ
     try dsimp only [Exit.then]
     have htot0 := bs_total 0 HJ
     have htot1 := bs_total 1 HJ
     rw [HP.out.led.tot0] at htot0
     rw [HP.out.led.tot1] at htot1
     go_wp2_with fail
     refine htot0.mono ?_
     rintro e w6 ⟨rfl, rfl⟩
     go_wp2_with fail
     refine htot1.mono ?_
     rintro e w7 ⟨rfl, rfl⟩
     go_wp2_with fail
     refine (lives_any _).mono ?_
     rintro e w8 ⟨rfl, hb8⟩
     go_wp2
     go_ret
     exact ⟨rfl, bt HJ.out.below hb8⟩
end Go.Proofs.YtlcalajehnaenaaGreatDoor
namespace Go.Proofs.YtlcalajehnaenaaGreatDoor
open Go.ChangeShapes Go.WideShapes Go.ChangeAt Go.RowKit Go.ChangeMaps
set_option maxRecDepth 100000 in
theorem BookSettles_lifted (os : Os) (started : os.Started) (H : Type) (enc : TypeId × Value → H) :
 ReturnsInHanded {} Tryz.checked os 3 .any (fun w args => (Rows.bookSettlesSpec.pre enc Tryz.prog Tryz.f3 [] false w args ∧ laidMetH Tryz.prog laidK w) ∧ sizedMet enc Tryz.prog Tryz.f3 (OpenSpec.ofChange Rows.bookSettlesSpec) false w args)
  (Rows.bookSettlesSpec.post enc Tryz.prog Tryz.f3 false true false false) := by
 refine returnsInHanded_of_change_and (C := Tryz.checked) (X := fun w _ => laidMetH Tryz.prog laidK w) (fun _ _ _ hh h => h.of_heap hh) Tryz.own started (by kernel_rfl) Tryz.func3
  (ChangeSpec.witness_shaped (enc := enc) (C := Tryz.checked) (os := os) (X := fun w _ => laidMetH Tryz.prog laidK w) false (World.doorLaid Tryz.prog 400 os) #[.slice none 0 0] 8 rfl (World.shaped_of_RefB (by kernel_rfl) (by kernel_rfl)) (by kernel_rfl) (by kernel_rfl) (by kernel_rfl) (kinds_door os _)) ?_
 intro W base args ds gs before hval0 hW _ _ hL _
 have hval : ∀ (j : Nat) t v, Tryz.f3.params[j]? = some t → args[j]? = some v → Value.okWide Tryz.prog W .any base t v := hval0
 have hW' := hW
 obtain ⟨p, q, hT0, hV, rfl, hfz, hnd⟩ := hW
 have hT : DataW.TrodAll enc Tryz.prog W 0 (fun _ => true) true Tryz.f3.params.toList args.toList ds p := hT0
 rw [Tryz.params3] at hT hval
 obtain ⟨v0, vs0, d0, ds0, p0, q0, hargs0, rfl, rfl, h0, r0⟩ := trodAll_cons hT
 obtain ⟨rfl, rfl, rfl⟩ := trodAll_nil r0
 obtain rfl : args = #[v0] := by cases args; simp_all
 obtain ⟨A0, n0, c0, f0, rfl, hA0, hn0, hc0, hR0, hw0⟩ := open_sl Tryz.underlying22 Tryz.underlying3 (by kernel_rfl) (hval 0 22 v0 rfl rfl) h0
 refine (BookSettles_walk W A0 n0 c0 f0 hA0 hn0 hc0 hR0 hw0 (Lib.hid (kinds_laid hL))).mono fun e W' ⟨he, hb⟩ => ?_
 subst he
 exact ⟨_, rfl, law_post Tryz.laidOut (by kernel_rfl) (by kernel_rfl) Tryz.underlying4 rfl hW' rfl hb⟩
theorem BookSettles_row : Rows.BookSettlesSaid :=
 OpenClaim.holds_of_wide 3 Tryz.f3 rfl rfl rfl rfl rfl rfl rfl ⟨rfl, rfl, rfl, rfl, rfl⟩ rfl rfl rfl rfl rfl (by kernel_rfl) Tryz.func3 (by kernel_rfl)
  (of_decide_eq_true (by kernel_rfl)) (by unfold Func.isWrapper; first | (rw [if_pos (by decide +kernel)]; kernel_rfl) | (rw [if_neg (by decide +kernel)]; exact ⟨rfl, rfl⟩))
  (fun os started H enc _ => BookSettles_lifted os started H enc)
theorem BookSettles_holds : Rows.BookSettlesCardSaid :=
 Claim7.holds_tied_plain_at .later [] [.data] true Rows.bookSettlesCard.stood.harness true
  BookSettles_row (fun _ h => by cases h) (by kernel_rfl) (fun _ h => by cases h) bookSettles_row_tie rfl ⟨rfl, rfl⟩ (by kernel_rfl) rfl
  (fun f fn hf hfn => by
   obtain rfl : f = 3 := Option.some.inj ((show Tryz.prog.funcNamed "worldmint/worldmintlaw26.BookSettles" = some 3 by kernel_rfl).symm.trans hf) |>.symm
   obtain rfl : fn = Tryz.f3 := (Option.some.inj (Tryz.func3.symm.trans hfn)).symm
   exact ⟨by kernel_rfl, fun j t ht => by
    rw [Tryz.params3] at ht
    have hm : t ∈ [22] := by
     have := Array.mem_of_getElem? ht
     simp at this ⊢
     omega
    have hall : ([22].all fun u => !Tryz.prog.wantsStandIn u) = true := by kernel_rfl
    exact (show Tryz.prog.wantsStandIn t = false by simpa using List.all_eq_true.1 hall t hm)⟩)
  (by kernel_rfl)
end Go.Proofs.YtlcalajehnaenaaGreatDoor
