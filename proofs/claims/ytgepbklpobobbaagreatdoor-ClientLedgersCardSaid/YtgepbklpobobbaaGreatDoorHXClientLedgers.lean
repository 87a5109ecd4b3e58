/- The ledger of a server that performs what is accepted has exactly the units of all requests of a client, once, in whatever order they come (ClientLedgers). The listed variable is lexer's table of the kinds of bytes, tied to the program's text. -/
import Derived.Test.YtgepbklpobobbaaGreatDoorHG48
import Derived.Test.YtgepbklpobobbaaGreatDoorHG49
import Derived.Test.YtgepbklpobobbaaGreatDoorTie
import Derived.Test.YtgepbklpobobbaaGreatDoorCards
import Derived.SevenTiedAt

namespace Go.Proofs.YtgepbklpobobbaaGreatDoor
open Go.ChangeShapes Go.WideShapes Go.ChangeAt Go.RowKit Go.ChangeMaps

set_option maxRecDepth 100000 in
set_option maxHeartbeats 100000000 in
theorem ClientLedgers_walk (W : World) (A0 : Option Addr) (n0 c0 : Nat) (f0 : Nat → Int) (_hA0 : A0 = none → n0 = 0) (_hn0 : n0 ≤ c0) (_hc0 : c0 ≤ 9223372036854775807) (hR0 : Rd W W.heap.size A0 n0 (fun j => .int .i64 (f0 j))) (hw0 : Hid (∀ j, j < n0 → (Lit.int .i64 (f0 j)).wf = true)) (A1 : Option Addr) (n1 c1 : Nat) (f1 : Nat → Int) (_hA1 : A1 = none → n1 = 0) (_hn1 : n1 ≤ c1) (_hc1 : c1 ≤ 9223372036854775807) (hR1 : Rd W W.heap.size A1 n1 (fun j => .int .i64 (f1 j))) (hw1 : Hid (∀ j, j < n1 → (Lit.int .i64 (f1 j)).wf = true)) (HKL : Hid (KL W)) :
    Calls Tryz.prog 3 #[.slice A0 n0 c0, .slice A1 n1 c1] W fun e w' => e = .returned (.bool true) ∧ Below W.heap.size W w' := by
  have hb := Below.refl W.heap.size W
  go_enter Tryz.func3, Tryz.ntmps3
  clear hb
  go_wp2_with fail
  refine (compileG_any _ HKL).mono ?_
  rintro e w1 ⟨Ac, nc, cc, rfl, hI1, hb1⟩
  obtain ⟨ad, rfl⟩ : ∃ ad, Ac = some ad := by
    obtain ⟨b, off, e, -⟩ := hI1.2.2.2.cells (by simp [itemsG, itV])
    exact ⟨_, e⟩
  obtain rfl : nc = 1 := hI1.1.symm
  have hba := (Below.refl w1.heap.size w1).alloc (Nat.le_refl _) (.cells #[.slice (some ad) 1 cc, .slice none 0 0, .slice none 0 0, .slice none 0 0] 28)
  have kba := Blk.new w1 28 #[.slice (some ad) 1 cc, .slice none 0 0, .slice none 0 0, .slice none 0 0]
  have HI1 := Lib.hid (hI1.all hba)
  have HB1 := Lib.hid (hb1.trans (hba.mono hb1.size))
  unfold catA
  clear hb1 hI1
  go_wp2_with fail
  refine (newL_any 1 ad 1 cc itemsG _ (by decide) HI1 (Lib.hid itemsG_ok) (Lib.hid (HKL.out.all HB1.out))).mono ?_
  rintro e w2 ⟨L, rfl, hL2, hit2, -, hlo2, hb2⟩
  have HB2 := Lib.hid (HB1.out.trans (hb2.mono HB1.out.size))
  have HL2 := Lib.hid hL2
  have HLO : Hid (∀ b, LedF L b → W.heap.size ≤ b ∧ b < w2.heap.size) := Lib.hid (fun b hb => ⟨Nat.le_trans HB1.out.size (hlo2 b hb), hL2.lt hb⟩)
  have HIT := Lib.hid hit2
  obtain ⟨gA, hgA⟩ : ∃ gA, L.gl = gA := ⟨_, rfl⟩
  rw [hgA]
  have HG := Lib.hid hgA
  clear hb2 hL2 hlo2 hit2 hgA HI1 HB1 kba hba
  go_wp2_with fail
  refine (newS_any _).mono ?_
  rintro e w3 ⟨gs, mb, rfl, hgs, hmb, hS3, hb3⟩
  have HB3 := Lib.hid (HB2.out.trans (hb3.mono HB2.out.size))
  have HL3 := Lib.hid (HL2.out.all hb3)
  have HS3 := Lib.hid hS3
  have HGE : Hid (W.heap.size ≤ gs ∧ W.heap.size ≤ mb ∧ ∀ b, LedF L b → b ≠ mb ∧ W.heap.size ≤ b) := Lib.hid ⟨Nat.le_trans HB2.out.size hgs, Nat.le_trans HB2.out.size hmb, fun b hb => ⟨fun e => by have := (HLO.out b hb).2; omega, (HLO.out b hb).1⟩⟩
  clear hgs hmb hS3 hb3 HL2 HB2 HLO
  go_wp2_with fail
  refine (call_any 3 77 _).mono ?_
  rintro e w4 ⟨ga, rfl, hga, hC4, hb4⟩
  have HJ4 := CB.new (mx := mxOf itemsG) (HB3.out.trans (hb4.mono HB3.out.size)) (HS3.out.all hb4) HGE.out.1 HGE.out.2.1 (HL3.out.all hb4) HIT.out HGE.out.2.2
  rw [HG.out] at HJ4
  replace HJ4 := Lib.hid HJ4
  have HC4 := Lib.hid (CC.new hC4 (Nat.le_trans HB3.out.size hga))
  clear hga hC4 hb4 HB3 HL3 HS3 HGE HIT HG L
  go_wp2_with fail
  refine (cb_join HJ4 HC4).mono ?_
  rintro e w5 ⟨rfl, hJ5, hC5⟩
  have HJ5 := Lib.hid hJ5
  have HC5 := Lib.hid hC5
  clear hJ5 hC5 HJ4 HC4
  go_wp2_with fail
  obtain ⟨K, hK0, hK12, hK⟩ : ∃ K, K ≤ n0 ∧ K ≤ 12 ∧ (K = n0 ∨ K = 12) := ⟨min n0 12, by omega, by omega, by omega⟩
  go_loopg [11, 12, 13, 14, 15, 16, 17] K (fun gk v11 v12 v13 _v14 _v15 _v16 _v17 wr => ∃ (i : Nat) (ns : List Int) (N op : List Rq) (A : Option Addr) (c : Nat), i + gk = K ∧ v13 = .int .i64 (i : Int) ∧ v12 = .int .i64 ns.sum ∧ v11 = .slice A i c ∧ Hid (N.length = i) ∧ Hid (op.length = i) ∧ Hid (Snt ns N) ∧ Hid (CB W gs mb gA (mxOf itemsG) sig0 (.slice A i c) N (lst0 1) wr) ∧ Hid (CC W ga (.slice A i c) op wr))
  case atStart => exact ⟨0, [], [], [], none, 0, by omega, rfl, rfl, rfl, Lib.hid rfl, Lib.hid rfl, Lib.hid ⟨rfl, fun k h => absurd h (by simp), fun n h => by cases h⟩, HJ5, HC5⟩
  case round =>
    clear HJ5 HC5
    obtain ⟨i, ns, N, op, A, c, hi, rfl, rfl, rfl, HLN, HLO, HS, HJ, HC⟩ := hrel
    have HHI := Lib.hid hi
    rcases Nat.lt_or_ge i K with hlt | hge
    · have hltI : (i : Int) < (n0 : Int) := by omega
      have hlt12 : (i : Int) < 12 := by omega
      have hi0 : (0 : Int) ≤ (i : Int) := by omega
      clear hi hK
      obtain ⟨b0, off0, rfl, -, hc0⟩ := (hR0.all HJ.out.below).at_ (show i < n0 by omega)
      obtain ⟨x0, x1⟩ := wf_i64 (hw0.out i (by omega))
      go_wp2_with fail
      refine (around_nat (f0 i) 900 _ _ rfl x0 x1 (by decide) (by decide)).mono ?_
      rintro e w6 ⟨k, rfl, hk, -, rfl⟩
      obtain ⟨z, hz⟩ : ∃ z : Int, z = 1 + (k : Int) := ⟨_, rfl⟩
      have hz1 : 1 ≤ z ∧ z ≤ 900 := by omega
      have HZ := Lib.hid hz1
      go_wp2_with fail
      rw [← hz]
      clear hz hk hz1
      have hbx := (Below.refl wr.heap.size wr).alloc (Nat.le_refl _) (.cells #[.slice none 0 0] 46)
      have hW0 := WrV.new wr
      obtain ⟨w7, hw7⟩ : ∃ w7, wr.alloc (.cells #[.slice none 0 0] 46) = w7 := ⟨_, rfl⟩
      rw [hw7] at hbx hW0 ⊢
      have HW7 := Lib.hid hW0
      have HX7 := Lib.hid hbx
      clear hbx hW0 hw7
      refine (wintV_any wr.heap.size (.slice none 0 0) [] z w7 HW7 (by have := HZ.out; omega) (by have := HZ.out; omega) (by decide)).mono ?_
      rintro e w8 ⟨rfl, v8, hv8, hm8, -⟩
      have hbw := hm8.below HX7.out HX7.out.size (fun b hb => hb.elim (fun e => Nat.le_of_eq e.symm) (fun e => by simp [Value.ownBlock] at e))
      have HW8 : Hid (Wr w8 0 wr.heap.size (encInt z)) := Lib.hid hv8.wr
      have HX8 := Lib.hid hbw
      have hrl : (encInt z).length ≤ 10 := encInt_len (by have := HZ.out; omega) (by have := HZ.out; omega)
      clear hv8 hm8 hbw HW7 HX7
      go_wp2_with fail
      refine (wdone_any 0 wr.heap.size (encInt z) w8 HW8 (by omega)).mono ?_
      rintro e w9 ⟨A9, n9, c9, rfl, -, -, HL9, hown9, -, hb9⟩
      have HB9 := Lib.hid (Bts.of_own hown9).1
      have hbw := HX8.out.trans (hb9.mono HX8.out.size)
      have HJ9 := Lib.hid (HJ.out.all hbw)
      have HC9 := Lib.hid (HC.out.all hbw)
      clear hown9 hb9 hbw HX8 HW8 HJ HC
      have hop : op.length < 16 := by have := HLO.out; omega
      go_wp2_with fail
      refine (cb_send A9 n9 c9 (encInt z) HJ9 HC9 HB9 hop (by omega)).mono ?_
      rintro e w10 ⟨r, r', rfl, hok, hlog, hJ10, hC10⟩
      rw [HLO.out] at hlog
      have HS' : Hid (Snt (ns ++ [z]) (N ++ [r])) := Lib.hid (HS.out.push (by rw [HLN.out]; exact hlog) HZ.out)
      have hsum := sum_le HS.out.rng
      have hlen := HS.out.len
      have hs0 : 0 ≤ ns.sum ∧ ns.sum ≤ 10800 := by have := HLN.out; omega
      have HSUM := Lib.hid hs0
      have hba := (Below.refl w10.heap.size w10).alloc (Nat.le_refl _) (.cells #[.int .i64 r.cl, .int .i64 r.num, .slice r.A r.n r.c, .int .u64 r.tag] 49)
      have kba := Blk.new w10 49 #[.int .i64 r.cl, .int .i64 r.num, .slice r.A r.n r.c, .int .u64 r.tag]
      have HJ11 := Lib.hid (hJ10.all hba)
      have HC11 := Lib.hid (hC10.all hba)
      have HOK := Lib.hid (hok.all hba)
      clear hok hlog hJ10 hC10 HJ9 HC9 HB9 HL9 hrl hop hsum hlen hs0 hba kba
      obtain ⟨w11, hw11⟩ : ∃ w11, w10.alloc (.cells #[.int .i64 r.cl, .int .i64 r.num, .slice r.A r.n r.c, .int .u64 r.tag] 49) = w11 := ⟨_, rfl⟩
      have kba : Blk w11 w10.heap.size 49 #[.int .i64 r.cl, .int .i64 r.num, .slice r.A r.n r.c, .int .u64 r.tag] := hw11 ▸ Blk.new w10 _ _
      obtain ⟨c0, c1, c2, c3, -⟩ := blk4 kba
      rw [hw11] at HJ11 HC11 HOK
      have hnet := HJ11.out.net
      rw [HLN.out] at hnet
      have HNET := Lib.hid hnet
      clear hnet kba
      go_upto_region 16 with (fail)
      clear hw11
      go_wp2_with (at_builtin; refine wpList_append1 (v := .slice A i c) slT_req rfl rfl rfl w11.heap.size rfl (HNET.out.alloc _) #[.int .i64 r.cl, .int .i64 r.num, .slice r.A r.n r.c, .int .u64 r.tag] (Blk.new w11 _ _) rfl (by simp; exact ⟨rfl, rfl, rfl, rfl⟩) (by omega) (by decide) (by omega) ?_; intro g5 cap5 w12 ho12 hg12 hat12)
      rw [← HLN.out] at ho12
      have hpush := HJ11.out.push (vN' := .slice (some ⟨g5, 0, none⟩) (i + 1) cap5) HC11.out HOK.out (by rw [← HLN.out]; exact ho12) hg12 (hat12.imp (fun e => e) (fun e b hb => by
        simp only [Value.ownBlock, Option.some.injEq] at hb
        rw [← hb, e]
        simp))
      have HJ12 := Lib.hid hpush.1
      have HC12 := Lib.hid hpush.2
      clear hpush ho12 hg12 hat12 HJ11 HC11 HOK HNET
      go_roundg (K - (i + 1))
      case measure => have := HHI.out; omega
      case rel => exact ⟨i + 1, ns ++ [z], N ++ [r], op ++ [r'], _, cap5, by have := HHI.out; omega, by go_num, by
        rw [List.sum_append, List.sum_singleton]
        have := HSUM.out
        have := HZ.out
        refine congrArg _ ?_
        unfold wrap64
        omega, rfl, Lib.hid (by rw [List.length_append, HLN.out]; rfl), Lib.hid (by rw [List.length_append, HLO.out]; rfl), HS', HJ12, HC12⟩
    · obtain rfl : i = K := by omega
      obtain ⟨K2, hK2⟩ : ∃ K2, (i = 0 ∧ K2 = 0) ∨ (0 < i ∧ K2 = 36 + 12 * i) := by
        rcases Nat.eq_zero_or_pos i with h | h
        · exact ⟨0, .inl ⟨h, rfl⟩⟩
        · exact ⟨36 + 12 * i, .inr ⟨h, rfl⟩⟩
      have HK2 := Lib.hid hK2
      have HL12 : Hid (ns.length ≤ 12) := Lib.hid (by have h1 := HS.out.len; have h2 := HLN.out; omega)
      have hi12 : (i : Int) ≤ 12 := by omega
      clear hi hK2 HHI HC HLO op
      have hways : (i : Int) < (n0 : Int) ∧ ¬ (i : Int) < 12 ∨ ¬ (i : Int) < (n0 : Int) := by omega
      clear hK hge hK0 hK12
      rcases hways with ⟨hq1, hq2⟩ | hq1
      all_goals
        go_wp2_with fail
        go_loopg [18, 19, 20, 21, 22, 23, 24, 25] K2 (fun gk v18 _v19 _v20 _v21 _v22 _v23 _v24 _v25 wr => ∃ (j d : Nat) (σ : Int → Option CSt) (S : LSt), j + gk = K2 ∧ v18 = .int .i64 (j : Int) ∧ Hid (P2 (mxOf itemsG) σ ns d S) ∧ Hid (36 ≤ j → Far i (j - 36) d) ∧ Hid (CB W gs mb gA (mxOf itemsG) σ (.slice A i c) N S wr))
        case atStart => exact ⟨0, 0, sig0, lst0 1, by omega, rfl, Lib.hid ⟨SesP.zero _, LgI.zero _, Nat.zero_le _⟩, Lib.hid (fun h => absurd h (by decide)), HJ⟩
        case round =>
          clear HJ
          obtain ⟨j, d, σ, S, hj, rfl, HP, HF, HJ⟩ := hrel
          have HHJ := Lib.hid hj
          rcases Nat.lt_or_ge j K2 with hlt | hge
          · have hi0 : 0 < i := by have := HK2.out; omega
            have hi0' : (0 : Int) < (i : Int) := by omega
            have hj0 : (0 : Int) ≤ (j : Int) := by omega
            have hjK : (j : Int) < 36 + 12 * (i : Int) := by have := HK2.out; omega
            clear hj
            go_wp2_with fail
            refine (pick_nat A1 n1 c1 f1 j _ i _ wr wr.heap.size rfl rfl (hR1.all HJ.out.below) (Lib.hid (fun j hj => wf_i64 (hw1.out j hj))) hi0 (by omega)).mono ?_
            rintro e w2 ⟨k0, rfl, hk0, -, rfl⟩
            go_upto_if 113 with (fail)
            go_cut [19] from 94 to 159 (fun v wx => ∃ k : Nat, v = .int .i64 (k : Int) ∧ k < i ∧ (36 ≤ j → k = j % i) ∧ wx = wr)
            case first =>
              rcases Nat.lt_or_ge j 36 with h36 | h36
              · have h36' : ¬ (36 : Int) ≤ (j : Int) := by omega
                go_wp2_with fail
                go_meet
                exact ⟨k0, rfl, hk0, fun h => absurd h (by omega), rfl⟩
              · have h36' : (36 : Int) ≤ (j : Int) := by omega
                go_wp2_with fail
                go_meet
                exact ⟨j % i, by go_num, Nat.mod_lt _ hi0, fun _ => rfl, rfl⟩
            case rest =>
              obtain ⟨k, rfl, hk, hkj, rfl⟩ := hcut
              have HKJ := Lib.hid hkj
              have hk' : k < N.length := by rw [HLN.out]; exact hk
              have hkI : (k : Int) < (i : Int) := by omega
              have hk0' : (0 : Int) ≤ (k : Int) := by omega
              clear hkj hk0
              obtain ⟨g, rfl, -, c0, c1, c2, c3⟩ := HJ.out.cell hk'
              obtain ⟨r, hr⟩ : ∃ r, N[k] = r := ⟨_, rfl⟩
              have hmem : r ∈ N := hr ▸ List.getElem_mem hk'
              obtain ⟨p1, p2, p3⟩ := HS.out.parts hk'
              rw [hr] at c0 c1 c2 c3 p1 p2 p3
              have HMEM := Lib.hid hmem
              have HR := Lib.hid hr
              have HP3 := Lib.hid p3
              have HP1 := Lib.hid p1
              have HP2 := Lib.hid p2
              clear hmem hr p1 p2 p3
              go_wp2_with fail
              clear c0 c1 c2 c3
              refine (cb_accept r HJ HMEM (by rw [HP2.out]; omega) (Lib.hid (by rw [HP1.out]; exact HP.out.lt HL12.out))).mono ?_
              rintro e w4 ⟨A4, n4, cp4, rfl, hJ4⟩
              by_cases hkd : k = d
              · subst hkd
                have hyes := HP.out.yes HS.out hk' (by rw [HR.out]; exact HJ.out.ok r HMEM.out) HL12.out
                rw [HR.out] at hyes
                obtain ⟨y1, y2, y3⟩ := hyes
                rw [y1]
                have Y2 := Lib.hid y2
                have Y3 := Lib.hid y3
                have hb4 : r.ok w4 := hJ4.ok r HMEM.out
                obtain ⟨g', hg', -, c0, c1, c2, c3⟩ := hJ4.cell hk'
                injection hg' with hg'
                injection hg' with hg'
                subst hg'
                rw [HR.out] at c2
                have HJ4 := Lib.hid hJ4
                have HL4 := Lib.hid hb4.1.1
                have HB4 := Lib.hid hb4
                clear c0 c1 c3 hJ4 y1 y2 y3 hb4
                go_wp2_with fail
                clear c2
                refine (read_any r.A r.n r.c r.bs w4 HL4 HB4.out.1.rd (Nat.le_trans HB4.out.2 (by decide))).mono ?_
                rintro e w5 ⟨gR, rfl, hgR, hRd, hb5, -⟩
                have HRD := Lib.hid hRd
                have HB5 := Lib.hid hb5
                clear hRd hb5 HL4 HB4
                go_wp2_with fail
                refine (rint_any w5.heap.size gR r.bs 0 w5 HRD).mono ?_
                rintro e w6 ⟨rfl, -, hgr⟩
                have hb6 := HB5.out.grown hgr HB5.out.size (fun k e => by injection e with e; omega)
                have HJ6 := Lib.hid (HJ4.out.all hb6)
                obtain ⟨z, hz⟩ : ∃ z, ns[k]?.getD 0 = z := ⟨_, rfl⟩
                have hv : unzigI (readU r.bs 0).2.1 = z := by rw [HP3.out, read_bod HS.out, hz]
                have hzr : 1 ≤ z ∧ z ≤ 900 := by
                  have hl : k < ns.length := by rw [← HS.out.len]; exact hk'
                  rw [← hz, List.getElem?_eq_getElem hl]
                  exact HS.out.rng _ (List.getElem_mem hl)
                rw [hv]
                have HZ := Lib.hid hzr
                have HZE := Lib.hid hz
                clear hgr hb6 hz hv hzr HB5 HRD HJ4 hgR
                go_wp2_with fail
                have hba := (Below.refl w6.heap.size w6).alloc (Nat.le_refl _) (.cells #[.int .i64 0, .int .i64 3, .int .i64 0, .int .i64 z, .slice none 0 0] 63)
                have hpost := cb_post (ns := ns.take k) w6.heap.size z (Lib.hid (HJ6.out.all hba)) (Lib.hid HP.out.led) (Lib.hid (fun n hn => HS.out.rng n (List.mem_of_mem_take hn))) (by rw [List.length_take]; omega) HZ.out (Lib.hid (Blk.new w6 63 #[.int .i64 0, .int .i64 3, .int .i64 0, .int .i64 z, .slice none 0 0]))
                unfold stA at hpost
                refine hpost.mono ?_
                rintro e w7 ⟨kk, S', rfl, hL', hJ7⟩
                obtain ⟨g', hg', -, c0, c1, c2, c3⟩ := hJ7.cell hk'
                injection hg' with hg'
                injection hg' with hg'
                subst hg'
                rw [HR.out, HP2.out] at c1
                have HJ7 := Lib.hid hJ7
                have HL7 := Lib.hid hL'
                clear c0 c2 c3 hJ7 hL' hpost hba HJ6
                go_wp2_with fail
                clear c1
                refine (cb_answer 3 ((k : Int) + 1) HJ7).mono ?_
                rintro e w8 ⟨rfl, hJ8⟩
                rw [Y2.out]
                have HJ8 := Lib.hid hJ8
                clear hJ8 HJ7
                go_wp2_with fail
                go_roundg (K2 - (j + 1))
                case measure => have := HHJ.out; omega
                case rel => exact ⟨j + 1, k + 1, _, S', by have := HHJ.out; omega, by go_num, Lib.hid (Y3.out S' (by rw [HZE.out]; exact HL7.out)), Lib.hid (fun h => by
                  rcases Nat.lt_or_ge j 36 with h36 | h36
                  · rw [show j + 1 - 36 = 0 by omega]
                    exact Far.zero hi0 (by omega)
                  · rw [show j + 1 - 36 = j - 36 + 1 by omega]
                    exact (HF.out h36).step hi0 (by rw [if_pos (by rw [show 36 + (j - 36) = j by omega]; exact (HKJ.out h36).symm)])), HJ8⟩
              · have hno := HP.out.no HS.out hk' (by rw [HR.out]; exact HJ.out.ok r HMEM.out) hkd
                rw [HR.out] at hno
                rw [hno.2] at hJ4
                rw [hno.1]
                have HJ4 := Lib.hid hJ4
                clear hJ4 hno
                go_wp2_with fail
                go_roundg (K2 - (j + 1))
                case measure => have := HHJ.out; omega
                case rel => exact ⟨j + 1, d, σ, S, by have := HHJ.out; omega, by go_num, HP, Lib.hid (fun h => by
                  rcases Nat.lt_or_ge j 36 with h36 | h36
                  · rw [show j + 1 - 36 = 0 by omega]
                    exact Far.zero hi0 (by have h1 := HP.out.le; have h2 := HS.out.len; have h3 := HLN.out; omega)
                  · rw [show j + 1 - 36 = j - 36 + 1 by omega]
                    exact (HF.out h36).step hi0 (by rw [if_neg (fun e => hkd (by rw [HKJ.out h36, ← e, show 36 + (j - 36) = j by omega]))])), HJ4⟩
          · obtain rfl : j = K2 := by omega
            have hdi : d = i := by
              have h1 := HP.out.le
              have h2 := HS.out.len
              have h3 := HLN.out
              rcases HK2.out with ⟨h4, h5⟩ | ⟨h4, h5⟩
              · omega
              · have h6 := HF.out (by omega)
                rw [show j - 36 = 12 * i by omega] at h6
                exact h6.done h4 (by omega)
            have hsum : (ns.take d).sum = ns.sum := by rw [hdi, ← HLN.out, HS.out.len, List.take_length]
            have hlast := HP.out.last
            have hbal := cb_balance (ns := ns.take d) HJ (Lib.hid HP.out.led)
            rw [hsum] at hbal
            rw [hdi] at hlast
            have hwy : (j : Int) < 36 + 12 * (i : Int) ∧ ¬ (0 : Int) < (i : Int) ∨ ¬ (j : Int) < 36 + 12 * (i : Int) := by have := HK2.out; omega
            clear hj hge hdi hsum HHJ HK2 HF HP
            rcases hwy with ⟨he1, he2⟩ | he1
            all_goals try (exfalso; omega)
            all_goals
              go_wp2_with fail
              refine hbal.mono ?_
              rintro e w9 ⟨rfl, hJ9⟩
              have HJ9 := Lib.hid hJ9
              have hl9 := cb_last 3 HJ9
              rw [hlast] at hl9
              clear hJ9 hbal
              go_wp2_with fail
              refine hl9.mono ?_
              rintro e w10 ⟨rfl, rfl⟩
              clear hl9
              go_wp2_with fail
              refine (lives37_any _).mono ?_
              rintro e w11 ⟨rfl, hb11⟩
              go_wp2
              go_ret
              exact ⟨rfl, bt HJ9.out.below hb11⟩
end Go.Proofs.YtgepbklpobobbaaGreatDoor

/- The ledger of a server that performs what is accepted has exactly the units of all requests of a client, once, in whatever order they come (ClientLedgers). The listed variable is lexer's table of the kinds of bytes, tied to the program's text. -/
namespace Go.Proofs.YtgepbklpobobbaaGreatDoor
open Go.ChangeShapes Go.WideShapes Go.ChangeAt Go.RowKit Go.ChangeMaps

set_option maxRecDepth 100000 in
theorem ClientLedgers_lifted (os : Os) (started : os.Started) (H : Type) (enc : TypeId × Value → H) :
    ReturnsInHanded {} Tryz.checked os 3 .any (fun w args => (Rows.clientLedgersSpec.pre enc Tryz.prog Tryz.f3 [] false w args ∧ laidMetH Tryz.prog laidK w) ∧ sizedMet enc Tryz.prog Tryz.f3 (OpenSpec.ofChange Rows.clientLedgersSpec) false w args)
      (Rows.clientLedgersSpec.post enc Tryz.prog Tryz.f3 false true false false) := by
  refine returnsInHanded_of_change_and (C := Tryz.checked) (X := fun w _ => laidMetH Tryz.prog laidK w) (fun _ _ _ hh h => h.of_heap hh) Tryz.own started (by kernel_rfl) Tryz.func3
    (ChangeSpec.witness_shaped (enc := enc) (C := Tryz.checked) (os := os) (X := fun w _ => laidMetH Tryz.prog laidK w) false (World.doorLaid Tryz.prog 400 os) #[.slice none 0 0, .slice none 0 0] 8 rfl (World.shaped_of_RefB (by kernel_rfl) (by kernel_rfl)) (by kernel_rfl) (by kernel_rfl) (by kernel_rfl) (kinds_door os _)) ?_
  intro W base args ds gs before hval0 hW _ _ hL _
  have hval : ∀ (j : Nat) t v, Tryz.f3.params[j]? = some t → args[j]? = some v → Value.okWide Tryz.prog W .any base t v := hval0
  have hW' := hW
  obtain ⟨p, q, hT0, hV, rfl, hfz, hnd⟩ := hW
  have hT : DataW.TrodAll enc Tryz.prog W 0 (fun _ => true) true Tryz.f3.params.toList args.toList ds p := hT0
  rw [Tryz.params3] at hT hval
  obtain ⟨v0, vs0, d0, ds0, p0, q0, hargs0, rfl, rfl, h0, r0⟩ := trodAll_cons hT
  obtain ⟨v1, vs1, d1, ds1, p1, q1, hargs1, rfl, rfl, h1, r1⟩ := trodAll_cons r0
  obtain ⟨rfl, rfl, rfl⟩ := trodAll_nil r1
  obtain rfl : args = #[v0, v1] := by cases args; simp_all
  obtain ⟨A0, n0, c0, f0, rfl, hA0, hn0, hc0, hR0, hw0⟩ := open_sl Tryz.underlying22 Tryz.underlying3 (by kernel_rfl) (hval 0 22 v0 rfl rfl) h0
  obtain ⟨A1, n1, c1, f1, rfl, hA1, hn1, hc1, hR1, hw1⟩ := open_sl Tryz.underlying22 Tryz.underlying3 (by kernel_rfl) (hval 1 22 v1 rfl rfl) h1
  refine (ClientLedgers_walk W A0 n0 c0 f0 hA0 hn0 hc0 hR0 hw0 A1 n1 c1 f1 hA1 hn1 hc1 hR1 hw1 (Lib.hid (kinds_laid hL))).mono fun e W' ⟨he, hb⟩ => ?_
  subst he
  exact ⟨_, rfl, law_post Tryz.laidOut (by kernel_rfl) (by kernel_rfl) Tryz.underlying4 rfl hW' rfl hb⟩

theorem ClientLedgers_row : Rows.ClientLedgersSaid :=
  OpenClaim.holds_of_wide 3 Tryz.f3 rfl rfl rfl rfl rfl rfl rfl ⟨rfl, rfl, rfl, rfl, rfl⟩ rfl rfl rfl rfl rfl (by kernel_rfl) Tryz.func3 (by kernel_rfl)
    (of_decide_eq_true (by kernel_rfl)) (by unfold Func.isWrapper; first | (rw [if_pos (by decide +kernel)]; kernel_rfl) | (rw [if_neg (by decide +kernel)]; exact ⟨rfl, rfl⟩))
    (fun os started H enc _ => ClientLedgers_lifted os started H enc)

theorem ClientLedgers_holds : Rows.ClientLedgersCardSaid :=
  Claim7.holds_tied_plain_at .later [] [.data] true Rows.clientLedgersCard.stood.harness true
    ClientLedgers_row (fun _ h => by cases h) (by kernel_rfl) (fun _ h => by cases h) clientLedgers_row_tie rfl ⟨rfl, rfl⟩ (by kernel_rfl) rfl
    (fun f fn hf hfn => by
      obtain rfl : f = 3 := Option.some.inj ((show Tryz.prog.funcNamed "worldmint/worldmintlaw37.ClientLedgers" = some 3 by kernel_rfl).symm.trans hf) |>.symm
      obtain rfl : fn = Tryz.f3 := (Option.some.inj (Tryz.func3.symm.trans hfn)).symm
      exact ⟨by kernel_rfl, fun j t ht => by
        rw [Tryz.params3] at ht
        have hm : t ∈ [22] := by
          have := Array.mem_of_getElem? ht
          simp at this ⊢
          omega
        have hall : ([22].all fun u => !Tryz.prog.wantsStandIn u) = true := by kernel_rfl
        exact (show Tryz.prog.wantsStandIn t = false by simpa using List.all_eq_true.1 hall t hm)⟩)
    (by kernel_rfl)
end Go.Proofs.YtgepbklpobobbaaGreatDoor
