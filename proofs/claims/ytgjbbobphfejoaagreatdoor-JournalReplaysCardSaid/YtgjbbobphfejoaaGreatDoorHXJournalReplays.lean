/- Posting the steps of the records behind a crash gives the holdings after some number of the steps, at least those whose Append returned OK (JournalReplays). The listed variable is lexer's table of the kinds of bytes, tied to the program's text. -/
import Derived.Test.YtgjbbobphfejoaaGreatDoorHG48
import Derived.Test.YtgjbbobphfejoaaGreatDoorHG41
import Derived.StillTailTactics
import Derived.BigQuiet
import Derived.Test.YtgjbbobphfejoaaGreatDoorTie
import Derived.Test.YtgjbbobphfejoaaGreatDoorCards
import Derived.SevenTiedAt

namespace Go.Proofs.YtgjbbobphfejoaaGreatDoor
open Go.ChangeShapes Go.WideShapes Go.ChangeAt Go.RowKit Go.ChangeMaps

set_option maxRecDepth 100000 in
set_option maxHeartbeats 100000000 in
theorem JournalReplays_walk (W : World) (A0 : Option Addr) (n0 c0 : Nat) (f0 : Nat → Int) (_hA0 : A0 = none → n0 = 0) (_hn0 : n0 ≤ c0) (_hc0 : c0 ≤ 9223372036854775807) (hR0 : Rd W W.heap.size A0 n0 (fun j => .int .i64 (f0 j))) (hw0 : Hid (∀ j, j < n0 → (Lit.int .i64 (f0 j)).wf = true)) (A1 : Option Addr) (n1 c1 : Nat) (f1 : Nat → Int) (_hA1 : A1 = none → n1 = 0) (_hn1 : n1 ≤ c1) (_hc1 : c1 ≤ 9223372036854775807) (hR1 : Rd W W.heap.size A1 n1 (fun j => .int .i64 (f1 j))) (hw1 : Hid (∀ j, j < n1 → (Lit.int .i64 (f1 j)).wf = true)) (a2 : Int) (ha2 : Hid ((Lit.int .i64 a2).wf = true)) (a3 : Int) (ha3 : Hid ((Lit.int .i64 a3).wf = true)) (HKL : Hid (KL W)) :
    Calls Tryz.prog 3 #[.slice A0 n0 c0, .slice A1 n1 c1, .int .i64 a2, .int .i64 a3] W fun e w' => e = .returned (.bool true) ∧ Below W.heap.size W w' := by
  have hb := Below.refl W.heap.size W
  go_enter Tryz.func3, Tryz.ntmps3
  clear hb
  go_wp2_with fail
  refine (fresh_any 20000 _ (by decide)).mono ?_
  rintro e w2 ⟨g, mb, rfl, hg2, hmb2, hD2, hb2⟩
  go_wp2_with fail
  refine (open_clean g mb 20000 (-1) [] 1 [] _ (Lib.hid hD2) (by decide) (by decide) (Lib.hid rfl) (Lib.hid rfl)).mono ?_
  rintro e w3 ⟨gl, v3, L3, fs3, rfl, hgl3, hL3, hv3, hbs3, -, hst3, hD3, m3, hF3, hng3⟩
  replace hst3 : fs3.map Fl.log = [] := hst3
  obtain rfl : fs3 = [] := by simpa using hst3
  replace hD3 : DskAt w3 g mb 20000 false (-1) [] := hD3
  replace hL3 : LogAt w3 gl g 1 0 true := hL3
  have hbl3 : ∀ b, DskF g mb [] b → b = g ∨ b = mb := by
    rintro b (e | e | ⟨f, hf, -⟩)
    · exact .inl e
    · exact .inr e
    · cases hf
  have hB3 : Below W.heap.size W w3 := m3.below hb2 hb2.size (fun b hb => (hbl3 b hb).elim (fun e => e ▸ hg2) (fun e => e ▸ hmb2))
  have hw2 := hb2.size
  obtain ⟨Az, cz, rfl⟩ := hv3.slice
  have hR3 : RL W.heap.size g mb gl 20000 false (-1) [] 0 true w3 := ⟨⟨[], hD3, rfl, fun b hb => (hbl3 b hb).elim (fun e => e ▸ hg2) (fun e => e ▸ hmb2), hng3⟩, hL3, by omega, hB3.size⟩
  have HR3 := Lib.hid hR3
  have HB3 := Lib.hid hB3
  clear hst3 hv3 hbs3 m3 hF3 hD2 hb2 hD3 hL3 hbl3 hng3 hB3 hw2 hR3
  obtain ⟨bit1, bit2⟩ := wf_i64 ha2.out
  obtain ⟨bit3, bit4⟩ := wf_i64 ha3.out
  go_wp2_with fail
  refine (refCat_any _).mono ?_
  rintro e w4 ⟨ad, rfl, hI4, hb4⟩
  have HB4 := Lib.hid (HB3.out.trans (hb4.mono HB3.out.size))
  have HR4 := Lib.hid (HR3.out.all hb4)
  have HI4 := Lib.hid hI4
  clear hb4 hI4 HB3 HR3
  go_wp2_with fail
  refine (newL_any 0 ad 4 4 refItems _ (by decide) HI4 (Lib.hid refItems_ok) (Lib.hid (HKL.out.all HB4.out))).mono ?_
  rintro e w5 ⟨L5, rfl, hL5, hit5, hes5, hlo5, hb5⟩
  have hm4 := HR4.out.mbt
  have hap5 : ∀ b, LedF L5 b → b ≠ mb ∧ W.heap.size ≤ b := fun b hb => ⟨fun e => by have := hlo5 b hb; have := hm4.2; omega, Nat.le_trans HB4.out.size (hlo5 b hb)⟩
  have HB5 := Lib.hid (HB4.out.trans (hb5.mono HB4.out.size))
  have HR5 := Lib.hid (HR4.out.all hb5)
  have HL5 := Lib.hid hL5
  have HA5 := Lib.hid hap5
  obtain ⟨gA, hgA⟩ : ∃ gA, L5.gl = gA := ⟨_, rfl⟩
  rw [hgA]
  have HG := Lib.hid hgA
  have HIT := Lib.hid hit5
  clear hm4 hap5 hlo5 hb5 hL5 hgA hit5 hes5 HR4 HI4 HB4
  go_wp2_with fail
  refine (around_nat a2 15 _ _ rfl bit1 bit2 (by decide) (by decide)).mono ?_
  rintro e w6 ⟨p, rfl, hp, -, rfl⟩
  obtain ⟨fs5, hD5, hst5, hgl5, -, hN5, -⟩ := HR5.out.next
  go_wp2_with fail
  refine (arm_any g mb 20000 (-1) (p : Int) fs5 _ (Lib.hid hD5) (by omega)).mono ?_
  rintro e w6 ⟨rfl, k6⟩
  obtain ⟨hR6, hM6⟩ := hN5 _ _ _ _ k6
  rw [hst5, show max (p : Int) (-1) = (p : Int) by omega] at hR6
  have HL6 := Lib.hid (HL5.out.log HR5.out.mbt.1 (fun b hb => (HA5.out b hb).1) hM6)
  have HB6 := Lib.hid (HB5.out.trans (MR.below hM6 HR5.out.size))
  have HR6 := Lib.hid hR6
  clear k6 hR6 hM6 hN5 hD5 hst5 hgl5 HL5 HR5 HB5 hp
  go_wp2_with fail
  refine (spawns_any A0 n0 c0 f0 w6 (Lib.hid (hR0.all HB6.out)) (Lib.hid (fun j hj => wf_i64 (hw0.out j hj)))).mono ?_
  rintro e w7 ⟨A7, n7, c7, ps7, rfl, hS7, hn7, hp7, hb7⟩
  have HR7 := Lib.hid (HR6.out.all hb7)
  have HL7 := Lib.hid (HL6.out.all hb7)
  have HB7 := Lib.hid (HB6.out.trans (hb7.mono HB6.out.size))
  have HP7 : Hid (∀ p ∈ ps7, QOk (p.z, p.m)) := Lib.hid (fun p hp => by
    obtain ⟨h1, h2⟩ := hp7 p hp
    rw [h1]
    exact h2.ok)
  have hS7' := hS7.lower HB6.out.size
  obtain rfl : n7 = ps7.length := by
    obtain ⟨A', c', he⟩ := own_split hS7'.own
    injection he
  have HAP7 : Hid (∀ b, LedF L5 b → b ≠ mb ∧ (Value.slice A7 ps7.length c7).ownBlock ≠ some b ∧ W.heap.size ≤ b) := Lib.hid (fun b hb => ⟨(HA5.out b hb).1, fun e => by
    have h1 := (hS7.own.lt b e).1
    have h2 := HL6.out.lt hb
    omega, (HA5.out b hb).2⟩)
  have HS7 := Lib.hid hS7'
  clear hS7 hS7' hp7 hb7 HR6 HL6 HA5
  go_wp2
  go_loopg [15, 16, 17] 4 (fun gk v iv kv wr => ∃ (i : Nat) (ps : List Stp) (A' : Option Addr) (c' : Nat), i + gk = 4 ∧ iv = .int .i64 (i : Int) ∧ v = .slice A' ps.length c' ∧ ps.length ≤ 8 + i ∧ Hid (StpsAt W.heap.size wr (.slice A' ps.length c') ps) ∧ Hid (∀ p ∈ ps, QOk (p.z, p.m)) ∧ Hid (Below W.heap.size W wr) ∧ Hid (RL W.heap.size g mb gl 20000 false (p : Int) [] 0 true wr) ∧ Hid (LedAt (mxOf refItems) wr L5 (lst0 0)) ∧ Hid (∀ b, LedF L5 b → b ≠ mb ∧ (Value.slice A' ps.length c').ownBlock ≠ some b ∧ W.heap.size ≤ b))
  case atStart => exact ⟨0, ps7, A7, c7, by omega, rfl, rfl, hn7, HS7, HP7, HB7, HR7, HL7, HAP7⟩
  case round =>
    obtain ⟨i, ps, A', c', hi, rfl, rfl, hps, HS, HP, HB, HRL, HL, HAP⟩ := hrel
    have HHI := Lib.hid hi
    rcases Nat.lt_or_ge i 4 with hlt | hge
    · have hltI : (i : Int) < 4 := by omega
      clear hi
      go_wp2_with fail
      refine (pick_nat A1 n1 c1 f1 i _ 1000 _ wr wr.heap.size rfl rfl (hR1.all HB.out) (Lib.hid (fun j hj => wf_i64 (hw1.out j hj))) (by decide) (by decide)).mono ?_
      rintro e w2 ⟨k, rfl, hk, -, rfl⟩
      obtain ⟨g5, c5, w5, hrun, hS5, hm5, hb5, hnw⟩ := HS.out.push HB.out.size (by omega) false (trMv k) 42
      have hRL5 : RL W.heap.size g mb gl 20000 false (p : Int) [] 0 true w5 := HRL.out.mod hm5 (fun b hb hk => absurd (hk.1.not_ty HRL.out.mbt.1 (Ty.of_own HS.out.own hb)) (by decide))
      have hL5 : LedAt (mxOf refItems) w5 L5 (lst0 0) := HL.out.mod hm5 (fun b hb => ⟨fun hl => (HAP.out b hl).2.1 hb, fun ht => absurd (ht.unique (Ty.of_own HS.out.own hb)) (by decide), fun ht => absurd (ht.unique (Ty.of_own HS.out.own hb)) (by decide)⟩)
      have hap5 : ∀ b, LedF L5 b → b ≠ mb ∧ (Value.slice (some ⟨g5, 0, none⟩) (ps.length + 1) c5).ownBlock ≠ some b ∧ W.heap.size ≤ b := fun b hb => ⟨(HAP.out b hb).1, fun e => by
        have e2 : g5 = b := by simpa [Value.ownBlock] using e
        subst e2
        rcases hnw with h | h
        · exact (HAP.out _ hb).2.1 h
        · have := HL.out.lt hb
          omega, (HAP.out b hb).2.2⟩
      simp only [trMv, mvC, stC, kindZ] at hrun
      have HRUN := Lib.hid hrun
      have HS5 := Lib.hid hS5
      have HB5 : Hid (Below W.heap.size W w5) := Lib.hid (HB.out.trans hb5)
      have HP5 : Hid (∀ p ∈ ps ++ [⟨false, trMv k, wr.heap.size⟩], QOk (p.z, p.m)) := Lib.hid (fun p hp => by
        rcases List.mem_append.1 hp with hp | hp
        · exact HP.out p hp
        · rw [List.mem_singleton] at hp
          subst hp
          exact trMv_ok k)
      have HRL5 := Lib.hid hRL5
      have HL5 := Lib.hid hL5
      have HAP5 := Lib.hid hap5
      clear hrun hS5 hm5 hb5 hRL5 hL5 hap5
      go_wp2_with (at_builtin; refine wpList_append_run HRUN.out rfl rfl rfl rfl ?_)
      go_roundg (4 - (i + 1))
      case measure => have := HHI.out; omega
      case rel => exact ⟨i + 1, _, _, _, by have := HHI.out; omega, by go_num, by rw [List.length_append]; rfl, by rw [List.length_append]; simp; omega, by rw [List.length_append]; exact HS5, HP5, HB5, HRL5, HL5, by rw [List.length_append]; exact HAP5⟩
    · obtain rfl : i = 4 := by omega
      go_wp2_with fail
      have hh := holdings_any L5 (lst0 0) wr HL (Lib.hid (fun k => ⟨(SInv.zero (mxOf refItems)).ok.ok k, (SInv.zero (mxOf refItems)).ok.len k⟩)) (HL.out.few (SInv.zero (mxOf refItems)).sm)
      rw [HG.out] at hh
      refine hh.mono ?_
      rintro e w8 ⟨A8, ks8, c8, rfl, q1, q2, q3, q4, hb8⟩
      have hst := StatesAt.one (mx := mxOf refItems) (B := W.heap.size) (Nat.le_trans HB.out.size hb8.size) (⟨A8, ks8, c8, rfl, q1, q2, q3, q4⟩ : HoldV w8 (.slice A8 ks8.length c8) (lst0 0))
      have hba := (Below.refl w8.heap.size w8).alloc (Nat.le_refl _) (.cells #[.slice A8 ks8.length c8] 51)
      have HJ8 : Hid (RJ W.heap.size mb gA (mxOf refItems) (.slice A' ps.length c') ps (.slice (some ⟨w8.heap.size, 0, none⟩) 1 1) [] (lst0 0) (w8.alloc (.cells #[.slice A8 ks8.length c8] 51))) := Lib.hid ⟨(HS.out.all hb8).all hba, ⟨L5, (HL.out.all hb8).all hba, HG.out, HIT.out, HAP.out⟩, hst⟩
      have HD8 : Hid (DurR W.heap.size g mb gl [] 0 (w8.alloc (.cells #[.slice A8 ks8.length c8] 51))) := Lib.hid (.inl ⟨rfl, p, (HRL.out.all hb8).all hba⟩)
      have HB8 : Hid (Below W.heap.size W (w8.alloc (.cells #[.slice A8 ks8.length c8] 51))) := Lib.hid ((HB.out.trans (hb8.mono HB.out.size)).trans (hba.mono (Nat.le_trans HB.out.size hb8.size)))
      clear hh q1 q2 q3 q4 hb8 hst hba HS HL HRL HAP HB
      go_wp2
      obtain ⟨N, hN⟩ : ∃ N, ps.length = N := ⟨_, rfl⟩
      have HN := Lib.hid hN
      rw [hN] at HJ8 hps ⊢
      clear hN
      go_loopg [18, 19, 20, 21, 22, 23, 24] N (fun gk v18 v19 v20 _v21 _v22 _v23 _v24 wr => ∃ (i dn : Nat) (qs : Qs) (S : LSt) (A18 : Option Addr) (c18 : Nat), i + gk = N ∧ v20 = .int .i64 (i : Int) ∧ v19 = .int .i64 (dn : Int) ∧ v18 = .slice A18 (qs.length + 1) c18 ∧ qs.length ≤ i ∧ dn ≤ qs.length ∧ Hid (RJ W.heap.size mb gA (mxOf refItems) (.slice A' N c') ps (.slice A18 (qs.length + 1) c18) qs S wr) ∧ Hid (DurR W.heap.size g mb gl (qs.map recQ) dn wr) ∧ Hid (runQ (mxOf refItems) (lst0 0) qs = some S) ∧ Hid (SInv (mxOf refItems) qs.length S) ∧ Hid (∀ q ∈ qs, QOk q) ∧ Hid (Below W.heap.size W wr))
      case atStart => exact ⟨0, 0, [], lst0 0, _, 1, by omega, rfl, rfl, rfl, Nat.le_refl _, Nat.le_refl _, HJ8, HD8, Lib.hid rfl, Lib.hid (SInv.zero _), Lib.hid (fun q hq => by cases hq), HB8⟩
      case round =>
        obtain ⟨i, dn, qs, S, A18, c18, hi, rfl, rfl, rfl, hqi, hdq, HJ, HD, HR, HV, HQ, HB⟩ := hrel
        have HHI := Lib.hid hi
        rcases Nat.lt_or_ge i N with hlt | hge
        · have hltI : (i : Int) < (N : Int) := by omega
          have hi0 : (0 : Int) ≤ (i : Int) := by omega
          have hlp : i < ps.length := by rw [HN.out]; exact hlt
          obtain ⟨gS, hgS, s0, s1, s2, s3, s4, s5, s6, -, hmb⟩ := HJ.out.steps.cell hlp
          obtain ⟨x, hx⟩ : ∃ x, ps[i] = x := ⟨_, rfl⟩
          rw [hx] at s1 s6 hmb
          have hq := HP.out ps[i] (List.getElem_mem hlp)
          rw [hx] at hq
          obtain ⟨z, m, b⟩ := x
          dsimp only at s1 s6 hmb hq
          have HBK := Lib.hid hmb
          have HQK := Lib.hid hq
          subst hgS
          obtain ⟨kz, hkz⟩ : ∃ kz, kindZ z = kz := ⟨_, rfl⟩
          rw [hkz] at s1
          have HKZ := Lib.hid hkz
          have HX := Lib.hid hx
          have hql : qs.length ≤ 1000 := by omega
          clear hx hq hmb hi hkz
          have hcan := rj_can b z m qs.length HJ HQK HBK HV hql
          rw [HKZ.out] at hcan
          unfold stA at hcan
          go_wp2_with fail
          clear s0 s1 s2 s3 s4 s5 s6
          refine hcan.mono ?_
          rintro e w9 ⟨rfl, hb9⟩
          clear hcan
          have HJ9 := Lib.hid (HJ.out.all hb9)
          have HD9 := Lib.hid (HD.out.all hb9)
          have HB9 := Lib.hid (HB.out.trans (hb9.mono HB.out.size))
          have HBK9 := Lib.hid (HBK.out.all hb9)
          clear hb9
          cases hm : mvsP (mxOf refItems) S [m] with
          | error er =>
            have her := mvsP_err _ hm
            have hne : ¬ (er = 0) := by omega
            unfold errOf
            dsimp only
            clear hm her
            go_wp2
            go_roundg (N - (i + 1))
            case measure => have := HHI.out; omega
            case rel => exact ⟨i + 1, dn, qs, S, _, c18, by have := HHI.out; omega, by go_num, rfl, rfl, by omega, hdq, HJ9, HD9, HR, HV, HQ, HB9⟩
          | ok S1 =>
            have HS1 : Hid (stepS (mxOf refItems) S (z, m) = .ok { S1 with ns := S.ns + 1, now := 0 }) := Lib.hid (by unfold stepS; rw [hm])
            unfold errOf
            dsimp only
            clear hm
            have hbx := (Below.refl w9.heap.size w9).alloc (Nat.le_refl _) (.cells #[.slice none 0 0] 57)
            have hW0 := WrV.new w9
            obtain ⟨w10, hw10⟩ : ∃ w10, w9.alloc (.cells #[.slice none 0 0] 57) = w10 := ⟨_, rfl⟩
            rw [hw10] at hbx hW0
            have HW10 := Lib.hid hW0
            have HX10 := Lib.hid hbx
            have HJ10 := Lib.hid (HJ9.out.all hbx)
            have HBK10 := Lib.hid (HBK9.out.all hbx)
            clear hbx hW0
            obtain ⟨gS', hgS', -, s1, -, -, -, -, s6, -, -⟩ := HJ10.out.steps.cell hlp
            injection hgS' with hgS'
            injection hgS' with hgS'
            subst hgS'
            rw [HX.out] at s1 s6
            dsimp only at s1 s6
            rw [HKZ.out] at s1
            have m0 : w10.cell? ⟨b, 0, none⟩ = some (.int .i64 m.frm) := HBK10.out.cell 0
            have m1 : w10.cell? ⟨b, 1, none⟩ = some (.int .i64 m.dst) := HBK10.out.cell 1
            have m2 : w10.cell? ⟨b, 2, none⟩ = some (.int .i64 m.item) := HBK10.out.cell 2
            have m3 : w10.cell? ⟨b, 3, none⟩ = some (.int .i64 m.n) := HBK10.out.cell 3
            have m4 : w10.cell? ⟨b, 4, none⟩ = some (.slice none 0 0) := HBK10.out.cell 4
            go_wp2_with fail
            clear s1 s6 m0 m1 m2 m3 m4
            have hby := (Below.refl w10.heap.size w10).alloc (Nat.le_refl _) (.cells #[.int .i64 m.frm, .int .i64 m.dst, .int .i64 m.item, .int .i64 m.n, .slice none 0 0] 47)
            have kby := Blk.new w10 47 #[.int .i64 m.frm, .int .i64 m.dst, .int .i64 m.item, .int .i64 m.n, .slice none 0 0]
            obtain ⟨w11, hw11⟩ : ∃ w11, w10.alloc (.cells #[.int .i64 m.frm, .int .i64 m.dst, .int .i64 m.item, .int .i64 m.n, .slice none 0 0] 47) = w11 := ⟨_, rfl⟩
            rw [hw11] at hby kby ⊢
            have HW11 := Lib.hid (HW10.out.all hby)
            have HX11 := Lib.hid (HX10.out.trans (hby.mono HX10.out.size))
            have HJ11 := Lib.hid (HJ10.out.all hby)
            clear hby HW10 HX10 HJ10 HBK10
            obtain ⟨gS', hgS', -, s1, -, -, -, -, s6, -, -⟩ := HJ11.out.steps.cell hlp
            injection hgS' with hgS'
            injection hgS' with hgS'
            subst hgS'
            rw [HX.out] at s1
            dsimp only at s1
            rw [HKZ.out] at s1
            obtain ⟨b10, hb10⟩ : ∃ b10, w10.heap.size = b10 := ⟨_, rfl⟩
            rw [hb10] at kby ⊢
            have m0 : w11.cell? ⟨b10, 0, none⟩ = some (.int .i64 m.frm) := kby.cell 0
            have m1 : w11.cell? ⟨b10, 1, none⟩ = some (.int .i64 m.dst) := kby.cell 1
            have m2 : w11.cell? ⟨b10, 2, none⟩ = some (.int .i64 m.item) := kby.cell 2
            have m3 : w11.cell? ⟨b10, 3, none⟩ = some (.int .i64 m.n) := kby.cell 3
            clear kby hw11 s6 hw10 HJ11
            go_still_tail 13, (by kernel_rfl)
            change wpList _ _ _ _ _ w11.drew
            go_wp2_with fail
            clear s1 m0 m1 m2 m3
            have hbz := ((Below.refl w11.heap.size w11).alloc (Nat.le_refl _) (.cells #[.int .i64 kz, .int .i64 m.frm, .int .i64 m.dst, .int .i64 m.item, .int .i64 m.n] 3)).drew
            have krd : Rd (w11.alloc (.cells #[.int .i64 kz, .int .i64 m.frm, .int .i64 m.dst, .int .i64 m.item, .int .i64 m.n] 3)).drew (w11.alloc (.cells #[.int .i64 kz, .int .i64 m.frm, .int .i64 m.dst, .int .i64 m.item, .int .i64 m.n] 3)).drew.heap.size (some ⟨w11.heap.size, 0, none⟩) 5 (vInt (recI (z, m))) := by
              have h := rd_lit5 w11 3 kz m.frm m.dst m.item m.n
              rw [← HKZ.out] at h ⊢
              exact h.more (by simp [World.drew])
            obtain ⟨w12, hw12⟩ : ∃ w12, (w11.alloc (.cells #[.int .i64 kz, .int .i64 m.frm, .int .i64 m.dst, .int .i64 m.item, .int .i64 m.n] 3)).drew = w12 := ⟨_, rfl⟩
            rw [hw12] at hbz krd ⊢
            have HW12 := Lib.hid (HW11.out.all hbz)
            have HX12 := Lib.hid (HX11.out.trans (hbz.mono HX11.out.size))
            have hlw := HW11.out.lt w9.heap.size (.inl rfl)
            have HF12 : Hid (∀ b off, some (⟨w11.heap.size, 0, none⟩ : Addr) = some ⟨b, off, none⟩ → 0 < 5 → ¬ WF w9.heap.size (.slice none 0 0) b) := Lib.hid (fun b off e _ hf => by
              injection e with e
              injection e with e
              rcases hf with h | h
              · omega
              · simp [Value.ownBlock] at h)
            clear hbz hw12 HW11 HX11 hlw
            refine (wintsV_any w9.heap.size (.slice none 0 0) [] (recI (z, m)) (some ⟨w11.heap.size, 0, none⟩) 5 5 w12 HW12 (Lib.hid rfl) (by decide) (Lib.hid krd) HF12 (by decide) (Lib.hid (in_range HQK.out))).mono ?_
            rintro e w13 ⟨rfl, v13, hv13, hm13, -⟩
            have hbw := hm13.below HX12.out HX12.out.size (fun b hb => hb.elim (fun e => Nat.le_of_eq e.symm) (fun e => by simp [Value.ownBlock] at e))
            have HW13 : Hid (Wr w13 0 w9.heap.size (recQ (z, m))) := Lib.hid hv13.wr
            have HJ13 := Lib.hid (HJ9.out.all hbw)
            have HD13 := Lib.hid (HD9.out.all hbw)
            have HB13 := Lib.hid (HB9.out.trans (hbw.mono HB9.out.size))
            have HBK13 := Lib.hid (HBK9.out.all hbw)
            clear krd HF12 HW12 HX12 hv13 hm13 hbw HJ9 HD9 HB9 HBK9
            have hrl := recQ_len HQK.out
            go_wp2_with fail
            refine (wdone_any 0 w9.heap.size (recQ (z, m)) w13 HW13 (by omega)).mono ?_
            rintro e w14 ⟨A14, n14, c14, rfl, -, -, HX14, -, hr14, hb14⟩
            have hn14 : n14 ≤ 60 := by have := HX14.out; omega
            have HJ14 := Lib.hid (HJ13.out.all hb14)
            have HD14 := Lib.hid (HD13.out.all hb14)
            have HB14 := Lib.hid (HB13.out.trans (hb14.mono HB13.out.size))
            have HBK14 := Lib.hid (HBK13.out.all hb14)
            have HR14 := Lib.hid hr14
            clear hb14 hr14 HJ13 HD13 HB13 HBK13 HW13 hrl
            go_wp2_with fail
            refine (jrappend_any W.heap.size g mb gl dn (qs.map recQ) (recQ (z, m)) A14 n14 c14 w14 HD14 (Lib.hid (fun x hx => by
              obtain ⟨q, hq, rfl⟩ := List.mem_map.1 hx
              exact recQ_len (HQ.out q hq))) (by rw [List.length_map]; omega) HX14 hn14 HR14).mono ?_
            rintro e w15 ⟨hd15, hm15⟩
            have HJ15 := Lib.hid (HJ14.out.log HD14.out.mbt.1 hm15)
            have HB15 := Lib.hid (HB14.out.trans (hm15.below HD14.out.size))
            have HBK15 : Hid (Blk w15 b 47 (mvV m).toArray) := Lib.hid (by
              obtain ⟨-, -, -, -, -, -, -, -, -, -, h⟩ := HJ15.out.steps.cell hlp
              rw [HX.out] at h
              exact h)
            rw [show qs.map recQ ++ [recQ (z, m)] = (qs ++ [(z, m)]).map recQ by rw [List.map_append]; rfl] at hd15
            clear hm15 HJ14 HD14 HB14 HBK14 HR14 HX14 hn14
            rcases hd15 with ⟨rfl, hd⟩ | ⟨rfl, hd⟩
            · have HD15 := Lib.hid hd
              clear hd
              obtain ⟨gS', hgS', s0, s1, s2, s3, s4, s5, s6, -, -⟩ := HJ15.out.steps.cell hlp
              injection hgS' with hgS'
              injection hgS' with hgS'
              subst hgS'
              rw [HX.out] at s1 s6
              dsimp only at s1 s6
              rw [HKZ.out] at s1
              have hpost := rj_post b z m qs.length _ HJ15 HD15 HQK HBK15 HV hql HS1
              rw [HKZ.out] at hpost
              unfold stA at hpost
              go_wp2_with fail
              clear s0 s1 s2 s3 s4 s5 s6
              refine hpost.mono ?_
              rintro e w16 ⟨k16, rfl, hJ16, hD16, hb16⟩
              have HJ16 := Lib.hid hJ16
              have HD16 := Lib.hid hD16
              have HB16 := Lib.hid (HB15.out.trans hb16)
              have HV16 := Lib.hid (HV.out.step HQK.out hql HS1.out)
              clear hpost hJ16 hD16 hb16 HJ15 HD15 HB15 HBK15
              go_wp2_with fail
              refine (rj_hold (qs.length + 1) HJ16 HV16).mono ?_
              rintro e w17 ⟨A17, m17, c17, rfl, hv17, hb17⟩
              have HJ17 := Lib.hid (HJ16.out.all hb17)
              have HD17 := Lib.hid (HD16.out.all hb17)
              have HB17 := Lib.hid (HB16.out.trans (hb17.mono HB16.out.size))
              obtain ⟨g18, cc18, w18, hrun, hst18, hmod18, hbel18, -⟩ := HJ17.out.sts.push HB17.out.size (by omega) HR.out HS1.out hv17 53
              have HRUN := Lib.hid hrun
              obtain ⟨hJ18, hD18⟩ := HJ17.out.push HD17.out hst18 hmod18
              have HJ18 := Lib.hid hJ18
              have HD18 := Lib.hid hD18
              have HB18 : Hid (Below W.heap.size W w18) := Lib.hid (HB17.out.trans hbel18)
              clear hb17 hv17 hrun hst18 hmod18 hbel18 hJ18 hD18 HJ16 HD16 HB16 HJ17 HD17 HB17
              have hll : (qs ++ [(z, m)]).length = qs.length + 1 := by rw [List.length_append]; rfl
              go_wp2_with (at_builtin; refine wpList_append_run HRUN.out rfl rfl rfl rfl ?_)
              go_roundg (N - (i + 1))
              case measure => have := HHI.out; omega
              case rel => exact ⟨i + 1, dn + 1, qs ++ [(z, m)], _, _, cc18, by have := HHI.out; omega, by go_num, by go_num, by rw [hll], by omega, by omega, by rw [hll]; exact HJ18, HD18, Lib.hid (runQ_snoc qs HR.out HS1.out), by rw [hll]; exact HV16, Lib.hid (fun q hq => by
                rcases List.mem_append.1 hq with h | h
                · exact HQ.out q h
                · rw [List.mem_singleton] at h
                  subst h
                  exact HQK.out), HB18⟩
            · have HD15 := Lib.hid hd
              clear hd
              obtain ⟨gS', hgS', s0, s1, s2, s3, s4, s5, s6, -, -⟩ := HJ15.out.steps.cell hlp
              injection hgS' with hgS'
              injection hgS' with hgS'
              subst hgS'
              rw [HX.out] at s1 s6
              dsimp only at s1 s6
              rw [HKZ.out] at s1
              have hpost := rj_post b z m qs.length _ HJ15 HD15 HQK HBK15 HV hql HS1
              rw [HKZ.out] at hpost
              unfold stA at hpost
              go_wp2_with fail
              clear s0 s1 s2 s3 s4 s5 s6
              refine hpost.mono ?_
              rintro e w16 ⟨k16, rfl, hJ16, hD16, hb16⟩
              have HJ16 := Lib.hid hJ16
              have HD16 := Lib.hid hD16
              have HB16 := Lib.hid (HB15.out.trans hb16)
              have HV16 := Lib.hid (HV.out.step HQK.out hql HS1.out)
              clear hpost hJ16 hD16 hb16 HJ15 HD15 HB15 HBK15
              go_wp2_with fail
              refine (rj_hold (qs.length + 1) HJ16 HV16).mono ?_
              rintro e w17 ⟨A17, m17, c17, rfl, hv17, hb17⟩
              have HJ17 := Lib.hid (HJ16.out.all hb17)
              have HD17 := Lib.hid (HD16.out.all hb17)
              have HB17 := Lib.hid (HB16.out.trans (hb17.mono HB16.out.size))
              obtain ⟨g18, cc18, w18, hrun, hst18, hmod18, hbel18, -⟩ := HJ17.out.sts.push HB17.out.size (by omega) HR.out HS1.out hv17 53
              have HRUN := Lib.hid hrun
              obtain ⟨hJ18, hD18⟩ := HJ17.out.push HD17.out hst18 hmod18
              have HJ18 := Lib.hid hJ18
              have HD18 := Lib.hid hD18
              have HB18 : Hid (Below W.heap.size W w18) := Lib.hid (HB17.out.trans hbel18)
              clear hb17 hv17 hrun hst18 hmod18 hbel18 hJ18 hD18 HJ16 HD16 HB16 HJ17 HD17 HB17
              have hll : (qs ++ [(z, m)]).length = qs.length + 1 := by rw [List.length_append]; rfl
              go_wp2_with (at_builtin; refine wpList_append_run HRUN.out rfl rfl rfl rfl ?_)
              go_roundg (N - (i + 1))
              case measure => have := HHI.out; omega
              case rel => exact ⟨i + 1, dn, qs ++ [(z, m)], _, _, cc18, by have := HHI.out; omega, by go_num, by go_num, by rw [hll], by omega, by omega, by rw [hll]; exact HJ18, HD18, Lib.hid (runQ_snoc qs HR.out HS1.out), by rw [hll]; exact HV16, Lib.hid (fun q hq => by
                rcases List.mem_append.1 hq with h | h
                · exact HQ.out q h
                · rw [List.mem_singleton] at h
                  subst h
                  exact HQK.out), HB18⟩
        · obtain rfl : i = N := by have := HHI.out; omega
          go_wp2_with fail
          have hba := (Below.refl wr.heap.size wr).alloc (Nat.le_refl _) (.cells #[.int .i64 a3] 3)
          have krd : Rd (wr.alloc (.cells #[.int .i64 a3] 3)) (wr.alloc (.cells #[.int .i64 a3] 3)).heap.size (some ⟨wr.heap.size, 0, none⟩) 1 (vInt [a3]) := (rd_lit1 wr 3 a3).more (by simp)
          obtain ⟨w19, hw19⟩ : ∃ w19, wr.alloc (.cells #[.int .i64 a3] 3) = w19 := ⟨_, rfl⟩
          rw [hw19] at hba krd ⊢
          have HJ19 := Lib.hid (HJ.out.all hba)
          have HD19 := Lib.hid (HD.out.all hba)
          have HB19 := Lib.hid (HB.out.trans (hba.mono HB.out.size))
          clear hba hw19 HJ HD HB
          refine (jrcrash_any W.heap.size g mb gl dn (qs.map recQ) (some ⟨wr.heap.size, 0, none⟩) 1 1 [a3] w19 HD19 (Lib.hid (fun x hx => by
              obtain ⟨q, hq, rfl⟩ := List.mem_map.1 hx
              exact recQ_len (HQ.out q hq))) (by rw [List.length_map]; omega) (Lib.hid rfl) (Lib.hid krd) (Lib.hid (fun k hk => by rw [List.mem_singleton] at hk; subst hk; exact ⟨bit3, bit4⟩)) (by decide)).mono ?_
          clear krd
          rintro e w20 ⟨rfl, b2, rs, ln, up, hRL, hSC, hrs1, hrs2, hrs3, hrs4, hM⟩
          rw [List.length_map] at hrs4
          have HJ20 := Lib.hid (HJ19.out.log HD19.out.mbt.1 hM)
          have HB20 := Lib.hid (HB19.out.trans (hM.below HD19.out.size))
          have HRL := Lib.hid hRL
          have HSC := Lib.hid hSC
          have HRS := Lib.hid hrs1
          clear hRL hSC hM hrs1 HJ19 HD19 HB19
          go_wp2_with fail
          refine (jropen_any W.heap.size g mb gl 20000 ln up b2 b2.length _ rs w20 HRL HSC).mono ?_
          rintro e w21 ⟨gl2, vG, LG, rfl, hown, hbs, hM2⟩
          have hown2 := hown.lower HRL.out.size
          obtain ⟨AG, cG, rfl⟩ := hown2.slice
          obtain ⟨K, hK⟩ : ∃ K, LG.length = K := ⟨_, rfl⟩
          have hKr : rs.length = K := by rw [← hK, ← hbs]; simp [bsOf]
          rw [hKr] at hrs2 hrs3 hrs4
          have HS21 := Lib.hid (HJ20.out.log HRL.out.mbt.1 hM2).sts
          have HB21 := Lib.hid (HB20.out.trans (hM2.below HRL.out.size))
          have HG21 := Lib.hid hown2
          have HK := Lib.hid hK
          have HBS := Lib.hid hbs
          rw [hK] at HG21 ⊢
          clear hown hown2 hbs hM2 hK hKr HJ20 HB20 HRL HSC
          go_wp2_with fail
          refine (refCat_any _).mono ?_
          rintro e w22 ⟨ad2, rfl, hI22, hb22⟩
          have HB22 := Lib.hid (HB21.out.trans (hb22.mono HB21.out.size))
          have HS22 := Lib.hid (HS21.out.all hb22)
          have HG22 := Lib.hid (HG21.out.all hb22)
          have HI22 := Lib.hid hI22
          clear hb22 hI22 HB21 HS21 HG21
          go_wp2_with fail
          refine (newL_any 0 ad2 4 4 refItems _ (by decide) HI22 (Lib.hid refItems_ok) (Lib.hid (HKL.out.all HB22.out))).mono ?_
          rintro e w23 ⟨L6, rfl, hL6, hit6, hes6, hlo6, hb6⟩
          have HB23 := Lib.hid (HB22.out.trans (hb6.mono HB22.out.size))
          have HR23 : Hid (R3 W.heap.size L6.gl (mxOf refItems) (.slice A18 (qs.length + 1) c18) qs (.slice AG K cG) LG (lst0 0) w23) := Lib.hid ⟨⟨L6, hL6, rfl, hit6, fun b hb => Nat.le_trans HB22.out.size (hlo6 b hb)⟩, HS22.out.all hb6, HG22.out.all hb6, HB23.out.size⟩
          obtain ⟨gB, hgB⟩ : ∃ gB, L6.gl = gB := ⟨_, rfl⟩
          rw [hgB] at HR23 ⊢
          clear hgB hb6 hL6 hit6 hes6 hlo6 HB22 HS22 HG22 HI22
          have hk1 : decide (K < dn) = false := by simp; omega
          have hk2 : decide ((dn : Int) + 1 < (K : Int)) = false := by simp; omega
          have hk3 : decide ((qs.length : Int) + 1 ≤ (K : Int)) = false := by simp; omega
          go_wp2
          go_loopg [30, 31, 32, 33, 34] K (fun gk v30 _v31 _v32 _v33 _v34 wr => ∃ (i3 : Nat) (S3 : LSt), i3 + gk = K ∧ v30 = .int .i64 (i3 : Int) ∧ Hid (R3 W.heap.size gB (mxOf refItems) (.slice A18 (qs.length + 1) c18) qs (.slice AG K cG) LG S3 wr) ∧ Hid (runQ (mxOf refItems) (lst0 0) (qs.take i3) = some S3) ∧ Hid (SInv (mxOf refItems) i3 S3) ∧ Hid (Below W.heap.size W wr))
          case atStart => exact ⟨0, lst0 0, by omega, rfl, HR23, Lib.hid rfl, Lib.hid (SInv.zero _), HB23⟩
          case round =>
            clear HR23 HB23
            obtain ⟨i3, S3, hi3, rfl, H3, HRI, HVI, HB3⟩ := hrel
            have HH3 := Lib.hid hi3
            rcases Nat.lt_or_ge i3 K with hlt3 | hge3
            · have hltI3 : (i3 : Int) < (K : Int) := by omega
              have hi30 : (0 : Int) ≤ (i3 : Int) := by omega
              clear hi3
              obtain ⟨bG, offG, zG, hAG, hcG, hzG, hokG⟩ := H3.out.got.at_.2.cell hlt3
              subst hAG
              obtain ⟨hiq, hbs⟩ := rec_at HBS.out HRS.out hzG
              obtain ⟨S4, hs4, hr4⟩ := runQ_one HR.out hiq HRI.out
              have hqk := HQ.out qs[i3] (List.getElem_mem hiq)
              obtain ⟨q, hq⟩ : ∃ q, qs[i3] = q := ⟨_, rfl⟩
              rw [hq] at hbs hs4 hqk
              obtain ⟨z, m⟩ := q
              have hrd := hokG.rd.rd
              have hlen := hokG.rd.len
              rw [hbs] at hrd hlen
              have HBX := Lib.hid hlen
              have HRX := Lib.hid hrd
              have HS4 := Lib.hid hs4
              have HR4 := Lib.hid hr4
              have HQK := Lib.hid hqk
              have hnz : zG.n ≤ 70368744177664 := by have := recQ_len hqk; omega
              clear hzG hokG hbs hrd hlen hs4 hr4 hqk hq
              go_wp2_with fail
              clear hcG
              refine (read_any zG.A zG.n zG.c (recQ (z, m)) wr HBX HRX.out hnz).mono ?_
              rintro e w24 ⟨gR, rfl, hgR, hRd, hb24, -⟩
              have HB24 := Lib.hid hb24
              have HRD := Lib.hid hRd
              have hrl := recQ_len HQK.out
              clear hRd hb24 HBX HRX hnz
              go_wp2_with fail
              refine (rints_any w24.heap.size gR (recQ (z, m)) 0 w24 HRD (by omega)).mono ?_
              rw [readInts_rec HQK.out]
              rintro e w25 ⟨AI, nI, cI, rfl, -, -, -, HNI, hoI, hRd, hgr⟩
              obtain rfl : nI = 5 := HNI.out.symm
              obtain ⟨gI, rfl, e0, e1, e2, e3, e4⟩ := ints5 hoI rfl
              have hb25 := HB24.out.grown hgr HB24.out.size (fun k e => by injection e with e; omega)
              have H25 := Lib.hid (H3.out.all hb25)
              have HB25 := Lib.hid (HB3.out.trans (hb25.mono HB3.out.size))
              have HRD25 := Lib.hid hRd
              have HTI := Lib.hid (Ty.of_own hoI rfl)
              clear HNI hoI hRd hgr hb25 HRD HB24 H3 HB3 hgR
              dsimp only at HRD25 e0 e1 e2 e3 e4
              go_wp2_with fail
              refine (rend_any w24.heap.size gR [] 0 w25 HRD25).mono ?_
              rintro e w26 ⟨rfl, rfl⟩
              clear HRD25
              have he0 : endI [] 0 = 0 := rfl
              rw [he0]
              clear he0
              obtain ⟨kz, hkz⟩ : ∃ kz, kindZ z = kz := ⟨_, rfl⟩
              rw [hkz] at e0
              have HKZ := Lib.hid hkz
              clear hkz
              have hby := ((Below.refl w25.heap.size w25).alloc (Nat.le_refl _) (.cells #[.int .i64 m.frm, .int .i64 m.dst, .int .i64 m.item, .int .i64 m.n, .slice none 0 0] 47)).drew
              have kby : Blk (w25.alloc (.cells #[.int .i64 m.frm, .int .i64 m.dst, .int .i64 m.item, .int .i64 m.n, .slice none 0 0] 47)).drew w25.heap.size 47 (mvV m).toArray := Blk.new w25 47 #[.int .i64 m.frm, .int .i64 m.dst, .int .i64 m.item, .int .i64 m.n, .slice none 0 0]
              go_wp2_with fail
              have ht0 : Ty w25 gI 3 := HTI.out
              have hTI : Ty (w25.alloc (.cells #[.int .i64 m.frm, .int .i64 m.dst, .int .i64 m.item, .int .i64 m.n, .slice none 0 0] 47)).drew gI 3 := by
                obtain ⟨cs, fr, h⟩ := ht0
                exact ⟨cs, fr, (hby.block gI (Array.getElem?_eq_some_iff.1 h).1).trans h⟩
              have hlI : gI < w25.heap.size := by
                obtain ⟨cs, fr, h⟩ := ht0
                exact (Array.getElem?_eq_some_iff.1 h).1
              have d0 := (hby.cell (p := ⟨gI, 0, none⟩) hlI).trans e0
              have d1 := (hby.cell (p := ⟨gI, 1, none⟩) hlI).trans e1
              have d2 := (hby.cell (p := ⟨gI, 2, none⟩) hlI).trans e2
              have d3 := (hby.cell (p := ⟨gI, 3, none⟩) hlI).trans e3
              have d4 := (hby.cell (p := ⟨gI, 4, none⟩) hlI).trans e4
              have hpost := r3_post w25.heap.size z m i3 S4 (Lib.hid (H25.out.all hby)) HQK (Lib.hid kby) HVI (by omega) HS4
              rw [HKZ.out] at hpost
              unfold stA at hpost
              have HB26 := Lib.hid (HB25.out.trans (hby.mono HB25.out.size))
              clear hby kby ht0 HTI
              refine wp_region_held_drew (S := (fun y => y.cell? ⟨gI, 0, none⟩ = some (.int .i64 kz) ∧ y.cell? ⟨gI, 1, none⟩ = some (.int .i64 m.frm) ∧ y.cell? ⟨gI, 2, none⟩ = some (.int .i64 m.dst) ∧ y.cell? ⟨gI, 3, none⟩ = some (.int .i64 m.item) ∧ y.cell? ⟨gI, 4, none⟩ = some (.int .i64 m.n))) (by kernel_rfl) ⟨e0, e1, e2, e3, e4⟩ (fun hHeld => ?_)
              refine takeI 0 (some 224) (v := ?_) ?_ ?_
              rotate_left
              · (intro o ho w hSw; obtain ⟨z0, z1, z2, z3, z4⟩ := hSw; cases ho; go_simp; try with_reducible rfl)
              try simp only [Act.put, pB, pC, pD]
              refine takeI 1 (some 225) (v := ?_) ?_ ?_
              rotate_left
              · (intro o ho w hSw; obtain ⟨z0, z1, z2, z3, z4⟩ := hSw; cases ho; go_simp; try with_reducible rfl)
              try simp only [Act.put, pB, pC, pD]
              refine takeI 2 (some 226) (v := ?_) ?_ ?_
              rotate_left
              · (intro o ho w hSw; obtain ⟨z0, z1, z2, z3, z4⟩ := hSw; cases ho; go_simp; try with_reducible rfl)
              try simp only [Act.put, pB, pC, pD]
              refine takeI 3 (some 227) (v := ?_) ?_ ?_
              rotate_left
              · (intro o ho w hSw; obtain ⟨z0, z1, z2, z3, z4⟩ := hSw; cases ho; go_simp; try with_reducible rfl)
              try simp only [Act.put, pB, pC, pD]
              refine takeI 4 (some 228) (v := ?_) ?_ ?_
              rotate_left
              · (intro o ho w hSw; obtain ⟨z0, z1, z2, z3, z4⟩ := hSw; cases ho; go_simp; try with_reducible rfl)
              try simp only [Act.put, pB, pC, pD]
              refine takeI 5 (some 229) (v := ?_) ?_ ?_
              rotate_left
              · (intro o ho w hSw; obtain ⟨z0, z1, z2, z3, z4⟩ := hSw; cases ho; go_simp; try with_reducible rfl)
              try simp only [Act.put, pB, pC, pD]
              refine takeI 6 (some 230) (v := ?_) ?_ ?_
              rotate_left
              · (intro o ho w hSw; obtain ⟨z0, z1, z2, z3, z4⟩ := hSw; cases ho; go_simp; try with_reducible rfl)
              try simp only [Act.put, pB, pC, pD]
              refine takeI 7 (some 231) (v := ?_) ?_ ?_
              rotate_left
              · (intro o ho w hSw; obtain ⟨z0, z1, z2, z3, z4⟩ := hSw; cases ho; go_simp; try with_reducible rfl)
              try simp only [Act.put, pB, pC, pD]
              refine takeI 8 (some 232) (v := ?_) ?_ ?_
              rotate_left
              · (intro o ho w hSw; obtain ⟨z0, z1, z2, z3, z4⟩ := hSw; cases ho; go_simp; try with_reducible rfl)
              try simp only [Act.put, pB, pC, pD]
              refine takeI 9 (some 233) (v := ?_) ?_ ?_
              rotate_left
              · (intro o ho w hSw; obtain ⟨z0, z1, z2, z3, z4⟩ := hSw; cases ho; go_simp; try with_reducible rfl)
              try simp only [Act.put, pB, pC, pD]
              refine takeI 10 (some 234) (v := ?_) ?_ ?_
              rotate_left
              · (intro o ho w hSw; obtain ⟨z0, z1, z2, z3, z4⟩ := hSw; cases ho; go_simp; try with_reducible rfl)
              try simp only [Act.put, pB, pC, pD]
              refine takeI 11 (some 235) (v := ?_) ?_ ?_
              rotate_left
              · (intro o ho w hSw; obtain ⟨z0, z1, z2, z3, z4⟩ := hSw; cases ho; go_simp; try with_reducible rfl)
              try simp only [Act.put, pB, pC, pD]
              refine takeI 12 (some 236) (v := ?_) ?_ ?_
              rotate_left
              · (intro o ho w hSw; obtain ⟨z0, z1, z2, z3, z4⟩ := hSw; cases ho; go_simp; try with_reducible rfl)
              try simp only [Act.put, pB, pC, pD]
              refine takeI 13 (some 237) (v := ?_) ?_ ?_
              rotate_left
              · (intro o ho w hSw; obtain ⟨z0, z1, z2, z3, z4⟩ := hSw; cases ho; go_simp; try with_reducible rfl)
              try simp only [Act.put, pB, pC, pD]
              refine takeI 14 (some 238) (v := ?_) ?_ ?_
              rotate_left
              · (intro o ho w hSw; obtain ⟨z0, z1, z2, z3, z4⟩ := hSw; cases ho; go_simp; try with_reducible rfl)
              try simp only [Act.put, pB, pC, pD]
              refine takeI 15 (some 239) (v := ?_) ?_ ?_
              rotate_left
              · (intro o ho w hSw; obtain ⟨z0, z1, z2, z3, z4⟩ := hSw; cases ho; go_simp; try with_reducible rfl)
              try simp only [Act.put, pB, pC, pD]
              refine takeI 16 (some 240) (v := ?_) ?_ ?_
              rotate_left
              · (intro o ho w hSw; obtain ⟨z0, z1, z2, z3, z4⟩ := hSw; cases ho; go_simp; try with_reducible rfl)
              try simp only [Act.put, pB, pC, pD]
              refine wpAnyH_ready (rs := [17]) (by kernel_rfl) (by simp) ?_
              refine AllReadyH.cons rfl (fun K hK => ?_) AllReadyH.nil
              go_simp
              refine hK.out _ _ ?_ (fun hH17 => ?_)
              · exact ⟨d0, d1, d2, d3, d4⟩
              clear hK K
              try simp only [Act.put, pB, pC, pD]
              refine takeI 18 (some 242) (v := ?_) ?_ ?_
              rotate_left
              · (intro o ho w hSw; obtain ⟨z0, z1, z2, z3, z4⟩ := hSw; cases ho; go_simp; try with_reducible rfl)
              try simp only [Act.put, pB, pC, pD]
              refine wpAnyH_ready (rs := [19]) (by kernel_rfl) (by simp) ?_
              refine AllReadyH.cons rfl (fun K hK => ?_) AllReadyH.nil
              go_simp
              refine hpost.mono ?_
              rintro e w27 ⟨k27, rfl, hR27, hb27, hc27⟩
              go_wp2
              refine hK.out _ _ ?_ (fun hH19 => ?_)
              · exact ⟨hc27 _ _ hTI d0, hc27 _ _ hTI d1, hc27 _ _ hTI d2, hc27 _ _ hTI d3, hc27 _ _ hTI d4⟩
              clear hK K
              try simp only [Act.put, pB, pC, pD]
              refine takeI 20 (some 223) (v := ?_) ?_ ?_
              rotate_left
              · (intro o ho w hSw; obtain ⟨z0, z1, z2, z3, z4⟩ := hSw; cases ho; go_simp; try with_reducible rfl)
              try simp only [Act.put, pB, pC, pD]
              refine takeI 21 (some 244) (v := ?_) ?_ ?_
              rotate_left
              · (intro o ho w hSw; obtain ⟨z0, z1, z2, z3, z4⟩ := hSw; cases ho; go_simp; try with_reducible rfl)
              try simp only [Act.put, pB, pC, pD]
              refine takeI 22 (some 245) (v := ?_) ?_ ?_
              rotate_left
              · (intro o ho w hSw; obtain ⟨z0, z1, z2, z3, z4⟩ := hSw; cases ho; go_simp; try with_reducible rfl)
              try simp only [Act.put, pB, pC, pD]
              refine takeI 23 (some 33) (v := ?_) ?_ ?_
              rotate_left
              · (intro o ho w hSw; obtain ⟨z0, z1, z2, z3, z4⟩ := hSw; cases ho; go_simp; try with_reducible rfl)
              try simp only [Act.put, pB, pC, pD]
              refine takeI 24 (some 34) (v := ?_) ?_ ?_
              rotate_left
              · (intro o ho w hSw; obtain ⟨z0, z1, z2, z3, z4⟩ := hSw; cases ho; go_simp; try with_reducible rfl)
              try simp only [Act.put, pB, pC, pD]
              refine wpAnyH_done (by kernel_rfl) ?_ _
              go_wp2_with fail
              clear hH17 hH19 hHeld d0 d1 d2 d3 d4 e0 e1 e2 e3 e4 hpost hTI hlI hc27
              go_roundg (K - (i3 + 1))
              case measure => have := HH3.out; omega
              case rel => exact ⟨i3 + 1, S4, by have := HH3.out; omega, by go_num, Lib.hid hR27, HR4, Lib.hid (HVI.out.step HQK.out (by omega) HS4.out), Lib.hid (HB26.out.trans hb27)⟩
            · obtain rfl : i3 = K := by omega
              clear hi3 HH3
              go_wp2_with fail
              refine (r3_hold i3 H3 HVI).mono ?_
              rintro e w28 ⟨A1, m1, c1, rfl, hv1, hb28⟩
              have H28 := Lib.hid (H3.out.all hb28)
              have HB28 := Lib.hid (HB3.out.trans (hb28.mono HB3.out.size))
              obtain ⟨gS, S5, val, rfl, hcS, hr5, hv2⟩ := H28.out.sts.cell (k := i3) (by omega)
              obtain rfl : S5 = S3 := by
                have h := HRI.out
                rw [hr5] at h
                injection h
              obtain ⟨Ax, ks, cx, hx, hx1, hx2, hx3, hx4⟩ := hv1
              injection hx with hx5 hx6 hx7
              subst hx5 hx6 hx7
              obtain ⟨Ay, ks2, cy, rfl, hy1, hy2, hy3, hy4⟩ := hv2
              obtain rfl := hx1.unique hy1
              have HX4 := Lib.hid hx4
              have HY4 := Lib.hid hy4
              have hkl := Nat.le_trans hx2 hx3
              clear hx4 hy4 hx1 hy1 hx2 hx3 hy2 hy3 hr5 hb28 H3 HB3
              go_wp2
              go_loopg [37] ks.length (fun gk v37 wr => ∃ j : Nat, j + gk = ks.length ∧ v37 = .int .i64 (j : Int) ∧ Hid (RowT wr 69 A1 (ks.flatMap (hcells S5))) ∧ Hid (RowT wr 69 Ay (ks.flatMap (hcells S5))) ∧ Hid (Below W.heap.size W wr))
              case atStart => exact ⟨0, by omega, rfl, HX4, HY4, HB28⟩
              case round =>
                clear HX4 HY4 HB28 H28
                obtain ⟨j, hj, rfl, HX, HY, HB⟩ := hrel
                have HHJ := Lib.hid hj
                rcases Nat.lt_or_ge j ks.length with hltj | hgej
                · have hltJ : (j : Int) < (ks.length : Int) := by omega
                  have hj0 : (0 : Int) ≤ (j : Int) := by omega
                  clear hj
                  obtain ⟨bx, ox, rfl, x0, x1, x2⟩ := hold_at HX.out hltj
                  obtain ⟨by_, oy, rfl, y0, y1, y2⟩ := hold_at HY.out hltj
                  go_wp2_with fail
                  go_quiet (fail)
                  go_wp2_with fail
                  go_roundg (ks.length - (j + 1))
                  case measure => have := HHJ.out; omega
                  case rel => exact ⟨j + 1, by have := HHJ.out; omega, by go_num, HX, HY, Lib.hid (below_drewN HB.out _)⟩
                · obtain rfl : j = ks.length := by omega
                  go_wp2_with fail
                  refine (jlives_any _).mono ?_
                  rintro e w30 ⟨rfl, hb30⟩
                  go_wp2
                  go_ret
                  exact ⟨rfl, HB.out.trans (hb30.mono HB.out.size)⟩
end Go.Proofs.YtgjbbobphfejoaaGreatDoor

/- Posting the steps of the records behind a crash gives the holdings after some number of the steps, at least those whose Append returned OK (JournalReplays). The listed variable is lexer's table of the kinds of bytes, tied to the program's text. -/
namespace Go.Proofs.YtgjbbobphfejoaaGreatDoor
open Go.ChangeShapes Go.WideShapes Go.ChangeAt Go.RowKit Go.ChangeMaps

set_option maxRecDepth 100000 in
theorem JournalReplays_lifted (os : Os) (started : os.Started) (H : Type) (enc : TypeId × Value → H) :
    ReturnsInHanded {} Tryz.checked os 3 .any (fun w args => (Rows.journalReplaysSpec.pre enc Tryz.prog Tryz.f3 [] false w args ∧ laidMetH Tryz.prog laidK w) ∧ sizedMet enc Tryz.prog Tryz.f3 (OpenSpec.ofChange Rows.journalReplaysSpec) false w args)
      (Rows.journalReplaysSpec.post enc Tryz.prog Tryz.f3 false true false false) := by
  refine returnsInHanded_of_change_and (C := Tryz.checked) (X := fun w _ => laidMetH Tryz.prog laidK w) (fun _ _ _ hh h => h.of_heap hh) Tryz.own started (by kernel_rfl) Tryz.func3
    (ChangeSpec.witness_shaped (enc := enc) (C := Tryz.checked) (os := os) (X := fun w _ => laidMetH Tryz.prog laidK w) false (World.doorLaid Tryz.prog 400 os) #[.slice none 0 0, .slice none 0 0, .int .i64 0, .int .i64 0] 8 rfl (World.shaped_of_RefB (by kernel_rfl) (by kernel_rfl)) (by kernel_rfl) (by kernel_rfl) (by kernel_rfl) (kinds_door os _)) ?_
  intro W base args ds gs before hval0 hW _ _ hL _
  have hval : ∀ (j : Nat) t v, Tryz.f3.params[j]? = some t → args[j]? = some v → Value.okWide Tryz.prog W .any base t v := hval0
  have hW' := hW
  obtain ⟨p, q, hT0, hV, rfl, hfz, hnd⟩ := hW
  have hT : DataW.TrodAll enc Tryz.prog W 0 (fun _ => true) true Tryz.f3.params.toList args.toList ds p := hT0
  rw [Tryz.params3] at hT hval
  obtain ⟨v0, vs0, d0, ds0, p0, q0, hargs0, rfl, rfl, h0, r0⟩ := trodAll_cons hT
  obtain ⟨v1, vs1, d1, ds1, p1, q1, hargs1, rfl, rfl, h1, r1⟩ := trodAll_cons r0
  obtain ⟨v2, vs2, d2, ds2, p2, q2, hargs2, rfl, rfl, h2, r2⟩ := trodAll_cons r1
  obtain ⟨v3, vs3, d3, ds3, p3, q3, hargs3, rfl, rfl, h3, r3⟩ := trodAll_cons r2
  obtain ⟨rfl, rfl, rfl⟩ := trodAll_nil r3
  obtain rfl : args = #[v0, v1, v2, v3] := by cases args; simp_all
  obtain ⟨A0, n0, c0, f0, rfl, hA0, hn0, hc0, hR0, hw0⟩ := open_sl Tryz.underlying22 Tryz.underlying3 (by kernel_rfl) (hval 0 22 v0 rfl rfl) h0
  obtain ⟨A1, n1, c1, f1, rfl, hA1, hn1, hc1, hR1, hw1⟩ := open_sl Tryz.underlying22 Tryz.underlying3 (by kernel_rfl) (hval 1 22 v1 rfl rfl) h1
  obtain ⟨a2, rfl, -, -, w2⟩ := open_int Tryz.underlying3 (hval 2 3 v2 rfl rfl) h2
  obtain ⟨a3, rfl, -, -, w3⟩ := open_int Tryz.underlying3 (hval 3 3 v3 rfl rfl) h3
  refine (JournalReplays_walk W A0 n0 c0 f0 hA0 hn0 hc0 hR0 hw0 A1 n1 c1 f1 hA1 hn1 hc1 hR1 hw1 a2 w2 a3 w3 (Lib.hid (kinds_laid hL))).mono fun e W' ⟨he, hb⟩ => ?_
  subst he
  exact ⟨_, rfl, law_post Tryz.laidOut (by kernel_rfl) (by kernel_rfl) Tryz.underlying4 rfl hW' rfl hb⟩

theorem JournalReplays_row : Rows.JournalReplaysSaid :=
  OpenClaim.holds_of_wide 3 Tryz.f3 rfl rfl rfl rfl rfl rfl rfl ⟨rfl, rfl, rfl, rfl, rfl⟩ rfl rfl rfl rfl rfl (by kernel_rfl) Tryz.func3 (by kernel_rfl)
    (of_decide_eq_true (by kernel_rfl)) (by unfold Func.isWrapper; first | (rw [if_pos (by decide +kernel)]; kernel_rfl) | (rw [if_neg (by decide +kernel)]; exact ⟨rfl, rfl⟩))
    (fun os started H enc _ => JournalReplays_lifted os started H enc)

theorem JournalReplays_holds : Rows.JournalReplaysCardSaid :=
  Claim7.holds_tied_plain_at .later [] [.data] true Rows.journalReplaysCard.stood.harness false
    JournalReplays_row (fun _ h => by cases h) (by kernel_rfl) (fun _ h => by cases h) journalReplays_row_tie rfl ⟨rfl, rfl⟩ (by kernel_rfl) rfl
    (fun f fn hf hfn => by
      obtain rfl : f = 3 := Option.some.inj ((show Tryz.prog.funcNamed "worldmint/worldmintlaw25.JournalReplays" = some 3 by kernel_rfl).symm.trans hf) |>.symm
      obtain rfl : fn = Tryz.f3 := (Option.some.inj (Tryz.func3.symm.trans hfn)).symm
      exact ⟨by kernel_rfl, fun j t ht => by
        rw [Tryz.params3] at ht
        have hm : t ∈ [22, 3] := by
          have := Array.mem_of_getElem? ht
          simp at this ⊢
          omega
        have hall : ([22, 3].all fun u => !Tryz.prog.wantsStandIn u) = true := by kernel_rfl
        exact (show Tryz.prog.wantsStandIn t = false by simpa using List.all_eq_true.1 hall t hm)⟩)
    (by kernel_rfl)
end Go.Proofs.YtgjbbobphfejoaaGreatDoor
