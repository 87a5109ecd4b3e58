/- The walk of JournalDetects. -/
import Derived.Test.YtldmokjpfnakkaaJrnLives
import Derived.Test.YtldmokjpfnakkaaRefHelp2
import Derived.Test.YtldmokjpfnakkaaLaw
namespace Go.Proofs.Ytldmokjpfnakkaa
open Go.ChangeShapes Go.WideShapes Go.ChangeAt Go.RowKit Go.ChangeMaps

theorem scan_one {bs : List UInt8} : ScanIs (frameB 0 bs) [bs] (frameB 0 bs).length := by
  refine ⟨by rw [framesB_cons, framesB_nil, List.append_nil]; rfl, [], by rw [framesB_cons, framesB_nil, List.append_nil, List.append_nil]; rfl, ?_⟩
  intro x r h
  have h1 := congrArg List.length h
  rw [List.length_append] at h1
  have h2 := frameB_pos (([bs].length : Nat) : Int) x
  simp only [List.length_nil] at h1
  omega
theorem scan_none {bs : List UInt8} (h : FirstIs 0 bs none) : ScanIs bs [] 0 := ⟨rfl, bs, rfl, h⟩
theorem shl_ne : ∀ (a : Fin 8) (x : UInt8), xorB x (UInt8.ofNat (2 ^ a.val)) ≠ x := by
  intro a x h
  unfold xorB at h
  have h1 : x ^^^ (x ^^^ UInt8.ofNat (2 ^ a.val)) = x ^^^ x := by rw [h]
  rw [← UInt8.xor_assoc, UInt8.xor_self, UInt8.zero_xor] at h1
  clear h
  revert h1
  revert a
  decide +kernel

set_option maxRecDepth 100000 in
set_option maxHeartbeats 8000000 in
theorem JournalDetects_walk (W : World) (A0 : Option Addr) (n0 c0 : Nat) (f0 : Nat → Int) (hA0 : A0 = none → n0 = 0) (hn0 : n0 ≤ c0) (hc0 : c0 ≤ 9223372036854775807) (hR0 : Rd W W.heap.size A0 n0 (fun j => .int .u8 (f0 j))) (hw0 : Hid (∀ j, j < n0 → (Lit.int .u8 (f0 j)).wf = true)) (a1 : Int) (ha1 : Hid ((Lit.int .i64 a1).wf = true)) :
    Calls Try.prog 5 #[.slice A0 n0 c0, .int .i64 a1] W fun e w' => e = .returned (.bool true) ∧ Below W.heap.size W w' := by
  have hb := Below.refl W.heap.size W
  go_enter Try.func5, Try.ntmps5
  clear hb
  go_wp2_with fail
  refine (few_list _ _ _ 200 _ rfl f0 _ hA0 hR0 hn0 hc0 (by decide) (bytes_wf hw0)).mono ?_
  rintro e w1 ⟨A1, c1, n1, bs, rfl, hnc1, hc1, hn1, -, HL1, -, hown1, hr1, hb1⟩
  clear hown1
  have hlen := frameB_len (k := 0) (bs := bs) ⟨by decide, by decide⟩ (by have := HL1.out; omega)
  have hclen := coreB_len (k := 0) (bs := bs) ⟨by decide, by decide⟩ (by have := HL1.out; omega)
  rw [HL1.out] at hlen hclen
  go_wp2_with fail
  refine (frame_any 0 _ _ _ bs _ HL1 (by decide) (by decide) (by omega) hr1).mono ?_
  rintro e w2 ⟨A2, n2, c2, rfl, HN2, hown2, hb2⟩
  have hr2 := hr1.all hb2
  have hB2 := bt hb1 hb2
  have HS2 := Lib.hid (Sb.own hown2)
  have hn2 : n2 ≤ 240 := by have := HN2.out; omega
  clear hb1 hb2 hr1 hown2
  have hW3 := Wr.new w2
  have hx3 := (Below.refl w2.heap.size w2).alloc (Nat.le_refl _) (.cells #[.slice none 0 0] 37)
  go_wp2_with fail
  refine (wint_any w2.heap.size w2.heap.size [] 0 _ (Lib.hid hW3) (by decide) (by decide) (by simp)).mono ?_
  rintro e w4 ⟨rfl, hW4, hb4⟩
  have hx4 := hx3.trans hb4
  clear hb4 hx3 hW3
  go_wp2_with fail
  refine (wraw_any w2.heap.size w2.heap.size _ bs _ _ _ w2.heap.size _ (Lib.hid hW4) HL1 (by omega) (hr2.below hx4 (Nat.le_refl _)) (Nat.le_refl _) (by have := encInt_len (n := 0) (by decide) (by decide); simp only [List.nil_append]; omega)).mono ?_
  rintro e w5 ⟨rfl, hW5, hb5⟩
  have hx5 := hx4.trans hb5
  replace hW5 : Wr w5 w2.heap.size w2.heap.size (coreB 0 bs) := by simpa [coreB] using hW5
  clear hb5 hx4 hW4 hr2
  go_wp2_with fail
  refine (wdone_any _ _ _ _ (Lib.hid hW5) (by omega)).mono ?_
  rintro e w6 ⟨A6, n6, c6, rfl, hnc6, hc6, HN6, -, hr6, hb6⟩
  have hx6 := hx5.trans (hb6.mono hx5.size)
  have HS6 := Lib.hid (HS2.out.all hx6)
  have hB6 := bt hB2 hx6
  have hn6 : n6 ≤ 220 := by have := HN6.out; omega
  clear hb6 hx5 hW5 hx6 hB2 HS2
  --@1
  have hW7 := Wr.new w6
  have hx7 := (Below.refl w6.heap.size w6).alloc (Nat.le_refl _) (.cells #[.slice none 0 0] 37)
  go_wp2_with fail
  refine (wuint_any w6.heap.size w6.heap.size [] n6 _ rfl _ (Lib.hid hW7) (by omega) (by simp)).mono ?_
  rintro e w8 ⟨rfl, hW8, hb8⟩
  have hx8 := hx7.trans hb8
  replace hW8 : Wr w8 w6.heap.size w6.heap.size (varint n6) := by simpa using hW8
  have hv6 := varint_len10 (n := n6) (by omega)
  clear hb8 hx7 hW7
  go_wp2_with fail
  refine (wdone_any _ _ _ _ (Lib.hid hW8) (by omega)).mono ?_
  rintro e w9 ⟨A9, ah, c9, rfl, -, -, HAH, -, -, hb9⟩
  have hx9 := hx8.trans (hb9.mono hx8.size)
  have hW9 := hW8.all hb9
  have hah : ah ≤ 10 := by have := HAH.out; omega
  clear hb9 hx8 hW8
  go_wp2_with fail
  refine (wraw_any w6.heap.size w6.heap.size _ (coreB 0 bs) _ _ _ w6.heap.size _ (Lib.hid hW9) HN6 (by omega) (hr6.below hx9 (Nat.le_refl _)) (Nat.le_refl _) (by omega)).mono ?_
  rintro e w10 ⟨rfl, -, hb10⟩
  have hx10 := hx9.trans hb10
  have HS10 := Lib.hid (HS6.out.all hx10)
  have hr10 := hr6.all hx10
  have hB10 := bt hB6 hx10
  have hlt : ah + 1 < n2 := by
    have h1 := HN2.out
    have h2 := HAH.out
    have h3 := HN6.out
    unfold frameB encRaw at h1
    rw [List.length_append, List.length_append, h3, h2] at h1
    have := varint_pos (recN (coreB 0 bs))
    have := coreB_gt 0 bs
    omega
  clear hb10 hx9 hx10 hW9 HS6 hr6 hB6 hlen hclen
  --@2
  obtain ⟨bit1, bit2⟩ := wf_i64 ha1.out
  go_wp2_with fail
  --@2a
  refine (around_nat a1 (8 * (n2 - ah)) _ _ (by omega) bit1 bit2 (by omega) (by omega)).mono ?_
  rintro e w11 ⟨at_, rfl, hat, -, rfl⟩
  --@3
  obtain ⟨hfr, hfnc, hfc, hfA⟩ := HS10.out
  clear hfr hfA
  go_wp2_with fail
  refine (few_bytes _ _ _ n2 _ rfl (frameB 0 bs) _ HN2 HS10.out.rd hfnc hfc (by omega)).mono ?_
  rintro e w12 ⟨A12, c12, k12, bs12, rfl, hnc12, hc12, hk12, HK12, HL12, HE12, hown12, -, hb12⟩
  obtain rfl : k12 = n2 := by rw [HK12.out]; omega
  have he12 : bs12 = frameB 0 bs := by rw [HE12.out]; exact List.take_of_length_le (by rw [HN2.out]; omega)
  subst he12
  obtain ⟨g12, rfl, hg12a, hg12b⟩ := own_some hown12 (by omega)
  have hj : ah + at_ / 8 < k12 := by omega
  obtain ⟨hcl, hfz⟩ := own_byte hown12 hj
  go_wp2_with fail
  --@4
  have hq8 : at_ % 8 < 8 := Nat.mod_lt _ (by decide)
  have hxor : bits BinOp.xor IntKind.u8 ((((frameB 0 bs)[ah + at_ / 8]?.getD 0).toNat : Nat) : Int) (2 ^ (at_ % 8) % 256) = (((xorB ((frameB 0 bs)[ah + at_ / 8]?.getD 0) (UInt8.ofNat (2 ^ (at_ % 8)))).toNat : Nat) : Int) := by
    rw [← xor_u8]
    congr 1
  rw [hxor]
  clear hxor
  obtain ⟨v12, hv12⟩ : ∃ v12, xorB ((frameB 0 bs)[ah + at_ / 8]?.getD 0) (UInt8.ofNat (2 ^ (at_ % 8))) = v12 := ⟨_, rfl⟩
  rw [hv12]
  have hne12 : (frameB 0 bs)[ah + at_ / 8]?.getD 0 ≠ v12 := by
    rw [← hv12]
    exact fun h => shl_ne ⟨at_ % 8, hq8⟩ _ h.symm
  have hown13 := own_byte_set hown12 (ah + at_ / 8) v12
  have hB13 : Below w10.heap.size w10 (w12.setCell ⟨g12, ah + at_ / 8, none⟩ (.int .u8 ((v12.toNat : Nat) : Int))) := hb12.setCell (p := ⟨g12, ah + at_ / 8, none⟩) hg12a _
  have hNone : FirstIs 0 ((frameB 0 bs).set (ah + at_ / 8) v12) none := by
    have h1 : (varint (coreB 0 bs).length).length = ah := by rw [HN6.out]; exact HAH.out
    rw [← h1]
    refine turned_none ⟨by decide, by decide⟩ (by have := HL1.out; omega) (by rw [h1, HN2.out]; omega) (by rw [h1]; exact hne12)
  have HNO := Lib.hid (scan_none hNone)
  have HS13 := Lib.hid (Sb.own hown13)
  clear hown12 hown13 hcl hfz hv12 hne12 hNone hb12
  generalize w12.setCell ⟨g12, ah + at_ / 8, none⟩ (.int .u8 ((v12.toNat : Nat) : Int)) = w13 at *
  refine (scan_any _ _ _ _ _ HS13 (by omega)).mono ?_
  rintro e w14 ⟨v14, L14, m14, rfl, hL14, hs14, hb14⟩
  obtain ⟨e1, rfl⟩ := ScanIs.unique (by rw [List.length_set, HN2.out]; omega) hs14 HNO.out
  have hl14 : L14.length = 0 := by rw [← bsOf_length, e1]; rfl
  obtain ⟨A14, c14, rfl⟩ := hL14.slice
  rw [hl14]
  have hB14 := bt hB13 hb14
  have HS14 := Lib.hid (HS10.out.all hB14)
  clear hb14 hs14 e1 hl14 hL14 hB13
  go_wp2_with fail
  refine (scan_any _ _ _ _ _ HS14 (by omega)).mono ?_
  rintro e w15 ⟨v15, L15, m15, rfl, hL15, hs15, hb15⟩
  obtain ⟨e1, e2⟩ := ScanIs.unique (by rw [HN2.out]; omega) hs15 scan_one
  rw [HN2.out] at e2
  subst e2
  have hl15 : L15.length = 1 := by rw [← bsOf_length, e1]; rfl
  obtain ⟨A15, c15, rfl⟩ := hL15.slice
  rw [hl15]
  have hB15 := bt hB14 hb15
  have HS15 := Lib.hid (HS10.out.all hB15)
  clear hb15 hs15 e1 hl15 hL15 hB14
  go_wp2_with fail
  --@5
  refine (read_any _ _ _ (frameB 0 bs) _ HN2 HS15.out.rd (by omega)).mono ?_
  rintro e w16 ⟨g16, rfl, hg16, hR16, hb16, -⟩
  have hB16 := bt hB15 hb16
  have hsz15 := hB15.size
  clear hb16 hB15
  obtain ⟨-, -, -, -, hraw⟩ := first_parts (k := 0) (x := bs) (r := []) (bs := frameB 0 bs) ⟨by decide, by decide⟩ (List.append_nil _).symm (by rw [HN2.out]; omega)
  rw [List.append_nil] at hraw
  have HRAW := Lib.hid hraw
  have HSUM : Hid (readU (varint (recN (coreB 0 bs))) 0 = (0, recN (coreB 0 bs), [])) := Lib.hid (by
    have := decU_enc (recN_lt (coreB 0 bs)) []
    rw [List.append_nil] at this
    unfold readU
    rw [if_pos rfl]
    exact this)
  clear hraw
  go_wp2_with fail
  refine (rraw_any _ g16 _ _ _ (Lib.hid hR16)).mono ?_
  rintro e w17 ⟨A17, n17, c17, rfl, hnc17, hc17, hn17, HN17, hown17, hR17, hg17⟩
  have hB17 := below_of_only hB16 hg17 hB16.size (by omega)
  rw [HRAW.out] at HN17 hown17 hR17
  replace HN17 : Hid ((coreB 0 bs).length = n17) := HN17
  replace hR17 : Rdr w17 w16.heap.size g16 (varint (recN (coreB 0 bs))) 0 := hR17
  have hBT17 := (Bts.of_own hown17).1
  clear hg17 hB16 hR16 hown17
  go_wp2_with fail
  refine (ruint_any _ g16 _ _ _ (Lib.hid hR17)).mono ?_
  rintro e w18 ⟨rfl, hR18, hg18⟩
  have hB18 := below_of_only hB17 hg18 hB17.size (by omega)
  rw [HSUM.out] at hR18 ⊢
  dsimp only at hR18 ⊢
  have hBT18 := hBT17.mod (Mod.of_grown (F := fun b => b = g16) hg18 (fun b e => .inl (by injection e with e; exact e.symm))) (by
    rintro b rfl ht
    exact absurd (Ty.unique (show Ty w17 b 74 by obtain ⟨-, -, A, n, c, hb, -⟩ := hR17; exact hb.ty) ht) (by decide))
  have hr18 := hr10.all hB18
  have hrb18 := hBT18.rd
  have hBW := bt hB10 hB18
  clear hg18 hB17 hR17 hBT17 hBT18 hB18 hr10 HS10 HS14 HS15 HRAW HSUM hB10
  have hR18' : Rdr w18 w16.heap.size g16 [] 0 := hR18
  have HEND : Hid (endI [] 0 = 0) := Lib.hid rfl
  clear hR18
  go_wp2_with fail
  refine (rend_any _ g16 _ _ _ (Lib.hid hR18')).mono ?_
  rintro e w19 ⟨rfl, rfl⟩
  rw [HEND.out]
  go_wp2_with fail
  refine (sameBytes_true _ _ _ _ _ _ (coreB 0 bs) (coreB 0 bs) _ rfl HN17 HN6 hrb18 hr18 (by omega) (by omega)).mono ?_
  rintro e w20 ⟨rfl, hb20⟩
  have hr20 := hr18.all hb20
  have hBW20 := bt hBW hb20
  clear hb20 hr18 hrb18 hBW hR18'
  go_wp2_with fail
  refine (hbytes_any _ _ _ _ _ (coreB 0 bs) _ HN6 (by decide) hnc6 (by omega) (Nat.le_refl _) hr20).mono ?_
  rintro e w21 ⟨rfl, hb21⟩
  have hBW21 := bt hBW20 hb21
  have hsum : bytesI recB (coreB 0 bs) = ((recN (coreB 0 bs) : Nat) : Int) := recN_eq _
  clear hb21 hr20 hBW20
  replace hsum : bytesI (ByteArray.mk #[114, 101, 99, 111, 114, 100]).data.toList (coreB 0 bs) = ((recN (coreB 0 bs) : Nat) : Int) := hsum
  rw [hsum]
  clear hsum
  go_wp2_with fail
  refine (jlives_any _).mono ?_
  rintro e w22 ⟨rfl, hb22⟩
  go_wp2
  go_ret
  exact ⟨rfl, bt hBW21 hb22⟩

end Go.Proofs.Ytldmokjpfnakkaa
