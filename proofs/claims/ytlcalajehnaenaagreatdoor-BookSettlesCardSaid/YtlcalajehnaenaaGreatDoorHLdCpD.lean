/- package catalog, the compiler: declare, at items. -/
import Derived.Test.YtlcalajehnaenaaGreatDoorHLdCpK
import Derived.StillTailTactics
namespace Go.Proofs.YtlcalajehnaenaaGreatDoor
open Go.RowKit
def DcIs (w : World) (A : Option Addr) (n c : Nat) (ds : List Dcl) : Prop := ds.length = n ∧ n ≤ c ∧ c ≤ 9223372036854775807 ∧ RowT w 78 A (ds.flatMap dclV)
section
variable {w w' : World} {A : Option Addr} {n c : Nat} {ds : List Dcl} {F : Nat → Prop}
theorem DcIs.mod (h : DcIs w A n c ds) (m : Mod F w w') (hF : ∀ b, F b → ¬ Ty w b 78) : DcIs w' A n c ds := ⟨h.1, h.2.1, h.2.2.1, h.2.2.2.mod m hF⟩
theorem DcIs.all (h : DcIs w A n c ds) (hb : Below w.heap.size w w') : DcIs w' A n c ds := h.mod (F := fun _ => False) (Mod.of_below _ hb) (fun _ hf => hf.elim)
theorem DcIs.of_own {B : Nat} (h : w.ownsRow B 78 17 (.slice A n c) ds.length (ds.flatMap dclV)) : DcIs w A n c ds := by
 refine ⟨?_, ?_, ?_, RowT.of_own h⟩
 all_goals
  rcases h.2 with ⟨h2, hn⟩ | ⟨g, cap, cur, h2, _, hh, hnc, hm, hcs, htk⟩
  ·injection h2 with _ e1 e2
   omega
  ·injection h2 with _ e1 e2
   first | omega | (have := hm; omega) | (unfold maxLen at *; omega)
theorem DcIs.at_ (h : DcIs w A n c ds) {k : Nat} (hk : k < n) : ∃ b off d, A = some ⟨b, off, none⟩ ∧ b < w.heap.size ∧ ds[k]? = some d ∧ ∀ i, i < 17 → w.cell? ⟨b, off + (k * 17 + i), none⟩ = (dclV d)[i]? := by
 obtain ⟨h1, -, -, h4⟩ := h
 obtain ⟨b, off, e, hb, -, hc⟩ := h4.at_ dclV 17 dclV_len (by decide) (k := k) (by omega)
 exact ⟨b, off, ds[k], e, hb, List.getElem?_eq_getElem (by omega), hc⟩
end
theorem cEnc_nm {s : ByteArray} (h : s.size ≤ 16) : cEnc (nmK s) = .agg #[.int .i64 0, .string s] := by
 unfold cEnc nmK
 rw [dif_pos h]
def itmOf (d : Dcl) : Itm := ⟨d.nm, false, d.co⟩
set_option maxRecDepth 100000 in
set_option maxHeartbeats 4000000 in
theorem declare_any (kb mi : Nat) (i1 i2 i3 i4 i5 : Value) (A : Option Addr) (n c : Nat) (ds : List Dcl) (es : List (SK × Value)) (w : World) (HB : Hid (Blk w kb 72 #[.map (some mi), i1, i2, i3, i4, i5])) (HI : Hid (DcIs w A n c ds)) (hn : n ≤ 1000000) (HM : Hid (GMap sEnc w mi es)) (HN : Hid (((ds.map itmOf).map Itm.nm).Nodup)) (HZ : Hid (∀ i ∈ ds.map itmOf, i.nm.size ≤ 16)) :
 Calls Tryz.prog 15 #[.pointer (some ⟨kb, 0, none⟩), .slice A n c] w fun x w' => x = .returned (.tuple #[]) ∧ Mod (fun b => b = mi) w w' := by
 have hmm : (Instr.makeMap 129 none).run Tryz.prog w = .ok (.map (some w.heap.size)) (w.alloc (.map #[] 0)) := rfl
 have hba := (Below.refl w.heap.size w).alloc (Nat.le_refl _) (.map #[] 0)
 have HS0 := Lib.hid (GMap.new cEnc w)
 have HM0 : Hid (∃ es, GMap sEnc (w.alloc (.map #[] 0)) mi es) := Lib.hid ⟨es, HM.out.all hba⟩
 have HD0 := Lib.hid (Mod.of_below (fun b => b = mi) hba)
 have hlm := HM.out.lt
 have hlk := HB.out.lt
 have hkm : kb ≠ mi := fun e => by subst e; exact HM.out.not_ty HB.out.ty
 clear hba
 go_enter Tryz.func15, Tryz.ntmps15
 go_wp2
 clear hmm
 have hl : ds.length = n := HI.out.1
 have HL := Lib.hid hl
 clear hl
 go_loopg [5, 7, 8, 12] n (fun gk v5 _v7 _v8 v12 wr => ∃ k : Nat, k + gk = n ∧ v5 = .int .i64 (k : Int) ∧ v12 = .int .i64 (k : Int) ∧ Hid (GMap cEnc wr w.heap.size (seenK ((ds.map itmOf).take k))) ∧ Hid (∃ es, GMap sEnc wr mi es) ∧ Hid (Mod (fun b => b = mi) w wr))
 case atStart => exact ⟨0, by omega, rfl, rfl, HS0, HM0, HD0⟩
 case round =>
  clear HS0 HM0 HD0
  obtain ⟨k, hi, rfl, rfl, HS, HMI, HD⟩ := hrel
  have HHI := Lib.hid hi
  rcases Nat.lt_or_ge k n with hlt | hge
  ·have hltI : (k : Int) < (n : Int) := by omega
   have hi0 : (0 : Int) ≤ (k : Int) := by omega
   obtain ⟨b, off, d, rfl, hb, hdk, hc⟩ := (HI.out.mod HD.out (fun x hx hy => by subst hx; exact HM.out.not_ty hy)).at_ hlt
   have o0 : wr.cell? ⟨b, off + k * 17, none⟩ = some (.int .i64 0) := by have := hc 0 (by decide); simpa [Nat.add_assoc, dclV, declV] using this
   have o1 : wr.cell? ⟨b, off + k * 17 + 1, none⟩ = some (.string d.nm) := by have := hc 1 (by decide); simpa [Nat.add_assoc, dclV, declV] using this
   have o2 : wr.cell? ⟨b, off + k * 17 + 2, none⟩ = some (.int .i64 d.at_) := by have := hc 2 (by decide); simpa [Nat.add_assoc, dclV, declV] using this
   have o3 : wr.cell? ⟨b, off + k * 17 + 3, none⟩ = some (.bool false) := by have := hc 3 (by decide); simpa [Nat.add_assoc, dclV, declV] using this
   have o4 : wr.cell? ⟨b, off + k * 17 + 4, none⟩ = some (.bool false) := by have := hc 4 (by decide); simpa [Nat.add_assoc, dclV, declV] using this
   have o5 : wr.cell? ⟨b, off + k * 17 + 5, none⟩ = some (.bool d.co) := by have := hc 5 (by decide); simpa [Nat.add_assoc, dclV, declV] using this
   have o6 : wr.cell? ⟨b, off + k * 17 + 6, none⟩ = some (.int .i64 0) := by have := hc 6 (by decide); simpa [Nat.add_assoc, dclV, declV] using this
   have o7 : wr.cell? ⟨b, off + k * 17 + 7, none⟩ = some (.int .i64 0) := by have := hc 7 (by decide); simpa [Nat.add_assoc, dclV, declV] using this
   have o8 : wr.cell? ⟨b, off + k * 17 + 8, none⟩ = some (.int .i64 0) := by have := hc 8 (by decide); simpa [Nat.add_assoc, dclV, declV] using this
   have o9 : wr.cell? ⟨b, off + k * 17 + 9, none⟩ = some (.int .i64 0) := by have := hc 9 (by decide); simpa [Nat.add_assoc, dclV, declV] using this
   have o10 : wr.cell? ⟨b, off + k * 17 + 10, none⟩ = some (.int .i64 0) := by have := hc 10 (by decide); simpa [Nat.add_assoc, dclV, declV] using this
   have o11 : wr.cell? ⟨b, off + k * 17 + 11, none⟩ = some (.int .i64 0) := by have := hc 11 (by decide); simpa [Nat.add_assoc, dclV, declV] using this
   have o12 : wr.cell? ⟨b, off + k * 17 + 12, none⟩ = some (.slice none 0 0) := by have := hc 12 (by decide); simpa [Nat.add_assoc, dclV, declV] using this
   have o13 : wr.cell? ⟨b, off + k * 17 + 13, none⟩ = some (.slice none 0 0) := by have := hc 13 (by decide); simpa [Nat.add_assoc, dclV, declV] using this
   have o14 : wr.cell? ⟨b, off + k * 17 + 14, none⟩ = some (.slice none 0 0) := by have := hc 14 (by decide); simpa [Nat.add_assoc, dclV, declV] using this
   have o15 : wr.cell? ⟨b, off + k * 17 + 15, none⟩ = some (.slice none 0 0) := by have := hc 15 (by decide); simpa [Nat.add_assoc, dclV, declV] using this
   have o16 : wr.cell? ⟨b, off + k * 17 + 16, none⟩ = some (.slice none 0 0) := by have := hc 16 (by decide); simpa [Nat.add_assoc, dclV, declV] using this
   have HDK := Lib.hid hdk
   clear hi hb hdk hc
   go_wp2_with fail
   clear o0 o1 o2 o3 o4 o5 o6 o7 o8 o9 o10 o11 o12 o13 o14 o15 o16
   have hba := (Below.refl wr.heap.size wr).alloc (Nat.le_refl _) (.cells #[.int .i64 0, .string d.nm, .int .i64 d.at_, .bool false, .bool false, .bool d.co, .int .i64 0, .int .i64 0, .int .i64 0, .int .i64 0, .int .i64 0, .int .i64 0, .slice none 0 0, .slice none 0 0, .slice none 0 0, .slice none 0 0, .slice none 0 0] 78)
   have kb7 := Blk.new wr 78 #[.int .i64 0, .string d.nm, .int .i64 d.at_, .bool false, .bool false, .bool d.co, .int .i64 0, .int .i64 0, .int .i64 0, .int .i64 0, .int .i64 0, .int .i64 0, .slice none 0 0, .slice none 0 0, .slice none 0 0, .slice none 0 0, .slice none 0 0]
   obtain ⟨w2, hw2⟩ : ∃ w2, wr.alloc (.cells #[.int .i64 0, .string d.nm, .int .i64 d.at_, .bool false, .bool false, .bool d.co, .int .i64 0, .int .i64 0, .int .i64 0, .int .i64 0, .int .i64 0, .int .i64 0, .slice none 0 0, .slice none 0 0, .slice none 0 0, .slice none 0 0, .slice none 0 0] 78) = w2 := ⟨_, rfl⟩
   obtain ⟨b7, hb7⟩ : ∃ b7, wr.heap.size = b7 := ⟨_, rfl⟩
   rw [hw2] at hba kb7 ⊢
   rw [hb7] at kb7 ⊢
   have y0 : w2.cell? ⟨b7, 0, none⟩ = some (.int .i64 0) := kb7.cell 0
   have y1 : w2.cell? ⟨b7, 1, none⟩ = some (.string d.nm) := kb7.cell 1
   refine (fun (hfin : ?GG) => ?AA) ?BB
   case AA =>
    refine wp_region_held_drew (S := (fun y => y.cell? ⟨b7, 0, none⟩ = some (.int .i64 0) ∧ y.cell? ⟨b7, 1, none⟩ = some (.string d.nm))) (by kernel_rfl) ⟨y0, y1⟩ (fun hHeld => ?_)
    refine takeJ 0 (some 16) ?_
    refine takeJ 1 (some 17) ?_
    refine takeJ 3 (some 19) ?_
    refine takeJ 4 (some 20) ?_
    refine wpAnyH_ready (rs := [2, 6]) (by kernel_rfl) (by simp) ?_
    refine AllReadyH.cons rfl (fun K hK => ?_) (AllReadyH.cons rfl (fun K hK => ?_) AllReadyH.nil)
    ·go_simp
     go_at_call 52
     refine (group_item _).mono ?_
     rintro e9 w9 ⟨rfl, hw9⟩
     rw [hw9]
     clear hw9
     go_wp2
     refine hK.out _ _ ?_ (fun hHa => ?_)
     ·exact (by first | exact ⟨y0, y1⟩ | exact ⟨(Blk.alloc kb7 _).cell 0, (Blk.alloc kb7 _).cell 1⟩)
     clear hK K
     try simp only [Act.put, pB, pC, pD]
     refine takeJ 5 (some 21) ?_
     refine wpAnyH_ready (rs := [6]) (by kernel_rfl) (by simp) ?_
     refine AllReadyH.cons rfl (fun K hK => ?_) AllReadyH.nil
     go_simp
     refine hK.out _ _ ?_ (fun hHb => ?_)
     ·exact (by first | exact ⟨y0, y1⟩ | exact ⟨(Blk.alloc kb7 _).cell 0, (Blk.alloc kb7 _).cell 1⟩)
     clear hK K
     try simp only [Act.put, pB, pC, pD]
     refine wpAnyH_ready (rs := [7]) (by kernel_rfl) (by simp) ?_
     refine AllReadyH.cons rfl (fun K hK => ?_) AllReadyH.nil
     go_simp
     refine hK.out _ _ ?_ (fun hHc => ?_)
     ·exact (by first | exact ⟨y0, y1⟩ | exact ⟨(Blk.alloc kb7 _).cell 0, (Blk.alloc kb7 _).cell 1⟩)
     clear hK K
     try simp only [Act.put, List.setIfInBounds_toArray]
     refine wpAnyH_done (by kernel_rfl) ?_ _
     exact hfin
    ·go_simp
     refine hK.out _ _ ?_ (fun hHa => ?_)
     ·exact (by first | exact ⟨y0, y1⟩ | exact ⟨(Blk.alloc kb7 _).cell 0, (Blk.alloc kb7 _).cell 1⟩)
     clear hK K
     try simp only [Act.put, pB, pC, pD]
     refine wpAnyH_ready (rs := [2]) (by kernel_rfl) (by simp) ?_
     refine AllReadyH.cons rfl (fun K hK => ?_) AllReadyH.nil
     go_simp
     go_at_call 52
     refine (group_item _).mono ?_
     rintro e9 w9 ⟨rfl, hw9⟩
     rw [hw9]
     clear hw9
     go_wp2
     refine hK.out _ _ ?_ (fun hHb => ?_)
     ·exact (by first | exact ⟨y0, y1⟩ | exact ⟨(Blk.alloc kb7 _).cell 0, (Blk.alloc kb7 _).cell 1⟩)
     clear hK K
     try simp only [Act.put, pB, pC, pD]
     refine takeJ 5 (some 21) ?_
     refine wpAnyH_ready (rs := [7]) (by kernel_rfl) (by simp) ?_
     refine AllReadyH.cons rfl (fun K hK => ?_) AllReadyH.nil
     go_simp
     refine hK.out _ _ ?_ (fun hHc => ?_)
     ·exact (by first | exact ⟨y0, y1⟩ | exact ⟨(Blk.alloc kb7 _).cell 0, (Blk.alloc kb7 _).cell 1⟩)
     clear hK K
     try simp only [Act.put, List.setIfInBounds_toArray]
     refine wpAnyH_done (by kernel_rfl) ?_ _
     exact hfin
   clear y0 y1
   have hdi : (ds.map itmOf)[k]? = some (itmOf d) := by rw [List.getElem?_map, HDK.out]; rfl
   have hds : d.nm.size ≤ 16 := HZ.out _ (List.mem_of_getElem? hdi)
   have hbc := ((Below.refl w2.heap.size w2).alloc (Nat.le_refl _) (.cells #[.int .i64 0, .string d.nm] 131)).drew
   have kb8 : Blk (w2.alloc (.cells #[.int .i64 0, .string d.nm] 131)).drew w2.heap.size 131 #[.int .i64 0, .string d.nm] := Blk.new w2 _ _
   obtain ⟨w3, hw3⟩ : ∃ w3, (w2.alloc (.cells #[.int .i64 0, .string d.nm] 131)).drew = w3 := ⟨_, rfl⟩
   obtain ⟨b8, hb8⟩ : ∃ b8, w2.heap.size = b8 := ⟨_, rfl⟩
   have hlwr := HD.out.size
   have hl8 : w.heap.size ≤ b8 ∧ w.heap.size ≤ b7 := by have := hba.size; omega
   rw [hw3] at hbc kb8 ⊢
   rw [hb8] at kb8 ⊢
   have hw23 : Below wr.heap.size wr w3 := hba.trans (hbc.mono hba.size)
   have hD3 : Mod (fun b => b = mi) w w3 := HD.out.then_below hw23
   have k7 := kb7.all hbc
   have hS3 := HS.out.all hw23
   obtain ⟨es3, hM3'⟩ := HMI.out
   have hM3 := hM3'.all hw23
   have hkb := hD3.blk HB.out hkm
   have c0 : w3.cell? ⟨kb, 0, none⟩ = some (.map (some mi)) := hkb.cell 0
   have y0 : w3.cell? ⟨b7, 0, none⟩ = some (.int .i64 0) := k7.cell 0
   have y1 : w3.cell? ⟨b7, 1, none⟩ = some (.string d.nm) := k7.cell 1
   have x0 : w3.cell? ⟨b8, 0, none⟩ = some (.int .i64 0) := kb8.cell 0
   have x1 : w3.cell? ⟨b8, 1, none⟩ = some (.string d.nm) := kb8.cell 1
   obtain ⟨jB, hjB, hzB⟩ := infoB
   have hlk := hS3.look cEncOk Tryz.underlying129 hjB hzB (nmK d.nm)
   rw [cEnc_nm hds, show nmK d.nm = nmK (itmOf d).nm from rfl, seenK_none HN.out HZ.out hdi] at hlk
   have hlk : (Instr.lookup 129 (.map (some w.heap.size)) (.agg #[.int .i64 0, .string d.nm]) false).run Tryz.prog w3 = .ok (.bool false) w3 := hlk
   obtain ⟨w4, hr4, hM4, hg4, hs4⟩ := GMap.store (w := w3.drew) hM3 sEncOk Tryz.underlying70 (nmK d.nm) (.int .i64 (k : Int))
   rw [nmK_enc hds] at hr4
   have hm4 : Mod (fun b => b = mi) w3 w4 := (Mod.refl (fun b => b = mi) w3).drew.then_grown hg4 (fun g e => by injection e with e; exact .inl e.symm)
   have hS4 := hS3.mod hm4 (fun e => by omega)
   have k8 := kb8
   have k8 := hm4.blk k8 (fun e => by omega)
   have u0 : w4.cell? ⟨b8, 0, none⟩ = some (.int .i64 0) := k8.cell 0
   have u1 : w4.cell? ⟨b8, 1, none⟩ = some (.string d.nm) := k8.cell 1
   obtain ⟨w5, hr5, hS5, hg5, hs5⟩ := hS4.store cEncOk Tryz.underlying129 (nmK d.nm) (.bool true)
   rw [cEnc_nm hds] at hr5
   rw [show nmK d.nm = nmK (itmOf d).nm from rfl, seenK_put HN.out HZ.out hdi] at hS5
   have hm5 : Mod (fun b => b = w.heap.size) w4 w5 := Mod.of_grown hg5 (fun g e => by injection e with e; exact .inl e.symm)
   have HS5 := Lib.hid hS5
   have HM5 : Hid (∃ es, GMap sEnc w5 mi es) := Lib.hid ⟨_, hM4.mod hm5 (fun e => by omega)⟩
   have HD5 : Hid (Mod (fun b => b = mi) w w5) := Lib.hid ((hD3.trans hm4 (fun b hb => .inl hb)).trans hm5 (fun b hb => .inr (Nat.le_of_eq hb.symm)))
   clear hdi hds hbc kb8 hw23 hD3 k7 hS3 hM3' hM3 hkb hjB hzB hM4 hg4 hs4 hm4 hS4 k8 hS5 hg5 hs5 hm5 hba kb7 hl8 hlwr hb7 hb8 hw2 hw3
   go_wp2_with fail
   go_still_tail 7, (by kernel_rfl)
   change wpList _ _ _ _ _ w3.drew
   go_wp2
   go_roundg (n - (k + 1))
   case measure => have := HHI.out; omega
   case rel => exact ⟨k + 1, by have := HHI.out; omega, by go_num, by go_num, HS5, HM5, HD5⟩
  ·obtain rfl : k = n := by omega
   go_wp2
   go_end0
   exact ⟨rfl, HD.out⟩
end Go.Proofs.YtlcalajehnaenaaGreatDoor
