/- package catalog, the compiler: resolve, Compile. -/
import Derived.Test.YtlcalajehnaenaaGreatDoorHLdCpI
import Derived.Test.YtlcalajehnaenaaGreatDoorHLdValid
import Derived.Deep.DeepCutAuto
namespace Go.Proofs.YtlcalajehnaenaaGreatDoor
open Go.RowKit
set_option maxRecDepth 100000 in
set_option maxHeartbeats 4000000 in
theorem resolve_any (B kb mi : Nat) (is : List Itm) (d : Dcl) (w : World) (HC : Hid (CpAt B kb mi is w)) (hl : is.length < 64) :
 Calls Tryz.prog 16 #[.pointer (some ⟨kb, 0, none⟩), .agg #[.int .i64 0, .string d.nm, .int .i64 d.at_, .bool false, .bool false, .bool d.co, .int .i64 0, .int .i64 0, .int .i64 0, .int .i64 0, .int .i64 0, .int .i64 0, .slice none 0 0, .slice none 0 0, .slice none 0 0, .slice none 0 0, .slice none 0 0]] w fun x w' => x = .returned (.tuple #[]) ∧ CpAt B kb mi (is ++ [itmOf d]) w' ∧ Below B w w' := by
 have hba := (Below.refl w.heap.size w).alloc (Nat.le_refl _) (.cells #[.int .i64 0, .string d.nm, .int .i64 d.at_, .bool false, .bool false, .bool d.co, .int .i64 0, .int .i64 0, .int .i64 0, .int .i64 0, .int .i64 0, .int .i64 0, .slice none 0 0, .slice none 0 0, .slice none 0 0, .slice none 0 0, .slice none 0 0] 78)
 have HC2 := Lib.hid (HC.out.all hba)
 have HB2 := Lib.hid (hba.mono HC.out.lo.2)
 clear hba
 go_enter Tryz.func16, Tryz.ntmps16
 go_wp2_with fail
 refine (item_any B kb mi is d _ HC2 hl).mono ?_
 rintro e9 w3 ⟨rfl, hC3, hb3⟩
 have HC3 := Lib.hid hC3
 have HB3 := Lib.hid (HB2.out.trans hb3)
 clear hC3 hb3
 go_wp2
 go_end0
 exact ⟨rfl, HC3.out, HB3.out⟩
def CompPost (is : List Itm) (w : World) (x : Ending) (w' : World) : Prop := ∃ (A : Option Addr) (n c : Nat), x = .returned (.tuple #[catA A n c, .slice none 0 0]) ∧ ItAt w' A n c is ∧ Below w.heap.size w w'
set_option maxRecDepth 100000 in
set_option maxHeartbeats 4000000 in
theorem compile_any (s : ByteArray) (ds : List Dcl) (toks : List Tk) (p0 : Int) (w : World) (HK : Hid (KL w)) (HS : Hid (LxS s 0 p0)) (HP : Hid (LxP s p0 toks)) (hsz : s.size ≤ 8192) (hlen : toks.length < 10000) (HDT : Hid (DTk ds toks)) (hdl : ds.length < 64) (HN : Hid (((ds.map itmOf).map Itm.nm).Nodup)) (HZ : Hid (∀ i ∈ ds.map itmOf, i.nm.size ≤ 16)) :
 Calls Tryz.prog 4 #[.string s] w (CompPost (ds.map itmOf) w) := by
 have hmm : ∀ (w : World), (Instr.makeMap 70 none).run Tryz.prog w = .ok (.map (some w.heap.size)) (w.alloc (.map #[] 0)) := fun _ => rfl
 have hb0 := (Below.refl w.heap.size w).alloc (Nat.le_refl _) (.cells #[.slice none 0 0, .slice none 0 0, .slice none 0 0, .slice none 0 0] 28)
 have k2 := Blk.new w 28 #[.slice none 0 0, .slice none 0 0, .slice none 0 0, .slice none 0 0]
 go_enter Tryz.func4, Tryz.ntmps4
 go_wp2_with fail
 obtain ⟨w0, hw0⟩ : ∃ w0, w.alloc (.cells #[.slice none 0 0, .slice none 0 0, .slice none 0 0, .slice none 0 0] 28) = w0 := ⟨_, rfl⟩
 obtain ⟨b2, hb2⟩ : ∃ b2, w.heap.size = b2 := ⟨_, rfl⟩
 have hbb : w.heap.size ≤ b2 := Nat.le_of_eq hb2
 rw [hw0] at hb0 k2 ⊢
 rw [hb2] at k2 ⊢
 refine (parse_any s ds toks p0 w0 (Lib.hid (HK.out.all hb0)) HS HP hsz hlen HDT (by omega)).mono ?_
 rintro x9 wp ⟨A, c, rfl, hown, hbp⟩
 have hlp := hbp.size
 have HI := Lib.hid (DcIs.of_own hown)
 have HB0 := Lib.hid (hb0.trans (hbp.mono hb0.size))
 have HK2 := Lib.hid (k2.all hbp)
 have hm1 := (Below.refl wp.heap.size wp).alloc (Nat.le_refl _) (.map #[] 0)
 have hg1 := GMap.new sEnc wp
 have hm2 := hm1.alloc (by simp) (.cells (cpC wp.heap.size none 0 0) 72)
 have hk1 := Blk.new0 (g := wp.heap.size + 1) (wp.alloc (.map #[] 0)) 72 (cpC wp.heap.size none 0 0) (by simp)
 have hg2 := hg1.all ((Below.refl (wp.alloc (.map #[] 0)).heap.size (wp.alloc (.map #[] 0))).alloc (Nat.le_refl _) (.cells (cpC wp.heap.size none 0 0) 72))
 have hsz2 : ((wp.alloc (.map #[] 0)).alloc (.cells (cpC wp.heap.size none 0 0) 72)).heap.size = wp.heap.size + 2 := by simp
 clear hown hbp hb0 k2 hw0 hm1 hg1 hb2
 have hk1 : Blk ((wp.alloc (.map #[] 0)).alloc (.cells #[.map (some wp.heap.size), .slice none 0 0, .slice none 0 0, .slice none 0 0, .slice none 0 0, .slice none 0 0] 72)) (wp.heap.size + 1) 72 (cpC wp.heap.size none 0 0) := hk1
 have hm2 : Below wp.heap.size wp ((wp.alloc (.map #[] 0)).alloc (.cells #[.map (some wp.heap.size), .slice none 0 0, .slice none 0 0, .slice none 0 0, .slice none 0 0, .slice none 0 0] 72)) := hm2
 have hg2 : GMap sEnc ((wp.alloc (.map #[] 0)).alloc (.cells #[.map (some wp.heap.size), .slice none 0 0, .slice none 0 0, .slice none 0 0, .slice none 0 0, .slice none 0 0] 72)) wp.heap.size [] := hg2
 clear hsz2
 go_wp2_with fail
 obtain ⟨w3, hw3⟩ : ∃ w3, (wp.alloc (.map #[] 0)).alloc (.cells #[.map (some wp.heap.size), .slice none 0 0, .slice none 0 0, .slice none 0 0, .slice none 0 0, .slice none 0 0] 72) = w3 := ⟨_, rfl⟩
 obtain ⟨mi, hmi⟩ : ∃ mi, wp.heap.size = mi := ⟨_, rfl⟩
 have hmi1 : wp.heap.size ≤ mi := Nat.le_of_eq hmi
 rw [hw3] at hk1 hm2 hg2 ⊢
 rw [hmi] at hk1 hg2 ⊢
 refine (declare_any (mi + 1) mi _ _ _ _ _ A ds.length c ds [] w3 (Lib.hid hk1) (Lib.hid (HI.out.all hm2)) (by omega) (Lib.hid hg2) HN HZ).mono ?_
 rintro x9 w4 ⟨rfl, hm4⟩
 have hB4 : Below wp.heap.size wp w4 := hm4.below hm2 hm2.size (fun b hb => by omega)
 have HC4 : Hid (CpAt wp.heap.size (mi + 1) mi [] w4) := Lib.hid ⟨⟨none, 0, hm4.blk hk1 (by omega), World.ownsRow_nil _ _ _ _⟩, by omega, hB4.size⟩
 have HB4 := Lib.hid hB4
 clear hk1 hm2 hg2 hm4 hB4 hw3 hmi hmm
 obtain ⟨n, hn⟩ : ∃ n, ds.length = n := ⟨_, rfl⟩
 have HNN := Lib.hid hn
 have hdl' : n < 64 := by omega
 rw [hn] at HI ⊢
 clear hn hdl
 go_wp2
 go_loopg [9, 31] n (fun gk _v9 v31 wr => ∃ k : Nat, k + gk = n ∧ v31 = .int .i64 (k : Int) ∧ Hid (CpAt wp.heap.size (mi + 1) mi ((ds.map itmOf).take k) wr) ∧ Hid (Below wp.heap.size wp wr))
 case atStart => exact ⟨0, by omega, rfl, HC4, HB4⟩
 case round =>
  clear HC4 HB4
  obtain ⟨k, hi, rfl, HC, HB⟩ := hrel
  have HHI := Lib.hid hi
  rcases Nat.lt_or_ge k n with hlt | hge
  ·as_aux_lemma =>
    have hltI : (k : Int) < (n : Int) := by omega
    have hi0 : (0 : Int) ≤ (k : Int) := by omega
    obtain ⟨b, off, d, rfl, hb, hdk, hc⟩ := (HI.out.all HB.out).at_ hlt
    have o0 : wr.cell? ⟨b, off + k * 17, none⟩ = some (.int .i64 0) := by have := hc 0 (by decide); simpa [Nat.add_assoc, dclV, declV] using this
    have o1 : wr.cell? ⟨b, off + k * 17 + 1, none⟩ = some (.string d.nm) := by have := hc 1 (by decide); simpa [Nat.add_assoc, dclV, declV] using this
    have o2 : wr.cell? ⟨b, off + k * 17 + 2, none⟩ = some (.int .i64 d.at_) := by have := hc 2 (by decide); simpa [Nat.add_assoc, dclV, declV] using this
    have o3 : wr.cell? ⟨b, off + k * 17 + 3, none⟩ = some (.bool false) := by have := hc 3 (by decide); simpa [Nat.add_assoc, dclV, declV] using this
    have o4 : wr.cell? ⟨b, off + k * 17 + 4, none⟩ = some (.bool false) := by have := hc 4 (by decide); simpa [Nat.add_assoc, dclV, declV] using this
    have o5 : wr.cell? ⟨b, off + k * 17 + 5, none⟩ = some (.bool d.co) := by have := hc 5 (by decide); simpa [Nat.add_assoc, dclV, declV] using this
    have o6 : wr.cell? ⟨b, off + k * 17 + 6, none⟩ = some (.int .i64 0) := by have := hc 6 (by decide); simpa [Nat.add_assoc, dclV, declV] using this
    have o7 : wr.cell? ⟨b, off + k * 17 + 7, none⟩ = some (.int .i64 0) := by have := hc 7 (by decide); simpa [Nat.add_assoc, dclV, declV] using this
    have o8 : wr.cell? ⟨b, off + k * 17 + 8, none⟩ = some (.int .i64 0) := by have := hc 8 (by decide); simpa [Nat.add_assoc, dclV, declV] using this
    have o9 : wr.cell? ⟨b, off + k * 17 + 9, none⟩ = some (.int .i64 0) := by have := hc 9 (by decide); simpa [Nat.add_assoc, dclV, declV] using this
    have o10 : wr.cell? ⟨b, off + k * 17 + 10, none⟩ = some (.int .i64 0) := by have := hc 10 (by decide); simpa [Nat.add_assoc, dclV, declV] using this
    have o11 : wr.cell? ⟨b, off + k * 17 + 11, none⟩ = some (.int .i64 0) := by have := hc 11 (by decide); simpa [Nat.add_assoc, dclV, declV] using this
    have o12 : wr.cell? ⟨b, off + k * 17 + 12, none⟩ = some (.slice none 0 0) := by have := hc 12 (by decide); simpa [Nat.add_assoc, dclV, declV] using this
    have o13 : wr.cell? ⟨b, off + k * 17 + 13, none⟩ = some (.slice none 0 0) := by have := hc 13 (by decide); simpa [Nat.add_assoc, dclV, declV] using this
    have o14 : wr.cell? ⟨b, off + k * 17 + 14, none⟩ = some (.slice none 0 0) := by have := hc 14 (by decide); simpa [Nat.add_assoc, dclV, declV] using this
    have o15 : wr.cell? ⟨b, off + k * 17 + 15, none⟩ = some (.slice none 0 0) := by have := hc 15 (by decide); simpa [Nat.add_assoc, dclV, declV] using this
    have o16 : wr.cell? ⟨b, off + k * 17 + 16, none⟩ = some (.slice none 0 0) := by have := hc 16 (by decide); simpa [Nat.add_assoc, dclV, declV] using this
    have HDK := Lib.hid hdk
    clear hi hb hdk hc
    go_upto_region 9 with (fail)
    clear o0 o1 o2 o3 o4 o5 o6 o7 o8 o9 o10 o11 o12 o13 o14 o15 o16
    have hba := (Below.refl wr.heap.size wr).alloc (Nat.le_refl _) (.cells #[.int .i64 0, .string d.nm, .int .i64 d.at_, .bool false, .bool false, .bool d.co, .int .i64 0, .int .i64 0, .int .i64 0, .int .i64 0, .int .i64 0, .int .i64 0, .slice none 0 0, .slice none 0 0, .slice none 0 0, .slice none 0 0, .slice none 0 0] 78)
    have kb9 := Blk.new wr 78 #[.int .i64 0, .string d.nm, .int .i64 d.at_, .bool false, .bool false, .bool d.co, .int .i64 0, .int .i64 0, .int .i64 0, .int .i64 0, .int .i64 0, .int .i64 0, .slice none 0 0, .slice none 0 0, .slice none 0 0, .slice none 0 0, .slice none 0 0]
    obtain ⟨w2, hw2⟩ : ∃ w2, wr.alloc (.cells #[.int .i64 0, .string d.nm, .int .i64 d.at_, .bool false, .bool false, .bool d.co, .int .i64 0, .int .i64 0, .int .i64 0, .int .i64 0, .int .i64 0, .int .i64 0, .slice none 0 0, .slice none 0 0, .slice none 0 0, .slice none 0 0, .slice none 0 0] 78) = w2 := ⟨_, rfl⟩
    obtain ⟨b9, hb9⟩ : ∃ b9, wr.heap.size = b9 := ⟨_, rfl⟩
    rw [hw2] at hba kb9 ⊢
    rw [hb9] at kb9 ⊢
    have q0 : w2.cell? ⟨b9, 0, none⟩ = some (.int .i64 0) := kb9.cell 0
    have q1 : w2.cell? ⟨b9, 1, none⟩ = some (.string d.nm) := kb9.cell 1
    have q2 : w2.cell? ⟨b9, 2, none⟩ = some (.int .i64 d.at_) := kb9.cell 2
    have q3 : w2.cell? ⟨b9, 3, none⟩ = some (.bool false) := kb9.cell 3
    have q4 : w2.cell? ⟨b9, 4, none⟩ = some (.bool false) := kb9.cell 4
    have q5 : w2.cell? ⟨b9, 5, none⟩ = some (.bool d.co) := kb9.cell 5
    have q6 : w2.cell? ⟨b9, 6, none⟩ = some (.int .i64 0) := kb9.cell 6
    have q7 : w2.cell? ⟨b9, 7, none⟩ = some (.int .i64 0) := kb9.cell 7
    have q8 : w2.cell? ⟨b9, 8, none⟩ = some (.int .i64 0) := kb9.cell 8
    have q9 : w2.cell? ⟨b9, 9, none⟩ = some (.int .i64 0) := kb9.cell 9
    have q10 : w2.cell? ⟨b9, 10, none⟩ = some (.int .i64 0) := kb9.cell 10
    have q11 : w2.cell? ⟨b9, 11, none⟩ = some (.int .i64 0) := kb9.cell 11
    have q12 : w2.cell? ⟨b9, 12, none⟩ = some (.slice none 0 0) := kb9.cell 12
    have q13 : w2.cell? ⟨b9, 13, none⟩ = some (.slice none 0 0) := kb9.cell 13
    have q14 : w2.cell? ⟨b9, 14, none⟩ = some (.slice none 0 0) := kb9.cell 14
    have q15 : w2.cell? ⟨b9, 15, none⟩ = some (.slice none 0 0) := kb9.cell 15
    have q16 : w2.cell? ⟨b9, 16, none⟩ = some (.slice none 0 0) := kb9.cell 16
    have hdi : (ds.map itmOf)[k]? = some (itmOf d) := by rw [List.getElem?_map, HDK.out]; rfl
    have hli : ((ds.map itmOf).take k).length < 64 := by rw [List.length_take]; omega
    clear hw2 hb9 kb9
    as_aux_lemma =>
     go_wp2_with fail
     clear q0 q1 q2 q3 q4 q5 q6 q7 q8 q9 q10 q11 q12 q13 q14 q15 q16
     refine (resolve_any wp.heap.size (mi + 1) mi _ d _ (Lib.hid (HC.out.all hba)) hli).mono ?_
     rintro x9 w5 ⟨rfl, hC5, hb5⟩
     have HC5 : Hid (CpAt wp.heap.size (mi + 1) mi ((ds.map itmOf).take (k + 1)) w5) := Lib.hid (by rw [List.take_add_one, hdi]; exact hC5)
     have HB5 : Hid (Below wp.heap.size wp w5) := Lib.hid ((HB.out.trans (hba.mono HB.out.size)).trans hb5)
     clear hba hdi hli hC5 hb5
     go_wp2
     go_roundg (n - (k + 1))
     case measure => have := HHI.out; omega
     case rel => exact ⟨k + 1, by have := HHI.out; omega, by go_num, HC5, HB5⟩
  ·as_aux_lemma =>
    obtain rfl : k = n := by omega
    obtain ⟨⟨A2, c2, hk, ho⟩, -⟩ := HC.out
    rw [List.take_of_length_le (by rw [List.length_map, HNN.out]; exact Nat.le_refl _)] at hk ho
    obtain ⟨n2, hn2⟩ : ∃ n2, (ds.map itmOf).length = n2 := ⟨_, rfl⟩
    have hio := ItAt.of_own (is := ds.map itmOf) ho rfl
    rw [hn2] at hk hio
    have q1 : wr.cell? ⟨mi + 1, 1, none⟩ = some (.slice A2 n2 c2) := hk.cell 1
    have q2 : wr.cell? ⟨mi + 1, 2, none⟩ = some (.slice none 0 0) := hk.cell 2
    have q3 : wr.cell? ⟨mi + 1, 3, none⟩ = some (.slice none 0 0) := hk.cell 3
    have q4 : wr.cell? ⟨mi + 1, 4, none⟩ = some (.slice none 0 0) := hk.cell 4
    have q5 : wr.cell? ⟨mi + 1, 5, none⟩ = some (.slice none 0 0) := hk.cell 5
    have b0 := HK2.out.all HB.out
    have u0 : wr.cell? ⟨b2, 0, none⟩ = some (.slice none 0 0) := b0.cell 0
    have u1 : wr.cell? ⟨b2, 1, none⟩ = some (.slice none 0 0) := b0.cell 1
    have u2 : wr.cell? ⟨b2, 2, none⟩ = some (.slice none 0 0) := b0.cell 2
    have u3 : wr.cell? ⟨b2, 3, none⟩ = some (.slice none 0 0) := b0.cell 3
    have f0 := b0.frozen 0
    have f1 := b0.frozen 1
    have f2 := b0.frozen 2
    have f3 := b0.frozen 3
    have s1 := b0.set_ 0 (.slice A2 n2 c2)
    simp only [List.setIfInBounds_toArray, List.set_cons_zero] at s1
    have s2 := s1.set_ 1 (.slice none 0 0)
    simp only [List.setIfInBounds_toArray, List.set_cons_zero, List.set_cons_succ] at s2
    have s3 := s2.set_ 2 (.slice none 0 0)
    simp only [List.setIfInBounds_toArray, List.set_cons_zero, List.set_cons_succ] at s3
    have s4 := s3.set_ 3 (.slice none 0 0)
    simp only [List.setIfInBounds_toArray, List.set_cons_zero, List.set_cons_succ] at s4
    have m := ((((Mod.refl (fun b => b = b2) wr).set (p := ⟨b2, 0, none⟩) (.inl rfl) (.slice A2 n2 c2)).set (p := ⟨b2, 1, none⟩) (.inl rfl) (.slice none 0 0)).set (p := ⟨b2, 2, none⟩) (.inl rfl) (.slice none 0 0)).set (p := ⟨b2, 3, none⟩) (.inl rfl) (.slice none 0 0)
    obtain ⟨wF, hwF⟩ : ∃ wF, (((wr.setCell ⟨b2, 0, none⟩ (.slice A2 n2 c2)).setCell ⟨b2, 1, none⟩ (.slice none 0 0)).setCell ⟨b2, 2, none⟩ (.slice none 0 0)).setCell ⟨b2, 3, none⟩ (.slice none 0 0) = wF := ⟨_, rfl⟩
    rw [hwF] at s4 m
    have HIF := Lib.hid (hio.mod m (fun x hx hy => by subst hx; exact absurd (hy.unique b0.ty) (by decide)))
    have hbw : Below w.heap.size w wr := HB0.out.trans (HB.out.mono HB0.out.size)
    have HBF : Hid (Below w.heap.size w wF) := Lib.hid (m.below hbw hbw.size (fun x hx => by omega))
    have HS4 := Lib.hid s4
    have HWF := Lib.hid hwF
    clear hi HHI hk ho hio b0 s1 s2 s3 s4 m hwF hbw hn2 HC
    go_wp2
    try rw [HWF.out]
    have p0 : wF.cell? ⟨b2, 0, none⟩ = some (.slice A2 n2 c2) := HS4.out.cell 0
    have p1 : wF.cell? ⟨b2, 1, none⟩ = some (.slice none 0 0) := HS4.out.cell 1
    have p2 : wF.cell? ⟨b2, 2, none⟩ = some (.slice none 0 0) := HS4.out.cell 2
    have p3 : wF.cell? ⟨b2, 3, none⟩ = some (.slice none 0 0) := HS4.out.cell 3
    refine bodyPost_ret (v := .tuple #[catA A2 n2 c2, .slice none 0 0]) (by simp [results, Tryz.results4, go_sem, p0, p1, p2, p3, catA]) rfl ⟨A2, n2, c2, rfl, HIF.out, HBF.out⟩
end Go.Proofs.YtlcalajehnaenaaGreatDoor
