/- journal: the example of the section. -/
import Derived.Test.YtgjbbobphfejoaaGreatDoorHG40
import Derived.Test.YtgjbbobphfejoaaGreatDoorHG13
import Derived.Test.YtgjbbobphfejoaaGreatDoorHG37
import Derived.Deep.QuietTactic
import Derived.BigQuiet

namespace Go.Proofs.YtgjbbobphfejoaaGreatDoor
open Go.RowKit

theorem Sb.own {w : World} {base n c : Nat} {A : Option Addr} {bs : List UInt8} (h : w.ownsRow base 5 1 (.slice A n c) n (bs.map fun b => Value.int .u8 ((b.toNat : Nat) : Int))) : Sb w A n c bs := by
  have hc := own_cap h
  obtain ⟨-, hnc, hr⟩ := rd_bytes h
  refine ⟨by simpa using h.1, hnc, hc, ?_⟩
  rcases h.2 with ⟨h2, h0⟩ | ⟨g, cap, cur, h2, hbg, hg, -⟩
  · injection h2 with h2 h3 h4
    exact .inl ⟨h2, h4⟩
  · injection h2 with h2 h3 h4
    subst h2
    refine .inr ⟨g, 0, rfl, (Array.getElem?_eq_some_iff.1 hg).1, fun j hj => ?_⟩
    obtain ⟨b, off, e, -, hcl⟩ := hr (by omega)
    injection e with e
    injection e with e1 e2 _
    subst e1 e2
    exact hcl j hj
theorem rd_lit (w : World) (t : TypeId) (l : List UInt8) : Rd (w.alloc (.cells (l.map fun b => Value.int .u8 ((b.toNat : Nat) : Int)).toArray t)) (w.heap.size + 1) (some ⟨w.heap.size, 0, none⟩) l.length (vByte l) := fun _ =>
  ⟨_, _, rfl, by omega, fun j hj => by
    have := Blk.cell (Blk.new w t (l.map fun b => Value.int .u8 ((b.toNat : Nat) : Int)).toArray) j
    rw [Nat.zero_add, this]
    simp [vByte, hj]⟩
theorem core7 : coreB 0 [7] = [0, 1, 7] := by
  unfold coreB encInt encRaw
  rw [varint_lt (by decide), varint_lt (by decide)]
  rfl
theorem scan7 : ScanIs (frameB 0 [7] ++ [3, 0, 1]) [[7]] (frameB 0 [7]).length := by
  refine ⟨by rw [framesB_cons, framesB_nil, List.append_nil]; rfl, [3, 0, 1], by rw [framesB_cons, framesB_nil, List.append_nil]; rfl, ?_⟩
  intro x r h
  obtain ⟨h1, h2, -⟩ := first_parts (k := 1) ⟨by decide, by decide⟩ (bs := [3, 0, 1]) (x := x) (r := r) h (by decide)
  have h3 : szB [3, 0, 1] = 3 := by decide +kernel
  rw [h3] at h2
  have := varint_pos 3
  simp only [List.length_cons, List.length_nil] at h2
  omega
set_option maxRecDepth 100000 in
set_option maxHeartbeats 1000000 in
theorem jlives_any (w : World) : Calls Tryz.prog 22 #[] w fun e w' => e = .returned (.bool true) ∧ Below w.heap.size w w' := by
  have hb1 := (Below.refl w.heap.size w).alloc (Nat.le_refl _) (.cells #[.int .u8 7] 5)
  have hr1 : Rd (w.alloc (.cells #[.int .u8 7] 5)) (w.heap.size + 1) (some ⟨w.heap.size, 0, none⟩) 1 (vByte [7]) := rd_lit w 5 [7]
  have hlen := frameB_len (k := 0) (bs := [7]) ⟨by decide, by decide⟩ (by decide)
  have hlen2 := frameB_gt 0 [7]
  rw [core7] at hlen2
  go_enter Tryz.func22, Tryz.ntmps22
  go_wp2_with fail
  refine (frame_any 0 _ 1 _ [7] _ (Lib.hid rfl) (by decide) (by decide) (by decide) (hr1.more (by simp))).mono ?_
  rintro e w2 ⟨A2, n2, c2, rfl, HN2, hown2, hb2⟩
  have hB2 := bt hb1 hb2
  have hn2 : n2 ≤ 100 := by have := HN2.out; simp at hlen; omega
  have hn2' : 4 < n2 := by have := HN2.out; simp at hlen2; omega
  clear hb1 hr1 hb2 hlen hlen2
  have hV3 := WrV.new w2
  have hb3 := (Below.refl w2.heap.size w2).alloc (Nat.le_refl _) (.cells #[.slice none 0 0] 57)
  have hsz3 : (w2.alloc (.cells #[.slice none 0 0] 57)).heap.size = w2.heap.size + 1 := World.size_alloc _ _
  have HSZ3 := Lib.hid hsz3
  have hown3 := own_keep (own_lower hown2 (base' := w.heap.size) (by simp)) hb3
  have hB3 := bt hB2 hb3
  have hw2 := hB2.size
  have HFB : Hid (∀ g, (Value.slice A2 n2 c2).ownBlock = some g → g < w2.heap.size) := Lib.hid (fun g e => (hown2.lt g e).2)
  clear hown2 hb3 hB2 hsz3
  have hr4 : Rd ((w2.alloc (.cells #[.slice none 0 0] 57)).alloc (.cells #[.int .u8 0, .int .u8 1, .int .u8 7] 5)) _ (some ⟨(w2.alloc (.cells #[.slice none 0 0] 57)).heap.size, 0, none⟩) 3 (vByte [0, 1, 7]) := rd_lit (w2.alloc (.cells #[.slice none 0 0] 57)) 5 [0, 1, 7]
  have hb4 := (Below.refl _ (w2.alloc (.cells #[.slice none 0 0] 57))).alloc (Nat.le_refl _) (.cells #[.int .u8 0, .int .u8 1, .int .u8 7] 5)
  have hV4 := hV3.all hb4
  have hown4 := own_keep hown3 hb4
  have hB4 := bt hB3 hb4
  rw [HSZ3.out] at hr4
  have hr4' : Rd ((w2.alloc (.cells #[.slice none 0 0] 57)).alloc (.cells #[.int .u8 0, .int .u8 1, .int .u8 7] 5)) ((w2.alloc (.cells #[.slice none 0 0] 57)).alloc (.cells #[.int .u8 0, .int .u8 1, .int .u8 7] 5)).heap.size (some ⟨w2.heap.size + 1, 0, none⟩) 3 (vByte [0, 1, 7]) := hr4.more (by simp)
  clear hb4 hV3 hown3 hB3 hr4
  go_wp2_with fail
  generalize (w2.alloc (.cells #[.slice none 0 0] 57)).alloc (.cells #[.int .u8 0, .int .u8 1, .int .u8 7] 5) = w4 at *
  refine (wrawV_any w2.heap.size _ [] [0, 1, 7] _ 3 _ _ (Lib.hid hV4) (Lib.hid rfl) (by decide) hr4' (by
    rintro b off e - (rfl | h)
    · injection e with e
      injection e with e _ _
      omega
    · cases h) (by simp)).mono ?_
  rintro e w5 ⟨rfl, v5, hV5, m5, o5⟩
  have hown5 := m5.own hown4 (by
    rintro g e (rfl | h)
    · exact absurd (Ty.unique hV4.1.ty (Ty.of_own hown4 e)) (by decide)
    · cases h)
  have hB5 := m5.below hB4 hB4.size (by
    rintro b (rfl | h)
    · exact hw2
    · cases h)
  have HV5 : Hid (∀ b, WF w2.heap.size v5 b → w2.heap.size ≤ b) := Lib.hid (by
    rintro b (rfl | h)
    · exact Nat.le_refl _
    · rcases o5 with o | o
      · rw [o] at h
        cases h
      · have := o b h
        have := (hV4.lt _ (.inl rfl))
        omega)
  have hr6 : Rd (w5.alloc (.cells #[.int .u8 0, .int .u8 1, .int .u8 7] 5)) (w5.alloc (.cells #[.int .u8 0, .int .u8 1, .int .u8 7] 5)).heap.size (some ⟨w5.heap.size, 0, none⟩) 3 (vByte [0, 1, 7]) := (rd_lit w5 5 [0, 1, 7]).more (by simp)
  have hb6 := (Below.refl _ w5).alloc (Nat.le_refl _) (.cells #[.int .u8 0, .int .u8 1, .int .u8 7] 5)
  have hV6 := hV5.all hb6
  have hown6 := own_keep hown5 hb6
  have hB6 := bt hB5 hb6
  clear hb6 hV5 hown5 hB5 m5 o5 hV4 hown4 hB4 hr4'
  go_wp2_with fail
  generalize w5.alloc (.cells #[.int .u8 0, .int .u8 1, .int .u8 7] 5) = w6 at *
  refine (hbytes_any _ _ 3 _ _ [0, 1, 7] _ (Lib.hid rfl) (by decide) (by decide) (by decide) (Nat.le_refl _) hr6).mono ?_
  rintro e w7 ⟨rfl, hb7⟩
  have hV7 := hV6.all hb7
  have hown7 := own_keep hown6 hb7
  have hB7 := bt hB6 hb7
  clear hb7 hV6 hown6 hB6 hr6
  go_wp2_with fail
  refine (wuintV_any w2.heap.size v5 _ (recN [0, 1, 7]) _ (recN_eq _) _ (Lib.hid hV7) (recN_lt _) (by have := (encRaw_len (bs := [0, 1, 7]) (by decide)).2; simp at this ⊢; omega)).mono ?_
  rintro e w8 ⟨rfl, v8, hV8, m8, o8⟩
  have hown8 := m8.own hown7 (by
    intro g e h
    have := HFB.out g e
    have := HV5.out g h
    omega)
  have hB8 := m8.below hB7 hB7.size (by
    intro b h
    have := HV5.out b h
    omega)
  have HV8 : Hid (∀ b, WF w2.heap.size v8 b → w2.heap.size ≤ b) := Lib.hid (by
    rintro b (rfl | h)
    · exact Nat.le_refl _
    · rcases o8 with o | o
      · rw [o] at h
        exact HV5.out b (.inr h)
      · have := o b h
        have := (hV7.lt _ (.inl rfl))
        omega)
  replace hV8 : WrV w8 w2.heap.size v8 (frameB 0 [7]) := by
    unfold frameB
    rw [core7]
    simpa using hV8
  have hb9 := (Below.refl _ w8).alloc (Nat.le_refl _) (.cells #[.int .u8 3, .int .u8 0, .int .u8 1] 5)
  have hr9 : Rd (w8.alloc (.cells #[.int .u8 3, .int .u8 0, .int .u8 1] 5)) (w8.alloc (.cells #[.int .u8 3, .int .u8 0, .int .u8 1] 5)).heap.size (some ⟨w8.heap.size, 0, none⟩) 3 (vByte [3, 0, 1]) := (rd_lit w8 5 [3, 0, 1]).more (by simp)
  have hV9 := hV8.all hb9
  have hown9 := own_keep hown8 hb9
  have hB9 := bt hB8 hb9
  obtain ⟨A10, n10, c10, w10, HRUN, HN10, hown10, hg10, hr10⟩ := own_keeps (c := 3) (m := 3) (xs := [3, 0, 1]) hown9 rfl hr9 (by omega) (by decide) (by omega) hB9.size
  have hV10 := hV9.mod (Mod.of_grown (F := fun b => (Value.slice A2 n2 c2).ownBlock = some b) hg10 (fun g e => .inl e)) (by
    intro b h e
    have := HFB.out b e
    have := HV8.out b h
    omega)
  have hB10 := hB9.grown hg10 hB9.size (fun r e => (hown9.lt r e).1)
  have HSB := Lib.hid (Sb.own hown10)
  have hn10 : n10 ≤ 200 := by rw [HN10.out]; omega
  clear hb9 hr9 hV9 hown9 hB9 hown10 hg10 hV8 hown8 hB8 hV7 hown7 hB7 m8 o8 HV5 HFB
  go_wp2_with (at_builtin; refine wpList_append_run HRUN.out rfl rfl rfl rfl ?_)
  refine (scan_any _ _ _ _ _ HSB (by omega)).mono ?_
  rintro e w11 ⟨v11, L11, m11, rfl, hL11, hs11, hb11⟩
  obtain ⟨e1, e2⟩ := ScanIs.unique (by
    have h1 := HN2.out
    rw [List.length_append, h1]
    simp only [List.length_cons, List.length_nil]
    omega) hs11 scan7
  rw [HN2.out] at e2
  subst e2
  have HE1 := Lib.hid e1
  have hV11 := hV10.all hb11
  have hr11 := hr10.all hb11
  have hB11 := bt hB10 hb11
  obtain ⟨A11, c11, rfl⟩ := hL11.slice
  have hlen11 : L11.length = 1 := by rw [← bsOf_length, HE1.out]; rfl
  rw [hlen11] at hL11 ⊢
  have HL11 := Lib.hid hL11
  clear hb11 hV10 hr10 hB10 hs11 e1 hL11 hlen11
  go_wp2_with fail
  refine (wdone_any 0 w2.heap.size (frameB 0 [7]) _ (Lib.hid hV11.wr) (by rw [HN2.out]; omega)).mono ?_
  rintro e w12 ⟨A12, n12, c12, rfl, hnc12, hc12, HN12, hown12, hr12, hb12⟩
  have hr12' := hr11.all hb12
  have hB12 := bt hB11 hb12
  have HL12 := Lib.hid (HL11.out.all hb12)
  clear hown12 hb12 hV11 hr11 hB11 HL11
  go_wp2_with fail
  refine (sameBytes_true _ _ _ _ _ _ (frameB 0 [7]) (frameB 0 [7]) _ rfl HN2 HN12 hr12' hr12 (by omega) (by omega)).mono ?_
  rintro e w13 ⟨rfl, hb13⟩
  have hB13 := bt hB12 hb13
  have HL13 := Lib.hid (HL12.out.all hb13)
  clear hr12' hr12 hb13 hB12 HL12
  have hb14 := ((Below.refl w13.heap.size w13).alloc (Nat.le_refl _) (.cells #[.int .u8 7] 5)).alloc (by simp) (.cells #[.slice (some ⟨w13.heap.size, 0, none⟩) 1 1] 55)
  have HL14 := Lib.hid ((HL13.out.all hb14).r.rd)
  have HX14 : Hid (LsRd ((w13.alloc (.cells #[.int .u8 7] 5)).alloc (.cells #[.slice (some ⟨w13.heap.size, 0, none⟩) 1 1] 55)) (some ⟨w13.heap.size + 1, 0, none⟩) 1 1 [⟨some ⟨w13.heap.size, 0, none⟩, 1, 1, [7]⟩]) := Lib.hid (by
    refine ⟨rfl, by decide, by decide, fun _ => ⟨_, _, rfl, by simp, fun j hj => ?_⟩, fun z hz => ?_⟩
    · obtain rfl : j = 0 := by omega
      have := Blk.cell (Blk.new (w13.alloc (.cells #[.int .u8 7] 5)) 55 #[.slice (some ⟨w13.heap.size, 0, none⟩) 1 1]) 0
      rw [World.size_alloc] at this
      exact this
    · simp at hz
      subst hz
      exact ⟨rfl, Nat.le_refl _, (show 1 ≤ 9223372036854775807 by decide), ((rd_lit w13 5 [7]).alloc (by simp) _).more (by simp)⟩)
  have hB14 := bt hB13 hb14
  have hgt : (4 : Int) < (m11 : Int) := by omega
  clear hb14 hB13 HL13
  go_wp2_with fail
  generalize (w13.alloc (.cells #[.int .u8 7] 5)).alloc (.cells #[.slice (some ⟨w13.heap.size, 0, none⟩) 1 1] 55) = w14 at *
  refine (sameLists_any _ _ _ _ _ _ L11 [⟨some ⟨w13.heap.size, 0, none⟩, 1, 1, [7]⟩] _ HL14 HX14 (by decide) (by decide)).mono ?_
  rintro e w15 ⟨rfl, hb15⟩
  have hd : decide (bsOf L11 = bsOf [⟨some ⟨w13.heap.size, 0, none⟩, 1, 1, [7]⟩]) = true := by rw [HE1.out]; rfl
  rw [hd]
  go_wp2
  go_ret
  exact ⟨rfl, bt hB14 hb15⟩
end Go.Proofs.YtgjbbobphfejoaaGreatDoor

/- disk: a disk in memory. -/
namespace Go.Proofs.YtgjbbobphfejoaaGreatDoor
open Go.RowKit

/-- A file: its number, its block, its slice, its bytes, how many are durable. -/
structure Fl where
  num : Int
  fb : Nat
  rv : Value
  bs : List UInt8
  dur : Nat
def Fl.ok (w : World) (f : Fl) : Prop :=
  Blk w f.fb 115 #[f.rv, .int .i64 (f.dur : Int)] ∧ w.ownsRow 0 5 1 f.rv f.bs.length (f.bs.map fun b => Value.int .u8 ((b.toNat : Nat) : Int)) ∧ f.dur ≤ f.bs.length
def Fl.F (f : Fl) (b : Nat) : Prop := b = f.fb ∨ f.rv.ownBlock = some b
def Fl.ptr (f : Fl) : Value := .pointer (some ⟨f.fb, 0, none⟩)
def Fl.log (f : Fl) : Int × List UInt8 × Nat := (f.num, f.bs, f.dur)
def FApart (c d : Fl) : Prop := ∀ b, c.F b → ¬ d.F b
def sumL (fs : List Fl) : Nat := (fs.map fun f => f.bs.length).sum
def diskCells (room used mb : Nat) (off : Bool) (plan : Int) : Array Value := #[.int .i64 (room : Int), .int .i64 (used : Int), .map (some mb), .bool off, .int .i64 plan]
structure DskAt (w : World) (g mb room : Nat) (off : Bool) (plan : Int) (fs : List Fl) : Prop where
  blk : Blk w g 93 (diskCells room (sumL fs) mb off plan)
  map : IMap w mb (fs.map fun f => (f.num, f.ptr))
  ok : ∀ f ∈ fs, f.ok w
  apart : fs.Pairwise FApart
  room_le : room ≤ 16777216
  used_le : sumL fs ≤ room
  plan_le : -1 ≤ plan ∧ plan ≤ 4611686018427387904
def DskF (g mb : Nat) (fs : List Fl) (b : Nat) : Prop := b = g ∨ b = mb ∨ ∃ f ∈ fs, f.F b
section
variable {w w' : World} {g mb room : Nat} {off : Bool} {plan : Int} {fs : List Fl} {F : Nat → Prop} {f : Fl}
theorem sumL_append (a b : List Fl) : sumL (a ++ b) = sumL a + sumL b := by simp [sumL]
theorem sumL_cons (a : Fl) (b : List Fl) : sumL (a :: b) = a.bs.length + sumL b := by simp [sumL]
theorem Fl.ok.mod (h : f.ok w) (m : Mod F w w') (hF : ∀ b, f.F b → ¬ F b) : f.ok w' := ⟨m.blk h.1 (hF _ (.inl rfl)), m.own h.2.1 (fun b hb => hF b (.inr hb)), h.2.2⟩
theorem Fl.ok.ltF (h : f.ok w) : ∀ b, f.F b → b < w.heap.size := by
  rintro b (rfl | hb)
  · exact h.1.lt
  · exact (h.2.1.lt b hb).2
theorem DskAt.mod (h : DskAt w g mb room off plan fs) (m : Mod F w w') (hF : ∀ b, DskF g mb fs b → ¬ F b) : DskAt w' g mb room off plan fs :=
  ⟨m.blk h.blk (hF _ (.inl rfl)), h.map.mod m (hF _ (.inr (.inl rfl))), fun c hc => (h.ok c hc).mod m (fun b hb => hF b (.inr (.inr ⟨c, hc, hb⟩))), h.apart, h.room_le, h.used_le, h.plan_le⟩
theorem DskAt.all (h : DskAt w g mb room off plan fs) (m : Below w.heap.size w w') : DskAt w' g mb room off plan fs := h.mod (F := fun _ => False) (Mod.of_below _ m) (fun _ _ hf => hf)
theorem DskAt.ltF (h : DskAt w g mb room off plan fs) : ∀ b, DskF g mb fs b → b < w.heap.size := by
  rintro b (rfl | rfl | ⟨c, hc, hb⟩)
  · exact h.blk.lt
  · exact h.map.lt
  · exact (h.ok c hc).ltF b hb
theorem DskAt.F_ne (h : DskAt w g mb room off plan fs) (hc : f ∈ fs) : ∀ b, f.F b → b ≠ g ∧ b ≠ mb := by
  rintro b hb
  refine ⟨?_, ?_⟩
  · rintro rfl
    rcases hb with e | e
    · have := (h.ok f hc).1.ty
      rw [← e] at this
      exact absurd (Ty.unique h.blk.ty this) (by decide)
    · exact absurd (Ty.unique h.blk.ty (Ty.of_own (h.ok f hc).2.1 e)) (by decide)
  · rintro rfl
    rcases hb with e | e
    · have := (h.ok f hc).1.ty
      rw [← e] at this
      exact h.map.not_ty this
    · exact h.map.not_ty (Ty.of_own (h.ok f hc).2.1 e)
theorem DskAt.gm (h : DskAt w g mb room off plan fs) : g ≠ mb := by
  rintro rfl
  exact h.map.not_ty h.blk.ty
/-- The disk's own cells turn. -/
theorem DskAt.cells {off' : Bool} {plan' : Int} (h : DskAt w g mb room off plan fs) (m : Mod (fun b => b = g) w w') (hblk : Blk w' g 93 (diskCells room (sumL fs) mb off' plan')) (hp : -1 ≤ plan' ∧ plan' ≤ 4611686018427387904) : DskAt w' g mb room off' plan' fs :=
  ⟨hblk, h.map.mod m (fun e => h.gm e.symm), fun c hc => (h.ok c hc).mod m (fun b hb e => (h.F_ne hc b hb).1 e), h.apart, h.room_le, h.used_le, hp⟩
/-- One file turns, and the disk's own cells. -/
theorem DskAt.upd {l1 l2 : List Fl} {f' : Fl} {off' : Bool} {plan' : Int} (h : DskAt w g mb room off plan (l1 ++ f :: l2)) (m : Mod (fun b => f.F b ∨ b = g) w w') (hblk : Blk w' g 93 (diskCells room (sumL (l1 ++ f' :: l2)) mb off' plan'))
    (hid : f'.num = f.num) (hfb : f'.fb = f.fb) (hok : f'.ok w') (hrv : f'.rv.ownBlock = f.rv.ownBlock ∨ ∀ b, f'.rv.ownBlock = some b → w.heap.size ≤ b) (hu : sumL (l1 ++ f' :: l2) ≤ room) (hp : -1 ≤ plan' ∧ plan' ≤ 4611686018427387904) :
    DskAt w' g mb room off' plan' (l1 ++ f' :: l2) ∧ Mod (DskF g mb (l1 ++ f :: l2)) w w' ∧ ∀ b, DskF g mb (l1 ++ f' :: l2) b → DskF g mb (l1 ++ f :: l2) b ∨ w.heap.size ≤ b := by
  have hcm : f ∈ l1 ++ f :: l2 := by simp
  have hF' : ∀ b, f'.F b → f.F b ∨ w.heap.size ≤ b := by
    rintro b (e | e)
    · exact .inl (.inl (e.trans hfb))
    · rcases hrv with hr | hr
      · exact .inl (.inr (hr ▸ e))
      · exact .inr (hr b e)
  have hap := h.apart
  rw [List.pairwise_append, List.pairwise_cons] at hap
  obtain ⟨p1, ⟨p2, p3⟩, p4⟩ := hap
  have hmem : ∀ d ∈ l1 ++ l2, d ∈ l1 ++ f :: l2 := by
    intro d hd
    rcases List.mem_append.1 hd with hd | hd <;> simp [hd]
  have far : ∀ d ∈ l1 ++ l2, ∀ b, d.F b → ¬ f.F b := by
    intro d hd b hb hc
    rcases List.mem_append.1 hd with hd | hd
    · exact p4 d hd f (by simp) b hb hc
    · exact p2 d hd b hc hb
  have far2 : ∀ d ∈ l1 ++ l2, ∀ b, d.F b → ¬ (f.F b ∨ b = g) := by
    intro d hd b hb hc
    rcases hc with hc | hc
    · exact far d hd b hb hc
    · exact (h.F_ne (hmem d hd) b hb).1 hc
  have far' : ∀ d ∈ l1 ++ l2, ∀ b, d.F b → ¬ f'.F b := by
    intro d hd b hb hc
    rcases hF' b hc with e | e
    · exact far d hd b hb e
    · have := (h.ok d (hmem d hd)).ltF b hb
      omega
  refine ⟨⟨hblk, ?_, ?_, ?_, h.room_le, hu, hp⟩, m.mono (fun b hb => hb.elim (fun hb => .inl (.inr (.inr ⟨f, hcm, hb⟩))) (fun hb => .inl (.inl hb))), ?_⟩
  · have hm := h.map.mod m (fun hf => hf.elim (fun hf => (h.F_ne hcm _ hf).2 rfl) (fun hf => h.gm hf.symm))
    have e : (l1 ++ f' :: l2).map (fun c => (c.num, c.ptr)) = (l1 ++ f :: l2).map (fun c => (c.num, c.ptr)) := by simp [Fl.ptr, hid, hfb]
    rw [e]
    exact hm
  · intro d hd
    rw [List.mem_append, List.mem_cons] at hd
    rcases hd with hd | rfl | hd
    · exact (h.ok d (hmem d (by simp [hd]))).mod m (far2 d (by simp [hd]))
    · exact hok
    · exact (h.ok d (hmem d (by simp [hd]))).mod m (far2 d (by simp [hd]))
  · rw [List.pairwise_append, List.pairwise_cons]
    refine ⟨p1, ⟨fun d hd b hb hc => far' d (by simp [hd]) b hc hb, p3⟩, fun d hd e he => ?_⟩
    rw [List.mem_cons] at he
    rcases he with rfl | he
    · exact fun b hb hc => far' d (by simp [hd]) b hb hc
    · exact p4 d hd e (by simp [he])
  · rintro b (e | e | ⟨d, hd, hb⟩)
    · exact .inl (.inl e)
    · exact .inl (.inr (.inl e))
    · rw [List.mem_append, List.mem_cons] at hd
      rcases hd with hd | rfl | hd
      · exact .inl (.inr (.inr ⟨d, by simp [hd], hb⟩))
      · rcases hF' b hb with e | e
        · exact .inl (.inr (.inr ⟨f, hcm, e⟩))
        · exact .inr e
      · exact .inl (.inr (.inr ⟨d, by simp [hd], hb⟩))
/-- A file is added. -/
theorem DskAt.add {w1 : World} (h : DskAt w g mb room off plan fs) (m : Mod (fun b => b = mb) w w1) (hmap : IMap w1 mb ((fs ++ [f]).map fun c => (c.num, c.ptr))) (hok : f.ok w1) (hnew : ∀ b, f.F b → w.heap.size ≤ b) (h0 : f.bs = []) :
    DskAt w1 g mb room off plan (fs ++ [f]) := by
  have hs : sumL (fs ++ [f]) = sumL fs := by simp [sumL, h0]
  refine ⟨by rw [hs]; exact m.blk h.blk h.gm, hmap, ?_, ?_, h.room_le, by rw [hs]; exact h.used_le, h.plan_le⟩
  · intro d hd
    rcases List.mem_append.1 hd with hd | hd
    · exact (h.ok d hd).mod m (fun b hb e => (h.F_ne hd b hb).2 e)
    · simp at hd
      subst hd
      exact hok
  · rw [List.pairwise_append]
    refine ⟨h.apart, by simp, fun d hd e he b hb hc => ?_⟩
    simp at he
    subst he
    have := hnew b hc
    have := (h.ok d hd).ltF b hb
    omega
end
def findF (fs : List Fl) (num : Int) : Option Fl := fs.find? fun f => f.num == num
theorem lookup_findF (fs : List Fl) (num : Int) : (fs.map fun f => (f.num, f.ptr)).lookup num = (findF fs num).map Fl.ptr := by
  induction fs with
  | nil => rfl
  | cons c fs ih =>
    unfold findF at ih ⊢
    by_cases h : num = c.num
    · simp [h]
    · have h' : ¬ c.num = num := fun e => h e.symm
      simp [List.lookup, beq_false_of_ne h, beq_false_of_ne h', ih]
theorem findF_split {fs : List Fl} {num : Int} {f : Fl} (h : findF fs num = some f) : ∃ l1 l2, fs = l1 ++ f :: l2 ∧ f.num = num := by
  unfold findF at h
  have h1 := List.find?_some h
  obtain ⟨l1, l2, h2⟩ := List.append_of_mem (List.mem_of_find?_eq_some h)
  exact ⟨l1, l2, h2, by simpa using h1⟩
theorem infoFile : ∃ i, Tryz.prog.info? 113 = some i ∧ i.zero = some (.pointer none) := by
  have h : (Tryz.prog.info? 113).map (fun i => i.zero) = some (some (.pointer none)) := by kernel_rfl
  obtain ⟨i, hi, hz⟩ := Option.map_eq_some_iff.1 h
  exact ⟨i, hi, hz⟩
theorem DskAt.look {w : World} {g mb room : Nat} {off : Bool} {plan : Int} {fs : List Fl} (h : DskAt w g mb room off plan fs) (num : Int) : (Instr.lookup 91 (.map (some mb)) (.int .i64 num) false).run Tryz.prog w = .ok (((findF fs num).map Fl.ptr).getD (.pointer none)) w := by
  obtain ⟨i, hi, hz⟩ := infoFile
  rw [IMap.look h.map Tryz.underlying91 Tryz.underlying3 hi hz num, lookup_findF]
theorem DskAt.look2 {w : World} {g mb room : Nat} {off : Bool} {plan : Int} {fs : List Fl} (h : DskAt w g mb room off plan fs) (num : Int) : (Instr.lookup 91 (.map (some mb)) (.int .i64 num) true).run Tryz.prog w = .ok (.tuple #[((findF fs num).map Fl.ptr).getD (.pointer none), .bool (findF fs num).isSome]) w := by
  obtain ⟨i, hi, hz⟩ := infoFile
  rw [IMap.look2 h.map Tryz.underlying91 Tryz.underlying3 hi hz num, lookup_findF, Option.isSome_map]
theorem dblk5 {w : World} {g : Nat} {t : TypeId} {a b c d e : Value} (h : Blk w g t #[a, b, c, d, e]) : w.cell? ⟨g, 0, none⟩ = some a ∧ w.cell? ⟨g, 1, none⟩ = some b ∧ w.cell? ⟨g, 2, none⟩ = some c ∧ w.cell? ⟨g, 3, none⟩ = some d ∧ w.cell? ⟨g, 4, none⟩ = some e ∧ ∀ i, w.frozen? ⟨g, i, none⟩ = false :=
  ⟨h.cell 0, h.cell 1, h.cell 2, h.cell 3, h.cell 4, h.frozen⟩
end Go.Proofs.YtgjbbobphfejoaaGreatDoor

/- disk: New, isFile, Used, fails, Append, Read. -/
namespace Go.Proofs.YtgjbbobphfejoaaGreatDoor
open Go.RowKit

theorem DskAt.dcells {w : World} {g mb room : Nat} {off : Bool} {plan : Int} {fs : List Fl} (h : DskAt w g mb room off plan fs) : w.cell? ⟨g, 0, none⟩ = some (.int .i64 (room : Int)) ∧ w.cell? ⟨g, 1, none⟩ = some (.int .i64 ((sumL fs : Nat) : Int)) ∧ w.cell? ⟨g, 2, none⟩ = some (.map (some mb)) ∧ w.cell? ⟨g, 3, none⟩ = some (.bool off) ∧ w.cell? ⟨g, 4, none⟩ = some (.int .i64 plan) ∧ ∀ i, w.frozen? ⟨g, i, none⟩ = false :=
  dblk5 h.blk
theorem isFile_yes (n : Int) (w : World) (h1 : 0 ≤ n) (h2 : n < 64) : Calls Tryz.prog 53 #[.int .i64 n] w fun e w' => e = .returned (.bool true) ∧ w = w' := by
  go_enter Tryz.func53, Tryz.ntmps53
  go_wp2
  go_ret
  exact ⟨rfl, rfl⟩
def NewPost (room : Nat) (w : World) (e : Ending) (w' : World) : Prop := ∃ g mb, e = .returned (.tuple #[.pointer (some ⟨g, 0, none⟩), .int .i64 0]) ∧ w.heap.size ≤ g ∧ w.heap.size ≤ mb ∧ DskAt w' g mb room false (-1) [] ∧ Below w.heap.size w w'
/-- A new disk. -/
theorem newDisk_any (room : Nat) (ri : Int) (hri : ri = (room : Int)) (w : World) (hr : room ≤ 16777216) :
    Calls Tryz.prog 23 #[.int .i64 ri] w (NewPost room w) := by
  subst hri
  have hmm := @run_makeMap Tryz.prog
  go_enter Tryz.func23, Tryz.ntmps23
  have h1 : ¬ ((room : Int) < 0) := by omega
  have h2 : ¬ ((16777216 : Int) < (room : Int)) := by omega
  go_wp2
  go_ret2
  have hB := Blk.new (w.alloc (.map #[] 0)) 93 (diskCells room 0 w.heap.size false (-1))
  rw [World.size_alloc] at hB
  have hM := (IMap.new w).all ((Below.refl _ (w.alloc (.map #[] 0))).alloc (Nat.le_refl _) (.cells (diskCells room 0 w.heap.size false (-1)) 93))
  exact ⟨w.heap.size + 1, w.heap.size, rfl, by omega, Nat.le_refl _, ⟨hB, hM, fun _ h => absurd h (by simp), by simp, hr, Nat.zero_le _, by omega⟩, ((Below.refl _ w).alloc (Nat.le_refl _) _).alloc (by simp) _⟩
/-- What a step leaves: whether the power is off, and the plan. -/
def failOff (off : Bool) (plan : Int) : Bool := off || plan == 0
def failPlan (plan : Int) : Int := if 0 ≤ plan then plan - 1 else plan
theorem fails_any (g mb room : Nat) (off : Bool) (plan : Int) (fs : List Fl) (w : World) (HD : Hid (DskAt w g mb room off plan fs)) :
    Calls Tryz.prog 55 #[.pointer (some ⟨g, 0, none⟩)] w fun e w' => e = .returned (.bool (failOff off plan)) ∧ DskAt w' g mb room (failOff off plan) (failPlan plan) fs ∧ Mod (fun b => b = g) w w' := by
  obtain ⟨c0, c1, c2, c3, c4, hf⟩ := HD.out.dcells
  have hf3 := hf 3
  have hf4 := hf 4
  have hp := HD.out.plan_le
  clear hf
  by_cases h0 : plan = 0
  · subst h0
    have HO := Lib.hid (show failOff off 0 = true by simp [failOff])
    have HP := Lib.hid (show failPlan 0 = -1 by simp [failPlan])
    have hm := ((Mod.refl (fun b => b = g) w).set (p := ⟨g, 3, none⟩) (.inl rfl) (.bool true)).set (p := ⟨g, 4, none⟩) (.inl rfl) (.int .i64 (-1))
    have hB := Blk.set_ (Blk.set_ HD.out.blk 3 (.bool true)) 4 (.int .i64 (-1))
    have HF := Lib.hid (HD.out.cells (off' := true) (plan' := -1) hm hB (by omega))
    have HM := Lib.hid hm
    clear hm hB
    go_enter Tryz.func55, Tryz.ntmps55
    go_wp2
    go_ret
    rw [HO.out, HP.out]
    exact ⟨rfl, HF.out, HM.out⟩
  · have h0' : (plan == 0) = false := by simpa using h0
    have HO := Lib.hid (show failOff off plan = off by simp [failOff, h0'])
    by_cases h1 : 0 ≤ plan
    · have HP := Lib.hid (show failPlan plan = plan - 1 by simp [failPlan, h1])
      have hm := (Mod.refl (fun b => b = g) w).set (p := ⟨g, 4, none⟩) (.inl rfl) (.int .i64 (plan - 1))
      have hB := Blk.set_ HD.out.blk 4 (.int .i64 (plan - 1))
      have HF := Lib.hid (HD.out.cells (off' := off) (plan' := plan - 1) hm hB (by omega))
      have HM := Lib.hid hm
      obtain ⟨hp1, hp2⟩ := hp
      clear hm hB h0
      go_enter Tryz.func55, Tryz.ntmps55
      go_wp2
      go_ret
      rw [HO.out, HP.out]
      exact ⟨rfl, HF.out, HM.out⟩
    · have HP := Lib.hid (show failPlan plan = plan by simp [failPlan, h1])
      have h2 : plan < 0 := by omega
      clear h0 h1
      go_enter Tryz.func55, Tryz.ntmps55
      go_wp2
      go_ret
      rw [HO.out, HP.out]
      exact ⟨rfl, HD.out, Mod.refl _ _⟩
end Go.Proofs.YtgjbbobphfejoaaGreatDoor
