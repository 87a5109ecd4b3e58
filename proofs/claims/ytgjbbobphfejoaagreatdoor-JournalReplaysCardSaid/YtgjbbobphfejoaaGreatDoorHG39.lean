/- The walks of hash.Bytes and hash.Pair. -/
import Derived.Test.YtgjbbobphfejoaaGreatDoorHG38
import Derived.Test.YtgjbbobphfejoaaGreatDoorHG1
import Derived.Test.YtgjbbobphfejoaaGreatDoorHG37

namespace Go.Proofs.YtgjbbobphfejoaaGreatDoor
open Go.RowKit Go.Shelf
attribute [local go_sem] Oper.semAt_some

theorem infoInt : (Tryz.prog.info? 3).map (fun i => (i.zero, i.size, i.bytes)) = some (some (.int .i64 0), 1, 8) := by kernel_rfl

theorem map_snoc_get (g : Int → Int) (l : List Int) (x : Int) (j : Nat) (hj : j < l.length + 1) :
    (l.map (fun y => Value.int .i64 (g y)) ++ [Value.int .i64 x])[j]? = some (vInt (l.map g ++ [x]) j) := by
  simp only [vInt]
  rcases Nat.lt_or_ge j l.length with h | h
  · rw [List.getElem?_append_left (by simpa using h), List.getElem?_append_left (by simpa using h)]
    simp [h]
  · obtain rfl : j = l.length := by omega
    simp

set_option maxRecDepth 100000 in
set_option maxHeartbeats 1000000 in
theorem hbytes_any (label : ByteArray) (A : Option Addr) (len cap B : Nat) (bs : List UInt8) (w : World) (HL : Hid (bs.length = len)) (hlab : label.size ≤ 140737488351232) (hlc : len ≤ cap) (hmax : len ≤ 35184372088832)
    (hB : B ≤ w.heap.size) (hR : Rd w B A len (vByte bs)) :
    Calls Tryz.prog 50 #[.string label, .slice A len cap] w fun e w' => e = .returned (.int .u64 (bytesI label.data.toList bs)) ∧ Below w.heap.size w w' := by
  obtain ⟨i0, hi, hz0, hz1, hz2⟩ := info_parts infoInt
  obtain ⟨w1, hmk, hown1, hb1, hz⟩ := make_rd (P := Tryz.prog) w 22 3 i0 _ 8 Tryz.underlying22 hi hz0 hz1 hz2 .i64 .i64 (len / 8 + 2) (by omega) (by unfold maxLen; omega)
  rw [show ((len / 8 + 2 : Nat) : Int) = (len : Int) / 8 + 2 from by omega] at hmk
  have HZ := Lib.hid hz; clear hz
  refine (callsIn_wide (n := 5)).1 ?_
  refine callsIn_of_wp_marks Tryz.func50 rfl trivial ?_ rfl
  simp only [Tryz.ntmps50, List.size_toArray, List.length_cons, List.length_nil, Nat.reduceAdd, Nat.reduceSub, Array.replicate_succ, Array.replicate_zero, List.push_toArray, List.append_toArray, List.nil_append, List.cons_append]
  gi_wp2_with (refine ⟨trivial, ?_⟩; gi_at_call 79; refine (wordsOf_in Fence.wide _ trivial rfl _ _ _ _).mono ?_; rintro e w' ⟨rfl, rfl⟩)
  have bX := Boxed.new w1 22 (.slice (some ⟨w.heap.size, 0, none⟩) 0 (len / 8 + 2))
  have bN := Boxed.new (w1.alloc (.cells #[.slice (some ⟨w.heap.size, 0, none⟩) 0 (len / 8 + 2)] 22)) 55 (.slice A len cap)
  rw [World.size_alloc] at bN
  have hB2 := (hb1.alloc (by have := HZ.out; omega) (.cells #[.slice (some ⟨w.heap.size, 0, none⟩) 0 (len / 8 + 2)] 22)).alloc (by have := HZ.out; simp; omega) (.cells #[.slice A len cap] 55)
  refine wpIn_rangeFunc_ownG rfl (by decide) (gf := 150) (lb := #[.pointer (some ⟨w1.heap.size + 1, 0, none⟩)]) rfl trivial (enters_of Tryz.func150 (by kernel_rfl) rfl)
    (words_stops Fence.wide _ trivial rfl (by decide) (w1.heap.size + 1) B len cap A bs HL.out hlc (by omega) _ (by simp) (by have := HZ.out; simp; omega) bN.cell (hR.below hB2 hB))
    (fun h k => h.trans k) ?hKb (Below.refl _ _) (fun _ => rfl)
    (fun (pre : List Int) W => (∃ v, Boxed W w1.heap.size 22 v ∧ W.ownsRow w.heap.size 3 1 v pre.length (pre.map fun x => Value.int .i64 (toI x)) ∧ True) ∧ Boxed W (w1.heap.size + 1) 55 (.slice A len cap) ∧ Below w.heap.size w W)
    (fun _ _ _ => False)
    (OwnFrom.and (Own.from (holdsRow_own w.heap.size w1.heap.size 22 3 1 (fun pre : List Int => pre.length) (fun pre : List Int => pre.map fun x => Value.int .i64 (toI x)) (fun _ _ => True)) _) (OwnFrom.and (Own.from (boxed_own _ _ _) _) (ownFrom_below (Nat.le_refl _) (by have := HZ.out; simp; omega))))
    (fun _ _ _ _ _ hs _ _ => hs)
    ⟨⟨_, bX.alloc _, (hown1.alloc _).alloc _, trivial⟩, bN, hB2⟩
    (fun x => { tmps := #[.string label, .slice A len cap, undef, undef, .int .u64 0, .pointer (some ⟨w1.heap.size, 0, none⟩), .int .u64 x, .slice A len cap, .int .i64 ↑len, .int .i64 (↑len / 8), .int .i64 (↑len / 8 + 2), .slice (some ⟨w.heap.size, 0, none⟩) 0 (len / 8 + 2), .slice A len cap, .func (.func 150) #[] #[.pointer (some ⟨w1.heap.size + 1, 0, none⟩)], .int .u64 x, undef, undef, undef, undef, undef, undef, undef, undef, undef, undef, undef, undef], defers := [] }) ?assign ?body ?done ?stop
  case hKb =>
    intro W l o o' hl hW _ _ k hk
    have hz := HZ.out
    simp only [World.size_alloc] at hl
    refine World.putObj_heap_other ?_
    rcases hk with rfl | ⟨h0, ad, h, rfl⟩
    · omega
    · obtain ⟨b, off, h', hb, _⟩ := hR h0
      rw [h] at h'
      injection h' with h'; subst h'; simp; omega
  case assign =>
    intro l x W K hK
    gi_wp2
    exact hK
  case body =>
    rintro l pre x W ⟨⟨v, hv, hrow, _⟩, hN, hB'⟩ hlt
    have hc := hv.cell
    have hnw : 8 * nwords bs ≤ len + 7 := by unfold nwords; have := HL.out; omega
    obtain ⟨g, c', w3, hap, hown3, hg3, hat3, hs3⟩ := run_append_one (P := Tryz.prog) W w.heap.size 22 22 3 i0 _ 8 Tryz.underlying22 hi hz0 hz1 hz2 rfl v pre.length _ hrow (.int .i64 (wrap64 x)) rfl (by unfold maxLen; omega) (by omega) hB'.size
    have hv3 : Boxed w3 w1.heap.size 22 v := hv.kept hg3 (hv.not_row (by decide) hrow)
    have hc3 := hv3.cell
    have hf3 := hv3.frozen
    have HA := Lib.hid hap; clear hap
    have hlt3 := hv.lt
    gi_wp2_with (gi_at_builtin; refine wpListIn_append_run HA.out rfl rfl rfl rfl ?_)
    have hne : ∀ k, v.ownBlock = some k → w.heap.size ≤ k ∧ k < W.heap.size := hrow.lt
    have hz := HZ.out
    refine ⟨((KeepsOthers.of_grownBy hg3 (own_cells hrow)).trans (KeepsOthers.setCell _ _ _)).from _, ?_, ⟨_, hv3.set _, ?_, trivial⟩, (hN.kept hg3 (hN.not_row (by decide) hrow)).other (by omega) _, (hB'.grown hg3 hB'.size (fun k e => (hne k e).1)).setCell (p := ⟨w1.heap.size, 0, none⟩) (by simp; omega) _⟩
    · intro k hk
      have hkW : k < W.heap.size ∧ k ≠ w1.heap.size ∧ some k ≠ v.ownBlock := by
        rcases hk with rfl | ⟨h0, ad, h, rfl⟩
        · exact ⟨hN.lt, by omega, hN.not_row (by decide) hrow⟩
        · obtain ⟨b, off, h', hb, _⟩ := hR h0
          rw [h] at h'
          injection h' with h'; subst h'
          refine ⟨by have := hB'.size; simp; omega, by simp; omega, fun e => ?_⟩
          have := (hne _ e.symm).1
          simp at this; omega
      exact (Below.heap_setCell _ _ _ _ (by simpa using hkW.2.1)).trans (hg3.block k hkW.1 hkW.2.2)
    · have := hown3.kept (grownBy_setCell' w3 w1.heap.size (.slice (some ⟨g, 0, none⟩) (pre.length + 1) c')) (.inr (hv3.not_row (by decide) hown3).symm)
      simpa [toI] using this
  case done =>
    rintro D ys W hD rfl ⟨⟨v, hv, hrow, _⟩, hN, hB'⟩ hK
    have hc := hv.cell
    have hnw : 8 * nwords bs ≤ len + 7 := by unfold nwords; have := HL.out; omega
    have hwl : (wordsI bs).length = nwords bs := wordsTo_length _ _
    have HW := Lib.hid hwl; clear hwl
    obtain ⟨g, c', w3, hap, hown3, hg3, hat3, hs3⟩ := run_append_one (P := Tryz.prog) W w.heap.size 22 22 3 i0 _ 8 Tryz.underlying22 hi hz0 hz1 hz2 rfl v _ _ hrow (.int .i64 len) rfl (by have := HW.out; unfold maxLen; omega) (by have := HW.out; omega) hB'.size
    have HA := Lib.hid hap; clear hap
    have hne : ∀ k, v.ownBlock = some k → w.heap.size ≤ k ∧ k < W.heap.size := hrow.lt
    have hB3 : Below w.heap.size w w3 := hB'.grown hg3 hB'.size (fun k e => (hne k e).1)
    have hR3 : Rd w3 w3.heap.size (some ⟨g, 0, none⟩) ((wordsI bs).length + 1) (vInt ((wordsI bs).map toI ++ [((bs.length : Nat) : Int)])) := (Rd.of_own hown3 (f := vInt ((wordsI bs).map toI ++ [((bs.length : Nat) : Int)])) (by
      intro j hj
      rw [← HL.out]
      exact map_snoc_get toI (wordsI bs) _ j hj)).2.2
    gi_wp2_with (first
      | (gi_at_builtin; refine wpListIn_append_run HA.out rfl rfl rfl rfl ?_)
      | (refine ⟨trivial, ?_⟩; gi_at_call 80; refine (callsIn_wide.2 (hsum_any _ _ _ _ w3.heap.size ((wordsI bs).map toI ++ [((bs.length : Nat) : Int)]) _ (by show _ = _; simp) hlab (by have := HW.out; omega) (Nat.le_refl _) hR3)).mono ?_; rintro e w4 ⟨rfl, hb4⟩))
    have hK4 : w4.heap[D]? = some (.deferred (some [])) := by
      have hlD := (Array.getElem?_eq_some_iff.1 hK).1
      refine (hb4.block D (by omega)).trans ((hg3.block D hlD (fun e => ?_)).trans hK)
      have := own_cells hrow D _ e.symm hK
      simp [Obj.isCells] at this
    refine ⟨by simp, .inl ⟨_, _, rfl, run_takeDeferred hK4, ?_⟩⟩
    have hz := HZ.out
    refine ⟨_, results_tmp rfl _ _ _, rfl, (hB3.trans (hb4.mono hB3.size)).trans (belowK_b (w := w) (Nat.le_refl _) w4 D _ _ (by simp at hD; omega) hK4 rfl rfl)⟩
  case stop =>
    rintro D c pre W _ _ h _
    exact h.elim


end Go.Proofs.YtgjbbobphfejoaaGreatDoor

/- The walks of worldmintref01.Words, Sum, Bytes and Pair. -/
namespace Go.Proofs.YtgjbbobphfejoaaGreatDoor
open Go.RowKit

end Go.Proofs.YtgjbbobphfejoaaGreatDoor

/- journal: the walk of Frame; the reference's Core and Frame. -/
namespace Go.Proofs.YtgjbbobphfejoaaGreatDoor
open Go.RowKit

theorem Wr.mod {w w' : World} {B gd : Nat} {bs : List UInt8} {F : Nat → Prop} (h : Wr w B gd bs) (m : Mod F w w') (hF : ∀ b, b < w.heap.size → ¬ F b) : Wr w' B gd bs := by
  obtain ⟨h0, A, n, c, h1, h2, h3⟩ := h
  exact ⟨h0, A, n, c, h1, m.blk h2 (hF _ h2.lt), m.own h3 (fun g e => hF g (h3.lt g e).2)⟩
set_option maxRecDepth 100000 in
set_option maxHeartbeats 1000000 in
theorem frame_any (k : Int) (A : Option Addr) (n c : Nat) (bs : List UInt8) (w : World) (HL : Hid (bs.length = n)) (hk1 : -9223372036854775808 ≤ k) (hk2 : k ≤ 9223372036854775807) (hn : n ≤ 1099511627776) (hR : Rd w w.heap.size A n (vByte bs)) :
    Calls Tryz.prog 40 #[.int .i64 k, .slice A n c] w (RetB (frameB k bs) w) := by
  have HR := Lib.hid hR
  clear hR
  have HK := Lib.hid (coreB_len (k := k) (bs := bs) ⟨hk1, hk2⟩ (by rw [HL.out]; omega))
  have hl1 : (encInt k).length ≤ 10 := encInt_len hk1 hk2
  have HW1 := Lib.hid (Wr.new w)
  have HB1 := Lib.hid ((Below.refl w.heap.size w).alloc (Nat.le_refl _) (.cells #[.slice none 0 0] 57))
  have hsz : (w.alloc (.cells #[.slice none 0 0] 57)).heap.size = w.heap.size + 1 := World.size_alloc _ _
  have HSZ := Lib.hid hsz
  clear hsz
  go_enter Tryz.func40, Tryz.ntmps40
  go_wp2_with fail
  refine (wint_any w.heap.size w.heap.size [] k _ HW1 hk1 hk2 (by simp)).mono ?_
  rintro e w2 ⟨rfl, hW2, hb2⟩
  have hB2 := HB1.out.trans hb2
  have hz2 := hW2.lt.2
  clear hb2
  go_wp2_with fail
  refine (wraw_any w.heap.size w.heap.size _ bs _ n _ w.heap.size _ (Lib.hid hW2) HL (by omega) (HR.out.below hB2 (Nat.le_refl _)) (Nat.le_refl _) (by simp only [List.nil_append]; omega)).mono ?_
  rintro e w3 ⟨rfl, hW3, hb3⟩
  have hB3 := hB2.trans hb3
  have hz3 := hW3.lt.2
  replace hW3 : Wr w3 w.heap.size w.heap.size (coreB k bs) := by simpa [coreB] using hW3
  clear hb3 hB2 hz2 hW2 HW1 HB1 HSZ
  have hb4 := (Below.refl w3.heap.size w3).alloc (Nat.le_refl _) (.cells #[.slice none 0 0] 57)
  have hV4 := WrV.new w3
  have hW4 := hW3.all hb4
  have hB4 := hB3.trans (hb4.mono (by omega))
  have hsz4 : (w3.alloc (.cells #[.slice none 0 0] 57)).heap.size = w3.heap.size + 1 := World.size_alloc _ _
  have HSZ4 := Lib.hid hsz4
  clear hb4 hsz4
  go_wp2_with fail
  generalize w3.alloc (.cells #[.slice none 0 0] 57) = w4 at *
  refine (wdone_any w.heap.size w.heap.size (coreB k bs) _ (Lib.hid hW4) (by have := HK.out; have := HL.out; omega)).mono ?_
  rintro e w5 ⟨A5, n5, c5, rfl, hnc5, hc5, HN5, hown5, hR5, hb5⟩
  have hn5 : n5 ≤ n + 20 := by have := HK.out; have := HL.out; have := HN5.out; omega
  have hV5 := hV4.all hb5
  have hW5 := hW4.all hb5
  have hB5 := hB4.trans (hb5.mono (by have := HSZ4.out; omega))
  have hF5 : ∀ b off, A5 = some ⟨b, off, none⟩ → 0 < n5 → ¬ WF w3.heap.size (.slice none 0 0) b := by
    intro b off e hp hf
    obtain ⟨g, eg, hg, _⟩ := own_some hown5 hp
    rw [e] at eg
    injection eg with eg
    injection eg with eg _ _
    rcases hf with rfl | hf
    · have := HSZ4.out
      omega
    · cases hf
  have HF5 := Lib.hid hF5
  clear hF5 hown5 hb5 hV4 hW4 hB4
  go_wp2_with fail
  refine (wrawV_any w3.heap.size _ [] (coreB k bs) _ n5 _ _ (Lib.hid hV5) HN5 (by omega) hR5 HF5.out (by simp)).mono ?_
  rintro e w6 ⟨rfl, v6, hV6, m6, o6⟩
  have hW6 : Wr w6 w.heap.size w.heap.size (coreB k bs) := by
    obtain ⟨h0, A, n, c, h1, h2, h3⟩ := hW3
    obtain ⟨g0, A', n', c', g1, g2, g3⟩ := hW5
    exact ⟨g0, A', n', c', g1, m6.blk g2 (by
      rintro (e | e)
      · have := h2.lt
        omega
      · cases e), m6.own g3 (by
      rintro g e (e2 | e2)
      · exact absurd (Ty.of_own g3 e) (fun ht => by rw [e2] at ht; exact absurd (Ty.unique hV5.1.ty ht) (by decide))
      · cases e2)⟩
  have hB6 := m6.below hB5 hB5.size (by
    rintro b (rfl | e)
    · have := hB3.size; exact this
    · cases e)
  have hV6' : WrV w6 w3.heap.size v6 (encRaw (coreB k bs)) := by simpa using hV6
  have HO6 : Hid (∀ b, v6.ownBlock = some b → w.heap.size ≤ b) := Lib.hid (fun b e => by
    rcases o6 with o | o
    · rw [o] at e
      cases e
    · have := o b e
      have := hB5.size
      omega)
  clear hV6 m6 hV5 hW5 hB5 hR5 HF5 HN5 o6
  go_wp2_with fail
  refine (wdone_any w.heap.size w.heap.size (coreB k bs) _ (Lib.hid hW6) (by have := HK.out; have := HL.out; omega)).mono ?_
  rintro e w7 ⟨A7, n7, c7, rfl, hnc7, hc7, HN7, hown7, hR7, hb7⟩
  have hn7 : n7 ≤ n + 20 := by have := HK.out; have := HL.out; have := HN7.out; omega
  have hV7 := hV6'.all hb7
  have hB7 := hB6.trans (hb7.mono hB6.size)
  clear hown7 hb7 hV6' hB6 hW6
  go_wp2_with fail
  refine (hbytes_any _ _ n7 _ _ (coreB k bs) _ HN7 (by decide) (by omega) (by omega) (Nat.le_refl _) hR7).mono ?_
  rintro e w8 ⟨rfl, hb8⟩
  have hV8 := hV7.all hb8
  have hB8 := hB7.trans (hb8.mono hB7.size)
  clear hb8 hV7 hB7 hR7
  go_wp2_with fail
  refine (wuintV_any w3.heap.size v6 (encRaw (coreB k bs)) (recN (coreB k bs)) _ (recN_eq _) _ (Lib.hid hV8) (recN_lt _) (by have := (encRaw_len (bs := coreB k bs) (by have := HN7.out; omega)).2; have := HN7.out; omega)).mono ?_
  rintro e w9 ⟨rfl, v9, hV9, m9, o9⟩
  have hB9 := m9.below hB8 hB8.size (by
    rintro b (rfl | e)
    · have := hB3.size; exact this
    · exact HO6.out b e)
  go_wp2_with fail
  refine (wdone_any 0 w3.heap.size (frameB k bs) _ (Lib.hid hV9.wr) (by have := frameB_len (k := k) (bs := bs) ⟨hk1, hk2⟩ (by rw [HL.out]; omega); have := HL.out; omega)).mono ?_
  rintro e w10 ⟨A10, n10, c10, rfl, hnc10, hc10, HN10, hown10, hR10, hb10⟩
  go_wp2
  go_ret
  exact ⟨A10, n10, c10, rfl, HN10, own_lower hown10 hB9.size, hB9.trans (hb10.mono hB9.size)⟩
end Go.Proofs.YtgjbbobphfejoaaGreatDoor

/- journal: the reference's Core and Frame; bytes.HasPrefix. -/
namespace Go.Proofs.YtgjbbobphfejoaaGreatDoor
open Go.RowKit

/-- A prefix, decided. -/
def preB (xs ys : List UInt8) : Bool := decide (ys <+: xs)
set_option maxRecDepth 100000 in
set_option maxHeartbeats 400000 in
theorem bequal_any (A A' : Option Addr) (n m c c' : Nat) (xs ys : List UInt8) (w : World) (hx : xs.length = n) (hy : ys.length = m) (hR : Rd w w.heap.size A n (vByte xs)) (hR' : Rd w w.heap.size A' m (vByte ys)) :
    Calls Tryz.prog 181 #[.slice A n c, .slice A' m c'] w fun e w' => e = .returned (.bool (decide (xs = ys))) ∧ w = w' := by
  have h1 := conv_str (P := Tryz.prog) (c := c) (src := 55) (dst := 9) Tryz.underlying55 Tryz.underlying5 Tryz.underlying9 hx hR
  have h2 := conv_str (P := Tryz.prog) (c := c') (src := 55) (dst := 9) Tryz.underlying55 Tryz.underlying5 Tryz.underlying9 hy hR'
  clear hR hR' hx hy
  go_enter Tryz.func181, Tryz.ntmps181
  go_wp2
  go_ret
  refine ⟨?_, rfl⟩
  show Ending.returned (.bool (xs == ys)) = _
  congr 2
  rw [Bool.eq_iff_iff]
  simp
set_option maxRecDepth 100000 in
set_option maxHeartbeats 400000 in
theorem hasPre_any (A A' : Option Addr) (n m c c' : Nat) (xs ys : List UInt8) (w : World) (hx : Hid (xs.length = n)) (hy : Hid (ys.length = m)) (hnc : n ≤ c) (_hc : c ≤ 9223372036854775807) (hm : 0 < m) (hR : Rd w w.heap.size A n (vByte xs)) (hR' : Rd w w.heap.size A' m (vByte ys)) :
    Calls Tryz.prog 153 #[.slice A n c, .slice A' m c'] w fun e w' => e = .returned (.bool (preB xs ys)) ∧ w = w' := by
  by_cases hmn : m ≤ n
  · obtain ⟨b, off, rfl, hb, hcl⟩ := hR (by omega)
    have HR : Hid (Rd w w.heap.size (some ⟨b, off, none⟩) m (vByte (xs.take m))) := Lib.hid ((hR.less hmn).congr (fun j hj => by simp [vByte, hj]))
    have HR' := Lib.hid hR'
    have HP := Lib.hid (show preB xs ys = decide (xs.take m = ys) by
      unfold preB
      rw [decide_eq_decide, List.prefix_iff_eq_take, hy.out]
      exact eq_comm)
    have HX := Lib.hid (show (xs.take m).length = m by rw [List.length_take, hx.out]; omega)
    clear hR hR' hcl
    go_enter Tryz.func153, Tryz.ntmps153
    go_wp2_with (go_at_call 181; ((with_reducible refine (bequal_any _ _ _ _ _ _ (xs.take m) ys _ HX.out hy.out HR.out HR'.out).mono ?_); rintro e w2 ⟨rfl, rfl⟩))
    go_ret
    rw [HP.out]
    exact ⟨rfl, rfl⟩
  · have HP := Lib.hid (show preB xs ys = false by
      unfold preB
      rw [decide_eq_false_iff_not]
      intro hp
      have := hp.length_le
      rw [hx.out, hy.out] at this
      omega)
    clear hR hR'
    have h1 : decide (m ≤ n) = false := by simpa using hmn
    go_enter Tryz.func153, Tryz.ntmps153
    go_wp2
    go_ret
    rw [HP.out]
    exact ⟨rfl, rfl⟩
end Go.Proofs.YtgjbbobphfejoaaGreatDoor

/- journal: the walk of first. -/
namespace Go.Proofs.YtgjbbobphfejoaaGreatDoor
open Go.RowKit

/-- A slice of bytes that is read, nil with no capacity. -/
def Sb (w : World) (A : Option Addr) (n c : Nat) (bs : List UInt8) : Prop :=
  bs.length = n ∧ n ≤ c ∧ c ≤ 9223372036854775807 ∧ (A = none ∧ c = 0 ∨ ∃ b off, A = some ⟨b, off, none⟩ ∧ b < w.heap.size ∧ ∀ j, j < n → w.cell? ⟨b, off + j, none⟩ = some (vByte bs j))
theorem Sb.rd {w : World} {A : Option Addr} {n c : Nat} {bs : List UInt8} (h : Sb w A n c bs) : Rd w w.heap.size A n (vByte bs) := by
  intro hn
  obtain ⟨h1, h2, h3, ⟨h4, h5⟩ | ⟨b, off, h4, h5⟩⟩ := h
  · omega
  · exact ⟨b, off, h4, h5.1, h5.2⟩
theorem Sb.all {w w' : World} {A : Option Addr} {n c : Nat} {bs : List UInt8} (h : Sb w A n c bs) (hb : Below w.heap.size w w') : Sb w' A n c bs := by
  obtain ⟨h1, h2, h3, ⟨h4, h5⟩ | ⟨b, off, h4, h5⟩⟩ := h
  · exact ⟨h1, h2, h3, .inl ⟨h4, h5⟩⟩
  · exact ⟨h1, h2, h3, .inr ⟨b, off, h4, Nat.lt_of_lt_of_le h5.1 hb.size, fun j hj => (hb.cell (p := ⟨b, off + j, none⟩) h5.1).trans (h5.2 j hj)⟩⟩
/-- What first returns. -/
def FirstPost (k : Int) (bs : List UInt8) (w : World) (e : Ending) (w' : World) : Prop :=
  (e = .returned (.tuple #[.slice none 0 0, .int .i64 0, .bool false]) ∧ FirstIs k bs none ∧ Below w.heap.size w w') ∨
  ∃ (z : Bz) (m : Nat), e = .returned (.tuple #[.slice z.A z.n z.c, .int .i64 (m : Int), .bool true]) ∧ z.ok w' ∧ FirstIs k bs (some z.bs) ∧ Hid (m = (frameB k z.bs).length) ∧ z.low w.heap.size ∧ Below w.heap.size w w'
theorem readU_len (bs : List UInt8) (e : Int) : (readU bs e).2.2.length ≤ bs.length := by
  unfold readU
  split
  · exact (decU_lt bs 0 0 (by omega) (by decide)).2
  · exact Nat.zero_le _
theorem readRaw_len (bs : List UInt8) (e : Int) : (readRaw bs e).2.1.length ≤ bs.length := by
  unfold readRaw
  split
  · have h := (decU_lt bs 0 0 (by omega) (by decide)).2
    unfold decRaw
    split
    · exact Nat.zero_le _
    · split
      · exact Nat.zero_le _
      · exact Nat.le_trans (List.length_take_le' _ _) h
  · exact Nat.zero_le _
theorem inRec_len (c : List UInt8) : (inRec c).2.1.length ≤ c.length := Nat.le_trans (readRaw_len _ _) (readU_len _ _)
theorem first_no1 {k : Int} {bs : List UInt8} {n : Nat} (hk1 : -9223372036854775808 ≤ k) (hk2 : k ≤ 9223372036854775807) (hl : bs.length = n) (hn : n ≤ 9223372036854775807) (h : n < (varint (szB bs)).length + szB bs ∨ n < (varint (szB bs)).length) : FirstIs k bs none := by
  intro x r hx
  have := (first_parts ⟨hk1, hk2⟩ hx (by omega)).2.1
  omega
theorem first_no2 {k : Int} {bs : List UInt8} {n : Nat} (hk1 : -9223372036854775808 ≤ k) (hk2 : k ≤ 9223372036854775807) (hl : bs.length = n) (hn : n ≤ 9223372036854775807) (h : endI (inRec (innerB bs)).2.2 (inRec (innerB bs)).1 ≠ 0) : FirstIs k bs none := by
  intro x r hx
  have := (first_parts ⟨hk1, hk2⟩ hx (by omega)).2.2.2.1
  rw [this] at h
  exact h rfl
theorem first_no3 {k : Int} {bs rec : List UInt8} {n : Nat} (hk1 : -9223372036854775808 ≤ k) (hk2 : k ≤ 9223372036854775807) (hl : bs.length = n) (hn : n ≤ 9223372036854775807) (hr : (inRec (innerB bs)).2.1 = rec) (h : preB bs (frameB k rec) = false) : FirstIs k bs none := by
  intro x r hx
  have := (first_parts ⟨hk1, hk2⟩ hx (by omega)).2.2.2.1
  rw [this] at hr
  subst hr
  unfold preB at h
  rw [decide_eq_false_iff_not] at h
  exact h ⟨r, hx.symm⟩
theorem first_yes {k : Int} {bs rec : List UInt8} (h : preB bs (frameB k rec) = true) : FirstIs k bs (some rec) := by
  unfold preB at h
  obtain ⟨r, hr⟩ := of_decide_eq_true h
  exact ⟨r, hr.symm⟩
set_option maxRecDepth 100000 in
set_option maxHeartbeats 1000000 in
theorem first_any (k : Int) (A : Option Addr) (n c : Nat) (bs : List UInt8) (w : World) (HS : Hid (Sb w A n c bs)) (hk1 : -9223372036854775808 ≤ k) (hk2 : k ≤ 9223372036854775807) (hn : n ≤ 1099511627776) :
    Calls Tryz.prog 82 #[.int .i64 k, .slice A n c] w (FirstPost k bs w) := by
  have HL := Lib.hid HS.out.1
  have hnc := HS.out.2.1
  have hc := HS.out.2.2.1
  have HR := Lib.hid HS.out.rd
  have HW0 := Lib.hid (Below.refl w.heap.size w)
  rcases HS.out.2.2.2 with ⟨rfl, rfl⟩ | ⟨b, off, rfl, -⟩
  · have h0 : n = 0 := by omega
    subst h0
    go_enter Tryz.func82, Tryz.ntmps82
    go_wp2_with fail
    refine (read_any _ _ _ (bs.take 10) _ (Lib.hid (by rw [List.length_take, HL.out]; omega)) Rd.nil (by omega)).mono ?_
    rintro e w1 ⟨g1, rfl, hg1, hR1, hb1, -⟩
    go_wp2_with fail
    refine (ruint_any _ g1 _ _ _ (Lib.hid hR1)).mono ?_
    rintro e w2 ⟨rfl, -, hg2⟩
    have hb2 := below_of_only hb1 hg2 hb1.size hg1
    clear hg2 hR1 hb1 hg1
    obtain ⟨sz, hsz⟩ : ∃ sz, szB bs = sz := ⟨_, rfl⟩
    have hsz' : (readU (bs.take 10) 0).2.1 = sz := hsz
    rw [hsz']
    have HSZ := Lib.hid hsz
    have hsz1 : sz ≤ 18446744073709551615 := by rw [← hsz']; exact readU_lt _ _
    clear hsz hsz'
    have hW3 := Wr.new w2
    have hb3 := hb2.trans (((Below.refl w2.heap.size w2).alloc (Nat.le_refl _) (.cells #[.slice none 0 0] 57)).mono hb2.size)
    have hz2 := hb2.size
    clear hb2
    go_wp2_with fail
    refine (wuint_any w2.heap.size w2.heap.size [] sz _ rfl _ (Lib.hid hW3) hsz1 (by simp)).mono ?_
    rintro e w4 ⟨rfl, hW4, hb4⟩
    have hB4 := hb3.trans (hb4.mono hz2)
    clear hb4 hb3 hW3
    go_wp2_with fail
    refine (wdone_any _ _ _ _ (Lib.hid hW4) (by have := varint_len10 hsz1; simp only [List.nil_append]; omega)).mono ?_
    rintro e w5 ⟨A5, be, c5, rfl, -, -, HN5, -, -, hb5⟩
    have hB5 := hB4.trans (hb5.mono hB4.size)
    have HBE := Lib.hid (show (varint (szB bs)).length = be by rw [HSZ.out]; simpa using HN5.out)
    have hbe : 0 < be := by rw [← HBE.out]; exact varint_pos _
    clear hb5 hB4 hW4 HN5
    go_wp2
    go_ret3
    exact .inl ⟨rfl, first_no1 hk1 hk2 HL.out (by omega) (by rw [HBE.out]; omega), hB5⟩
  · by_cases h10 : 10 ≤ n
    all_goals (
      go_enter Tryz.func82, Tryz.ntmps82
      go_wp2_with fail
      refine (read_any _ _ _ (bs.take 10) _ (Lib.hid (by rw [List.length_take, HL.out]; omega)) ((HR.out.less (by omega)).congr (fun j hj => by simp [vByte, show j < 10 by omega])) (by omega)).mono ?_
      rintro e w1 ⟨g1, rfl, hg1, hR1, hb1, -⟩
      go_wp2_with fail
      refine (ruint_any _ g1 _ _ _ (Lib.hid hR1)).mono ?_
      rintro e w2 ⟨rfl, -, hg2⟩
      have hb2 := below_of_only hb1 hg2 hb1.size hg1
      clear hg2 hR1 hb1 hg1
      obtain ⟨sz, hsz⟩ : ∃ sz, szB bs = sz := ⟨_, rfl⟩
      have hsz' : (readU (bs.take 10) 0).2.1 = sz := hsz
      rw [hsz']
      have HSZ := Lib.hid hsz
      have hsz1 : sz ≤ 18446744073709551615 := by rw [← hsz']; exact readU_lt _ _
      clear hsz hsz'
      have hW3 := Wr.new w2
      have hb3 := hb2.trans (((Below.refl w2.heap.size w2).alloc (Nat.le_refl _) (.cells #[.slice none 0 0] 57)).mono hb2.size)
      have hz2 := hb2.size
      clear hb2
      go_wp2_with fail
      refine (wuint_any w2.heap.size w2.heap.size [] sz _ rfl _ (Lib.hid hW3) hsz1 (by simp)).mono ?_
      rintro e w4 ⟨rfl, hW4, hb4⟩
      have hB4 := hb3.trans (hb4.mono hz2)
      clear hb4 hb3 hW3
      go_wp2_with fail
      refine (wdone_any _ _ _ _ (Lib.hid hW4) (by have := varint_len10 hsz1; simp only [List.nil_append]; omega)).mono ?_
      rintro e w5 ⟨A5, be, c5, rfl, -, -, HN5, -, -, hb5⟩
      have hB5 := hB4.trans (hb5.mono hB4.size)
      have HBE := Lib.hid (show (varint (szB bs)).length = be by rw [HSZ.out]; simpa using HN5.out)
      have hbe : be ≤ 10 := by have := varint_len10 hsz1; have := HN5.out; simp only [List.nil_append] at this; omega
      clear hb5 hB4 hW4 HN5
      by_cases q1 : n < be
      · go_wp2
        go_ret3
        exact .inl ⟨rfl, first_no1 hk1 hk2 HL.out (by omega) (by rw [HBE.out]; omega), hB5⟩
      · have hcv : IntKind.u64.wrap ((n : Int) - (be : Int)) = ((n - be : Nat) : Int) := by rw [wrap_u64]; omega
        by_cases q2 : n - be < sz
        · go_wp2
          go_ret3
          exact .inl ⟨rfl, first_no1 hk1 hk2 HL.out (by omega) (by rw [HBE.out, HSZ.out]; omega), hB5⟩
        · have HIN := Lib.hid (show (innerB bs).length = sz by unfold innerB; rw [HSZ.out, ← HSZ.out, HBE.out, List.length_take, List.length_drop, HL.out, HSZ.out]; omega)
          have HRI : Hid (∀ o', (0 < sz → o' = off + be) → Rd w5 w5.heap.size (some ⟨b, o', none⟩) sz (vByte (innerB bs))) := Lib.hid (fun o' ho hp => by
            obtain ⟨b', off', e, hb', hc'⟩ := (HR.out.all hB5) (by omega)
            injection e with e
            injection e with e1 e2 _
            subst e1 e2
            refine ⟨b, o', rfl, hb', fun j hj => ?_⟩
            rw [ho hp, Nat.add_assoc, hc' (be + j) (by omega)]
            unfold vByte innerB
            rw [HBE.out, HSZ.out, List.getElem?_take, if_pos hj, List.getElem?_drop])
          go_wp2_with fail
          all_goals (
            refine (read_any _ _ _ (innerB bs) _ HIN (HRI.out _ (by omega)) (by omega)).mono ?_
            rintro e w6 ⟨g6, rfl, hg6, hR6, hb6, -⟩
            have hB6 := hB5.trans (hb6.mono hB5.size)
            replace hg6 : w.heap.size ≤ g6 := Nat.le_trans hB5.size hg6
            clear hb6
            go_wp2_with fail
            refine (rint_any _ g6 _ _ _ (Lib.hid hR6)).mono ?_
            rintro e w7 ⟨rfl, hR7, hg7⟩
            have hB7 := below_of_only hB6 hg7 hB6.size hg6
            clear hB6 hg7 hR6
            go_wp2_with fail
            refine (rraw_any _ g6 _ _ _ (Lib.hid hR7)).mono ?_
            rintro e w8 ⟨A8, n8, c8, rfl, hnc8, hc8, hn8, HN8, hown8, hR8, hg8⟩
            have hB8 := below_of_only hB7 hg8 hB7.size hg6
            have hlow7 := hB7.size
            obtain ⟨rec, hrec⟩ : ∃ rec, (inRec (innerB bs)).2.1 = rec := ⟨_, rfl⟩
            replace HN8 : Hid (rec.length = n8) := by rw [← hrec]; exact HN8
            replace hown8 : w8.ownsRow w7.heap.size 5 1 (.slice A8 n8 c8) n8 (rec.map fun b => Value.int .u8 ((b.toNat : Nat) : Int)) := by rw [← hrec]; exact hown8
            have HREC := Lib.hid hrec
            clear hrec hB7 hg8 hR7
            have HBT := Lib.hid (Bts.of_own hown8).1
            have hr8 := (rd_bytes hown8).2.2
            have HLW := Lib.hid (Bz.low.mono (Bz.low_own (bs := rec) hown8) hlow7)
            clear hown8
            go_wp2_with fail
            refine (rend_any _ g6 _ _ _ (Lib.hid hR8)).mono ?_
            rintro e w9 ⟨rfl, rfl⟩
            obtain ⟨en, hen⟩ : ∃ en, endI (inRec (innerB bs)).2.2 (inRec (innerB bs)).1 = en := ⟨_, rfl⟩
            have hen' : endI (readRaw (readU (innerB bs) 0).2.2 (readU (innerB bs) 0).1).2.2 (readRaw (readU (innerB bs) 0).2.2 (readU (innerB bs) 0).1).1 = en := hen
            rw [hen']
            have HEN := Lib.hid hen
            clear hen hen' hR8
            by_cases q3 : en = 0
            · have q4 : (en != 0) = false := by simpa using q3
              clear q3
              have hn8' : n8 ≤ 1099511627776 := by
                have h1 := inRec_len (innerB bs)
                rw [HREC.out, HIN.out] at h1
                have := HN8.out
                omega
              go_wp2_with fail
              refine (frame_any k _ n8 _ rec _ HN8 hk1 hk2 hn8' hr8).mono ?_
              rintro e w10 ⟨A10, n10, c10, rfl, HN10, hown10, hb10⟩
              have hB10 := hB8.trans (hb10.mono hB8.size)
              have HBT10 := Lib.hid (HBT.out.all hb10)
              obtain ⟨-, hnc10, hr10⟩ := rd_bytes hown10
              have hp10 : 0 < n10 := by have := frameB_pos k rec; have := HN10.out; omega
              have hc10 := own_cap hown10
              clear hb10 hown10 hr8 hB8
              cases hpre : preB bs (frameB k rec) with
              | true =>
                have HP := Lib.hid hpre
                go_wp2_with fail
                refine (hasPre_any _ _ _ _ _ _ bs (frameB k rec) _ HL HN10 (by omega) (by omega) hp10 (HR.out.all hB10) hr10).mono ?_
                rintro e w11 ⟨rfl, rfl⟩
                go_wp2
                go_ret3
                exact .inr ⟨⟨A8, n8, c8, rec⟩, n10, rfl, HBT10.out, first_yes HP.out, Lib.hid HN10.out.symm, HLW.out, hB10⟩
              | false =>
                have HP := Lib.hid hpre
                go_wp2_with fail
                refine (hasPre_any _ _ _ _ _ _ bs (frameB k rec) _ HL HN10 (by omega) (by omega) hp10 (HR.out.all hB10) hr10).mono ?_
                rintro e w11 ⟨rfl, rfl⟩
                go_wp2
                go_ret3
                exact .inl ⟨rfl, first_no3 hk1 hk2 HL.out (by omega) HREC.out HP.out, hB10⟩
            · have q4 : (en != 0) = true := by simpa using q3
              go_wp2
              go_ret3
              exact .inl ⟨rfl, first_no2 hk1 hk2 HL.out (by omega) (by rw [HEN.out]; exact q3), hB8⟩))
end Go.Proofs.YtgjbbobphfejoaaGreatDoor
