/- Part 2 of the texts that ProofChecks needs: PfConf PfDec PfPoss PfBound PfBoundW IIter PfFeas. -/
import Derived.Deep.RegionHeld3
import Derived.Deep.QuietTactic
import Derived.BigQuiet
import Derived.Maps.RangeRun
import Derived.Test.YtikfcpkobgejmaaGProofChecks1

/- bids: set, Conflict. -/
namespace Go.Proofs.Ytikfcpkobgejmaa
open Go.RowKit

theorem run_makeMapN {P : Program} {t kt e : TypeId} (ht : P.underlying t = some (.map kt e)) (k : IntKind) (n : Int) (w : World) : (Instr.makeMap t (some (.int k n))).run P w = .ok (.map (some w.heap.size)) (w.alloc (.map #[] 0)) := by
  simp [Instr.makeMap, run_underlying ht, asInt, Result.andThen]
  rfl
def SetPost (xs : List Int) (w : World) (e : Ending) (w' : World) : Prop := ∃ mb, e = .returned (.map (some mb)) ∧ SetAt w' mb xs ∧ w.heap.size ≤ mb ∧ Below w.heap.size w w'
set_option maxHeartbeats 1000000 in
theorem set_any (bi pr : Int) (A : Option Addr) (n c : Nat) (xs : List Int) (w : World) (HX : Hid (NIn w w.heap.size (A, n, c) xs)) (hn : n ≤ 1000000) :
    Calls Try.prog 56 #[.agg #[.int .i64 bi, .int .i64 pr, .slice A n c]] w (SetPost xs w) := by
  have hmk := fun (w : World) => run_makeMapN (P := Try.prog) Try.underlying101 .i64 (n : Int) w
  go_enter Try.func56, Try.ntmps56
  go_wp2
  obtain ⟨mb, hmb⟩ : ∃ mb, w.heap.size + 1 = mb := ⟨_, rfl⟩
  have hb0 := ((Below.refl w.heap.size w).alloc (Nat.le_refl _) (.cells #[.int .i64 bi, .int .i64 pr, .slice A n c] 70)).alloc (by simp) (.map #[] 0)
  have hs0 := SetAt.new (w.alloc (.cells #[.int .i64 bi, .int .i64 pr, .slice A n c] 70))
  rw [World.size_alloc] at hs0
  have hmw : w.heap.size ≤ mb := by omega
  rw [hmb] at hs0 ⊢
  generalize (w.alloc (.cells #[.int .i64 bi, .int .i64 pr, .slice A n c] 70)).alloc (.map #[] 0) = w0 at *
  have HS0 := Lib.hid hs0
  have HB0 := Lib.hid hb0
  clear hmk hb0 hs0 hmb
  go_loopw [13] (fun i wr => ∃ k : Nat, k ≤ n ∧ i = .int .i64 (k : Int) ∧ Hid (SetAt wr mb (xs.take k)) ∧ Hid (Below w.heap.size w wr)) (fun i _ => n - (intOf i).toNat)
  case atStart => exact ⟨0, by omega, rfl, HS0, HB0⟩
  case round =>
    obtain ⟨k, hk, rfl, HS, HB⟩ := hrel
    by_cases hlt : k < n
    · obtain ⟨b, off, rfl, hbl, hc⟩ := (HX.out.all HB.out).cell hlt
      obtain ⟨w', hrun, hs', hg', hz'⟩ := HS.out.add (xs[k]?.getD 0)
      have hlen := HX.out.len
      have hts : xs.take k ++ [xs[k]?.getD 0] = xs.take (k + 1) := by
        have hk2 : k < xs.length := by rw [hlen]; exact hlt
        rw [← List.take_append_getElem hk2, List.getElem?_eq_getElem hk2]
        rfl
      rw [hts] at hs'
      have HS' := Lib.hid hs'
      have HB' : Hid (Below w.heap.size w w') := Lib.hid (below_of_only HB.out hg' HB.out.size hmw)
      clear hs' hg' hz' hts hlen
      go_wp2
      exact ⟨⟨k + 1, by omega, by go_num, HS', HB'⟩, by simp [intOf]; omega⟩
    · obtain rfl : k = n := by omega
      go_wp2
      go_ret
      exact ⟨mb, rfl, by rw [List.take_of_length_le (by rw [HX.out.len]; exact Nat.le_refl _)] at HS; exact HS.out, hmw, HB.out⟩
/-- The closure of Conflict: is a lot in the set? -/
theorem conf1_any (x : Int) (gb mb : Nat) (S : List Int) (w : World) (HS : Hid (SetAt w mb S)) (h0 : w.cell? ⟨gb, 0, none⟩ = some (.map (some mb))) : Calls Try.prog 80 #[.int .i64 x, .pointer (some ⟨gb, 0, none⟩)] w fun e w' => e = .returned (.bool (decide (x ∈ S))) ∧ w = w' := by
  have hlk := HS.out.look x
  go_enter Try.func80, Try.ntmps80
  go_wp2
  go_ret
  exact ⟨rfl, rfl⟩
/-- The index of the first number for which p holds, or -1. -/
def idxP (p : Int → Bool) (xs : List Int) : Int := match xs.findIdx? p with | some k => (k : Int) | none => -1
theorem idxP_nonneg (p : Int → Bool) (xs : List Int) : decide (0 ≤ idxP p xs) = xs.any p := by
  unfold idxP
  cases h : xs.findIdx? p with
  | some k =>
    obtain ⟨hk, hp, -⟩ := List.findIdx?_eq_some_iff_getElem.1 h
    have : xs.any p = true := List.any_eq_true.2 ⟨_, List.getElem_mem hk, hp⟩
    rw [this]
    simp
  | none =>
    have : xs.any p = false := by
      rw [List.any_eq_false]
      intro x hx
      simpa using List.findIdx?_eq_none_iff.1 h x hx
    rw [this]
    rfl
set_option maxHeartbeats 1000000 in
theorem idxC_any (A : Option Addr) (n c : Nat) (xs S : List Int) (gb mb : Nat) (w : World) (HX : Hid (NIn w w.heap.size (A, n, c) xs)) (HS : Hid (SetAt w mb S)) (h0 : w.cell? ⟨gb, 0, none⟩ = some (.map (some mb))) (hn : n ≤ 1000000) :
    Calls Try.prog 81 #[.slice A n c, .func (.func 80) #[] #[.pointer (some ⟨gb, 0, none⟩)]] w fun e w' => e = .returned (.int .i64 (idxP (fun x => decide (x ∈ S)) xs)) ∧ w = w' := by
  go_enter Try.func81, Try.ntmps81
  go_wp2
  go_loop [8] (fun i => ∃ j : Nat, j ≤ n ∧ i = .int .i64 (j : Int) ∧ Hid (∀ t, t < j → ¬ xs[t]?.getD 0 ∈ S)) (fun i => n - (intOf i).toNat)
  case atStart => exact ⟨0, by omega, rfl, Lib.hid (fun t ht => absurd ht (by omega))⟩
  case round =>
    obtain ⟨j, hj, rfl, HNO⟩ := hrel
    have hlen := HX.out.len
    have HL := Lib.hid hlen
    clear hlen
    by_cases hlt : j < n
    · obtain ⟨b, off, rfl, hbl, hc⟩ := HX.out.cell hlt
      obtain ⟨y, hy⟩ : ∃ y, xs[j]?.getD 0 = y := ⟨_, rfl⟩
      rw [hy] at hc
      have HY := Lib.hid hy
      clear hy
      rcases hin : decide (y ∈ S) with _ | _
      · have HNE := Lib.hid hin
        go_wp2_with (go_at_call 80; refine (conf1_any y gb mb S _ HS h0).mono ?_; rw [hin]; rintro e w2 ⟨rfl, rfl⟩)
        exact ⟨⟨j + 1, by omega, by go_num, Lib.hid (fun t ht => by
          rcases Nat.lt_or_eq_of_le (Nat.lt_succ_iff.1 ht) with h | rfl
          · exact HNO.out t h
          · rw [HY.out]
            simpa using HNE.out)⟩, by simp [intOf]; omega⟩
      · have HNE := Lib.hid hin
        go_wp2_with (go_at_call 80; refine (conf1_any y gb mb S _ HS h0).mono ?_; rw [hin]; rintro e w2 ⟨rfl, rfl⟩)
        go_ret
        have hj2 : j < xs.length := by rw [HL.out]; exact hlt
        have hf : xs.findIdx? (fun x => decide (x ∈ S)) = some j := by
          rw [List.findIdx?_eq_some_iff_getElem]
          refine ⟨hj2, ?_, fun t ht => ?_⟩
          · have h1 := HY.out
            rw [List.getElem?_eq_getElem hj2] at h1
            simp only [Option.getD_some] at h1
            rw [h1]
            exact HNE.out
          · have h1 := HNO.out t ht
            rw [List.getElem?_eq_getElem (by omega)] at h1
            simpa using h1
        exact ⟨by unfold idxP; rw [hf]; rfl, rfl⟩
    · obtain rfl : j = n := by omega
      go_wp2
      go_ret
      have hf : xs.findIdx? (fun x => decide (x ∈ S)) = none := by
        rw [List.findIdx?_eq_none_iff]
        intro r hr
        obtain ⟨t, ht, rfl⟩ := List.getElem_of_mem hr
        have h1 := HNO.out t (by rw [← HL.out]; exact ht)
        rw [List.getElem?_eq_getElem ht] at h1
        simpa using h1
      exact ⟨by unfold idxP; rw [hf]; rfl, rfl⟩
theorem contC_any (A : Option Addr) (n c : Nat) (xs S : List Int) (gb mb : Nat) (w : World) (HX : Hid (NIn w w.heap.size (A, n, c) xs)) (HS : Hid (SetAt w mb S)) (h0 : w.cell? ⟨gb, 0, none⟩ = some (.map (some mb))) (hn : n ≤ 1000000) :
    Calls Try.prog 78 #[.slice A n c, .func (.func 80) #[] #[.pointer (some ⟨gb, 0, none⟩)]] w fun e w' => e = .returned (.bool (xs.any fun x => decide (x ∈ S))) ∧ w = w' := by
  rw [← idxP_nonneg]
  generalize hi : idxP (fun x => decide (x ∈ S)) xs = r
  have HI := Lib.hid hi
  clear hi
  go_enter Try.func78, Try.ntmps78
  go_wp2_with (go_at_call 81; refine (idxC_any _ _ _ xs S gb mb _ HX HS h0 hn).mono ?_; rw [HI.out]; rintro e w2 ⟨rfl, rfl⟩)
  go_ret
  exact ⟨rfl, rfl⟩
/-- Do two bids conflict? -/
def confB (a b : Bd) : Bool := decide (a.bidder = b.bidder) || b.lots.any fun x => decide (x ∈ a.lots)
theorem confB_comm (a b : Bd) : confB a b = confB b a := by
  unfold confB
  have h1 : decide (a.bidder = b.bidder) = decide (b.bidder = a.bidder) := by rw [decide_eq_decide]; exact eq_comm
  have h2 : (b.lots.any fun x => decide (x ∈ a.lots)) = a.lots.any fun x => decide (x ∈ b.lots) := by
    rw [Bool.eq_iff_iff, List.any_eq_true, List.any_eq_true]
    constructor <;> (rintro ⟨x, h1, h2⟩; exact ⟨x, by simpa using h2, by simpa using h1⟩)
  rw [h1, h2]
set_option maxHeartbeats 1000000 in
theorem conflict_any (a b : Bd) (w : World) (HA : Hid (a.ok w)) (HB : Hid (b.ok w)) (ha : a.s.2.1 ≤ 1000000) (hb : b.s.2.1 ≤ 1000000) :
    Calls Try.prog 71 #[a.val, b.val] w fun e w' => e = .returned (.bool (confB a b)) ∧ Below w.heap.size w w' := by
  obtain ⟨ab, ap, ⟨aA, an, ac⟩, al⟩ := a
  obtain ⟨bb, bp, ⟨bA, bn, bc⟩, bl⟩ := b
  unfold Bd.val slV
  dsimp only at ha hb ⊢
  have hbz := ((Below.refl w.heap.size w).alloc (Nat.le_refl _) (.cells #[.int .i64 ab, .int .i64 ap, .slice aA an ac] 70)).alloc (by simp) (.cells #[.int .i64 bb, .int .i64 bp, .slice bA bn bc] 70)
  have HBZ := Lib.hid hbz
  have ha2 := Blk.alloc (Blk.new w 70 #[.int .i64 ab, .int .i64 ap, .slice aA an ac]) (.cells #[.int .i64 bb, .int .i64 bp, .slice bA bn bc] 70)
  have hb2 := Blk.new (w.alloc (.cells #[.int .i64 ab, .int .i64 ap, .slice aA an ac] 70)) 70 #[.int .i64 bb, .int .i64 bp, .slice bA bn bc]
  rw [World.size_alloc] at hb2
  clear hbz
  by_cases he : ab = bb
  · have hc : confB ⟨ab, ap, (aA, an, ac), al⟩ ⟨bb, bp, (bA, bn, bc), bl⟩ = true := by simp [confB, he]
    rw [hc]
    have HE := Lib.hid he
    clear hc he ha2 hb2
    subst ab
    go_enter Try.func71, Try.ntmps71
    go_wp2
    go_ret
    exact ⟨rfl, HBZ.out⟩
  · have hc : confB ⟨ab, ap, (aA, an, ac), al⟩ ⟨bb, bp, (bA, bn, bc), bl⟩ = bl.any fun x => decide (x ∈ al) := by simp [confB, he]
    rw [hc]
    have he2 : ((ab : Int) == bb) = false := by simpa using he
    clear hc
    go_enter Try.func71, Try.ntmps71
    go_wp2_with fail
    generalize (w.alloc (.cells #[.int .i64 ab, .int .i64 ap, .slice aA an ac] 70)).alloc (.cells #[.int .i64 bb, .int .i64 bp, .slice bA bn bc] 70) = wz at *
    refine (set_any ab ap aA an ac al _ (Lib.hid (Bd.ok.all HA.out HBZ.out)) ha).mono ?_
    rintro e w3 ⟨mb, rfl, hS, hmb, hb3⟩
    have hx3 := hb2.all hb3
    have c2 : w3.cell? ⟨w.heap.size + 1, 2, none⟩ = some (.slice bA bn bc) := by simpa using hx3.cell 2
    have hb4 := (Below.refl w3.heap.size w3).alloc (Nat.le_refl _) (.cells #[.map (some mb)] 101)
    have hB4 := bt HBZ.out (bt hb3 hb4)
    have HX4 := Lib.hid (Bd.ok.all HB.out hB4)
    have HS4 := Lib.hid (hS.all hb4)
    have hc4 : (w3.alloc (.cells #[.map (some mb)] 101)).cell? ⟨w3.heap.size, 0, none⟩ = some (.map (some mb)) := by simp
    have hlt : w.heap.size + 1 < w3.heap.size := hx3.lt
    have HB4 := Lib.hid hB4
    clear hx3 hS hmb hb3 hb4 ha2 hb2 hB4
    go_wp2_with fail
    refine (contC_any bA bn bc bl al _ mb _ (Lib.hid HX4.out) HS4 hc4 hb).mono ?_
    rintro e w5 ⟨rfl, rfl⟩
    go_wp2
    go_ret
    exact ⟨rfl, HB4.out⟩
theorem conflict_raw (ab ap : Int) (aA : Option Addr) (an ac : Nat) (al : List Int) (bb bp : Int) (bA : Option Addr) (bn bc : Nat) (bl : List Int) (w : World) (HA : Hid (NIn w w.heap.size (aA, an, ac) al)) (HB : Hid (NIn w w.heap.size (bA, bn, bc) bl)) (ha : an ≤ 1000000) (hb : bn ≤ 1000000) :
    Calls Try.prog 71 #[.agg #[.int .i64 ab, .int .i64 ap, .slice aA an ac], .agg #[.int .i64 bb, .int .i64 bp, .slice bA bn bc]] w fun e w' => e = .returned (.bool (confB ⟨ab, ap, (aA, an, ac), al⟩ ⟨bb, bp, (bA, bn, bc), bl⟩)) ∧ Below w.heap.size w w' :=
  conflict_any ⟨ab, ap, (aA, an, ac), al⟩ ⟨bb, bp, (bA, bn, bc), bl⟩ w HA HB ha hb
theorem NIn.drew {w : World} {s : Sl} {xs : List Int} (h : NIn w w.heap.size s xs) : NIn w.drew w.drew.heap.size s xs := h.all (w' := w.drew) ⟨rfl, rfl, rfl, Nat.le_refl _, fun _ _ => rfl⟩
end Go.Proofs.Ytikfcpkobgejmaa

/- proof: possible, decide. -/
namespace Go.Proofs.Ytikfcpkobgejmaa
open Go.RowKit

theorem setRow_heap {w : World} {g : Nat} {cur : Array Value} {e : TypeId} (h : w.heap[g]? = some (.cells cur e (0, 0))) (cs : Array Value) : (w.setRow g cs).heap[g]? = some (.cells cs e (0, 0)) := by
  simp [World.setRow, Array.getElem?_modify, h]
theorem setRow_grown (w : World) (g : Nat) (cs : Array Value) : w.grownBy (w.setRow g cs) (some g) :=
  ⟨rfl, rfl, rfl, by simp [World.setRow], fun k _ hne => by
    have : g ≠ k := fun e => hne (by rw [e])
    simp [World.setRow, Array.getElem?_modify, this]⟩
/-- 'copy' of a slice of ints over a row of the call's own of the same length. -/
theorem run_copyInts {P : Program} {w : World} {base t e bytes g n cap B : Nat} {ys : List Value} {xs : List Int} {s : Sl} {ty : TypeId} (hT : SlT P t e 1 bytes) (ho : w.ownsRow base e 1 (.slice (some ⟨g, 0, none⟩) n cap) n ys) (hx : NIn w B s xs) (hs : s.2.1 = n) (h0 : 0 < n) :
    ∃ w', (Builtin.copy_ #[t, t] ty #[.slice (some ⟨g, 0, none⟩) n cap, slV s]).run P w = .ok (.int .i64 (n : Int)) w' ∧ w'.ownsRow base e 1 (.slice (some ⟨g, 0, none⟩) n cap) n (xs.map (Value.int .i64)) ∧ w.grownBy w' (some g) := by
  obtain ⟨ti, z, ht, hti, hz, hs1, hb, hzs, hsz⟩ := hT
  obtain ⟨A, n', c⟩ := s
  obtain rfl : n' = n := hs
  have hl : (xs.map (Value.int .i64)).length = n' := by rw [List.length_map]; exact hx.len
  obtain ⟨hlx, h2⟩ := ho
  rcases h2 with ⟨h2, h0⟩ | ⟨g', cap', cur, h2, hbg, hh, hnc, hcm, hcs, htk⟩
  · cases h2
  · injection h2 with h2 _ h3
    injection h2 with h2
    injection h2 with h2
    subst h2 h3
    have hcl : cur.toList.length = cap := by simpa using hcs
    unfold slV
    dsimp only
    obtain ⟨b, off, rfl, -, hc⟩ := hx.rd h0
    have hnews : ∀ (j : Nat) (u : Value), (xs.map (Value.int .i64))[j]? = some u → w.cell? ((⟨b, off, none⟩ : Addr).add j) = some u := by
      intro j u hu
      have hj : j < n' := by
        have := (List.getElem?_eq_some_iff.1 hu).1
        rw [hl] at this
        exact this
      have ea : (⟨b, off, none⟩ : Addr).add j = ⟨b, off + j, none⟩ := by unfold Addr.add; split <;> simp_all
      rw [ea, hc j hj, ← hu]
      have hjx : j < xs.length := by rw [hx.len]; exact hj
      simp [vInt, hjx]
    have hld := run_loadCells_list (P := P) w ⟨b, off, none⟩ (xs.map (Value.int .i64)) hnews
    have hst := run_storeCells_at P g 0 e (xs.map (Value.int .i64)) 0 cur w hh (by rw [← Array.length_toList, hcl, hl]; omega) (fun u hu => by
      obtain ⟨x, -, rfl⟩ := List.mem_map.1 hu
      rfl)
    refine ⟨w.setRow g (cur.toList.take (0 + 0) ++ xs.map (Value.int .i64) ++ cur.toList.drop (0 + 0 + (xs.map (Value.int .i64)).length)).toArray, ?_, ⟨by rw [hl, Nat.mul_one], .inr ⟨g, cap, (cur.toList.take (0 + 0) ++ xs.map (Value.int .i64) ++ cur.toList.drop (0 + 0 + (xs.map (Value.int .i64)).length)).toArray, rfl, hbg, setRow_heap hh _, hnc, hcm, ?_, ?_⟩⟩, setRow_grown _ _ _⟩
    · rw [hl] at hld
      simp [Builtin.copy_, run_underlying ht, sizeOf, typeInfo, hti, hs1, Builtin.lenOf, Builtin.firstCells, goInt, hld, hst]
    · simp only [List.size_toArray, List.length_append, List.length_take, List.length_drop, hcl, hl]
      omega
    · simp only [Nat.add_zero, List.take_zero, List.nil_append]
      rw [List.take_append_of_le_length (by rw [hl]; omega), List.take_of_length_le (by rw [hl]; omega)]
theorem slT_ints : SlT Try.prog 22 3 1 8 := SlT.of Try.underlying22 (by kernel_rfl) (by decide)
theorem int_info : (Try.prog.info? 3).map (fun i => (i.zero, i.size, i.bytes)) = some (some (.int .i64 0), 1, 8) := by kernel_rfl
/-- What decide returns. -/
def DecPost (xs : List Int) (w : World) (e : Ending) (w' : World) : Prop := ∃ s' : Sl, e = .returned (slV s') ∧ s'.2.1 = xs.length ∧ NIn w' w'.heap.size s' xs ∧ Below w.heap.size w w'
set_option maxHeartbeats 1000000 in
theorem decide_any (s : Sl) (D : List Int) (k : Nat) (how : Int) (w : World) (HD : Hid (NIn w w.heap.size s D)) (hk : k < s.2.1) (hn : s.2.1 ≤ 1000000) :
    Calls Try.prog 55 #[slV s, .int .i64 (k : Int), .int .i64 how] w (DecPost (D.set k how) w) := by
  obtain ⟨i0, hi, hz0, hz1, hz2⟩ := info_parts int_info
  obtain ⟨w1, hmk, hown1, hb1, hlt1⟩ := make_all (P := Try.prog) w 22 3 i0 _ 8 Try.underlying22 hi hz0 hz1 hz2 rfl .i64 .i64 s.2.1 (by omega) (by unfold maxLen; omega)
  obtain ⟨w2, hcp, hown2, hg2⟩ := run_copyInts (ty := 3) slT_ints hown1 (NIn.all HD.out hb1) rfl (by omega)
  obtain ⟨hc2, hf2⟩ := own_int hown2 hk
  have hset := own_int_set hown2 k how
  have hb2 : Below w.heap.size w w2 := below_of_only hb1 hg2 (Nat.le_of_lt hlt1) (Nat.le_refl _)
  have hb3 : Below w.heap.size w (w2.setCell ⟨w.heap.size, k, none⟩ (.int .i64 how)) := hb2.setCell (p := ⟨w.heap.size, k, none⟩) (Nat.le_refl _) _
  have HF : Hid (DecPost (D.set k how) w (.returned (slV (some ⟨w.heap.size, 0, none⟩, s.2.1, s.2.1))) (w2.setCell ⟨w.heap.size, k, none⟩ (.int .i64 how))) := Lib.hid ⟨_, rfl, by rw [List.length_set]; exact HD.out.len.symm, NIn.own hset, hb3⟩
  obtain ⟨A, n, c⟩ := s
  unfold slV at hcp HF ⊢
  dsimp only at hmk hcp hk hn HF ⊢
  have hki : (k : Int) < (n : Int) := by omega
  clear hi hz0 hz1 hz2 hown1 hown2 hset hb1 hb2 hb3 hg2
  go_enter Try.func55, Try.ntmps55
  go_wp2
  go_ret
  exact HF.out
end Go.Proofs.Ytikfcpkobgejmaa

/- proof: possible. -/
namespace Go.Proofs.Ytikfcpkobgejmaa
open Go.RowKit

def bd0 : Bd := ⟨0, 0, (none, 0, 0), []⟩
def bdAt (L : List Bd) (i : Nat) : Bd := (L[i]?).getD bd0
theorem bdAt_eq {L : List Bd} {i : Nat} (h : i < L.length) : bdAt L i = L[i] := by unfold bdAt; rw [List.getElem?_eq_getElem h]; rfl
/-- Does a bid that wins conflict with b? -/
def takenB (L : List Bd) (D : List Int) (b : Bd) : Bool := (List.range L.length).any fun i => decide (D[i]?.getD 0 = 1) && confB (bdAt L i) b
def possB (L : List Bd) (D : List Int) (k : Int) : Bool := if 0 ≤ k ∧ k < (L.length : Int) then decide (D[k.toNat]?.getD 0 = 0) && !takenB L D (bdAt L k.toNat) else false
theorem possB_out {L : List Bd} {D : List Int} {k : Int} (h : k < 0 ∨ (L.length : Int) ≤ k) : possB L D k = false := by unfold possB; rw [if_neg (by omega)]
theorem possB_in {L : List Bd} {D : List Int} {k : Nat} (h : k < L.length) : possB L D (k : Int) = (decide (D[k]?.getD 0 = 0) && !takenB L D L[k]) := by
  unfold possB
  rw [if_pos (by omega)]
  have e : ((k : Int)).toNat = k := by omega
  rw [e, bdAt_eq h]
set_option maxRecDepth 100000 in
set_option maxHeartbeats 2000000 in
theorem possible_any (s sD : Sl) (L : List Bd) (D : List Int) (k : Int) (w : World) (HL : Hid (Bds w s L)) (HD : Hid (NIn w w.heap.size sD D)) (hs : sD.2.1 = s.2.1) (hm : s.2.1 ≤ 1000) (HN : Hid (∀ b ∈ L, b.s.2.1 ≤ 1000000)) :
    Calls Try.prog 54 #[slV s, slV sD, .int .i64 k] w fun e w' => e = .returned (.bool (possB L D k)) ∧ Below w.heap.size w w' := by
  obtain ⟨A, m, c⟩ := s
  obtain ⟨AD, m', cD⟩ := sD
  obtain rfl : m' = m := hs
  unfold slV
  dsimp only at hm ⊢
  have hlen := HL.out.rows.len
  dsimp only at hlen
  have HLEN := Lib.hid hlen
  clear hlen
  by_cases h1 : k < 0
  · have HE := Lib.hid (possB_out (L := L) (D := D) (.inl h1))
    go_enter Try.func54, Try.ntmps54
    go_wp2
    go_ret
    rw [HE.out]
    exact ⟨rfl, Below.refl _ _⟩
  by_cases h2 : (m' : Int) ≤ k
  · have HE := Lib.hid (possB_out (L := L) (D := D) (k := k) (.inr (by rw [HLEN.out]; exact h2)))
    go_enter Try.func54, Try.ntmps54
    go_wp2
    go_ret
    rw [HE.out]
    exact ⟨rfl, Below.refl _ _⟩
  obtain ⟨j, rfl⟩ : ∃ j : Nat, k = (j : Int) := ⟨k.toNat, by omega⟩
  have hj : j < m' := by omega
  have hjl : j < L.length := by rw [HLEN.out]; exact hj
  have HP := Lib.hid (possB_in (D := D) hjl)
  obtain ⟨bD, oD, hAD, hDw, hcD⟩ := NIn.cell HD.out (k := j) hj
  dsimp only at hAD
  subst hAD
  obtain ⟨b, off, hA, hbw, c0, c1, c2, hok⟩ := HL.out.cell hjl
  dsimp only at hA
  subst hA
  have hnb := HN.out _ (List.getElem_mem hjl)
  obtain ⟨y, hy⟩ : ∃ y, L[j] = y := ⟨_, rfl⟩
  rw [hy] at HP c0 c1 c2 hok hnb
  obtain ⟨d, hd⟩ : ∃ d, D[j]?.getD 0 = d := ⟨_, rfl⟩
  rw [hd] at HP hcD
  have HOK := Lib.hid hok
  have g1 : decide ((j : Int) < 0) = false := by simp
  have g2 : decide (m' ≤ j) = false := by simpa using hj
  clear hy hd hok hjl h1 h2
  by_cases hd0 : d = 0
  rotate_left
  · have hd1 : (d != 0) = true := by simpa using hd0
    have HE : Hid (possB L D (j : Int) = false) := Lib.hid (by rw [HP.out]; simp [hd0])
    clear hd0 HP
    go_enter Try.func54, Try.ntmps54
    go_wp2
    go_ret
    rw [HE.out]
    exact ⟨rfl, Below.refl _ _⟩
  · subst hd0
    have HP2 : Hid (possB L D (j : Int) = !takenB L D y) := Lib.hid (by rw [HP.out]; rfl)
    have HC := Lib.hid (And.intro c0 (And.intro c1 c2))
    have HCD := Lib.hid hcD
    go_enter Try.func54, Try.ntmps54
    go_wp2
    clear hcD c0 c1 c2 g1 g2
    go_loopw [26] (fun i wr => ∃ t : Nat, t ≤ m' ∧ i = .int .i64 (t : Int) ∧ Hid (∀ u, u < t → (decide (D[u]?.getD 0 = 1) && confB (bdAt L u) y) = false) ∧ Hid (Below w.heap.size w wr)) (fun i _ => m' - (intOf i).toNat)
    case atStart => exact ⟨0, by omega, rfl, Lib.hid (fun u hu => absurd hu (by omega)), Lib.hid (Below.refl _ _)⟩
    case round =>
      obtain ⟨t, ht, rfl, HNO, HB⟩ := hrel
      by_cases hlt : t < m'
      · have htl : t < L.length := by rw [HLEN.out]; exact hlt
        obtain ⟨b', off', hA', hbw', p0, p1, p2, hok'⟩ := HL.out.cell htl
        dsimp only at hA'
        injection hA' with hA'
        injection hA' with e1 e2 _
        subst e1 e2
        obtain ⟨bD', oD', hAD', -, hcD'⟩ := NIn.cell HD.out (k := t) hlt
        dsimp only at hAD'
        injection hAD' with hAD'
        injection hAD' with e1 e2 _
        subst e1 e2
        have hnb' := HN.out _ (List.getElem_mem htl)
        have HBT := Lib.hid (bdAt_eq htl)
        obtain ⟨z, hz⟩ : ∃ z, L[t] = z := ⟨_, rfl⟩
        rw [hz] at p0 p1 p2 hok' hnb' HBT
        obtain ⟨dt, hdt⟩ : ∃ dt, D[t]?.getD 0 = dt := ⟨_, rfl⟩
        rw [hdt] at hcD'
        have HDT := Lib.hid hdt
        obtain ⟨zi, zp, ⟨zA, zn, zc⟩, zl⟩ := z
        unfold slV at p2
        dsimp only at p0 p1 p2 hnb'
        have q0 := (HB.out.cell (p := ⟨b, off + t * 3, none⟩) hbw).trans p0
        have q1 := (HB.out.cell (p := ⟨b, off + t * 3 + 1, none⟩) hbw).trans p1
        have q2 := (HB.out.cell (p := ⟨b, off + t * 3 + 2, none⟩) hbw).trans p2
        have hb1 : Below w.heap.size w (wr.alloc (.cells #[.int .i64 zi, .int .i64 zp, .slice zA zn zc] 70)) := HB.out.alloc HB.out.size _
        have r0 := (hb1.cell (p := ⟨bD, oD + t, none⟩) hDw).trans hcD'
        have HB1 := Lib.hid hb1
        have HOK' := Lib.hid (Bd.ok.all hok' hb1)
        have HOKy := Lib.hid (Bd.ok.all HOK.out hb1)
        clear hz hdt hok' hb1 hcD' p0 p1 p2 htl
        by_cases hd1 : dt = 1
        rotate_left
        · have hd2 : (dt == 1) = false := by simpa using hd1
          have HNO2 : Hid (∀ u, u < t + 1 → (decide (D[u]?.getD 0 = 1) && confB (bdAt L u) y) = false) := Lib.hid (fun u hu => by
            rcases Nat.lt_or_eq_of_le (Nat.lt_succ_iff.1 hu) with h | rfl
            · exact HNO.out u h
            · rw [HDT.out]
              simp [hd1])
          clear hd1
          go_wp2
          go_quiet (fail)
          have HB2 := Lib.hid (below_drewN HB1.out nq)
          go_wp2
          exact ⟨⟨t + 1, by omega, by go_num, HNO2, HB2⟩, by simp [intOf]; omega⟩
        · subst hd1
          have HG : Hid ((decide (D[t]?.getD 0 = 1) && confB (bdAt L t) y) = confB ⟨zi, zp, (zA, zn, zc), zl⟩ y) := Lib.hid (by rw [HDT.out, HBT.out]; rfl)
          have u0 := (HB1.out.cell (p := ⟨b, off + j * 3, none⟩) hbw).trans HC.out.1
          have u1 := (HB1.out.cell (p := ⟨b, off + j * 3 + 1, none⟩) hbw).trans HC.out.2.1
          have u2 := (HB1.out.cell (p := ⟨b, off + j * 3 + 2, none⟩) hbw).trans HC.out.2.2
          have hbk := Blk.new wr 70 #[.int .i64 zi, .int .i64 zp, .slice zA zn zc]
          have x0 := hbk.cell 0
          have x1 := hbk.cell 1
          have x2 := hbk.cell 2
          clear hbk
          go_wp2
          obtain ⟨gx, hgx⟩ : ∃ gx, wr.heap.size = gx := ⟨_, rfl⟩
          rw [hgx] at x0 x1 x2 ⊢
          generalize wr.alloc (.cells #[.int .i64 zi, .int .i64 zp, .slice zA zn zc] 70) = w1 at *
          clear hgx q0 q1 q2
          obtain ⟨yi, yp, ⟨yA, yn, yc⟩, yl⟩ := y
          unfold slV at u2
          dsimp only at u0 u1 u2 hnb
          simp at x0 x1 x2
          have HZ1 : Hid (NIn w1.drew w1.drew.heap.size (zA, zn, zc) zl) := Lib.hid (NIn.drew (show NIn w1 w1.heap.size (zA, zn, zc) zl from HOK'.out))
          have HY1 : Hid (NIn w1.drew w1.drew.heap.size (yA, yn, yc) yl) := Lib.hid (NIn.drew (show NIn w1 w1.heap.size (yA, yn, yc) yl from HOKy.out))
          have l1 : bD < w1.heap.size := Nat.lt_of_lt_of_le hDw HB1.out.size
          have l2 : gx < w1.heap.size := World.block_lt_of_cell? w1 _ x0
          have l3 : b < w1.heap.size := Nat.lt_of_lt_of_le hbw HB1.out.size
          go_region_held3 (fun w' => w'.cell? ⟨bD, oD + t, none⟩ = some (.int .i64 1) ∧ w'.cell? ⟨gx, 0, none⟩ = some (.int .i64 zi) ∧ w'.cell? ⟨gx, 1, none⟩ = some (.int .i64 zp) ∧ w'.cell? ⟨gx, 2, none⟩ = some (.slice zA zn zc) ∧ w'.cell? ⟨b, off + j * 3, none⟩ = some (.int .i64 yi) ∧ w'.cell? ⟨b, off + j * 3 + 1, none⟩ = some (.int .i64 yp) ∧ w'.cell? ⟨b, off + j * 3 + 2, none⟩ = some (.slice yA yn yc))
            (first | go_keep | exact ⟨(hb4.cell (p := ⟨bD, oD + t, none⟩) l1).trans r0, (hb4.cell (p := ⟨gx, 0, none⟩) l2).trans x0, (hb4.cell (p := ⟨gx, 1, none⟩) l2).trans x1, (hb4.cell (p := ⟨gx, 2, none⟩) l2).trans x2, (hb4.cell (p := ⟨b, off + j * 3, none⟩) l3).trans u0, (hb4.cell (p := ⟨b, off + j * 3 + 1, none⟩) l3).trans u1, (hb4.cell (p := ⟨b, off + j * 3 + 2, none⟩) l3).trans u2⟩)
            (first | (go_at_call 71; ((with_reducible refine (conflict_raw _ _ _ _ _ zl _ _ _ _ _ yl _ HZ1 HY1 hnb' hnb).mono ?_); rintro e w4 ⟨rfl, hb4'⟩; have hb4 := undrew hb4'; clear hb4')))
          have HB4 := Lib.hid (bt HB1.out hb4)
          clear hb4 r0 x0 x1 x2 u0 u1 u2
          obtain ⟨cf, hcf⟩ : ∃ cf, confB ⟨zi, zp, (zA, zn, zc), zl⟩ ⟨yi, yp, (yA, yn, yc), yl⟩ = cf := ⟨_, rfl⟩
          rw [hcf] at HG ⊢
          clear hcf
          cases cf with
          | true =>
            have HE : Hid (possB L D (j : Int) = false) := Lib.hid (by
              rw [HP2.out]
              have : takenB L D ⟨yi, yp, (yA, yn, yc), yl⟩ = true := by
                unfold takenB
                rw [List.any_eq_true]
                exact ⟨t, by rw [List.mem_range, HLEN.out]; exact hlt, HG.out⟩
              rw [this]
              rfl)
            go_wp2
            go_ret
            rw [HE.out]
            exact ⟨rfl, HB4.out⟩
          | false =>
            have HNO2 : Hid (∀ u, u < t + 1 → (decide (D[u]?.getD 0 = 1) && confB (bdAt L u) ⟨yi, yp, (yA, yn, yc), yl⟩) = false) := Lib.hid (fun u hu => by
              rcases Nat.lt_or_eq_of_le (Nat.lt_succ_iff.1 hu) with h | rfl
              · exact HNO.out u h
              · exact HG.out)
            go_wp2
            exact ⟨⟨t + 1, by omega, by go_num, HNO2, HB4⟩, by simp [intOf]; omega⟩
      · obtain rfl : t = m' := by omega
        go_wp2
        go_ret
        refine ⟨?_, HB.out⟩
        rw [HP2.out]
        have : takenB L D y = false := by
          unfold takenB
          rw [List.any_eq_false]
          intro u hu
          rw [List.mem_range, HLEN.out] at hu
          rw [HNO.out u hu]
          decide
        rw [this]
        rfl
end Go.Proofs.Ytikfcpkobgejmaa

/- proof: bound. -/
namespace Go.Proofs.Ytikfcpkobgejmaa
open Go.RowKit

def winSum (L : List Bd) (D : List Int) (k : Nat) : Int := ((List.range k).map fun i => if D[i]?.getD 0 = 1 then (bdAt L i).price else 0).sum
def winLots (L : List Bd) (D : List Int) (k : Nat) : List Int := (List.range k).flatMap fun i => if D[i]?.getD 0 = 1 then (bdAt L i).lots else []
def freeSum (P T : List Int) (k : Nat) : Int := ((List.range k).map fun (i : Nat) => if (i : Int) ∈ T then 0 else P[i]?.getD 0).sum
def costTo (P lots : List Int) (k : Nat) : Int := ((lots.take k).map fun x => P[x.toNat]?.getD 0).sum
def ownB (b : Bd) (P : List Int) : Int := b.price - costTo P b.lots b.lots.length
/-- The greatest surplus of each bidder so far, and their sum. -/
def surF (L : List Bd) (D P : List Int) : Nat → (Int → Int) × Int
  | 0 => (fun _ => 0, 0)
  | k + 1 => if possB L D (k : Int) = true ∧ (surF L D P k).1 (bdAt L k).bidder < ownB (bdAt L k) P then (fun y => if y = (bdAt L k).bidder then ownB (bdAt L k) P else (surF L D P k).1 y, (surF L D P k).2 + (ownB (bdAt L k) P - (surF L D P k).1 (bdAt L k).bidder)) else surF L D P k
/-- What bound returns. -/
def boundP (L : List Bd) (D P : List Int) : Int := winSum L D L.length + freeSum P (winLots L D L.length) P.length + (surF L D P L.length).2
def BidsOk (n : Nat) (L : List Bd) : Prop := ∀ b ∈ L, 0 ≤ b.price ∧ b.price ≤ 1099511627776 ∧ b.s.2.1 ≤ 8 ∧ b.lots.length ≤ 8 ∧ ∀ x ∈ b.lots, 0 ≤ x ∧ x < (n : Int)
def PriOk (P : List Int) : Prop := ∀ p ∈ P, 0 ≤ p ∧ p ≤ 1099511627776
theorem pri_at {P : List Int} (h : PriOk P) (k : Nat) : 0 ≤ P[k]?.getD 0 ∧ P[k]?.getD 0 ≤ 1099511627776 := by
  by_cases hk : k < P.length
  · rw [List.getElem?_eq_getElem hk]
    exact h _ (List.getElem_mem hk)
  · rw [List.getElem?_eq_none (by omega)]
    simp
theorem bd_ok {n : Nat} {L : List Bd} (h : BidsOk n L) (k : Nat) : 0 ≤ (bdAt L k).price ∧ (bdAt L k).price ≤ 1099511627776 ∧ (bdAt L k).s.2.1 ≤ 8 ∧ (bdAt L k).lots.length ≤ 8 ∧ ∀ x ∈ (bdAt L k).lots, 0 ≤ x ∧ x < (n : Int) := by
  by_cases hk : k < L.length
  · rw [bdAt_eq hk]
    exact h _ (List.getElem_mem hk)
  · unfold bdAt
    rw [List.getElem?_eq_none (by omega)]
    simp [bd0]
theorem winSum_succ (L : List Bd) (D : List Int) (k : Nat) : winSum L D (k + 1) = winSum L D k + if D[k]?.getD 0 = 1 then (bdAt L k).price else 0 := by simp [winSum, List.range_succ]
theorem winLots_succ (L : List Bd) (D : List Int) (k : Nat) : winLots L D (k + 1) = winLots L D k ++ if D[k]?.getD 0 = 1 then (bdAt L k).lots else [] := by simp [winLots, List.range_succ]
theorem freeSum_succ (P T : List Int) (k : Nat) : freeSum P T (k + 1) = freeSum P T k + if (k : Int) ∈ T then 0 else P[k]?.getD 0 := by simp [freeSum, List.range_succ]
theorem costTo_succ {P lots : List Int} {k : Nat} (hk : k < lots.length) : costTo P lots (k + 1) = costTo P lots k + P[(lots[k]?.getD 0).toNat]?.getD 0 := by
  have e : lots.take (k + 1) = lots.take k ++ [lots[k]] := (List.take_append_getElem hk).symm
  unfold costTo
  rw [e, List.map_append, List.sum_append, List.getElem?_eq_getElem hk]
  simp
theorem winSum_ok {n : Nat} {L : List Bd} (h : BidsOk n L) (D : List Int) : ∀ k : Nat, 0 ≤ winSum L D k ∧ winSum L D k ≤ 1099511627776 * k := by
  intro k
  induction k with
  | zero => simp [winSum]
  | succ k ih =>
    rw [winSum_succ]
    have := bd_ok h k
    split <;> omega
theorem freeSum_ok {P : List Int} (h : PriOk P) (T : List Int) : ∀ k : Nat, 0 ≤ freeSum P T k ∧ freeSum P T k ≤ 1099511627776 * k := by
  intro k
  induction k with
  | zero => simp [freeSum]
  | succ k ih =>
    rw [freeSum_succ]
    have := pri_at h k
    split <;> omega
theorem costTo_ok {P : List Int} (h : PriOk P) (lots : List Int) : ∀ k : Nat, 0 ≤ costTo P lots k ∧ costTo P lots k ≤ 1099511627776 * k := by
  intro k
  induction k with
  | zero => simp [costTo]
  | succ k ih =>
    by_cases hk : k < lots.length
    · rw [costTo_succ hk]
      have := pri_at h (lots[k]?.getD 0).toNat
      omega
    · have : costTo P lots (k + 1) = costTo P lots k := by
        unfold costTo
        rw [List.take_of_length_le (by omega), List.take_of_length_le (by omega)]
      rw [this]
      omega
theorem ownB_ok {n : Nat} {L : List Bd} {P : List Int} (h : BidsOk n L) (hp : PriOk P) (k : Nat) : -8796093022208 ≤ ownB (bdAt L k) P ∧ ownB (bdAt L k) P ≤ 1099511627776 := by
  unfold ownB
  have h1 := bd_ok h k
  have h2 := costTo_ok hp (bdAt L k).lots (bdAt L k).lots.length
  omega
theorem surF_ok {n : Nat} {L : List Bd} {P : List Int} (h : BidsOk n L) (hp : PriOk P) (D : List Int) : ∀ k : Nat, (∀ x, 0 ≤ (surF L D P k).1 x ∧ (surF L D P k).1 x ≤ 1099511627776) ∧ 0 ≤ (surF L D P k).2 ∧ (surF L D P k).2 ≤ 1099511627776 * k := by
  intro k
  induction k with
  | zero => simp [surF]
  | succ k ih =>
    unfold surF
    have h1 := ownB_ok h hp k
    have h2 := ih.1 (bdAt L k).bidder
    split
    · rename_i hc
      refine ⟨fun x => ?_, ?_⟩
      · dsimp only
        split
        · omega
        · exact ih.1 x
      · dsimp only
        omega
    · exact ⟨ih.1, by omega⟩
/-- A map[int]int that reads as f, 0 elsewhere. -/
def MapI (w : World) (mb : Nat) (f : Int → Int) : Prop := ∃ es, IMap w mb es ∧ ∀ x, (es.lookup x).getD (.int .i64 0) = .int .i64 (f x)
theorem MapI.all {w w' : World} {mb : Nat} {f : Int → Int} (h : MapI w mb f) (hb : Below w.heap.size w w') : MapI w' mb f := by
  obtain ⟨es, h1, h2⟩ := h
  exact ⟨es, h1.all hb, h2⟩
theorem MapI.new (w : World) : MapI (w.alloc (.map #[] 0)) w.heap.size (fun _ => 0) := ⟨[], IMap.new w, fun _ => rfl⟩
theorem MapI.lt {w : World} {mb : Nat} {f : Int → Int} (h : MapI w mb f) : mb < w.heap.size := by
  obtain ⟨es, h1, -⟩ := h
  exact h1.lt
theorem infoInt : ∃ i, Try.prog.info? 3 = some i ∧ i.zero = some (.int .i64 0) := by
  have h : (Try.prog.info? 3).map (fun i => i.zero) = some (some (.int .i64 0)) := by kernel_rfl
  obtain ⟨i, hi, hz⟩ := Option.map_eq_some_iff.1 h
  exact ⟨i, hi, hz⟩
theorem MapI.look {w : World} {mb : Nat} {f : Int → Int} (h : MapI w mb f) (x : Int) : (Instr.lookup 94 (.map (some mb)) (.int .i64 x) false).run Try.prog w = .ok (.int .i64 (f x)) w := by
  obtain ⟨es, h1, h2⟩ := h
  obtain ⟨i, hi, hz⟩ := infoInt
  rw [IMap.look h1 Try.underlying94 Try.underlying3 hi hz x, h2 x]
theorem MapI.add {w : World} {mb : Nat} {f : Int → Int} (h : MapI w mb f) (x v : Int) : ∃ w', (Instr.mapUpdate 94 (.map (some mb)) (.int .i64 x) (.int .i64 v)).run Try.prog w = .ok () w' ∧ MapI w' mb (fun y => if y = x then v else f y) ∧ w.grownBy w' (some mb) ∧ w'.heap.size = w.heap.size := by
  obtain ⟨es, h1, h2⟩ := h
  obtain ⟨w', hr, hm, hg, hs⟩ := IMap.store h1 Try.underlying94 Try.underlying3 x (.int .i64 v)
  refine ⟨w', hr, ⟨_, hm, fun y => ?_⟩, hg, hs⟩
  rw [lookup_put]
  dsimp only
  by_cases hy : y = x
  · rw [if_pos hy, if_pos hy]
    rfl
  · rw [if_neg hy, if_neg hy]
    exact h2 y
end Go.Proofs.Ytikfcpkobgejmaa

/- proof: bound, the walk. -/
namespace Go.Proofs.Ytikfcpkobgejmaa
open Go.RowKit

/-- All that is known of a bid in a list. -/
theorem Bds.get {w : World} {A : Option Addr} {m c : Nat} {L : List Bd} (h : Bds w (A, m, c) L) {k : Nat} (hk : k < L.length) : ∃ b off bi pr sA sn sc lots, A = some ⟨b, off, none⟩ ∧ b < w.heap.size ∧ w.cell? ⟨b, off + k * 3, none⟩ = some (.int .i64 bi) ∧ w.cell? ⟨b, off + k * 3 + 1, none⟩ = some (.int .i64 pr) ∧ w.cell? ⟨b, off + k * 3 + 2, none⟩ = some (.slice sA sn sc) ∧ NIn w w.heap.size (sA, sn, sc) lots ∧ bdAt L k = ⟨bi, pr, (sA, sn, sc), lots⟩ := by
  obtain ⟨b, off, e, hb, c0, c1, c2, hok⟩ := h.cell hk
  rw [← bdAt_eq hk] at c0 c1 c2 hok
  obtain ⟨y, hy⟩ : ∃ y, bdAt L k = y := ⟨_, rfl⟩
  rw [hy] at c0 c1 c2 hok ⊢
  obtain ⟨bi, pr, ⟨sA, sn, sc⟩, lots⟩ := y
  exact ⟨b, off, bi, pr, sA, sn, sc, lots, e, hb, c0, c1, c2, hok, rfl⟩
set_option maxRecDepth 100000 in
set_option maxHeartbeats 4000000 in
theorem bound_any (s sD sP : Sl) (L : List Bd) (D P : List Int) (w : World) (HL : Hid (Bds w s L)) (HD : Hid (NIn w w.heap.size sD D)) (HP : Hid (NIn w w.heap.size sP P)) (hs : sD.2.1 = s.2.1) (hm : s.2.1 ≤ 10) (hp : sP.2.1 ≤ 8) (HB : Hid (BidsOk P.length L)) (HQ : Hid (PriOk P)) :
    Calls Try.prog 53 #[slV s, slV sD, slV sP] w fun e w' => e = .returned (.int .i64 (boundP L D P)) ∧ Below w.heap.size w w' := by
  have HPS := fun k (w' : World) (hb : Below w.heap.size w w') => possible_any s sD L D k w' (Lib.hid (HL.out.all hb)) (Lib.hid (NIn.all HD.out hb)) hs (by omega) (Lib.hid (fun b hb => by have := (HB.out b hb).2.2.1; omega))
  obtain ⟨A, m, c⟩ := s
  obtain ⟨AD, m', cD⟩ := sD
  obtain ⟨AP, np, cP⟩ := sP
  obtain rfl : m' = m := hs
  unfold slV at HPS ⊢
  dsimp only at hm hp HPS ⊢
  have HPQ := Lib.hid HPS
  clear HPS
  have HLEN := Lib.hid HL.out.rows.len
  have HPL := Lib.hid HP.out.len
  dsimp only at HLEN HPL
  have hmm := @run_makeMap Try.prog
  go_enter Try.func53, Try.ntmps53
  go_wp2
  have HS0 := Lib.hid (SetAt.new w)
  have HB0 := Lib.hid ((Below.refl w.heap.size w).alloc (Nat.le_refl _) (.map #[] 0))
  obtain ⟨tm, htm⟩ : ∃ tm, w.heap.size = tm := ⟨_, rfl⟩
  have htw : w.heap.size ≤ tm := by omega
  have HS0 : Hid (SetAt (w.alloc (.map #[] 0)) tm []) := by rw [← htm]; exact HS0
  rw [htm]
  generalize w.alloc (.map #[] 0) = w0 at *
  clear hmm htm
  go_loopw [7, 25] (fun v i wr => ∃ k : Nat, k ≤ m' ∧ i = .int .i64 (k : Int) ∧ v = .int .i64 (winSum L D k) ∧ Hid (SetAt wr tm (winLots L D k)) ∧ Hid (Below w.heap.size w wr)) (fun _ i _ => m' - (intOf i).toNat)
  case atStart => exact ⟨0, by omega, rfl, rfl, HS0, HB0⟩
  case round =>
    obtain ⟨k, hk, rfl, rfl, HS, HBW⟩ := hrel
    have hw := winSum_ok HB.out D k
    by_cases hlt : k < m'
    · obtain ⟨b, off, bi, pr, sA, sn, sc, lots, rfl, hbw, c0, c1, c2, hin, he⟩ := HL.out.get (k := k) (by rw [HLEN.out]; exact hlt)
      obtain ⟨bD, oD, hAD, hDw, hcD⟩ := NIn.cell HD.out (k := k) hlt
      dsimp only at hAD
      subst hAD
      have hbo := bd_ok HB.out k
      rw [he] at hbo
      dsimp only at hbo
      obtain ⟨hp0, hp1, hs8, -, -⟩ := hbo
      obtain ⟨d, hd⟩ : ∃ d, D[k]?.getD 0 = d := ⟨_, rfl⟩
      rw [hd] at hcD
      have HE := Lib.hid he
      have HDK := Lib.hid hd
      have q0 := (HBW.out.cell (p := ⟨b, off + k * 3, none⟩) hbw).trans c0
      have q1 := (HBW.out.cell (p := ⟨b, off + k * 3 + 1, none⟩) hbw).trans c1
      have q2 := (HBW.out.cell (p := ⟨b, off + k * 3 + 2, none⟩) hbw).trans c2
      have hb1 : Below w.heap.size w (wr.alloc (.cells #[.int .i64 bi, .int .i64 pr, .slice sA sn sc] 70)) := HBW.out.alloc HBW.out.size _
      have r0 := (hb1.cell (p := ⟨bD, oD + k, none⟩) hDw).trans hcD
      have HB1 := Lib.hid hb1
      have HS1 := Lib.hid (HS.out.all ((Below.refl wr.heap.size wr).alloc (Nat.le_refl _) (.cells #[.int .i64 bi, .int .i64 pr, .slice sA sn sc] 70)))
      have HIN := Lib.hid hin
      have hlen := hin.len
      dsimp only at hlen
      have HSN := Lib.hid hlen
      clear he hd hb1 hin c0 c1 c2 hcD hlen
      by_cases hd1 : d = 1
      rotate_left
      · have hd2 : (d == 1) = false := by simpa using hd1
        have HW2 : Hid (winSum L D (k + 1) = winSum L D k) := Lib.hid (by rw [winSum_succ, HDK.out, if_neg hd1, Int.add_zero])
        have HT2 : Hid (winLots L D (k + 1) = winLots L D k) := Lib.hid (by rw [winLots_succ, HDK.out, if_neg hd1, List.append_nil])
        have HS2 : Hid (SetAt (wr.alloc (.cells #[.int .i64 bi, .int .i64 pr, .slice sA sn sc] 70)) tm (winLots L D (k + 1))) := Lib.hid (by rw [HT2.out]; exact HS1.out)
        clear hd1
        go_wp2
        exact ⟨⟨k + 1, by omega, by go_num, by rw [HW2.out], HS2, HB1⟩, by simp [intOf]; omega⟩
      · subst hd1
        have HW2 : Hid (winSum L D (k + 1) = winSum L D k + pr) := Lib.hid (by rw [winSum_succ, HDK.out, if_pos rfl, HE.out])
        have HT2 : Hid (winLots L D (k + 1) = winLots L D k ++ lots) := Lib.hid (by rw [winLots_succ, HDK.out, if_pos rfl, HE.out])
        obtain ⟨ws, hws⟩ : ∃ ws, winSum L D k = ws := ⟨_, rfl⟩
        rw [hws] at hw HW2 ⊢
        clear hws
        go_wp2
        generalize wr.alloc (.cells #[.int .i64 bi, .int .i64 pr, .slice sA sn sc] 70) = w1 at *
        clear q0 q1 q2 r0 HS
        go_loopw [12, 42] (fun _ i wq => ∃ j : Nat, j ≤ sn ∧ i = .int .i64 (j : Int) ∧ Hid (SetAt wq tm (winLots L D k ++ lots.take j)) ∧ Hid (Below w.heap.size w wq)) (fun _ i _ => sn - (intOf i).toNat)
        case atStart => exact ⟨0, by omega, rfl, Lib.hid (by rw [List.take_zero, List.append_nil]; exact HS1.out), HB1⟩
        case round =>
          obtain ⟨j, hj, rfl, HSq, HBq⟩ := hrel
          by_cases hlt2 : j < sn
          · obtain ⟨b2, o2, hA2, -, hc2⟩ := (NIn.all HIN.out HBq.out).cell (k := j) hlt2
            dsimp only at hA2
            subst hA2
            obtain ⟨w', hrun, hs', hg', hz'⟩ := HSq.out.add (lots[j]?.getD 0)
            have hjl : j < lots.length := by rw [HSN.out]; exact hlt2
            have hts : winLots L D k ++ lots.take j ++ [lots[j]?.getD 0] = winLots L D k ++ lots.take (j + 1) := by
              rw [List.append_assoc, ← List.take_append_getElem hjl, List.getElem?_eq_getElem hjl]
              rfl
            rw [hts] at hs'
            have HS' := Lib.hid hs'
            have HB' : Hid (Below w.heap.size w w') := Lib.hid (below_of_only HBq.out hg' HBq.out.size htw)
            clear hs' hg' hz' hts hjl
            go_wp2
            exact ⟨⟨j + 1, by omega, by go_num, HS', HB'⟩, by simp [intOf]; omega⟩
          · obtain rfl : j = sn := by omega
            have HS3 : Hid (SetAt wr tm (winLots L D (k + 1))) := Lib.hid (by
              rw [HT2.out]
              have := HSq.out
              rw [List.take_of_length_le (by rw [HSN.out]; exact Nat.le_refl _)] at this
              exact this)
            go_wp2
            exact ⟨⟨k + 1, by omega, by go_num, by rw [HW2.out], HS3, HBq⟩, by simp [intOf]; omega⟩
    · --@1
      obtain rfl : k = m' := by omega
      obtain ⟨T, hT⟩ : ∃ T, winLots L D k = T := ⟨_, rfl⟩
      obtain ⟨ws, hws⟩ : ∃ ws, winSum L D k = ws := ⟨_, rfl⟩
      rw [hT] at HS
      rw [hws] at hw ⊢
      have HTT := Lib.hid hT
      have HWS := Lib.hid hws
      clear hT hws
      go_wp2
      go_loop [7, 13, 14, 52] (fun v _ _ i => ∃ j : Nat, j ≤ np ∧ i = .int .i64 (j : Int) ∧ v = .int .i64 (ws + freeSum P T j)) (fun _ _ _ i => np - (intOf i).toNat)
      case atStart => exact ⟨0, by omega, rfl, by simp [freeSum]⟩
      case round =>
        obtain ⟨j, hj, rfl, rfl⟩ := hrel
        have hf := freeSum_ok HQ.out T j
        have hsf := freeSum_succ P T j
        obtain ⟨fs, hfs⟩ : ∃ fs, freeSum P T j = fs := ⟨_, rfl⟩
        rw [hfs] at hf hsf ⊢
        have HSF := Lib.hid hsf
        by_cases hlt2 : j < np
        · obtain ⟨b2, o2, hA2, -, hc2⟩ := (NIn.all HP.out HBW.out).cell (k := j) hlt2
          dsimp only at hA2
          subst hA2
          have hpj := pri_at HQ.out j
          obtain ⟨pj, hpj2⟩ : ∃ pj, P[j]?.getD 0 = pj := ⟨_, rfl⟩
          rw [hpj2] at hc2 hpj HSF
          have hlk := HS.out.look (j : Int)
          clear hpj2 hfs hsf
          rcases hin : decide ((j : Int) ∈ T) with _ | _
          · rw [hin] at hlk
            have HF2 : Hid (freeSum P T (j + 1) = fs + pj) := Lib.hid (by rw [HSF.out, if_neg (by simpa using hin)])
            clear hin HSF
            go_wp2
            exact ⟨⟨j + 1, by omega, by go_num, by rw [HF2.out, Int.add_assoc]⟩, by simp [intOf]; omega⟩
          · rw [hin] at hlk
            have HF2 : Hid (freeSum P T (j + 1) = fs) := Lib.hid (by rw [HSF.out, if_pos (by simpa using hin), Int.add_zero])
            clear hin HSF
            go_wp2
            exact ⟨⟨j + 1, by omega, by go_num, by rw [HF2.out]⟩, by simp [intOf]; omega⟩
        · --@2
          obtain rfl : j = np := by omega
          have HFS := Lib.hid hfs
          have HM0 := Lib.hid (MapI.new wr)
          have HB2 := Lib.hid (HBW.out.alloc HBW.out.size (.map #[] 0))
          have hmk := @run_makeMap Try.prog
          obtain ⟨hw1, hw2⟩ := hw
          obtain ⟨hf1, hf2⟩ := hf
          have hw3 : ws ≤ 10995116277760 := by omega
          have hf3 : fs ≤ 8796093022208 := by omega
          clear hfs hsf HSF hw2 hf2
          go_wp2
          obtain ⟨sm, hsm⟩ : ∃ sm, wr.heap.size = sm := ⟨_, rfl⟩
          have hsw : w.heap.size ≤ sm := by have := HBW.out.size; omega
          have HM0 : Hid (MapI (wr.alloc (.map #[] 0)) sm (fun _ => 0)) := by rw [← hsm]; exact HM0
          rw [hsm]
          generalize wr.alloc (.map #[] 0) = w2 at *
          clear hmk hsm HS HBW
          go_loopw [7, 68] (fun v i wq => ∃ q : Nat, q ≤ k ∧ i = .int .i64 (q : Int) ∧ v = .int .i64 (ws + fs + (surF L D P q).2) ∧ Hid (MapI wq sm (surF L D P q).1) ∧ Hid (Below w.heap.size w wq)) (fun _ i _ => k - (intOf i).toNat)
          case atStart => exact ⟨0, by omega, rfl, by simp [surF], HM0, HB2⟩
          case round =>
            obtain ⟨q, hq, rfl, rfl, HM, HBW⟩ := hrel
            have hsu := surF_ok HB.out HQ.out D q
            by_cases hlt3 : q < k
            · obtain ⟨b, off, bi, pr, sA, sn, sc, lots, rfl, hbw, c0, c1, c2, hin, he⟩ := HL.out.get (k := q) (by rw [HLEN.out]; exact hlt3)
              have hbo := bd_ok HB.out q
              have how := ownB_ok HB.out HQ.out q
              have hfb := hsu.1 bi
              have hsu2 := hsu.2
              have HNX : Hid (surF L D P (q + 1) = if possB L D (q : Int) = true ∧ (surF L D P q).1 bi < ownB ⟨bi, pr, (sA, sn, sc), lots⟩ P then (fun y => if y = bi then ownB ⟨bi, pr, (sA, sn, sc), lots⟩ P else (surF L D P q).1 y, (surF L D P q).2 + (ownB ⟨bi, pr, (sA, sn, sc), lots⟩ P - (surF L D P q).1 bi)) else surF L D P q) := Lib.hid (by
                conv => lhs; unfold surF
                rw [he])
              rw [he] at hbo how
              dsimp only at hbo
              obtain ⟨hp0, hp1, hs8, -, hlx⟩ := hbo
              have HLX := Lib.hid hlx
              have HOW : Hid (ownB ⟨bi, pr, (sA, sn, sc), lots⟩ P = pr - costTo P lots lots.length) := Lib.hid rfl
              obtain ⟨own, hown⟩ : ∃ own, ownB ⟨bi, pr, (sA, sn, sc), lots⟩ P = own := ⟨_, rfl⟩
              rw [hown] at how HOW HNX
              obtain ⟨fb, hfb2⟩ : ∃ fb, (surF L D P q).1 bi = fb := ⟨_, rfl⟩
              rw [hfb2] at hfb HNX
              obtain ⟨sq, hsq⟩ : ∃ sq, (surF L D P q).2 = sq := ⟨_, rfl⟩
              rw [hsq] at hsu2 HNX ⊢
              have HFB := Lib.hid hfb2
              have HSQ := Lib.hid hsq
              have q0 := (HBW.out.cell (p := ⟨b, off + q * 3, none⟩) hbw).trans c0
              have q1 := (HBW.out.cell (p := ⟨b, off + q * 3 + 1, none⟩) hbw).trans c1
              have q2 := (HBW.out.cell (p := ⟨b, off + q * 3 + 2, none⟩) hbw).trans c2
              have hbx := (Below.refl wr.heap.size wr).alloc (Nat.le_refl _) (.cells #[.int .i64 bi, .int .i64 pr, .slice sA sn sc] 70)
              have hb1 : Below w.heap.size w (wr.alloc (.cells #[.int .i64 bi, .int .i64 pr, .slice sA sn sc] 70)) := bt HBW.out hbx
              have hbk := Blk.new wr 70 #[.int .i64 bi, .int .i64 pr, .slice sA sn sc]
              have HBK := Lib.hid hbk
              have HB1 := Lib.hid hb1
              have HM1 := Lib.hid (HM.out.all hbx)
              have HIN := Lib.hid hin
              have hlen := hin.len
              dsimp only at hlen
              have HSN := Lib.hid hlen
              clear he hin c0 c1 c2 hlen hown hfb2 hsq hsu hbx hb1 hbk hlx
              go_wp2_with fail
              refine (HPQ.out (q : Int) _ HB1.out).mono ?_
              rintro e w3 ⟨rfl, hb3⟩
              have HB3 := Lib.hid (bt HB1.out hb3)
              have HM3 := Lib.hid (HM1.out.all hb3)
              have HK3 := Lib.hid (HBK.out.all hb3)
              clear hb3 q0 q1 q2 HM1 HB1 HM HBW HBK
              rcases hps : possB L D (q : Int) with _ | _
              · have HN2 : Hid (surF L D P (q + 1) = surF L D P q) := Lib.hid (by rw [HNX.out, if_neg (by rw [hps]; simp)])
                have HM4 : Hid (MapI w3 sm (surF L D P (q + 1)).1) := Lib.hid (by rw [HN2.out]; exact HM3.out)
                clear hps HNX
                go_wp2
                exact ⟨⟨q + 1, by omega, by go_num, by rw [HN2.out, HSQ.out], HM4, HB3⟩, by simp [intOf]; omega⟩
              · have HPS := Lib.hid hps
                have x0 := HK3.out.cell 0
                have x1 := HK3.out.cell 1
                have x2 := HK3.out.cell 2
                simp at x0 x1 x2
                clear hps
                go_wp2
                go_loop [18, 83] (fun v i => ∃ t : Nat, t ≤ sn ∧ i = .int .i64 (t : Int) ∧ v = .int .i64 (pr - costTo P lots t)) (fun _ i => sn - (intOf i).toNat)
                case atStart => exact ⟨0, by omega, rfl, by simp [costTo]⟩
                case round =>
                  obtain ⟨t, ht, rfl, rfl⟩ := hrel
                  have hct := costTo_ok HQ.out lots t
                  by_cases hlt4 : t < sn
                  · have htl : t < lots.length := by rw [HSN.out]; exact hlt4
                    have hcs := costTo_succ (P := P) htl
                    obtain ⟨b2, o2, hA2, -, hc2⟩ := (NIn.all HIN.out HB3.out).cell (k := t) hlt4
                    dsimp only at hA2
                    subst hA2
                    have hxm := HLX.out _ (List.getElem_mem htl)
                    obtain ⟨x, hx⟩ : ∃ x, lots[t]?.getD 0 = x := ⟨_, rfl⟩
                    have hx' : lots[t] = x := by
                      rw [List.getElem?_eq_getElem htl] at hx
                      exact hx
                    rw [hx'] at hxm
                    rw [hx] at hc2 hcs
                    obtain ⟨xn, rfl⟩ : ∃ xn : Nat, x = (xn : Int) := ⟨x.toNat, by omega⟩
                    have hxj : xn < j := by have := HPL.out; omega
                    obtain ⟨b3, o3, hA3, -, hc3⟩ := (NIn.all HP.out HB3.out).cell (k := xn) hxj
                    dsimp only at hA3
                    subst hA3
                    have hpx := pri_at HQ.out xn
                    have e1 : ((xn : Int)).toNat = xn := by omega
                    rw [e1] at hcs
                    obtain ⟨px, hpx2⟩ : ∃ px, P[xn]?.getD 0 = px := ⟨_, rfl⟩
                    rw [hpx2] at hc3 hcs hpx
                    obtain ⟨ct, hct2⟩ : ∃ ct, costTo P lots t = ct := ⟨_, rfl⟩
                    rw [hct2] at hct hcs ⊢
                    have HCS := Lib.hid hcs
                    have ht8 : (t : Int) ≤ 8 := by omega
                    clear hcs hx hx' hpx2 hct2 e1 hxm htl
                    go_wp2
                    exact ⟨⟨t + 1, by omega, by go_num, by rw [HCS.out, Int.sub_sub]⟩, by simp [intOf]; omega⟩
                  · obtain rfl : t = sn := by omega
                    have hoe : pr - costTo P lots t = own := by rw [HOW.out, HSN.out]
                    rw [hoe]
                    have hlk := HM3.out.look bi
                    rw [HFB.out] at hlk
                    clear hoe hct
                    by_cases hmore : fb < own
                    · obtain ⟨w5, hst5, hm5, hg5, hz5⟩ := HM3.out.add bi own
                      have HN2 : Hid (surF L D P (q + 1) = (fun y => if y = bi then own else (surF L D P q).1 y, sq + (own - fb))) := Lib.hid (by rw [HNX.out, if_pos ⟨HPS.out, hmore⟩])
                      have HM4 : Hid (MapI w5 sm (surF L D P (q + 1)).1) := Lib.hid (by rw [HN2.out]; exact hm5)
                      have HB5 : Hid (Below w.heap.size w w5) := Lib.hid (below_of_only HB3.out hg5 HB3.out.size hsw)
                      have hmo : 0 < own - fb := by omega
                      have hq10 : (q : Int) ≤ 10 := by omega
                      clear hm5 hg5 hz5 HNX
                      go_wp2
                      exact ⟨⟨q + 1, by omega, by go_num, by rw [HN2.out]; go_num, HM4, HB5⟩, by simp [intOf]; omega⟩
                    · have HN2 : Hid (surF L D P (q + 1) = surF L D P q) := Lib.hid (by rw [HNX.out, if_neg (fun h => hmore h.2)])
                      have HM4 : Hid (MapI w3 sm (surF L D P (q + 1)).1) := Lib.hid (by rw [HN2.out]; exact HM3.out)
                      have hmo : ¬ 0 < own - fb := by omega
                      clear HNX
                      go_wp2
                      exact ⟨⟨q + 1, by omega, by go_num, by rw [HN2.out, HSQ.out], HM4, HB3⟩, by simp [intOf]; omega⟩
            · obtain rfl : q = k := by omega
              go_wp2
              go_ret
              refine ⟨?_, HBW.out⟩
              unfold boundP
              rw [HLEN.out, HPL.out, HTT.out, HWS.out, HFS.out]
              rfl
end Go.Proofs.Ytikfcpkobgejmaa

/- A range over a map from ints that stays as it is while the rounds write elsewhere. -/
namespace Go.Proofs.Ytikfcpkobgejmaa
open Go.RowKit
open Go.ChangeMaps (setBlock)

/-- An iterator at block r over the map at block mb: 'left k': the entry at k is still to come. -/
def IIter (w : World) (mb r : Nat) (es : List (Int × Value)) (left : Int → Bool) : Prop :=
  ∃ (l : List MapEntry) (clock : Nat) (seen : Array Nat), w.heap[mb]? = some (.map l.toArray clock) ∧ l.map (fun e => (e.key, e.val)) = es.map (fun p => (Value.int .i64 p.1, p.2)) ∧ (es.map Prod.fst).Nodup ∧ (l.map (·.born)).Nodup ∧ (∀ e ∈ l, e.born < clock) ∧
    w.heap[r]? = some (.mapIter (some mb) clock seen clock) ∧ ∀ e ∈ l, ∀ k, e.key = .int .i64 k → left k = !seen.contains e.born
/-- How many entries are to come. -/
def iterLeft (w : World) (mb r : Nat) : Nat :=
  match w.heap[mb]?, w.heap[r]? with
  | some (.map es _), some (.mapIter _ _ seen _) => (leftOf es seen).size
  | _, _ => 0
section
variable {P : Program} {w w' : World} {mb r : Nat} {es : List (Int × Value)} {left : Int → Bool}
theorem IIter.imap (h : IIter w mb r es left) : IMap w mb es := by
  obtain ⟨l, clock, seen, h1, h2, h3, h4, h5, -⟩ := h
  exact ⟨l, clock, h1, h2, h3, h4, h5⟩
theorem IIter.keep (h : IIter w mb r es left) (h1 : w'.heap[mb]? = w.heap[mb]?) (h2 : w'.heap[r]? = w.heap[r]?) : IIter w' mb r es left := by
  obtain ⟨l, clock, seen, a1, a2, a3, a4, a5, a6, a7⟩ := h
  exact ⟨l, clock, seen, h1.trans a1, a2, a3, a4, a5, h2.trans a6, a7⟩
theorem IIter.lt (h : IIter w mb r es left) : mb < w.heap.size ∧ r < w.heap.size := by
  obtain ⟨l, clock, seen, a1, a2, a3, a4, a5, a6, a7⟩ := h
  exact ⟨(Array.getElem?_eq_some_iff.1 a1).1, (Array.getElem?_eq_some_iff.1 a6).1⟩
theorem IIter.not_ty {t : TypeId} (h : IIter w mb r es left) : ¬ Ty w r t := by
  obtain ⟨l, clock, seen, a1, a2, a3, a4, a5, a6, a7⟩ := h
  rintro ⟨cs, fr, h⟩
  rw [h] at a6
  cases a6
theorem IIter.ne (h : IIter w mb r es left) : r ≠ mb := by
  obtain ⟨l, clock, seen, a1, a2, a3, a4, a5, a6, a7⟩ := h
  rintro rfl
  rw [a1] at a6
  cases a6
theorem IIter.mod {F : Nat → Prop} (h : IIter w mb r es left) (m : Mod F w w') (h1 : ¬ F mb) (h2 : ¬ F r) : IIter w' mb r es left := h.keep (m.block mb h.lt.1 h1) (m.block r h.lt.2 h2)
theorem IMap.iter (h : IMap w mb es) {t kt e : TypeId} (ht : P.underlying t = some (.map kt e)) : ∃ w', (Instr.range t (.map (some mb))).run P w = .ok (.pointer (some ⟨w.heap.size, 0, none⟩)) w' ∧ IIter w' mb w.heap.size es (fun _ => true) ∧ Below w.heap.size w w' := by
  obtain ⟨l, clock, h1, h2, h3, h4, h5⟩ := h
  have hlt := (Array.getElem?_eq_some_iff.1 h1).1
  refine ⟨_, run_range_map w t kt e mb _ clock ht h1, ⟨l, clock, #[], (Below.heap_alloc w _ mb hlt).trans h1, h2, h3, h4, h5, World.alloc_heap_new w _, fun _ _ _ _ => by simp⟩, (Below.refl _ w).alloc (Nat.le_refl _) _⟩
theorem key_of {l : List MapEntry} (h2 : l.map (fun e => (e.key, e.val)) = es.map (fun p => (Value.int .i64 p.1, p.2))) {e : MapEntry} (he : e ∈ l) : ∃ k v, e.key = .int .i64 k ∧ e.val = v ∧ (k, v) ∈ es := by
  have : (e.key, e.val) ∈ l.map (fun e => (e.key, e.val)) := List.mem_map.2 ⟨e, he, rfl⟩
  rw [h2] at this
  obtain ⟨p, hp, heq⟩ := List.mem_map.1 this
  injection heq with e1 e2
  exact ⟨p.1, p.2, e1.symm, e2.symm, hp⟩
theorem keys_inj (l : List MapEntry) : ∀ {es : List (Int × Value)} (_ : l.map (fun e => (e.key, e.val)) = es.map (fun p => (Value.int .i64 p.1, p.2))) (_ : (es.map Prod.fst).Nodup) {a b : MapEntry} (_ : a ∈ l) (_ : b ∈ l) (_ : a.key = b.key), a = b := by
  induction l with
  | nil => intro es _ _ a b ha; exact absurd ha (by simp)
  | cons e l ih =>
    intro es h2 h3 a b ha hb he
    rcases es with _ | ⟨p, es⟩
    · simp at h2
    · simp only [List.map_cons, List.cons.injEq, Prod.mk.injEq] at h2
      obtain ⟨⟨hk, hv⟩, hr⟩ := h2
      rw [List.map_cons, List.nodup_cons] at h3
      have hno : ∀ x ∈ l, x.key ≠ e.key := by
        intro x hx hxe
        obtain ⟨k, v, h4, -, h5⟩ := key_of hr hx
        rw [h4, hk] at hxe
        injection hxe with _ hxe
        exact h3.1 (List.mem_map.2 ⟨(k, v), h5, hxe⟩)
      rcases List.mem_cons.1 ha with rfl | ha'
      · rcases List.mem_cons.1 hb with rfl | hb
        · rfl
        · exact absurd he.symm (hno b hb)
      · rcases List.mem_cons.1 hb with rfl | hb
        · exact absurd he (hno a ha')
        · exact ih hr h3.2 ha' hb he
theorem borns_inj (l : List MapEntry) : ∀ (_ : (l.map (·.born)).Nodup) {a b : MapEntry} (_ : a ∈ l) (_ : b ∈ l) (_ : a.born = b.born), a = b := by
  induction l with
  | nil => intro _ a b ha; exact absurd ha (by simp)
  | cons e l ih =>
    intro h3 a b ha hb he
    rw [List.map_cons, List.nodup_cons] at h3
    have hno : ∀ x ∈ l, x.born ≠ e.born := fun x hx hxe => h3.1 (List.mem_map.2 ⟨x, hx, hxe⟩)
    rcases List.mem_cons.1 ha with rfl | ha'
    · rcases List.mem_cons.1 hb with rfl | hb
      · rfl
      · exact absurd he.symm (hno b hb)
    · rcases List.mem_cons.1 hb with rfl | hb
      · exact absurd he (hno a ha')
      · exact ih h3.2 ha' hb he
theorem IIter.next (h : IIter w mb r es left) :
    ((∀ p ∈ es, left p.1 = false) ∧ ∀ ty, (Instr.next (.pointer (some ⟨r, 0, none⟩)) false ty).run P w = .ok (.tuple #[.bool false]) w) ∨
    ∃ k v w', (k, v) ∈ es ∧ left k = true ∧ (∀ ty, (Instr.next (.pointer (some ⟨r, 0, none⟩)) false ty).run P w = .ok (.tuple #[.bool true, .int .i64 k, v]) w') ∧ (Instr.entry (.pointer (some ⟨r, 0, none⟩))).run P w' = .ok (.tuple #[.int .i64 k, v]) w' ∧
      IIter w' mb r es (fun j => left j && !(j == k)) ∧ w.grownBy w' (some r) ∧ w'.heap.size = w.heap.size ∧ iterLeft w' mb r < iterLeft w mb r := by
  obtain ⟨l, clock, seen, a1, a2, a3, a4, a5, a6, a7⟩ := h
  have hmr : mb ≠ r := by
    rintro rfl
    rw [a1] at a6
    cases a6
  have hrl := (Array.getElem?_eq_some_iff.1 a6).1
  rcases run_next_at (P := P) w 0 r mb clock clock seen l.toArray clock a6 a1 (by simpa using a5) (Nat.le_refl _) with ⟨h0, -⟩ | ⟨e, he, w1, hw1, hrun⟩
  · left
    refine ⟨fun p hp => ?_, fun ty => ?_⟩
    · have hm : (Value.int .i64 p.1, p.2) ∈ es.map (fun p => (Value.int .i64 p.1, p.2)) := List.mem_map.2 ⟨p, hp, rfl⟩
      rw [← a2] at hm
      obtain ⟨e, he, heq⟩ := List.mem_map.1 hm
      injection heq with e1 _
      rw [a7 e he p.1 e1]
      cases hc : seen.contains e.born with
      | true => rfl
      | false =>
        have : e ∈ leftOf l.toArray seen := by
          unfold leftOf
          rw [Array.mem_filter]
          exact ⟨by simpa using he, by rw [hc]; rfl⟩
        have : 0 < (leftOf l.toArray seen).size := Array.size_pos_of_mem this
        omega
    · rcases run_next_at (P := P) w ty r mb clock clock seen l.toArray clock a6 a1 (by simpa using a5) (Nat.le_refl _) with ⟨_, h1⟩ | ⟨e, he, _⟩
      · exact h1
      · have : 0 < (leftOf l.toArray seen).size := Array.size_pos_of_mem (by simpa using he)
        omega
  · right
    obtain ⟨hel, hec⟩ := mem_left he
    have hel' : e ∈ l := by simpa using hel
    obtain ⟨k, v, hk, hv, hkv⟩ := key_of a2 hel'
    have hW : w1.heap = w.heap := by rcases hw1 with rfl | rfl <;> rfl
    have hmb : (setBlock w1 r (.mapIter (some mb) clock (seen.push e.born) clock)).heap[mb]? = some (.map l.toArray clock) := by
      show (w1.heap.setIfInBounds r _)[mb]? = _
      rw [hW, Array.getElem?_setIfInBounds_ne (Ne.symm hmr)]
      exact a1
    have hr' : (setBlock w1 r (.mapIter (some mb) clock (seen.push e.born) clock)).heap[r]? = some (.mapIter (some mb) clock (seen.push e.born) clock) := by
      show (w1.heap.setIfInBounds r _)[r]? = _
      rw [hW]
      simp [hrl]
    rw [hk, hv] at hrun
    refine ⟨k, v, _, hkv, ?_, fun ty => hrun, ?_, ⟨l, clock, seen.push e.born, hmb, a2, a3, a4, a5, hr', ?_⟩, ?_, ?_, ?_⟩
    · rw [a7 e hel' k hk, hec]
      rfl
    · have := run_entry_at (P := P) _ r mb clock seen l.toArray clock e hr' hmb hel (by simpa using a4)
      rw [hk, hv] at this
      exact this
    · intro e2 he2 k2 hk2
      have hcp : (seen.push e.born).contains e2.born = (seen.contains e2.born || (e2.born == e.born)) := by
        rw [Bool.eq_iff_iff]
        simp
      rw [hcp, Bool.not_or, ← a7 e2 he2 k2 hk2]
      show (left k2 && !(k2 == k)) = _
      by_cases hee : e2 = e
      · subst hee
        rw [hk] at hk2
        injection hk2 with _ hk2
        simp [hk2]
      · have h1 : (k2 == k) = false := by
          rw [beq_eq_false_iff_ne]
          rintro rfl
          exact hee (keys_inj l a2 a3 he2 hel' (hk2.trans hk.symm))
        have h2 : (e2.born == e.born) = false := by
          rw [beq_eq_false_iff_ne]
          intro h
          exact hee (borns_inj l a4 he2 hel' h)
        rw [h1, h2]
    · have hos : w1.os = w.os ∧ w1.tape = w.tape ∧ w1.output = w.output := by rcases hw1 with rfl | rfl <;> exact ⟨rfl, rfl, rfl⟩
      refine ⟨hos.1, hos.2.1, hos.2.2, ?_, fun j _ hne => ?_⟩
      · show w.heap.size ≤ (w1.heap.setIfInBounds r _).size
        rw [hW]
        simp
      · show (w1.heap.setIfInBounds r _)[j]? = _
        rw [hW, Array.getElem?_setIfInBounds_ne (fun e => hne (by rw [e]))]
    · show (w1.heap.setIfInBounds r _).size = _
      rw [hW]
      simp
    · unfold iterLeft
      rw [hmb, hr', a1, a6]
      exact left_shrinks _ _ _ he
end
end Go.Proofs.Ytikfcpkobgejmaa

/- bids: Value, Feasible. -/
namespace Go.Proofs.Ytikfcpkobgejmaa
open Go.RowKit

def priceAt (L : List Bd) (i : Int) : Int := if 0 ≤ i ∧ i < (L.length : Int) then ((L[i.toNat]?).map Bd.price).getD 0 else 0
def valueTo (L : List Bd) (win : List Int) (k : Nat) : Int := ((win.take k).map (priceAt L)).sum
def valueB (L : List Bd) (win : List Int) : Int := (win.map (priceAt L)).sum
theorem valueTo_succ {L : List Bd} {win : List Int} {k : Nat} (hk : k < win.length) : valueTo L win (k + 1) = valueTo L win k + priceAt L (win[k]?.getD 0) := by
  have e : win.take (k + 1) = win.take k ++ [win[k]] := (List.take_append_getElem hk).symm
  unfold valueTo
  rw [e, List.map_append, List.sum_append, List.getElem?_eq_getElem hk]
  simp
def PricesOk (L : List Bd) : Prop := ∀ b ∈ L, 0 ≤ b.price ∧ b.price ≤ 1099511627776
theorem priceAt_ok {L : List Bd} (h : PricesOk L) (i : Int) : 0 ≤ priceAt L i ∧ priceAt L i ≤ 1099511627776 := by
  unfold priceAt
  split
  · rename_i hi
    have hl : i.toNat < L.length := by omega
    rw [List.getElem?_eq_getElem hl]
    exact h _ (List.getElem_mem hl)
  · omega
theorem valueTo_ok {L : List Bd} (h : PricesOk L) (win : List Int) : ∀ k : Nat, 0 ≤ valueTo L win k ∧ valueTo L win k ≤ 1099511627776 * k := by
  intro k
  induction k with
  | zero => simp [valueTo]
  | succ k ih =>
    by_cases hk : k < win.length
    · rw [valueTo_succ hk]
      have := priceAt_ok h (win[k]?.getD 0)
      omega
    · have : valueTo L win (k + 1) = valueTo L win k := by
        unfold valueTo
        rw [List.take_of_length_le (by omega), List.take_of_length_le (by omega)]
      rw [this]
      omega
set_option maxHeartbeats 1000000 in
theorem value_any (s sw : Sl) (L : List Bd) (win : List Int) (w : World) (HL : Hid (Bds w s L)) (HW : Hid (NIn w w.heap.size sw win)) (HP : Hid (PricesOk L)) (hn : sw.2.1 ≤ 1000000) :
    Calls Try.prog 26 #[slV s, slV sw] w fun e w' => e = .returned (.int .i64 (valueB L win)) ∧ w = w' := by
  obtain ⟨A, m, c⟩ := s
  obtain ⟨Aw, n, cw⟩ := sw
  unfold slV
  dsimp only at hn ⊢
  have hlen := HL.out.rows.len
  have hwl := HW.out.len
  dsimp only at hlen hwl
  have hm1 : m ≤ 9223372036854775807 := Nat.le_trans HL.out.rows.cap HL.out.rows.max
  have HLEN := Lib.hid hlen
  have HWL := Lib.hid hwl
  clear hlen hwl
  go_enter Try.func26, Try.ntmps26
  go_wp2
  go_loop [5, 10] (fun v i => ∃ k : Nat, k ≤ n ∧ i = .int .i64 (k : Int) ∧ v = .int .i64 (valueTo L win k)) (fun _ i => n - (intOf i).toNat)
  case atStart => exact ⟨0, by omega, rfl, rfl⟩
  case round =>
    obtain ⟨k, hk, rfl, rfl⟩ := hrel
    have hv := valueTo_ok HP.out win k
    by_cases hlt : k < n
    · obtain ⟨b2, o2, hA2, -, hc2⟩ := HW.out.cell (k := k) hlt
      dsimp only at hA2
      subst hA2
      have hs := valueTo_succ (L := L) (win := win) (k := k) (by rw [HWL.out]; exact hlt)
      have hp := priceAt_ok HP.out (win[k]?.getD 0)
      obtain ⟨x, hx⟩ : ∃ x, win[k]?.getD 0 = x := ⟨_, rfl⟩
      rw [hx] at hc2 hs hp
      have HS := Lib.hid hs
      clear hs hx
      obtain ⟨sm, hsm⟩ : ∃ sm, valueTo L win k = sm := ⟨_, rfl⟩
      rw [hsm] at hv HS ⊢
      have hmb : (k : Int) ≤ 1000000 := by omega
      clear hsm
      by_cases h1 : 0 ≤ x ∧ x < (m : Int)
      · obtain ⟨h2, h3⟩ := h1
        obtain ⟨j, rfl⟩ : ∃ j : Nat, x = (j : Int) := ⟨x.toNat, by omega⟩
        have hj : j < L.length := by rw [HLEN.out]; omega
        obtain ⟨b, off, hA, -, q0, q1, q2, -⟩ := HL.out.cell hj
        dsimp only at hA
        subst hA
        have hpr : priceAt L (j : Int) = L[j].price := by
          unfold priceAt
          rw [if_pos ⟨by omega, by omega⟩]
          simp [hj]
        rw [hpr] at HS hp
        generalize L[j].price = pr at *
        have hjm : j < m := by omega
        clear hpr q0 q2 hj
        go_wp2
        exact ⟨⟨k + 1, by omega, by go_num, by rw [HS.out]⟩, by simp [intOf]; omega⟩
      · have hpr : priceAt L x = 0 := by
          unfold priceAt
          rw [if_neg (by rw [HLEN.out]; exact h1)]
        rw [hpr] at HS
        clear hpr hp
        by_cases h2 : 0 ≤ x
        · have h3 : ¬ x < (m : Int) := fun h => h1 ⟨h2, h⟩
          clear h1
          go_wp2
          exact ⟨⟨k + 1, by omega, by go_num, by rw [HS.out]; simp⟩, by simp [intOf]; omega⟩
        · have h2' : decide (0 ≤ x) = false := by simpa using h2
          clear h1
          go_wp2
          exact ⟨⟨k + 1, by omega, by go_num, by rw [HS.out]; simp⟩, by simp [intOf]; omega⟩
    · obtain rfl : k = n := by omega
      go_wp2
      go_ret
      refine ⟨?_, rfl⟩
      unfold valueB valueTo
      rw [List.take_of_length_le (by rw [HWL.out]; exact Nat.le_refl _)]
      rfl
/-- Can the bids win together? -/
def feasGo (L : List Bd) : Int → List Bd → List Int → Bool
  | _, _, [] => true
  | last, seen, i :: t => if i ≤ last ∨ (L.length : Int) ≤ i then false else match L[i.toNat]? with
    | none => false
    | some b => if seen.any (confB b) then false else feasGo L i (seen ++ [b]) t
def feasB (L : List Bd) (win : List Int) : Bool := feasGo L (-1) [] win
theorem feasGo_bad {L : List Bd} {last i : Int} {seen : List Bd} {t : List Int} (h : i ≤ last ∨ (L.length : Int) ≤ i) : feasGo L last seen (i :: t) = false := by
  show (if _ then _ else _) = _
  rw [if_pos h]
theorem feasGo_at {L : List Bd} {last : Int} {i : Nat} {seen : List Bd} {t : List Int} (h : last < (i : Int)) (hi : i < L.length) : feasGo L last seen ((i : Int) :: t) = if seen.any (confB L[i]) then false else feasGo L i (seen ++ [L[i]]) t := by
  show (if _ then _ else _) = _
  rw [if_neg (by omega)]
  have e : L[(i : Int).toNat]? = some L[i] := by simp [hi]
  rw [e]
theorem conf_split (b : Bd) (seen : List Bd) : seen.any (confB b) = (decide (b.bidder ∈ seen.map Bd.bidder) || b.lots.any fun x => decide (x ∈ seen.flatMap Bd.lots)) := by
  rw [Bool.eq_iff_iff]
  simp only [List.any_eq_true, Bool.or_eq_true, decide_eq_true_eq, List.mem_map, List.mem_flatMap, confB]
  constructor
  · rintro ⟨y, hy, h | ⟨x, hx, h⟩⟩
    · exact .inl ⟨y, hy, h.symm⟩
    · exact .inr ⟨x, h, y, hy, hx⟩
  · rintro (⟨y, hy, h⟩ | ⟨x, hx, y, hy, h⟩)
    · exact ⟨y, hy, .inl h.symm⟩
    · exact ⟨y, hy, .inr ⟨x, h, hx⟩⟩
/-- What Feasible has seen. -/
structure FeasI (w0 : World) (bm lm : Nat) (seen : List Bd) (w : World) : Prop where
  bs : SetAt w bm (seen.map Bd.bidder)
  ls : SetAt w lm (seen.flatMap Bd.lots)
  ne : bm ≠ lm
  lo : w0.heap.size ≤ bm ∧ w0.heap.size ≤ lm
  below : Below w0.heap.size w0 w
set_option maxRecDepth 100000 in
set_option maxHeartbeats 4000000 in
theorem feasible_any (s sw : Sl) (L : List Bd) (win : List Int) (w : World) (HL : Hid (Bds w s L)) (HW : Hid (NIn w w.heap.size sw win)) (hn : sw.2.1 ≤ 1000000) (HN : Hid (∀ b ∈ L, b.s.2.1 ≤ 1000000)) :
    Calls Try.prog 33 #[slV s, slV sw] w fun e w' => e = .returned (.bool (feasB L win)) ∧ Below w.heap.size w w' := by
  obtain ⟨A, m, c⟩ := s
  obtain ⟨Aw, n, cw⟩ := sw
  unfold slV
  dsimp only at hn ⊢
  have hlen := HL.out.rows.len
  have hwl := HW.out.len
  dsimp only at hlen hwl
  have hm1 : m ≤ 9223372036854775807 := Nat.le_trans HL.out.rows.cap HL.out.rows.max
  have HLEN := Lib.hid hlen
  have HWL := Lib.hid hwl
  have hI : FeasI w w.heap.size (w.heap.size + 1) [] ((w.alloc (.map #[] 0)).alloc (.map #[] 0)) := by
    have h1 := (SetAt.new w).all ((Below.refl _ (w.alloc (.map #[] 0))).alloc (Nat.le_refl _) (.map #[] 0))
    have h2 := SetAt.new (w.alloc (.map #[] 0))
    rw [World.size_alloc] at h2
    exact ⟨h1, h2, by omega, ⟨Nat.le_refl _, by omega⟩, ((Below.refl _ w).alloc (Nat.le_refl _) _).alloc (by simp) _⟩
  have HI0 := Lib.hid hI
  clear hlen hwl hI
  have hmm := @run_makeMap Try.prog
  go_enter Try.func33, Try.ntmps33
  go_wp2
  obtain ⟨lm, hlm⟩ : ∃ lm, w.heap.size + 1 = lm := ⟨_, rfl⟩
  rw [hlm] at HI0 ⊢
  clear hlm
  obtain ⟨bm, hbm⟩ : ∃ bm, w.heap.size = bm := ⟨_, rfl⟩
  have HI0 : Hid (FeasI w bm lm [] ((w.alloc (.map #[] 0)).alloc (.map #[] 0))) := by rw [← hbm]; exact HI0
  rw [hbm]
  clear hmm hbm
  generalize (w.alloc (.map #[] 0)).alloc (.map #[] 0) = w0 at *
  go_loopw [7, 17] (fun v7 i wr => ∃ (k : Nat) (last : Int) (seen : List Bd), k ≤ n ∧ v7 = .int .i64 last ∧ -1 ≤ last ∧ i = .int .i64 (k : Int) ∧ Hid (feasB L win = feasGo L last seen (win.drop k)) ∧ Hid (FeasI w bm lm seen wr)) (fun _ i _ => n - (intOf i).toNat)
  case atStart => exact ⟨0, -1, [], by omega, rfl, by omega, rfl, Lib.hid rfl, HI0⟩
  case round =>
    obtain ⟨k, last, seen, hk, rfl, hl1, rfl, HF, HI⟩ := hrel
    by_cases hlt : k < n
    · obtain ⟨b2, o2, hA2, -, hc2⟩ := (NIn.all HW.out HI.out.below).cell (k := k) hlt
      dsimp only at hA2
      subst hA2
      have hkw : k < win.length := by rw [HWL.out]; exact hlt
      obtain ⟨x, hx⟩ : ∃ x, win[k]?.getD 0 = x := ⟨_, rfl⟩
      rw [hx] at hc2
      have HD : Hid (win.drop k = x :: win.drop (k + 1)) := Lib.hid (by
        rw [List.drop_eq_getElem_cons hkw]
        rw [List.getElem?_eq_getElem hkw] at hx
        simp only [Option.getD_some] at hx
        rw [hx])
      clear hx hkw
      by_cases h1 : x ≤ last
      · have HE : Hid (feasB L win = false) := Lib.hid (by rw [HF.out, HD.out]; exact feasGo_bad (.inl h1))
        go_wp2
        go_ret
        rw [HE.out]
        exact ⟨rfl, HI.out.below⟩
      by_cases h2 : (m : Int) ≤ x
      · have HE : Hid (feasB L win = false) := Lib.hid (by rw [HF.out, HD.out]; exact feasGo_bad (.inr (by rw [HLEN.out]; exact h2)))
        go_wp2
        go_ret
        rw [HE.out]
        exact ⟨rfl, HI.out.below⟩
      obtain ⟨j, rfl⟩ : ∃ j : Nat, x = (j : Int) := ⟨x.toNat, by omega⟩
      have hjm : j < m := by omega
      have hj : j < L.length := by rw [HLEN.out]; exact hjm
      have hlj : last < (j : Int) := by omega
      have HG : Hid (feasB L win = if seen.any (confB L[j]) then false else feasGo L j (seen ++ [L[j]]) (win.drop (k + 1))) := Lib.hid (by rw [HF.out, HD.out]; exact feasGo_at hlj hj)
      obtain ⟨b, off, hA, hbw, c0, c1, c2, hok0⟩ := HL.out.cell hj
      dsimp only at hA
      subst hA
      have hns := HN.out _ (List.getElem_mem hj)
      obtain ⟨bk, hbk⟩ : ∃ bk, L[j] = bk := ⟨_, rfl⟩
      rw [hbk] at c0 c1 c2 hok0 HG hns
      obtain ⟨bi, pr, ⟨sA, sn, sc⟩, lots⟩ := bk
      unfold slV at c2
      dsimp only at c0 c1 c2 hns
      replace hok0 : NIn w w.heap.size (sA, sn, sc) lots := hok0
      have q0 := (HI.out.below.cell (p := ⟨b, off + j * 3, none⟩) hbw).trans c0
      rw [conf_split] at HG
      dsimp only at HG
      have hlk := HI.out.bs.look bi
      have e1 : ¬ (j : Int) ≤ last := h1
      clear hbk HD h2 hj
      rcases hin : decide (bi ∈ seen.map Bd.bidder) with _ | _
      · rw [hin] at hlk
        rw [hin, Bool.false_or] at HG
        obtain ⟨w1, hst, hs1, hg1, hz1⟩ := HI.out.bs.add bi
        have hB1 : Below w.heap.size w w1 := below_of_only HI.out.below hg1 HI.out.below.size HI.out.lo.1
        have hls1 : SetAt w1 lm (seen.flatMap Bd.lots) := HI.out.ls.grown hg1 (fun e => HI.out.ne (Option.some.inj e))
        have p0 := (hB1.cell (p := ⟨b, off + j * 3, none⟩) hbw).trans (c0)
        have p1 := (hB1.cell (p := ⟨b, off + j * 3 + 1, none⟩) hbw).trans (c1)
        have p2 := (hB1.cell (p := ⟨b, off + j * 3 + 2, none⟩) hbw).trans (c2)
        have HOK1 := Lib.hid (NIn.all hok0 hB1)
        have HBS1 := Lib.hid hs1
        have HLS1 := Lib.hid hls1
        have HB1 := Lib.hid hB1
        have hblt : bm < w1.heap.size := hs1.lt
        have hllt : lm < w1.heap.size := hls1.lt
        have HLO := Lib.hid (And.intro HI.out.lo HI.out.ne)
        clear hs1 hg1 hz1 hB1 hls1 hin HI HF hok0
        go_wp2_with fail
        refine (set_any bi pr sA sn sc lots _ (Lib.hid HOK1.out) hns).mono ?_
        rintro e w2 ⟨ob, rfl, hso, hob, hb2⟩
        obtain ⟨es, hmo, hev, hek⟩ := hso
        obtain ⟨w3, hrg, hi3, hb3⟩ := IMap.iter (P := Try.prog) hmo Try.underlying101
        obtain ⟨r, hr⟩ : ∃ r, w2.heap.size = r := ⟨_, rfl⟩
        rw [hr] at hrg hi3
        have hb23 := bt hb2 hb3
        have hz2 := hb2.size
        have HEK := Lib.hid hek
        have HBS3 := Lib.hid (HBS1.out.all hb23)
        have HLS3 := Lib.hid (HLS1.out.all hb23)
        have HB3 := Lib.hid (bt HB1.out hb23)
        have HI3 := Lib.hid hi3
        have hrb : bm < r := by omega
        have hrl : lm < r := by omega
        have hor : ob ≠ lm := by omega
        have hobm : ob ≠ bm := by omega
        have hrW : w.heap.size ≤ r := by have := HB1.out.size; omega
        obtain ⟨S, hS⟩ : ∃ S, seen.flatMap Bd.lots = S := ⟨_, rfl⟩
        rw [hS] at HLS3 HG
        have HSS := Lib.hid hS
        clear hmo hev hek hi3 hb23 hb2 hb3 hr hz2 hS HLS1 HBS1 HOK1 p0 p1 p2
        go_wp2
        go_loopw [11] (fun _ wq => ∃ left, Hid (IIter wq ob r es left) ∧ Hid (∀ x, x ∈ es.map Prod.fst → left x = false → ¬ x ∈ S) ∧ Hid (SetAt wq bm (seen.map Bd.bidder ++ [bi])) ∧ Hid (SetAt wq lm S) ∧ Hid (Below w.heap.size w wq)) (fun _ wq => iterLeft wq ob r)
        case atStart => exact ⟨_, HI3, Lib.hid (fun x _ h => by cases h), HBS3, HLS3, HB3⟩
        case round =>
          obtain ⟨left, HIT, HNO, HBq, HLq, HBW⟩ := hrel
          rcases HIT.out.next (P := Try.prog) with ⟨hno, hnx⟩ | ⟨kk, v, w', hkv, hlk2, hnx, hen, hI', hg', -, hlt2⟩
          · --@1
            have HANY : Hid ((lots.any fun x => decide (x ∈ S)) = false) := Lib.hid (by
              rw [List.any_eq_false]
              intro x hx
              have hxk := (HEK.out x).2 hx
              obtain ⟨p, hp, rfl⟩ := List.mem_map.1 hxk
              simpa using HNO.out _ hxk (hno p hp))
            obtain ⟨w4, hrg4, hi4, hb4⟩ := IMap.iter (P := Try.prog) HIT.out.imap Try.underlying101
            obtain ⟨r2, hr2⟩ : ∃ r2, wr.heap.size = r2 := ⟨_, rfl⟩
            rw [hr2] at hrg4 hi4
            have hr2b : bm < r2 := by have := HBq.out.lt; omega
            have hr2l : lm < r2 := by have := HLq.out.lt; omega
            have hr2W : w.heap.size ≤ r2 := by have := HBW.out.size; omega
            have HBS4 := Lib.hid (HBq.out.all hb4)
            have HLS4 := Lib.hid (HLq.out.all hb4)
            have HB4 := Lib.hid (bt HBW.out hb4)
            have HI4 := Lib.hid hi4
            clear hno hi4 hb4 hr2 HNO HBq HLq HBW HIT
            go_wp2
            go_loopw [12] (fun _ wz => ∃ (left : Int → Bool) (T : List Int), Hid (IIter wz ob r2 es left) ∧ Hid (SetAt wz lm T) ∧ Hid (∀ x, x ∈ T ↔ x ∈ S ∨ (x ∈ es.map Prod.fst ∧ left x = false)) ∧ Hid (SetAt wz bm (seen.map Bd.bidder ++ [bi])) ∧ Hid (Below w.heap.size w wz)) (fun _ wz => iterLeft wz ob r2)
            case atStart => exact ⟨_, S, HI4, HLS4, Lib.hid (fun x => by simp), HBS4, HB4⟩
            case round =>
              obtain ⟨left, T, HIT, HT, HTS, HBq, HBW⟩ := hrel
              rcases HIT.out.next (P := Try.prog) with ⟨hno, hnx⟩ | ⟨kk, v, w', hkv, hlk2, hnx, hen, hI', hg', -, hlt2⟩
              · have HF2 : Hid (feasB L win = feasGo L j (seen ++ [⟨bi, pr, (sA, sn, sc), lots⟩]) (win.drop (k + 1))) := Lib.hid (by rw [HG.out, HANY.out]; rfl)
                have HFI : Hid (FeasI w bm lm (seen ++ [⟨bi, pr, (sA, sn, sc), lots⟩]) wr) := Lib.hid ⟨by rw [List.map_append]; exact HBq.out, HT.out.congr (fun x => by
                  rw [HTS.out x, List.flatMap_append, List.mem_append, HSS.out]
                  refine or_congr Iff.rfl ?_
                  rw [HEK.out x]
                  simp only [List.flatMap_cons, List.flatMap_nil, List.append_nil]
                  refine ⟨fun h => h.1, fun h => ⟨h, ?_⟩⟩
                  obtain ⟨p, hp, rfl⟩ := List.mem_map.1 ((HEK.out x).2 h)
                  exact hno p hp), HLO.out.2, HLO.out.1, HBW.out⟩
                clear hno HT HTS HBq HBW HIT HG HANY
                go_wp2
                exact ⟨⟨k + 1, (j : Int), _, by omega, rfl, by omega, by go_num, HF2, HFI⟩, by simp [intOf]; omega⟩
              · have hTl := HT.out.grown hg' (fun e => by injection e with e; omega)
                obtain ⟨w5, hst5, hs5, hg5, hz5⟩ := hTl.add kk
                have hI5 : IIter w5 ob r2 es (fun y => left y && !(y == kk)) := hI'.keep (hg5.block ob hI'.lt.1 (fun e => hor (Option.some.inj e))) (hg5.block r2 hI'.lt.2 (fun e => by injection e with e; omega))
                have HLT : Hid (iterLeft w5 ob r2 < iterLeft wr ob r2) := Lib.hid (by
                  have e : iterLeft w5 ob r2 = iterLeft w' ob r2 := by
                    unfold iterLeft
                    rw [hg5.block ob hI'.lt.1 (fun e => hor (Option.some.inj e)), hg5.block r2 hI'.lt.2 (fun e => by injection e with e; omega)]
                  rw [e]
                  exact hlt2)
                have HT5 : Hid (∀ x, x ∈ T ++ [kk] ↔ x ∈ S ∨ (x ∈ es.map Prod.fst ∧ (left x && !(x == kk)) = false)) := Lib.hid (fun x => by
                  rw [List.mem_append, HTS.out x, List.mem_singleton]
                  have hkm : kk ∈ es.map Prod.fst := List.mem_map.2 ⟨_, hkv, rfl⟩
                  by_cases hx : x = kk
                  · subst hx
                    simp [hkm]
                  · simp [hx])
                have HS5 := Lib.hid hs5
                have HI5 := Lib.hid hI5
                have HB5 := Lib.hid ((HBq.out.grown hg' (fun e => by injection e with e; omega)).grown hg5 (fun e => HLO.out.2 (Option.some.inj e).symm))
                have HBW5 : Hid (Below w.heap.size w w5) := Lib.hid (below_of_only (below_of_only HBW.out hg' HBW.out.size hr2W) hg5 (Nat.le_trans HBW.out.size hg'.size) HLO.out.1.2)
                clear hs5 hI5 hTl hI' hg' hg5 hz5 hlt2 hkv hlk2 HT HTS HBq HBW HIT
                go_wp2
                exact ⟨⟨_, _, HI5, HS5, HT5, HB5, HBW5⟩, HLT.out⟩
          · --@2
            have hl2 := HLq.out.grown hg' (fun e => by injection e with e; omega)
            have hkm : kk ∈ lots := (HEK.out kk).1 (List.mem_map.2 ⟨_, hkv, rfl⟩)
            have hlk5 := hl2.look kk
            have HBW5 : Hid (Below w.heap.size w w') := Lib.hid (below_of_only HBW.out hg' HBW.out.size hrW)
            rcases hin2 : decide (kk ∈ S) with _ | _
            · rw [hin2] at hlk5
              have HNO5 : Hid (∀ x, x ∈ es.map Prod.fst → (left x && !(x == kk)) = false → ¬ x ∈ S) := Lib.hid (fun x hx hl => by
                by_cases hxk : x = kk
                · subst hxk
                  simpa using hin2
                · exact HNO.out x hx (by simpa [hxk] using hl))
              have HI5 := Lib.hid hI'
              have HL5 := Lib.hid hl2
              have HB5 := Lib.hid (HBq.out.grown hg' (fun e => by injection e with e; omega))
              have HLT := Lib.hid hlt2
              clear hI' hg' hlt2 hkv hlk2 hl2 hin2 hkm HNO HBq HLq HBW HIT
              go_wp2
              exact ⟨⟨_, HI5, HNO5, HB5, HL5, HBW5⟩, HLT.out⟩
            · rw [hin2] at hlk5
              have HE : Hid (feasB L win = false) := Lib.hid (by
                rw [HG.out, if_pos]
                exact List.any_eq_true.2 ⟨kk, hkm, hin2⟩)
              clear hI' hg' hlt2 hkv hlk2 hl2 hin2 hkm HNO HBq HLq HBW HIT HG
              go_wp2
              go_ret
              rw [HE.out]
              exact ⟨rfl, HBW5.out⟩
      · have HE : Hid (feasB L win = false) := Lib.hid (by rw [HG.out, hin]; rfl)
        rw [hin] at hlk
        clear HG hin
        go_wp2
        go_ret
        rw [HE.out]
        exact ⟨rfl, HI.out.below⟩
    · obtain rfl : k = n := by omega
      go_wp2
      go_ret
      refine ⟨?_, HI.out.below⟩
      rw [HF.out, List.drop_eq_nil_of_le (by rw [HWL.out]; exact Nat.le_refl _)]
      rfl
end Go.Proofs.Ytikfcpkobgejmaa
