/- lots.Take of a mixed item. -/
import Derived.Test.YtlcalajehnaenaaGreatDoorHLdSplit
import Derived.Laws.EntriesVeiled
namespace Go.Proofs.YtlcalajehnaenaaGreatDoor
open Go.RowKit
theorem prt_wts (ls : List Lot) : prt (fun i => wAt (ls.map Lot.n) i) ls.length ls.length = ls.map Lot.n := by
 rw [prt_all]
 apply List.ext_getElem?
 intro i
 by_cases hi : i < ls.length
 ·simp [wAt, hi]
 ·rw [List.getElem?_eq_none (by simp; omega), List.getElem?_eq_none (by simp; omega)]
theorem sumI_lots (ls : List Lot) : sumZ (ls.map Lot.n) = totL ls := by
 induction ls with
 | nil => rfl
 | cons l ls ih => simp [sumZ, totL, ih]
theorem TakePost.below {ls : List Lot} {m : Int} {cs : List Int} {w w1 : World} {e : Ending} {w' : World} (hb : Below w.heap.size w w1) (h : TakePost ls m cs w1 e w') : TakePost ls m cs w e w' := by
 rcases h with ⟨h1, h2, h3⟩ | ⟨h1, V1, V2, h2, h3, h4, h5⟩
 ·exact .inl ⟨h1, h2, bt hb h3⟩
 ·exact .inr ⟨h1, V1, V2, h2, ⟨h3.1, own_lower h3.2 hb.size⟩, ⟨h4.1, own_lower h4.2 hb.size⟩, bt hb h5⟩
set_option maxRecDepth 100000 in
set_option maxHeartbeats 4000000 in
theorem takeT_any (A : Option Addr) (n c : Nat) (ls : List Lot) (m : Int) (w : World) (HL : Hid (LotsAt w A n c ls)) (HK : Hid (LotsOk ls)) (hn : n ≤ 4096) (hm1 : 1 ≤ m) (hm2 : m ≤ 1099511627776) (HSM : Hid (totL ls ≤ 1073741824)) :
 Calls Tryz.prog 211 #[.slice A n c, .int .i64 m, .bool true] w (TakePost ls m (splitL m (ls.map Lot.n)) w) := by
 have h1 : ¬ m < 0 := by omega
 have h2 : ¬ 1099511627776 < m := by omega
 have hmp : 0 < m := by omega
 have hlen := HL.out.len
 go_enter Tryz.func211, Tryz.ntmps211
 go_wp2_with fail
 refine (valid_any A n c ls w HL HK hn).mono ?_
 rintro e w1 ⟨rfl, hb1⟩
 have HB1 := Lib.hid hb1
 have HL1 := Lib.hid (HL.out.all hb1)
 clear hb1
 go_wp2_with fail
 refine (ltotal_any A n c ls w1 HL1 HK hn).mono ?_
 rintro e w2 ⟨rfl, hb2⟩
 have HB2 := Lib.hid (bt HB1.out hb2)
 have HL2 := Lib.hid (HL1.out.all hb2)
 clear hb2
 rcases Int.lt_or_le (totL ls) m with hlt | hge
 ·have HP : Hid (TakePost ls m (splitL m (ls.map Lot.n)) w (.returned (.tuple #[.slice none 0 0, .slice none 0 0, .int .i64 10])) w2) := Lib.hid (.inl ⟨hlt, rfl, HB2.out⟩)
  go_wp2
  go_ret3
  exact HP.out
 ·have hnl : ¬ totL ls < m := by omega
  obtain ⟨hc1, hc2⟩ := split_cnt HK.out hm1 hge
  have HC := Lib.hid hc1
  have HGE := Lib.hid hge
  have hmul : m * totL ls < 4611686018427387904 := by
   have h3 := HSM.out
   have h4 : m * totL ls ≤ 1073741824 * totL ls := Int.mul_le_mul_of_nonneg_right (by omega) (by omega)
   omega
  have HM : Hid (m ≤ sumZ (ls.map Lot.n) ∧ m * sumZ (ls.map Lot.n) < 4611686018427387904 ∧ sumZ (ls.map Lot.n) ≤ 1099511627776) := Lib.hid (by rw [sumI_lots]; exact ⟨hge, hmul, by have := HSM.out; omega⟩)
  have hn0 : 1 ≤ n := by
   rcases Nat.eq_zero_or_pos n with h | h
   ·rw [h] at hlen
    have : ls = [] := List.eq_nil_of_length_eq_zero hlen
    subst this
    simp [totL] at hge
    omega
   ·exact h
  clear hc1 hc2 hmul
  obtain ⟨T, hT⟩ : ∃ T, totL ls = T := ⟨_, rfl⟩
  rw [hT] at hge hnl ⊢
  clear hT
  go_wp2_with fail
  refine (firstU_any A n c m w2).mono ?_
  rintro e w3 ⟨rfl, hw3⟩
  have hba := ((Below.refl w2.heap.size w2).alloc (Nat.le_refl _) (.cells #[.slice A n c] 38)).alloc (by simp) (.cells #[.int .i64 m] 3)
  rw [← hw3] at hba
  have HB3 := Lib.hid (bt HB2.out hba)
  have HL3 := Lib.hid (HL2.out.all hba)
  clear hw3 hba
  have hmk1 := mk_ints n (by omega)
  go_wp2
  obtain ⟨gw, hgw⟩ : ∃ gw, w3.heap.size = gw := ⟨_, rfl⟩
  rw [hgw]
  have hst : Blk (w3.alloc (.cells (Array.replicate n (.int .i64 0)) 3)) gw 3 ((prt (fun i => wAt (ls.map Lot.n) i) n 0).map (Value.int .i64)).toArray := by
   have e1 : ((prt (fun i => wAt (ls.map Lot.n) i) n 0).map (Value.int .i64)).toArray = Array.replicate n (.int .i64 0) := by rw [prt_zero]; simp
   rw [e1]
   exact Blk.new0 _ _ _ hgw.symm
  have hb4 := (Below.refl w3.heap.size w3).alloc (Nat.le_refl _) (.cells (Array.replicate n (.int .i64 0)) 3)
  have hge3 := HB3.out.size
  rw [hgw] at hge3
  obtain ⟨w4, hw4⟩ : ∃ w4, w3.alloc (.cells (Array.replicate n (.int .i64 0)) 3) = w4 := ⟨_, rfl⟩
  rw [hw4] at hst hb4 ⊢
  have HS4 := Lib.hid hst
  have HB4 := Lib.hid (bt HB3.out hb4)
  have HB34 : Hid (Below gw w3 w4) := Lib.hid (by rw [hgw] at hb4; exact hb4)
  clear hst hb4 hw4 hmk1
  go_loopg [11, 12, 45] n (fun gk av xv iv wr => ∃ k : Nat, k + gk = n ∧ iv = .int .i64 (k : Int) ∧ Hid (Blk wr gw 3 ((prt (fun i => wAt (ls.map Lot.n) i) n k).map (Value.int .i64)).toArray) ∧ Hid (Below gw w3 wr))
  case atStart => exact ⟨0, by omega, rfl, HS4, HB34⟩
  case round =>
   obtain ⟨k, hi, rfl, HS, HB⟩ := hrel
   have HHI := Lib.hid hi
   rcases Nat.lt_or_ge k n with hlt | hge
   ·have hltI : (k : Int) < (n : Int) := by omega
    have hi0 : (0 : Int) ≤ (k : Int) := by omega
    obtain ⟨b, off, rfl, hb, -, l, hl, k0, k1, k2⟩ := (HL3.out.all (by rw [hgw]; exact HB.out)).at_ hlt
    have hwl : l.n = wAt (ls.map Lot.n) k := by unfold wAt; rw [List.getElem?_map, hl]; rfl
    have lg := HS.out.lt
    have c1 : wr.cell? ⟨gw, k, none⟩ = some (.int .i64 0) := by rw [HS.out.cell]; simp [prt, hlt]
    have f1 := HS.out.frozen k
    have HB5 := Lib.hid ((HB.out.setCell (p := ⟨gw, k, none⟩) (Nat.le_refl _) (.int .i64 l.n)).alloc (by simp only [World.size_setCell]; omega : gw ≤ (wr.setCell ⟨gw, k, none⟩ (.int .i64 l.n)).heap.size) (.cells #[.int .i64 l.flow, .int .i64 l.at_, .int .i64 l.n] 163))
    have HS5 := Lib.hid ((prt_store (f := fun i => wAt (ls.map Lot.n) i) HS.out hlt hwl).alloc (.cells #[.int .i64 l.flow, .int .i64 l.at_, .int .i64 l.n] 163))
    clear hwl hl hi hb
    go_wp2
    go_roundg (n - (k + 1))
    case measure => have := HHI.out; omega
    case rel => exact ⟨k + 1, by have := HHI.out; omega, by go_num, HS5, HB5⟩
   ·obtain rfl : n = k := by omega
    have hb5 : Hid (Below w.heap.size w wr) := Lib.hid (HB3.out.trans (HB.out.mono hge3))
    have HW : Hid (PartsAt wr (some ⟨gw, 0, none⟩, n, n) (ls.map Lot.n)) := Lib.hid ⟨by rw [List.length_map]; exact hlen, fun _ => ⟨gw, 0, _, _, rfl, HS.out, fun j hj => by
     rw [Nat.zero_add]
     have := prt_wts ls
     rw [hlen] at this
     rw [this]
     simp⟩⟩
    have HP : Hid (∀ x ∈ ls.map Lot.n, 1 ≤ x ∧ x ≤ 1099511627776) := Lib.hid (fun x hx => by
     obtain ⟨l, hl, rfl⟩ := List.mem_map.1 hx
     have := HK.out l hl
     unfold Lot.ok MaxU at this
     omega)
    go_wp2_with fail
    refine (split_any _ n n (ls.map Lot.n) m wr HW HP hn0 hn hm1 HM).mono ?_
    rintro e w6 ⟨bP, rfl, hpa, hb6⟩
    have HB6 := Lib.hid (bt hb5.out hb6)
    have HL6 := Lib.hid ((HL3.out.all (by rw [hgw]; exact HB.out)).all hb6)
    have HPA := Lib.hid hpa
    clear hpa hb6
    go_wp2_with fail
    have hb7 := (Below.refl w6.heap.size w6).alloc (Nat.le_refl _) (.cells #[slV (some ⟨bP, 0, none⟩, n, n)] 22)
    have hJ : Hid (Blk (w6.alloc (.cells #[slV (some ⟨bP, 0, none⟩, n, n)] 22)) w6.heap.size 22 #[slV (some ⟨bP, 0, none⟩, n, n)] ∧ PartsAt (w6.alloc (.cells #[slV (some ⟨bP, 0, none⟩, n, n)] 22)) (some ⟨bP, 0, none⟩, n, n) (splitL m (ls.map Lot.n))) := Lib.hid ⟨Blk.new _ _ _, HPA.out.all hb7⟩
    refine (divideT_any w6.heap.size A n c ls (splitL m (ls.map Lot.n)) (some ⟨bP, 0, none⟩, n, n) _ (Lib.hid (HL6.out.all hb7)) HK HC hn (by rw [World.size_alloc]; omega) hJ).mono ?_
    rintro e w8 ⟨⟨A5, n5, c5⟩, ⟨A6, n6, c6⟩, rfl, ho1, ho2, hm8⟩
    have hb8 := bt HB6.out hb7
    have HF : Hid (TakePost ls m (splitL m (ls.map Lot.n)) w (.returned (.tuple #[.slice A5 n5 c5, .slice A6 n6 c6, .int .i64 0])) w8) := Lib.hid (.inr ⟨HGE.out, (A5, n5, c5), (A6, n6, c6), rfl, ⟨ho1.1, own_lower ho1.2 hb8.size⟩, ⟨ho2.1, own_lower ho2.2 hb8.size⟩, Mod.below hb8 hm8 hb8.size (fun b hb => hb.elim)⟩)
    unfold slV
    dsimp only
    clear ho1 ho2 hm8 hb7 hb8
    go_wp2
    go_ret3
    exact HF.out
def cntM (mx : Bool) (ls : List Lot) (m : Int) : List Int := if mx then splitL m (ls.map Lot.n) else cntLt ls m
theorem cntM_ok (mx : Bool) (ls : List Lot) (m : Int) (hok : LotsOk ls) (h0 : 1 ≤ m) (hn : m ≤ totL ls) : CntOk ls (cntM mx ls m) ∧ sumZ (cntM mx ls m) = m := by
 cases mx
 ·exact cntL_ok ls m hok (by omega) hn
 ·exact split_cnt hok h0 hn
theorem take_any (mx : Bool) (A : Option Addr) (n c : Nat) (ls : List Lot) (m : Int) (w : World) (HL : Hid (LotsAt w A n c ls)) (HK : Hid (LotsOk ls)) (hn : n ≤ 4096) (hm1 : 1 ≤ m) (hm2 : m ≤ 1099511627776) (HSM : Hid (mx = true → totL ls ≤ 1073741824)) :
 Calls Tryz.prog 211 #[.slice A n c, .int .i64 m, .bool mx] w (TakePost ls m (cntM mx ls m) w) := by
 cases mx
 ·exact takeF_any A n c ls m w HL HK hn hm1 hm2
 ·exact takeT_any A n c ls m w HL HK hn hm1 hm2 (Lib.hid (HSM.out rfl))
end Go.Proofs.YtlcalajehnaenaaGreatDoor
namespace Go.Proofs.YtlcalajehnaenaaGreatDoor
open Go.RowKit
structure Mv where
 frm : Int
 dst : Int
 item : Int
 n : Int
def mvV (m : Mv) : List Value := [.int .i64 m.frm, .int .i64 m.dst, .int .i64 m.item, .int .i64 m.n, .slice none 0 0]
theorem mvV_len (m : Mv) : (mvV m).length = 5 := rfl
def mvA (m : Mv) : Value := .agg #[.int .i64 m.frm, .int .i64 m.dst, .int .i64 m.item, .int .i64 m.n, .slice none 0 0]
def MvAt (w : World) (A : Option Addr) (n c : Nat) (ms : List Mv) : Prop := ms.length = n ∧ n ≤ c ∧ c ≤ 9223372036854775807 ∧ RowT w 40 A (ms.flatMap mvV)
section
variable {w w' : World} {A : Option Addr} {n c : Nat} {ms : List Mv} {F : Nat → Prop}
theorem MvAt.mod (h : MvAt w A n c ms) (m : Mod F w w') (hF : ∀ b, F b → ¬ Ty w b 40) : MvAt w' A n c ms := ⟨h.1, h.2.1, h.2.2.1, h.2.2.2.mod m hF⟩
theorem MvAt.all (h : MvAt w A n c ms) (hb : Below w.heap.size w w') : MvAt w' A n c ms := h.mod (F := fun _ => False) (Mod.of_below _ hb) (fun _ hf => hf.elim)
theorem MvAt.at_ (h : MvAt w A n c ms) {k : Nat} (hk : k < n) : ∃ b off, A = some ⟨b, off, none⟩ ∧ b < w.heap.size ∧ ∃ m, ms[k]? = some m ∧ w.cell? ⟨b, off + k * 5, none⟩ = some (.int .i64 m.frm) ∧ w.cell? ⟨b, off + k * 5 + 1, none⟩ = some (.int .i64 m.dst) ∧ w.cell? ⟨b, off + k * 5 + 2, none⟩ = some (.int .i64 m.item) ∧ w.cell? ⟨b, off + k * 5 + 3, none⟩ = some (.int .i64 m.n) ∧ w.cell? ⟨b, off + k * 5 + 4, none⟩ = some (.slice none 0 0) := by
 have hk' : k < ms.length := by rw [h.1]; exact hk
 obtain ⟨b, off, e, hb, -, hc⟩ := RowT.at_ mvV 5 mvV_len h.2.2.2 (by decide) hk'
 have g : ∀ i, i < 5 → w.cell? ⟨b, off + k * 5 + i, none⟩ = (mvV ms[k])[i]? := fun i hi => by have := hc i hi; rw [← Nat.add_assoc] at this; exact this
 exact ⟨b, off, e, hb, ms[k], List.getElem?_eq_getElem hk', hc 0 (by decide), g 1 (by decide), g 2 (by decide), g 3 (by decide), g 4 (by decide)⟩
end
theorem isAcc_any (x : Int) (w : World) (h : 0 ≤ x ∧ x ≤ 1073741824) : Calls Tryz.prog 150 #[.int .i64 x] w fun e w' => e = .returned (.bool true) ∧ w' = w := by
 obtain ⟨h0, h1⟩ := h
 go_enter Tryz.func150, Tryz.ntmps150
 go_wp2
 all_goals (go_ret; simp_all)
theorem isWorld_any (x : Int) (w : World) : Calls Tryz.prog 179 #[.int .i64 x] w fun e w' => e = .returned (.bool (x == 0)) ∧ w' = w := by
 go_enter Tryz.func179, Tryz.ntmps179
 go_wp2
 go_ret
 exact ⟨rfl, rfl⟩
theorem isOwner_any (x : Int) (w : World) : Calls Tryz.prog 180 #[.int .i64 x] w fun e w' => e = .returned (.bool (x != 0)) ∧ w' = w := by
 go_enter Tryz.func180, Tryz.ntmps180
 go_wp2
 go_ret
 exact ⟨rfl, rfl⟩
theorem cloneL_nil (w : World) : Calls Tryz.prog 188 #[.slice none 0 0] w fun e w' => e = .returned (.slice none 0 0) ∧ w' = w := by
 have hq := Lib.run_eql_slice_nil (P := Tryz.prog) w 38 163 none 0 0 0 0 Tryz.underlying38
 go_enter Tryz.func188, Tryz.ntmps188
 go_wp2
 go_ret
 exact ⟨rfl, rfl⟩
set_option maxRecDepth 100000 in
theorem copyMv_any (m : Mv) (w : World) : Calls Tryz.prog 154 #[mvA m] w fun e w' => e = .returned (mvA m) ∧ Below w.heap.size w w' := by
 unfold mvA
 go_enter Tryz.func154, Tryz.ntmps154
 go_wp2_with (go_at_call 188; refine (cloneL_nil _).mono ?_; rintro e w' ⟨rfl, hw⟩; rw [hw])
 refine bodyPost_ret (v := .agg #[.int .i64 m.frm, .int .i64 m.dst, .int .i64 m.item, .int .i64 m.n, .slice none 0 0]) (by simp [results, Tryz.results154, go_sem]) rfl ⟨rfl, ((Below.refl _ _).alloc (Nat.le_refl _) _).alloc (by simp) _⟩
theorem isPlain_any (l : Value) (id kind actor tick : Int) (v : Value) (w : World) : Calls Tryz.prog 181 #[l, .agg #[.int .i64 id, .int .i64 kind, .int .i64 actor, .int .i64 tick, .int .i64 (-1), .int .i64 0, v]] w fun e w' => e = .returned (.bool true) ∧ Below w.heap.size w w' := by
 go_enter Tryz.func181, Tryz.ntmps181
 go_wp2
 go_ret
 exact ⟨rfl, (Below.refl _ _).alloc (Nat.le_refl _) _⟩
end Go.Proofs.YtlcalajehnaenaaGreatDoor
namespace Go.Proofs.YtlcalajehnaenaaGreatDoor
open Go.RowKit
def mv0 : Mv := ⟨0, 0, 0, 0⟩
theorem made5 (n : Nat) : (madeCells #[.int .i64 0, .int .i64 0, .int .i64 0, .int .i64 0, .slice none 0 0] (n * 5)) = ((List.replicate n mv0).flatMap mvV).toArray := by
 apply Array.ext'
 apply List.ext_getElem?
 intro j
 by_cases hj : j < n * 5
 ·have h1 : (j / 5) < n := by omega
  have h := flatT_at mvV 5 mvV_len (List.replicate n mv0) (j / 5) (j % 5) (by simpa using h1) (by omega)
  have e : j / 5 * 5 + j % 5 = j := by omega
  rw [e] at h
  rw [show (((List.replicate n mv0).flatMap mvV).toArray).toList = (List.replicate n mv0).flatMap mvV from rfl, h]
  unfold madeCells
  have h5 : j % 5 < 5 := by omega
  rcases hh : j % 5 with _ | _ | _ | _ | _ | k
  all_goals first | (simp [mvV, mv0, hj, hh]; done) | omega
 ·rw [List.getElem?_eq_none (by simp [madeCells]; omega), List.getElem?_eq_none (by
   show ((List.replicate n mv0).flatMap mvV).length ≤ j
   rw [flatT_length mvV 5 mvV_len]; simp; omega)]
theorem mk_moves (n : Nat) (hn : n ≤ 1000000) (w : World) : (Instr.makeSlice 41 (.int .i64 (n : Int)) (.int .i64 (n : Int))).run Tryz.prog w = .ok (.slice (some ⟨w.heap.size, 0, none⟩) n n) (w.alloc (.cells ((List.replicate n mv0).flatMap mvV).toArray 40)) := by
 have hI : (Tryz.prog.info? 40).map (fun i => (i.zero, i.size, i.bytes)) = some (some (.agg #[.int .i64 0, .int .i64 0, .int .i64 0, .int .i64 0, .slice none 0 0]), 5, 56) := by kernel_rfl
 obtain ⟨i0, hi, hz0, hz1, hz2⟩ : ∃ i, Tryz.prog.info? 40 = some i ∧ i.zero = some (.agg #[.int .i64 0, .int .i64 0, .int .i64 0, .int .i64 0, .slice none 0 0]) ∧ i.size = 5 ∧ i.bytes = 56 := by
  obtain ⟨i, hi, hz⟩ := Option.map_eq_some_iff.1 hI
  simp only [Prod.mk.injEq] at hz
  exact ⟨i, hi, hz.1, hz.2.1, hz.2.2⟩
 have h := run_make (P := Tryz.prog) w 41 40 i0 _ Tryz.underlying41 hi hz0 .i64 .i64 (n : Int) (n : Int) (by omega) (Int.le_refl _) (by rw [hz2]; omega) (by omega)
 have e1 : (n : Int).toNat = n := by omega
 have hcl : (Value.agg #[.int .i64 0, .int .i64 0, .int .i64 0, .int .i64 0, .slice none 0 0]).cells = #[.int .i64 0, .int .i64 0, .int .i64 0, .int .i64 0, .slice none 0 0] := by simp [Value.cells]
 rw [e1, hz1, hcl, made5] at h
 exact h
def mvP (ms : List Mv) (n k : Nat) : List Mv := ms.take k ++ List.replicate (n - k) mv0
theorem mvP_at {ms : List Mv} {n k : Nat} (hl : ms.length = n) (hk : k < n) : (mvP ms n k)[k]? = some mv0 ∧ k < (mvP ms n k).length := by
 have h1 : (ms.take k).length = k := by rw [List.length_take]; omega
 refine ⟨?_, by simp [mvP]; omega⟩
 unfold mvP
 rw [List.getElem?_append_right (by omega), h1, Nat.sub_self, List.getElem?_replicate, if_pos (by omega)]
theorem mvP_set {ms : List Mv} {n k : Nat} {m : Mv} (hl : ms.length = n) (hk : k < n) (hm : ms[k]? = some m) : (mvP ms n k).set k m = mvP ms n (k + 1) := by
 have h1 : (ms.take k).length = k := by rw [List.length_take]; omega
 obtain ⟨hk2, e⟩ := List.getElem?_eq_some_iff.1 hm
 unfold mvP
 rw [List.set_append_right _ _ (by omega), h1, Nat.sub_self, ← List.take_append_getElem hk2, e, List.append_assoc]
 congr 1
 obtain ⟨r, hr⟩ : ∃ r, n - k = r + 1 := ⟨n - k - 1, by omega⟩
 have h2 : n - (k + 1) = r := by omega
 rw [hr, h2, List.replicate_succ]
 rfl
theorem mv_list {L : List Mv} {k : Nat} (m : Mv) (hb : k < L.length) (hkk : L[k] = mv0) : (((((L.flatMap mvV).set (k * 5) (.int .i64 m.frm)).set (k * 5 + 1) (.int .i64 m.dst)).set (k * 5 + 2) (.int .i64 m.item)).set (k * 5 + 3) (.int .i64 m.n)).set (k * 5 + 4) (.slice none 0 0) = (L.set k m).flatMap mvV := by
 have f0 : (L.flatMap mvV).set (k * 5) (.int .i64 m.frm) = (L.set k ⟨m.frm, 0, 0, 0⟩).flatMap mvV := flatT_set mvV 5 mvV_len (⟨m.frm, 0, 0, 0⟩ : Mv) 0 (by decide) (.int .i64 m.frm) L k hb (by rw [hkk]; rfl)
 have f1 : ((L.set k ⟨m.frm, 0, 0, 0⟩).flatMap mvV).set (k * 5 + 1) (.int .i64 m.dst) = (L.set k ⟨m.frm, m.dst, 0, 0⟩).flatMap mvV := by
  have := flatT_set mvV 5 mvV_len (⟨m.frm, m.dst, 0, 0⟩ : Mv) 1 (by decide) (.int .i64 m.dst) (L.set k ⟨m.frm, 0, 0, 0⟩) k (by rw [List.length_set]; exact hb) (by rw [List.getElem_set_self]; rfl)
  rw [List.set_set] at this
  exact this
 have f2 : ((L.set k ⟨m.frm, m.dst, 0, 0⟩).flatMap mvV).set (k * 5 + 2) (.int .i64 m.item) = (L.set k ⟨m.frm, m.dst, m.item, 0⟩).flatMap mvV := by
  have := flatT_set mvV 5 mvV_len (⟨m.frm, m.dst, m.item, 0⟩ : Mv) 2 (by decide) (.int .i64 m.item) (L.set k ⟨m.frm, m.dst, 0, 0⟩) k (by rw [List.length_set]; exact hb) (by rw [List.getElem_set_self]; rfl)
  rw [List.set_set] at this
  exact this
 have f3 : ((L.set k ⟨m.frm, m.dst, m.item, 0⟩).flatMap mvV).set (k * 5 + 3) (.int .i64 m.n) = (L.set k m).flatMap mvV := by
  have := flatT_set mvV 5 mvV_len m 3 (by decide) (.int .i64 m.n) (L.set k ⟨m.frm, m.dst, m.item, 0⟩) k (by rw [List.length_set]; exact hb) (by rw [List.getElem_set_self]; rfl)
  rw [List.set_set] at this
  exact this
 have f4 : ((L.set k m).flatMap mvV).set (k * 5 + 4) (.slice none 0 0) = (L.set k m).flatMap mvV := by
  have := flatT_set mvV 5 mvV_len m 4 (by decide) (.slice none 0 0) (L.set k m) k (by rw [List.length_set]; exact hb) (by rw [List.getElem_set_self]; rfl)
  rw [List.set_set] at this
  exact this
 rw [f0, f1, f2, f3, f4]
theorem mv_store {y : World} {g k n : Nat} {ms : List Mv} {m : Mv} (h : Blk y g 40 ((mvP ms n k).flatMap mvV).toArray) (hl : ms.length = n) (hk : k < n) (hm : ms[k]? = some m) :
 Blk (((((y.setCell ⟨g, k * 5, none⟩ (.int .i64 m.frm)).setCell ⟨g, k * 5 + 1, none⟩ (.int .i64 m.dst)).setCell ⟨g, k * 5 + 2, none⟩ (.int .i64 m.item)).setCell ⟨g, k * 5 + 3, none⟩ (.int .i64 m.n)).setCell ⟨g, k * 5 + 4, none⟩ (.slice none 0 0)) g 40 ((mvP ms n (k + 1)).flatMap mvV).toArray := by
 obtain ⟨ha, hb⟩ := mvP_at hl hk
 have hkk : (mvP ms n k)[k] = mv0 := by rw [List.getElem?_eq_getElem hb] at ha; exact Option.some.inj ha
 have e := mv_list m hb hkk
 rw [mvP_set hl hk hm] at e
 rw [← e]
 obtain ⟨cs, hcs⟩ : ∃ cs, (mvP ms n k).flatMap mvV = cs := ⟨_, rfl⟩
 rw [hcs] at h ⊢
 have h1 := h.set_ (k * 5) (.int .i64 m.frm)
 rw [List.setIfInBounds_toArray] at h1
 have h2 := h1.set_ (k * 5 + 1) (.int .i64 m.dst)
 rw [List.setIfInBounds_toArray] at h2
 have h3 := h2.set_ (k * 5 + 2) (.int .i64 m.item)
 rw [List.setIfInBounds_toArray] at h3
 have h4 := h3.set_ (k * 5 + 3) (.int .i64 m.n)
 rw [List.setIfInBounds_toArray] at h4
 have h5 := h4.set_ (k * 5 + 4) (.slice none 0 0)
 rw [List.setIfInBounds_toArray] at h5
 exact h5
set_option maxRecDepth 100000 in
set_option maxHeartbeats 2000000 in
theorem each_any (A : Option Addr) (n c : Nat) (ms : List Mv) (w : World) (HM : Hid (MvAt w A n c ms)) (hn0 : 1 ≤ n) (hn : n ≤ 1000) :
 Calls Tryz.prog 153 #[.slice A n c, .func (.func 154) #[] #[]] w fun e w' => ∃ g, e = .returned (.slice (some ⟨g, 0, none⟩) n n) ∧ w.heap.size ≤ g ∧ Blk w' g 40 (ms.flatMap mvV).toArray ∧ Below w.heap.size w w' := by
 have hmk := mk_moves n (by omega)
 have hlen : ms.length = n := HM.out.1
 have hnz : ¬ (n : Int) = 0 := by omega
 go_enter Tryz.func153, Tryz.ntmps153
 go_wp2
 obtain ⟨g, hg⟩ : ∃ g, w.heap.size = g := ⟨_, rfl⟩
 rw [hg]
 have hst : Blk (w.alloc (.cells ((List.replicate n mv0).flatMap mvV).toArray 40)) g 40 ((mvP ms n 0).flatMap mvV).toArray := by
  have e1 : mvP ms n 0 = List.replicate n mv0 := by simp [mvP]
  rw [e1]
  exact Blk.new0 _ _ _ hg.symm
 have hb4 := (Below.refl w.heap.size w).alloc (Nat.le_refl _) (.cells ((List.replicate n mv0).flatMap mvV).toArray 40)
 rw [hg] at hb4
 obtain ⟨w4, hw4⟩ : ∃ w4, w.alloc (.cells ((List.replicate n mv0).flatMap mvV).toArray 40) = w4 := ⟨_, rfl⟩
 rw [hw4] at hst hb4 ⊢
 have hnb : ((n : Int) == 0) = false := by simp; omega
 rw [hnb]
 have HS4 := Lib.hid hst
 have HB4 := Lib.hid hb4
 clear hst hb4 hw4 hmk
 go_loopg [6, 7, 16] n (fun gk av xv iv wr => ∃ k : Nat, k + gk = n ∧ iv = .int .i64 (k : Int) ∧ Hid (Blk wr g 40 ((mvP ms n k).flatMap mvV).toArray) ∧ Hid (Below g w wr))
 case atStart => exact ⟨0, by omega, rfl, HS4, HB4⟩
 case round =>
  obtain ⟨k, hi, rfl, HS, HB⟩ := hrel
  have HHI := Lib.hid hi
  rcases Nat.lt_or_ge k n with hlt | hge
  ·have hltI : (k : Int) < (n : Int) := by omega
   have hi0 : (0 : Int) ≤ (k : Int) := by omega
   obtain ⟨b, off, rfl, hb, m, hm, k0, k1, k2, k3, k4⟩ := (HM.out.all (by rw [hg]; exact HB.out)).at_ hlt
   have hbl := HB.out
   have hsz : g < wr.heap.size := HS.out.lt
   have hba : Below g w (wr.alloc (.cells #[.int .i64 m.frm, .int .i64 m.dst, .int .i64 m.item, .int .i64 m.n, .slice none 0 0] 40)) := HB.out.alloc (by omega) _
   have HBA := Lib.hid hba
   have HSA := Lib.hid (HS.out.alloc (.cells #[.int .i64 m.frm, .int .i64 m.dst, .int .i64 m.item, .int .i64 m.n, .slice none 0 0] 40))
   have hgt := (List.getElem?_eq_some_iff.1 hm).1
   clear hi hb hba hbl
   go_wp2_with fail
   refine (copyMv_any m _).mono ?_
   rintro e w5 ⟨rfl, hb5⟩
   unfold mvA
   have hbl5 := HSA.out.all hb5
   obtain ⟨ha, hbn⟩ := mvP_at hlen hlt
   have hcell : ∀ i, i < 5 → w5.cell? ⟨g, k * 5 + i, none⟩ = (mvV mv0)[i]? := fun i hi => by
    have := flatT_at mvV 5 mvV_len (mvP ms n k) k i hbn hi
    rw [hbl5.cell]
    simp only [List.getElem?_toArray]
    rw [this]
    have : (mvP ms n k)[k] = mv0 := by rw [List.getElem?_eq_getElem hbn] at ha; exact Option.some.inj ha
    rw [this]
   have q0 : w5.cell? ⟨g, k * 5, none⟩ = some (.int .i64 0) := hcell 0 (by decide)
   have q1 : w5.cell? ⟨g, k * 5 + 1, none⟩ = some (.int .i64 0) := hcell 1 (by decide)
   have q2 : w5.cell? ⟨g, k * 5 + 2, none⟩ = some (.int .i64 0) := hcell 2 (by decide)
   have q3 : w5.cell? ⟨g, k * 5 + 3, none⟩ = some (.int .i64 0) := hcell 3 (by decide)
   have q4 : w5.cell? ⟨g, k * 5 + 4, none⟩ = some (.slice none 0 0) := hcell 4 (by decide)
   have r0 := hbl5.frozen (k * 5)
   have r1 := hbl5.frozen (k * 5 + 1)
   have r2 := hbl5.frozen (k * 5 + 2)
   have r3 := hbl5.frozen (k * 5 + 3)
   have r4 := hbl5.frozen (k * 5 + 4)
   have lg := hbl5.lt
   have HSN := Lib.hid (mv_store hbl5 hlen hlt hm)
   have hb6 : Below g w w5 := HBA.out.trans (hb5.mono (by rw [World.size_alloc]; omega))
   have HBN := Lib.hid (((((hb6.setCell (p := ⟨g, k * 5, none⟩) (Nat.le_refl _) (.int .i64 m.frm)).setCell (p := ⟨g, k * 5 + 1, none⟩) (Nat.le_refl _) (.int .i64 m.dst)).setCell (p := ⟨g, k * 5 + 2, none⟩) (Nat.le_refl _) (.int .i64 m.item)).setCell (p := ⟨g, k * 5 + 3, none⟩) (Nat.le_refl _) (.int .i64 m.n)).setCell (p := ⟨g, k * 5 + 4, none⟩) (Nat.le_refl _) (.slice none 0 0))
   clear hcell hbl5 ha hbn hb5 hb6 hm
   go_wp2
   go_roundg (n - (k + 1))
   case measure => have := HHI.out; omega
   case rel => exact ⟨k + 1, by have := HHI.out; omega, by go_num, HSN, HBN⟩
  ·obtain rfl : n = k := by omega
   have e1 : mvP ms n n = ms := by simp [mvP, ← hlen]
   rw [e1] at HS
   go_wp2
   go_ret
   exact ⟨g, rfl, by omega, HS.out, by rw [hg]; exact HB.out⟩
set_option maxRecDepth 100000 in
theorem form0_any (w : World) : Calls Tryz.prog 149 #[.int .i64 0] w fun e w' => e = .returned (.tuple #[.agg #[.func (.func 179) #[] #[], .func (.func 180) #[] #[], .bool false, .func (.func 181) #[] #[]], .bool true]) ∧ Below w.heap.size w w' := by
 go_enter Tryz.func149, Tryz.ntmps149
 go_wp2
 refine bodyPost_ret (v := .tuple #[.agg #[.func (.func 179) #[] #[], .func (.func 180) #[] #[], .bool false, .func (.func 181) #[] #[]], .bool true]) (by simp [results, Tryz.results149, go_sem]) rfl ⟨rfl, (Below.refl _ _).alloc (Nat.le_refl _) _⟩
set_option maxRecDepth 100000 in
theorem form2_any (w : World) : Calls Tryz.prog 149 #[.int .i64 2] w fun e w' => e = .returned (.tuple #[.agg #[.func (.func 180) #[] #[], .func (.func 180) #[] #[], .bool false, .func (.func 181) #[] #[]], .bool true]) ∧ Below w.heap.size w w' := by
 go_enter Tryz.func149, Tryz.ntmps149
 go_wp2
 refine bodyPost_ret (v := .tuple #[.agg #[.func (.func 180) #[] #[], .func (.func 180) #[] #[], .bool false, .func (.func 181) #[] #[]], .bool true]) (by simp [results, Tryz.results149, go_sem]) rfl ⟨rfl, (Below.refl _ _).alloc (Nat.le_refl _) _⟩
end Go.Proofs.YtlcalajehnaenaaGreatDoor
namespace Go.Proofs.YtlcalajehnaenaaGreatDoor
open Go.RowKit
def stA (id kind actor tick rule times : Int) (v : Value) : Value := .agg #[.int .i64 id, .int .i64 kind, .int .i64 actor, .int .i64 tick, .int .i64 rule, .int .i64 times, v]
set_option maxRecDepth 100000 in
set_option maxHeartbeats 4000000 in
theorem copySt_any (id kind actor tick rule times : Int) (A : Option Addr) (n c : Nat) (ms : List Mv) (w : World) (HM : Hid (MvAt w A n c ms)) (hn0 : 1 ≤ n) (hn : n ≤ 1000) :
 Calls Tryz.prog 76 #[stA id kind actor tick rule times (.slice A n c)] w fun e w' => ∃ g, e = .returned (stA id kind actor tick rule times (.slice (some ⟨g, 0, none⟩) n n)) ∧ w.heap.size ≤ g ∧ Blk w' g 40 (ms.flatMap mvV).toArray ∧ Below w.heap.size w w' := by
 unfold stA
 go_enter Tryz.func76, Tryz.ntmps76
 go_wp2_with fail
 have hba := ((Below.refl w.heap.size w).alloc (Nat.le_refl _) (.cells #[.int .i64 id, .int .i64 kind, .int .i64 actor, .int .i64 tick, .int .i64 rule, .int .i64 times, .slice A n c] 43)).alloc (by simp) (.cells #[.int .i64 0, .int .i64 0, .int .i64 0, .int .i64 0, .int .i64 0, .int .i64 0, .slice none 0 0] 43)
 have k1 := Blk.alloc (Blk.new w 43 #[.int .i64 id, .int .i64 kind, .int .i64 actor, .int .i64 tick, .int .i64 rule, .int .i64 times, .slice A n c]) (.cells #[.int .i64 0, .int .i64 0, .int .i64 0, .int .i64 0, .int .i64 0, .int .i64 0, .slice none 0 0] 43)
 have k2 := Blk.new0 (g := w.heap.size + 1) (w.alloc (.cells #[.int .i64 id, .int .i64 kind, .int .i64 actor, .int .i64 tick, .int .i64 rule, .int .i64 times, .slice A n c] 43)) 43 #[.int .i64 0, .int .i64 0, .int .i64 0, .int .i64 0, .int .i64 0, .int .i64 0, .slice none 0 0] (by simp)
 obtain ⟨w2, hw2⟩ : ∃ w2, (w.alloc (.cells #[.int .i64 id, .int .i64 kind, .int .i64 actor, .int .i64 tick, .int .i64 rule, .int .i64 times, .slice A n c] 43)).alloc (.cells #[.int .i64 0, .int .i64 0, .int .i64 0, .int .i64 0, .int .i64 0, .int .i64 0, .slice none 0 0] 43) = w2 := ⟨_, rfl⟩
 rw [hw2] at hba k1 k2 ⊢
 have hsz : w.heap.size ≤ w2.heap.size := hba.size
 refine (each_any A n c ms w2 (Lib.hid (HM.out.all hba)) hn0 hn).mono ?_
 rintro e w3 ⟨g, rfl, hg, hbk, hb3⟩
 have j1 := k1.all hb3
 have j2 := k2.all hb3
 have l1 := j1.lt
 have l2 := j2.lt
 have ll1 := k1.lt
 have ll2 := k2.lt
 obtain ⟨b, hb⟩ : ∃ b, w.heap.size = b := ⟨_, rfl⟩
 rw [hb] at j1 j2 l1 l2 hsz ll1 ll2 ⊢
 have q6 : w3.cell? ⟨b, 6, none⟩ = some (.slice A n c) := j1.cell 6
 have q0 : w3.cell? ⟨b, 0, none⟩ = some (.int .i64 id) := j1.cell 0
 have q1 : w3.cell? ⟨b, 1, none⟩ = some (.int .i64 kind) := j1.cell 1
 have q2 : w3.cell? ⟨b, 2, none⟩ = some (.int .i64 actor) := j1.cell 2
 have q3 : w3.cell? ⟨b, 3, none⟩ = some (.int .i64 tick) := j1.cell 3
 have q4 : w3.cell? ⟨b, 4, none⟩ = some (.int .i64 rule) := j1.cell 4
 have q5 : w3.cell? ⟨b, 5, none⟩ = some (.int .i64 times) := j1.cell 5
 have r6 := j1.frozen 6
 have p0 : w3.cell? ⟨b + 1, 0, none⟩ = some (.int .i64 0) := j2.cell 0
 have p1 : w3.cell? ⟨b + 1, 1, none⟩ = some (.int .i64 0) := j2.cell 1
 have p2 : w3.cell? ⟨b + 1, 2, none⟩ = some (.int .i64 0) := j2.cell 2
 have p3 : w3.cell? ⟨b + 1, 3, none⟩ = some (.int .i64 0) := j2.cell 3
 have p4 : w3.cell? ⟨b + 1, 4, none⟩ = some (.int .i64 0) := j2.cell 4
 have p5 : w3.cell? ⟨b + 1, 5, none⟩ = some (.int .i64 0) := j2.cell 5
 have p6 : w3.cell? ⟨b + 1, 6, none⟩ = some (.slice none 0 0) := j2.cell 6
 have f0 := j2.frozen 0
 have f1 := j2.frozen 1
 have f2 := j2.frozen 2
 have f3 := j2.frozen 3
 have f4 := j2.frozen 4
 have f5 := j2.frozen 5
 have f6 := j2.frozen 6
 have HBK := Lib.hid hbk
 have HB3 : Hid (Below b w w3) := Lib.hid (by rw [← hb]; exact bt hba hb3)
 have hgb : g ≠ b ∧ g ≠ b + 1 := by omega
 have HG := Lib.hid (show b ≤ g by omega)
 have W0 := j2.far (p := ⟨b, 6, none⟩) (show b + 1 ≠ b by omega) (.slice (some ⟨g, 0, none⟩) n n)
 have W1 := W0.set_ 0 (.int .i64 id)
 simp only [List.setIfInBounds_toArray, List.set_cons_zero] at W1
 have W2 := W1.set_ 1 (.int .i64 kind)
 simp only [List.setIfInBounds_toArray, List.set_cons_zero, List.set_cons_succ] at W2
 have W3 := W2.set_ 2 (.int .i64 actor)
 simp only [List.setIfInBounds_toArray, List.set_cons_zero, List.set_cons_succ] at W3
 have W4 := W3.set_ 3 (.int .i64 tick)
 simp only [List.setIfInBounds_toArray, List.set_cons_zero, List.set_cons_succ] at W4
 have W5 := W4.set_ 4 (.int .i64 rule)
 simp only [List.setIfInBounds_toArray, List.set_cons_zero, List.set_cons_succ] at W5
 have W6 := W5.set_ 5 (.int .i64 times)
 simp only [List.setIfInBounds_toArray, List.set_cons_zero, List.set_cons_succ] at W6
 have W := W6.set_ 6 (.slice (some ⟨g, 0, none⟩) n n)
 simp only [List.setIfInBounds_toArray, List.set_cons_zero, List.set_cons_succ] at W
 have HG8 := Lib.hid ((((((((hbk.far (p := ⟨b, 6, none⟩) hgb.1 (.slice (some ⟨g, 0, none⟩) n n)).far (p := ⟨b + 1, 0, none⟩) hgb.2 (.int .i64 id)).far (p := ⟨b + 1, 1, none⟩) hgb.2 (.int .i64 kind)).far (p := ⟨b + 1, 2, none⟩) hgb.2 (.int .i64 actor)).far (p := ⟨b + 1, 3, none⟩) hgb.2 (.int .i64 tick)).far (p := ⟨b + 1, 4, none⟩) hgb.2 (.int .i64 rule)).far (p := ⟨b + 1, 5, none⟩) hgb.2 (.int .i64 times)).far (p := ⟨b + 1, 6, none⟩) hgb.2 (.slice (some ⟨g, 0, none⟩) n n))
 have HB8 := Lib.hid ((((((((HB3.out.setCell (p := ⟨b, 6, none⟩) (Nat.le_refl _) (.slice (some ⟨g, 0, none⟩) n n)).setCell (p := ⟨b + 1, 0, none⟩) (Nat.le_succ _) (.int .i64 id)).setCell (p := ⟨b + 1, 1, none⟩) (Nat.le_succ _) (.int .i64 kind)).setCell (p := ⟨b + 1, 2, none⟩) (Nat.le_succ _) (.int .i64 actor)).setCell (p := ⟨b + 1, 3, none⟩) (Nat.le_succ _) (.int .i64 tick)).setCell (p := ⟨b + 1, 4, none⟩) (Nat.le_succ _) (.int .i64 rule)).setCell (p := ⟨b + 1, 5, none⟩) (Nat.le_succ _) (.int .i64 times)).setCell (p := ⟨b + 1, 6, none⟩) (Nat.le_succ _) (.slice (some ⟨g, 0, none⟩) n n))
 have HW8 := Lib.hid W
 clear hba hw2 k1 k2 hb3 j1 j2 hbk W W0 W1 W2 W3 W4 W5 W6
 go_wp2
 obtain ⟨w8, hw8⟩ : ∃ w8, ((((((((w3.setCell ⟨b, 6, none⟩ (.slice (some ⟨g, 0, none⟩) n n)).setCell ⟨b + 1, 0, none⟩ (.int .i64 id)).setCell ⟨b + 1, 1, none⟩ (.int .i64 kind)).setCell ⟨b + 1, 2, none⟩ (.int .i64 actor)).setCell ⟨b + 1, 3, none⟩ (.int .i64 tick)).setCell ⟨b + 1, 4, none⟩ (.int .i64 rule)).setCell ⟨b + 1, 5, none⟩ (.int .i64 times)).setCell ⟨b + 1, 6, none⟩ (.slice (some ⟨g, 0, none⟩) n n)) = w8 := ⟨_, rfl⟩
 rw [hw8] at HG8 HB8 HW8 ⊢
 have j8 := HW8.out
 have p0 : w8.cell? ⟨b + 1, 0, none⟩ = some (.int .i64 id) := j8.cell 0
 have p1 : w8.cell? ⟨b + 1, 1, none⟩ = some (.int .i64 kind) := j8.cell 1
 have p2 : w8.cell? ⟨b + 1, 2, none⟩ = some (.int .i64 actor) := j8.cell 2
 have p3 : w8.cell? ⟨b + 1, 3, none⟩ = some (.int .i64 tick) := j8.cell 3
 have p4 : w8.cell? ⟨b + 1, 4, none⟩ = some (.int .i64 rule) := j8.cell 4
 have p5 : w8.cell? ⟨b + 1, 5, none⟩ = some (.int .i64 times) := j8.cell 5
 have p6 : w8.cell? ⟨b + 1, 6, none⟩ = some (.slice (some ⟨g, 0, none⟩) n n) := j8.cell 6
 have h9 := j8.lt
 refine bodyPost_ret (v := .agg #[.int .i64 id, .int .i64 kind, .int .i64 actor, .int .i64 tick, .int .i64 rule, .int .i64 times, .slice (some ⟨g, 0, none⟩) n n]) (by simp [results, Tryz.results76, go_sem, p0, p1, p2, p3, p4, p5, p6]) rfl ⟨g, rfl, by rw [hb]; exact HG.out, HG8.out, by rw [hb]; exact HB8.out⟩
end Go.Proofs.YtlcalajehnaenaaGreatDoor
