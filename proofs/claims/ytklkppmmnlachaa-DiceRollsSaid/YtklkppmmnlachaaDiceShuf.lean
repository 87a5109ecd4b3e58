/- The walks of (*dice.Dice).Hit, Shuffle and the reference's. -/
import Derived.Test.YtklkppmmnlachaaDiceRefRoll
import Derived.Test.YtklkppmmnlachaaMem2
import Derived.RegionTactic
namespace Go.Proofs.Ytklkppmmnlachaa
open Go.RowKit

theorem rollVal_range {key at_ n : Int} (hn : 1 ≤ n) : 0 ≤ rollVal key at_ n ∧ rollVal key at_ n < n := by
  unfold rollVal
  split
  · exact redVal_range hn
  · omega
theorem wrap64_range (x : Int) : -9223372036854775808 ≤ wrap64 x ∧ wrap64 x ≤ 9223372036854775807 := by unfold wrap64; omega
theorem rollAt_range {key at_ n : Int} (h : -9223372036854775808 ≤ at_ ∧ at_ ≤ 9223372036854775807) : -9223372036854775808 ≤ rollAt key at_ n ∧ rollAt key at_ n ≤ 9223372036854775807 := by
  unfold rollAt
  split
  · exact h
  · split
    · exact wrap64_range _
    · exact wrap64_range _

def hitBad (num den : Int) : Bool := decide (num < 0) || decide (den < 1) || decide (den < num)
def hitVal (key at_ num den : Int) : Bool := if hitBad num den then false else ((rollErr key at_ den == 0) && decide (rollVal key at_ den < num))
def hitErr (key at_ num den : Int) : Int := if hitBad num den then 1 else rollErr key at_ den
def hitAt (key at_ num den : Int) : Int := if hitBad num den then at_ else rollAt key at_ den

set_option maxRecDepth 100000 in
set_option maxHeartbeats 1000000 in
theorem hit_any (gd : Nat) (key at_ num den : Int) (w : World) (HD : Hid (Die w gd key at_)) (hat : Hid (-9223372036854775808 ≤ at_ ∧ at_ ≤ 9223372036854775807)) (hn1 : den ≤ 9223372036854775807) :
    Calls Try.prog 33 #[.pointer (some ⟨gd, 0, none⟩), .int .i64 num, .int .i64 den] w fun e w' => e = .returned (.tuple #[.bool (hitVal key at_ num den), .int .i64 (hitErr key at_ num den)]) ∧ Die w' gd key (hitAt key at_ num den) ∧ w.grownBy w' (some gd) := by
  by_cases hb : hitBad num den = true
  · have H1 := Lib.hid (show hitVal key at_ num den = false by unfold hitVal; rw [if_pos hb])
    have H2 := Lib.hid (show hitErr key at_ num den = 1 by unfold hitErr; rw [if_pos hb])
    have H3 := Lib.hid (show hitAt key at_ num den = at_ by unfold hitAt; rw [if_pos hb])
    rcases (show num < 0 ∨ (0 ≤ num ∧ den < 1) ∨ (0 ≤ num ∧ 1 ≤ den ∧ den < num) by simp [hitBad] at hb; omega) with h | ⟨h, h'⟩ | ⟨h, h', h''⟩
    all_goals
      clear hb
      go_enter Try.func33, Try.ntmps33
      go_wp2_with fail
      go_ret2
      rw [H1.out, H2.out, H3.out]
      exact ⟨rfl, HD.out, only_refl _ _⟩
  · have H1 := Lib.hid (show hitVal key at_ num den = ((rollErr key at_ den == 0) && decide (rollVal key at_ den < num)) by unfold hitVal; rw [if_neg hb])
    have H2 := Lib.hid (show hitErr key at_ num den = rollErr key at_ den by unfold hitErr; rw [if_neg hb])
    have H3 := Lib.hid (show hitAt key at_ num den = rollAt key at_ den by unfold hitAt; rw [if_neg hb])
    obtain ⟨h, h', h''⟩ : 0 ≤ num ∧ 1 ≤ den ∧ num ≤ den := by simp [hitBad] at hb; omega
    clear hb
    go_enter Try.func33, Try.ntmps33
    go_wp2_with fail
    refine (roll_any _ _ _ _ _ HD hat hn1).mono ?_
    rintro e w4 ⟨rfl, hD4, ho4⟩
    cases he : (rollErr key at_ den == 0) with
    | true =>
      go_wp2
      go_ret2
      rw [H1.out, H2.out, H3.out, he]
      exact ⟨rfl, hD4, ho4⟩
    | false =>
      go_wp2
      go_ret2
      rw [H1.out, H2.out, H3.out, he]
      exact ⟨rfl, hD4, ho4⟩

set_option maxRecDepth 100000 in
set_option maxHeartbeats 1000000 in
theorem rhit_any (gd : Nat) (A : Option Addr) (len cap : Nat) (bs : List UInt8) (label : ByteArray) (at_ num den : Int) (w : World) (HD : Hid (RDie w gd (.slice A len cap) label at_)) (hat : Hid (-9223372036854775808 ≤ at_ ∧ at_ ≤ 9223372036854775807)) (hn1 : den ≤ 9223372036854775807)
    (HL : Hid (bs.length = len)) (hlab : label.size ≤ 35184372088832) (hlc : len ≤ cap) (hmax : len ≤ 35184372088832) (hR : Rd w w.heap.size A len (vByte bs)) :
    Calls Try.prog 34 #[.pointer (some ⟨gd, 0, none⟩), .int .i64 num, .int .i64 den] w fun e w' => e = .returned (.tuple #[.bool (hitVal (bytesI label.data.toList bs) at_ num den), .int .i64 (hitErr (bytesI label.data.toList bs) at_ num den)]) ∧ RDie w' gd (.slice A len cap) label (hitAt (bytesI label.data.toList bs) at_ num den) ∧ w.grownBy w' (some gd) := by
  generalize hkey : bytesI label.data.toList bs = key at *
  have HKEY := Lib.hid hkey
  clear hkey
  by_cases hb : hitBad num den = true
  · have H1 := Lib.hid (show hitVal key at_ num den = false by unfold hitVal; rw [if_pos hb])
    have H2 := Lib.hid (show hitErr key at_ num den = 1 by unfold hitErr; rw [if_pos hb])
    have H3 := Lib.hid (show hitAt key at_ num den = at_ by unfold hitAt; rw [if_pos hb])
    rcases (show num < 0 ∨ (0 ≤ num ∧ den < 1) ∨ (0 ≤ num ∧ 1 ≤ den ∧ den < num) by simp [hitBad] at hb; omega) with h | ⟨h, h'⟩ | ⟨h, h', h''⟩
    all_goals
      clear hb
      go_enter Try.func34, Try.ntmps34
      go_wp2_with fail
      go_ret2
      rw [H1.out, H2.out, H3.out]
      exact ⟨rfl, HD.out, only_refl _ _⟩
  · have H1 := Lib.hid (show hitVal key at_ num den = ((rollErr key at_ den == 0) && decide (rollVal key at_ den < num)) by unfold hitVal; rw [if_neg hb])
    have H2 := Lib.hid (show hitErr key at_ num den = rollErr key at_ den by unfold hitErr; rw [if_neg hb])
    have H3 := Lib.hid (show hitAt key at_ num den = rollAt key at_ den by unfold hitAt; rw [if_neg hb])
    obtain ⟨h, h', h''⟩ : 0 ≤ num ∧ 1 ≤ den ∧ num ≤ den := by simp [hitBad] at hb; omega
    clear hb
    go_enter Try.func34, Try.ntmps34
    go_wp2_with fail
    refine (rroll_any _ _ _ _ bs _ _ _ _ HD hat hn1 HL hlab hlc hmax hR).mono ?_
    rw [HKEY.out]
    rintro e w4 ⟨rfl, hD4, ho4⟩
    cases he : (rollErr key at_ den == 0) with
    | true =>
      go_wp2
      go_ret2
      rw [H1.out, H2.out, H3.out, he]
      exact ⟨rfl, hD4, ho4⟩
    | false =>
      go_wp2
      go_ret2
      rw [H1.out, H2.out, H3.out, he]
      exact ⟨rfl, hD4, ho4⟩

/-- Two elements exchanged. -/
def swapL (l : List Int) (i j : Nat) : List Int := (l.set i (l[j]?.getD 0)).set j (l[i]?.getD 0)
theorem swapL_length (l : List Int) (i j : Nat) : (swapL l i j).length = l.length := by simp [swapL]
/-- The exchanges from place i down: the error, the position, the list. -/
def shufG (key : Int) : Nat → Int → List Int → Int × Int × List Int
  | 0, a, l => (0, a, l)
  | i + 1, a, l => if rollErr key a ((i + 1 : Nat) + 1) ≠ 0 then (rollErr key a ((i + 1 : Nat) + 1), rollAt key a ((i + 1 : Nat) + 1), l) else shufG key i (rollAt key a ((i + 1 : Nat) + 1)) (swapL l (i + 1) (rollVal key a ((i + 1 : Nat) + 1)).toNat)
def idL (n : Nat) : List Int := (List.range n).map fun j : Nat => ((j : Nat) : Int)
def idTo (n k : Nat) : List Int := (List.range n).map fun j : Nat => if j < k then ((j : Nat) : Int) else 0
theorem idTo_zero (n : Nat) : (idTo n 0).map (Value.int .i64) = List.replicate n (Value.int .i64 0) := by
  unfold idTo
  simp [List.map_const']
theorem idTo_all (n : Nat) : idTo n n = idL n := by
  unfold idTo idL
  exact List.map_congr_left fun j hj => by rw [if_pos (List.mem_range.1 hj)]
theorem idTo_set (n k : Nat) : (idTo n k).set k (k : Int) = idTo n (k + 1) := by
  refine List.ext_getElem (by simp [idTo]) fun i h1 h2 => ?_
  rw [List.getElem_set]
  simp only [idTo, List.getElem_map, List.getElem_range]
  by_cases e : k = i
  · subst e; simp
  · rw [if_neg e]
    by_cases h : i < k
    · rw [if_pos h, if_pos (by omega)]
    · rw [if_neg h, if_neg (by omega)]
def shufBad (n : Int) : Bool := decide (n < 0) || decide (4096 < n)
def shufR (key at_ n : Int) : Int × Int × List Int := if shufBad n then (1, at_, []) else shufG key (n.toNat - 1) at_ (idL n.toNat)

/-- What Shuffle returns and leaves. -/
def ShufPost (R : Int × Int × List Int) (D : World → Int → Prop) (gd : Nat) (w : World) (e : Ending) (w' : World) : Prop :=
  ∃ (A : Option Addr) (m c : Nat), e = .returned (.tuple #[.slice A m c, .int .i64 R.1]) ∧ D w' R.2.1 ∧ w.grownBy w' (some gd) ∧ w'.ownsRow w.heap.size 3 1 (.slice A m c) m ((if R.1 = 0 then R.2.2 else []).map (Value.int .i64))
theorem shufG_go {key a : Int} {i : Nat} {l : List Int} (h : rollErr key a ((i + 1 : Nat) + 1) = 0) : shufG key (i + 1) a l = shufG key i (rollAt key a ((i + 1 : Nat) + 1)) (swapL l (i + 1) (rollVal key a ((i + 1 : Nat) + 1)).toNat) := by rw [shufG, if_neg (by simpa using h)]
theorem shufG_bad {key a : Int} {i : Nat} {l : List Int} (h : rollErr key a ((i + 1 : Nat) + 1) ≠ 0) : shufG key (i + 1) a l = (rollErr key a ((i + 1 : Nat) + 1), rollAt key a ((i + 1 : Nat) + 1), l) := by rw [shufG, if_pos h]

theorem shufP_go {key a : Int} {p : Nat} {l : List Int} (hp : 1 ≤ p) (h : rollErr key a ((p : Int) + 1) = 0) : shufG key p a l = shufG key (p - 1) (rollAt key a ((p : Int) + 1)) (swapL l p (rollVal key a ((p : Int) + 1)).toNat) := by
  obtain ⟨i, rfl⟩ : ∃ i, p = i + 1 := ⟨p - 1, by omega⟩
  exact shufG_go h
theorem shufP_bad {key a : Int} {p : Nat} {l : List Int} (hp : 1 ≤ p) (h : rollErr key a ((p : Int) + 1) ≠ 0) : shufG key p a l = (rollErr key a ((p : Int) + 1), rollAt key a ((p : Int) + 1), l) := by
  obtain ⟨i, rfl⟩ : ∃ i, p = i + 1 := ⟨p - 1, by omega⟩
  exact shufG_bad h

set_option maxRecDepth 100000 in
set_option maxHeartbeats 2000000 in
theorem shuf_any (gd : Nat) (key at_ : Int) (n : Nat) (ni : Int) (hni : ni = (n : Int)) (hn : n ≤ 4096) (w : World) (HD : Hid (Die w gd key at_)) (hat : Hid (-9223372036854775808 ≤ at_ ∧ at_ ≤ 9223372036854775807)) :
    Calls Try.prog 38 #[.pointer (some ⟨gd, 0, none⟩), .int .i64 ni] w (ShufPost (shufG key (n - 1) at_ (idL n)) (fun w' a => Die w' gd key a) gd w) := by
  subst hni
  have hgd : gd < w.heap.size := Blk.lt HD.out
  obtain ⟨i0, hi, hz0, hz1, hz2⟩ := info_parts infoInt
  obtain ⟨w1, hmk, hown1, hb1, hs1⟩ := make_all (P := Try.prog) w 29 3 i0 _ 8 Try.underlying29 hi hz0 hz1 hz2 rfl .i64 .i64 n (by omega) (by unfold maxLen; omega)
  rw [← idTo_zero] at hown1
  have HD1 := Lib.hid (show Die w1 gd key at_ from Blk.all HD.out hb1)
  have ho1 := only_of_below hb1 (some gd)
  have hn0 : decide ((n : Int) < 0) = false := by simp
  have hn1 : decide (4096 < (n : Int)) = false := by simp; omega
  generalize hg : w.heap.size = g at *
  have HGE := Lib.hid hg
  clear hg
  go_enter Try.func38, Try.ntmps38
  go_wp2
  go_loopw [7, 21] (fun _ v wr => ∃ k : Nat, k ≤ n ∧ v = .int .i64 (k : Int) ∧ wr.ownsRow g 3 1 (.slice (some ⟨g, 0, none⟩) n n) n ((idTo n k).map (Value.int .i64)) ∧ Hid (Die wr gd key at_) ∧ w.grownBy wr (some gd)) (fun _ v _ => n - (intOf v).toNat)
  case atStart => exact ⟨0, by omega, rfl, hown1, HD1, ho1⟩
  case round =>
    clear hown1 HD1 ho1
    obtain ⟨k, hk, rfl, hown, HDr, ho⟩ := hrel
    by_cases hlt : k < n
    · obtain ⟨hc, hf⟩ := own_int hown hlt
      have hst := own_int_set hown k (k : Int)
      rw [idTo_set] at hst
      have HST := Lib.hid hst
      have HD2 := Lib.hid (show Die (wr.setCell ⟨g, k, none⟩ (.int .i64 (k : Int))) gd key at_ from Blk.far HDr.out (by simp; omega) _)
      have ho2 := only_set (p := ⟨g, k, none⟩) ho (.inr (by rw [HGE.out]; exact Nat.le_refl _)) (.int .i64 (k : Int))
      have HO2 := Lib.hid ho2
      clear hst ho2
      go_wp2
      exact ⟨⟨k + 1, by omega, by go_num, HST.out, HD2, HO2.out⟩, by simp [intOf]; omega⟩
    · obtain rfl : k = n := by omega
      rw [idTo_all] at hown
      clear hmk hb1 hs1
      go_wp2
      go_loopw [8] (fun v wr => ∃ t : Nat, ∃ (a : Int) (l : List Int), t ≤ k ∧ v = .int .i64 ((t : Int) - 1) ∧ Hid (-9223372036854775808 ≤ a ∧ a ≤ 9223372036854775807) ∧ Hid (l.length = k) ∧ wr.ownsRow g 3 1 (.slice (some ⟨g, 0, none⟩) k k) k (l.map (Value.int .i64)) ∧ Hid (Die wr gd key a) ∧ Hid (shufG key (t - 1) a l = shufG key (k - 1) at_ (idL k)) ∧ w.grownBy wr (some gd)) (fun v _ => (intOf v + 1).toNat)
      case atStart => exact ⟨k, at_, idL k, by omega, rfl, hat, Lib.hid (by simp [idL]), hown, HDr, Lib.hid rfl, ho⟩
      case round =>
        clear hown HDr ho
        obtain ⟨t, a, l, ht, rfl, har, HLn, hown, HDr, HS, ho⟩ := hrel
        by_cases ht2 : 2 ≤ t
        · obtain ⟨p, rfl⟩ : ∃ p, t = p + 1 := ⟨t - 1, by omega⟩
          have e1 : ((p + 1 : Nat) : Int) - 1 = (p : Int) := by omega
          rw [e1]
          rw [Nat.add_sub_cancel] at HS
          have hp1 : 1 ≤ p := by omega
          have hvr := rollVal_range (key := key) (at_ := a) (n := (p : Int) + 1) (by omega)
          have hra := Lib.hid (rollAt_range (key := key) (at_ := a) (n := (p : Int) + 1) har.out)
          clear e1
          go_wp2_with fail
          refine (roll_any _ _ _ _ _ HDr har (by omega)).mono ?_
          rintro e w5 ⟨rfl, hD5, ho5⟩
          have hown5 := hown.kept ho5 (.inr (fun e => by have := (hown.lt gd e).1; omega))
          by_cases hE : rollErr key a ((p : Int) + 1) = 0
          · have q1 : (rollErr key a ((p : Int) + 1) != 0) = false := by rw [hE]; rfl
            rw [shufP_go hp1 hE] at HS
            obtain ⟨j, hj⟩ := Int.eq_ofNat_of_zero_le hvr.1
            have hjp : j < p + 1 := by omega
            rw [hj, Int.toNat_natCast] at HS
            rw [hj]
            obtain ⟨cp, fp⟩ := own_int (j := p) hown5 (by omega)
            obtain ⟨cj, fj⟩ := own_int (j := j) hown5 (by omega)
            have hp0 : (0 : Int) ≤ (p : Int) := by omega
            have hpk : (p : Int) < (k : Int) := by omega
            have hj0 : (0 : Int) ≤ (j : Int) := by omega
            have hjk : (j : Int) < (k : Int) := by omega
            have HSW := Lib.hid (own_int_set (own_int_set hown5 p (l[j]?.getD 0)) j (l[p]?.getD 0))
            have HDW := Lib.hid (show Die ((w5.setCell ⟨g, p, none⟩ (.int .i64 (l[j]?.getD 0))).setCell ⟨g, j, none⟩ (.int .i64 (l[p]?.getD 0))) gd key (rollAt key a ((p : Int) + 1)) from Blk.far (Blk.far hD5 (by simp; omega) _) (by simp; omega) _)
            have HOW := Lib.hid (only_set (p := ⟨g, j, none⟩) (only_set (p := ⟨g, p, none⟩) (ho.trans ho5) (.inr (by rw [HGE.out]; exact Nat.le_refl _)) (.int .i64 (l[j]?.getD 0))) (.inr (by rw [HGE.out]; exact Nat.le_refl _)) (.int .i64 (l[p]?.getD 0)))
            obtain ⟨lj, hlj⟩ : ∃ x, l[j]?.getD 0 = x := ⟨_, rfl⟩
            obtain ⟨lp, hlp⟩ : ∃ x, l[p]?.getD 0 = x := ⟨_, rfl⟩
            have hsw : swapL l p j = (l.set p lj).set j lp := by subst hlj hlp; rfl
            rw [hsw] at HS
            rw [hlj] at cj HSW HDW HOW
            rw [hlp] at cp HSW HDW HOW
            clear hE hj hown hown5 ho ho5 hvr hlj hlp hsw
            obtain ⟨vv, cj2⟩ := cell?_setCell_some (w := w5) (p := ⟨g, p, none⟩) (x := .int .i64 lj) (q := ⟨g, j, none⟩) (v := .int .i64 lj) cj
            have fj2 : (w5.setCell ⟨g, p, none⟩ (.int .i64 lj)).frozen? ⟨g, j, none⟩ = false := by rw [World.frozen?_setCell]; exact fj
            go_wp2
            go_region
            clear cj2 fj2
            go_wp2
            exact ⟨⟨p, rollAt key a ((p : Int) + 1), (l.set p lj).set j lp, by omega, rfl, hra, Lib.hid (by simp; exact HLn.out), HSW.out, HDW, HS, ⟨HOW.out.os, HOW.out.tape, HOW.out.output, HOW.out.size, HOW.out.block⟩⟩, by simp [intOf]⟩
          · have q1 : (rollErr key a ((p : Int) + 1) != 0) = true := by simpa using hE
            rw [shufP_bad hp1 hE] at HS
            have HE := Lib.hid hE
            have HO6 := Lib.hid (ho.trans ho5)
            clear hE hown hown5 ho ho5 hvr
            go_wp2
            go_ret2
            rw [← HS.out]
            refine ⟨none, 0, 0, rfl, hD5, HO6.out, ?_⟩
            rw [if_neg HE.out]
            exact World.ownsRow_nil _ _ _ _
        · rw [show t - 1 = 0 by omega] at HS
          have hq : (t : Int) - 1 < 1 := by omega
          go_wp2
          go_ret2
          rw [← HS.out]
          refine ⟨_, _, _, rfl, HDr.out, ho, ?_⟩
          rw [HGE.out]
          exact hown
end Go.Proofs.Ytklkppmmnlachaa
