import Derived.Test.YtklkppmmnlachaaDiceShuf
/-! The reference's Shuffle, and both where the number is out of range. -/
set_option autoImplicit false
namespace Go.Proofs.Ytklkppmmnlachaa
open Go.RowKit

theorem only_row {a w w' : World} {gd : Nat} {row : Option Nat} (h : a.grownBy w (some gd)) (hg : w.grownBy w' row) (hr : ∀ r, row = some r → a.heap.size ≤ r) : a.grownBy w' (some gd) :=
  ⟨hg.os.trans h.os, hg.tape.trans h.tape, hg.output.trans h.output, Nat.le_trans h.size hg.size, fun i hi hne => (hg.block i (Nat.lt_of_lt_of_le hi h.size) (fun e => by have := hr i e.symm; omega)).trans (h.block i hi hne)⟩
theorem idL_succ (k : Nat) : (idL (k + 1)).map (Value.int .i64) = (idL k).map (Value.int .i64) ++ [Value.int .i64 (k : Int)] := by simp [idL, List.range_succ]

set_option maxRecDepth 100000 in
set_option maxHeartbeats 1000000 in
theorem shuf_bad (gd : Nat) (key at_ n : Int) (w : World) (HD : Hid (Die w gd key at_)) (hb : shufBad n = true) :
    Calls Try.prog 38 #[.pointer (some ⟨gd, 0, none⟩), .int .i64 n] w (ShufPost (1, at_, []) (fun w' a => Die w' gd key a) gd w) := by
  rcases (show n < 0 ∨ (0 ≤ n ∧ 4096 < n) by simp [shufBad] at hb; omega) with h | ⟨h, h'⟩
  all_goals
    clear hb
    go_enter Try.func38, Try.ntmps38
    go_wp2_with fail
    go_ret2
    exact ⟨none, 0, 0, rfl, HD.out, only_refl _ _, World.ownsRow_nil _ _ _ _⟩

set_option maxRecDepth 100000 in
set_option maxHeartbeats 1000000 in
theorem rshuf_bad (gd : Nat) (sv : Value) (label : ByteArray) (at_ n : Int) (w : World) (HD : Hid (RDie w gd sv label at_)) (hb : shufBad n = true) :
    Calls Try.prog 39 #[.pointer (some ⟨gd, 0, none⟩), .int .i64 n] w (ShufPost (1, at_, []) (fun w' a => RDie w' gd sv label a) gd w) := by
  rcases (show n < 0 ∨ (0 ≤ n ∧ 4096 < n) by simp [shufBad] at hb; omega) with h | ⟨h, h'⟩
  all_goals
    clear hb
    go_enter Try.func39, Try.ntmps39
    go_wp2_with fail
    go_ret2
    exact ⟨none, 0, 0, rfl, HD.out, only_refl _ _, World.ownsRow_nil _ _ _ _⟩

set_option maxRecDepth 100000 in
set_option maxHeartbeats 1000000 in
theorem rshuf_any (gd : Nat) (A : Option Addr) (len cap : Nat) (bs : List UInt8) (label : ByteArray) (key at_ : Int) (n : Nat) (ni : Int) (hni : ni = (n : Int)) (hn : n ≤ 4096) (w : World) (HD : Hid (RDie w gd (.slice A len cap) label at_)) (hat : Hid (-9223372036854775808 ≤ at_ ∧ at_ ≤ 9223372036854775807))
    (HL : Hid (bs.length = len)) (hlab : label.size ≤ 35184372088832) (hlc : len ≤ cap) (hmax : len ≤ 35184372088832) (HKEY : Hid (bytesI label.data.toList bs = key)) (hR : Rd w w.heap.size A len (vByte bs)) :
    Calls Try.prog 39 #[.pointer (some ⟨gd, 0, none⟩), .int .i64 ni] w (ShufPost (shufG key (n - 1) at_ (idL n)) (fun w' a => RDie w' gd (.slice A len cap) label a) gd w) := by
  subst hni
  have hgd : gd < w.heap.size := Blk.lt HD.out
  obtain ⟨i0, hi, hz0, hz1, hz2⟩ := info_parts infoInt
  have hn0 : decide ((n : Int) < 0) = false := by simp
  have hn1 : decide (4096 < (n : Int)) = false := by simp; omega
  go_enter Try.func39, Try.ntmps39
  go_wp2
  go_loopw [6, 7] (fun v i wr => ∃ (k : Nat) (S : Option Addr) (c : Nat), k ≤ n ∧ i = .int .i64 (k : Int) ∧ v = .slice S k c ∧ wr.ownsRow w.heap.size 3 1 v k ((idL k).map (Value.int .i64)) ∧ Hid (RDie wr gd (.slice A len cap) label at_) ∧ w.grownBy wr (some gd)) (fun _ i _ => n - (intOf i).toNat)
  case atStart => exact ⟨0, none, 0, by omega, rfl, rfl, World.ownsRow_nil _ _ _ _, HD, only_refl _ _⟩
  case round =>
    obtain ⟨k, S, c, hk, rfl, rfl, hown, HDr, ho⟩ := hrel
    by_cases hlt : k < n
    · obtain ⟨g, c3, w3, hap, hown3, hg3, hat3, hs3⟩ := run_append_one (P := Try.prog) wr w.heap.size 29 29 3 i0 _ 8 Try.underlying29 hi hz0 hz1 hz2 rfl (.slice S k c) k _ hown (.int .i64 (k : Int)) rfl (by unfold maxLen; omega) (by omega) ho.size
      have HA := Lib.hid hap; clear hap
      have HD3 := Lib.hid (show RDie w3 gd (.slice A len cap) label at_ from Blk.grown HDr.out hg3 (fun e => by have := (hown.lt gd e.symm).1; omega))
      have HO3 := Lib.hid (only_row ho hg3 (fun r e => (hown.lt r e).1))
      rw [← idL_succ] at hown3
      go_wp2_with (at_builtin; refine wpList_append_run HA.out rfl rfl rfl rfl ?_)
      exact ⟨⟨k + 1, _, c3, by omega, by go_num, rfl, hown3, HD3, HO3.out⟩, by simp [intOf]; omega⟩
    · obtain rfl : k = n := by omega
      go_wp2
      go_loopw [8] (fun v wr => ∃ t : Nat, ∃ (a : Int) (l : List Int), t ≤ k ∧ v = .int .i64 ((t : Int) - 1) ∧ Hid (-9223372036854775808 ≤ a ∧ a ≤ 9223372036854775807) ∧ Hid (l.length = k) ∧ wr.ownsRow w.heap.size 3 1 (.slice S k c) k (l.map (Value.int .i64)) ∧ Hid (RDie wr gd (.slice A len cap) label a) ∧ Hid (shufG key (t - 1) a l = shufG key (k - 1) at_ (idL k)) ∧ w.grownBy wr (some gd)) (fun v _ => (intOf v + 1).toNat)
      case atStart => exact ⟨k, at_, idL k, by omega, rfl, hat, Lib.hid (by simp [idL]), hown, HDr, Lib.hid rfl, ho⟩
      case round =>
        clear hown HDr ho
        obtain ⟨t, a, l, ht, rfl, har, HLn, hown, HDr, HS, ho⟩ := hrel
        by_cases ht2 : 2 ≤ t
        · obtain ⟨p, rfl⟩ : ∃ p, t = p + 1 := ⟨t - 1, by omega⟩
          have e1 : ((p + 1 : Nat) : Int) - 1 = (p : Int) := by omega
          rw [e1]
          rw [Nat.add_sub_cancel] at HS
          have hp1 : 1 ≤ p := by omega
          have hvr := rollVal_range (key := key) (at_ := a) (n := (p : Int) + 1) (by omega)
          have hra := Lib.hid (rollAt_range (key := key) (at_ := a) (n := (p : Int) + 1) har.out)
          obtain ⟨g, rfl, hgw, -⟩ := own_some hown (by omega)
          have hRr := (hR.rdie HD.out (Nat.le_refl _) ho).more ho.size
          clear e1
          go_wp2_with fail
          refine (rroll_any _ _ _ _ bs _ _ _ _ HDr har (by omega) HL hlab hlc hmax hRr).mono ?_
          rw [HKEY.out]
          rintro e w5 ⟨rfl, hD5, ho5⟩
          have hown5 := hown.kept ho5 (.inr (fun e => by have := (hown.lt gd e).1; omega))
          by_cases hE : rollErr key a ((p : Int) + 1) = 0
          · have q1 : (rollErr key a ((p : Int) + 1) != 0) = false := by rw [hE]; rfl
            rw [shufP_go hp1 hE] at HS
            obtain ⟨j, hj⟩ := Int.eq_ofNat_of_zero_le hvr.1
            have hjp : j < p + 1 := by omega
            rw [hj, Int.toNat_natCast] at HS
            rw [hj]
            obtain ⟨cp, fp⟩ := own_int (j := p) hown5 (by omega)
            obtain ⟨cj, fj⟩ := own_int (j := j) hown5 (by omega)
            have hp0 : (0 : Int) ≤ (p : Int) := by omega
            have hpk : (p : Int) < (k : Int) := by omega
            have hj0 : (0 : Int) ≤ (j : Int) := by omega
            have hjk : (j : Int) < (k : Int) := by omega
            have HSW := Lib.hid (own_int_set (own_int_set hown5 p (l[j]?.getD 0)) j (l[p]?.getD 0))
            have HDW := Lib.hid (show RDie ((w5.setCell ⟨g, p, none⟩ (.int .i64 (l[j]?.getD 0))).setCell ⟨g, j, none⟩ (.int .i64 (l[p]?.getD 0))) gd (.slice A len cap) label (rollAt key a ((p : Int) + 1)) from Blk.far (Blk.far hD5 (by simp; omega) _) (by simp; omega) _)
            have HOW := Lib.hid (only_set (p := ⟨g, j, none⟩) (only_set (p := ⟨g, p, none⟩) (ho.trans ho5) (.inr hgw) (.int .i64 (l[j]?.getD 0))) (.inr hgw) (.int .i64 (l[p]?.getD 0)))
            obtain ⟨lj, hlj⟩ : ∃ x, l[j]?.getD 0 = x := ⟨_, rfl⟩
            obtain ⟨lp, hlp⟩ : ∃ x, l[p]?.getD 0 = x := ⟨_, rfl⟩
            have hsw : swapL l p j = (l.set p lj).set j lp := by subst hlj hlp; rfl
            rw [hsw] at HS
            rw [hlj] at cj HSW HDW HOW
            rw [hlp] at cp HSW HDW HOW
            clear hE hj hown hown5 ho ho5 hvr hlj hlp hsw
            obtain ⟨vv, cj2⟩ := cell?_setCell_some (w := w5) (p := ⟨g, p, none⟩) (x := .int .i64 lj) (q := ⟨g, j, none⟩) (v := .int .i64 lj) cj
            have fj2 : (w5.setCell ⟨g, p, none⟩ (.int .i64 lj)).frozen? ⟨g, j, none⟩ = false := by rw [World.frozen?_setCell]; exact fj
            go_wp2
            exact ⟨⟨p, rollAt key a ((p : Int) + 1), (l.set p lj).set j lp, by omega, rfl, hra, Lib.hid (by simp; exact HLn.out), HSW.out, HDW, HS, ⟨HOW.out.os, HOW.out.tape, HOW.out.output, HOW.out.size, HOW.out.block⟩⟩, by simp [intOf]⟩
          · have q1 : (rollErr key a ((p : Int) + 1) != 0) = true := by simpa using hE
            rw [shufP_bad hp1 hE] at HS
            have HE := Lib.hid hE
            have HO6 := Lib.hid (ho.trans ho5)
            clear hE hown hown5 ho ho5 hvr
            go_wp2
            go_ret2
            rw [← HS.out]
            refine ⟨none, 0, 0, rfl, hD5, HO6.out, ?_⟩
            rw [if_neg HE.out]
            exact World.ownsRow_nil _ _ _ _
        · rw [show t - 1 = 0 by omega] at HS
          have hq : (t : Int) - 1 < 1 := by omega
          go_wp2
          go_ret2
          rw [← HS.out]
          exact ⟨_, _, _, rfl, HDr.out, ho, hown⟩

theorem shuf_all (gd : Nat) (key at_ n : Int) (w : World) (HD : Hid (Die w gd key at_)) (hat : Hid (-9223372036854775808 ≤ at_ ∧ at_ ≤ 9223372036854775807)) :
    Calls Try.prog 38 #[.pointer (some ⟨gd, 0, none⟩), .int .i64 n] w (ShufPost (shufR key at_ n) (fun w' a => Die w' gd key a) gd w) := by
  by_cases hb : shufBad n = true
  · rw [show shufR key at_ n = (1, at_, []) by unfold shufR; rw [if_pos hb]]
    exact shuf_bad gd key at_ n w HD hb
  · rw [show shufR key at_ n = shufG key (n.toNat - 1) at_ (idL n.toNat) by unfold shufR; rw [if_neg hb]]
    obtain ⟨h1, h2⟩ : 0 ≤ n ∧ n ≤ 4096 := by simp [shufBad] at hb; omega
    exact shuf_any gd key at_ n.toNat n (by omega) (by omega) w HD hat
theorem rshuf_all (gd : Nat) (A : Option Addr) (len cap : Nat) (bs : List UInt8) (label : ByteArray) (key at_ n : Int) (w : World) (HD : Hid (RDie w gd (.slice A len cap) label at_)) (hat : Hid (-9223372036854775808 ≤ at_ ∧ at_ ≤ 9223372036854775807))
    (HL : Hid (bs.length = len)) (hlab : label.size ≤ 35184372088832) (hlc : len ≤ cap) (hmax : len ≤ 35184372088832) (HKEY : Hid (bytesI label.data.toList bs = key)) (hR : Rd w w.heap.size A len (vByte bs)) :
    Calls Try.prog 39 #[.pointer (some ⟨gd, 0, none⟩), .int .i64 n] w (ShufPost (shufR key at_ n) (fun w' a => RDie w' gd (.slice A len cap) label a) gd w) := by
  by_cases hb : shufBad n = true
  · rw [show shufR key at_ n = (1, at_, []) by unfold shufR; rw [if_pos hb]]
    exact rshuf_bad gd _ label at_ n w HD hb
  · rw [show shufR key at_ n = shufG key (n.toNat - 1) at_ (idL n.toNat) by unfold shufR; rw [if_neg hb]]
    obtain ⟨h1, h2⟩ : 0 ≤ n ∧ n ≤ 4096 := by simp [shufBad] at hb; omega
    exact rshuf_any gd A len cap bs label key at_ n.toNat n (by omega) (by omega) w HD hat HL hlab hlc hmax HKEY hR
end Go.Proofs.Ytklkppmmnlachaa
