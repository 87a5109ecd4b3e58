/- journal: SameLists and Records of the reference. -/
import Derived.Test.YtldmokjpfnakkaaGreatHJrnRefS
import Derived.Deep.RegionHeld3
import Derived.Test.YtldmokjpfnakkaaGreatHG12
import Derived.Maps.AppendAt

namespace Go.Proofs.YtldmokjpfnakkaaGreat
open Go.RowKit

theorem bsOf_get {L : List Bz} {k : Nat} {z : Bz} (h : L[k]? = some z) : (bsOf L)[k]? = some z.bs := by simp [bsOf, h]
set_option maxRecDepth 100000 in
set_option maxHeartbeats 1000000 in
theorem sameLists_any (A A' : Option Addr) (n n' c c' : Nat) (L L' : List Bz) (w : World) (H1 : Hid (LsRd w A n c L)) (H2 : Hid (LsRd w A' n' c' L')) (hn : n ≤ 1099511627776) (hn' : n' ≤ 1099511627776) :
    Calls Tryz.prog 13 #[.slice A n c, .slice A' n' c'] w fun e w' => e = .returned (.bool (decide (bsOf L = bsOf L'))) ∧ Below w.heap.size w w' := by
  have HL1 := Lib.hid H1.out.1
  have HL2 := Lib.hid H2.out.1
  by_cases hne : n = n'
  · subst hne
    go_enter Tryz.func13, Tryz.ntmps13
    go_wp2
    go_loopw [5] (fun i wr => ∃ k : Nat, k ≤ n ∧ i = .int .i64 (k : Int) ∧ Hid (∀ j, j < k → (bsOf L)[j]? = (bsOf L')[j]?) ∧ Below w.heap.size w wr) (fun i _ => n - (intOf i).toNat)
    case atStart => exact ⟨0, by omega, rfl, Lib.hid (fun j hj => absurd hj (by omega)), Below.refl _ _⟩
    case round =>
      obtain ⟨k, hk, rfl, HE, hb⟩ := hrel
      by_cases hlt : k < n
      · obtain ⟨b, off, z, rfl, hl1, hc1, hz1, hr1⟩ := (H1.out.all hb).cell hlt
        obtain ⟨b', off', z', rfl, hl2, hc2, hz2, hr2⟩ := (H2.out.all hb).cell hlt
        have HZ1 := Lib.hid hz1
        have HZ2 := Lib.hid hz2
        have HR1 := Lib.hid hr1
        have HR2 := Lib.hid hr2
        have hm1 : z.n ≤ 9223372036854775807 := Nat.le_trans hr1.cap hr1.max
        have hm2 : z'.n ≤ 9223372036854775807 := Nat.le_trans hr2.cap hr2.max
        clear hz1 hz2 hr1 hr2
        go_wp2_with fail
        go_region_held3 (fun w' => Below wr.heap.size wr w' ∧ w'.cell? ⟨b, off + k, none⟩ = some (.slice z.A z.n z.c) ∧ w'.cell? ⟨b', off' + k, none⟩ = some (.slice z'.A z'.n z'.c)) (first | exact ⟨(Below.refl _ wr).drew, hc1, hc2⟩ | exact ⟨hS2, (hS2.cell (p := ⟨b, off + k, none⟩) hl1).trans hc1, (hS2.cell (p := ⟨b', off' + k, none⟩) hl2).trans hc2⟩)
          ((go_at_call 20; have hS1 := (‹Below wr.heap.size wr _ ∧ _›).1; ((with_reducible refine (sameBytes_list _ _ _ _ _ _ z.bs z'.bs _ (Lib.hid HR1.out.len) (Lib.hid HR2.out.len) (HR1.out.all hS1).rd (HR2.out.all hS1).rd hm1 hm2).mono ?_); rintro e wy ⟨rfl, hb3⟩; have hS2 := bt hS1 hb3; clear hS1 hb3)))
        by_cases heq : z.bs = z'.bs
        · have hd : decide (z.bs = z'.bs) = true := by simpa using heq
          have HE2 : Hid (∀ j, j < k + 1 → (bsOf L)[j]? = (bsOf L')[j]?) := Lib.hid (fun j hj => by
            rcases (show j < k ∨ j = k by omega) with h | rfl
            · exact HE.out j h
            · rw [bsOf_get HZ1.out, bsOf_get HZ2.out, heq])
          rw [hd]
          clear heq hd
          go_wp2
          exact ⟨⟨k + 1, by omega, by go_num, HE2, hb.trans (hS2.mono hb.size)⟩, by simp [intOf]; omega⟩
        · have hd : decide (z.bs = z'.bs) = false := by simpa using heq
          have HD : Hid (decide (bsOf L = bsOf L') = false) := Lib.hid (by
            rw [decide_eq_false_iff_not]
            intro h
            apply heq
            have h1 := bsOf_get HZ1.out
            rw [h, bsOf_get HZ2.out] at h1
            injection h1 with h1
            exact h1.symm)
          rw [hd]
          clear heq hd
          go_wp2
          go_ret
          rw [HD.out]
          exact ⟨rfl, hb.trans (hS2.mono hb.size)⟩
      · obtain rfl : k = n := by omega
        go_wp2
        go_ret
        refine ⟨?_, hb⟩
        show Ending.returned (.bool true) = _
        congr 2
        symm
        rw [decide_eq_true_iff]
        refine List.ext_getElem? fun j => ?_
        by_cases hj : j < k
        · exact HE.out j hj
        · rw [List.getElem?_eq_none (by rw [bsOf_length, HL1.out]; omega), List.getElem?_eq_none (by rw [bsOf_length, HL2.out]; omega)]
  · have hd : ((n : Int) != (n' : Int)) = true := by simp; omega
    have hd2 : decide (bsOf L = bsOf L') = false := by
      rw [decide_eq_false_iff_not]
      intro h
      have := congrArg List.length h
      rw [bsOf_length, bsOf_length, HL1.out, HL2.out] at this
      exact hne this
    have HD := Lib.hid hd2
    clear hd2
    go_enter Tryz.func13, Tryz.ntmps13
    go_wp2
    go_ret
    rw [HD.out]
    exact ⟨rfl, Below.refl _ _⟩

/-- The record made from a number. -/
def recAt (n k : Nat) : UInt8 := UInt8.ofNat ((n / 11 + k * n) % 256)
def recTo (n k : Nat) : List UInt8 := (List.range k).map (recAt n)
def recOf (n : Nat) : List UInt8 := recTo n (n % 11)
def recsTo (f : Nat → Int) (k : Nat) : List (List UInt8) := (List.range k).map fun j => recOf (aroundI (f j) 1000).toNat
def recsOf (n : Nat) (f : Nat → Int) : List (List UInt8) := recsTo f (min n 6)
theorem recTo_succ (n k : Nat) : recTo n (k + 1) = recTo n k ++ [recAt n k] := by simp [recTo, List.range_succ]
theorem recTo_len (n k : Nat) : (recTo n k).length = k := by simp [recTo]
theorem recsTo_succ (f : Nat → Int) (k : Nat) : recsTo f (k + 1) = recsTo f k ++ [recOf (aroundI (f k) 1000).toNat] := by simp [recsTo, List.range_succ]
theorem recOf_len (n : Nat) : (recOf n).length ≤ 10 := by unfold recOf; rw [recTo_len]; omega
theorem recsOf_len (n : Nat) (f : Nat → Int) : (recsOf n f).length = min n 6 := by simp [recsOf, recsTo]
theorem recsOf_small (n : Nat) (f : Nat → Int) : ∀ x ∈ recsOf n f, x.length ≤ 10 := by
  intro x hx
  unfold recsOf recsTo at hx
  obtain ⟨j, -, rfl⟩ := List.mem_map.1 hx
  exact recOf_len _
def RecPost (rs : List (List UInt8)) (w : World) (e : Ending) (w' : World) : Prop :=
  ∃ (v : Value) (L : List Bz), e = .returned v ∧ LsOwn w' w.heap.size v L ∧ bsOf L = rs ∧ Below w.heap.size w w'
def RecPost2 (rs : List (List UInt8)) (w : World) (e : Ending) (w' : World) : Prop :=
  ∃ (v : Value) (L : List Bz), e = .returned v ∧ LsOwn w' w.heap.size v L ∧ bsOf L = rs ∧ Below w.heap.size w w' ∧ ∀ z ∈ L, z.low w.heap.size
set_option maxRecDepth 100000 in
set_option maxHeartbeats 1000000 in
theorem records2_any (A : Option Addr) (n c : Nat) (f : Nat → Int) (w : World) (hR : Rd w w.heap.size A n (fun j => .int .i64 (f j))) (hn : n ≤ 9223372036854775807) (hf : Hid (∀ j, j < n → -9223372036854775808 ≤ f j ∧ f j ≤ 9223372036854775807)) :
    Calls Tryz.prog 14 #[.slice A n c] w (RecPost2 (recsOf n f) w) := by
  have HR := Lib.hid hR
  clear hR
  go_enter Tryz.func14, Tryz.ntmps14
  go_wp2
  go_loopw [3, 4] (fun v i wr => ∃ (k : Nat) (L : List Bz), k ≤ min n 6 ∧ i = .int .i64 (k : Int) ∧ Hid (bsOf L = recsTo f k) ∧ Hid (LsOwn wr w.heap.size v L) ∧ Below w.heap.size w wr ∧ Hid (∀ z ∈ L, z.low w.heap.size)) (fun _ i _ => 6 - (intOf i).toNat)
  case atStart => exact ⟨0, [], by omega, rfl, Lib.hid rfl, Lib.hid (LsOwn.nil _ _), Below.refl _ _, Lib.hid (fun _ h => absurd h (by simp))⟩
  case round =>
    obtain ⟨k, L, hk, rfl, HE, HO, hb, HLO⟩ := hrel
    obtain ⟨v3, rfl⟩ : ∃ x, x = u3 := ⟨_, rfl⟩
    by_cases hlt : k < min n 6
    · obtain ⟨b, off, rfl, hb0, hc⟩ := (HR.out.all hb).at_ (show k < n by omega)
      obtain ⟨hf1, hf2⟩ := hf.out k (by omega)
      have hkn : k < n := by omega
      have hk6 : k < 6 := by omega
      obtain ⟨wo, hwo⟩ : ∃ wo : World, wo = wr := ⟨_, rfl⟩
      subst hwo
      go_wp2_with fail
      refine (around_nat (f k) 1000 _ _ rfl hf1 hf2 (by decide) (by decide)).mono ?_
      rintro e w1 ⟨q, rfl, hq, HQ, rfl⟩
      replace HQ : Hid ((q : Int) = aroundI (f k) 1000) := HQ
      go_wp2
      go_loopw [6, 7] (fun v i wr => ∃ j : Nat, j ≤ q % 11 ∧ i = .int .i64 (j : Int) ∧ wr.ownsRow wo.heap.size 5 1 v j ((recTo q j).map fun b => Value.int .u8 ((b.toNat : Nat) : Int)) ∧ Below wo.heap.size wo wr) (fun _ i _ => q % 11 - (intOf i).toNat)
      case atStart => exact ⟨0, by omega, rfl, World.ownsRow_nil _ _ _ _, Below.refl _ _⟩
      case round =>
        obtain ⟨j, hj, rfl, hown, hb2⟩ := hrel
        obtain ⟨v6, rfl⟩ : ∃ x, x = u6 := ⟨_, rfl⟩
        by_cases hlt2 : j < q % 11
        · have hjq : j * q ≤ 10000 := Nat.le_trans (Nat.mul_le_mul (show j ≤ 10 by omega) (show q ≤ 1000 by omega)) (by decide)
          obtain ⟨m, hm⟩ : ∃ m, j * q = m := ⟨_, rfl⟩
          obtain ⟨g, cap, w3, HA, hown3, hb3⟩ := own_one hown (recAt q j) (((q : Int) / 11 + (m : Int)) % 256) (by unfold recAt; rw [hm, ofNat_toNat (by omega)]; omega) (by omega) hb2.size
          have hmul : (j : Int) * (q : Int) = (m : Int) := by rw [← hm]; simp
          have HO3 := Lib.hid hown3
          have HB3 := Lib.hid (hb2.trans hb3)
          clear hown hown3 hb3 hb2
          go_wp2_with (at_builtin; refine wpList_append_run HA.out rfl rfl rfl rfl ?_)
          exact ⟨⟨j + 1, by omega, by go_num, by rw [recTo_succ]; exact HO3.out, HB3.out⟩, by simp [intOf]; omega⟩
        · obtain rfl : j = q % 11 := by omega
          obtain ⟨A6, c6, rfl⟩ := own_slice hown
          have hz := (Bts.of_own hown).1
          have hO2 := HO.out.all hb2
          have HK := Lib.hid (show L.length = k by rw [← bsOf_length, HE.out]; simp [recsTo])
          have hB2 := hb.trans (hb2.mono hb.size)
          have HLO3 : Hid (∀ z ∈ L ++ [⟨A6, q % 11, c6, recTo q (q % 11)⟩], z.low w.heap.size) := Lib.hid (fun y hy => (List.mem_append.1 hy).elim (HLO.out y) (fun hy => by simp at hy; subst hy; exact (Bz.low_own hown).mono hb.size))
          obtain ⟨g, cap, w3, hrun, hown3, hg3, -⟩ := hO2.snoc (ty := 29) ⟨A6, q % 11, c6, recTo q (q % 11)⟩ hz (by rw [HK.out]; omega) hB2.size
          have HRUN := Lib.hid hrun
          have HO3 := Lib.hid hown3
          have HB3 := Lib.hid (hB2.grown hg3 hB2.size (fun r e => (hO2.1.lt r e).1))
          have HE3 : Hid (bsOf (L ++ [⟨A6, q % 11, c6, recTo q (q % 11)⟩]) = recsTo f (k + 1)) := Lib.hid (by
            have hq' : (aroundI (f k) 1000).toNat = q := by have := HQ.out; omega
            rw [bsOf_snoc, recsTo_succ, HE.out, hq']
            rfl)
          clear hown hz hO2 hB2 hrun hown3 hg3 hb2
          go_wp2_with (at_builtin; refine wpList_append_run HRUN.out rfl rfl rfl rfl ?_)
          exact ⟨⟨k + 1, _, by omega, by go_num, HE3, HO3, HB3.out, HLO3⟩, by simp [intOf]; omega⟩
    · obtain ⟨A3, c3, rfl⟩ := HO.out.slice
      have HK : Hid (k = min n 6) := Lib.hid (by omega)
      have HREC : Hid (bsOf L = recsOf n f) := Lib.hid (by unfold recsOf; rw [← HK.out]; exact HE.out)
      by_cases hkn : k < n
      · have h6 : (6 : Int) ≤ (k : Int) := by omega
        go_wp2
        go_ret
        exact ⟨_, L, rfl, HO.out, HREC.out, hb, HLO.out⟩
      · go_wp2
        go_ret
        exact ⟨_, L, rfl, HO.out, HREC.out, hb, HLO.out⟩
theorem records_any (A : Option Addr) (n c : Nat) (f : Nat → Int) (w : World) (hR : Rd w w.heap.size A n (fun j => .int .i64 (f j))) (hn : n ≤ 9223372036854775807) (hf : Hid (∀ j, j < n → -9223372036854775808 ≤ f j ∧ f j ≤ 9223372036854775807)) :
    Calls Tryz.prog 14 #[.slice A n c] w (RecPost (recsOf n f) w) :=
  (records2_any A n c f w hR hn hf).mono fun _ _ ⟨v, L, h1, h2, h3, h4, _⟩ => ⟨v, L, h1, h2, h3, h4⟩
end Go.Proofs.YtldmokjpfnakkaaGreat

/- append of bytes onto a row of the call's own: what was read before is read after. -/
namespace Go.Proofs.YtldmokjpfnakkaaGreat
open Go.RowKit

theorem own_keeps {w : World} {base k m c cv : Nat} {A A' : Option Addr} {bs xs : List UInt8} (h : w.ownsRow base 5 1 (.slice A k cv) k (bs.map fun b => Value.int .u8 ((b.toNat : Nat) : Int))) (hx : xs.length = m) (hR : Rd w w.heap.size A' m (vByte xs)) (hk0 : 0 < k) (hm0 : 0 < m) (hk : k + m ≤ 35184372088832) (hbase : base ≤ w.heap.size) :
    ∃ A3 n3 c3 w3, Hid ((Builtin.append_ #[39, 39] 39 #[.slice A k cv, .slice A' m c]).run Tryz.prog w = .ok (.slice A3 n3 c3) w3) ∧ Hid (n3 = k + m) ∧
      w3.ownsRow base 5 1 (.slice A3 n3 c3) n3 ((bs ++ xs).map fun b => Value.int .u8 ((b.toNat : Nat) : Int)) ∧ w.grownBy w3 (Value.slice A k cv).ownBlock ∧ Rd w3 w3.heap.size A k (vByte bs) := by
  obtain ⟨i0, hi, hz0, hz1, hz2⟩ := info_parts info_u8
  obtain ⟨v', w3, hap, hown, hb, _⟩ := run_append_rd (P := Tryz.prog) w base 39 39 5 i0 _ 1 Tryz.underlying39 hi hz0 hz1 hz2 rfl _ k _ h w.heap.size A' m c (vByte xs) hR hR.none_ (fun _ _ => rfl) (by unfold maxLen; omega) (by omega) hbase
  obtain ⟨A3, c3, rfl⟩ := own_slice hown
  have e : (List.range m).map (vByte xs) = xs.map fun b => Value.int .u8 ((b.toNat : Nat) : Int) := by
    subst hx
    refine List.ext_getElem (by simp) fun i h1 h2 => ?_
    have hi : i < xs.length := by simpa using h2
    simp [vByte, hi]
  rw [e, ← List.map_append] at hown
  obtain ⟨n3, hn3⟩ : ∃ n3, n3 = k + m := ⟨_, rfl⟩
  rw [← hn3] at hown hap
  replace hn3 := Lib.hid hn3
  have hrun := Lib.hid hap
  refine ⟨A3, n3, c3, w3, hrun, hn3, hown, hb, ?_⟩
  have hrd := (rd_bytes h).2.2
  obtain ⟨ab, ao, rfl, hab, hac⟩ := hR hm0
  have hl : (xs.map fun b => Value.int .u8 ((b.toNat : Nat) : Int)).length = m * i0.size := by rw [hz1]; simp [hx]
  have hnews : ∀ (j : Nat) u, (xs.map fun b => Value.int .u8 ((b.toNat : Nat) : Int))[j]? = some u → w.cell? ((⟨ab, ao, none⟩ : Addr).add j) = some u := by
    intro j u hu
    have hj : j < m := by
      rcases Nat.lt_or_ge j m with h | h
      · exact h
      · rw [List.getElem?_eq_none (by simp; omega)] at hu
        cases hu
    have ea : (⟨ab, ao, none⟩ : Addr).add j = ⟨ab, ao + j, none⟩ := by unfold Addr.add; split <;> simp_all
    rw [ea, hac j hj]
    have hj' : j < xs.length := by omega
    rw [List.getElem?_map, List.getElem?_eq_getElem hj'] at hu
    simp only [Option.map_some, Option.some.injEq] at hu
    rw [← hu]
    simp [vByte, hj']
  have h1 : ∀ u ∈ (xs.map fun b => Value.int .u8 ((b.toNat : Nat) : Int)), u.oneCell' = true := by
    intro u hu
    obtain ⟨_, _, rfl⟩ := List.mem_map.1 hu
    rfl
  rcases h.2 with ⟨h2, h0⟩ | ⟨g, cap, cur, h2, hbg, hg, hnc, hcm, hcs, htake⟩
  · omega
  · injection h2 with h2 h3 h4
    subst h2 h4
    by_cases hroom : k + m ≤ cv
    · have hfit : k * i0.size + (xs.map fun b => Value.int .u8 ((b.toNat : Nat) : Int)).length ≤ cur.size := by rw [hl, hcs, hz1]; omega
      have hr := run_append_room (P := Tryz.prog) w 39 39 5 i0 Tryz.underlying39 hi g k cv cur hg ⟨ab, ao, none⟩ m c _ hl hnews h1 hroom hfit
      rw [hrun.out] at hr
      injection hr with hr1 hr2
      injection hr1 with hr3 hr4 hr5
      subst hr3
      have := (rd_bytes hown).2.2
      rw [hn3.out] at this
      exact (this.less (show k ≤ k + m by omega)).congr (fun j hj => by
        have hbl : bs.length = k := by simpa using h.1
        unfold vByte
        rw [List.getElem?_append_left (by omega)])
    · have holds : ∀ j u, (bs.map fun b => Value.int .u8 ((b.toNat : Nat) : Int))[j]? = some u → w.cell? ((⟨g, 0, none⟩ : Addr).add j) = some u := h.cells (g := g) rfl
      have hr := run_append_grow (P := Tryz.prog) w 39 39 5 i0 _ Tryz.underlying39 hi hz0 ⟨g, 0, none⟩ k cv _ (by rw [hz1]; exact h.1) holds ⟨ab, ao, none⟩ m c _ hl hnews (by omega) (by omega) (growslice_fits (by omega) (by rw [hz2]; omega))
      rw [hrun.out] at hr
      injection hr with hr1 hr2
      subst hr2
      exact (hrd.keep (fun b hb => Below.heap_alloc w.drew _ b hb)).more (by simp)
end Go.Proofs.YtldmokjpfnakkaaGreat
