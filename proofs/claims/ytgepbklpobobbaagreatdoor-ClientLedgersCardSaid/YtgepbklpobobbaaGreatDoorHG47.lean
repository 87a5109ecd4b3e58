/- wire's Writer known by its own blocks: contracts that say which blocks turn. -/
import Derived.Test.YtgepbklpobobbaaGreatDoorHG46
import Derived.Test.YtgepbklpobobbaaGreatDoorHG0
import Derived.Test.YtgepbklpobobbaaGreatDoorHG36
import Derived.Test.YtgepbklpobobbaaGreatDoorHG41
import Derived.Test.YtgepbklpobobbaaGreatDoorHG45

namespace Go.Proofs.YtgepbklpobobbaaGreatDoor
open Go.RowKit

/-- A Writer at block gd whose slice is v, with the bytes bs. -/
def WrV (w : World) (gd : Nat) (v : Value) (bs : List UInt8) : Prop :=
  Blk w gd 46 #[v] ∧ w.ownsRow 0 5 1 v bs.length (bs.map fun b => Value.int .u8 ((b.toNat : Nat) : Int))
def WF (gd : Nat) (v : Value) (b : Nat) : Prop := b = gd ∨ v.ownBlock = some b
def WrNext (gd : Nat) (v : Value) (bs : List UInt8) (w w' : World) : Prop :=
  ∃ v', WrV w' gd v' bs ∧ Mod (WF gd v) w w' ∧ (v'.ownBlock = v.ownBlock ∨ ∀ b, v'.ownBlock = some b → w.heap.size ≤ b)
section
variable {w w' w'' : World} {gd : Nat} {v : Value} {bs bs' : List UInt8} {F : Nat → Prop}
theorem WrV.new (w : World) : WrV (w.alloc (.cells #[.slice none 0 0] 46)) w.heap.size (.slice none 0 0) [] := ⟨Blk.new _ _ _, World.ownsRow_nil _ _ _ _⟩
theorem WrV.mod (h : WrV w gd v bs) (m : Mod F w w') (hF : ∀ b, WF gd v b → ¬ F b) : WrV w' gd v bs := ⟨m.blk h.1 (hF _ (.inl rfl)), m.own h.2 (fun g e => hF g (.inr e))⟩
theorem WrV.all (h : WrV w gd v bs) (hb : Below w.heap.size w w') : WrV w' gd v bs := h.mod (F := fun _ => False) (Mod.of_below _ hb) (fun _ _ hf => hf)
theorem WrV.lt (h : WrV w gd v bs) : ∀ b, WF gd v b → b < w.heap.size := by
  rintro b (rfl | e)
  · exact h.1.lt
  · exact (h.2.lt b e).2
theorem WrV.slice (h : WrV w gd v bs) : ∃ A c, v = .slice A bs.length c := own_slice h.2
theorem WrNext.refl (h : WrV w gd v bs) : WrNext gd v bs w w := ⟨v, h, Mod.refl _ _, .inl rfl⟩
theorem WrNext.trans (h : WrNext gd v bs w w') (k : ∀ v', WrV w' gd v' bs → WrNext gd v' bs' w' w'') : WrNext gd v bs' w w'' := by
  obtain ⟨v1, h1, m1, o1⟩ := h
  obtain ⟨v2, h2, m2, o2⟩ := k v1 h1
  refine ⟨v2, h2, m1.trans m2 ?_, ?_⟩
  · rintro b (rfl | e)
    · exact .inl (.inl rfl)
    · rcases o1 with o | o
      · exact .inl (.inr (by rw [← o]; exact e))
      · exact .inr (o b e)
  · rcases o2 with o | o
    · rw [o]; exact o1
    · exact .inr (fun b e => Nat.le_trans m1.size (o b e))
theorem WrNext.step {v1 : Value} (h : WrV w' gd v1 bs) (m1 : Mod (WF gd v) w w') (o1 : v1.ownBlock = v.ownBlock ∨ ∀ b, v1.ownBlock = some b → w.heap.size ≤ b) (k : WrNext gd v1 bs' w' w'') : WrNext gd v bs' w w'' := by
  obtain ⟨v2, h2, m2, o2⟩ := k
  refine ⟨v2, h2, m1.trans m2 ?_, ?_⟩
  · rintro b (rfl | e)
    · exact .inl (.inl rfl)
    · rcases o1 with o | o
      · exact .inl (.inr (by rw [← o]; exact e))
      · exact .inr (o b e)
  · rcases o2 with o | o
    · rw [o]; exact o1
    · exact .inr (fun b e => Nat.le_trans m1.size (o b e))
theorem WrV.wr (h : WrV w gd v bs) : Wr w 0 gd bs := by
  obtain ⟨A, c, rfl⟩ := h.slice
  exact ⟨Nat.zero_le _, A, _, c, rfl, h.1, h.2⟩
theorem wrv_put {w3 : World} {v' : Value} (h : WrV w gd v bs) (hg : w.grownBy w3 v.ownBlock) (hown : w3.ownsRow 0 5 1 v' bs'.length (bs'.map fun b => Value.int .u8 ((b.toNat : Nat) : Int))) (ho : v'.ownBlock = v.ownBlock ∨ ∀ b, v'.ownBlock = some b → w.heap.size ≤ b) :
    w3.cell? ⟨gd, 0, none⟩ = some v ∧ w3.frozen? ⟨gd, 0, none⟩ = false ∧ WrNext gd v bs' w (w3.setCell ⟨gd, 0, none⟩ v') := by
  obtain ⟨k1, k2, k3, k4, -⟩ := own_put (by decide) (Nat.zero_le _) h.1 h.2 hg hown
  exact ⟨k1, k2, v', ⟨k3, k4⟩, (Mod.of_grown hg (fun g e => .inl (.inr e))).set (.inl (.inl rfl)) _, ho⟩
end
theorem WrV.one {w : World} {gd : Nat} {v : Value} {bs : List UInt8} (h : WrV w gd v bs) (hl : bs.length ≤ 35184372088832) (x : UInt8) (xi : Int) (hx : xi = ((x.toNat : Nat) : Int)) :
    ∃ A n c g cap w3, w.cell? ⟨gd, 0, none⟩ = some (.slice A n c) ∧
      Hid ((Builtin.append_ #[44, 44] 44 #[.slice A n c, .slice (some ⟨w.heap.size, 0, none⟩) 1 1]).run Tryz.prog (w.alloc (.cells #[.int .u8 xi] 5)) = .ok (.slice (some ⟨g, 0, none⟩) (n + 1) cap) w3) ∧
      w3.cell? ⟨gd, 0, none⟩ = some (.slice A n c) ∧ w3.frozen? ⟨gd, 0, none⟩ = false ∧ Hid (WrNext gd v (bs ++ [x]) w (w3.setCell ⟨gd, 0, none⟩ (.slice (some ⟨g, 0, none⟩) (n + 1) cap))) := by
  subst hx
  obtain ⟨A, c, rfl⟩ := h.slice
  obtain ⟨i0, hi, hz0, hz1, hz2⟩ := info_parts info_u8
  obtain ⟨g, cap, w3, hap, hown, hg, ho, _⟩ := run_append_one (P := Tryz.prog) w 0 44 44 5 i0 _ 1 Tryz.underlying44 hi hz0 hz1 hz2 rfl _ _ _ h.2 (.int .u8 ((x.toNat : Nat) : Int)) rfl (by unfold maxLen; omega) (by omega) (Nat.zero_le _)
  obtain ⟨k1, k2, k3⟩ := wrv_put (bs' := bs ++ [x]) h hg (by rw [List.map_append, List.length_append]; exact hown) (v' := .slice (some ⟨g, 0, none⟩) (bs.length + 1) cap) (ho.imp (fun e => by simpa [Value.ownBlock] using e) (fun e b eb => by simp [Value.ownBlock] at eb; omega))
  exact ⟨A, _, c, g, cap, w3, by simpa using h.1.cell 0, Lib.hid hap, k1, k2, Lib.hid k3⟩
theorem WrV.more {w : World} {gd : Nat} {v : Value} {bs : List UInt8} (h : WrV w gd v bs) (A' : Option Addr) (m c' : Nat) (xs : List UInt8) (hx : xs.length = m) (hR : Rd w w.heap.size A' m (vByte xs)) (hl : bs.length + m ≤ 70368744177664) :
    ∃ A n c A3 n3 c3 w3, w.cell? ⟨gd, 0, none⟩ = some (.slice A n c) ∧
      Hid ((Builtin.append_ #[44, 44] 44 #[.slice A n c, .slice A' m c']).run Tryz.prog w = .ok (.slice A3 n3 c3) w3) ∧
      w3.cell? ⟨gd, 0, none⟩ = some (.slice A n c) ∧ w3.frozen? ⟨gd, 0, none⟩ = false ∧ Hid (WrNext gd v (bs ++ xs) w (w3.setCell ⟨gd, 0, none⟩ (.slice A3 n3 c3))) := by
  obtain ⟨A, c, rfl⟩ := h.slice
  obtain ⟨i0, hi, hz0, hz1, hz2⟩ := info_parts info_u8
  obtain ⟨v', w3, hap, hown, hg, ho⟩ := run_append_rd (P := Tryz.prog) w 0 44 44 5 i0 _ 1 Tryz.underlying44 hi hz0 hz1 hz2 rfl _ _ _ h.2 w.heap.size A' m c' (vByte xs) hR hR.none_ (fun _ _ => rfl) (by unfold maxLen; omega) (by omega) (Nat.zero_le _)
  have e : (List.range m).map (vByte xs) = xs.map fun b => Value.int .u8 ((b.toNat : Nat) : Int) := by
    subst hx
    refine List.ext_getElem (by simp) fun i h1 h2 => ?_
    have hi : i < xs.length := by simpa using h2
    simp [vByte, hi]
  rw [e, ← hx] at hown
  obtain ⟨A3, c3, rfl⟩ := own_slice hown
  obtain ⟨k1, k2, k3⟩ := wrv_put (bs' := bs ++ xs) h hg (by rw [List.map_append, List.length_append]; exact hown) (ho.imp (fun e => e) (fun e b eb => by rw [e] at eb; injection eb with eb; omega))
  exact ⟨A, _, c, _, _, _, w3, by simpa using h.1.cell 0, Lib.hid hap, k1, k2, Lib.hid k3⟩

set_option maxRecDepth 100000 in
theorem wuintV_any (gd : Nat) (v : Value) (bs : List UInt8) (n : Nat) (ni : Int) (hni : ni = (n : Int)) (w : World) (HW : Hid (WrV w gd v bs)) (hn : n ≤ 18446744073709551615) (hl : bs.length ≤ 17592186044416) :
    Calls Tryz.prog 35 #[.pointer (some ⟨gd, 0, none⟩), .int .u64 ni] w fun e w' => e = .returned (.tuple #[]) ∧ WrNext gd v (bs ++ varint n) w w' := by
  subst hni
  have HV := Lib.hid (varint_len10 hn)
  go_enter Tryz.func35, Tryz.ntmps35
  go_wp2
  go_loopw [1] (fun u wr => ∃ m : Nat, ∃ pre : List UInt8, u = .int .u64 (m : Int) ∧ m ≤ 18446744073709551615 ∧ Hid (pre ++ varint m = bs ++ varint n) ∧ Hid (WrNext gd v pre w wr)) (fun u _ => (intOf u).toNat)
  case atStart => exact ⟨n, bs, rfl, hn, Lib.hid rfl, Lib.hid (WrNext.refl HW.out)⟩
  case round =>
    obtain ⟨m, pre, rfl, hm, HE, HWr⟩ := hrel
    have hpl : pre.length ≤ 35184372088832 := by
      have h1 := congrArg List.length HE.out
      simp only [List.length_append] at h1
      have := HV.out
      omega
    obtain ⟨v1, h1, m1, o1⟩ := HWr.out
    by_cases hge : 128 ≤ m
    · obtain ⟨A, k, c, g, cap, w3, hc, HA, hc3, hf3, HW3⟩ := h1.one hpl (UInt8.ofNat (m % 128 + 128)) (bits BinOp.or IntKind.u8 ((m : Int) % 256) 128) (or128 m)
      have HZ := Lib.hid (WrNext.step h1 m1 o1 HW3.out)
      clear h1 m1 o1 HWr HW3
      go_wp2_with (at_builtin; refine wpList_append_run HA.out rfl rfl rfl rfl ?_)
      exact ⟨⟨m / 128, _, by go_num, by omega, Lib.hid (by rw [← HE.out, varint_ge hge, List.append_assoc]; rfl), HZ⟩, by simp [intOf]; omega⟩
    · obtain ⟨A, k, c, g, cap, w3, hc, HA, hc3, hf3, HW3⟩ := h1.one hpl (UInt8.ofNat m) (m : Int) (by rw [ofNat_toNat (by omega)])
      have HZ := Lib.hid (WrNext.step h1 m1 o1 HW3.out)
      clear h1 m1 o1 HWr HW3
      go_wp2_with (at_builtin; refine wpList_append_run HA.out rfl rfl rfl rfl ?_)
      go_end0
      exact ⟨rfl, by rw [← HE.out, varint_lt (by omega)]; exact HZ.out⟩

end Go.Proofs.YtgepbklpobobbaaGreatDoor

/- wire's Writer known by its own blocks: Int and Ints. -/
namespace Go.Proofs.YtgepbklpobobbaaGreatDoor
open Go.RowKit

set_option maxRecDepth 100000 in
set_option maxHeartbeats 400000 in
theorem wintV_any (gd : Nat) (v : Value) (bs : List UInt8) (n : Int) (w : World) (HW : Hid (WrV w gd v bs)) (h1 : -9223372036854775808 ≤ n) (h2 : n ≤ 9223372036854775807) (hl : bs.length ≤ 17592186044416) :
    Calls Tryz.prog 10 #[.pointer (some ⟨gd, 0, none⟩), .int .i64 n] w fun e w' => e = .returned (.tuple #[]) ∧ WrNext gd v (bs ++ encInt n) w w' := by
  go_enter Tryz.func10, Tryz.ntmps10
  go_wp2_with (first
    | (go_at_call 36; ((with_reducible refine (zigzag_any _ _ h1 h2).mono ?_); rintro e w1 ⟨rfl, rfl⟩))
    | (go_at_call 35; ((with_reducible refine (wuintV_any gd v bs _ _ rfl _ HW (zigI_lt h1 h2) hl).mono ?_); rintro e w1 ⟨rfl, hW1⟩; replace hW1 := Lib.hid hW1)))
  go_end0
  exact ⟨rfl, hW1.out⟩

end Go.Proofs.YtgepbklpobobbaaGreatDoor

/- ClientLedgers, in plain words: the ledger under spawns of gold, the session under requests in order, how far the rounds come. -/
namespace Go.Proofs.YtgepbklpobobbaaGreatDoor
open Go.RowKit

/-- The stack of gold of the client. -/
def goldK : LK := kOf 3 0
def spawnM (n : Int) : Mv := ⟨0, 3, 0, n⟩
structure LgI (mx : Int → Bool) (ns : List Int) (S : LSt) : Prop where
  ok : LOk mx (900 * (ns.length : Int)) S
  len : (S.st goldK).length ≤ ns.length
  sum : totL (S.st goldK) = ns.sum
  tot : S.tot 0 = ns.sum
  stp : S.ns = ns.length
  nf : S.nf = ns.length
  now : S.now = 0
theorem LgI.zero (mx : Int → Bool) : LgI mx [] (lst0 1) where
  ok := ⟨fun k l hl => (nomatch hl), fun k => (by show 0 ≤ 4096; decide), fun k _ => (by show totL [] ≤ 900 * ((([] : List Int).length : Nat) : Int); decide), fun i => ⟨Int.le_refl _, (by show (0 : Int) ≤ MaxU; decide)⟩, (by show 1 ≤ 1000; decide), (by show 0 ≤ 1000000; decide), (by show 0 ≤ 60000; decide)⟩
  len := Nat.le_refl _
  sum := rfl
  tot := rfl
  stp := rfl
  nf := rfl
  now := rfl
theorem sum_le {ns : List Int} (h : ∀ n ∈ ns, 1 ≤ n ∧ n ≤ 900) : 0 ≤ ns.sum ∧ ns.sum ≤ 900 * (ns.length : Int) := by
  induction ns with
  | nil => simp
  | cons n ns ih =>
    have h1 := ih (fun x hx => h x (by simp [hx]))
    have h2 := h n (by simp)
    rw [List.sum_cons, List.length_cons]
    omega
/-- A spawn of gold is posted. -/
theorem LgI.spawn {mx : Int → Bool} {ns : List Int} {S : LSt} (h : LgI mx ns S) (hs : ∀ n ∈ ns, 1 ≤ n ∧ n ≤ 900) (hl : ns.length ≤ 12) {n : Int} (hn : 1 ≤ n ∧ n ≤ 900) :
    ∃ S1, mvsP mx S [spawnM n] = .ok S1 ∧ LgI mx (ns ++ [n]) { S1 with ns := S.ns + 1, now := 0 } := by
  have hsum := sum_le hs
  have hw : wdP mx S (spawnM n) = some S := by unfold wdP spawnM; rw [if_pos rfl]
  have ht : totP S (spawnM n) = ns.sum + n := by unfold totP spawnM; dsimp only; rw [if_pos rfl, h.tot]
  have hm : moveP mx S (spawnM n) = .ok (landP S (spawnM n) (ns.sum + n)) := by
    unfold moveP
    rw [hw]
    dsimp only
    rw [ht, if_neg (by unfold MaxU; omega), if_neg (by have h1 := h.len; show ¬ 4096 ≤ (S.st goldK).length; omega)]
  have hms : mvsP mx S [spawnM n] = .ok (landP S (spawnM n) (ns.sum + n)) := by
    unfold mvsP
    rw [hm]
    rfl
  obtain ⟨k1, k2, k3, k4, k5⟩ := mvsP_ok [spawnM n] h.ok (fun m hm => by rw [List.mem_singleton] at hm; subst hm; exact ⟨hn.1, Int.le_trans hn.2 (by decide)⟩) (by have := h.nf; show S.nf + 1 ≤ 1000000; omega) hms
  have e : sumN [spawnM n] = n := by simp [sumN, spawnM]
  have el : (ns ++ [n]).length = ns.length + 1 := by simp
  have es : (ns ++ [n]).sum = ns.sum + n := by simp
  rw [e] at k1
  have k1' := k1.more (K' := 900 * ((ns ++ [n]).length : Int)) (by rw [el]; omega)
  have hst : (landP S (spawnM n) (ns.sum + n)).st goldK = putL (S.st goldK) ⟨S.id, 0, n⟩ := by
    show (if goldK = goldK then putL (S.st goldK) ⟨S.id, 0, n⟩ else S.st goldK) = _
    rw [if_pos rfl]
  refine ⟨_, hms, ⟨⟨k1'.ok, k1'.len, k1'.mix, k1'.tot, k1'.sh, k1'.nf, by have := h.stp; show S.ns + 1 ≤ 60000; omega⟩, ?_, ?_, ?_, ?_, ?_, rfl⟩⟩
  · show ((landP S (spawnM n) (ns.sum + n)).st goldK).length ≤ _
    rw [hst, el]
    have h1 := (putL_len (S.st goldK) ⟨S.id, 0, n⟩).2
    have h2 := h.len
    omega
  · show totL ((landP S (spawnM n) (ns.sum + n)).st goldK) = _
    rw [hst, putL_tot, es, h.sum]
  · show (if (0 : Int) = 0 then ns.sum + n else S.tot 0) = _
    rw [if_pos rfl, es]
  · show S.ns + 1 = _
    rw [el, h.stp]
  · show S.nf + 1 = _
    rw [el, h.nf]
/-- How far the rounds come that try all requests in turn: d of len are performed before round j. -/
def Far (len j d : Nat) : Prop := d ≤ len ∧ (d < len → j + (d + len - (36 + j) % len) % len + 1 ≤ (d + 1) * len)
theorem Far.zero {len d : Nat} (hl : 0 < len) (hd : d ≤ len) : Far len 0 d := ⟨hd, fun hlt => by
  have h1 := Nat.mod_lt (d + len - (36 + 0) % len) hl
  have h2 : len ≤ (d + 1) * len := Nat.le_mul_of_pos_left _ (by omega)
  omega⟩
theorem succ_mod {a n : Nat} (hn : 0 < n) : (a + 1) % n = if a % n + 1 = n then 0 else a % n + 1 := by
  have h := Nat.div_add_mod a n
  have hl := Nat.mod_lt a hn
  split
  · rename_i h1
    rw [show a + 1 = n * (a / n + 1) by rw [Nat.mul_add]; omega]
    exact Nat.mul_mod_right _ _
  · rename_i h1
    rw [show a + 1 = n * (a / n) + (a % n + 1) by omega, Nat.mul_add_mod]
    exact Nat.mod_eq_of_lt (by omega)
theorem dist_mod {d n k : Nat} (hd : d < n) (hk : k < n) : (d + n - k) % n = if k ≤ d then d - k else d + n - k := by
  split
  · rw [show d + n - k = (d - k) + n by omega, Nat.add_mod_right]
    exact Nat.mod_eq_of_lt (by omega)
  · exact Nat.mod_eq_of_lt (by omega)
/-- A round: the request at k is performed if it is the next one. -/
theorem Far.step {len j d d' : Nat} (hl : 0 < len) (h : Far len j d) (hd : d' = if (36 + j) % len = d then d + 1 else d) : Far len (j + 1) d' := by
  have hk := Nat.mod_lt (36 + j) hl
  have hs := succ_mod (a := 36 + j) hl
  obtain ⟨h0, h1⟩ := h
  unfold Far
  rw [show 36 + (j + 1) = 36 + j + 1 by omega, hs]
  generalize (36 + j) % len = k at *
  by_cases hkd : k = d
  · rw [if_pos hkd] at hd
    subst hd hkd
    have h2 := h1 hk
    rw [dist_mod hk hk, if_pos (Nat.le_refl _)] at h2
    have e : (k + 1 + 1) * len = (k + 1) * len + len := Nat.succ_mul _ _
    refine ⟨by omega, fun hlt => ?_⟩
    rw [if_neg (by omega), dist_mod hlt (by omega), if_pos (Nat.le_refl _)]
    omega
  · rw [if_neg hkd] at hd
    subst hd
    refine ⟨h0, fun hlt => ?_⟩
    have h2 := h1 hlt
    rw [dist_mod hlt hk] at h2
    rw [dist_mod hlt (by split <;> omega)]
    split at h2 <;> split <;> split <;> omega
theorem Far.done {len d : Nat} (hl : 0 < len) (hlen : len ≤ 12) (h : Far len (12 * len) d) : d = len := by
  rcases Nat.lt_or_ge d len with hlt | hge
  · have h1 := h.2 hlt
    have h2 : (d + 1) * len ≤ 12 * len := Nat.mul_le_mul_right _ (by omega)
    omega
  · have := h.1
    omega
end Go.Proofs.YtgepbklpobobbaaGreatDoor

/- ClientLedgers, in plain words: the session of client 3 under its requests. -/
namespace Go.Proofs.YtgepbklpobobbaaGreatDoor
open Go.RowKit

/-- The first d requests are performed and answered; bod k: the bytes of request k + 1. -/
def SesP (σ : Int → Option CSt) (bod : Nat → List UInt8) (d : Nat) : Prop := ∃ acc : List AL, σ 3 = some (77, (d : Int), acc) ∧ acc.length = d ∧ ∀ k (h : k < acc.length), (acc[k]).1 = bodyI (bod k) ∧ (acc[k]).2.1 = true
/-- Request k + 1. -/
def rqP (bod : Nat → List UInt8) (k : Nat) : Int × Int × List UInt8 × Int := (3, (k : Int) + 1, bod k, tagI 77 3 ((k : Int) + 1) (bodyI (bod k)))
section
variable {σ : Int → Option CSt} {bod : Nat → List UInt8} {d k : Nat} {r : Rq}
theorem SesP.head {acc : List AL} (hr : r.log = rqP bod k) (hn : r.n = r.bs.length) (hb : (bod k).length ≤ 60) (hs : σ 3 = some (77, (d : Int), acc)) : acRes σ r = accRes true (d : Int) acc ((k : Int) + 1) (bodyI (bod k)) ∧ r.cl = 3 ∧ r.num = (k : Int) + 1 ∧ r.bs = bod k := by
  obtain ⟨r1, r2, r3, r4⟩ : r.cl = 3 ∧ r.num = (k : Int) + 1 ∧ r.bs = bod k ∧ r.tag = tagI 77 3 ((k : Int) + 1) (bodyI (bod k)) := by
    unfold rqP Rq.log at hr
    simpa using hr
  have ht : tagOk 77 r = true := by
    unfold tagOk
    rw [r4, r1, r2, r3]
    simp
  refine ⟨?_, r1, r2, r3⟩
  unfold acRes
  have hl : r.n ≤ 60 := by rw [hn, r3]; exact hb
  rw [if_neg (by rw [r1, r2]; omega), r1, hs]
  dsimp only
  rw [ht, r2, r3]
theorem SesP.more (h : SesP σ bod d) (hr : r.log = rqP bod k) (hn : r.n = r.bs.length) (hb : (bod k).length ≤ 60) (hk : d < k) : (acRes σ r).1 = false := by
  obtain ⟨acc, hs, hl, -⟩ := h
  rw [(SesP.head hr hn hb hs).1]
  unfold accRes
  rw [if_neg (by decide), if_pos (by omega)]
theorem SesP.old (h : SesP σ bod d) (hr : r.log = rqP bod k) (hn : r.n = r.bs.length) (hb : (bod k).length ≤ 60) (hk : k < d) : (acRes σ r).1 = false := by
  obtain ⟨acc, hs, hl, ha⟩ := h
  rw [(SesP.head hr hn hb hs).1]
  have hp : posL acc.length (d : Int) ((k : Int) + 1) = ((k : Nat) : Int) := by unfold posL; omega
  have hml : k < acc.length := by omega
  obtain ⟨a1, a2⟩ := ha k hml
  unfold accRes
  rw [if_neg (by decide), if_neg (by omega), if_neg (by omega), hp, if_neg (by omega), Int.toNat_natCast, List.getElem?_eq_getElem hml]
  dsimp only
  rw [if_neg (by simp [a1]), if_pos a2]
theorem waits_doneP {acc : List AL} (h : ∀ k (h : k < acc.length), (acc[k]).2.1 = true) : waitsL acc = false := by
  unfold waitsL
  rcases ha : acc.getLast? with _ | a
  · rfl
  · rw [List.getLast?_eq_getElem?] at ha
    obtain ⟨hk, rfl⟩ := List.getElem?_eq_some_iff.1 ha
    dsimp only
    rw [h _ hk]
    rfl
theorem acSt_noP (h : (acRes σ r).1 = false) : acSt σ r = σ := by unfold acSt; rw [h]; rfl
/-- The request that comes next is accepted; its answer is taken. -/
theorem SesP.new (h : SesP σ bod d) (hr : r.log = rqP bod d) (hn : r.n = r.bs.length) (hb : (bod d).length ≤ 60) (hd : d < 16) :
    acRes σ r = (true, [], 0) ∧ anErr (acSt σ r) 3 ((d : Int) + 1) 0 = 0 ∧ SesP (anSt (acSt σ r) 3 ((d : Int) + 1) 0 []) bod (d + 1) := by
  obtain ⟨acc, hs, hl, ha⟩ := h
  obtain ⟨h1, r1, r2, r3⟩ := SesP.head hr hn hb hs
  have hw := waits_doneP (fun k hk => (ha k hk).2)
  have hres : acRes σ r = (true, [], 0) := by
    rw [h1]
    unfold accRes
    rw [if_neg (by decide), if_neg (by omega), if_pos (by omega), hw]
    rfl
  have ht : tagOk 77 r = true := by
    have r4 : r.tag = tagI 77 3 ((d : Int) + 1) (bodyI (bod d)) := by
      unfold rqP Rq.log at hr
      simp at hr
      exact hr.2.2.2
    unfold tagOk
    rw [r4, r1, r2, r3]
    simp
  have hst : acSt σ r = upd σ 3 (77, (d : Int) + 1, acc ++ [(bodyI (bod d), false, [])]) := by
    unfold acSt
    rw [hres, if_pos rfl, r1, hs]
    dsimp only
    rw [ht, r2, r3]
    congr 1
    unfold accNew
    rw [← h1, hres, if_pos rfl]
    unfold cut16
    rw [if_neg (by rw [List.length_append, List.length_singleton]; omega)]
  have hat : acSt σ r 3 = some (77, (d : Int) + 1, acc ++ [(bodyI (bod d), false, [])]) := by rw [hst]; unfold upd; rw [if_pos rfl]
  have hw2 : waitsL (acc ++ [(bodyI (bod d), false, ([] : List UInt8))]) = true := by unfold waitsL; simp
  have he0 : ansErr ((d : Int) + 1) (acc ++ [(bodyI (bod d), false, [])]) ((d : Int) + 1) 0 = 0 := by
    unfold ansErr
    rw [hw2, if_neg (by simp), if_neg (by omega)]
  have he : anErr (acSt σ r) 3 ((d : Int) + 1) 0 = 0 := by
    unfold anErr
    rw [hat]
    dsimp only
    exact he0
  refine ⟨hres, he, acc ++ [(bodyI (bod d), true, [])], ?_, by rw [List.length_append, hl]; rfl, fun k hk => ?_⟩
  · unfold anSt
    rw [hat]
    dsimp only
    unfold upd
    rw [if_pos rfl]
    unfold ansNew
    rw [if_pos he0, List.length_append, List.length_singleton, Nat.add_sub_cancel, List.getLast?_append]
    simp
  · rw [List.length_append, List.length_singleton] at hk
    rw [List.getElem_append]
    split
    · rename_i hk2
      exact ha k hk2
    · have : k = d := by omega
      subst this
      simp
end
end Go.Proofs.YtgepbklpobobbaaGreatDoor

/- client: pairs of Sessions, the package's and the reference's, side by side. -/
namespace Go.Proofs.YtgepbklpobobbaaGreatDoor
open Go.RowKit

structure Pr where
  g : Nat
  mb : Nat
  cl : List Cl
  gm : Nat
  rv : Value
  rl : List RCl
def Pr.F (p : Pr) (b : Nat) : Prop := SesF p.g p.mb p.cl b ∨ RSesF p.gm p.rv b
theorem SesAt.tyF {w : World} {g mb : Nat} {cl : List Cl} (h : SesAt w g mb cl) : ∀ b, SesF g mb cl b → b = mb ∨ Ty w b 104 ∨ Ty w b 111 ∨ Ty w b 121 := by
  rintro b (rfl | rfl | ⟨c, hc, (rfl | e)⟩)
  · exact .inr (.inl h.blk.ty)
  · exact .inl rfl
  · exact .inr (.inr (.inl (h.ok c hc).1.ty))
  · exact .inr (.inr (.inr (Ty.of_own (h.ok c hc).2.1 e)))
theorem SesAt.notF {w : World} {g mb b : Nat} {t : TypeId} {cl : List Cl} (h : SesAt w g mb cl) (hb : Ty w b t) (h1 : t ≠ 104) (h2 : t ≠ 111) (h3 : t ≠ 121) : ¬ SesF g mb cl b := fun hf => by
  rcases h.tyF b hf with rfl | e | e | e
  · exact h.map.not_ty hb
  · exact h1 (Ty.unique hb e)
  · exact h2 (Ty.unique hb e)
  · exact h3 (Ty.unique hb e)
section
variable {W w w' : World} {L : List Pr} {i : Nat}
end
end Go.Proofs.YtgepbklpobobbaaGreatDoor
