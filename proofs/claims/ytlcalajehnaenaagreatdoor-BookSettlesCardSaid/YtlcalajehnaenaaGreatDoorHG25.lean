/- book: Orders. -/
import Derived.Test.YtlcalajehnaenaaGreatDoorHG24
import Derived.Test.YtlcalajehnaenaaGreatDoorHG22
import Derived.Test.YtlcalajehnaenaaGreatDoorHG23
import Derived.Test.YtlcalajehnaenaaGreatDoorHG16
import Derived.Lib.SliceRun
import Derived.Deep.LoopGhost
import Derived.Deep.DeepCutAuto
import Derived.Test.YtlcalajehnaenaaGreatDoorHG21
import Derived.Test.YtlcalajehnaenaaGreatDoorHG0
namespace Go.Proofs.YtlcalajehnaenaaGreatDoor
open Go.RowKit
theorem slT_ord : SlT Tryz.prog 95 55 6 48 := SlT.of Tryz.underlying95 (by kernel_rfl) (by decide)
def OrdPost (b : BkS) (w : World) (e : Ending) (w' : World) : Prop := ∃ A c, e = .returned (.slice A b.openOs.length c) ∧ w'.ownsRow w.heap.size 55 6 (.slice A b.openOs.length c) b.openOs.length (b.openOs.flatMap Ord.cells) ∧ Below w.heap.size w w'
theorem one6 (a b : Int) (c : Bool) (d e f : Int) : ∀ u ∈ (#[Value.int .i64 a, .int .i64 b, .bool c, .int .i64 d, .int .i64 e, .int .i64 f] : Array Value).toList, u.oneCell' = true := by
 intro u hu
 simp at hu
 rcases hu with rfl | rfl | rfl | rfl | rfl | rfl <;> rfl
set_option maxRecDepth 100000 in
set_option maxHeartbeats 2000000 in
theorem orders_any (gb B : Nat) (V : BkV) (b : BkS) (w : World) (HK : Hid (BkAt w B gb V b)) :
 Calls Tryz.prog 37 #[.pointer (some ⟨gb, 0, none⟩)] w (OrdPost b w) := by
 obtain ⟨A1, n1, c1, hV1⟩ : ∃ A n c, V.b = (A, n, c) := ⟨_, _, _, rfl⟩
 obtain ⟨A2, n2, c2, hV2⟩ : ∃ A n c, V.s = (A, n, c) := ⟨_, _, _, rfl⟩
 have hI1 : IRow w B (A1, n1, c1) b.bs := by have := HK.out.bs; rw [hV1] at this; exact this
 have hI2 : IRow w B (A2, n2, c2) b.ss := by have := HK.out.ss; rw [hV2] at this; exact this
 have hl1 := hI1.len
 have hl2 := hI2.len
 dsimp only at hl1 hl2
 have hfew := HK.out.ok.few
 obtain ⟨m, hm⟩ : ∃ m, n1 + n2 = m := ⟨_, rfl⟩
 have hil : b.openIds.length = m := by rw [BkS.openIds_len HK.out.ok, hl1, hl2, hm]
 have hm2 : m ≤ 4096 := by omega
 have HIL := Lib.hid hil
 have HS : Hid (∀ w', Below w.heap.size w w' → (fun w' => w'.cell? ⟨gb, 1, none⟩ = some (.slice A1 n1 c1) ∧ w'.cell? ⟨gb, 3, none⟩ = some (.slice A2 n2 c2)) w') := Lib.hid (fun w' hb => by
  have q := HK.out.blk.all hb
  have u1 := q.cell 1
  have u3 := q.cell 3
  simp only [List.getElem?_toArray, List.getElem?_cons_zero, List.getElem?_cons_succ] at u1 u3
  unfold slV at u1 u3
  rw [hV1] at u1
  rw [hV2] at u3
  exact ⟨u1, u3⟩)
 have HC : Hid (∀ w' vb, Below w.heap.size w w' → Blk w' vb 22 #[.slice A1 n1 c1, .slice A2 n2 c2] → Calls Tryz.prog 81 #[.slice (some ⟨vb, 0, none⟩) 2 2] w' fun e w'' => ∃ A c, e = .returned (.slice A m c) ∧ OwnI w'' w'.heap.size A m c ((b.bs.map fun (k : Nat) => (k : Int)) ++ (b.ss.map fun (k : Nat) => (k : Int))) ∧ Below w'.heap.size w' w'') := Lib.hid (fun w' vb hb hv => by
  have := cat_any (A1, n1, c1) (A2, n2, c2) (b.bs.map fun (k : Nat) => (k : Int)) (b.ss.map fun (k : Nat) => (k : Int)) vb w' (Lib.hid (hI1.all hb).nin) (Lib.hid (hI2.all hb).nin) hv (by dsimp only; omega) (by dsimp only; omega)
  dsimp only at this
  rw [hm] at this
  exact this)
 have HID : Hid (∀ k, k < m → (b.openIds[k]?).getD 0 < b.os.length) := Lib.hid (fun k hk => by
  rw [← hil] at hk
  rw [List.getElem?_eq_getElem hk]
  have := (BkS.mem_openIds HK.out.ok).1 (List.getElem_mem hk)
  rcases this with h | h
  ·exact (HK.out.ok.mem true _ h).1
  ·exact (HK.out.ok.mem false _ h).1)
 have HSO := Lib.hid (sorted_ids HK.out.ok)
 obtain ⟨oa, hoa⟩ : ∃ oa, V.oA = oa := ⟨_, rfl⟩
 obtain ⟨nn, hnn⟩ : ∃ nn, b.os.length = nn := ⟨_, rfl⟩
 rw [hnn] at HID
 have HNN := Lib.hid hnn
 have HOA := Lib.hid hoa
 have hP : Below w.heap.size w w.drew := below_drewN (Below.refl _ _) 1
 have hgb := HK.out.blk.lt
 clear hI1 hI2 hl1 hl2 hfew hm hil hnn hoa hV1 hV2
 go_enter Tryz.func37, Tryz.ntmps37
 go_wp2
 refine wp_region_held_drew (S := (fun w' => w'.cell? ⟨gb, 1, none⟩ = some (.slice A1 n1 c1) ∧ w'.cell? ⟨gb, 3, none⟩ = some (.slice A2 n2 c2))) (by kernel_rfl) (HS.out _ hP) (fun hHeld => ?_)
 refine takeJ 0 (some 7) ?_
 refine takeJ 1 (some 8) ?_
 refine takeJ 2 (some 9) ?_
 refine takeJ 3 (some 10) ?_
 refine takeJ 4 (some 11) ?_
 refine takeJ 5 (some 12) ?_
 refine takeJ 6 (some 13) ?_
 refine takeJ 7 (some 14) ?_
 refine takeJ 8 (some 15) ?_
 refine takeJ 9 (some 16) ?_
 refine takeJ 10 (some 17) ?_
 refine takeJ 11 (some 18) ?_
 refine wpAnyH_ready (rs := [12]) (by kernel_rfl) (by simp) ?_
 refine AllReadyH.cons rfl (fun K hK => ?_) AllReadyH.nil
 go_simp
 have hVB := blk_of hP 22 #[.slice A1 n1 c1, .slice A2 n2 c2]
 replace hP := hP.alloc hP.size (.cells #[.slice A1 n1 c1, .slice A2 n2 c2] 22)
 refine hK.out _ _ ?_ (fun hH12 => ?_)
 ·exact (HS.out _ hP)
 clear hK K
 try simp only [Act.put, List.setIfInBounds_toArray]
 refine wpAnyH_ready (rs := [13]) (by kernel_rfl) (by simp) ?_
 refine AllReadyH.cons rfl (fun K hK => ?_) AllReadyH.nil
 go_simp
 go_at_call 81
 (refine (HC.out _ _ hP hVB).mono ?_)
 rintro e w5 ⟨A5, c5, rfl, ho5, hb5⟩
 have hP5 := bt hP hb5
 go_wp2
 refine hK.out _ _ ?_ (fun hH13 => ?_)
 ·exact (HS.out _ hP5)
 clear hK K
 try simp only [Act.put, pB, pC, pD]
 refine takeI 14 (some 3) (v := ?_) ?_ ?_
 rotate_left
 ·(intro o ho w hSw; obtain ⟨z0, z1⟩ := hSw; cases ho; go_simp; try with_reducible rfl)
 (try simp only [Act.put]); (try simp only [pB]); (try simp only [pD]); (try simp only [pC])
 refine wpAnyH_done (by kernel_rfl) ?_ _
 have ho6 : OwnI w5 w.heap.size A5 m c5 ((b.bs.map fun (k : Nat) => (k : Int)) ++ (b.ss.map fun (k : Nat) => (k : Int))) := by
  refine ⟨ho5.1, ?_⟩
  rcases ho5.2 with h | ⟨g, cap, cur, h1, h2, h3⟩
  ·exact .inl h
  ·exact .inr ⟨g, cap, cur, h1, by simp at h2; omega, h3⟩
 have HO6 := Lib.hid ho6
 have HP5 := Lib.hid hP5
 clear ho5 hb5 hP5 hVB hP ho6 HC HS hH12 hH13
 try clear hHeld
 go_wp2_with (go_at_call 82; ((with_reducible refine (sort_any _ _ _ w.heap.size _ _ HO6.out (by omega)).mono ?_); rintro e w6 ⟨rfl, ho7, hm7⟩))
 rw [HSO.out] at ho7
 have hb6 : Below w.heap.size w w6 := hm7.below HP5.out HP5.out.size (fun g hg => (own_ge HO6.out hg).1)
 have HO7 := Lib.hid ho7
 have HB6 := Lib.hid hb6
 clear ho7 hm7 hb6 HO6 HP5 HSO
 go_loopw [4, 25] (fun lv kv w2 => ∃ (k : Nat) (A : Option Addr) (c : Nat), k ≤ m ∧ kv = .int .i64 (k : Int) ∧ lv = .slice A k c ∧ Hid (w2.ownsRow w.heap.size 55 6 (.slice A k c) k (((b.openIds.take k).map (ordAt b.os)).flatMap Ord.cells)) ∧ Hid (OwnI w2 w.heap.size A5 m c5 (b.openIds.map fun (k : Nat) => (k : Int))) ∧ Hid (Below w.heap.size w w2)) (fun _ kv _ => m - (intOf kv).toNat)
 case atStart => exact ⟨0, none, 0, by omega, rfl, rfl, Lib.hid (World.ownsRow_nil _ _ _ 6), HO7, HB6⟩
 case round =>
  clear HO7 HB6
  obtain ⟨k, A, c, hk, rfl, rfl, HO, HI, HB⟩ := hrel
  rcases Nat.lt_or_ge k m with hkm | hkm
  ·have hki : (k : Int) < (m : Int) := by omega
   obtain ⟨gi, e1, hge, hgl⟩ := own_some HI.out (show 0 < m by omega)
   subst e1
   have ci := own_int HI.out hkm
   obtain ⟨id, hid⟩ : ∃ id, (b.openIds[k]?).getD 0 = id := ⟨_, rfl⟩
   have hidl := HID.out k hkm
   rw [hid] at hidl
   have hkl : k < b.openIds.length := by rw [HIL.out]; exact hkm
   have hid2 : b.openIds[k] = id := by rw [← hid, List.getElem?_eq_getElem hkl]; rfl
   have hci : wr.cell? ⟨gi, k, none⟩ = some (.int .i64 (id : Int)) := by
    have h9 := ci.1
    simp [hkl, hid2] at h9
    exact h9
   have HT : Hid (((b.openIds.take (k + 1)).map (ordAt b.os)).flatMap Ord.cells = ((b.openIds.take k).map (ordAt b.os)).flatMap Ord.cells ++ #[.int .i64 (ordAt b.os id).id, .int .i64 (ordAt b.os id).acc, .bool (ordAt b.os id).buy, .int .i64 (ordAt b.os id).price, .int .i64 (ordAt b.os id).n, .int .i64 (ordAt b.os id).left].toList) := Lib.hid (by
    rw [← List.take_append_getElem hkl, hid2, List.map_append, List.flatMap_append]
    rfl)
   have hAB := HK.out.all HB.out
   have hidl2 : id < b.os.length := by rw [HNN.out]; exact hidl
   obtain ⟨gr, e2, lgr, -, x0, x1, x2, x3, x4, x5⟩ := hAB.order hidl2
   have c0 := hAB.blk.cell 0
   simp only [List.getElem?_toArray, List.getElem?_cons_zero] at c0
   unfold BkV.os at c0
   rw [e2, HNN.out] at c0
   obtain ⟨x, hx⟩ : ∃ x, ordAt b.os id = x := ⟨_, rfl⟩
   rw [hx] at x0 x1 x2 x3 x4 x5 HT
   obtain ⟨A', c', w3, hrun, hown, hb3, hg3⟩ := app_elem 95 slT_ord HO.out #[.int .i64 x.id, .int .i64 x.acc, .bool x.buy, .int .i64 x.price, .int .i64 x.n, .int .i64 x.left] rfl (one6 _ _ _ _ _ _) (by omega) (by decide) HB.out.size
   have HI3 : Hid (OwnI w3 w.heap.size (some ⟨gi, 0, none⟩) m c5 (b.openIds.map fun (k : Nat) => (k : Int))) := Lib.hid (own_other HI.out HO.out (by decide) hg3)
   have HO3 : Hid (w3.ownsRow w.heap.size 55 6 (.slice A' (k + 1) c') (k + 1) (((b.openIds.take (k + 1)).map (ordAt b.os)).flatMap Ord.cells)) := Lib.hid (by rw [HT.out]; exact hown)
   have HB3 : Hid (Below w.heap.size w w3) := Lib.hid (HB.out.trans hb3)
   have hidn : (id : Int) < (nn : Int) := by omega
   have HR := Lib.hid hrun
   clear hown hb3 hg3 hid hid2 hkl ci hAB e2 hx hidl2 hrun
   go_wp2_with (at_builtin; refine wpList_append_run HR.out (by rfl) (by rfl) (by rfl) (by rfl) ?_)
   exact ⟨⟨k + 1, A', c', by omega, by go_num, rfl, HO3, HI3, HB3⟩, by simp [intOf]; omega⟩
  ·obtain rfl : k = m := by omega
   have HL : Hid (b.openOs.length = k) := Lib.hid (by unfold BkS.openOs; rw [List.length_map, HIL.out])
   have HF : Hid (OrdPost b w (.returned (.slice A k c)) wr) := Lib.hid ⟨A, c, by rw [HL.out], by
    have := HO.out
    rw [List.take_of_length_le (by rw [HIL.out]; exact Nat.le_refl _)] at this
    rw [HL.out]
    exact this, HB.out⟩
   go_wp2
   go_ret
   exact HF.out
end Go.Proofs.YtlcalajehnaenaaGreatDoor
namespace Go.Proofs.YtlcalajehnaenaaGreatDoor
open Go.RowKit
section
variable {l : List ROrd} {b : BkS}
end
end Go.Proofs.YtlcalajehnaenaaGreatDoor
namespace Go.Proofs.YtlcalajehnaenaaGreatDoor
open Go.RowKit
section
variable {W w w' w'' : World} {B gb : Nat} {V : BkV} {b b' b'' : BkS}
theorem BkPost.same (h : BkAt w B gb V b) (hb : Below w.heap.size w w') : BkPost gb B V b w b w' := ⟨V, h.all hb, Mod.of_below _ hb, fun _ hg => .inl hg⟩
theorem BkPost.pre (hb : Below w.heap.size w w') (h : BkPost gb B V b w' b' w'') : BkPost gb B V b w b' w'' := by
 obtain ⟨V', h1, h2, h3⟩ := h
 exact ⟨V', h1, (Mod.of_below _ hb).trans h2 (fun g hg => .inl hg), fun g hg => (h3 g hg).imp id (fun h => Nat.le_trans hb.size h)⟩
theorem BkPost.post (h : BkPost gb B V b w b' w') (hb : Below w'.heap.size w' w'') : BkPost gb B V b w b' w'' := by
 obtain ⟨V', h1, h2, h3⟩ := h
 exact ⟨V', h1.all hb, h2.then_below hb, h3⟩
theorem BkPost.then (h : BkPost gb B V b w b' w') (k : ∀ V', BkAt w' B gb V' b' → (∀ g, BkF gb V' b'.os.length g → BkF gb V b.os.length g ∨ w.heap.size ≤ g) → BkPost gb B V' b' w' b'' w'') : BkPost gb B V b w b'' w'' := by
 obtain ⟨V', h1, h2, h3⟩ := h
 obtain ⟨V'', k1, k2, k3⟩ := k V' h1 h3
 refine ⟨V'', k1, h2.trans k2 h3, fun g hg => ?_⟩
 rcases k3 g hg with h | h
 ·exact h3 g h
 ·exact .inr (Nat.le_trans h2.size h)
end
theorem getO_in {os : List Ord} {id : Int} (h0 : 0 ≤ id) (h1 : id < (os.length : Int)) : getO os id = ordAt os id.toNat := if_pos ⟨h0, h1⟩
theorem hasO_in {os : List Ord} {id : Int} (h0 : 0 ≤ id) (h1 : id < (os.length : Int)) : hasO os id = true := by
 unfold hasO
 simp [h0, h1]
end Go.Proofs.YtlcalajehnaenaaGreatDoor
namespace Go.Proofs.YtlcalajehnaenaaGreatDoor
open Go.RowKit
section
variable {b : BkS}
end
end Go.Proofs.YtlcalajehnaenaaGreatDoor
namespace Go.Proofs.YtlcalajehnaenaaGreatDoor
open Go.RowKit
end Go.Proofs.YtlcalajehnaenaaGreatDoor
namespace Go.Proofs.YtlcalajehnaenaaGreatDoor
open Go.RowKit
end Go.Proofs.YtlcalajehnaenaaGreatDoor
namespace Go.Proofs.YtlcalajehnaenaaGreatDoor
open Go.RowKit
theorem IRow.more {W : World} {B B' : Nat} {s : Sl} {l : List Nat} (h : IRow W B s l) (hB : B' ≤ B) : IRow W B' s l :=
 ⟨h.1, h.2.1, h.2.2.1, fun hc => by
  obtain ⟨g, off, cur, h1, h2, h3⟩ := h.2.2.2 hc
  exact ⟨g, off, cur, h1, Nat.le_trans hB h2, h3⟩⟩
end Go.Proofs.YtlcalajehnaenaaGreatDoor
namespace Go.Proofs.YtlcalajehnaenaaGreatDoor
open Go.RowKit
section
variable {b : BkS}
end
end Go.Proofs.YtlcalajehnaenaaGreatDoor
namespace Go.Proofs.YtlcalajehnaenaaGreatDoor
open Go.RowKit
end Go.Proofs.YtlcalajehnaenaaGreatDoor
namespace Go.Proofs.YtlcalajehnaenaaGreatDoor
open Go.RowKit
end Go.Proofs.YtlcalajehnaenaaGreatDoor
namespace Go.Proofs.YtlcalajehnaenaaGreatDoor
open Go.RowKit
def trdAt (ts : List Trd) (k : Nat) : Trd := (ts[k]?).getD ⟨0, 0, 0, 0⟩
theorem trdAt_eq {ts : List Trd} {k : Nat} (h : k < ts.length) : trdAt ts k = ts[k] := by unfold trdAt; rw [List.getElem?_eq_getElem h]; rfl
theorem trdRow {W : World} {B n c : Nat} {A : Option Addr} {os : List Trd} (h : W.ownsRow B 59 4 (.slice A n c) n (os.flatMap Trd.cells)) (hl : os.length = n) {k : Nat} (hk : k < n) : ∃ g, A = some ⟨g, 0, none⟩ ∧ B ≤ g ∧ g < W.heap.size ∧ W.cell? ⟨g, k * 4, none⟩ = some (.int .i64 (trdAt os k).buy) ∧ W.cell? ⟨g, k * 4 + 1, none⟩ = some (.int .i64 (trdAt os k).sell) ∧ W.cell? ⟨g, k * 4 + 2, none⟩ = some (.int .i64 (trdAt os k).price) ∧ W.cell? ⟨g, k * 4 + 3, none⟩ = some (.int .i64 (trdAt os k).n) := by
 have hk2 : k < os.length := by omega
 obtain ⟨g, cur, h2, h3, h4, h5, h6, h7, -, -⟩ := rown_ge h (by omega)
 have hc : ∀ i, i < 4 → W.cell? ⟨g, k * 4 + i, none⟩ = (Trd.cells (trdAt os k))[i]? := by
  intro i hi
  rw [trdAt_eq hk2, ← flatT_at Trd.cells 4 Trd.cells_length os k i hk2 hi, ← h7, List.getElem?_take_of_lt (by omega)]
  simp [World.cell?, h6]
 refine ⟨g, h2, h4, h5, ?_, hc 1 (by omega), hc 2 (by omega), hc 3 (by omega)⟩
 exact hc 0 (by omega)
end Go.Proofs.YtlcalajehnaenaaGreatDoor
namespace Go.Proofs.YtlcalajehnaenaaGreatDoor
open Go.RowKit
section
variable {B g n c : Nat} {A : Option Addr} {w0 : World} {gx : Nat} {o : Ord} {ts : List Trd} {At : Option Addr} {m ct : Nat} {l : List ROrd} {W W' : World}
end
end Go.Proofs.YtlcalajehnaenaaGreatDoor
namespace Go.Proofs.YtlcalajehnaenaaGreatDoor
open Go.RowKit
end Go.Proofs.YtlcalajehnaenaaGreatDoor
namespace Go.Proofs.YtlcalajehnaenaaGreatDoor
open Go.RowKit
end Go.Proofs.YtlcalajehnaenaaGreatDoor
namespace Go.Proofs.YtlcalajehnaenaaGreatDoor
open Go.RowKit
structure OpP where
 kind : Int
 acc : Int
 buy : Bool
 price : Int
 n : Int
 id : Int
def OpP.cells (x : OpP) : List Value := [.int .i64 x.kind, .int .i64 x.acc, .bool x.buy, .int .i64 x.price, .int .i64 x.n, .int .i64 x.id]
theorem OpP.cells_length (x : OpP) : x.cells.length = 6 := rfl
theorem slT_op : SlT Tryz.prog 47 50 6 48 := SlT.of Tryz.underlying47 (by kernel_rfl) (by decide)
structure OpsAt (w : World) (B : Nat) (A : Option Addr) (m c : Nat) (l : List OpP) : Prop where
 own : w.ownsRow B 50 6 (.slice A m c) m (l.flatMap OpP.cells)
 len : l.length = m
 acc : ∀ x ∈ l, x.acc ≠ 9
def OpsPost (most : Nat) (w : World) (e : Ending) (w' : World) : Prop := ∃ A m c l, e = .returned (.slice A m c) ∧ OpsAt w' w.heap.size A m c l ∧ m ≤ most ∧ Below w.heap.size w w'
theorem lit_at (l : List Value) (k : Nat) (hk : k < l.length) (h : ∀ v ∈ l, ∃ x, v = Value.int .i64 x ∧ x ≠ 9) : ∃ x, l[k]? = some (Value.int .i64 x) ∧ x ≠ 9 := by
 obtain ⟨x, hx, h9⟩ := h l[k] (List.getElem_mem hk)
 exact ⟨x, by rw [List.getElem?_eq_getElem hk, hx], h9⟩
theorem oneOp (a b : Int) (c : Bool) (d e f : Int) : ∀ u ∈ (#[Value.int .i64 a, .int .i64 b, .bool c, .int .i64 d, .int .i64 e, .int .i64 f] : Array Value).toList, u.oneCell' = true := by
 intro u hu
 simp at hu
 rcases hu with rfl | rfl | rfl | rfl | rfl | rfl <;> rfl
set_option maxRecDepth 100000 in
set_option maxHeartbeats 8000000 in
theorem ops_any (A : Option Addr) (n c : Nat) (f : Nat → Int) (most : Nat) (mi : Int) (w : World) (hmi : mi = (most : Int)) (hm : most ≤ 100) (hR : Rd w w.heap.size A n (fun j => .int .i64 (f j))) (HW : Hid (∀ j, j < n → -9223372036854775808 ≤ f j ∧ f j ≤ 9223372036854775807)) (hn : n ≤ 9223372036854775807) :
 Calls Tryz.prog 8 #[.slice A n c, .int .i64 mi] w (OpsPost most w) := by
 obtain ⟨mi, hmi⟩ : ∃ m2, m2 = mi := ⟨mi, rfl⟩
 subst hmi
 have hmi2 := Lib.hid hmi
 subst hmi
 clear hmi2
 have HR := Lib.hid hR
 clear hR
 go_enter Tryz.func8, Tryz.ntmps8
 go_wp2
 go_loopw [5, 6] (fun lv iv wr => ∃ (k : Nat) (A' : Option Addr) (c' : Nat) (l : List OpP), k ≤ most ∧ iv = .int .i64 ((3 * k : Nat) : Int) ∧ lv = .slice A' k c' ∧ Hid (OpsAt wr w.heap.size A' k c' l) ∧ Hid (Below w.heap.size w wr)) (fun _ iv _ => 3 * most + 3 - (intOf iv).toNat)
 case atStart => exact ⟨0, none, 0, [], Nat.zero_le _, rfl, rfl, Lib.hid ⟨World.ownsRow_nil _ _ _ 6, rfl, fun x hx => by cases hx⟩, Lib.hid (Below.refl _ _)⟩
 case round =>
  obtain ⟨k, A', c', l, hk, rfl, rfl, HO, HB⟩ := hrel
  by_cases h1 : 3 * k + 2 < n ∧ k < most
  ·obtain ⟨h1, h2⟩ := h1
   have HR2 := Lib.hid (HR.out.all HB.out)
   obtain ⟨bb, off, hA, hbl, hcell⟩ := HR2.out (by omega)
   subst hA
   have e0 := hcell (3 * k) (by omega)
   have e1 := hcell (3 * k + 1) (by omega)
   have e2 := hcell (3 * k + 2) (by omega)
   obtain ⟨f00, f01⟩ := HW.out (3 * k) (by omega)
   obtain ⟨f10, f11⟩ := HW.out (3 * k + 1) (by omega)
   obtain ⟨f20, f21⟩ := HW.out (3 * k + 2) (by omega)
   obtain ⟨y0, hy0⟩ : ∃ y, f (3 * k) = y := ⟨_, rfl⟩
   obtain ⟨y1, hy1⟩ : ∃ y, f (3 * k + 1) = y := ⟨_, rfl⟩
   obtain ⟨y2, hy2⟩ : ∃ y, f (3 * k + 2) = y := ⟨_, rfl⟩
   dsimp only at e0 e1 e2
   rw [hy0] at e0 f00 f01
   rw [hy1] at e1 f10 f11
   rw [hy2] at e2 f20 f21
   clear hy0 hy1 hy2 hcell
   go_wp2_with fail
   refine (around_nat y0 1000 1000 _ (by rfl) f00 f01 (by decide) (by decide)).mono ?_
   rintro e w1 ⟨a, rfl, ha, -, rfl⟩
   go_wp2_with fail
   refine (around_nat y1 10000 10000 _ (by rfl) f10 f11 (by decide) (by decide)).mono ?_
   rintro e w1 ⟨b, rfl, hb, -, rfl⟩
   go_wp2_with fail
   refine (around_nat y2 1000 1000 _ (by rfl) f20 f21 (by decide) (by decide)).mono ?_
   rintro e w1 ⟨d, rfl, hd, -, rfl⟩
   obtain ⟨v1, hv1, -⟩ := lit_at [Value.int .i64 0, .int .i64 (-1), .int .i64 1, .int .i64 1099511627776, .int .i64 1099511627777, .int .i64 1048576] (b % 6) (by simp; omega) (by intro v hv; simp at hv; rcases hv with rfl | rfl | rfl | rfl | rfl | rfl <;> exact ⟨_, rfl, by decide⟩)
   obtain ⟨v2, hv2, -⟩ := lit_at [Value.int .i64 0, .int .i64 1, .int .i64 (-1), .int .i64 1099511627776, .int .i64 1048576, .int .i64 1048577] (b / 6 % 6) (by simp; omega) (by intro v hv; simp at hv; rcases hv with rfl | rfl | rfl | rfl | rfl | rfl <;> exact ⟨_, rfl, by decide⟩)
   obtain ⟨v3, hv3, hv39⟩ := lit_at [Value.int .i64 0, .int .i64 1, .int .i64 1073741824, .int .i64 1073741825, .int .i64 (-1)] (b % 5) (by simp; omega) (by intro v hv; simp at hv; rcases hv with rfl | rfl | rfl | rfl | rfl <;> exact ⟨_, rfl, by decide⟩)
   by_cases hk39 : d % 40 = 39
   ·have HACC := Lib.hid hv39
    clear hv39
    have hcd : ((d : Int) % 40 == 39) = true := by simp; omega
    have hb4 : Below wr.heap.size wr ((((wr.alloc (.cells #[.int .i64 ((a : Int) % 8), .int .i64 v3, .bool ((a : Int) / 32 % 2 == 0), .int .i64 v1, .int .i64 v2, .int .i64 ((b : Int) - 5000)] 50)).alloc (.cells #[.int .i64 0, .int .i64 (-1), .int .i64 1, .int .i64 1099511627776, .int .i64 1099511627777, .int .i64 1048576] 3)).alloc (.cells #[.int .i64 0, .int .i64 1, .int .i64 (-1), .int .i64 1099511627776, .int .i64 1048576, .int .i64 1048577] 3)).alloc (.cells #[.int .i64 0, .int .i64 1, .int .i64 1073741824, .int .i64 1073741825, .int .i64 (-1)] 3)) := (((((Below.refl _ _).alloc (Nat.le_refl _) _).alloc (by first | (simp; done) | (simp; omega)) _).alloc (by first | (simp; done) | (simp; omega)) _).alloc (by first | (simp; done) | (simp; omega)) _)
    have hz4 : ((((wr.alloc (.cells #[.int .i64 ((a : Int) % 8), .int .i64 v3, .bool ((a : Int) / 32 % 2 == 0), .int .i64 v1, .int .i64 v2, .int .i64 ((b : Int) - 5000)] 50)).alloc (.cells #[.int .i64 0, .int .i64 (-1), .int .i64 1, .int .i64 1099511627776, .int .i64 1099511627777, .int .i64 1048576] 3)).alloc (.cells #[.int .i64 0, .int .i64 1, .int .i64 (-1), .int .i64 1099511627776, .int .i64 1048576, .int .i64 1048577] 3)).alloc (.cells #[.int .i64 0, .int .i64 1, .int .i64 1073741824, .int .i64 1073741825, .int .i64 (-1)] 3)).heap.size = wr.heap.size + 1 + 1 + 1 + 1 := by simp
    clear hk39
    have HZ4 := Lib.hid hz4
    clear hz4
    go_wp2_with (at_builtin
                 obtain ⟨A5, c5, w5, hr5, ho5, hb5, -, -⟩ := app_elem2 47 slT_op (own_keep HO.out.own hb4) #[.int .i64 ((a : Int) % 8), .int .i64 v3, .bool ((a : Int) / 32 % 2 == 0), .int .i64 v1, .int .i64 v2, .int .i64 ((b : Int) - 5000)] rfl (oneOp _ _ _ _ _ _) (by omega) (by decide) (Nat.le_trans HB.out.size hb4.size)
                 rw [HZ4.out] at hr5
                 have HO5 := Lib.hid ho5
                 have HB5 := Lib.hid ((bt HB.out hb4).trans hb5)
                 refine wpList_append_run hr5 (by rfl) (by rfl) (by rfl) (by rfl) ?_
                 replace hr5 := Lib.hid hr5
                 clear ho5 hb5)
    exact ⟨⟨k + 1, A5, c5, l ++ [OpP.mk ((a : Int) % 8) v3 ((a : Int) / 32 % 2 == 0) v1 v2 ((b : Int) - 5000)], by omega, by go_num, rfl, Lib.hid ⟨by rw [List.flatMap_append, List.flatMap_singleton]; exact HO5.out, by rw [List.length_append, HO.out.len]; rfl, fun x hx => by
     rcases List.mem_append.1 hx with h | h
     ·exact HO.out.acc x h
     ·rw [List.mem_singleton.1 h]; exact HACC.out⟩, HB5⟩, by simp [intOf]; omega⟩
   ·clear hv39
    have HACC : Hid (1 + (a : Int) / 8 % 4 ≠ 9) := Lib.hid (by omega)
    have hcd : ((d : Int) % 40 == 39) = false := by simp; omega
    have hb4 : Below wr.heap.size wr (wr.alloc (.cells #[.int .i64 ((a : Int) % 8), .int .i64 (1 + (a : Int) / 8 % 4), .bool ((a : Int) / 32 % 2 == 0), .int .i64 (95 + (b : Int) % 10), .int .i64 (1 + (b : Int) / 10 % 20), .int .i64 ((d : Int) % (1 + (k : Int)))] 50)) := ((Below.refl _ _).alloc (Nat.le_refl _) _)
    have hz4 : (wr.alloc (.cells #[.int .i64 ((a : Int) % 8), .int .i64 (1 + (a : Int) / 8 % 4), .bool ((a : Int) / 32 % 2 == 0), .int .i64 (95 + (b : Int) % 10), .int .i64 (1 + (b : Int) / 10 % 20), .int .i64 ((d : Int) % (1 + (k : Int)))] 50)).heap.size = wr.heap.size + 1 := by simp
    clear hk39
    have HZ4 := Lib.hid hz4
    clear hz4
    go_wp2_with (at_builtin
                 obtain ⟨A5, c5, w5, hr5, ho5, hb5, -, -⟩ := app_elem2 47 slT_op (own_keep HO.out.own hb4) #[.int .i64 ((a : Int) % 8), .int .i64 (1 + (a : Int) / 8 % 4), .bool ((a : Int) / 32 % 2 == 0), .int .i64 (95 + (b : Int) % 10), .int .i64 (1 + (b : Int) / 10 % 20), .int .i64 ((d : Int) % (1 + (k : Int)))] rfl (oneOp _ _ _ _ _ _) (by omega) (by decide) (Nat.le_trans HB.out.size hb4.size)
                 rw [HZ4.out] at hr5
                 have HO5 := Lib.hid ho5
                 have HB5 := Lib.hid ((bt HB.out hb4).trans hb5)
                 refine wpList_append_run hr5 (by rfl) (by rfl) (by rfl) (by rfl) ?_
                 replace hr5 := Lib.hid hr5
                 clear ho5 hb5)
    exact ⟨⟨k + 1, A5, c5, l ++ [OpP.mk ((a : Int) % 8) (1 + (a : Int) / 8 % 4) ((a : Int) / 32 % 2 == 0) (95 + (b : Int) % 10) (1 + (b : Int) / 10 % 20) ((d : Int) % (1 + (k : Int)))], by omega, by go_num, rfl, Lib.hid ⟨by rw [List.flatMap_append, List.flatMap_singleton]; exact HO5.out, by rw [List.length_append, HO.out.len]; rfl, fun x hx => by
     rcases List.mem_append.1 hx with h | h
     ·exact HO.out.acc x h
     ·rw [List.mem_singleton.1 h]; exact HACC.out⟩, HB5⟩, by simp [intOf]; omega⟩
  ·have HFIN : Hid (OpsPost most w (.returned (.slice A' k c')) wr) := Lib.hid ⟨A', k, c', l, rfl, HO.out, hk, HB.out⟩
   rcases Nat.lt_or_ge (3 * k + 2) n with h2 | h2
   ·obtain rfl : k = most := by omega
    go_wp2
    go_ret
    exact HFIN.out
   ·go_wp2
    go_ret
    exact HFIN.out
end Go.Proofs.YtlcalajehnaenaaGreatDoor
namespace Go.Proofs.YtlcalajehnaenaaGreatDoor
open Go.RowKit
structure BkR (W : World) (B gb : Nat) (V : BkV) (b : BkS) : Prop where
 blk : Blk W gb 101 #[V.os b.os.length, slV V.b, bet1, slV V.s, bet2]
 ge : B ≤ gb
 orders : W.ownsRow B 55 6 (V.os b.os.length) b.os.length (b.os.flatMap Ord.cells)
 bs : IRow W B V.b b.bs
 ss : IRow W B V.s b.ss
 apart : ∀ g, blkOf V.b = some g → blkOf V.s ≠ some g
 few : b.os.length ≤ 100000
section
variable {W W' : World} {B gb : Nat} {V : BkV} {b : BkS} {F : Nat → Prop}
theorem BkAt.raw (h : BkAt W B gb V b) : BkR W B gb V b := ⟨h.blk, h.ge, h.orders, h.bs, h.ss, h.apart, h.few⟩
theorem BkR.full (h : BkR W B gb V b) (hok : b.Ok) : BkAt W B gb V b := ⟨h.blk, h.ge, h.orders, h.bs, h.ss, h.apart, hok, h.few⟩
theorem BkR.mod (h : BkR W B gb V b) (m : Mod F W W') (hF : ∀ g, BkF gb V b.os.length g → ¬ F g) : BkR W' B gb V b :=
 ⟨m.blk h.blk (hF gb (.inl rfl)), h.ge, m.own h.orders (fun g hg => hF g (.inr (.inl hg))), h.bs.mod m (fun g hg => hF g (.inr (.inr (.inl hg)))), h.ss.mod m (fun g hg => hF g (.inr (.inr (.inr hg)))), h.apart, h.few⟩
theorem BkR.all (h : BkR W B gb V b) (hb : Below W.heap.size W W') : BkR W' B gb V b := h.mod (F := fun _ => False) (Mod.of_below _ hb) (fun _ _ hf => hf)
theorem BkR.lt (h : BkR W B gb V b) {g : Nat} (hg : BkF gb V b.os.length g) : B ≤ g ∧ g < W.heap.size := by
 rcases hg with rfl | hg | hg | hg
 ·exact ⟨h.ge, h.blk.lt⟩
 ·exact own_ge h.orders hg
 ·exact (h.bs.at_ hg).2
 ·exact (h.ss.at_ hg).2
theorem BkR.ty (h : BkR W B gb V b) {g : Nat} (hg : BkF gb V b.os.length g) : Ty W g 101 ∨ Ty W g 55 ∨ Ty W g 3 := by
 rcases hg with rfl | hg | hg | hg
 ·exact .inl h.blk.ty
 ·exact .inr (.inl (own_ty h.orders hg))
 ·exact .inr (.inr (h.bs.at_ hg).1)
 ·exact .inr (.inr (h.ss.at_ hg).1)
theorem BkR.isnt (h : BkR W B gb V b) {g : Nat} {t : TypeId} (ht : Ty W g t) (hn : t ≠ 101 ∧ t ≠ 55 ∧ t ≠ 3) : ¬ BkF gb V b.os.length g := fun hg => by
 rcases h.ty hg with h1 | h1 | h1
 ·exact hn.1 (ht.unique h1)
 ·exact hn.2.1 (ht.unique h1)
 ·exact hn.2.2 (ht.unique h1)
theorem BkR.left (h : BkR W B gb V b) {g k : Nat} (hg : V.oA = some ⟨g, 0, none⟩) (hk : k < b.os.length) (m : Int) : BkR (W.setCell ⟨g, k * 6 + 5, none⟩ (.int .i64 ((ordAt b.os k).left - m))) B gb V (b.setOs (b.os.set k ((ordAt b.os k).less m))) ∧ Mod (BkF gb V b.os.length) W (W.setCell ⟨g, k * 6 + 5, none⟩ (.int .i64 ((ordAt b.os k).left - m))) := by
 have hob : (V.os b.os.length).ownBlock = some g := by unfold BkV.os; rw [hg]; rfl
 have ms : Mod (fun q => q = g) W (W.setCell ⟨g, k * 6 + 5, none⟩ (.int .i64 ((ordAt b.os k).left - m))) := Mod.set (F := fun q => q = g) (Mod.refl _ _) (p := ⟨g, k * 6 + 5, none⟩) (.inl rfl) _
 have ht := own_ty h.orders hob
 have hlen : (b.setOs (b.os.set k ((ordAt b.os k).less m))).os.length = b.os.length := by simp [BkS.setOs]
 refine ⟨⟨?_, h.ge, ?_, h.bs.mod ms (fun q hq e => ?_), h.ss.mod ms (fun q hq e => ?_), h.apart, ?_⟩, ms.mono (fun q hq => .inl (by rw [hq]; exact .inr (.inl hob)))⟩
 ·rw [hlen]
  exact ms.blk h.blk (fun e => by
   rw [← e] at ht
   exact absurd (ht.unique h.blk.ty) (by decide))
 ·rw [hlen]
  have ho := h.orders
  unfold BkV.os at ho ⊢
  rw [hg] at ho ⊢
  have := (ho.stored (k * 6 + 5) (.int .i64 ((ordAt b.os k).left - m))).1
  rw [flatT_set Ord.cells 6 Ord.cells_length ((ordAt b.os k).less m) 5 (by omega) _ b.os k hk (by rw [← ordAt_eq hk]; rfl)] at this
  exact this
 ·rw [e] at hq
  exact absurd (ht.unique (h.bs.at_ hq).1) (by decide)
 ·rw [e] at hq
  exact absurd (ht.unique (h.ss.at_ hq).1) (by decide)
 ·rw [hlen]
  exact h.few
theorem IRow.tail {W : World} {B n c k : Nat} {t : List Nat} {g off : Nat} (h : IRow W B (some ⟨g, off, none⟩, n, c) (k :: t)) : IRow W B ((if c = 1 then some ⟨g, off, none⟩ else some ⟨g, off + 1, none⟩), n - 1, c - 1) t := by
 obtain ⟨h1, h2, h3, h4⟩ := h
 dsimp only [List.length_cons] at h1 h2 h3 h4
 refine ⟨by dsimp only; omega, by dsimp only; omega, by dsimp only; omega, fun hc => ?_⟩
 dsimp only at hc
 obtain ⟨g', off', cur, a1, a2, a3, a4, a5⟩ := h4 (by omega)
 injection a1 with a1
 injection a1 with a1 a6
 subst a1 a6
 refine ⟨g, off + 1, cur, by dsimp only; rw [if_neg (by omega)], a2, a3, by dsimp only; omega, fun j hj => ?_⟩
 dsimp only at hj
 rw [show off + 1 + j = off + (j + 1) by omega, a5 (j + 1) (by omega)]
 rfl
theorem blk_tail {n c g off b : Nat} (h : blkOf ((if c = 1 then some ⟨g, off, none⟩ else some ⟨g, off + 1, none⟩), n - 1, c - 1) = some b) : blkOf (some ⟨g, off, none⟩, n, c) = some b := by
 unfold blkOf slV at *
 dsimp only at *
 split at h
 ·rw [if_pos (by omega)]
  rw [if_neg (by omega)] at h
  exact h
 ·cases h
theorem BkR.pop_true (h : BkR W B gb V b) {g off n c id : Nat} {t : List Nat} (hV : V.b = (some ⟨g, off, none⟩, n, c)) (hs : b.side true = id :: t) : ∃ V', BkR (W.setCell ⟨gb, 1, none⟩ (.slice (if c = 1 then some ⟨g, off, none⟩ else some ⟨g, off + 1, none⟩) (n - 1) (c - 1))) B gb V' (b.put true t) ∧ Mod (BkF gb V b.os.length) W (W.setCell ⟨gb, 1, none⟩ (.slice (if c = 1 then some ⟨g, off, none⟩ else some ⟨g, off + 1, none⟩) (n - 1) (c - 1))) ∧ (∀ q, BkF gb V' (b.put true t).os.length q → BkF gb V b.os.length q) ∧ V'.oA = V.oA ∧ V'.oc = V.oc := by
 have ms : Mod (fun q => q = gb) W (W.setCell ⟨gb, 1, none⟩ (.slice (if c = 1 then some ⟨g, off, none⟩ else some ⟨g, off + 1, none⟩) (n - 1) (c - 1))) := Mod.set (F := fun q => q = gb) (Mod.refl _ _) (p := ⟨gb, 1, none⟩) (.inl rfl) _
 have hI : IRow W B (some ⟨g, off, none⟩, n, c) (id :: t) := by have := h.bs; rw [hV] at this; rw [← hs]; exact this
 have hng : ∀ q, Ty W q 3 → ¬ q = gb := fun q h1 he => by
  rw [he] at h1
  exact absurd (h1.unique h.blk.ty) (by decide)
 refine ⟨⟨V.oA, V.oc, ((if c = 1 then some ⟨g, off, none⟩ else some ⟨g, off + 1, none⟩), n - 1, c - 1), V.s⟩, ⟨h.blk.set_ 1 _, h.ge, ms.own h.orders (fun q hq e => ?_), hI.tail.mod ms (fun q hq e => hng q (hI.at_ (blk_tail hq)).1 e), h.ss.mod ms (fun q hq e => hng q (h.ss.at_ hq).1 e), fun q h1 h2 => h.apart q (by rw [hV]; exact blk_tail h1) h2, h.few⟩, ms.mono (fun q hq => .inl (.inl hq)), fun q hq => ?_, rfl, rfl⟩
 ·have := own_ty h.orders hq
  rw [e] at this
  exact absurd (this.unique h.blk.ty) (by decide)
 ·rcases hq with hq | hq | hq | hq
  ·exact .inl hq
  ·exact .inr (.inl hq)
  ·exact .inr (.inr (.inl (by rw [hV]; exact blk_tail hq)))
  ·exact .inr (.inr (.inr hq))
theorem BkR.pop_false (h : BkR W B gb V b) {g off n c id : Nat} {t : List Nat} (hV : V.s = (some ⟨g, off, none⟩, n, c)) (hs : b.side false = id :: t) : ∃ V', BkR (W.setCell ⟨gb, 3, none⟩ (.slice (if c = 1 then some ⟨g, off, none⟩ else some ⟨g, off + 1, none⟩) (n - 1) (c - 1))) B gb V' (b.put false t) ∧ Mod (BkF gb V b.os.length) W (W.setCell ⟨gb, 3, none⟩ (.slice (if c = 1 then some ⟨g, off, none⟩ else some ⟨g, off + 1, none⟩) (n - 1) (c - 1))) ∧ (∀ q, BkF gb V' (b.put false t).os.length q → BkF gb V b.os.length q) ∧ V'.oA = V.oA ∧ V'.oc = V.oc := by
 have ms : Mod (fun q => q = gb) W (W.setCell ⟨gb, 3, none⟩ (.slice (if c = 1 then some ⟨g, off, none⟩ else some ⟨g, off + 1, none⟩) (n - 1) (c - 1))) := Mod.set (F := fun q => q = gb) (Mod.refl _ _) (p := ⟨gb, 3, none⟩) (.inl rfl) _
 have hI : IRow W B (some ⟨g, off, none⟩, n, c) (id :: t) := by have := h.ss; rw [hV] at this; rw [← hs]; exact this
 have hng : ∀ q, Ty W q 3 → ¬ q = gb := fun q h1 he => by
  rw [he] at h1
  exact absurd (h1.unique h.blk.ty) (by decide)
 refine ⟨⟨V.oA, V.oc, V.b, ((if c = 1 then some ⟨g, off, none⟩ else some ⟨g, off + 1, none⟩), n - 1, c - 1)⟩, ⟨h.blk.set_ 3 _, h.ge, ms.own h.orders (fun q hq e => ?_), h.bs.mod ms (fun q hq e => hng q (h.bs.at_ hq).1 e), hI.tail.mod ms (fun q hq e => hng q (hI.at_ (blk_tail hq)).1 e), fun q h1 h2 => h.apart q h1 (by rw [hV]; exact blk_tail h2), h.few⟩, ms.mono (fun q hq => .inl (.inl hq)), fun q hq => ?_, rfl, rfl⟩
 ·have := own_ty h.orders hq
  rw [e] at this
  exact absurd (this.unique h.blk.ty) (by decide)
 ·rcases hq with hq | hq | hq | hq
  ·exact .inl hq
  ·exact .inr (.inl hq)
  ·exact .inr (.inr (.inl hq))
  ·exact .inr (.inr (.inr (by rw [hV]; exact blk_tail hq)))
theorem BkR.added {W5 : World} {A : Option Addr} {c : Nat} {o : Ord} (h : BkR W B gb V b) (hf : b.os.length < 100000) (m : Mod (fun q => (V.os b.os.length).ownBlock = some q) W W5) (ho : W5.ownsRow B 55 6 (.slice A (b.os.length + 1) c) (b.os.length + 1) (b.os.flatMap Ord.cells ++ o.cells)) (hs : ∀ q, (Value.slice A (b.os.length + 1) c).ownBlock = some q → (V.os b.os.length).ownBlock = some q ∨ W.heap.size ≤ q) : ∃ V', BkR (W5.setCell ⟨gb, 0, none⟩ (.slice A (b.os.length + 1) c)) B gb V' (b.withO o) ∧ Mod (BkF gb V b.os.length) W (W5.setCell ⟨gb, 0, none⟩ (.slice A (b.os.length + 1) c)) ∧ (∀ q, BkF gb V' (b.withO o).os.length q → BkF gb V b.os.length q ∨ W.heap.size ≤ q) := by
 have hlen : (b.withO o).os.length = b.os.length + 1 := by simp [BkS.withO, BkS.setOs]
 have ms : Mod (fun q => q = gb) W5 (W5.setCell ⟨gb, 0, none⟩ (.slice A (b.os.length + 1) c)) := Mod.set (F := fun q => q = gb) (Mod.refl _ _) (p := ⟨gb, 0, none⟩) (.inl rfl) _
 have mT : Mod (fun q => (V.os b.os.length).ownBlock = some q ∨ q = gb) W (W5.setCell ⟨gb, 0, none⟩ (.slice A (b.os.length + 1) c)) := (m.mono (fun b h => .inl (.inl h))).trans ms (fun b h => .inl (.inr h))
 have hno : ∀ q, (V.os b.os.length).ownBlock = some q → Ty W q 55 := fun q hq => own_ty h.orders hq
 have b5 : Blk W5 gb 101 #[V.os b.os.length, slV V.b, bet1, slV V.s, bet2] := m.blk h.blk (fun hg => absurd ((hno gb hg).unique h.blk.ty) (by decide))
 have hng : ∀ q, Ty W q 3 → ¬ ((V.os b.os.length).ownBlock = some q ∨ q = gb) := fun q h1 he => by
  rcases he with he | he
  ·exact absurd (h1.unique (hno q he)) (by decide)
  ·rw [he] at h1
   exact absurd (h1.unique h.blk.ty) (by decide)
 refine ⟨⟨A, c, V.b, V.s⟩, ⟨?_, h.ge, ?_, h.bs.mod mT (fun q hq => hng q (h.bs.at_ hq).1), h.ss.mod mT (fun q hq => hng q (h.ss.at_ hq).1), h.apart, by rw [hlen]; omega⟩, mT.mono (fun q hq => .inl (hq.elim (fun e => .inr (.inl e)) .inl)), fun q hq => ?_⟩
 ·rw [hlen]
  exact b5.set_ 0 _
 ·rw [hlen]
  show World.ownsRow _ _ _ 6 _ _ ((b.os ++ [o]).flatMap Ord.cells)
  rw [List.flatMap_append, List.flatMap_singleton]
  exact ms.own ho (fun q hq e => by
   have h1 := own_ty ho hq
   rw [e] at h1
   exact absurd (h1.unique b5.ty) (by decide))
 ·rw [hlen] at hq
  rcases hq with hq | hq | hq | hq
  ·exact .inl (.inl hq)
  ·exact (hs q hq).imp (fun e => .inr (.inl e)) id
  ·exact .inl (.inr (.inr (.inl hq)))
  ·exact .inl (.inr (.inr (.inr hq)))
end
end Go.Proofs.YtlcalajehnaenaaGreatDoor
namespace Go.Proofs.YtlcalajehnaenaaGreatDoor
open Go.RowKit
def PlacePost (gb B : Nat) (V : BkV) (b : BkS) (acc : Int) (buy : Bool) (price n : Int) (w : World) (e : Ending) (w' : World) : Prop :=
 ∃ A c, e = .returned (.tuple #[.int .i64 (placeE b acc buy price n).1, .slice A (placeE b acc buy price n).2.1.length c, .int .i64 (placeE b acc buy price n).2.2.1]) ∧ w'.ownsRow w.heap.size 59 4 (.slice A (placeE b acc buy price n).2.1.length c) (placeE b acc buy price n).2.1.length ((placeE b acc buy price n).2.1.flatMap Trd.cells) ∧ BkPost gb B V b w (placeE b acc buy price n).2.2.2 w'
theorem PlacePost.err {gb B : Nat} {V : BkV} {b : BkS} {acc price n e : Int} {buy : Bool} {w w' : World} (HK : BkAt w B gb V b) (he : placeErr b acc price n = e) (h0 : e ≠ 0) (hb : Below w.heap.size w w') : PlacePost gb B V b acc buy price n w (.returned (.tuple #[.int .i64 0, .slice none 0 0, .int .i64 e])) w' := by
 have h : placeE b acc buy price n = (0, [], e, b) := by unfold placeE; rw [he, if_neg h0]
 unfold PlacePost
 rw [h]
 exact ⟨none, 0, rfl, World.ownsRow_nil _ _ _ 4, BkPost.same HK hb⟩
set_option maxRecDepth 100000 in
theorem place_err1 (gb B : Nat) (V : BkV) (b : BkS) (buy : Bool) (acc price n : Int) (w : World) (HK : Hid (BkAt w B gb V b)) (h : acc < 1 ∨ 1073741824 < acc) : Calls Tryz.prog 9 #[.pointer (some ⟨gb, 0, none⟩), .int .i64 acc, .bool buy, .int .i64 price, .int .i64 n] w (PlacePost gb B V b acc buy price n w) := by
 have HE : Hid (∀ w', Below w.heap.size w w' → PlacePost gb B V b acc buy price n w (.returned (.tuple #[.int .i64 0, .slice none 0 0, .int .i64 1])) w') := Lib.hid (fun w' hb => PlacePost.err HK.out (by unfold placeErr; rw [if_pos h]) (by decide) hb)
 have hcp := fun w => inr_any price w
 have hcn := fun w => inr_any n w
 rcases h with h | h
 ·go_enter Tryz.func9, Tryz.ntmps9
  go_wp2_with (go_at_call 32; ((first | (with_reducible refine (hcp _).mono ?_) | (with_reducible refine (hcn _).mono ?_)); rintro e w1 ⟨rfl, rfl⟩))
  all_goals refine bodyPost_ret (v := .tuple #[.int .i64 0, .slice none 0 0, .int .i64 1]) (by simp [results, Tryz.results9, go_sem]) rfl (HE.out _ (Below.refl _ _))
 ·have h2 : ¬ acc < 1 := by omega
  go_enter Tryz.func9, Tryz.ntmps9
  go_wp2_with (go_at_call 32; ((first | (with_reducible refine (hcp _).mono ?_) | (with_reducible refine (hcn _).mono ?_)); rintro e w1 ⟨rfl, rfl⟩))
  all_goals refine bodyPost_ret (v := .tuple #[.int .i64 0, .slice none 0 0, .int .i64 1]) (by simp [results, Tryz.results9, go_sem]) rfl (HE.out _ (Below.refl _ _))
set_option maxRecDepth 100000 in
theorem place_err2 (gb B : Nat) (V : BkV) (b : BkS) (buy : Bool) (acc price n : Int) (w : World) (HK : Hid (BkAt w B gb V b)) (h1 : 1 ≤ acc) (h2 : acc ≤ 1073741824) (h : inR price = false ∨ inR n = false ∨ (1099511627776 : Int).tdiv n < price) : Calls Tryz.prog 9 #[.pointer (some ⟨gb, 0, none⟩), .int .i64 acc, .bool buy, .int .i64 price, .int .i64 n] w (PlacePost gb B V b acc buy price n w) := by
 have HE : Hid (∀ w', Below w.heap.size w w' → PlacePost gb B V b acc buy price n w (.returned (.tuple #[.int .i64 0, .slice none 0 0, .int .i64 5])) w') := Lib.hid (fun w' hb => PlacePost.err HK.out (by unfold placeErr; rw [if_neg (by omega), if_pos h]) (by decide) hb)
 have hcp := fun w => inr_any price w
 have hcn := fun w => inr_any n w
 cases hp : inR price
 ·simp only [hp] at hcp
  go_enter Tryz.func9, Tryz.ntmps9
  go_wp2_with (go_at_call 32; ((first | (with_reducible refine (hcp _).mono ?_) | (with_reducible refine (hcn _).mono ?_)); rintro e w1 ⟨rfl, rfl⟩))
  all_goals refine bodyPost_ret (v := .tuple #[.int .i64 0, .slice none 0 0, .int .i64 5]) (by simp [results, Tryz.results9, go_sem]) rfl (HE.out _ (Below.refl _ _))
 simp only [hp] at hcp
 cases hn : inR n
 ·simp only [hn] at hcn
  go_enter Tryz.func9, Tryz.ntmps9
  go_wp2_with (go_at_call 32; ((first | (with_reducible refine (hcp _).mono ?_) | (with_reducible refine (hcn _).mono ?_)); rintro e w1 ⟨rfl, rfl⟩))
  all_goals refine bodyPost_ret (v := .tuple #[.int .i64 0, .slice none 0 0, .int .i64 5]) (by simp [results, Tryz.results9, go_sem]) rfl (HE.out _ (Below.refl _ _))
 have hd : (1099511627776 : Int).tdiv n < price := by
  rcases h with h | h | h
  ·rw [hp] at h; cases h
  ·rw [hn] at h; cases h
  ·exact h
 have hn' := hn
 unfold inR at hn'
 rw [Bool.and_eq_true, decide_eq_true_eq, decide_eq_true_eq] at hn'
 have hn0 : ¬ n = 0 := by omega
 have hq0 : 0 ≤ (1099511627776 : Int).tdiv n := Int.tdiv_nonneg (by omega) (by omega)
 have hq1 : (1099511627776 : Int).tdiv n ≤ 1099511627776 := by rw [Int.tdiv_eq_ediv_of_nonneg (by omega)]; exact Int.ediv_le_self _ (by omega)
 simp only [hn] at hcn
 clear h
 go_enter Tryz.func9, Tryz.ntmps9
 go_wp2_with (go_at_call 32; ((first | (with_reducible refine (hcp _).mono ?_) | (with_reducible refine (hcn _).mono ?_)); rintro e w1 ⟨rfl, rfl⟩))
 all_goals refine bodyPost_ret (v := .tuple #[.int .i64 0, .slice none 0 0, .int .i64 5]) (by simp [results, Tryz.results9, go_sem]) rfl (HE.out _ (Below.refl _ _))
set_option maxRecDepth 100000 in
theorem place_err3 (gb B : Nat) (V : BkV) (b : BkS) (buy : Bool) (acc price n : Int) (w : World) (HK : Hid (BkAt w B gb V b)) (h1 : 1 ≤ acc) (h2 : acc ≤ 1073741824) (hp : inR price = true) (hn : inR n = true) (hd : price ≤ (1099511627776 : Int).tdiv n) (h : 4096 ≤ b.bs.length + b.ss.length) : Calls Tryz.prog 9 #[.pointer (some ⟨gb, 0, none⟩), .int .i64 acc, .bool buy, .int .i64 price, .int .i64 n] w (PlacePost gb B V b acc buy price n w) := by
 have HE : Hid (∀ w', Below w.heap.size w w' → PlacePost gb B V b acc buy price n w (.returned (.tuple #[.int .i64 0, .slice none 0 0, .int .i64 4])) w') := Lib.hid (fun w' hb => PlacePost.err HK.out (by unfold placeErr; rw [if_neg (by omega), if_neg (by rw [hp, hn]; simp; omega), if_pos h]) (by decide) hb)
 have hn' := hn
 unfold inR at hn'
 rw [Bool.and_eq_true, decide_eq_true_eq, decide_eq_true_eq] at hn'
 have hn0 : ¬ n = 0 := by omega
 have hq0 : 0 ≤ (1099511627776 : Int).tdiv n := Int.tdiv_nonneg (by omega) (by omega)
 have hq1 : (1099511627776 : Int).tdiv n ≤ 1099511627776 := by rw [Int.tdiv_eq_ediv_of_nonneg (by omega)]; exact Int.ediv_le_self _ (by omega)
 have hd2 : ¬ (1099511627776 : Int).tdiv n < price := by omega
 have hcp := fun w => inr_any price w
 have hcn := fun w => inr_any n w
 simp only [hp] at hcp
 simp only [hn] at hcn
 obtain ⟨A1, n1, c1, hV1⟩ : ∃ A n c, V.b = (A, n, c) := ⟨_, _, _, rfl⟩
 obtain ⟨A2, n2, c2, hV2⟩ : ∃ A n c, V.s = (A, n, c) := ⟨_, _, _, rfl⟩
 have hl1 : b.bs.length = n1 := by have := HK.out.bs.len; rw [hV1] at this; exact this
 have hl2 : b.ss.length = n2 := by have := HK.out.ss.len; rw [hV2] at this; exact this
 have hfew := HK.out.ok.few
 have h4 : 4096 ≤ (n1 : Int) + (n2 : Int) := by omega
 have h5 : (n1 : Int) + (n2 : Int) ≤ 4096 := by omega
 have hw : ¬ IntKind.i64.wrap ((n1 : Int) + (n2 : Int)) < 4096 := by rw [show IntKind.i64.wrap ((n1 : Int) + (n2 : Int)) = (n1 : Int) + (n2 : Int) from IntWalk.i64_in _ (by omega)]; omega
 have HS5 : Hid (∀ w', Below w.heap.size w w' → (fun w' => w'.cell? ⟨gb, 1, none⟩ = some (.slice A1 n1 c1) ∧ w'.cell? ⟨gb, 3, none⟩ = some (.slice A2 n2 c2)) w') := Lib.hid (fun w' hb => by
  have q := HK.out.blk.all hb
  have u1 := q.cell 1
  have u3 := q.cell 3
  simp only [List.getElem?_toArray, List.getElem?_cons_zero, List.getElem?_cons_succ] at u1 u3
  unfold slV at u1 u3
  rw [hV1] at u1
  rw [hV2] at u3
  exact ⟨u1, u3⟩)
 clear h hl1 hl2 hfew hV1 hV2 hn'
 go_enter Tryz.func9, Tryz.ntmps9
 go_wp2_with (go_at_call 32; ((first | (with_reducible refine (hcp _).mono ?_) | (with_reducible refine (hcn _).mono ?_)); rintro e w1 ⟨rfl, rfl⟩))
 refine wp_region_held_drew (S := (fun w' => w'.cell? ⟨gb, 1, none⟩ = some (.slice A1 n1 c1) ∧ w'.cell? ⟨gb, 3, none⟩ = some (.slice A2 n2 c2))) (by kernel_rfl) (HS5.out _ (below_drewN (Below.refl _ _) 1)) (fun hHeld => ?_)
 refine takeJ 0 (some 41) ?_
 refine takeJ 1 (some 42) ?_
 refine takeJ 2 (some 43) ?_
 refine takeJ 3 (some 44) ?_
 refine takeJ 4 (some 45) ?_
 refine takeJ 5 (some 46) ?_
 refine takeJ 6 (some 47) ?_
 refine takeJ 7 (some 48) ?_
 refine takeJ 8 (some 49) ?_
 refine takeJ 9 (some 50) ?_
 refine takeJ 10 (some 51) ?_
 refine takeJ 11 (some 52) ?_
 refine takeJ 12 (some 53) ?_
 refine takeJ 13 (some 54) ?_
 refine takeJ 14 (some 55) ?_
 refine takeJ 15 (some 56) ?_
 refine takeJ 16 (some 40) ?_
 refine wpAnyH_done (by kernel_rfl) ?_ _
 go_wp2
 exact bodyPost_ret (v := .tuple #[.int .i64 0, .slice none 0 0, .int .i64 4]) (by simp [results, Tryz.results9, go_sem]) rfl (HE.out _ (below_drewN (Below.refl _ _) 1))
end Go.Proofs.YtlcalajehnaenaaGreatDoor
