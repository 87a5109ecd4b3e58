/- book: what Place's matching keeps, plain. -/
import Derived.Test.YtlcalajehnaenaaGreatDoorHG23
namespace Go.Proofs.YtlcalajehnaenaaGreatDoor
open Go.RowKit
theorem matchP_like : ∀ (l : List Nat) (os : List Ord) (o : Ord), (matchP os o l).2.1.like o ∧ (∀ k, (ordAt (matchP os o l).2.2.1 k).like (ordAt os k)) ∧ (matchP os o l).2.2.2.Sublist l ∧ (matchP os o l).2.2.1.length = os.length
 | [], os, o => ⟨Ord.like.rfl' _, fun _ => Ord.like.rfl' _, List.Sublist.refl _, rfl⟩
 | id :: t, os, o => by
   have hset : ∀ m k, (ordAt (os.set id ((ordAt os id).less m)) k).like (ordAt os k) := fun m k => by
    by_cases hid : id < os.length
    ·rw [ordAt_set hid]
     split
     ·rename_i e
      rw [e]
      exact Ord.like_less _ _
     ·exact Ord.like.rfl' _
    ·rw [List.set_eq_of_length_le (by omega)]
     exact Ord.like.rfl' _
   rw [matchP]
   split
   ·split
    ·obtain ⟨h1, h2, h3, h4⟩ := matchP_like t os o
     exact ⟨h1, h2, h3.trans (List.sublist_cons_self _ _), h4⟩
    ·split
     ·obtain ⟨h1, h2, h3, h4⟩ := matchP_like t (os.set id ((ordAt os id).less (min o.left (ordAt os id).left))) (o.less (min o.left (ordAt os id).left))
      exact ⟨h1.trans (Ord.like_less _ _), fun k => (h2 k).trans (hset _ k), h3.trans (List.sublist_cons_self _ _), by rw [h4, List.length_set]⟩
     ·exact ⟨Ord.like_less _ _, fun k => hset _ k, List.Sublist.refl _, by rw [List.length_set]⟩
   ·exact ⟨Ord.like.rfl' _, fun _ => Ord.like.rfl' _, List.Sublist.refl _, rfl⟩
def sumT (ts : List Trd) (id : Int) : Int := (ts.map fun t => if t.buy = id ∨ t.sell = id then t.n else 0).sum
theorem sumT_cons (t : Trd) (ts : List Trd) (id : Int) : sumT (t :: ts) id = (if t.buy = id ∨ t.sell = id then t.n else 0) + sumT ts id := by
 unfold sumT
 rw [List.map_cons, List.sum_cons]
theorem sumT_append (a b : List Trd) (id : Int) : sumT (a ++ b) id = sumT a id + sumT b id := by
 unfold sumT
 rw [List.map_append, List.sum_append]
structure TrdOk (os : List Ord) (t : Trd) : Prop where
 b0 : 0 ≤ t.buy
 b1 : t.buy < (os.length : Int)
 s0 : 0 ≤ t.sell
 s1 : t.sell < (os.length : Int)
 bb : (ordAt os t.buy.toNat).buy = true
 ss : (ordAt os t.sell.toNat).buy = false
 acc : (ordAt os t.buy.toNat).acc ≠ (ordAt os t.sell.toNat).acc
 n : 1 ≤ t.n
 p1 : t.price ≤ (ordAt os t.buy.toNat).price
 p0 : (ordAt os t.sell.toNat).price ≤ t.price
theorem TrdOk.like {os os' : List Ord} {t : Trd} (h : TrdOk os t) (hl : os.length ≤ os'.length) (hk : ∀ k, k < os.length → (ordAt os' k).like (ordAt os k)) : TrdOk os' t := by
 have hb := hk t.buy.toNat (by have := h.b0; have := h.b1; omega)
 have hs := hk t.sell.toNat (by have := h.s0; have := h.s1; omega)
 exact ⟨h.b0, by have := h.b1; omega, h.s0, by have := h.s1; omega, hb.2.2.1.trans h.bb, hs.2.2.1.trans h.ss, by rw [hb.2.1, hs.2.1]; exact h.acc, h.n, by rw [hb.2.2.2.1]; exact h.p1, by rw [hs.2.2.2.1]; exact h.p0⟩
theorem matchP_sums : ∀ (l : List Nat) (os : List Ord) (o : Ord), (∀ k, k < os.length → (ordAt os k).id = (k : Int)) → o.id = (os.length : Int) → l.Nodup → (∀ k ∈ l, k < os.length ∧ (ordAt os k).buy = (!o.buy) ∧ 0 < (ordAt os k).left) →
 (∀ k, k < os.length → (ordAt os k).left = (ordAt (matchP os o l).2.2.1 k).left + sumT (matchP os o l).1 (k : Int)) ∧ o.left = (matchP os o l).2.1.left + sumT (matchP os o l).1 o.id ∧ ∀ t ∈ (matchP os o l).1, TrdOk (os ++ [o]) t
 | [], os, o, _, _, _, _ => ⟨fun k _ => by simp [matchP, sumT], by simp [matchP, sumT], fun t ht => by simp [matchP] at ht⟩
 | id :: t, os, o, hi, ho, hn, hm => by
   obtain ⟨n1, n2⟩ := List.nodup_cons.1 hn
   obtain ⟨m1, m2, m3⟩ := hm id List.mem_cons_self
   have hid := hi id m1
   rw [matchP]
   split
   ·rename_i hc
    split
    ·exact matchP_sums t os o hi ho n2 (fun k hk => hm k (List.mem_cons_of_mem _ hk))
    ·rename_i hacc
     obtain ⟨m, hmm⟩ : ∃ m, min o.left (ordAt os id).left = m := ⟨_, rfl⟩
     rw [hmm]
     have hm1 : 1 ≤ m := by omega
     have htb : (trdOf o (ordAt os id) m).buy = (if o.buy then o.id else (id : Int)) ∧ (trdOf o (ordAt os id) m).sell = (if o.buy then (id : Int) else o.id) ∧ (trdOf o (ordAt os id) m).n = m ∧ (trdOf o (ordAt os id) m).price = (ordAt os id).price := by
      unfold trdOf
      cases o.buy <;> simp [hid]
     obtain ⟨b1, b2, b3, b4⟩ := htb
     have hterm : ∀ j : Int, (if (trdOf o (ordAt os id) m).buy = j ∨ (trdOf o (ordAt os id) m).sell = j then (trdOf o (ordAt os id) m).n else 0) = if (id : Int) = j ∨ o.id = j then m else 0 := by
      intro j
      rw [b1, b2, b3]
      cases o.buy
      ·simp only [Bool.false_eq_true, if_false]
      ·simp only [if_true]
       by_cases e1 : o.id = j <;> by_cases e2 : (id : Int) = j <;> simp [e1, e2]
     have hok : TrdOk (os ++ [o]) (trdOf o (ordAt os id) m) := by
      have a1 : ordAt (os ++ [o]) id = ordAt os id := by rw [ordAt_app, if_neg (by omega)]
      have a2 : ordAt (os ++ [o]) o.id.toNat = o := by rw [ordAt_app, if_pos (by omega)]
      have hp := hc.2
      unfold acceptsB at hp
      have hlen : (os ++ [o]).length = os.length + 1 := by simp
      cases hb : o.buy
      ·rw [hb] at b1 b2 hp m2
       simp only [Bool.false_eq_true, if_false] at b1 b2 hp
       have e1 : (trdOf o (ordAt os id) m).buy.toNat = id := by rw [b1]; simp
       refine ⟨by omega, by omega, by omega, by omega, ?_, ?_, ?_, by omega, ?_, ?_⟩
       ·rw [e1, a1, m2]; rfl
       ·rw [b2, a2]; exact hb
       ·rw [e1, b2, a1, a2]; exact hacc
       ·rw [e1, a1, b4]; exact Int.le_refl _
       ·rw [b2, a2, b4]; exact of_decide_eq_true hp
      ·rw [hb] at b1 b2 hp m2
       simp only [if_true] at b1 b2 hp
       have e1 : (trdOf o (ordAt os id) m).sell.toNat = id := by rw [b2]; simp
       refine ⟨by omega, by omega, by omega, by omega, ?_, ?_, ?_, by omega, ?_, ?_⟩
       ·rw [b1, a2]; exact hb
       ·rw [e1, a1, m2]; rfl
       ·rw [e1, b1, a1, a2]; exact fun e => hacc e.symm
       ·rw [b1, a2, b4]; exact of_decide_eq_true hp
       ·rw [e1, a1, b4]; exact Int.le_refl _
     have hset : ∀ k, ordAt (os.set id ((ordAt os id).less m)) k = if k = id then (ordAt os id).less m else ordAt os k := fun k => ordAt_set m1
     have hleft : ∀ k, k < os.length → (ordAt os k).left = (ordAt (os.set id ((ordAt os id).less m)) k).left + (if (id : Int) = (k : Int) ∨ o.id = (k : Int) then m else 0) := by
      intro k hk
      rw [hset]
      by_cases e : k = id
      ·rw [if_pos e, if_pos (.inl (by omega)), e]
       show _ = (ordAt os id).left - m + m
       omega
      ·rw [if_neg e, if_neg (by omega)]
       omega
     split
     ·rename_i h0
      have ih := matchP_sums t (os.set id ((ordAt os id).less m)) (o.less m) (fun k hk => by
       rw [List.length_set] at hk
       rw [hset]
       split
       ·rename_i e
        rw [e]
        exact hid
       ·exact hi k hk) (by rw [List.length_set]; exact ho) n2 (fun k hk => by
       have h2 := hm k (List.mem_cons_of_mem _ hk)
       rw [List.length_set, hset, if_neg (show ¬ k = id from fun e => n1 (by rw [← e]; exact hk))]
       exact h2)
      obtain ⟨i1, i2, i3⟩ := ih
      rw [List.length_set] at i1
      refine ⟨fun k hk => ?_, ?_, fun u hu => ?_⟩
      ·rw [sumT_cons, hterm, hleft k hk, i1 k hk]
       dsimp only
       omega
      ·rw [sumT_cons, hterm, if_pos (.inr rfl)]
       have i2' : o.left - m = _ := i2
       show o.left = (matchP (os.set id ((ordAt os id).less m)) (o.less m) t).2.1.left + (m + sumT (matchP (os.set id ((ordAt os id).less m)) (o.less m) t).1 o.id)
       have : (o.less m).id = o.id := rfl
       rw [this] at i2'
       omega
      ·rcases List.mem_cons.1 hu with h | h
       ·rw [h]; exact hok
       ·refine (i3 u h).like (by simp) (fun k hk => ?_)
        rw [List.length_append, List.length_set, List.length_singleton] at hk
        rw [ordAt_app, ordAt_app, List.length_set]
        split
        ·exact ⟨rfl, rfl, rfl, rfl, rfl⟩
        ·rw [hset]
         split
         ·rename_i e
          rw [e]
          exact ⟨rfl, rfl, rfl, rfl, rfl⟩
         ·exact Ord.like.rfl' _
     ·refine ⟨fun k hk => ?_, ?_, fun u hu => ?_⟩
      ·rw [sumT_cons, hterm, hleft k hk]
       simp [sumT]
      ·rw [sumT_cons, hterm, if_pos (.inr rfl)]
       show o.left = o.left - m + (m + sumT [] o.id)
       simp [sumT]
      ·rw [List.mem_singleton.1 hu]
       exact hok
   ·exact ⟨fun k _ => by simp [sumT], by simp [sumT], fun t ht => by cases ht⟩
end Go.Proofs.YtlcalajehnaenaaGreatDoor
namespace Go.Proofs.YtlcalajehnaenaaGreatDoor
open Go.RowKit
structure ROrd where
 o : Ord
 e : Bool
def ROrd.cells (x : ROrd) : List Value := [.int .i64 x.o.id, .int .i64 x.o.acc, .bool x.o.buy, .int .i64 x.o.price, .int .i64 x.o.n, .int .i64 x.o.left, .bool x.e]
theorem ROrd.cells_length (x : ROrd) : x.cells.length = 7 := rfl
def ROrd.open (x : ROrd) : Bool := decide (0 < x.o.left) && !x.e
section
variable {l : List ROrd} {b : BkS}
end
end Go.Proofs.YtlcalajehnaenaaGreatDoor
namespace Go.Proofs.YtlcalajehnaenaaGreatDoor
open Go.RowKit
theorem rown_ge {W : World} {B n c e size : Nat} {A : Option Addr} {xs : List Value} (h : W.ownsRow B e size (.slice A n c) n xs) (hl : 0 < n) : ∃ g cur, A = some ⟨g, 0, none⟩ ∧ (Value.slice A n c).ownBlock = some g ∧ B ≤ g ∧ g < W.heap.size ∧ W.heap[g]? = some (.cells cur e (0, 0)) ∧ cur.toList.take (n * size) = xs ∧ n ≤ c ∧ c ≤ 9223372036854775807 := by
 have hl := h.1
 rcases h.2 with ⟨h1, h2⟩ | ⟨g, cap, cur, h2, h3, h4, h5, h6, h7, h8⟩
 ·injection h1 with h1 h3 h4
  omega
 ·injection h2 with h2 h9 h10
  subst h10
  exact ⟨g, cur, h2, by rw [h2]; rfl, h3, (Array.getElem?_eq_some_iff.1 h4).1, h4, by rw [← h8], h5, by simpa [maxLen] using h6⟩
section
variable {W W' : World} {B g n c : Nat} {A : Option Addr} {l : List ROrd} {F : Nat → Prop}
end
end Go.Proofs.YtlcalajehnaenaaGreatDoor
namespace Go.Proofs.YtlcalajehnaenaaGreatDoor
open Go.RowKit
section
variable {P : Program} {ops : Array Oper} {Q : Exit → Act → World → Prop} {md : Region.Mode} {S : World → Prop} {z : Nat}
theorem readyG2 {i j : Nat} {o p : Oper} {fuel : Nat} {listed : Array Bool} {a : Act} {w : World} (hr : Region.ready md ops listed = [i, j]) (ho : ops[i]? = some o) (hp : ops[j]? = some p)
 (h : ∀ K' : Act → World → Prop, Shut (∀ a w, S w → (S w → wpAnyG P md ops Q S z fuel (listed.setIfInBounds i true) a w) → K' a w) → if Region.wanted o (yielded ops a.tmps) = true then Oper.wp P o a w K' Q else K' (a.put o.dst undef) w)
 (h2 : ∀ K' : Act → World → Prop, Shut (∀ a w, S w → (S w → wpAnyG P md ops Q S z fuel (listed.setIfInBounds j true) a w) → K' a w) → if Region.wanted p (yielded ops a.tmps) = true then Oper.wp P p a w K' Q else K' (a.put p.dst undef) w) : wpAnyG P md ops Q S z (fuel + 1) listed a w :=
 ⟨fun h0 => (by rw [hr] at h0; cases h0), fun k hk => by
  rw [hr] at hk
  rcases List.mem_cons.1 hk with hk | hk
  ·subst hk
   exact wpOp_step ho (fun K' hK => h K' (fun a w hS hW => hK a w ⟨fun _ => hS, hW hS⟩))
  ·obtain rfl := List.mem_singleton.1 hk
   exact wpOp_step hp (fun K' hK => h2 K' (fun a w hS hW => hK a w ⟨fun _ => hS, hW hS⟩))⟩
end
theorem blk_of {B : Nat} {W w : World} (_ : Below B W w) (t : TypeId) (cs : Array Value) : Blk (w.alloc (.cells cs t)) w.heap.size t cs := Blk.new w t cs
theorem IRow.clip {W : World} {B n c : Nat} {A : Option Addr} {l : List Nat} (h : IRow W B (A, n, c) l) : IRow W B (A, n, n) l := by
 refine ⟨h.1, Nat.le_refl _, Nat.le_trans h.2.1 h.2.2.1, fun hn => ?_⟩
 have h1 := h.2.1
 dsimp only at hn h1
 obtain ⟨g, off, cur, h2, h3, h4, h5, h6⟩ := h.2.2.2 (by dsimp only; omega)
 exact ⟨g, off, cur, h2, h3, h4, by dsimp only at h5 ⊢; omega, h6⟩
set_option maxRecDepth 100000 in
set_option maxHeartbeats 2000000 in
theorem open_any (gb B k : Nat) (V : BkV) (b : BkS) (o : Ord) (w : World) (HK : Hid (BkAt w B gb V b)) (hk : Hid (o.id = (k : Int))) (hok : Hid ((b.opened o).Ok)) :
 Calls Tryz.prog 35 #[.pointer (some ⟨gb, 0, none⟩), .agg #[.int .i64 o.id, .int .i64 o.acc, .bool o.buy, .int .i64 o.price, .int .i64 o.n, .int .i64 o.left]] w fun e w' => e = .returned (.tuple #[]) ∧ BkPost gb B V b w (b.opened o) w' := by
 obtain ⟨i1, a1, b1, p1, n1, l1⟩ := o
 dsimp only at hk hok ⊢
 cases b1
 ·
   obtain ⟨A, n, c, hV⟩ : ∃ A n c, V.s = (A, n, c) := ⟨_, _, _, rfl⟩
   have hI : IRow w B (A, n, c) (b.side false) := by have := HK.out.ss; rw [hV] at this; exact this
   have HI := Lib.hid hI
   have HNC : Hid (n ≤ c) := Lib.hid hI.2.1
   have HV := Lib.hid hV
   clear hV hI
   obtain ⟨r, hr⟩ : ∃ r, placeN b.os (b.side false) ⟨i1, a1, false, p1, n1, l1⟩ = r := ⟨_, rfl⟩
   have HR := Lib.hid hr
   have HEND : Hid (b.opened ⟨i1, a1, false, p1, n1, l1⟩ = b.put false ((b.side false).take r ++ [k] ++ (b.side false).drop r)) := Lib.hid (by
    unfold BkS.opened
    dsimp only
    rw [hr, hk.out, Int.toNat_natCast])
   have hrn : r ≤ n := by
    have h2 := HI.out.len
    dsimp only at h2
    rw [← hr, ← h2]
    exact List.findIdx_le_length
   have HRN := Lib.hid hrn
   have HN : Hid (n ≤ 4096) := Lib.hid (by
    have h1 := HK.out.ok.few
    have h2 := HI.out.len
    dsimp only at h2
    rw [← h2]
    simp [BkS.side]
    omega)
   clear hrn hr
   go_enter Tryz.func35, Tryz.ntmps35
   go_wp2
   go_quiet ((go_at_call 33; exact (side_false _).mono (fun e w'' h => ⟨h.1, _, h.2.symm⟩)))
   all_goals
    obtain ⟨W, hW⟩ : ∃ W, W = ((w.alloc (.cells #[.int .i64 i1, .int .i64 a1, .bool false, .int .i64 p1, .int .i64 n1, .int .i64 l1] 55)).drewN nq) := ⟨_, rfl⟩
    rw [← hW]
    have hbW : Below w.heap.size w W := by rw [hW]; exact below_drewN ((Below.refl _ _).alloc (Nat.le_refl _) _) nq
    have k3 : Blk W w.heap.size 55 #[.int .i64 i1, .int .i64 a1, .bool false, .int .i64 p1, .int .i64 n1, .int .i64 l1] := by rw [hW]; exact blk_drewN nq (Blk.new w _ _)
    have HA := Lib.hid (HK.out.all hbW)
    have HBW := Lib.hid hbW
    clear hW
    obtain ⟨g3, hg3⟩ : ∃ g3, w.heap.size = g3 := ⟨_, rfl⟩
    rw [hg3] at k3 ⊢
    have HS : Hid (∀ w', Below W.heap.size W w' → (fun w' => w'.cell? ⟨gb, 3, none⟩ = some (.slice A n c) ∧ w'.cell? ⟨g3, 0, none⟩ = some (.int .i64 i1) ∧ w'.cell? ⟨g3, 1, none⟩ = some (.int .i64 a1) ∧ w'.cell? ⟨g3, 2, none⟩ = some (.bool false) ∧ w'.cell? ⟨g3, 3, none⟩ = some (.int .i64 p1) ∧ w'.cell? ⟨g3, 4, none⟩ = some (.int .i64 n1) ∧ w'.cell? ⟨g3, 5, none⟩ = some (.int .i64 l1) ∧ w'.frozen? ⟨gb, 3, none⟩ = false) w') := Lib.hid (fun w' hm => by
     have q3 := k3.all hm
     have q1 := HA.out.blk.all hm
     have u1 := q1.cell 3
     simp only [List.getElem?_toArray, List.getElem?_cons_zero, List.getElem?_cons_succ] at u1
     unfold slV at u1
     rw [HV.out] at u1
     exact ⟨u1, by rw [q3.cell]; rfl, by rw [q3.cell]; rfl, by rw [q3.cell]; rfl, by rw [q3.cell]; rfl, by rw [q3.cell]; rfl, by rw [q3.cell]; rfl, q1.frozen _⟩)
    have HP : Hid (∀ w', Below W.heap.size W w' → Calls Tryz.prog 80 #[.pointer (some ⟨gb, 0, none⟩), .agg #[.int .i64 i1, .int .i64 a1, .bool false, .int .i64 p1, .int .i64 n1, .int .i64 l1]] w' fun e w'' => e = .returned (.int .i64 (r : Int)) ∧ Below w'.heap.size w' w'') := Lib.hid (fun w' hb => by rw [← HR.out]; exact place_any gb B V b ⟨i1, a1, false, p1, n1, l1⟩ w' (Lib.hid (HA.out.all hb)))
    have HD : Hid (∀ w' vb, Below W.heap.size W w' → Blk w' vb 3 #[.int .i64 i1] → Calls Tryz.prog 78 #[.slice A n n, .int .i64 (r : Int), .slice (some ⟨vb, 0, none⟩) 1 1] w' fun e w'' => ∃ A' c', e = .returned (.slice A' (n + 1) c') ∧ IRow w'' B (A', n + 1, c') ((b.side false).take r ++ [k] ++ (b.side false).drop r) ∧ (∀ g, blkOf (A', n + 1, c') = some g → w'.heap.size ≤ g) ∧ Below w'.heap.size w' w'') := Lib.hid (fun w' vb hb hv => by
     have hI' := (HI.out.all HBW.out).all hb
     rw [hk.out] at hv
     exact ins_any A n r vb k (b.side false) B w' hI'.clip HRN.out (by have := HN.out; omega) hv (Nat.le_trans (Nat.le_trans (Nat.le_of_lt (Nat.lt_of_le_of_lt HK.out.ge HK.out.blk.lt)) HBW.out.size) hb.size))
    have hP : Below W.heap.size W W.drew := below_drewN (Below.refl _ _) 1
    replace hg3 := Lib.hid hg3
    clear hbW k3
    go_wp2
    refine beginG (S := (fun w' => w'.cell? ⟨gb, 3, none⟩ = some (.slice A n c) ∧ w'.cell? ⟨g3, 0, none⟩ = some (.int .i64 i1) ∧ w'.cell? ⟨g3, 1, none⟩ = some (.int .i64 a1) ∧ w'.cell? ⟨g3, 2, none⟩ = some (.bool false) ∧ w'.cell? ⟨g3, 3, none⟩ = some (.int .i64 p1) ∧ w'.cell? ⟨g3, 4, none⟩ = some (.int .i64 n1) ∧ w'.cell? ⟨g3, 5, none⟩ = some (.int .i64 l1) ∧ w'.frozen? ⟨gb, 3, none⟩ = false)) 15 (by kernel_rfl) (HS.out _ hP) (fun hHeld => ?_)
    refine takeG 0 (some 12) (v := ?_) (by rfl) (by rfl) (by kernel_rfl) (by kernel_rfl) (by decide) (by kernel_rfl) (by kernel_rfl) (fun _ _ _ h => h) ?_ (by assumption) ?_
    rotate_left
    ·(intro o ho w hSw; obtain ⟨z0, z1, z2, z3, z4, z5, z6, z7⟩ := hSw; cases ho; go_simp; try with_reducible rfl)
    try simp only [Act.put, pB, pC, pD]
    refine takeG 1 (some 13) (v := ?_) (by rfl) (by rfl) (by kernel_rfl) (by kernel_rfl) (by decide) (by kernel_rfl) (by kernel_rfl) (fun _ _ _ h => h) ?_ (by assumption) ?_
    rotate_left
    ·(intro o ho w hSw; obtain ⟨z0, z1, z2, z3, z4, z5, z6, z7⟩ := hSw; cases ho; go_simp; try with_reducible rfl)
    try simp only [Act.put, pB, pC, pD]
    refine takeG 2 (some 14) (v := ?_) (by rfl) (by rfl) (by kernel_rfl) (by kernel_rfl) (by decide) (by kernel_rfl) (by kernel_rfl) (fun _ _ _ h => h) ?_ (by assumption) ?_
    rotate_left
    ·(intro o ho w hSw; obtain ⟨z0, z1, z2, z3, z4, z5, z6, z7⟩ := hSw; cases ho; go_simp; try with_reducible rfl)
    try simp only [Act.put, pB, pC, pD]
    refine takeG 3 (some 15) (v := ?_) (by rfl) (by rfl) (by kernel_rfl) (by kernel_rfl) (by decide) (by kernel_rfl) (by kernel_rfl) (fun _ _ _ h => h) ?_ (by assumption) ?_
    rotate_left
    ·(intro o ho w hSw; obtain ⟨z0, z1, z2, z3, z4, z5, z6, z7⟩ := hSw; cases ho; go_simp; try with_reducible rfl)
    try simp only [Act.put, pB, pC, pD]
    refine takeG 4 (some 16) (v := ?_) (by rfl) (by rfl) (by kernel_rfl) (by kernel_rfl) (by decide) (by kernel_rfl) (by kernel_rfl) (fun _ _ _ h => h) ?_ (by assumption) ?_
    rotate_left
    ·(intro o ho w hSw; obtain ⟨z0, z1, z2, z3, z4, z5, z6, z7⟩ := hSw; cases ho; go_simp; try with_reducible rfl)
    try simp only [Act.put, pB, pC, pD]
    refine takeG 6 (some 18) (v := ?_) (by rfl) (by rfl) (by kernel_rfl) (by kernel_rfl) (by decide) (by kernel_rfl) (by kernel_rfl) (fun _ _ _ h => h) ?_ (by assumption) ?_
    rotate_left
    ·(intro o ho w hSw; obtain ⟨z0, z1, z2, z3, z4, z5, z6, z7⟩ := hSw; cases ho; go_simp; try with_reducible rfl)
    try simp only [Act.put, pB, pC, pD]
    refine takeG 7 (some 19) (v := ?_) (by rfl) (by rfl) (by kernel_rfl) (by kernel_rfl) (by decide) (by kernel_rfl) (by kernel_rfl) (fun _ _ _ h => h) ?_ (by assumption) ?_
    rotate_left
    ·(intro o ho w hSw; obtain ⟨z0, z1, z2, z3, z4, z5, z6, z7⟩ := hSw; cases ho; go_simp; try with_reducible rfl)
    try simp only [Act.put, pB, pC, pD]
    refine takeG 9 (some 21) (v := ?_) (by rfl) (by rfl) (by kernel_rfl) (by kernel_rfl) (by decide) (by kernel_rfl) (by kernel_rfl) (fun _ _ _ h => h) ?_ (by assumption) ?_
    rotate_left
    ·(intro o ho w hSw; obtain ⟨z0, z1, z2, z3, z4, z5, z6, z7⟩ := hSw; cases ho; go_simp; try with_reducible rfl)
    try simp only [Act.put, pB, pC, pD]
    refine takeG 10 (some 22) (v := ?_) (by rfl) (by rfl) (by kernel_rfl) (by kernel_rfl) (by decide) (by kernel_rfl) (by kernel_rfl) (fun _ _ _ h => h) ?_ (by assumption) ?_
    rotate_left
    ·(intro o ho w hSw; obtain ⟨z0, z1, z2, z3, z4, z5, z6, z7⟩ := hSw; cases ho; go_simp; try with_reducible rfl)
    try simp only [Act.put, pB, pC, pD]
    refine readyG2 (i := 5) (j := 11) (by kernel_rfl) rfl rfl (fun K hK => ?_) (fun K hK => ?_)
    ·skip
     go_simp
     go_at_call 79
     (with_reducible refine (clip_any A n c _ HNC.out).mono ?_)
     rintro e w'' ⟨rfl, rfl⟩
     go_wp2
     refine hK.out _ _ ?_ (fun hH5 => ?_)
     ·exact (HS.out _ hP)
     clear hK K
     try simp only [Act.put, pB, pC, pD]
     refine readyG2 (i := 8) (j := 11) (by kernel_rfl) rfl rfl (fun K hK => ?_) (fun K hK => ?_)
     ·skip
      go_simp
      go_at_call 80
      (refine (HP.out _ hP).mono ?_)
      rintro e wp ⟨rfl, hb1⟩
      try replace hVB := Blk.all hVB hb1
      replace hP := bt hP hb1
      clear hb1
      go_wp2
      refine hK.out _ _ ?_ (fun hH8 => ?_)
      ·exact (HS.out _ hP)
      clear hK K
      try simp only [Act.put, pB, pC, pD]
      refine readyG (i := 11) (by kernel_rfl) rfl (fun K hK => ?_)
      go_simp
      have hVB := blk_of hP 3 #[.int .i64 i1]
      replace hP := hP.alloc hP.size (.cells #[.int .i64 i1] 3)
      refine hK.out _ _ ?_ (fun hH11 => ?_)
      ·exact (HS.out _ hP)
      clear hK K
      (try simp only [Act.put]); (try simp only [pB]); (try simp only [pD]); (try simp only [pC])
      refine readyG (i := 12) (by kernel_rfl) rfl (fun K hK => ?_)
      go_simp
      go_at_call 78
      (refine (HD.out _ _ hP hVB).mono ?_)
      rintro e w5 ⟨A', c', rfl, hI5, hB5, hb5⟩
      have hP5 := bt hP hb5
      go_wp2
      refine hK.out _ _ ?_ (fun hH12 => ?_)
      ·exact (HS.out _ hP5)
      clear hK K
      try simp only [Act.put, pB, pC, pD]
      refine readyG (i := 13) (by kernel_rfl) rfl (fun K hK => ?_)
      go_simp
      refine hK.out _ _ ?_ (fun hH13 => ?_)
      ·exact (HS.out _ hP5)
      clear hK K
      try simp only [Act.put, pB, pC, pD]
      refine takeG 14 (some 26) (v := ?_) (by rfl) (by rfl) (by kernel_rfl) (by kernel_rfl) (by decide) (by kernel_rfl) (by kernel_rfl) (fun _ _ _ h => h) ?_ (by assumption) ?_
      rotate_left
      ·(intro o ho w hSw; obtain ⟨z0, z1, z2, z3, z4, z5, z6, z7⟩ := hSw; cases ho; go_simp; try with_reducible rfl)
      (try simp only [Act.put]); (try simp only [pB]); (try simp only [pD]); (try simp only [pC])
      refine lastG (by kernel_rfl) rfl (fun K hK => ?_)
      have hL5 := HS.out _ hP5
      obtain ⟨z0, z1, z2, z3, z4, z5, z6, z7⟩ := hL5
      go_simp
      refine hK.out _ _ ?_
      clear hK K
      (try simp only [Act.put]); (try simp only [pB]); (try simp only [pD]); (try simp only [pC])
      refine doneG (by kernel_rfl) ?_ _
      go_wp2
      refine bodyPost_end (v := .tuple #[]) (by simp [results, Tryz.results35, go_sem]) rfl ⟨rfl, ?_⟩
      have hb0 := HBW.out
      have hL5 : BkAt W B gb V b := HA.out
      have hM0 : Mod (fun g => blkOf V.s = some g) W w5 := Mod.of_below _ hP5
      obtain ⟨V', hA', hM', hF'⟩ := hL5.put_false hM0 hI5 (fun g hg => .inr (by have := hB5 g hg; have := hP.size; omega)) (by rw [← HEND.out]; exact hok.out)
      rw [HEND.out]
      refine ⟨V', hA', ?_, fun g hg => (hF' g hg).imp id (fun h => Nat.le_trans HBW.out.size h)⟩
      rw [hg3.out] at hb0
      exact (Mod.of_below _ (by rw [hg3.out]; exact hb0)).trans hM' (fun g hg => .inl hg)
     ·skip
      go_simp
      have hVB := blk_of hP 3 #[.int .i64 i1]
      replace hP := hP.alloc hP.size (.cells #[.int .i64 i1] 3)
      refine hK.out _ _ ?_ (fun hH11 => ?_)
      ·exact (HS.out _ hP)
      clear hK K
      (try simp only [Act.put]); (try simp only [pB]); (try simp only [pD]); (try simp only [pC])
      refine readyG (i := 8) (by kernel_rfl) rfl (fun K hK => ?_)
      go_simp
      go_at_call 80
      (refine (HP.out _ hP).mono ?_)
      rintro e wp ⟨rfl, hb1⟩
      try replace hVB := Blk.all hVB hb1
      replace hP := bt hP hb1
      clear hb1
      go_wp2
      refine hK.out _ _ ?_ (fun hH8 => ?_)
      ·exact (HS.out _ hP)
      clear hK K
      try simp only [Act.put, pB, pC, pD]
      refine readyG (i := 12) (by kernel_rfl) rfl (fun K hK => ?_)
      go_simp
      go_at_call 78
      (refine (HD.out _ _ hP hVB).mono ?_)
      rintro e w5 ⟨A', c', rfl, hI5, hB5, hb5⟩
      have hP5 := bt hP hb5
      go_wp2
      refine hK.out _ _ ?_ (fun hH12 => ?_)
      ·exact (HS.out _ hP5)
      clear hK K
      try simp only [Act.put, pB, pC, pD]
      refine readyG (i := 13) (by kernel_rfl) rfl (fun K hK => ?_)
      go_simp
      refine hK.out _ _ ?_ (fun hH13 => ?_)
      ·exact (HS.out _ hP5)
      clear hK K
      try simp only [Act.put, pB, pC, pD]
      refine takeG 14 (some 26) (v := ?_) (by rfl) (by rfl) (by kernel_rfl) (by kernel_rfl) (by decide) (by kernel_rfl) (by kernel_rfl) (fun _ _ _ h => h) ?_ (by assumption) ?_
      rotate_left
      ·(intro o ho w hSw; obtain ⟨z0, z1, z2, z3, z4, z5, z6, z7⟩ := hSw; cases ho; go_simp; try with_reducible rfl)
      (try simp only [Act.put]); (try simp only [pB]); (try simp only [pD]); (try simp only [pC])
      refine lastG (by kernel_rfl) rfl (fun K hK => ?_)
      have hL5 := HS.out _ hP5
      obtain ⟨z0, z1, z2, z3, z4, z5, z6, z7⟩ := hL5
      go_simp
      refine hK.out _ _ ?_
      clear hK K
      (try simp only [Act.put]); (try simp only [pB]); (try simp only [pD]); (try simp only [pC])
      refine doneG (by kernel_rfl) ?_ _
      go_wp2
      refine bodyPost_end (v := .tuple #[]) (by simp [results, Tryz.results35, go_sem]) rfl ⟨rfl, ?_⟩
      have hb0 := HBW.out
      have hL5 : BkAt W B gb V b := HA.out
      have hM0 : Mod (fun g => blkOf V.s = some g) W w5 := Mod.of_below _ hP5
      obtain ⟨V', hA', hM', hF'⟩ := hL5.put_false hM0 hI5 (fun g hg => .inr (by have := hB5 g hg; have := hP.size; omega)) (by rw [← HEND.out]; exact hok.out)
      rw [HEND.out]
      refine ⟨V', hA', ?_, fun g hg => (hF' g hg).imp id (fun h => Nat.le_trans HBW.out.size h)⟩
      rw [hg3.out] at hb0
      exact (Mod.of_below _ (by rw [hg3.out]; exact hb0)).trans hM' (fun g hg => .inl hg)
    ·skip
     go_simp
     have hVB := blk_of hP 3 #[.int .i64 i1]
     replace hP := hP.alloc hP.size (.cells #[.int .i64 i1] 3)
     refine hK.out _ _ ?_ (fun hH11 => ?_)
     ·exact (HS.out _ hP)
     clear hK K
     (try simp only [Act.put]); (try simp only [pB]); (try simp only [pD]); (try simp only [pC])
     refine readyG (i := 5) (by kernel_rfl) rfl (fun K hK => ?_)
     go_simp
     go_at_call 79
     (with_reducible refine (clip_any A n c _ HNC.out).mono ?_)
     rintro e w'' ⟨rfl, rfl⟩
     go_wp2
     refine hK.out _ _ ?_ (fun hH5 => ?_)
     ·exact (HS.out _ hP)
     clear hK K
     try simp only [Act.put, pB, pC, pD]
     refine readyG (i := 8) (by kernel_rfl) rfl (fun K hK => ?_)
     go_simp
     go_at_call 80
     (refine (HP.out _ hP).mono ?_)
     rintro e wp ⟨rfl, hb1⟩
     try replace hVB := Blk.all hVB hb1
     replace hP := bt hP hb1
     clear hb1
     go_wp2
     refine hK.out _ _ ?_ (fun hH8 => ?_)
     ·exact (HS.out _ hP)
     clear hK K
     try simp only [Act.put, pB, pC, pD]
     refine readyG (i := 12) (by kernel_rfl) rfl (fun K hK => ?_)
     go_simp
     go_at_call 78
     (refine (HD.out _ _ hP hVB).mono ?_)
     rintro e w5 ⟨A', c', rfl, hI5, hB5, hb5⟩
     have hP5 := bt hP hb5
     go_wp2
     refine hK.out _ _ ?_ (fun hH12 => ?_)
     ·exact (HS.out _ hP5)
     clear hK K
     try simp only [Act.put, pB, pC, pD]
     refine readyG (i := 13) (by kernel_rfl) rfl (fun K hK => ?_)
     go_simp
     refine hK.out _ _ ?_ (fun hH13 => ?_)
     ·exact (HS.out _ hP5)
     clear hK K
     try simp only [Act.put, pB, pC, pD]
     refine takeG 14 (some 26) (v := ?_) (by rfl) (by rfl) (by kernel_rfl) (by kernel_rfl) (by decide) (by kernel_rfl) (by kernel_rfl) (fun _ _ _ h => h) ?_ (by assumption) ?_
     rotate_left
     ·(intro o ho w hSw; obtain ⟨z0, z1, z2, z3, z4, z5, z6, z7⟩ := hSw; cases ho; go_simp; try with_reducible rfl)
     (try simp only [Act.put]); (try simp only [pB]); (try simp only [pD]); (try simp only [pC])
     refine lastG (by kernel_rfl) rfl (fun K hK => ?_)
     have hL5 := HS.out _ hP5
     obtain ⟨z0, z1, z2, z3, z4, z5, z6, z7⟩ := hL5
     go_simp
     refine hK.out _ _ ?_
     clear hK K
     (try simp only [Act.put]); (try simp only [pB]); (try simp only [pD]); (try simp only [pC])
     refine doneG (by kernel_rfl) ?_ _
     go_wp2
     refine bodyPost_end (v := .tuple #[]) (by simp [results, Tryz.results35, go_sem]) rfl ⟨rfl, ?_⟩
     have hb0 := HBW.out
     have hL5 : BkAt W B gb V b := HA.out
     have hM0 : Mod (fun g => blkOf V.s = some g) W w5 := Mod.of_below _ hP5
     obtain ⟨V', hA', hM', hF'⟩ := hL5.put_false hM0 hI5 (fun g hg => .inr (by have := hB5 g hg; have := hP.size; omega)) (by rw [← HEND.out]; exact hok.out)
     rw [HEND.out]
     refine ⟨V', hA', ?_, fun g hg => (hF' g hg).imp id (fun h => Nat.le_trans HBW.out.size h)⟩
     rw [hg3.out] at hb0
     exact (Mod.of_below _ (by rw [hg3.out]; exact hb0)).trans hM' (fun g hg => .inl hg)
 ·
   obtain ⟨A, n, c, hV⟩ : ∃ A n c, V.b = (A, n, c) := ⟨_, _, _, rfl⟩
   have hI : IRow w B (A, n, c) (b.side true) := by have := HK.out.bs; rw [hV] at this; exact this
   have HI := Lib.hid hI
   have HNC : Hid (n ≤ c) := Lib.hid hI.2.1
   have HV := Lib.hid hV
   clear hV hI
   obtain ⟨r, hr⟩ : ∃ r, placeN b.os (b.side true) ⟨i1, a1, true, p1, n1, l1⟩ = r := ⟨_, rfl⟩
   have HR := Lib.hid hr
   have HEND : Hid (b.opened ⟨i1, a1, true, p1, n1, l1⟩ = b.put true ((b.side true).take r ++ [k] ++ (b.side true).drop r)) := Lib.hid (by
    unfold BkS.opened
    dsimp only
    rw [hr, hk.out, Int.toNat_natCast])
   have hrn : r ≤ n := by
    have h2 := HI.out.len
    dsimp only at h2
    rw [← hr, ← h2]
    exact List.findIdx_le_length
   have HRN := Lib.hid hrn
   have HN : Hid (n ≤ 4096) := Lib.hid (by
    have h1 := HK.out.ok.few
    have h2 := HI.out.len
    dsimp only at h2
    rw [← h2]
    simp [BkS.side]
    omega)
   clear hrn hr
   go_enter Tryz.func35, Tryz.ntmps35
   go_wp2
   go_quiet ((go_at_call 33; exact (side_true _).mono (fun e w'' h => ⟨h.1, _, h.2.symm⟩)))
   all_goals
    obtain ⟨W, hW⟩ : ∃ W, W = ((w.alloc (.cells #[.int .i64 i1, .int .i64 a1, .bool true, .int .i64 p1, .int .i64 n1, .int .i64 l1] 55)).drewN nq) := ⟨_, rfl⟩
    rw [← hW]
    have hbW : Below w.heap.size w W := by rw [hW]; exact below_drewN ((Below.refl _ _).alloc (Nat.le_refl _) _) nq
    have k3 : Blk W w.heap.size 55 #[.int .i64 i1, .int .i64 a1, .bool true, .int .i64 p1, .int .i64 n1, .int .i64 l1] := by rw [hW]; exact blk_drewN nq (Blk.new w _ _)
    have HA := Lib.hid (HK.out.all hbW)
    have HBW := Lib.hid hbW
    clear hW
    obtain ⟨g3, hg3⟩ : ∃ g3, w.heap.size = g3 := ⟨_, rfl⟩
    rw [hg3] at k3 ⊢
    have HS : Hid (∀ w', Below W.heap.size W w' → (fun w' => w'.cell? ⟨gb, 1, none⟩ = some (.slice A n c) ∧ w'.cell? ⟨g3, 0, none⟩ = some (.int .i64 i1) ∧ w'.cell? ⟨g3, 1, none⟩ = some (.int .i64 a1) ∧ w'.cell? ⟨g3, 2, none⟩ = some (.bool true) ∧ w'.cell? ⟨g3, 3, none⟩ = some (.int .i64 p1) ∧ w'.cell? ⟨g3, 4, none⟩ = some (.int .i64 n1) ∧ w'.cell? ⟨g3, 5, none⟩ = some (.int .i64 l1) ∧ w'.frozen? ⟨gb, 1, none⟩ = false) w') := Lib.hid (fun w' hm => by
     have q3 := k3.all hm
     have q1 := HA.out.blk.all hm
     have u1 := q1.cell 1
     simp only [List.getElem?_toArray, List.getElem?_cons_zero, List.getElem?_cons_succ] at u1
     unfold slV at u1
     rw [HV.out] at u1
     exact ⟨u1, by rw [q3.cell]; rfl, by rw [q3.cell]; rfl, by rw [q3.cell]; rfl, by rw [q3.cell]; rfl, by rw [q3.cell]; rfl, by rw [q3.cell]; rfl, q1.frozen _⟩)
    have HP : Hid (∀ w', Below W.heap.size W w' → Calls Tryz.prog 80 #[.pointer (some ⟨gb, 0, none⟩), .agg #[.int .i64 i1, .int .i64 a1, .bool true, .int .i64 p1, .int .i64 n1, .int .i64 l1]] w' fun e w'' => e = .returned (.int .i64 (r : Int)) ∧ Below w'.heap.size w' w'') := Lib.hid (fun w' hb => by rw [← HR.out]; exact place_any gb B V b ⟨i1, a1, true, p1, n1, l1⟩ w' (Lib.hid (HA.out.all hb)))
    have HD : Hid (∀ w' vb, Below W.heap.size W w' → Blk w' vb 3 #[.int .i64 i1] → Calls Tryz.prog 78 #[.slice A n n, .int .i64 (r : Int), .slice (some ⟨vb, 0, none⟩) 1 1] w' fun e w'' => ∃ A' c', e = .returned (.slice A' (n + 1) c') ∧ IRow w'' B (A', n + 1, c') ((b.side true).take r ++ [k] ++ (b.side true).drop r) ∧ (∀ g, blkOf (A', n + 1, c') = some g → w'.heap.size ≤ g) ∧ Below w'.heap.size w' w'') := Lib.hid (fun w' vb hb hv => by
     have hI' := (HI.out.all HBW.out).all hb
     rw [hk.out] at hv
     exact ins_any A n r vb k (b.side true) B w' hI'.clip HRN.out (by have := HN.out; omega) hv (Nat.le_trans (Nat.le_trans (Nat.le_of_lt (Nat.lt_of_le_of_lt HK.out.ge HK.out.blk.lt)) HBW.out.size) hb.size))
    have hP : Below W.heap.size W W.drew := below_drewN (Below.refl _ _) 1
    replace hg3 := Lib.hid hg3
    clear hbW k3
    go_wp2
    refine beginG (S := (fun w' => w'.cell? ⟨gb, 1, none⟩ = some (.slice A n c) ∧ w'.cell? ⟨g3, 0, none⟩ = some (.int .i64 i1) ∧ w'.cell? ⟨g3, 1, none⟩ = some (.int .i64 a1) ∧ w'.cell? ⟨g3, 2, none⟩ = some (.bool true) ∧ w'.cell? ⟨g3, 3, none⟩ = some (.int .i64 p1) ∧ w'.cell? ⟨g3, 4, none⟩ = some (.int .i64 n1) ∧ w'.cell? ⟨g3, 5, none⟩ = some (.int .i64 l1) ∧ w'.frozen? ⟨gb, 1, none⟩ = false)) 15 (by kernel_rfl) (HS.out _ hP) (fun hHeld => ?_)
    refine takeG 0 (some 12) (v := ?_) (by rfl) (by rfl) (by kernel_rfl) (by kernel_rfl) (by decide) (by kernel_rfl) (by kernel_rfl) (fun _ _ _ h => h) ?_ (by assumption) ?_
    rotate_left
    ·(intro o ho w hSw; obtain ⟨z0, z1, z2, z3, z4, z5, z6, z7⟩ := hSw; cases ho; go_simp; try with_reducible rfl)
    try simp only [Act.put, pB, pC, pD]
    refine takeG 1 (some 13) (v := ?_) (by rfl) (by rfl) (by kernel_rfl) (by kernel_rfl) (by decide) (by kernel_rfl) (by kernel_rfl) (fun _ _ _ h => h) ?_ (by assumption) ?_
    rotate_left
    ·(intro o ho w hSw; obtain ⟨z0, z1, z2, z3, z4, z5, z6, z7⟩ := hSw; cases ho; go_simp; try with_reducible rfl)
    try simp only [Act.put, pB, pC, pD]
    refine takeG 2 (some 14) (v := ?_) (by rfl) (by rfl) (by kernel_rfl) (by kernel_rfl) (by decide) (by kernel_rfl) (by kernel_rfl) (fun _ _ _ h => h) ?_ (by assumption) ?_
    rotate_left
    ·(intro o ho w hSw; obtain ⟨z0, z1, z2, z3, z4, z5, z6, z7⟩ := hSw; cases ho; go_simp; try with_reducible rfl)
    try simp only [Act.put, pB, pC, pD]
    refine takeG 3 (some 15) (v := ?_) (by rfl) (by rfl) (by kernel_rfl) (by kernel_rfl) (by decide) (by kernel_rfl) (by kernel_rfl) (fun _ _ _ h => h) ?_ (by assumption) ?_
    rotate_left
    ·(intro o ho w hSw; obtain ⟨z0, z1, z2, z3, z4, z5, z6, z7⟩ := hSw; cases ho; go_simp; try with_reducible rfl)
    try simp only [Act.put, pB, pC, pD]
    refine takeG 4 (some 16) (v := ?_) (by rfl) (by rfl) (by kernel_rfl) (by kernel_rfl) (by decide) (by kernel_rfl) (by kernel_rfl) (fun _ _ _ h => h) ?_ (by assumption) ?_
    rotate_left
    ·(intro o ho w hSw; obtain ⟨z0, z1, z2, z3, z4, z5, z6, z7⟩ := hSw; cases ho; go_simp; try with_reducible rfl)
    try simp only [Act.put, pB, pC, pD]
    refine takeG 6 (some 18) (v := ?_) (by rfl) (by rfl) (by kernel_rfl) (by kernel_rfl) (by decide) (by kernel_rfl) (by kernel_rfl) (fun _ _ _ h => h) ?_ (by assumption) ?_
    rotate_left
    ·(intro o ho w hSw; obtain ⟨z0, z1, z2, z3, z4, z5, z6, z7⟩ := hSw; cases ho; go_simp; try with_reducible rfl)
    try simp only [Act.put, pB, pC, pD]
    refine takeG 7 (some 19) (v := ?_) (by rfl) (by rfl) (by kernel_rfl) (by kernel_rfl) (by decide) (by kernel_rfl) (by kernel_rfl) (fun _ _ _ h => h) ?_ (by assumption) ?_
    rotate_left
    ·(intro o ho w hSw; obtain ⟨z0, z1, z2, z3, z4, z5, z6, z7⟩ := hSw; cases ho; go_simp; try with_reducible rfl)
    try simp only [Act.put, pB, pC, pD]
    refine takeG 9 (some 21) (v := ?_) (by rfl) (by rfl) (by kernel_rfl) (by kernel_rfl) (by decide) (by kernel_rfl) (by kernel_rfl) (fun _ _ _ h => h) ?_ (by assumption) ?_
    rotate_left
    ·(intro o ho w hSw; obtain ⟨z0, z1, z2, z3, z4, z5, z6, z7⟩ := hSw; cases ho; go_simp; try with_reducible rfl)
    try simp only [Act.put, pB, pC, pD]
    refine takeG 10 (some 22) (v := ?_) (by rfl) (by rfl) (by kernel_rfl) (by kernel_rfl) (by decide) (by kernel_rfl) (by kernel_rfl) (fun _ _ _ h => h) ?_ (by assumption) ?_
    rotate_left
    ·(intro o ho w hSw; obtain ⟨z0, z1, z2, z3, z4, z5, z6, z7⟩ := hSw; cases ho; go_simp; try with_reducible rfl)
    try simp only [Act.put, pB, pC, pD]
    refine readyG2 (i := 5) (j := 11) (by kernel_rfl) rfl rfl (fun K hK => ?_) (fun K hK => ?_)
    ·skip
     go_simp
     go_at_call 79
     (with_reducible refine (clip_any A n c _ HNC.out).mono ?_)
     rintro e w'' ⟨rfl, rfl⟩
     go_wp2
     refine hK.out _ _ ?_ (fun hH5 => ?_)
     ·exact (HS.out _ hP)
     clear hK K
     try simp only [Act.put, pB, pC, pD]
     refine readyG2 (i := 8) (j := 11) (by kernel_rfl) rfl rfl (fun K hK => ?_) (fun K hK => ?_)
     ·skip
      go_simp
      go_at_call 80
      (refine (HP.out _ hP).mono ?_)
      rintro e wp ⟨rfl, hb1⟩
      try replace hVB := Blk.all hVB hb1
      replace hP := bt hP hb1
      clear hb1
      go_wp2
      refine hK.out _ _ ?_ (fun hH8 => ?_)
      ·exact (HS.out _ hP)
      clear hK K
      try simp only [Act.put, pB, pC, pD]
      refine readyG (i := 11) (by kernel_rfl) rfl (fun K hK => ?_)
      go_simp
      have hVB := blk_of hP 3 #[.int .i64 i1]
      replace hP := hP.alloc hP.size (.cells #[.int .i64 i1] 3)
      refine hK.out _ _ ?_ (fun hH11 => ?_)
      ·exact (HS.out _ hP)
      clear hK K
      (try simp only [Act.put]); (try simp only [pB]); (try simp only [pD]); (try simp only [pC])
      refine readyG (i := 12) (by kernel_rfl) rfl (fun K hK => ?_)
      go_simp
      go_at_call 78
      (refine (HD.out _ _ hP hVB).mono ?_)
      rintro e w5 ⟨A', c', rfl, hI5, hB5, hb5⟩
      have hP5 := bt hP hb5
      go_wp2
      refine hK.out _ _ ?_ (fun hH12 => ?_)
      ·exact (HS.out _ hP5)
      clear hK K
      try simp only [Act.put, pB, pC, pD]
      refine readyG (i := 13) (by kernel_rfl) rfl (fun K hK => ?_)
      go_simp
      refine hK.out _ _ ?_ (fun hH13 => ?_)
      ·exact (HS.out _ hP5)
      clear hK K
      try simp only [Act.put, pB, pC, pD]
      refine takeG 14 (some 26) (v := ?_) (by rfl) (by rfl) (by kernel_rfl) (by kernel_rfl) (by decide) (by kernel_rfl) (by kernel_rfl) (fun _ _ _ h => h) ?_ (by assumption) ?_
      rotate_left
      ·(intro o ho w hSw; obtain ⟨z0, z1, z2, z3, z4, z5, z6, z7⟩ := hSw; cases ho; go_simp; try with_reducible rfl)
      (try simp only [Act.put]); (try simp only [pB]); (try simp only [pD]); (try simp only [pC])
      refine lastG (by kernel_rfl) rfl (fun K hK => ?_)
      have hL5 := HS.out _ hP5
      obtain ⟨z0, z1, z2, z3, z4, z5, z6, z7⟩ := hL5
      go_simp
      refine hK.out _ _ ?_
      clear hK K
      (try simp only [Act.put]); (try simp only [pB]); (try simp only [pD]); (try simp only [pC])
      refine doneG (by kernel_rfl) ?_ _
      go_wp2
      refine bodyPost_end (v := .tuple #[]) (by simp [results, Tryz.results35, go_sem]) rfl ⟨rfl, ?_⟩
      have hb0 := HBW.out
      have hL5 : BkAt W B gb V b := HA.out
      have hM0 : Mod (fun g => blkOf V.b = some g) W w5 := Mod.of_below _ hP5
      obtain ⟨V', hA', hM', hF'⟩ := hL5.put_true hM0 hI5 (fun g hg => .inr (by have := hB5 g hg; have := hP.size; omega)) (by rw [← HEND.out]; exact hok.out)
      rw [HEND.out]
      refine ⟨V', hA', ?_, fun g hg => (hF' g hg).imp id (fun h => Nat.le_trans HBW.out.size h)⟩
      rw [hg3.out] at hb0
      exact (Mod.of_below _ (by rw [hg3.out]; exact hb0)).trans hM' (fun g hg => .inl hg)
     ·skip
      go_simp
      have hVB := blk_of hP 3 #[.int .i64 i1]
      replace hP := hP.alloc hP.size (.cells #[.int .i64 i1] 3)
      refine hK.out _ _ ?_ (fun hH11 => ?_)
      ·exact (HS.out _ hP)
      clear hK K
      (try simp only [Act.put]); (try simp only [pB]); (try simp only [pD]); (try simp only [pC])
      refine readyG (i := 8) (by kernel_rfl) rfl (fun K hK => ?_)
      go_simp
      go_at_call 80
      (refine (HP.out _ hP).mono ?_)
      rintro e wp ⟨rfl, hb1⟩
      try replace hVB := Blk.all hVB hb1
      replace hP := bt hP hb1
      clear hb1
      go_wp2
      refine hK.out _ _ ?_ (fun hH8 => ?_)
      ·exact (HS.out _ hP)
      clear hK K
      try simp only [Act.put, pB, pC, pD]
      refine readyG (i := 12) (by kernel_rfl) rfl (fun K hK => ?_)
      go_simp
      go_at_call 78
      (refine (HD.out _ _ hP hVB).mono ?_)
      rintro e w5 ⟨A', c', rfl, hI5, hB5, hb5⟩
      have hP5 := bt hP hb5
      go_wp2
      refine hK.out _ _ ?_ (fun hH12 => ?_)
      ·exact (HS.out _ hP5)
      clear hK K
      try simp only [Act.put, pB, pC, pD]
      refine readyG (i := 13) (by kernel_rfl) rfl (fun K hK => ?_)
      go_simp
      refine hK.out _ _ ?_ (fun hH13 => ?_)
      ·exact (HS.out _ hP5)
      clear hK K
      try simp only [Act.put, pB, pC, pD]
      refine takeG 14 (some 26) (v := ?_) (by rfl) (by rfl) (by kernel_rfl) (by kernel_rfl) (by decide) (by kernel_rfl) (by kernel_rfl) (fun _ _ _ h => h) ?_ (by assumption) ?_
      rotate_left
      ·(intro o ho w hSw; obtain ⟨z0, z1, z2, z3, z4, z5, z6, z7⟩ := hSw; cases ho; go_simp; try with_reducible rfl)
      (try simp only [Act.put]); (try simp only [pB]); (try simp only [pD]); (try simp only [pC])
      refine lastG (by kernel_rfl) rfl (fun K hK => ?_)
      have hL5 := HS.out _ hP5
      obtain ⟨z0, z1, z2, z3, z4, z5, z6, z7⟩ := hL5
      go_simp
      refine hK.out _ _ ?_
      clear hK K
      (try simp only [Act.put]); (try simp only [pB]); (try simp only [pD]); (try simp only [pC])
      refine doneG (by kernel_rfl) ?_ _
      go_wp2
      refine bodyPost_end (v := .tuple #[]) (by simp [results, Tryz.results35, go_sem]) rfl ⟨rfl, ?_⟩
      have hb0 := HBW.out
      have hL5 : BkAt W B gb V b := HA.out
      have hM0 : Mod (fun g => blkOf V.b = some g) W w5 := Mod.of_below _ hP5
      obtain ⟨V', hA', hM', hF'⟩ := hL5.put_true hM0 hI5 (fun g hg => .inr (by have := hB5 g hg; have := hP.size; omega)) (by rw [← HEND.out]; exact hok.out)
      rw [HEND.out]
      refine ⟨V', hA', ?_, fun g hg => (hF' g hg).imp id (fun h => Nat.le_trans HBW.out.size h)⟩
      rw [hg3.out] at hb0
      exact (Mod.of_below _ (by rw [hg3.out]; exact hb0)).trans hM' (fun g hg => .inl hg)
    ·skip
     go_simp
     have hVB := blk_of hP 3 #[.int .i64 i1]
     replace hP := hP.alloc hP.size (.cells #[.int .i64 i1] 3)
     refine hK.out _ _ ?_ (fun hH11 => ?_)
     ·exact (HS.out _ hP)
     clear hK K
     (try simp only [Act.put]); (try simp only [pB]); (try simp only [pD]); (try simp only [pC])
     refine readyG (i := 5) (by kernel_rfl) rfl (fun K hK => ?_)
     go_simp
     go_at_call 79
     (with_reducible refine (clip_any A n c _ HNC.out).mono ?_)
     rintro e w'' ⟨rfl, rfl⟩
     go_wp2
     refine hK.out _ _ ?_ (fun hH5 => ?_)
     ·exact (HS.out _ hP)
     clear hK K
     try simp only [Act.put, pB, pC, pD]
     refine readyG (i := 8) (by kernel_rfl) rfl (fun K hK => ?_)
     go_simp
     go_at_call 80
     (refine (HP.out _ hP).mono ?_)
     rintro e wp ⟨rfl, hb1⟩
     try replace hVB := Blk.all hVB hb1
     replace hP := bt hP hb1
     clear hb1
     go_wp2
     refine hK.out _ _ ?_ (fun hH8 => ?_)
     ·exact (HS.out _ hP)
     clear hK K
     try simp only [Act.put, pB, pC, pD]
     refine readyG (i := 12) (by kernel_rfl) rfl (fun K hK => ?_)
     go_simp
     go_at_call 78
     (refine (HD.out _ _ hP hVB).mono ?_)
     rintro e w5 ⟨A', c', rfl, hI5, hB5, hb5⟩
     have hP5 := bt hP hb5
     go_wp2
     refine hK.out _ _ ?_ (fun hH12 => ?_)
     ·exact (HS.out _ hP5)
     clear hK K
     try simp only [Act.put, pB, pC, pD]
     refine readyG (i := 13) (by kernel_rfl) rfl (fun K hK => ?_)
     go_simp
     refine hK.out _ _ ?_ (fun hH13 => ?_)
     ·exact (HS.out _ hP5)
     clear hK K
     try simp only [Act.put, pB, pC, pD]
     refine takeG 14 (some 26) (v := ?_) (by rfl) (by rfl) (by kernel_rfl) (by kernel_rfl) (by decide) (by kernel_rfl) (by kernel_rfl) (fun _ _ _ h => h) ?_ (by assumption) ?_
     rotate_left
     ·(intro o ho w hSw; obtain ⟨z0, z1, z2, z3, z4, z5, z6, z7⟩ := hSw; cases ho; go_simp; try with_reducible rfl)
     (try simp only [Act.put]); (try simp only [pB]); (try simp only [pD]); (try simp only [pC])
     refine lastG (by kernel_rfl) rfl (fun K hK => ?_)
     have hL5 := HS.out _ hP5
     obtain ⟨z0, z1, z2, z3, z4, z5, z6, z7⟩ := hL5
     go_simp
     refine hK.out _ _ ?_
     clear hK K
     (try simp only [Act.put]); (try simp only [pB]); (try simp only [pD]); (try simp only [pC])
     refine doneG (by kernel_rfl) ?_ _
     go_wp2
     refine bodyPost_end (v := .tuple #[]) (by simp [results, Tryz.results35, go_sem]) rfl ⟨rfl, ?_⟩
     have hb0 := HBW.out
     have hL5 : BkAt W B gb V b := HA.out
     have hM0 : Mod (fun g => blkOf V.b = some g) W w5 := Mod.of_below _ hP5
     obtain ⟨V', hA', hM', hF'⟩ := hL5.put_true hM0 hI5 (fun g hg => .inr (by have := hB5 g hg; have := hP.size; omega)) (by rw [← HEND.out]; exact hok.out)
     rw [HEND.out]
     refine ⟨V', hA', ?_, fun g hg => (hF' g hg).imp id (fun h => Nat.le_trans HBW.out.size h)⟩
     rw [hg3.out] at hb0
     exact (Mod.of_below _ (by rw [hg3.out]; exact hb0)).trans hM' (fun g hg => .inl hg)
end Go.Proofs.YtlcalajehnaenaaGreatDoor
