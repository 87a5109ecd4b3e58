/- book: Place, whole. -/
import Derived.Test.YtlcalajehnaenaaGreatDoorHBkPuqT
import Derived.Test.YtlcalajehnaenaaGreatDoorHBkPuqF
import Derived.Test.YtlcalajehnaenaaGreatDoorHG25
import Derived.Test.YtlcalajehnaenaaGreatDoorHG16
import Derived.Deep.LoopGhost
import Derived.Test.YtlcalajehnaenaaGreatDoorHG24
import Derived.Test.YtlcalajehnaenaaGreatDoorHG21
import Derived.Test.YtlcalajehnaenaaGreatDoorHG11
import Derived.Test.YtlcalajehnaenaaGreatDoorHG4
import Derived.BigRegion
import Derived.RegionTactic
namespace Go.Proofs.YtlcalajehnaenaaGreatDoor
open Go.RowKit
theorem Place_any (gb B : Nat) (V : BkV) (b : BkS) (buy : Bool) (acc price n : Int) (w : World) (HK : Hid (BkAt w B gb V b)) (hlt : b.os.length < 100000) :
 Calls Tryz.prog 9 #[.pointer (some ⟨gb, 0, none⟩), .int .i64 acc, .bool buy, .int .i64 price, .int .i64 n] w (PlacePost gb B V b acc buy price n w) := by
 by_cases h1 : acc < 1 ∨ 1073741824 < acc
 ·exact place_err1 gb B V b buy acc price n w HK h1
 ·by_cases h2 : inR price = false ∨ inR n = false ∨ (1099511627776 : Int).tdiv n < price
  ·exact place_err2 gb B V b buy acc price n w HK (by omega) (by omega) h2
  ·have hp : inR price = true := by simpa using (fun e => h2 (.inl e))
   have hn : inR n = true := by simpa using (fun e => h2 (.inr (.inl e)))
   have hq : ¬ (1099511627776 : Int).tdiv n < price := fun e => h2 (.inr (.inr e))
   by_cases h3 : 4096 ≤ b.bs.length + b.ss.length
   ·exact place_err3 gb B V b buy acc price n w HK (by omega) (by omega) hp hn (by omega) h3
   ·cases buy
    ·exact place_false gb B V b acc price n w HK hlt (by omega) (by omega) hp hn (by omega) (by omega)
    ·exact place_true gb B V b acc price n w HK hlt (by omega) (by omega) hp hn (by omega) (by omega)
structure BkNext (gb B : Nat) (V : BkV) (b : BkS) (w : World) (V' : BkV) (b' : BkS) (w' : World) : Prop where
 bk : BkAt w' B gb V' b'
 mod : Mod (BkF gb V b.os.length) w w'
 new : ∀ g, BkF gb V' b'.os.length g → BkF gb V b.os.length g ∨ w.heap.size ≤ g
theorem BkPost.next {gb B : Nat} {V : BkV} {b b' : BkS} {w w' : World} (h : BkPost gb B V b w b' w') : ∃ V', BkNext gb B V b w V' b' w' := by
 obtain ⟨V', h1, h2, h3⟩ := h
 exact ⟨V', h1, h2, h3⟩
theorem placeE_ok {b b' : BkS} {acc price n id err : Int} {buy : Bool} {ts : List Trd} (h : placeE b acc buy price n = (id, ts, err, b')) : (placeE b acc buy price n).1 = id ∧ (placeE b acc buy price n).2.1 = ts ∧ (placeE b acc buy price n).2.2.1 = err ∧ (placeE b acc buy price n).2.2.2 = b' := by rw [h]; exact ⟨rfl, rfl, rfl, rfl⟩
theorem place_step (gb B : Nat) (V : BkV) (b : BkS) (buy : Bool) (acc price n : Int) (w : World) (HK : Hid (BkAt w B gb V b)) (hlt : b.os.length < 100000) {id err : Int} {ts : List Trd} {b' : BkS} {k : Nat} (hE : placeE b acc buy price n = (id, ts, err, b')) (hk : ts.length = k) :
 Calls Tryz.prog 9 #[.pointer (some ⟨gb, 0, none⟩), .int .i64 acc, .bool buy, .int .i64 price, .int .i64 n] w fun e w' => ∃ A c V', e = .returned (.tuple #[.int .i64 id, .slice A k c, .int .i64 err]) ∧ w'.ownsRow w.heap.size 59 4 (.slice A k c) k (ts.flatMap Trd.cells) ∧ BkNext gb B V b w V' b' w' := by
 refine (Place_any gb B V b buy acc price n w HK hlt).mono ?_
 rintro e w' ⟨A, c, h1, h2, h3⟩
 obtain ⟨e1, e2, e3, e4⟩ := placeE_ok hE
 rw [e1, e2, e3, hk] at h1
 rw [e2, hk] at h2
 rw [e4] at h3
 obtain ⟨V', h4⟩ := h3.next
 exact ⟨A, c, V', h1, h2, h4⟩
end Go.Proofs.YtlcalajehnaenaaGreatDoor
namespace Go.Proofs.YtlcalajehnaenaaGreatDoor
open Go.RowKit
section
variable {w w' : World} {B B' gb g n c : Nat} {V : BkV} {A : Option Addr} {l : List ROrd} {b b0 : BkS}
end
theorem matchP_len : ∀ (l : List Nat) (os : List Ord) (o : Ord), (matchP os o l).1.length ≤ l.length
 | [], os, o => by simp [matchP]
 | id :: t, os, o => by
   rw [matchP]
   split
   ·split
    ·have := matchP_len t os o
     simp only [List.length_cons]
     omega
    ·split
     ·have := matchP_len t (os.set id ((ordAt os id).less (min o.left (ordAt os id).left))) (o.less (min o.left (ordAt os id).left))
      simp only [List.length_cons]
      omega
     ·simp
   ·simp
end Go.Proofs.YtlcalajehnaenaaGreatDoor
namespace Go.Proofs.YtlcalajehnaenaaGreatDoor
open Go.RowKit
theorem own_base {w : World} {B B' e size n : Nat} {v : Value} {xs : List Value} (h : w.ownsRow B' e size v n xs) (hB : B ≤ B') : w.ownsRow B e size v n xs := ⟨h.1, h.2.imp id (fun ⟨g, cap, cur, h1, h2, h3⟩ => ⟨g, cap, cur, h1, Nat.le_trans hB h2, h3⟩)⟩
theorem opened_os (b : BkS) (o : Ord) : (b.opened o).os = b.os := put_os _ _ _
def book0 : BkS := ⟨[], [], []⟩
theorem ok0 : book0.Ok := by
 refine ⟨fun k hk => absurd hk (by simp [book0]), fun k hk => absurd hk (by simp [book0]), fun buy k hk => ?_, fun buy => ?_, by simp [book0]⟩
 ·cases buy <;> simp [book0, BkS.side] at hk
 ·cases buy <;> simp [book0, BkS.side, SortedB]
def opAt (l : List OpP) (k : Nat) : OpP := (l[k]?).getD ⟨0, 0, false, 0, 0, 0⟩
theorem OpsAt.all {w w' : World} {B m c : Nat} {A : Option Addr} {l : List OpP} (h : OpsAt w B A m c l) (hb : Below w.heap.size w w') : OpsAt w' B A m c l := ⟨own_keep h.own hb, h.len, h.acc⟩
theorem OpsAt.mod {w w' : World} {B m c : Nat} {A : Option Addr} {l : List OpP} {F : Nat → Prop} (h : OpsAt w B A m c l) (hm : Mod F w w') (hF : ∀ q, Ty w q 50 → ¬ F q) : OpsAt w' B A m c l := ⟨hm.own h.own (fun q hq => hF q (own_ty h.own hq)), h.len, h.acc⟩
end Go.Proofs.YtlcalajehnaenaaGreatDoor
namespace Go.Proofs.YtlcalajehnaenaaGreatDoor
open Go.RowKit
end Go.Proofs.YtlcalajehnaenaaGreatDoor
namespace Go.Proofs.YtlcalajehnaenaaGreatDoor
open Go.RowKit
end Go.Proofs.YtlcalajehnaenaaGreatDoor
namespace Go.Proofs.YtlcalajehnaenaaGreatDoor
open Go.RowKit
section
variable {b : BkS}
end
end Go.Proofs.YtlcalajehnaenaaGreatDoor
namespace Go.Proofs.YtlcalajehnaenaaGreatDoor
open Go.RowKit
end Go.Proofs.YtlcalajehnaenaaGreatDoor
namespace Go.Proofs.YtlcalajehnaenaaGreatDoor
open Go.RowKit
section
variable {P : Program} {w : World} {base t e size bytes n : Nat} {v : Value} {xs : List Value}
end
structure SumI (b : BkS) (T : List Trd) : Prop where
 ok : ∀ t ∈ T, TrdOk b.os t
 sum : ∀ k, k < b.os.length → (ordAt b.os k).n = (ordAt b.os k).left + sumT T (k : Int)
theorem sumT_zero : ∀ {T : List Trd} {n : Nat} {os : List Ord}, (∀ t ∈ T, TrdOk os t) → os.length ≤ n → sumT T (n : Int) = 0
 | [], _, _, _, _ => rfl
 | t :: T, n, os, h, hn => by
   have h1 := h t List.mem_cons_self
   rw [sumT_cons, sumT_zero (fun u hu => h u (List.mem_cons_of_mem _ hu)) hn, if_neg]
   ·rfl
   ·have := h1.b1
    have := h1.s1
    omega
theorem SumI.same {b c : BkS} {T : List Trd} (h : SumI b T) (ho : c.os = b.os) : SumI c T := ⟨by rw [ho]; exact h.ok, by rw [ho]; exact h.sum⟩
theorem SumI.place {b : BkS} {T : List Trd} (hok : b.Ok) (h : SumI b T) (acc : Int) (buy : Bool) (price m : Int) : SumI (placeE b acc buy price m).2.2.2 (T ++ (placeE b acc buy price m).2.1) := by
 unfold placeE
 split
 case isFalse =>
  show SumI b (T ++ [])
  rw [List.append_nil]
  exact h
 case isTrue he =>
 show SumI (placeS b acc buy price m).2 (T ++ (placeS b acc buy price m).1)
 obtain ⟨h1, h2, h3, h4⟩ := matchP_like (b.side !buy) b.os ⟨b.os.length, acc, buy, price, m, m⟩
 obtain ⟨s1, s2, s3⟩ := matchP_sums (b.side !buy) b.os ⟨b.os.length, acc, buy, price, m, m⟩ hok.ids rfl (hok.sorted (!buy)).nodup (fun k hk => hok.mem (!buy) k hk)
 unfold placeS
 dsimp only
 obtain ⟨r, hr⟩ : ∃ r, matchP b.os ⟨b.os.length, acc, buy, price, m, m⟩ (b.side !buy) = r := ⟨_, rfl⟩
 rw [hr] at h1 h2 h3 h4 s1 s2 s3 ⊢
 obtain ⟨ts, o, os', l'⟩ := r
 dsimp only at h1 h2 h3 h4 s1 s2 s3 ⊢
 have key : SumI ((b.put (!buy) l').setOs (os' ++ [o])) (T ++ ts) := by
  have hlike : ∀ k, k < b.os.length + 1 → (ordAt (os' ++ [o]) k).like (ordAt (b.os ++ [⟨b.os.length, acc, buy, price, m, m⟩]) k) := by
   intro k hk
   rw [ordAt_app, ordAt_app, h4]
   split
   ·exact h1
   ·exact h2 k
  have hlen : (os' ++ [o]).length = b.os.length + 1 := by rw [List.length_append, h4]; rfl
  refine ⟨fun t ht => ?_, fun k hk => ?_⟩
  ·show TrdOk (os' ++ [o]) t
   rcases List.mem_append.1 ht with h5 | h5
   ·refine (h.ok t h5).like (by omega) (fun k hk => ?_)
    rw [ordAt_app, if_neg (by omega)]
    exact h2 k
   ·refine (s3 t h5).like (by rw [hlen]; simp) (fun k hk => ?_)
    rw [List.length_append, List.length_singleton] at hk
    exact hlike k hk
  ·have hk' : k < (os' ++ [o]).length := hk
   rw [hlen] at hk'
   show (ordAt (os' ++ [o]) k).n = (ordAt (os' ++ [o]) k).left + sumT (T ++ ts) (k : Int)
   rw [sumT_append]
   rcases Nat.lt_or_ge k b.os.length with h5 | h5
   ·rw [ordAt_app, if_neg (by omega), (h2 k).2.2.2.2, h.sum k h5, s1 k h5]
    omega
   ·have hkb : k = b.os.length := by omega
    rw [ordAt_app, if_pos (by omega), hkb, sumT_zero h.ok (Nat.le_refl _), h1.2.2.2.2]
    show m = o.left + (0 + sumT ts (b.os.length : Int))
    omega
 split
 ·exact key.same (opened_os _ _)
 ·exact key
end Go.Proofs.YtlcalajehnaenaaGreatDoor
namespace Go.Proofs.YtlcalajehnaenaaGreatDoor
open Go.RowKit
theorem open_few {b : BkS} (h : b.Ok) : b.bs.length + b.ss.length ≤ b.os.length := by
 rw [← BkS.openIds_len h]
 unfold BkS.openIds
 have := List.length_filter_le b.isIn (List.range b.os.length)
 rw [List.length_range] at this
 exact this
end Go.Proofs.YtlcalajehnaenaaGreatDoor
namespace Go.Proofs.YtlcalajehnaenaaGreatDoor
open Go.RowKit
def unT (T : List Trd) : Int := (T.map Trd.n).sum
theorem unT_cons (t : Trd) (T : List Trd) : unT (t :: T) = t.n + unT T := by unfold unT; rw [List.map_cons, List.sum_cons]
theorem unT_append (a b : List Trd) : unT (a ++ b) = unT a + unT b := by unfold unT; rw [List.map_append, List.sum_append]
theorem unT_nonneg : ∀ {T : List Trd}, (∀ t ∈ T, 1 ≤ t.n) → (T.length : Int) ≤ unT T
 | [], _ => Int.le_refl _
 | t :: T, h => by
   have h1 := h t List.mem_cons_self
   have h2 := unT_nonneg (T := T) (fun u hu => h u (List.mem_cons_of_mem _ hu))
   rw [unT_cons, List.length_cons]
   omega
theorem unT_take {T : List Trd} (h : ∀ t ∈ T, 1 ≤ t.n) (c : Nat) : 0 ≤ unT (T.take c) ∧ unT (T.take c) ≤ unT T := by
 have h1 := unT_nonneg (T := T.take c) (fun t ht => h t (List.mem_of_mem_take ht))
 have h2 := unT_nonneg (T := T.drop c) (fun t ht => h t (List.mem_of_mem_drop ht))
 have h3 : unT T = unT (T.take c) + unT (T.drop c) := by rw [← unT_append, List.take_append_drop]
 omega
theorem matchP_units : ∀ (l : List Nat) (os : List Ord) (o : Ord), unT (matchP os o l).1 + (matchP os o l).2.1.left = o.left
 | [], os, o => by simp [matchP, unT]
 | id :: t, os, o => by
   have hn : ∀ y m, (trdOf o y m).n = m := fun y m => by unfold trdOf; split <;> rfl
   rw [matchP]
   split
   ·split
    ·exact matchP_units t os o
    ·split
     ·have ih := matchP_units t (os.set id ((ordAt os id).less (min o.left (ordAt os id).left))) (o.less (min o.left (ordAt os id).left))
      dsimp only
      rw [unT_cons, hn]
      have e : (o.less (min o.left (ordAt os id).left)).left = o.left - min o.left (ordAt os id).left := rfl
      rw [e] at ih
      omega
     ·dsimp only
      rw [unT_cons, hn]
      show min o.left (ordAt os id).left + unT [] + (o.left - min o.left (ordAt os id).left) = o.left
      simp [unT]
      omega
   ·simp [unT]
def OrdS (os : List Ord) : Prop := ∀ k, k < os.length → 1 ≤ (ordAt os k).acc ∧ (ordAt os k).acc ≤ 4 ∧ (ordAt os k).price ≤ 200
theorem placeE_facts {b b' : BkS} {acc price n id err : Int} {buy : Bool} {ts : List Trd} (hok : b.Ok) (hok' : b'.Ok) (hE : placeE b acc buy price n = (id, ts, err, b')) (hs : OrdS b.os) (ha : 1 ≤ acc ∧ acc ≤ 4) (hp : price ≤ 200) (hn : n ≤ 200) :
 ts.length ≤ b.os.length ∧ unT ts ≤ 200 ∧ b.os.length ≤ b'.os.length ∧ b'.os.length ≤ b.os.length + 1 ∧ (∀ k, k < b.os.length → (ordAt b'.os k).like (ordAt b.os k)) ∧ OrdS b'.os := by
 unfold placeE at hE
 split at hE
 case isFalse =>
  injection hE with e1 e2
  injection e2 with e2 e3
  injection e3 with e3 e4
  subst e2 e4
  exact ⟨Nat.zero_le _, by decide, Nat.le_refl _, Nat.le_succ _, fun k _ => Ord.like.rfl' _, hs⟩
 case isTrue he =>
 injection hE with e1 e2
 injection e2 with e2 e3
 injection e3 with e3 e4
 have hfew := open_few hok
 have hu := matchP_units (b.side !buy) b.os ⟨b.os.length, acc, buy, price, n, n⟩
 have hl := matchP_len (b.side !buy) b.os ⟨b.os.length, acc, buy, price, n, n⟩
 obtain ⟨h1, h2, h3, h4⟩ := matchP_like (b.side !buy) b.os ⟨b.os.length, acc, buy, price, n, n⟩
 unfold placeS at e2 e4
 dsimp only at e2 e4
 obtain ⟨r, hr⟩ : ∃ r, matchP b.os ⟨b.os.length, acc, buy, price, n, n⟩ (b.side !buy) = r := ⟨_, rfl⟩
 rw [hr] at h1 h2 h3 h4 hu hl e2 e4
 obtain ⟨us, o, os', l'⟩ := r
 dsimp only at h1 h2 h3 h4 hu hl e2 e4
 subst e2
 have hos : b'.os = os' ++ [o] := by
  rw [← e4]
  split
  ·rw [opened_os]
   rfl
  ·rfl
 have hlen : b'.os.length = b.os.length + 1 := by rw [hos, List.length_append, h4]; rfl
 have hat : ∀ k, ordAt b'.os k = if k = b.os.length then o else ordAt os' k := fun k => by rw [hos, ordAt_app, h4]
 have hside : (b.side !buy).length ≤ b.os.length := by unfold BkS.side; split <;> omega
 have hleft := (hok'.rng b.os.length (by omega)).2.2.2.2.1
 rw [hat, if_pos rfl] at hleft
 refine ⟨Nat.le_trans hl hside, by omega, by omega, by omega, fun k hk => ?_, fun k hk => ?_⟩
 ·rw [hat, if_neg (by omega)]
  exact h2 k
 ·rw [hat]
  split
  ·rw [h1.2.1, h1.2.2.2.1]
   exact ⟨ha.1, ha.2, hp⟩
  ·have hk' : k < b.os.length := by omega
   rw [(h2 k).2.1, (h2 k).2.2.2.1]
   exact hs k hk'
def rOf (os : List Ord) (T : List Trd) (a : Int) : Int := (T.map fun t => (if a = (ordAt os t.buy.toNat).acc then t.n else 0) - (if a = (ordAt os t.sell.toNat).acc then t.n else 0)).sum
theorem rOf_cons (os : List Ord) (t : Trd) (T : List Trd) (a : Int) : rOf os (t :: T) a = (if a = (ordAt os t.buy.toNat).acc then t.n else 0) - (if a = (ordAt os t.sell.toNat).acc then t.n else 0) + rOf os T a := by
 unfold rOf
 rw [List.map_cons, List.sum_cons]
theorem rOf_snoc (os : List Ord) (T : List Trd) (t : Trd) : rOf os (T ++ [t]) = subAt (addAt (rOf os T) (ordAt os t.buy.toNat).acc t.n) (ordAt os t.sell.toNat).acc t.n := by
 funext a
 have e : rOf os (T ++ [t]) a = rOf os T a + ((if a = (ordAt os t.buy.toNat).acc then t.n else 0) - (if a = (ordAt os t.sell.toNat).acc then t.n else 0)) := by
  unfold rOf
  rw [List.map_append, List.sum_append, List.map_singleton, List.sum_singleton]
 rw [e]
 unfold subAt addAt
 split <;> split <;> omega
theorem rOf_like {os os' : List Ord} : ∀ {T : List Trd}, (∀ t ∈ T, TrdOk os t) → (∀ k, k < os.length → (ordAt os' k).like (ordAt os k)) → rOf os' T = rOf os T
 | [], _, _ => rfl
 | t :: T, h, hk => by
   have h1 := h t List.mem_cons_self
   have hb := (hk t.buy.toNat (by have := h1.b0; have := h1.b1; omega)).2.1
   have hs := (hk t.sell.toNat (by have := h1.s0; have := h1.s1; omega)).2.1
   funext a
   rw [rOf_cons, rOf_cons, hb, hs, rOf_like (fun u hu => h u (List.mem_cons_of_mem _ hu)) hk]
theorem rOf_low {os : List Ord} : ∀ {T : List Trd}, (∀ t ∈ T, 1 ≤ t.n) → ∀ a, -(unT T) ≤ rOf os T a
 | [], _, a => by simp [unT, rOf]
 | t :: T, h, a => by
   have h1 := h t List.mem_cons_self
   have h2 := rOf_low (os := os) (T := T) (fun u hu => h u (List.mem_cons_of_mem _ hu)) a
   rw [rOf_cons, unT_cons]
   split <;> split <;> omega
theorem rOf_up {os : List Ord} : ∀ {T : List Trd}, (∀ t ∈ T, 1 ≤ t.n) → ∀ a, rOf os T a ≤ unT T
 | [], _, a => by simp [unT, rOf]
 | t :: T, h, a => by
   have h1 := h t List.mem_cons_self
   have h2 := rOf_up (os := os) (T := T) (fun u hu => h u (List.mem_cons_of_mem _ hu)) a
   rw [rOf_cons, unT_cons]
   split <;> split <;> omega
def sgnO (o : Ord) (a x : Int) : Int := if o.acc = a then (if o.buy = true then x else -x) else 0
def sF (os : List Ord) (a : Int) : Nat → Int
 | 0 => 0
 | m + 1 => sF os a m + sgnO (ordAt os m) a ((ordAt os m).n - (ordAt os m).left)
def wT (os : List Ord) (a : Int) (T : List Trd) : Nat → Int
 | 0 => 0
 | m + 1 => wT os a T m + sgnO (ordAt os m) a (sumT T (m : Int))
theorem sgnO_zero (o : Ord) (a : Int) : sgnO o a 0 = 0 := by
 unfold sgnO
 split
 ·split <;> rfl
 ·rfl
theorem sgnO_add (o : Ord) (a x y : Int) : sgnO o a (x + y) = sgnO o a x + sgnO o a y := by
 unfold sgnO
 split
 ·split
  ·rfl
  ·omega
 ·rfl
theorem sF_wT {b : BkS} {T : List Trd} (h : SumI b T) (a : Int) : ∀ m, m ≤ b.os.length → sF b.os a m = wT b.os a T m
 | 0, _ => rfl
 | m + 1, hm => by
   have h1 := h.sum m (by omega)
   unfold sF wT
   rw [sF_wT h a m (by omega), show (ordAt b.os m).n - (ordAt b.os m).left = sumT T (m : Int) by omega]
theorem wT_nil (os : List Ord) (a : Int) : ∀ m, wT os a [] m = 0
 | 0 => rfl
 | m + 1 => by
   unfold wT
   rw [wT_nil os a m, show sumT [] (m : Int) = 0 from rfl, sgnO_zero]
   rfl
theorem wT_cons (os : List Ord) (a : Int) (t : Trd) (T : List Trd) (hne : t.buy ≠ t.sell) (h0 : 0 ≤ t.buy) (h1 : 0 ≤ t.sell) : ∀ m, wT os a (t :: T) m = wT os a T m + ((if t.buy < (m : Int) then sgnO (ordAt os t.buy.toNat) a t.n else 0) + (if t.sell < (m : Int) then sgnO (ordAt os t.sell.toNat) a t.n else 0))
 | 0 => by
   unfold wT
   rw [if_neg (by omega), if_neg (by omega)]
   rfl
 | m + 1 => by
   unfold wT
   rw [wT_cons os a t T hne h0 h1 m, sumT_cons, sgnO_add]
   by_cases hb : t.buy = (m : Int)
   ·have e : t.buy.toNat = m := by omega
    have e2 : (t.sell < ((m + 1 : Nat) : Int)) ↔ t.sell < (m : Int) := by omega
    rw [if_pos (show t.buy = (m : Int) ∨ t.sell = (m : Int) from .inl hb), if_neg (show ¬ t.buy < (m : Int) by omega), if_pos (show t.buy < ((m + 1 : Nat) : Int) by omega), e]
    simp only [e2]
    omega
   ·by_cases hs : t.sell = (m : Int)
    ·have e : t.sell.toNat = m := by omega
     have e2 : (t.buy < ((m + 1 : Nat) : Int)) ↔ t.buy < (m : Int) := by omega
     rw [if_pos (show t.buy = (m : Int) ∨ t.sell = (m : Int) from .inr hs), if_neg (show ¬ t.sell < (m : Int) by omega), if_pos (show t.sell < ((m + 1 : Nat) : Int) by omega), e]
     simp only [e2]
     omega
    ·have e1 : (t.buy < ((m + 1 : Nat) : Int)) ↔ t.buy < (m : Int) := by omega
     have e2 : (t.sell < ((m + 1 : Nat) : Int)) ↔ t.sell < (m : Int) := by omega
     rw [if_neg (show ¬ (t.buy = (m : Int) ∨ t.sell = (m : Int)) by omega), sgnO_zero]
     simp only [e1, e2]
     omega
theorem wT_rOf {os : List Ord} (a : Int) : ∀ {T : List Trd}, (∀ t ∈ T, TrdOk os t) → wT os a T os.length = rOf os T a
 | [], _ => by rw [wT_nil]; rfl
 | t :: T, h => by
   have h1 := h t List.mem_cons_self
   have hne : t.buy ≠ t.sell := fun e => by
    have e1 := h1.bb
    rw [e, h1.ss] at e1
    cases e1
   rw [wT_cons os a t T hne h1.b0 h1.s0, wT_rOf a (fun u hu => h u (List.mem_cons_of_mem _ hu)), if_pos h1.b1, if_pos h1.s1, rOf_cons]
   unfold sgnO
   rw [h1.bb, h1.ss, show (if true = true then t.n else -t.n) = t.n from if_pos rfl, show (if false = true then t.n else -t.n) = -t.n from if_neg (by decide)]
   generalize (ordAt os t.buy.toNat).acc = p
   generalize (ordAt os t.sell.toNat).acc = q
   by_cases e1 : a = p
   ·subst e1
    rw [if_pos rfl]
    by_cases e2 : a = q
    ·subst e2
     rw [if_pos rfl]
     omega
    ·rw [if_neg (show ¬ q = a from fun x => e2 x.symm), if_neg e2]
     omega
   ·rw [if_neg (show ¬ p = a from fun x => e1 x.symm), if_neg e1]
    by_cases e2 : a = q
    ·subst e2
     rw [if_pos rfl]
     omega
    ·rw [if_neg (show ¬ q = a from fun x => e2 x.symm), if_neg e2]
     omega
theorem LgB.later {mx : Int → Bool} {T : Nat} {g r : Int → Int} {t t' : Int} {S : LSt} (h : LgB mx T g r t S) (ht : t ≤ t') : LgB mx T g r t' S := ⟨h.ok, h.len, h.gold, h.iron, h.tot0, h.tot1, h.ns, h.nf, Int.le_trans h.now ht⟩
structure BsJ (mx : Int → Bool) (i : Nat) (t : Int) (b : BkS) (V : List Trd) (c : Nat) (g : Int → Int) (S : LSt) : Prop where
 ok : b.Ok
 sum : SumI b V
 os : OrdS b.os
 len : b.os.length ≤ i
 tl : V.length ≤ 24 * i
 un : unT V ≤ 200 * (i : Int)
 led : LgB mx c g (rOf b.os (V.take c)) t S
 low : ∀ a : Int, 1 ≤ a → a ≤ 4 → -(200 * unT (V.take c)) ≤ g a ∧ g a ≤ 200 * unT (V.take c)
section
variable {mx : Int → Bool} {i c : Nat} {t : Int} {b b' : BkS} {V ts : List Trd} {g : Int → Int} {S : LSt}
theorem BsJ.pos (h : BsJ mx i t b V c g S) : ∀ t ∈ V, 1 ≤ t.n := fun t ht => (h.sum.ok t ht).n
theorem BsJ.skip (h : BsJ mx i (i : Int) b V V.length g S) : BsJ mx (i + 1) ((i + 1 : Nat) : Int) b V V.length g S := ⟨h.ok, h.sum, h.os, by have := h.len; omega, by have := h.tl; omega, by have := h.un; omega, h.led.later (by omega), h.low⟩
theorem BsJ.start (hS : LgS mx 4 S) : BsJ mx 0 0 book0 [] 0 (fun _ => 0) S := ⟨ok0, ⟨fun t ht => (by cases ht), fun k hk => absurd hk (by simp [book0])⟩, fun k hk => absurd hk (by simp [book0]), Nat.le_refl _, Nat.le_refl _, by decide, hS.done, fun a _ _ => by decide⟩
theorem BsJ.place (h : BsJ mx i (i : Int) b V V.length g S) (hi : i < 24) {acc price n id err : Int} {buy : Bool} (hE : placeE b acc buy price n = (id, ts, err, b')) (hok' : b'.Ok) (ha : 1 ≤ acc ∧ acc ≤ 4) (hp : price ≤ 200) (hn : n ≤ 200) : BsJ mx (i + 1) (i : Int) b' (V ++ ts) V.length g S := by
 obtain ⟨k1, k2, k3, k4, k5, k6⟩ := placeE_facts h.ok hok' hE h.os ha hp hn
 have hs := h.sum.place h.ok acc buy price n
 rw [hE] at hs
 have hl := h.len
 have htl := h.tl
 have hun := h.un
 have e : (V ++ ts).take V.length = V := by rw [List.take_append_of_le_length (Nat.le_refl _), List.take_length]
 refine ⟨hok', hs, k6, by omega, by rw [List.length_append]; omega, by rw [unT_append]; omega, ?_, ?_⟩
 ·rw [e, rOf_like (T := V) h.sum.ok k5]
  have := h.led
  rw [List.take_length] at this
  exact this
 ·rw [e]
  have := h.low
  rw [List.take_length] at this
  exact this
theorem BsJ.place_r (h : BsJ mx i (i : Int) b V V.length g S) {acc price n id err : Int} {buy : Bool} (hE : placeE b acc buy price n = (id, ts, err, b')) (hok' : b'.Ok) (ha : 1 ≤ acc ∧ acc ≤ 4) (hp : price ≤ 200) (hn : n ≤ 200) : rOf b'.os ((V ++ ts).take (V.length + 0)) = rOf b.os V := by
 obtain ⟨k1, k2, k3, k4, k5, k6⟩ := placeE_facts h.ok hok' hE h.os ha hp hn
 rw [Nat.add_zero, List.take_append_of_le_length (Nat.le_refl _), List.take_length]
 exact rOf_like h.sum.ok k5
theorem BsJ.trd (h : BsJ mx i t b V c g S) (hi : i ≤ 24) (hc : c < V.length) : TrdOk b.os V[c] ∧ (1 ≤ (ordAt b.os V[c].buy.toNat).acc ∧ (ordAt b.os V[c].buy.toNat).acc ≤ 4) ∧ (1 ≤ (ordAt b.os V[c].sell.toNat).acc ∧ (ordAt b.os V[c].sell.toNat).acc ≤ 4) ∧ (1 ≤ V[c].n ∧ V[c].n ≤ 4800) ∧ (1 ≤ V[c].price ∧ V[c].price ≤ 200) ∧ 1 ≤ V[c].n * V[c].price ∧ V[c].n * V[c].price ≤ 200 * V[c].n ∧ unT (V.take (c + 1)) = unT (V.take c) + V[c].n ∧ unT (V.take (c + 1)) ≤ 4800 := by
 have ht := h.sum.ok V[c] (List.getElem_mem hc)
 have hb := h.os V[c].buy.toNat (by have := ht.b0; have := ht.b1; omega)
 have hs := h.os V[c].sell.toNat (by have := ht.s0; have := ht.s1; omega)
 have hr := (h.ok.rng V[c].sell.toNat (by have := ht.s0; have := ht.s1; omega)).1
 have e : unT (V.take (c + 1)) = unT (V.take c) + V[c].n := by
  rw [← List.take_append_getElem hc, unT_append, unT_cons]
  simp [unT]
 have h1 := unT_take h.pos (c + 1)
 have h2 := unT_take h.pos c
 have hun := h.un
 have hn := ht.n
 have hp1 := ht.p1
 have hp0 := ht.p0
 have hpp : 1 ≤ V[c].price ∧ V[c].price ≤ 200 := by omega
 have a1 : (1 : Int) * 1 ≤ V[c].n * V[c].price := Int.mul_le_mul hn hpp.1 (by decide) (by omega)
 have a2 : V[c].n * V[c].price ≤ V[c].n * 200 := Int.mul_le_mul_of_nonneg_left hpp.2 (by omega)
 exact ⟨ht, ⟨hb.1, hb.2.1⟩, ⟨hs.1, hs.2.1⟩, by omega, hpp, by omega, by omega, e, by omega⟩
theorem BsJ.post (hm : ∀ i, mx i = false) (h : BsJ mx i t b V c g S) (hi : i ≤ 24) (hc : c < V.length) :
 ∃ S2, mvsP mx S [bsM (ordAt b.os V[c].buy.toNat).acc (ordAt b.os V[c].sell.toNat).acc 0 (V[c].n * V[c].price), bsM (ordAt b.os V[c].sell.toNat).acc (ordAt b.os V[c].buy.toNat).acc 1 V[c].n] = .ok S2 ∧
  BsJ mx i t b V (c + 1) (addAt (subAt g (ordAt b.os V[c].buy.toNat).acc (V[c].n * V[c].price)) (ordAt b.os V[c].sell.toNat).acc (V[c].n * V[c].price)) { S2 with ns := S.ns + 1, now := t } := by
 obtain ⟨k1, k2, k3, k4, k5, k6, k7, k8, k9⟩ := h.trd hi hc
 have hM : MaxU = 1099511627776 := rfl
 have hlow := (h.low _ k2.1 k2.2).1
 have hr := rOf_low (os := b.os) (T := V.take c) (fun t ht => h.pos t (List.mem_of_mem_take ht)) (ordAt b.os V[c].sell.toNat).acc
 have htl := h.tl
 have hun := unT_take h.pos c
 obtain ⟨S2, a1, a2⟩ := h.led.trade hm (t' := t) (by omega) k2 k3 k1.acc k4.1 k6 (by omega) (by omega) (by omega) (by omega)
 refine ⟨S2, a1, h.ok, h.sum, h.os, h.len, h.tl, h.un, ?_, fun a h1 h2 => ?_⟩
 ·rw [← List.take_append_getElem hc, rOf_snoc]
  exact a2
 ·have h3 := h.low a h1 h2
  rw [k8]
  unfold addAt subAt
  split <;> split <;> omega
theorem BsJ.later {t' : Int} (h : BsJ mx i t b V c g S) (ht : t ≤ t') : BsJ mx i t' b V c g S := ⟨h.ok, h.sum, h.os, h.len, h.tl, h.un, h.led.later ht, h.low⟩
theorem BsJ.bounds (h : BsJ mx i t b V c g S) (hi : i ≤ 24) {a : Int} (h1 : 1 ≤ a) (h2 : a ≤ 4) : (-960000 ≤ g a ∧ g a ≤ 960000) ∧ -4800 ≤ rOf b.os (V.take c) a ∧ rOf b.os (V.take c) a ≤ 4800 := by
 have h3 := h.low a h1 h2
 have h4 := unT_take h.pos c
 have h5 := h.un
 have h6 := rOf_low (os := b.os) (T := V.take c) (fun t ht => h.pos t (List.mem_of_mem_take ht)) a
 have h7 := rOf_up (os := b.os) (T := V.take c) (fun t ht => h.pos t (List.mem_of_mem_take ht)) a
 omega
theorem sF_bd {b : BkS} (h : b.Ok) (a : Int) : ∀ m, m ≤ b.os.length → -(1099511627776 * (m : Int)) ≤ sF b.os a m ∧ sF b.os a m ≤ 1099511627776 * (m : Int)
 | 0, _ => by simp [sF]
 | m + 1, hm => by
   have h1 := sF_bd h a m (by omega)
   have h2 := h.rng m (by omega)
   unfold sF sgnO
   split
   ·split <;> omega
   ·omega
theorem BsJ.end_ (h : BsJ mx i t b V V.length g S) (a : Int) : rOf b.os V a = sF b.os a b.os.length := by
 rw [sF_wT h.sum a _ (Nat.le_refl _), wT_rOf a h.sum.ok]
end
end Go.Proofs.YtlcalajehnaenaaGreatDoor
namespace Go.Proofs.YtlcalajehnaenaaGreatDoor
open Go.RowKit
set_option maxRecDepth 100000 in
theorem now0_any (gl c : Nat) (A : Option Addr) (w : World) (c4 : w.cell? ⟨gl, 7, none⟩ = some (.slice A 0 c)) :
 Calls Tryz.prog 151 #[.pointer (some ⟨gl, 0, none⟩)] w fun e w' => e = .returned (.int .i64 0) ∧ Drew w w' := by
 go_enter Tryz.func151, Tryz.ntmps151
 go_wp2
 go_ret
 exact ⟨rfl, 0, rfl⟩
set_option maxRecDepth 100000 in
theorem now1_any (gl g n c : Nat) (t : Int) (w : World) (c4 : w.cell? ⟨gl, 7, none⟩ = some (.slice (some ⟨g, 0, none⟩) n c)) (hn : 1 ≤ n) (hn2 : n ≤ 1000000) (ct : w.cell? ⟨g, (n - 1) * 7 + 3, none⟩ = some (.int .i64 t)) :
 Calls Tryz.prog 151 #[.pointer (some ⟨gl, 0, none⟩)] w fun e w' => e = .returned (.int .i64 t) ∧ Drew w w' := by
 have h1 : ¬ (n : Int) = 0 := by omega
 obtain ⟨k, rfl⟩ : ∃ k, n = k + 1 := ⟨n - 1, by omega⟩
 have e1 : (((k + 1 : Nat) : Int) - 1) = (k : Int) := by omega
 have e2 : IntKind.i64.wrap (k : Int) = (k : Int) := IntWalk.i64_in _ (by omega)
 have hk : (k : Int) < ((k + 1 : Nat) : Int) := by omega
 rw [Nat.add_sub_cancel] at ct
 go_enter Tryz.func151, Tryz.ntmps151
 go_wp2
 go_region
 go_wp2
 go_ret
 exact ⟨rfl, 1, rfl⟩
theorem now_any {mx : Int → Bool} {w : World} {L : Led} {S : LSt} (h : LedAt mx w L S) (hn : S.ns ≤ 60000) :
 Calls Tryz.prog 151 #[.pointer (some ⟨L.gl, 0, none⟩)] w fun e w' => e = .returned (.int .i64 S.now) ∧ Drew w w' := by
 have hc : w.cell? ⟨L.gl, 7, none⟩ = some (slV L.sp) := h.c.cell 7
 obtain ⟨xs, ho, h0, h1⟩ := h.sp
 obtain ⟨A, n, c, hs⟩ : ∃ A n c, L.sp = (A, n, c) := ⟨_, _, _, rfl⟩
 rw [hs] at hc ho
 obtain ⟨A', c', he⟩ := own_split ho
 simp only [slV, Value.slice.injEq] at he
 obtain ⟨rfl, hn', rfl⟩ := he
 cases hk : S.ns with
 | zero =>
   rw [hk] at hn'
   rw [h0 hk]
   exact now0_any L.gl _ _ w (by rw [hc, ← hn']; rfl)
 | succ k =>
   rw [hk] at ho hn' hn
   obtain ⟨g, cap, hg⟩ := ownsRow_succ ho
   rw [hg] at ho hc
   have hx := h1 k hk
   refine now1_any L.gl g (k + 1) cap S.now w hc (by omega) (by omega) ?_
   rw [Nat.add_sub_cancel]
   obtain ⟨b, off, e, hb, -, hcs⟩ := (RowT.of_own ho).cells (by have := (List.getElem?_eq_some_iff.1 hx).1; omega)
   injection e with e
   injection e with e1 e2 _
   subst e1 e2
   have := hcs (k * 7 + 3) (List.getElem?_eq_some_iff.1 hx).1
   rw [Nat.zero_add, hx] at this
   exact this
end Go.Proofs.YtlcalajehnaenaaGreatDoor
