/- book: what Place's matching keeps, plain. -/
import Derived.Test.YtkandhpnenmleaaHBkM
import Derived.Test.YtkandhpnenmleaaHBrFill
import Derived.Test.YtkandhpnenmleaaHBrQuo

namespace Go.Proofs.Ytkandhpnenmleaa
open Go.RowKit

theorem matchP_like : ∀ (l : List Nat) (os : List Ord) (o : Ord), (matchP os o l).2.1.like o ∧ (∀ k, (ordAt (matchP os o l).2.2.1 k).like (ordAt os k)) ∧ (matchP os o l).2.2.2.Sublist l ∧ (matchP os o l).2.2.1.length = os.length
  | [], os, o => ⟨Ord.like.rfl' _, fun _ => Ord.like.rfl' _, List.Sublist.refl _, rfl⟩
  | id :: t, os, o => by
    have hset : ∀ m k, (ordAt (os.set id ((ordAt os id).less m)) k).like (ordAt os k) := fun m k => by
      by_cases hid : id < os.length
      · rw [ordAt_set hid]
        split
        · rename_i e
          rw [e]
          exact Ord.like_less _ _
        · exact Ord.like.rfl' _
      · rw [List.set_eq_of_length_le (by omega)]
        exact Ord.like.rfl' _
    rw [matchP]
    split
    · split
      · obtain ⟨h1, h2, h3, h4⟩ := matchP_like t os o
        exact ⟨h1, h2, h3.trans (List.sublist_cons_self _ _), h4⟩
      · split
        · obtain ⟨h1, h2, h3, h4⟩ := matchP_like t (os.set id ((ordAt os id).less (min o.left (ordAt os id).left))) (o.less (min o.left (ordAt os id).left))
          exact ⟨h1.trans (Ord.like_less _ _), fun k => (h2 k).trans (hset _ k), h3.trans (List.sublist_cons_self _ _), by rw [h4, List.length_set]⟩
        · exact ⟨Ord.like_less _ _, fun k => hset _ k, List.Sublist.refl _, by rw [List.length_set]⟩
    · exact ⟨Ord.like.rfl' _, fun _ => Ord.like.rfl' _, List.Sublist.refl _, rfl⟩
/-- Why the matching ends. -/
theorem matchP_end : ∀ (l : List Nat) (os : List Ord) (o : Ord), 0 ≤ o.left → (matchP os o l).2.1.left ≤ 0 ∨ (matchP os o l).2.2.2 = [] ∨ ∃ id t, (matchP os o l).2.2.2 = id :: t ∧ acceptsB (matchP os o l).2.1 (ordAt (matchP os o l).2.2.1 id) = false
  | [], os, o, _ => .inr (.inl rfl)
  | id :: t, os, o, h0 => by
    rw [matchP]
    split
    · rename_i hc
      split
      · exact matchP_end t os o h0
      · split
        · exact matchP_end t _ _ (by show 0 ≤ o.left - min o.left (ordAt os id).left; omega)
        · rename_i h1
          left
          show o.left - min o.left (ordAt os id).left ≤ 0
          omega
    · rename_i hc
      rcases Int.lt_or_le 0 o.left with h1 | h1
      · refine .inr (.inr ⟨id, t, rfl, ?_⟩)
        cases h2 : acceptsB o (ordAt os id) with
        | false => rfl
        | true => exact absurd ⟨h1, h2⟩ hc
      · exact .inl h1
/-- What the trades take. -/
def sumT (ts : List Trd) (id : Int) : Int := (ts.map fun t => if t.buy = id ∨ t.sell = id then t.n else 0).sum
theorem sumT_cons (t : Trd) (ts : List Trd) (id : Int) : sumT (t :: ts) id = (if t.buy = id ∨ t.sell = id then t.n else 0) + sumT ts id := by
  unfold sumT
  rw [List.map_cons, List.sum_cons]
theorem sumT_append (a b : List Trd) (id : Int) : sumT (a ++ b) id = sumT a id + sumT b id := by
  unfold sumT
  rw [List.map_append, List.sum_append]
/-- A trade is sound. -/
structure TrdOk (os : List Ord) (t : Trd) : Prop where
  b0 : 0 ≤ t.buy
  b1 : t.buy < (os.length : Int)
  s0 : 0 ≤ t.sell
  s1 : t.sell < (os.length : Int)
  bb : (ordAt os t.buy.toNat).buy = true
  ss : (ordAt os t.sell.toNat).buy = false
  acc : (ordAt os t.buy.toNat).acc ≠ (ordAt os t.sell.toNat).acc
  n : 1 ≤ t.n
  p1 : t.price ≤ (ordAt os t.buy.toNat).price
  p0 : (ordAt os t.sell.toNat).price ≤ t.price
theorem TrdOk.like {os os' : List Ord} {t : Trd} (h : TrdOk os t) (hl : os.length ≤ os'.length) (hk : ∀ k, k < os.length → (ordAt os' k).like (ordAt os k)) : TrdOk os' t := by
  have hb := hk t.buy.toNat (by have := h.b0; have := h.b1; omega)
  have hs := hk t.sell.toNat (by have := h.s0; have := h.s1; omega)
  exact ⟨h.b0, by have := h.b1; omega, h.s0, by have := h.s1; omega, hb.2.2.1.trans h.bb, hs.2.2.1.trans h.ss, by rw [hb.2.1, hs.2.1]; exact h.acc, h.n, by rw [hb.2.2.2.1]; exact h.p1, by rw [hs.2.2.2.1]; exact h.p0⟩
/-- The matching: what is left and what was traded. -/
theorem matchP_sums : ∀ (l : List Nat) (os : List Ord) (o : Ord), (∀ k, k < os.length → (ordAt os k).id = (k : Int)) → o.id = (os.length : Int) → l.Nodup → (∀ k ∈ l, k < os.length ∧ (ordAt os k).buy = (!o.buy) ∧ 0 < (ordAt os k).left) →
    (∀ k, k < os.length → (ordAt os k).left = (ordAt (matchP os o l).2.2.1 k).left + sumT (matchP os o l).1 (k : Int)) ∧ o.left = (matchP os o l).2.1.left + sumT (matchP os o l).1 o.id ∧ ∀ t ∈ (matchP os o l).1, TrdOk (os ++ [o]) t
  | [], os, o, _, _, _, _ => ⟨fun k _ => by simp [matchP, sumT], by simp [matchP, sumT], fun t ht => by simp [matchP] at ht⟩
  | id :: t, os, o, hi, ho, hn, hm => by
    obtain ⟨n1, n2⟩ := List.nodup_cons.1 hn
    obtain ⟨m1, m2, m3⟩ := hm id List.mem_cons_self
    have hid := hi id m1
    rw [matchP]
    split
    · rename_i hc
      split
      · exact matchP_sums t os o hi ho n2 (fun k hk => hm k (List.mem_cons_of_mem _ hk))
      · rename_i hacc
        obtain ⟨m, hmm⟩ : ∃ m, min o.left (ordAt os id).left = m := ⟨_, rfl⟩
        rw [hmm]
        have hm1 : 1 ≤ m := by omega
        have htb : (trdOf o (ordAt os id) m).buy = (if o.buy then o.id else (id : Int)) ∧ (trdOf o (ordAt os id) m).sell = (if o.buy then (id : Int) else o.id) ∧ (trdOf o (ordAt os id) m).n = m ∧ (trdOf o (ordAt os id) m).price = (ordAt os id).price := by
          unfold trdOf
          cases o.buy <;> simp [hid]
        obtain ⟨b1, b2, b3, b4⟩ := htb
        have hterm : ∀ j : Int, (if (trdOf o (ordAt os id) m).buy = j ∨ (trdOf o (ordAt os id) m).sell = j then (trdOf o (ordAt os id) m).n else 0) = if (id : Int) = j ∨ o.id = j then m else 0 := by
          intro j
          rw [b1, b2, b3]
          cases o.buy
          · simp only [Bool.false_eq_true, if_false]
          · simp only [if_true]
            by_cases e1 : o.id = j <;> by_cases e2 : (id : Int) = j <;> simp [e1, e2]
        have hok : TrdOk (os ++ [o]) (trdOf o (ordAt os id) m) := by
          have a1 : ordAt (os ++ [o]) id = ordAt os id := by rw [ordAt_app, if_neg (by omega)]
          have a2 : ordAt (os ++ [o]) o.id.toNat = o := by rw [ordAt_app, if_pos (by omega)]
          have hp := hc.2
          unfold acceptsB at hp
          have hlen : (os ++ [o]).length = os.length + 1 := by simp
          cases hb : o.buy
          · rw [hb] at b1 b2 hp m2
            simp only [Bool.false_eq_true, if_false] at b1 b2 hp
            have e1 : (trdOf o (ordAt os id) m).buy.toNat = id := by rw [b1]; simp
            refine ⟨by omega, by omega, by omega, by omega, ?_, ?_, ?_, by omega, ?_, ?_⟩
            · rw [e1, a1, m2]; rfl
            · rw [b2, a2]; exact hb
            · rw [e1, b2, a1, a2]; exact hacc
            · rw [e1, a1, b4]; exact Int.le_refl _
            · rw [b2, a2, b4]; exact of_decide_eq_true hp
          · rw [hb] at b1 b2 hp m2
            simp only [if_true] at b1 b2 hp
            have e1 : (trdOf o (ordAt os id) m).sell.toNat = id := by rw [b2]; simp
            refine ⟨by omega, by omega, by omega, by omega, ?_, ?_, ?_, by omega, ?_, ?_⟩
            · rw [b1, a2]; exact hb
            · rw [e1, a1, m2]; rfl
            · rw [e1, b1, a1, a2]; exact fun e => hacc e.symm
            · rw [b1, a2, b4]; exact of_decide_eq_true hp
            · rw [e1, a1, b4]; exact Int.le_refl _
        have hset : ∀ k, ordAt (os.set id ((ordAt os id).less m)) k = if k = id then (ordAt os id).less m else ordAt os k := fun k => ordAt_set m1
        have hleft : ∀ k, k < os.length → (ordAt os k).left = (ordAt (os.set id ((ordAt os id).less m)) k).left + (if (id : Int) = (k : Int) ∨ o.id = (k : Int) then m else 0) := by
          intro k hk
          rw [hset]
          by_cases e : k = id
          · rw [if_pos e, if_pos (.inl (by omega)), e]
            show _ = (ordAt os id).left - m + m
            omega
          · rw [if_neg e, if_neg (by omega)]
            omega
        split
        · rename_i h0
          have ih := matchP_sums t (os.set id ((ordAt os id).less m)) (o.less m) (fun k hk => by
            rw [List.length_set] at hk
            rw [hset]
            split
            · rename_i e
              rw [e]
              exact hid
            · exact hi k hk) (by rw [List.length_set]; exact ho) n2 (fun k hk => by
            have h2 := hm k (List.mem_cons_of_mem _ hk)
            rw [List.length_set, hset, if_neg (show ¬ k = id from fun e => n1 (by rw [← e]; exact hk))]
            exact h2)
          obtain ⟨i1, i2, i3⟩ := ih
          rw [List.length_set] at i1
          refine ⟨fun k hk => ?_, ?_, fun u hu => ?_⟩
          · rw [sumT_cons, hterm, hleft k hk, i1 k hk]
            dsimp only
            omega
          · rw [sumT_cons, hterm, if_pos (.inr rfl)]
            have i2' : o.left - m = _ := i2
            show o.left = (matchP (os.set id ((ordAt os id).less m)) (o.less m) t).2.1.left + (m + sumT (matchP (os.set id ((ordAt os id).less m)) (o.less m) t).1 o.id)
            have : (o.less m).id = o.id := rfl
            rw [this] at i2'
            omega
          · rcases List.mem_cons.1 hu with h | h
            · rw [h]; exact hok
            · refine (i3 u h).like (by simp) (fun k hk => ?_)
              rw [List.length_append, List.length_set, List.length_singleton] at hk
              rw [ordAt_app, ordAt_app, List.length_set]
              split
              · exact ⟨rfl, rfl, rfl, rfl, rfl⟩
              · rw [hset]
                split
                · rename_i e
                  rw [e]
                  exact ⟨rfl, rfl, rfl, rfl, rfl⟩
                · exact Ord.like.rfl' _
        · refine ⟨fun k hk => ?_, ?_, fun u hu => ?_⟩
          · rw [sumT_cons, hterm, hleft k hk]
            simp [sumT]
          · rw [sumT_cons, hterm, if_pos (.inr rfl)]
            show o.left = o.left - m + (m + sumT [] o.id)
            simp [sumT]
          · rw [List.mem_singleton.1 hu]
            exact hok
    · exact ⟨fun k _ => by simp [sumT], by simp [sumT], fun t ht => by cases ht⟩
end Go.Proofs.Ytkandhpnenmleaa

/- book: a book is not crossed; Quote and Place agree; plain. -/
namespace Go.Proofs.Ytkandhpnenmleaa
open Go.RowKit

/-- No open order accepts one of the opposite side. -/
def NC (b : BkS) : Prop := ∀ i ∈ b.bs, ∀ j ∈ b.ss, (ordAt b.os i).price < (ordAt b.os j).price
theorem NC.sub {b c : BkS} (h : NC b) (hp : ∀ k, k ∈ c.bs ∨ k ∈ c.ss → (ordAt c.os k).price = (ordAt b.os k).price) (h1 : ∀ i ∈ c.bs, i ∈ b.bs) (h2 : ∀ i ∈ c.ss, i ∈ b.ss) : NC c := by
  intro i hi j hj
  rw [hp i (.inl hi), hp j (.inr hj)]
  exact h i (h1 i hi) j (h2 j hj)
theorem NC.put {b : BkS} (h : NC b) (s : Bool) {l : List Nat} (hl : ∀ i ∈ l, i ∈ b.side s) : NC (b.put s l) := by
  refine h.sub (fun k _ => by rw [put_os]) (fun i hi => ?_) (fun i hi => ?_)
  · cases s
    · exact hi
    · exact hl i hi
  · cases s
    · exact hl i hi
    · exact hi
theorem cancelE_nc {b : BkS} (h : NC b) (acc id : Int) : NC (cancelE b acc id).2.2 := by
  unfold cancelE
  split
  · exact h
  · split
    · exact h
    · split
      · exact h
      · exact h.put _ (fun i hi => (List.eraseIdx_sublist _ _).subset hi)
theorem voidB_nc {b : BkS} (h : NC b) (acc : Int) : NC (voidB b acc) :=
  h.sub (fun _ _ => rfl) (fun _ hi => (List.mem_filter.1 hi).1) (fun _ hi => (List.mem_filter.1 hi).1)
theorem sorted_head {os : List Ord} {s : Bool} {l l' : List Nat} {id : Nat} {t : List Nat} (h : SortedB os s l) (hs : l'.Sublist l) (he : l' = id :: t) {j : Nat} (hj : j ∈ l') : j = id ∨ betterB s (ordAt os id) (ordAt os j) = true := by
  have h1 := List.Pairwise.sublist hs h
  rw [he] at h1 hj
  rcases List.mem_cons.1 hj with h2 | h2
  · exact .inl h2
  · exact .inr ((List.pairwise_cons.1 h1).1 j h2)
theorem placeE_nc {b : BkS} (hok : b.Ok) (h : NC b) (acc : Int) (buy : Bool) (price m : Int) : NC (placeE b acc buy price m).2.2.2 := by
  unfold placeE
  split
  case isFalse => exact h
  case isTrue he =>
  show NC (placeS b acc buy price m).2
  have hm0 : 0 ≤ m := by
    unfold placeErr at he
    split at he
    · cases he
    · split at he
      · cases he
      · rename_i h2
        have hn : inR m = true := by simpa using (fun e => h2 (.inr (.inl e)))
        unfold inR at hn
        rw [Bool.and_eq_true, decide_eq_true_eq] at hn
        omega
  unfold placeS
  dsimp only
  obtain ⟨h1, h2, h3, h4⟩ := matchP_like (b.side !buy) b.os ⟨b.os.length, acc, buy, price, m, m⟩
  have h5 := matchP_end (b.side !buy) b.os ⟨b.os.length, acc, buy, price, m, m⟩ hm0
  obtain ⟨r, hr⟩ : ∃ r, matchP b.os ⟨b.os.length, acc, buy, price, m, m⟩ (b.side !buy) = r := ⟨_, rfl⟩
  rw [hr] at h1 h2 h3 h4 h5 ⊢
  obtain ⟨ts, o, os', l'⟩ := r
  dsimp only at h1 h2 h3 h4 h5 ⊢
  have hpr : ∀ k, k < b.os.length → (ordAt (os' ++ [o]) k).price = (ordAt b.os k).price := fun k hk => by
    rw [ordAt_app, if_neg (by omega)]
    exact (h2 k).2.2.2.1
  have hlt : ∀ s k, k ∈ b.side s → k < b.os.length := fun s k hk => (hok.mem s k hk).1
  have hoid : o.id.toNat = b.os.length := by rw [h1.1]; simp
  have hob : o.buy = buy := h1.2.2.1
  have hnew : ordAt (os' ++ [o]) b.os.length = o := by rw [ordAt_app, if_pos h4.symm]
  have hc : NC ((b.put (!buy) l').setOs (os' ++ [o])) := by
    have hsub := h.put (!buy) (l := l') (fun i hi => h3.subset hi)
    intro i hi j hj
    have hi' : i ∈ (b.put (!buy) l').bs := hi
    have hj' : j ∈ (b.put (!buy) l').ss := hj
    have hib : i < b.os.length := by
      cases buy
      · exact hlt true i (h3.subset hi')
      · exact hlt true i hi'
    have hjb : j < b.os.length := by
      cases buy
      · exact hlt false j hj'
      · exact hlt false j (h3.subset hj')
    show (ordAt (os' ++ [o]) i).price < (ordAt (os' ++ [o]) j).price
    rw [hpr i hib, hpr j hjb]
    have := hsub i hi' j hj'
    rw [put_os] at this
    exact this
  split
  case isFalse => exact hc
  case isTrue hl =>
  have hcross : ∀ j ∈ l', if buy then o.price < (ordAt b.os j).price else (ordAt b.os j).price < o.price := by
    intro j hj
    rcases h5 with h6 | h6 | ⟨id, t, h6, h7⟩
    · omega
    · rw [h6] at hj; cases hj
    · have hpid : (ordAt os' id).price = (ordAt b.os id).price := (h2 id).2.2.2.1
      have hso := sorted_head (hok.sorted (!buy)) h3 h6 hj
      unfold acceptsB at h7
      rw [hob, hpid] at h7
      cases buy
      · simp only [Bool.false_eq_true, if_false] at h7 ⊢
        have h8 := of_decide_eq_false h7
        rcases hso with rfl | hso
        · omega
        · unfold betterB at hso
          simp at hso
          omega
      · simp only [if_true] at h7 ⊢
        have h8 := of_decide_eq_false h7
        rcases hso with rfl | hso
        · omega
        · unfold betterB at hso
          simp at hso
          omega
  unfold BkS.opened
  rw [hob, hoid]
  obtain ⟨p, hp⟩ : ∃ p, placeN ((b.put (!buy) l').setOs (os' ++ [o])).os (((b.put (!buy) l').setOs (os' ++ [o])).side buy) o = p := ⟨_, rfl⟩
  rw [hp]
  have hside : ((b.put (!buy) l').setOs (os' ++ [o])).side buy = b.side buy := by
    rw [setOs_side]
    have := put_side' b l' (!buy)
    rw [Bool.not_not] at this
    exact this
  rw [hside]
  have hmem : ∀ k, k ∈ List.take p (b.side buy) ++ [b.os.length] ++ List.drop p (b.side buy) → k ∈ b.side buy ∨ k = b.os.length := by
    intro k hk
    simp only [List.mem_append, List.mem_singleton] at hk
    rcases hk with (hk | hk) | hk
    · exact .inl (List.mem_of_mem_take hk)
    · exact .inr hk
    · exact .inl (List.mem_of_mem_drop hk)
  intro i hi j hj
  rw [put_os] at *
  show (ordAt (os' ++ [o]) i).price < (ordAt (os' ++ [o]) j).price
  cases buy
  · have hi' : i ∈ l' := hi
    rcases hmem j hj with hj' | hj'
    · exact hc i hi' j hj'
    · rw [hj', hnew, hpr i (hlt true i (h3.subset hi'))]
      exact hcross i hi'
  · have hj' : j ∈ l' := hj
    rcases hmem i hi with hi' | hi'
    · exact hc i hi' j hj'
    · rw [hi', hnew, hpr j (hlt false j (h3.subset hj'))]
      exact hcross j hj'
theorem stepB_nc {b : BkS} (hok : b.Ok) (h : NC b) (x : OpP) : NC (stepB b x) := by
  unfold stepB
  split
  · exact cancelE_nc h _ _
  · split
    · exact voidB_nc h _
    · exact placeE_nc hok h _ _ _ _
/-- What trades bring. -/
def sumP (ts : List Trd) : Int := (ts.map fun t => t.n * t.price).sum
def sumU (ts : List Trd) : Int := (ts.map Trd.n).sum
/-- An order that accepts all orders, of an account without orders. -/
theorem matchP_quote : ∀ (l : List Nat) (os : List Ord) (o : Ord), l.Nodup → (∀ k ∈ l, k < os.length ∧ 0 < (ordAt os k).left ∧ acceptsB o (ordAt os k) = true ∧ (ordAt os k).acc ≠ o.acc) → 0 ≤ o.left →
    sumP (matchP os o l).1 = (quoteR os o.left l).1 ∧ sumU (matchP os o l).1 = (quoteR os o.left l).2
  | [], os, o, _, _, _ => ⟨rfl, rfl⟩
  | id :: t, os, o, hn, hm, h0 => by
    obtain ⟨n1, n2⟩ := List.nodup_cons.1 hn
    obtain ⟨m1, m2, m3, m4⟩ := hm id List.mem_cons_self
    rw [matchP, quoteR]
    by_cases hl : 0 < o.left
    · rw [if_pos ⟨hl, m3⟩, if_neg m4]
      obtain ⟨m, hmm⟩ : ∃ m, min o.left (ordAt os id).left = m := ⟨_, rfl⟩
      rw [hmm]
      have ht : (trdOf o (ordAt os id) m).n = m ∧ (trdOf o (ordAt os id) m).price = (ordAt os id).price := by unfold trdOf; cases o.buy <;> exact ⟨rfl, rfl⟩
      have hset : ∀ k ∈ t, ordAt (os.set id ((ordAt os id).less m)) k = ordAt os k := fun k hk => by rw [ordAt_set m1, if_neg (show ¬ k = id from fun e => n1 (by rw [← e]; exact hk))]
      split
      · rename_i hz
        obtain ⟨i1, i2⟩ := matchP_quote t (os.set id ((ordAt os id).less m)) (o.less m) n2 (fun k hk => by
          rw [List.length_set, hset k hk]
          exact hm k (List.mem_cons_of_mem _ hk)) (by show 0 ≤ o.left - m; omega)
        rw [quoteR_congr hset] at i1 i2
        refine ⟨?_, ?_⟩
        · show sumP (trdOf o (ordAt os id) m :: (matchP (os.set id ((ordAt os id).less m)) (o.less m) t).1) = _
          unfold sumP at i1 ⊢
          rw [List.map_cons, List.sum_cons, i1, ht.1, ht.2]
          rfl
        · show sumU (trdOf o (ordAt os id) m :: (matchP (os.set id ((ordAt os id).less m)) (o.less m) t).1) = _
          unfold sumU at i2 ⊢
          rw [List.map_cons, List.sum_cons, i2, ht.1]
          rfl
      · have hmo : o.left - m = 0 := by omega
        rw [hmo, quoteR_zero (fun k hk => by have := (hm k (List.mem_cons_of_mem _ hk)).2.1; omega)]
        unfold sumP sumU
        simp [ht.1, ht.2]
    · rw [if_neg (fun h => hl h.1)]
      have h00 : o.left = 0 := by omega
      have : min o.left (ordAt os id).left = 0 := by omega
      rw [this, h00, show (0 : Int) - 0 = 0 by omega, quoteR_zero (fun k hk => by have := (hm k (List.mem_cons_of_mem _ hk)).2.1; omega)]
      exact ⟨by simp [sumP], by simp [sumU]⟩
end Go.Proofs.Ytkandhpnenmleaa

/- book: the open orders and the best ones, plain. -/
namespace Go.Proofs.Ytkandhpnenmleaa
open Go.RowKit

section
variable {b : BkS}
theorem openOs_at (h : b.Ok) {j : Nat} (hj : j < b.openOs.length) : ∃ id, id < b.os.length ∧ ordAt b.openOs j = ordAt b.os id ∧ b.isIn id = true ∧ (ordAt b.os id).id = (id : Int) ∧ b.openIds[j]? = some id := by
  have hl : b.openOs.length = b.openIds.length := by unfold BkS.openOs; simp
  have hj2 : j < b.openIds.length := by omega
  refine ⟨b.openIds[j], ?_, ?_, (BkS.mem_isIn h).1 (List.getElem_mem hj2), ?_, List.getElem?_eq_getElem hj2⟩
  · have := (BkS.mem_openIds h).1 (List.getElem_mem hj2)
    rcases this with hh | hh
    · exact (h.mem true _ hh).1
    · exact (h.mem false _ hh).1
  · rw [ordAt_eq hj]
    simp [BkS.openOs]
  · refine h.ids _ ?_
    have := (BkS.mem_openIds h).1 (List.getElem_mem hj2)
    rcases this with hh | hh
    · exact (h.mem true _ hh).1
    · exact (h.mem false _ hh).1
theorem openOs_lt (h : b.Ok) {j : Nat} (hj : j + 1 < b.openOs.length) : (ordAt b.openOs j).id < (ordAt b.openOs (j + 1)).id := by
  obtain ⟨i1, -, e1, -, d1, g1⟩ := openOs_at h (j := j) (by omega)
  obtain ⟨i2, -, e2, -, d2, g2⟩ := openOs_at h (j := j + 1) hj
  rw [e1, e2, d1, d2]
  have hp := b.openIds_pw
  have hl : b.openOs.length = b.openIds.length := by unfold BkS.openOs; simp
  have := List.pairwise_iff_getElem.1 hp j (j + 1) (by omega) (by omega) (by omega)
  rw [List.getElem?_eq_getElem (by omega)] at g1 g2
  injection g1 with g1
  injection g2 with g2
  omega
/-- The best order of a side is no worse than an open one. -/
theorem best_of (h : b.Ok) {j : Nat} (hj : j < b.openOs.length) : (b.side (ordAt b.openOs j).buy).isEmpty = false ∧ (if (ordAt b.openOs j).buy then (ordAt b.openOs j).price < (bestO b.os (b.side true)).price ∨ ((ordAt b.openOs j).price = (bestO b.os (b.side true)).price ∧ (bestO b.os (b.side true)).id ≤ (ordAt b.openOs j).id) else (bestO b.os (b.side false)).price < (ordAt b.openOs j).price ∨ ((ordAt b.openOs j).price = (bestO b.os (b.side false)).price ∧ (bestO b.os (b.side false)).id ≤ (ordAt b.openOs j).id)) := by
  obtain ⟨id, hid, e1, hin, e2, -⟩ := openOs_at h hj
  rw [e1]
  rw [BkS.isIn_side h id, decide_eq_true_eq] at hin
  have key : ∀ s, id ∈ b.side s → (b.side s).isEmpty = false ∧ (id = ((b.side s).head?).getD 0 ∧ bestO b.os (b.side s) = ordAt b.os id ∨ betterB s (bestO b.os (b.side s)) (ordAt b.os id) = true) := by
    intro s hs
    cases hss : b.side s with
    | nil => rw [hss] at hs; cases hs
    | cons i t =>
      refine ⟨rfl, ?_⟩
      have := sorted_head (h.sorted s) (List.Sublist.refl _) hss (j := id) hs
      rcases this with h1 | h1
      · exact .inl ⟨h1, by rw [h1]; rfl⟩
      · exact .inr h1
  obtain ⟨k1, k2⟩ := key _ hin
  refine ⟨k1, ?_⟩
  cases hb : (ordAt b.os id).buy
  · rw [hb] at k2
    simp only [Bool.false_eq_true, if_false]
    rcases k2 with ⟨-, k3⟩ | k3
    · rw [k3]
      exact .inr ⟨rfl, Int.le_refl _⟩
    · unfold betterB at k3
      simp at k3
      rcases k3 with k3 | ⟨k3, k4⟩
      · exact .inl k3
      · exact .inr ⟨k3.symm, by omega⟩
  · rw [hb] at k2
    simp only [if_true]
    rcases k2 with ⟨-, k3⟩ | k3
    · rw [k3]
      exact .inr ⟨rfl, Int.le_refl _⟩
    · unfold betterB at k3
      simp at k3
      rcases k3 with k3 | ⟨k3, k4⟩
      · exact .inl k3
      · exact .inr ⟨k3.symm, by omega⟩
theorem open_left (h : b.Ok) {j : Nat} (hj : j < b.openOs.length) : 1 ≤ (ordAt b.openOs j).left ∧ (ordAt b.openOs j).left ≤ (ordAt b.openOs j).n := by
  obtain ⟨id, hid, e1, hin, -, -⟩ := openOs_at h hj
  rw [e1]
  rw [BkS.isIn_side h id, decide_eq_true_eq] at hin
  have h1 := (h.mem _ id hin).2.2
  have h2 := h.rng id hid
  omega
theorem NC.best (h : NC b) (h1 : (b.side true).isEmpty = false) (h2 : (b.side false).isEmpty = false) : (bestO b.os (b.side true)).price < (bestO b.os (b.side false)).price := by
  have e1 : b.side true = b.bs := rfl
  have e2 : b.side false = b.ss := rfl
  rw [e1] at h1 ⊢
  rw [e2] at h2 ⊢
  cases hb : b.bs with
  | nil => rw [hb] at h1; cases h1
  | cons i t =>
    cases hs : b.ss with
    | nil => rw [hs] at h2; cases h2
    | cons j u => exact h i (by rw [hb]; exact List.mem_cons_self) j (by rw [hs]; exact List.mem_cons_self)
end
/-- The state of a loop that performs calls on a book alone. -/
structure CSt (B : Nat) (w0 : World) (gb : Nat) (k : Nat) (V : BkV) (b : BkS) (W : World) : Prop where
  bk : BkAt W B gb V b
  nc : NC b
  len : b.os.length ≤ k
  low : Below B w0 W
theorem bk_isOp {w : World} {B gb : Nat} {V : BkV} {b : BkS} (h : BkAt w B gb V b) {q : Nat} (ht : Ty w q 39) : ¬ BkF gb V b.os.length q := h.raw.isnt ht (by decide)
theorem CSt.next {B : Nat} {w0 : World} {gb k : Nat} {V V' : BkV} {b : BkS} {x : OpP} {w w' : World} (h : CSt B w0 gb k V b w) (hB : B ≤ w.heap.size) (hn : BkNext gb B V b w V' (stepB b x) w') : CSt B w0 gb (k + 1) V' (stepB b x) w' :=
  ⟨hn.bk, stepB_nc h.bk.ok h.nc x, by have h1 := stepB_len b x; have h2 := h.len; omega, hn.mod.below h.low hB (fun q hq => (h.bk.lt hq).1)⟩
theorem CSt.all {B : Nat} {w0 : World} {gb k : Nat} {V : BkV} {b : BkS} {w w' : World} (h : CSt B w0 gb k V b w) (hB : B ≤ w.heap.size) (hb : Below w.heap.size w w') : CSt B w0 gb k V b w' :=
  ⟨h.bk.all hb, h.nc, h.len, h.low.trans (hb.mono hB)⟩
end Go.Proofs.Ytkandhpnenmleaa
