/- book: what Place makes of a book, plain. -/
import Derived.Test.YtkandhpnenmleaaHBkQ

namespace Go.Proofs.Ytkandhpnenmleaa
open Go.RowKit

section
variable {b : BkS}
theorem ordAt_set {os : List Ord} {id k : Nat} {v : Ord} (hk : id < os.length) : ordAt (os.set id v) k = if k = id then v else ordAt os k := by
  unfold ordAt
  rw [List.getElem?_set]
  by_cases h : id = k
  · subst h
    rw [if_pos rfl, if_pos rfl, if_pos hk]
    rfl
  · rw [if_neg h, if_neg (fun e => h e.symm)]
theorem ordAt_app {os : List Ord} {o : Ord} {k : Nat} : ordAt (os ++ [o]) k = if k = os.length then o else ordAt os k := by
  unfold ordAt
  rw [List.getElem?_append]
  split
  · rw [if_neg (by omega)]
  · split
    · rename_i h
      subst h
      simp
    · rename_i h1 h2
      rw [List.getElem?_eq_none (by simp; omega), List.getElem?_eq_none (by omega)]
def Ord.like (x y : Ord) : Prop := x.id = y.id ∧ x.acc = y.acc ∧ x.buy = y.buy ∧ x.price = y.price ∧ x.n = y.n
theorem Ord.like_less (x : Ord) (m : Int) : (x.less m).like x := ⟨rfl, rfl, rfl, rfl, rfl⟩
theorem Ord.like.bet {x y x' y' : Ord} (h : x.like x') (k : y.like y') (buy : Bool) : betterB buy x y = betterB buy x' y' := by
  obtain ⟨h1, -, -, h4, -⟩ := h
  obtain ⟨k1, -, -, k4, -⟩ := k
  unfold betterB
  rw [h1, h4, k1, k4]
theorem Ord.like.rfl' (x : Ord) : x.like x := ⟨rfl, rfl, rfl, rfl, rfl⟩
theorem setOs_side (b : BkS) (os : List Ord) (s : Bool) : (b.setOs os).side s = b.side s := by cases s <;> rfl
theorem put_side (b : BkS) (l : List Nat) (s : Bool) : (b.put s l).side s = l := by cases s <;> rfl
theorem put_side' (b : BkS) (l : List Nat) (s : Bool) : (b.put s l).side (!s) = b.side (!s) := by cases s <;> rfl
theorem put_os (b : BkS) (l : List Nat) (s : Bool) : (b.put s l).os = b.os := by cases s <;> rfl
theorem put_setOs (b : BkS) (l : List Nat) (s : Bool) (os : List Ord) : (b.put s l).setOs os = (b.setOs os).put s l := by cases s <;> rfl
theorem put_self (b : BkS) (s : Bool) : b.put s (b.side s) = b := by cases s <;> rfl
theorem BkS.ext' {b c : BkS} (s : Bool) (h1 : b.os = c.os) (h2 : b.side s = c.side s) (h3 : b.side (!s) = c.side (!s)) : b = c := by
  obtain ⟨o, x, y⟩ := b
  obtain ⟨o', x', y'⟩ := c
  dsimp only at h1
  subst h1
  cases s <;> simp_all [BkS.side]
theorem BkS.few_side (b : BkS) (s : Bool) : b.bs.length + b.ss.length = (b.side s).length + (b.side (!s)).length := by
  cases s <;> simp [BkS.side] <;> omega
theorem isIn_of {k : Nat} {s : Bool} (h : k ∈ b.side s) : b.isIn k = true := by
  cases s <;> simp [BkS.side, BkS.isIn] at h ⊢ <;> simp [h]
theorem BkS.Ok.setO (h : b.Ok) {id : Nat} {v : Ord} (hid : id < b.os.length) (hv : v.like (ordAt b.os id)) (h0 : 0 ≤ v.left) (h1 : v.left ≤ v.n) (hm : b.isIn id = true → 0 < v.left) : (b.setOs (b.os.set id v)).Ok := by
  have hl : (b.os.set id v).length = b.os.length := by simp
  have key : ∀ k, (ordAt (b.os.set id v) k).like (ordAt b.os k) := by
    intro k
    rw [ordAt_set hid]
    split
    · rename_i e
      rw [e]
      exact hv
    · exact Ord.like.rfl' _
  refine ⟨fun k hk => ?_, fun k hk => ?_, fun s k hk => ?_, fun s => ?_, h.few⟩
  · have hk' : k < b.os.length := by rw [← hl]; exact hk
    exact (key k).1.trans (h.ids k hk')
  · have hk' : k < b.os.length := by rw [← hl]; exact hk
    have hr := h.rng k hk'
    obtain ⟨-, k2, -, k4, k5⟩ := key k
    show 1 ≤ (ordAt (b.os.set id v) k).price ∧ (ordAt (b.os.set id v) k).price ≤ 1099511627776 ∧ 1 ≤ (ordAt (b.os.set id v) k).n ∧ (ordAt (b.os.set id v) k).n ≤ 1099511627776 ∧ 0 ≤ (ordAt (b.os.set id v) k).left ∧ (ordAt (b.os.set id v) k).left ≤ (ordAt (b.os.set id v) k).n ∧ 1 ≤ (ordAt (b.os.set id v) k).acc ∧ (ordAt (b.os.set id v) k).acc ≤ 1073741824 ∧ (ordAt (b.os.set id v) k).price * (ordAt (b.os.set id v) k).n ≤ 1099511627776
    have hle : 0 ≤ (ordAt (b.os.set id v) k).left ∧ (ordAt (b.os.set id v) k).left ≤ (ordAt (b.os.set id v) k).n := by
      rw [ordAt_set hid]
      split
      · exact ⟨h0, h1⟩
      · exact ⟨hr.2.2.2.2.1, hr.2.2.2.2.2.1⟩
    rw [k4, k2, k5] at *
    exact ⟨hr.1, hr.2.1, hr.2.2.1, hr.2.2.2.1, hle.1, by rw [← k5]; rw [k5]; exact hle.2, hr.2.2.2.2.2.2⟩
  · rw [setOs_side] at hk
    have hr := h.mem s k hk
    refine ⟨by show k < (b.os.set id v).length; rw [hl]; exact hr.1, (key k).2.2.1.trans hr.2.1, ?_⟩
    show 0 < (ordAt (b.os.set id v) k).left
    rw [ordAt_set hid]
    split
    · rename_i e
      exact hm (by rw [← e]; exact isIn_of hk)
    · exact hr.2.2
  · rw [setOs_side]
    refine (h.sorted s).imp (fun {x y} hxy => ?_)
    show betterB s (ordAt (b.os.set id v) x) (ordAt (b.os.set id v) y) = true
    rw [(key x).bet (key y)]
    exact hxy
theorem BkS.Ok.app (h : b.Ok) {o : Ord} (h1 : o.id = (b.os.length : Int)) (h2 : 1 ≤ o.price ∧ o.price ≤ 1099511627776 ∧ 1 ≤ o.n ∧ o.n ≤ 1099511627776 ∧ 0 ≤ o.left ∧ o.left ≤ o.n ∧ 1 ≤ o.acc ∧ o.acc ≤ 1073741824 ∧ o.price * o.n ≤ 1099511627776) : (b.setOs (b.os ++ [o])).Ok := by
  have key : ∀ k, k < b.os.length → ordAt (b.os ++ [o]) k = ordAt b.os k := fun k hk => by rw [ordAt_app, if_neg (by omega)]
  have hlen : (b.setOs (b.os ++ [o])).os.length = b.os.length + 1 := by simp [BkS.setOs]
  refine ⟨fun k hk => ?_, fun k hk => ?_, fun s k hk => ?_, fun s => ?_, h.few⟩
  · show (ordAt (b.os ++ [o]) k).id = _
    rw [ordAt_app]
    split
    · rename_i e
      rw [e, h1]
    · exact h.ids k (by omega)
  · show 1 ≤ (ordAt (b.os ++ [o]) k).price ∧ (ordAt (b.os ++ [o]) k).price ≤ 1099511627776 ∧ 1 ≤ (ordAt (b.os ++ [o]) k).n ∧ (ordAt (b.os ++ [o]) k).n ≤ 1099511627776 ∧ 0 ≤ (ordAt (b.os ++ [o]) k).left ∧ (ordAt (b.os ++ [o]) k).left ≤ (ordAt (b.os ++ [o]) k).n ∧ 1 ≤ (ordAt (b.os ++ [o]) k).acc ∧ (ordAt (b.os ++ [o]) k).acc ≤ 1073741824 ∧ (ordAt (b.os ++ [o]) k).price * (ordAt (b.os ++ [o]) k).n ≤ 1099511627776
    rw [ordAt_app]
    split
    · exact h2
    · exact h.rng k (by omega)
  · rw [setOs_side] at hk
    have hr := h.mem s k hk
    refine ⟨by omega, ?_⟩
    show (ordAt (b.os ++ [o]) k).buy = s ∧ 0 < (ordAt (b.os ++ [o]) k).left
    rw [key k hr.1]
    exact hr.2
  · rw [setOs_side]
    refine (h.sorted s).imp_of_mem (fun {x y} hx hy hxy => ?_)
    show betterB s (ordAt (b.os ++ [o]) x) (ordAt (b.os ++ [o]) y) = true
    rw [key x (h.mem s x hx).1, key y (h.mem s y hy).1]
    exact hxy
theorem BkS.Ok.notIn (h : b.Ok) {k : Nat} (hk : b.os.length ≤ k) : b.isIn k = false := by
  cases hb : b.isIn k with
  | false => rfl
  | true =>
    unfold BkS.isIn at hb
    rw [Bool.or_eq_true, decide_eq_true_eq, decide_eq_true_eq] at hb
    rcases hb with hb | hb
    · have := (h.mem true k hb).1; omega
    · have := (h.mem false k hb).1; omega
theorem BkS.Ok.pop (h : b.Ok) {s : Bool} {id : Nat} {t : List Nat} (hs : b.side s = id :: t) : (b.put s t).Ok ∧ (b.put s t).isIn id = false := by
  refine ⟨h.sub s (by rw [hs]; exact List.sublist_cons_self _ _), ?_⟩
  have h1 : id ∉ t := by
    have := (h.sorted s).nodup
    rw [hs] at this
    exact (List.nodup_cons.1 this).1
  have h2 : id ∉ b.side (!s) := fun hm => by
    have k1 := (h.mem s id (by rw [hs]; exact List.mem_cons_self)).2.1
    have k2 := (h.mem (!s) id hm).2.1
    rw [k1] at k2
    cases s <;> cases k2
  unfold BkS.isIn
  cases s <;> simp_all [BkS.put, BkS.side]
/-- Place's loop has come from b and o0 to c and o; ts are the trades. -/
structure PM (b : BkS) (s : Bool) (o0 : Ord) (c : BkS) (o : Ord) (ts : List Trd) : Prop where
  ok : c.Ok
  other : c.side (!s) = b.side (!s)
  len : c.os.length = b.os.length
  few : (c.side s).length ≤ (b.side s).length
  eq : matchP b.os o0 (b.side s) = (ts ++ (matchP c.os o (c.side s)).1, (matchP c.os o (c.side s)).2)
  like : o.like o0
  l0 : 0 ≤ o.left
  l1 : o.left ≤ o0.left
  tl : ts.length + (c.side s).length ≤ (b.side s).length + (if 0 < o.left then 0 else 1)
theorem PM.start (h : b.Ok) (s : Bool) (o : Ord) (h0 : 0 ≤ o.left) : PM b s o b o [] := ⟨h, rfl, rfl, Nat.le_refl _, rfl, Ord.like.rfl' _, h0, Int.le_refl _, by simp⟩
theorem Ord.like.trans {x y z : Ord} (h : x.like y) (k : y.like z) : x.like z := ⟨h.1.trans k.1, h.2.1.trans k.2.1, h.2.2.1.trans k.2.2.1, h.2.2.2.1.trans k.2.2.2.1, h.2.2.2.2.trans k.2.2.2.2⟩
variable {s : Bool} {o0 o : Ord} {c : BkS} {ts : List Trd} {id : Nat} {t : List Nat}
theorem PM.facts (h : PM b s o0 c o ts) (hs : c.side s = id :: t) : id < c.os.length ∧ (ordAt c.os id).buy = s ∧ 0 < (ordAt c.os id).left ∧ (ordAt c.os id).id = (id : Int) ∧ (ordAt c.os id).left ≤ 1099511627776 := by
  have hm := h.ok.mem s id (by rw [hs]; exact List.mem_cons_self)
  have hr := h.ok.rng id hm.1
  exact ⟨hm.1, hm.2.1, hm.2.2, h.ok.ids id hm.1, by omega⟩
/-- The best counterpart is of the same account. -/
theorem PM.same (h : PM b s o0 c o ts) (hs : c.side s = id :: t) (hl : 0 < o.left) (ha : acceptsB o (ordAt c.os id) = true) (hacc : (ordAt c.os id).acc = o.acc) : PM b s o0 (c.put s t) o ts := by
  refine ⟨(h.ok.pop hs).1, (put_side' c t s).trans h.other, by rw [put_os]; exact h.len, ?_, ?_, h.like, h.l0, h.l1, ?_⟩
  · have := h.few
    rw [hs] at this
    rw [put_side]
    simp only [List.length_cons] at this
    omega
  · rw [h.eq, put_side, put_os, hs]
    rw [show matchP c.os o (id :: t) = matchP c.os o t by
      rw [matchP, if_pos ⟨hl, ha⟩, if_pos hacc]]
  · have := h.tl
    rw [hs] at this
    rw [put_side]
    simp only [List.length_cons] at this
    omega
theorem PM.full (h : PM b s o0 c o ts) (hs : c.side s = id :: t) (hl : 0 < o.left) (ha : acceptsB o (ordAt c.os id) = true) (hacc : (ordAt c.os id).acc ≠ o.acc) {m : Int} (hm : m = min o.left (ordAt c.os id).left) (h0 : (ordAt c.os id).left - m = 0) : PM b s o0 ((c.setOs (c.os.set id ((ordAt c.os id).less m))).put s t) (o.less m) (ts ++ [trdOf o (ordAt c.os id) m]) := by
  have hf := h.facts hs
  obtain ⟨p1, p2⟩ := h.ok.pop hs
  have hml : m ≤ o.left := by rw [hm]; exact Int.min_le_left _ _
  have hm1 : 0 < m := by omega
  refine ⟨?_, (put_side' _ t s).trans ((setOs_side _ _ _).trans h.other), ?_, ?_, ?_, (Ord.like_less o m).trans h.like, ?_, ?_, ?_⟩
  · rw [← put_setOs]
    have := p1.setO (id := id) (v := (ordAt c.os id).less m) (by rw [put_os]; exact hf.1) (by rw [put_os]; exact Ord.like_less _ _) (by show 0 ≤ (ordAt c.os id).left - m; omega) (by
      have := h.ok.rng id hf.1
      show (ordAt c.os id).left - m ≤ (ordAt c.os id).n
      omega) (fun e => by rw [p2] at e; cases e)
    rw [put_os] at this
    exact this
  · rw [put_os]
    show (c.os.set id _).length = _
    rw [List.length_set]
    exact h.len
  · have := h.few
    rw [hs] at this
    rw [put_side]
    simp only [List.length_cons] at this
    omega
  · rw [h.eq, put_side, put_os, hs, matchP, if_pos ⟨hl, ha⟩, if_neg hacc, ← hm, if_pos h0, List.append_assoc]
    rfl
  · show 0 ≤ o.left - m
    omega
  · show o.left - m ≤ o0.left
    have := h.l1
    omega
  · have := h.tl
    rw [hs] at this
    rw [put_side, List.length_append, List.length_singleton]
    rw [if_pos hl] at this
    simp only [List.length_cons] at this
    omega
theorem PM.part (h : PM b s o0 c o ts) (hs : c.side s = id :: t) (hl : 0 < o.left) (ha : acceptsB o (ordAt c.os id) = true) (hacc : (ordAt c.os id).acc ≠ o.acc) {m : Int} (hm : m = min o.left (ordAt c.os id).left) (h0 : (ordAt c.os id).left - m ≠ 0) : PM b s o0 (c.setOs (c.os.set id ((ordAt c.os id).less m))) (o.less m) (ts ++ [trdOf o (ordAt c.os id) m]) ∧ (o.less m).left = 0 := by
  have hf := h.facts hs
  have hmo : m = o.left := by omega
  have hz : (o.less m).left = 0 := by show o.left - m = 0; omega
  refine ⟨⟨?_, (setOs_side _ _ _).trans h.other, ?_, ?_, ?_, (Ord.like_less o m).trans h.like, by omega, by have := h.l0; have := h.l1; omega, ?_⟩, hz⟩
  · exact h.ok.setO hf.1 (Ord.like_less _ _) (by show 0 ≤ (ordAt c.os id).left - m; omega) (by
      have := h.ok.rng id hf.1
      show (ordAt c.os id).left - m ≤ (ordAt c.os id).n
      omega) (fun _ => by show 0 < (ordAt c.os id).left - m; omega)
  · show (c.os.set id _).length = _
    rw [List.length_set]
    exact h.len
  · rw [setOs_side]
    exact h.few
  · rw [h.eq, setOs_side, hs]
    rw [show matchP c.os o (id :: t) = ([trdOf o (ordAt c.os id) m], o.less m, c.os.set id ((ordAt c.os id).less m), id :: t) by
      rw [matchP, if_pos ⟨hl, ha⟩, if_neg hacc, ← hm, if_neg h0]]
    rw [show matchP (c.setOs (c.os.set id ((ordAt c.os id).less m))).os (o.less m) (id :: t) = ([], o.less m, c.os.set id ((ordAt c.os id).less m), id :: t) by
      rw [matchP, if_neg (by rw [hz]; omega)]
      rfl]
    simp
  · have := h.tl
    rw [setOs_side, List.length_append, List.length_singleton, hz, if_neg (by omega)]
    rw [if_pos hl] at this
    omega
/-- The loop ends. -/
def Stops (c : BkS) (s : Bool) (o : Ord) : Prop := o.left ≤ 0 ∨ c.side s = [] ∨ ∃ id t, c.side s = id :: t ∧ acceptsB o (ordAt c.os id) = false
theorem matchP_stop (h : Stops c s o) : matchP c.os o (c.side s) = ([], o, c.os, c.side s) := by
  rcases h with h | h | ⟨id, t, h1, h2⟩
  · cases hs : c.side s with
    | nil => rfl
    | cons id t => rw [matchP, if_neg (by omega)]
  · rw [h]; rfl
  · rw [h1, matchP, if_neg (by rw [h2]; simp)]
/-- The book behind the loop, once the order stands among the orders. -/
def BkS.withO (c : BkS) (o : Ord) : BkS := c.setOs (c.os ++ [o])
def BkS.last (c : BkS) (o : Ord) : BkS := if 0 < o.left then (c.withO o).opened o else c.withO o
theorem PM.done {acc price n : Int} {buy : Bool} (h : PM b (!buy) ⟨b.os.length, acc, buy, price, n, n⟩ c o ts) (hst : Stops c (!buy) o) : placeS b acc buy price n = (ts, c.last o) := by
  have he := h.eq
  rw [matchP_stop hst] at he
  unfold placeS
  rw [he]
  dsimp only
  have hc : (b.put (!buy) (c.side (!buy))).setOs (c.os ++ [o]) = c.withO o := by
    refine BkS.ext' (!buy) ?_ ?_ ?_
    · rfl
    · rw [setOs_side, put_side]
      unfold BkS.withO
      rw [setOs_side]
    · rw [setOs_side, put_side']
      unfold BkS.withO
      rw [setOs_side]
      exact h.other.symm
  rw [hc, List.append_nil]
  rfl
theorem PM.okW {acc price n : Int} {buy : Bool} (h : PM b (!buy) ⟨b.os.length, acc, buy, price, n, n⟩ c o ts) (he : placeErr b acc price n = 0) : (c.withO o).Ok ∧ (0 < o.left → (c.last o).Ok) := by
  obtain ⟨k1, k2, k3, k4, k5⟩ := h.like
  dsimp only at k1 k2 k3 k4 k5
  have hl0 := h.l0
  have hl1 := h.l1
  dsimp only at hl1
  unfold placeErr at he
  split at he
  · cases he
  · rename_i h1
    split at he
    · cases he
    · rename_i h2
      split at he
      · cases he
      · rename_i h3
        have hpr : inR price = true := by simpa using (fun e => h2 (.inl e))
        have hnr : inR n = true := by simpa using (fun e => h2 (.inr (.inl e)))
        have hq : ¬ (1099511627776 : Int).tdiv n < price := fun e => h2 (.inr (.inr e))
        unfold inR at hpr hnr
        rw [Bool.and_eq_true, decide_eq_true_eq, decide_eq_true_eq] at hpr hnr
        have hpn : price * n ≤ 1099511627776 := by
          rw [Int.tdiv_eq_ediv_of_nonneg (by omega)] at hq
          exact (Int.le_ediv_iff_mul_le (by omega)).1 (by omega)
        have hw : (c.withO o).Ok := h.ok.app (by rw [k1, h.len]) (by
          rw [k4, k5, k2]
          exact ⟨hpr.1, hpr.2, hnr.1, hnr.2, hl0, hl1, by omega, by omega, hpn⟩)
        refine ⟨hw, fun hl => ?_⟩
        unfold BkS.last
        rw [if_pos hl]
        refine hw.opened (k := c.os.length) (by simp [BkS.withO, BkS.setOs]) ?_ hl ?_ ?_
        · show ordAt (c.os ++ [o]) c.os.length = o
          rw [ordAt_app, if_pos rfl]
        · exact h.ok.notIn (Nat.le_refl _)
        · show c.bs.length + c.ss.length < 4096
          have h5 := h.few
          have h6 := h.other
          rw [BkS.few_side c (!buy), h6]
          have h7 := BkS.few_side b (!buy)
          omega
end
/-- What Place returns, and the book behind it. -/
def placeE (b : BkS) (acc : Int) (buy : Bool) (price n : Int) : Int × List Trd × Int × BkS :=
  if placeErr b acc price n = 0 then ((b.os.length : Int), (placeS b acc buy price n).1, 0, (placeS b acc buy price n).2) else (0, [], placeErr b acc price n, b)
end Go.Proofs.Ytkandhpnenmleaa
