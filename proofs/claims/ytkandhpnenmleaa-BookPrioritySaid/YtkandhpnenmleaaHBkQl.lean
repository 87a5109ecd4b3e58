/- book: an order that accepts all orders, plain. -/
import Derived.Test.YtkandhpnenmleaaHNc

namespace Go.Proofs.Ytkandhpnenmleaa
open Go.RowKit

theorem open_few {b : BkS} (h : b.Ok) : b.bs.length + b.ss.length ≤ b.os.length := by
  rw [← BkS.openIds_len h]
  unfold BkS.openIds
  have := List.length_filter_le b.isIn (List.range b.os.length)
  rw [List.length_range] at this
  exact this
/-- The parts of a trade are small. -/
def TrdSm (t : Trd) : Prop := 0 ≤ t.n * t.price ∧ t.n * t.price ≤ 1099511627776 ∧ 0 ≤ t.n ∧ t.n ≤ 1099511627776
theorem matchP_small : ∀ (l : List Nat) (os : List Ord) (o : Ord), (∀ k, k < os.length → 1 ≤ (ordAt os k).price ∧ (ordAt os k).price * (ordAt os k).n ≤ 1099511627776 ∧ 0 ≤ (ordAt os k).left ∧ (ordAt os k).left ≤ (ordAt os k).n) → (∀ k ∈ l, k < os.length) → ∀ t ∈ (matchP os o l).1, TrdSm t
  | [], os, o, _, _ => fun t ht => by simp [matchP] at ht
  | id :: t, os, o, hr, hm => by
    have m1 := hm id List.mem_cons_self
    obtain ⟨r1, r2, r3, r4⟩ := hr id m1
    rw [matchP]
    split
    · rename_i hc
      split
      · exact matchP_small t os o hr (fun k hk => hm k (List.mem_cons_of_mem _ hk))
      · obtain ⟨m, hmm⟩ : ∃ m, min o.left (ordAt os id).left = m := ⟨_, rfl⟩
        rw [hmm]
        have hm0 : 0 ≤ m := by omega
        have hm1 : m ≤ (ordAt os id).n := by omega
        have hn : (trdOf o (ordAt os id) m).n = m := by unfold trdOf; cases o.buy <;> rfl
        have hp : (trdOf o (ordAt os id) m).price = (ordAt os id).price := by unfold trdOf; cases o.buy <;> rfl
        have hsm : TrdSm (trdOf o (ordAt os id) m) := by
          unfold TrdSm
          rw [hn, hp]
          have h1 : m * (ordAt os id).price ≤ (ordAt os id).n * (ordAt os id).price := Int.mul_le_mul_of_nonneg_right hm1 (by omega)
          rw [Int.mul_comm (ordAt os id).n] at h1
          have h2 : 0 ≤ m * (ordAt os id).price := Int.mul_nonneg hm0 (by omega)
          have h3 : 1 * (ordAt os id).n ≤ (ordAt os id).price * (ordAt os id).n := Int.mul_le_mul_of_nonneg_right r1 (by omega)
          exact ⟨h2, by omega, hm0, by omega⟩
        split
        · intro u hu
          rcases List.mem_cons.1 hu with h | h
          · rw [h]; exact hsm
          · refine matchP_small t _ _ (fun k hk => ?_) (fun k hk => by rw [List.length_set]; exact hm k (List.mem_cons_of_mem _ hk)) u h
            rw [List.length_set] at hk
            rw [ordAt_set m1]
            split
            · rename_i e
              refine ⟨r1, r2, ?_, ?_⟩
              · show 0 ≤ (ordAt os id).left - m
                omega
              · show (ordAt os id).left - m ≤ (ordAt os id).n
                omega
            · exact hr k hk
        · intro u hu
          rw [List.mem_singleton.1 hu]
          exact hsm
    · intro u hu
      cases hu
theorem place_quote {b : BkS} (hok : b.Ok) (hn : NoAcc b.os 9) (hlen : b.os.length ≤ 24) (buy : Bool) {p k : Int} (hp : 1 ≤ p ∧ p ≤ 1000000) (hk : 1 ≤ k ∧ k ≤ 100) (hacc : (buy = true → ∀ j, j < b.openOs.length → (ordAt b.openOs j).price ≤ p) ∧ (buy = false → p = 1)) : ∃ id ts b', placeE b 9 buy p k = (id, ts, 0, b') ∧ quoteE b buy k = (sumP ts, sumU ts, 0) ∧ (∀ t ∈ ts, TrdSm t) ∧ ts.length ≤ 4096 := by
  have hfew := open_few hok
  have he : placeErr b 9 p k = 0 := by
    unfold placeErr
    rw [if_neg (by omega), if_neg, if_neg (by omega)]
    have h1 : inR p = true := by unfold inR; simp; omega
    have h2 : inR k = true := by unfold inR; simp; omega
    rw [h1, h2, Int.tdiv_eq_ediv_of_nonneg (by omega)]
    simp
    have : (1000000 : Int) ≤ 1099511627776 / k := by
      refine (Int.le_ediv_iff_mul_le (by omega)).2 ?_
      omega
    omega
  have hall : ∀ id ∈ b.side (!buy), acceptsB ⟨b.os.length, 9, buy, p, k, k⟩ (ordAt b.os id) = true := by
    intro id hid
    have hm := hok.mem (!buy) id hid
    have hr := hok.rng id hm.1
    unfold acceptsB
    cases buy
    · rw [hacc.2 rfl]
      simp
      omega
    · have hin : b.isIn id = true := isIn_of hid
      have hmem : id ∈ b.openIds := (BkS.mem_isIn hok).2 hin
      obtain ⟨j, hj, hje⟩ := List.getElem_of_mem hmem
      have hl : b.openOs.length = b.openIds.length := by unfold BkS.openOs; simp
      have h3 := hacc.1 rfl j (by omega)
      obtain ⟨i2, -, e1, -, -, g1⟩ := openOs_at hok (j := j) (by omega)
      rw [List.getElem?_eq_getElem hj] at g1
      injection g1 with g1
      rw [e1, ← g1, hje] at h3
      simp
      exact h3
  have hnd : (b.side !buy).Nodup := (hok.sorted (!buy)).nodup
  have hq := matchP_quote (b.side !buy) b.os ⟨b.os.length, 9, buy, p, k, k⟩ hnd (fun id hid => by
    have hm := hok.mem (!buy) id hid
    exact ⟨hm.1, hm.2.2, hall id hid, hn id hm.1⟩) (by show 0 ≤ k; omega)
  have hsm := matchP_small (b.side !buy) b.os ⟨b.os.length, 9, buy, p, k, k⟩ (fun j hj => by
    have := hok.rng j hj
    exact ⟨by omega, by omega, by omega, by omega⟩) (fun j hj => (hok.mem (!buy) j hj).1)
  refine ⟨(b.os.length : Int), (placeS b 9 buy p k).1, (placeS b 9 buy p k).2, ?_, ?_, ?_, ?_⟩
  · unfold placeE
    rw [if_pos he]
  · unfold quoteE
    rw [if_neg (by omega), quoteN_R]
    have h1 : (placeS b 9 buy p k).1 = (matchP b.os ⟨b.os.length, 9, buy, p, k, k⟩ (b.side !buy)).1 := rfl
    rw [h1, hq.1, hq.2]
  · exact hsm
  · have := placeE_len hok 9 buy p k
    unfold placeE at this
    rw [if_pos he] at this
    exact this
theorem sumP_drop {ts : List Trd} {i : Nat} (hi : i < ts.length) : sumP (ts.drop i) = (trdAt ts i).n * (trdAt ts i).price + sumP (ts.drop (i + 1)) ∧ sumU (ts.drop i) = (trdAt ts i).n + sumU (ts.drop (i + 1)) := by
  rw [trdAt_eq hi]
  have : ts.drop i = ts[i] :: ts.drop (i + 1) := List.drop_eq_getElem_cons hi
  rw [this]
  unfold sumP sumU
  rw [List.map_cons, List.sum_cons, List.map_cons, List.sum_cons]
  exact ⟨rfl, rfl⟩
theorem sumP_bd : ∀ {ts : List Trd}, (∀ t ∈ ts, TrdSm t) → 0 ≤ sumP ts ∧ sumP ts ≤ (ts.length : Int) * 1099511627776 ∧ 0 ≤ sumU ts ∧ sumU ts ≤ (ts.length : Int) * 1099511627776
  | [], _ => by simp [sumP, sumU]
  | t :: ts, h => by
    obtain ⟨h1, h2, h3, h4⟩ := h t List.mem_cons_self
    obtain ⟨k1, k2, k3, k4⟩ := sumP_bd (ts := ts) (fun u hu => h u (List.mem_cons_of_mem _ hu))
    unfold sumP sumU at *
    rw [List.map_cons, List.sum_cons, List.map_cons, List.sum_cons, List.length_cons]
    omega
end Go.Proofs.Ytkandhpnenmleaa
