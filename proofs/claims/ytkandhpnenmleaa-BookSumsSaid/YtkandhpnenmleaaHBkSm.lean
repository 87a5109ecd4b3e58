/- book: what the trades of all calls sum up to, plain. -/
import Derived.Test.YtkandhpnenmleaaHNc
import Derived.Test.YtkandhpnenmleaaHBkFl

namespace Go.Proofs.Ytkandhpnenmleaa
open Go.RowKit

section
variable {P : Program} {w : World} {base t e size bytes n : Nat} {v : Value} {xs : List Value}
/-- append of a slice whose cells are known; what else turns. -/
theorem app_cellsM {ty : TypeId} (hT : SlT P t e size bytes) (hown : w.ownsRow base e size v n xs) (A : Option Addr) (m c : Nat) (news : List Value) (hl : news.length = m * size) (hA : A = none → m = 0)
    (hnews : ∀ ad, A = some ad → ∀ j u, news[j]? = some u → w.cell? (ad.add j) = some u) (h1 : ∀ u ∈ news, u.oneCell' = true) (hn : n + m < 1099511627776) (hby : bytes ≤ 64) (hbase : base ≤ w.heap.size) :
    ∃ A' c' w', (Builtin.append_ #[t, t] ty #[v, .slice A m c]).run P w = .ok (.slice A' (n + m) c') w' ∧ w'.ownsRow base e size (.slice A' (n + m) c') (n + m) (xs ++ news) ∧ Below base w w' ∧ Mod (fun q => v.ownBlock = some q) w w' := by
  have hT' := hT
  obtain ⟨i, z, ht, hi, hz, hs, hb, hzs, hsz⟩ := hT
  rcases A with _ | ad
  · obtain ⟨A', c', w', hrun, h2, h3⟩ := app_cells (ty := ty) hT' hown none m c news hl hA hnews h1 hn hby hbase
    have hm := hA rfl
    subst hm
    obtain ⟨A2, c2, rfl⟩ := own_split hown
    have hw : w' = w := by
      rcases hown.2 with ⟨h, h0⟩ | ⟨g, cap, cur, h, _, _, hnc, _⟩
      · cases h
        simp [Builtin.append_, run_underlying ht, sizeOf, typeInfo, hi, Builtin.lenOf, Builtin.firstCells] at hrun
        exact hrun.2.symm
      · injection h with h _ h3
        subst h h3
        simp [Builtin.append_, run_underlying ht, sizeOf, typeInfo, hi, Builtin.lenOf, Builtin.firstCells, hnc, storeCells] at hrun
        exact hrun.2.symm
    exact ⟨A', c', w', hrun, h2, h3, by rw [hw]; exact Mod.refl _ _⟩
  · have hmul : (n + m) * bytes ≤ 140737488355328 := Nat.le_trans (Nat.mul_le_mul (show n + m ≤ 1099511627776 by omega) hby) (by decide)
    obtain ⟨v', w', hrun, h2, h3, _, h5⟩ := run_append_own_at (P := P) w base t ty e i z size bytes ht hi hz hs hb hzs hsz v n xs hown ad m c news hl (hnews ad rfl) h1 (by unfold maxLen; omega) hmul hbase
    obtain ⟨A', c', rfl⟩ := own_split h2
    exact ⟨A', c', w', hrun, h2, own_below hown h3 hbase, Mod.of_grown h3 (fun g hg => .inl hg)⟩
end
/-- All trades are sound, and each order's units are what is left and what was traded. -/
structure SumI (b : BkS) (T : List Trd) : Prop where
  ok : ∀ t ∈ T, TrdOk b.os t
  sum : ∀ k, k < b.os.length → (ordAt b.os k).n = (ordAt b.os k).left + sumT T (k : Int)
theorem sumT_zero : ∀ {T : List Trd} {n : Nat} {os : List Ord}, (∀ t ∈ T, TrdOk os t) → os.length ≤ n → sumT T (n : Int) = 0
  | [], _, _, _, _ => rfl
  | t :: T, n, os, h, hn => by
    have h1 := h t List.mem_cons_self
    rw [sumT_cons, sumT_zero (fun u hu => h u (List.mem_cons_of_mem _ hu)) hn, if_neg]
    · rfl
    · have := h1.b1
      have := h1.s1
      omega
theorem SumI.same {b c : BkS} {T : List Trd} (h : SumI b T) (ho : c.os = b.os) : SumI c T := ⟨by rw [ho]; exact h.ok, by rw [ho]; exact h.sum⟩
theorem SumI.place {b : BkS} {T : List Trd} (hok : b.Ok) (h : SumI b T) (acc : Int) (buy : Bool) (price m : Int) : SumI (placeE b acc buy price m).2.2.2 (T ++ (placeE b acc buy price m).2.1) := by
  unfold placeE
  split
  case isFalse =>
    show SumI b (T ++ [])
    rw [List.append_nil]
    exact h
  case isTrue he =>
  show SumI (placeS b acc buy price m).2 (T ++ (placeS b acc buy price m).1)
  obtain ⟨h1, h2, h3, h4⟩ := matchP_like (b.side !buy) b.os ⟨b.os.length, acc, buy, price, m, m⟩
  obtain ⟨s1, s2, s3⟩ := matchP_sums (b.side !buy) b.os ⟨b.os.length, acc, buy, price, m, m⟩ hok.ids rfl (hok.sorted (!buy)).nodup (fun k hk => hok.mem (!buy) k hk)
  unfold placeS
  dsimp only
  obtain ⟨r, hr⟩ : ∃ r, matchP b.os ⟨b.os.length, acc, buy, price, m, m⟩ (b.side !buy) = r := ⟨_, rfl⟩
  rw [hr] at h1 h2 h3 h4 s1 s2 s3 ⊢
  obtain ⟨ts, o, os', l'⟩ := r
  dsimp only at h1 h2 h3 h4 s1 s2 s3 ⊢
  have key : SumI ((b.put (!buy) l').setOs (os' ++ [o])) (T ++ ts) := by
    have hlike : ∀ k, k < b.os.length + 1 → (ordAt (os' ++ [o]) k).like (ordAt (b.os ++ [⟨b.os.length, acc, buy, price, m, m⟩]) k) := by
      intro k hk
      rw [ordAt_app, ordAt_app, h4]
      split
      · exact h1
      · exact h2 k
    have hlen : (os' ++ [o]).length = b.os.length + 1 := by rw [List.length_append, h4]; rfl
    refine ⟨fun t ht => ?_, fun k hk => ?_⟩
    · show TrdOk (os' ++ [o]) t
      rcases List.mem_append.1 ht with h5 | h5
      · refine (h.ok t h5).like (by omega) (fun k hk => ?_)
        rw [ordAt_app, if_neg (by omega)]
        exact h2 k
      · refine (s3 t h5).like (by rw [hlen]; simp) (fun k hk => ?_)
        rw [List.length_append, List.length_singleton] at hk
        exact hlike k hk
    · have hk' : k < (os' ++ [o]).length := hk
      rw [hlen] at hk'
      show (ordAt (os' ++ [o]) k).n = (ordAt (os' ++ [o]) k).left + sumT (T ++ ts) (k : Int)
      rw [sumT_append]
      rcases Nat.lt_or_ge k b.os.length with h5 | h5
      · rw [ordAt_app, if_neg (by omega), (h2 k).2.2.2.2, h.sum k h5, s1 k h5]
        omega
      · have hkb : k = b.os.length := by omega
        rw [ordAt_app, if_pos (by omega), hkb, sumT_zero h.ok (Nat.le_refl _), h1.2.2.2.2]
        show m = o.left + (0 + sumT ts (b.os.length : Int))
        omega
  split
  · exact key.same (opened_os _ _)
  · exact key
theorem sumT_take {T : List Trd} {i : Nat} (hi : i < T.length) (id : Int) : sumT (T.take (i + 1)) id = sumT (T.take i) id + (if (trdAt T i).buy = id ∨ (trdAt T i).sell = id then (trdAt T i).n else 0) := by
  rw [trdAt_eq hi, ← List.take_append_getElem hi, sumT_append, sumT_cons]
  simp [sumT]
theorem sumT_nonneg : ∀ {T : List Trd} (_ : ∀ t ∈ T, 1 ≤ t.n) (id : Int), 0 ≤ sumT T id
  | [], _, _ => Int.le_refl _
  | t :: T, h, id => by
    rw [sumT_cons]
    have h1 := h t List.mem_cons_self
    have h2 := sumT_nonneg (T := T) (fun u hu => h u (List.mem_cons_of_mem _ hu)) id
    split <;> omega
theorem sumT_le {T : List Trd} (h : ∀ t ∈ T, 1 ≤ t.n) (i : Nat) (id : Int) : 0 ≤ sumT (T.take i) id ∧ sumT (T.take i) id ≤ sumT T id := by
  have h1 := sumT_nonneg (T := T.take i) (fun t ht => h t (List.mem_of_mem_take ht)) id
  have h2 := sumT_nonneg (T := T.drop i) (fun t ht => h t (List.mem_of_mem_drop ht)) id
  have h3 : sumT T id = sumT (T.take i) id + sumT (T.drop i) id := by rw [← sumT_append, List.take_append_drop]
  omega
/-- The state of the loop that collects the trades. -/
structure SSt (B : Nat) (w0 : World) (gb : Nat) (k : Nat) (V : BkV) (b : BkS) (A : Option Addr) (m c : Nat) (T : List Trd) (W : World) : Prop where
  bk : BkAt W B gb V b
  sum : SumI b T
  len : b.os.length ≤ k
  row : W.ownsRow B 46 4 (.slice A m c) m (T.flatMap Trd.cells)
  tl : T.length = m
  tm : m ≤ 4096 * k
  low : Below B w0 W
theorem SSt.next {B : Nat} {w0 : World} {gb k : Nat} {V V' : BkV} {b b' : BkS} {A : Option Addr} {m c : Nat} {T : List Trd} {w w' : World} (h : SSt B w0 gb k V b A m c T w) (hB : B ≤ w.heap.size) (hs : SumI b' T) (hl : b'.os.length ≤ k + 1) (hn : BkNext gb B V b w V' b' w') : SSt B w0 gb (k + 1) V' b' A m c T w' :=
  ⟨hn.bk, hs, hl, hn.mod.own h.row (fun q hq => h.bk.raw.isnt (own_ty h.row hq) (by decide)), h.tl, by have := h.tm; omega, hn.mod.below h.low hB (fun q hq => (h.bk.lt hq).1)⟩
theorem SSt.all {B : Nat} {w0 : World} {gb k : Nat} {V : BkV} {b : BkS} {A : Option Addr} {m c : Nat} {T : List Trd} {w w' : World} (h : SSt B w0 gb k V b A m c T w) (hB : B ≤ w.heap.size) (hb : Below w.heap.size w w') : SSt B w0 gb k V b A m c T w' :=
  ⟨h.bk.all hb, h.sum, h.len, own_keep h.row hb, h.tl, h.tm, h.low.trans (hb.mono hB)⟩
theorem trd_one (ts : List Trd) : ∀ u ∈ ts.flatMap Trd.cells, u.oneCell' = true := by
  intro u hu
  obtain ⟨x, -, hx⟩ := List.mem_flatMap.1 hu
  simp [Trd.cells] at hx
  rcases hx with rfl | rfl | rfl | rfl <;> rfl
theorem row_none {w : World} {B e size n c : Nat} {A : Option Addr} {xs : List Value} (h : w.ownsRow B e size (.slice A n c) n xs) : A = none → n = 0 := by
  intro hA
  subst hA
  rcases h.2 with ⟨-, h⟩ | ⟨g, cap, cur, h1, -⟩
  · exact h
  · cases h1
end Go.Proofs.Ytkandhpnenmleaa
