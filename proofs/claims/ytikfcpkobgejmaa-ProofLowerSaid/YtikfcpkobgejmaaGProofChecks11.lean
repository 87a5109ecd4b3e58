/- Part 11 of the texts that ProofChecks needs: PfSpoilt29 PfFull PfRLots. -/
import Derived.Test.YtikfcpkobgejmaaGProofChecks10

/- reference: Spoilt (of 29). -/
namespace Go.Proofs.Ytikfcpkobgejmaa
open Go.RowKit

theorem cells4_set {L : List Nd} {k : Nat} (hk : k < L.length) (b : Nd) : ((((L.flatMap Nd.cells).set (k * 4) (.int .i64 b.bid)).set (k * 4 + 1) (.int .i64 b.inn)).set (k * 4 + 2) (.int .i64 b.out)).set (k * 4 + 3) (slV b.s) = (L.set k b).flatMap Nd.cells := by
  have h0 := flatT_set Nd.cells 4 Nd.cells_length ⟨b.bid, L[k].inn, L[k].out, L[k].s, L[k].prices⟩ 0 (by decide) (.int .i64 b.bid) L k hk rfl
  rw [Nat.add_zero] at h0
  rw [h0]
  have hk1 : k < (L.set k ⟨b.bid, L[k].inn, L[k].out, L[k].s, L[k].prices⟩).length := by rw [List.length_set]; exact hk
  rw [flatT_set Nd.cells 4 Nd.cells_length ⟨b.bid, b.inn, L[k].out, L[k].s, L[k].prices⟩ 1 (by decide) (.int .i64 b.inn) _ k hk1 (by simp [Nd.cells]), List.set_set]
  have hk2 : k < (L.set k ⟨b.bid, b.inn, L[k].out, L[k].s, L[k].prices⟩).length := by rw [List.length_set]; exact hk
  rw [flatT_set Nd.cells 4 Nd.cells_length ⟨b.bid, b.inn, b.out, L[k].s, L[k].prices⟩ 2 (by decide) (.int .i64 b.out) _ k hk2 (by simp [Nd.cells]), List.set_set]
  have hk3 : k < (L.set k ⟨b.bid, b.inn, b.out, L[k].s, L[k].prices⟩).length := by rw [List.length_set]; exact hk
  rw [flatT_set Nd.cells 4 Nd.cells_length b 3 (by decide) (slV b.s) _ k hk3 (by simp [Nd.cells]), List.set_set]
theorem own_set4 {w : World} {B t n c g k : Nat} {L : List Nd} (h : w.ownsRow B t 4 (.slice (some ⟨g, 0, none⟩) n c) n (L.flatMap Nd.cells)) (hk : k < L.length) (b : Nd) :
    (((((w).setCell ⟨g, k * 4, none⟩ (.int .i64 b.bid)).setCell ⟨g, k * 4 + 1, none⟩ (.int .i64 b.inn)).setCell ⟨g, k * 4 + 2, none⟩ (.int .i64 b.out)).setCell ⟨g, k * 4 + 3, none⟩ (slV b.s)).ownsRow B t 4 (.slice (some ⟨g, 0, none⟩) n c) n ((L.set k b).flatMap Nd.cells) := by
  rw [← cells4_set hk b]
  exact (((((h.stored (k * 4) (.int .i64 b.bid)).1).stored (k * 4 + 1) (.int .i64 b.inn)).1.stored (k * 4 + 2) (.int .i64 b.out)).1.stored (k * 4 + 3) (slV b.s)).1
structure NdsR (w : World) (B t : Nat) (A : Option Addr) (n c : Nat) (N : List Nd) : Prop where
  len : N.length = n
  row : w.ownsRow B t 4 (.slice A n c) n (N.flatMap Nd.cells)
theorem NdsR.all {w w' : World} {B t n c : Nat} {A : Option Addr} {N : List Nd} (h : NdsR w B t A n c N) (hb : Below w.heap.size w w') : NdsR w' B t A n c N := ⟨h.len, own_keep h.row hb⟩
/-- Nodes read by their blocks' types: a change of blocks of other types leaves them. -/
structure NdsT (w : World) (s : Sl) (N : List Nd) : Prop where
  rows : Rows Nd.cells 4 w s N
  ty : 0 < s.2.1 → ∃ b off, s.1 = some ⟨b, off, none⟩ ∧ Ty w b 34
  ok : ∀ x ∈ N, TI w x.s x.prices
theorem NdsT.nds {w : World} {s : Sl} {N : List Nd} (h : NdsT w s N) : Nds w s N := ⟨h.rows, fun x hx => (h.ok x hx).nin⟩
theorem Ty.keep {w w' : World} {b : Nat} {t : TypeId} (h : Ty w b t) (hb : w'.heap[b]? = w.heap[b]?) : Ty w' b t := by
  obtain ⟨cs, fr, hh⟩ := h
  exact ⟨cs, fr, hb.trans hh⟩
theorem Ty.lt {w : World} {b : Nat} {t : TypeId} (h : Ty w b t) : b < w.heap.size := by
  obtain ⟨cs, fr, hh⟩ := h
  exact (Array.getElem?_eq_some_iff.1 hh).1
theorem NdsT.mod {w w' : World} {s : Sl} {N : List Nd} {F : Nat → Prop} (h : NdsT w s N) (m : Mod F w w') (hF : ∀ b, F b → ¬ Ty w b 3 ∧ ¬ Ty w b 34) : NdsT w' s N := by
  refine ⟨⟨h.rows.len, h.rows.cap, h.rows.max, fun h0 => ?_⟩, fun h0 => ?_, fun x hx => (h.ok x hx).mod m (fun b hb => (hF b hb).1)⟩
  · obtain ⟨b, off, e, hb, hc⟩ := h.rows.rd h0
    have h1 : 0 < s.2.1 := by
      have := h.rows.len
      omega
    obtain ⟨b2, off2, e2, ht⟩ := h.ty h1
    rw [e] at e2
    injection e2 with e2
    injection e2 with e2 e3 _
    subst e2 e3
    exact ⟨b, off, e, Nat.lt_of_lt_of_le hb m.size, fun j hj => (World.cell?_of_block (w := w) (m.block b hb (fun hf => (hF b hf).2 ht))).trans (hc j hj)⟩
  · obtain ⟨b, off, e, ht⟩ := h.ty h0
    exact ⟨b, off, e, ht.keep (m.block b ht.lt (fun hf => (hF b hf).2 ht))⟩
theorem NdsT.all {w w' : World} {s : Sl} {N : List Nd} (h : NdsT w s N) (hb : Below w.heap.size w w') : NdsT w' s N := h.mod (F := fun _ => False) (Mod.of_below _ hb) (fun _ hf => hf.elim)
theorem own_tyE {w : World} {B e size n c : Nat} {A : Option Addr} {xs : List Value} (h : w.ownsRow B e size (.slice A n c) n xs) (hn : 0 < n) : ∃ b off, A = some ⟨b, off, none⟩ ∧ Ty w b e := by
  obtain ⟨g, hg, -⟩ := own_some h hn
  subst hg
  exact ⟨g, 0, rfl, own_ty h rfl⟩
theorem NdsO.ndsT {w : World} {B k c : Nat} {A : Option Addr} {N : List Nd} (h : NdsO w B 34 A k c N) : NdsT w (A, k, c) N := ⟨h.nds.rows, fun h0 => own_tyE h.row h0, h.ok⟩
def nl0 : Nd := ⟨-1, 0, 0, (none, 0, 0), []⟩
def NdAlt (y : Nd) (n : Int) (x : Nd) : Prop := (x.bid = y.bid ∨ x.bid = n) ∧ (x.inn = y.inn ∨ x.inn = n) ∧ (x.out = y.out ∨ x.out = n) ∧ x.s.2.1 ≤ y.s.2.1 + 1 ∧ ∀ p ∈ x.prices, p ∈ y.prices ∨ p = n
theorem NdAlt.refl (y : Nd) (n : Int) : NdAlt y n y := ⟨.inl rfl, .inl rfl, .inl rfl, Nat.le_succ _, fun _ hp => .inl hp⟩
def NdsAlt (N : List Nd) (n : Int) (N' : List Nd) : Prop := ∀ x ∈ N', x = nl0 ∨ ∃ y ∈ N, NdAlt y n x
def Spoilt29Post (v : Int) (nn : Nat) (N : List Nd) (n : Int) (w : World) (e : Ending) (w' : World) : Prop := ∃ v' A' m' c' N', e = .returned (.agg #[.int .i64 v', .slice A' m' c']) ∧ m' ≤ nn + 1 ∧ NdsT w' (A', m', c') N' ∧ Below w.heap.size w w' ∧ NdsAlt N n N' ∧ (v' = v ∨ -9223372036854775808 ≤ v' ∧ v' ≤ 9223372036854775807)
theorem wrap_rng (x : Int) : -9223372036854775808 ≤ IntKind.i64.wrap x ∧ IntKind.i64.wrap x ≤ 9223372036854775807 := by
  rw [IntKind.wrap_i64]
  omega
theorem td6_ok (x : Int) (h1 : -9223372036854775808 ≤ x) (h2 : x ≤ 9223372036854775807) : -9223372036854775808 ≤ x.tdiv 6 ∧ x.tdiv 6 ≤ 9223372036854775807 := by
  rcases Int.le_total 0 x with h | h
  · have := td_ok x 6 h (by omega)
    omega
  · obtain ⟨y, hy⟩ : ∃ y, -x = y := ⟨_, rfl⟩
    obtain rfl : x = -y := by omega
    have := td_ok y 6 (by omega) (by omega)
    rw [Int.neg_tdiv]
    omega
set_option maxRecDepth 100000 in
set_option maxHeartbeats 16000000 in
theorem spoilt29_any (v : Int) (A : Option Addr) (nn c : Nat) (N : List Nd) (at_ how n : Int) (w : World) (HNT : Hid (NdsT w (A, nn, c) N)) (hnn : nn ≤ 10000) (HNS : Hid (∀ x ∈ N, x.s.2.1 ≤ 1000000)) (ha1 : -9223372036854775808 ≤ at_) (ha2 : at_ ≤ 9223372036854775807) (hh1 : -9223372036854775808 ≤ how) (hh2 : how ≤ 9223372036854775807) :
    Calls Try.prog 16 #[.agg #[.int .i64 v, .slice A nn c], .int .i64 at_, .int .i64 how, .int .i64 n] w (Spoilt29Post v nn N n w) := by
  have HN := Lib.hid HNT.out.nds
  have HNL := Lib.hid HN.out.rows.len
  dsimp only at HNL
  go_enter Try.func16, Try.ntmps16
  go_upto_region 2 with (fail)
  have hb0 := (((Below.refl w.heap.size w).alloc (Nat.le_refl _) (.cells #[.int .i64 v, .slice A nn c] 30)).alloc (by simp) (.cells #[.int .i64 0, .slice none 0 0] 30)).alloc (by simp; omega) (.cells #[.int .i64 v, .slice none 0 0] 30)
  have hk0 := Blk.alloc (Blk.alloc (Blk.new w 30 #[.int .i64 v, .slice A nn c]) (.cells #[.int .i64 0, .slice none 0 0] 30)) (.cells #[.int .i64 v, .slice none 0 0] 30)
  have hk1 := Blk.alloc (Blk.new (w.alloc (.cells #[.int .i64 v, .slice A nn c] 30)) 30 #[.int .i64 0, .slice none 0 0]) (.cells #[.int .i64 v, .slice none 0 0] 30)
  have hk2 := Blk.new ((w.alloc (.cells #[.int .i64 v, .slice A nn c] 30)).alloc (.cells #[.int .i64 0, .slice none 0 0] 30)) 30 #[.int .i64 v, .slice none 0 0]
  simp only [World.size_alloc] at hk1 hk2
  obtain ⟨w3, hw3⟩ : ∃ w3, ((w.alloc (.cells #[.int .i64 v, .slice A nn c] 30)).alloc (.cells #[.int .i64 0, .slice none 0 0] 30)).alloc (.cells #[.int .i64 v, .slice none 0 0] 30) = w3 := ⟨_, rfl⟩
  rw [hw3] at hb0 hk0 hk1 hk2 ⊢
  obtain ⟨gp, hgp⟩ : ∃ gp, w.heap.size = gp := ⟨_, rfl⟩
  rw [hgp] at hk0 hk1 hk2 ⊢
  obtain ⟨gr, hgr⟩ : ∃ gr, gp + 1 = gr := ⟨_, rfl⟩
  rw [hgr] at hk1 hk2 ⊢
  obtain ⟨go, hgo⟩ : ∃ go, gr + 1 = go := ⟨_, rfl⟩
  rw [hgo] at hk2 ⊢
  have HD1 : Hid (go ≠ gr ∧ gr ≠ go ∧ gp ≠ go ∧ gp ≠ gr) := Lib.hid (by omega)
  have HGB : Hid (w.heap.size ≤ gr ∧ w.heap.size ≤ go) := Lib.hid (by omega)
  have HLT : Hid (gr < w3.heap.size ∧ go < w3.heap.size) := Lib.hid ⟨hk1.lt, hk2.lt⟩
  have HB3 := Lib.hid hb0
  obtain ⟨A2, c2, w3', hr2, ho2, hb2⟩ := app_cells (w := w3) (base := w3.heap.size) (ty := 28) slT_rnode (World.ownsRow_nil w3 w3.heap.size _ 4) A nn c (N.flatMap Nd.cells) (by rw [flat_len Nd.cells_length, HNL.out]) (HN.out.rows.none_ (by decide)) ((HN.out.rows.all HB3.out).news Nd.cells_length) (by
    intro u hu
    obtain ⟨b, -, hb⟩ := List.mem_flatMap.1 hu
    simp [Nd.cells, slV] at hb
    rcases hb with rfl | rfl | rfl | rfl <;> rfl) (by omega) (by decide) (Nat.le_refl _)
  rw [Nat.zero_add] at hr2 ho2
  rw [List.nil_append] at ho2
  have HR2 := Lib.hid hr2
  have hk2' := hk2.all hb2
  have a0 := hk0.cell 1
  have a1 := hk2.cell 1
  have a2 := hk2'.cell 1
  have a3 := hk2'.frozen 1
  simp at a0 a1 a2
  have hr1 := hk1.all hb2
  have HN3 := HN.out.all HB3.out
  have HKP4 : Hid (Blk (w3'.setCell ⟨go, 1, none⟩ (.slice A2 nn c2)) gp 30 #[.int .i64 v, .slice A nn c]) := Lib.hid ((hk0.all hb2).far (p := ⟨go, 1, none⟩) HD1.out.2.2.1 _)
  have HKO4 : Hid (Blk (w3'.setCell ⟨go, 1, none⟩ (.slice A2 nn c2)) go 30 #[.int .i64 v, .slice A2 nn c2]) := Lib.hid (hk2'.set_ 1 _)
  have HKR4 : Hid (Blk (w3'.setCell ⟨go, 1, none⟩ (.slice A2 nn c2)) gr 30 #[.int .i64 0, .slice none 0 0]) := Lib.hid (hr1.far (p := ⟨go, 1, none⟩) HD1.out.2.1 _)
  have HN4 : Hid (NdsR (w3'.setCell ⟨go, 1, none⟩ (.slice A2 nn c2)) w3.heap.size 34 A2 nn c2 N) := Lib.hid ⟨HNL.out, ownsRow_setCell_below ho2 (by have := HLT.out.2; simpa using this) _⟩
  have HB4 : Hid (Below w.heap.size w (w3'.setCell ⟨go, 1, none⟩ (.slice A2 nn c2))) := Lib.hid ((bt HB3.out hb2).setCell HGB.out.2 _)
  have hs4 : w3.heap.size ≤ w3'.heap.size := hb2.size
  have HS4 : Hid (w3.heap.size ≤ (w3'.setCell ⟨go, 1, none⟩ (.slice A2 nn c2)).heap.size) := Lib.hid (by simpa [World.setCell] using hs4)
  clear hb0 hk0 hk1 hk2 hw3 hgp hgr hgo ho2 hb2 hk2' hr1 HN3 hs4
  go_wp2_with (at_builtin; refine wpList_append_run HR2.out (by rfl) (by rfl) (by rfl) (by rfl) ?_)
  clear a0 a1 a2 a3 HR2
  obtain ⟨w4, hw4⟩ : ∃ w4, w3'.setCell ⟨go, 1, none⟩ (.slice A2 nn c2) = w4 := ⟨_, rfl⟩
  rw [hw4] at HKP4 HKO4 HKR4 HN4 HB4 HS4 ⊢
  clear hw4
  refine (around_nat at_ (nn + 1) _ w4 (by omega) ha1 ha2 (by omega) (by omega)).mono ?_
  rintro e w4b ⟨k, rfl, hk, -, rfl⟩
  have g0 := HKO4.out.cell 0
  have g1 := HKO4.out.cell 1
  simp at g0 g1
  clear ha1 ha2
  by_cases hkn : k = nn
  · subst hkn
    have hq : ((k : Int) == (k : Int)) = true := by simp
    obtain ⟨A5, c5, w5, hr5, ho5, hb5, hg5⟩ := app_elem (w := w4) 28 slT_rnode HN4.out.row #[.int .i64 (-1), .int .i64 0, .int .i64 0, .slice none 0 0] rfl (by intro u hu; simp at hu; rcases hu with rfl | rfl | rfl | rfl <;> rfl) (by omega) (by decide) HS4.out
    have HR5 := Lib.hid hr5
    have hko5 := HKO4.out.below hb5 HLT.out.2
    have hkr5 := HKR4.out.below hb5 HLT.out.1
    have e1 := hko5.cell 1
    have e2 := hko5.frozen 1
    simp at e1
    have HKO6 : Hid (Blk (w5.setCell ⟨go, 1, none⟩ (.slice A5 (k + 1) c5)) go 30 #[.int .i64 v, .slice A5 (k + 1) c5]) := Lib.hid (hko5.set_ 1 _)
    have HKR6 : Hid (Blk (w5.setCell ⟨go, 1, none⟩ (.slice A5 (k + 1) c5)) gr 30 #[.int .i64 0, .slice none 0 0]) := Lib.hid (hkr5.far (p := ⟨go, 1, none⟩) HD1.out.2.1 _)
    have HN6 : Hid ((w5.setCell ⟨go, 1, none⟩ (.slice A5 (k + 1) c5)).ownsRow w3.heap.size 34 4 (.slice A5 (k + 1) c5) (k + 1) ((N ++ [nl0]).flatMap Nd.cells)) := Lib.hid (by
      rw [List.flatMap_append]
      exact ownsRow_setCell_below ho5 (by have := HLT.out.2; simpa using this) _)
    have HB6 : Hid (Below w.heap.size w (w5.setCell ⟨go, 1, none⟩ (.slice A5 (k + 1) c5))) := Lib.hid ((HB4.out.trans (hb5.mono HB3.out.size)).setCell HGB.out.2 _)
    clear hr5 ho5 hb5 hg5 hko5 hkr5
    go_wp2_with (at_builtin; refine wpList_append_run HR5.out (by rfl) (by rfl) (by rfl) (by rfl) ?_)
    clear e1 e2 HR5 g0 g1
    obtain ⟨w6, hw6⟩ : ∃ w6, w5.setCell ⟨go, 1, none⟩ (.slice A5 (k + 1) c5) = w6 := ⟨_, rfl⟩
    rw [hw6] at HKO6 HKR6 HN6 HB6 ⊢
    clear hw6
    refine (around_nat how 2 2 w6 (by rfl) hh1 hh2 (by omega) (by omega)).mono ?_
    rintro e w7 ⟨r, rfl, hr, -, rfl⟩
    have g0 := HKO6.out.cell 0
    have g1 := HKO6.out.cell 1
    have g2 := HKO6.out.frozen 0
    have r0 := HKR6.out.cell 0
    have r1 := HKR6.out.cell 1
    have r2 := HKR6.out.frozen 0
    have r3 := HKR6.out.frozen 1
    simp at g0 g1 r0 r1
    have hd1 := HD1.out.1
    have hd2 := HD1.out.2.1
    have HEND : Hid (∀ wf x, (x = v ∨ -9223372036854775808 ≤ x ∧ x ≤ 9223372036854775807) → Mod (fun b => b = go ∨ b = gr) w6 wf → Spoilt29Post v k N n w (.returned (.agg #[.int .i64 x, .slice A5 (k + 1) c5])) wf) := Lib.hid (fun wf x hx hm => by
      have hB : Below w.heap.size w wf := Mod.below HB6.out hm HB6.out.size (fun b hb => by rcases hb with rfl | rfl; exact HGB.out.2; exact HGB.out.1)
      have hrow := hm.own HN6.out (fun g hg hf => by
        have h1 := (HN6.out.lt g hg).1
        have h2 := HLT.out
        rcases hf with rfl | rfl <;> omega)
      exact ⟨x, A5, k + 1, c5, _, rfl, Nat.le_refl _, ⟨Rows.of_own Nd.cells_length hrow (by decide), fun h0 => own_tyE hrow h0, fun y hy => by
        rcases List.mem_append.1 hy with h | h
        · exact (HNT.out.ok y h).all hB
        · rw [List.mem_singleton] at h
          subst h
          exact TI.nil _⟩, hB, fun y hy => by
        rcases List.mem_append.1 hy with h | h
        · exact .inr ⟨y, h, NdAlt.refl _ _⟩
        · exact .inl (List.mem_singleton.1 h), hx⟩)
    by_cases hr0 : r = 0
    · subst hr0
      have hvr := wrap_rng (v + n)
      obtain ⟨vx, hvx⟩ : ∃ x, IntKind.i64.wrap (v + n) = x := ⟨_, rfl⟩
      rw [hvx] at hvr
      have HR9 := Lib.hid (((HKR6.out.far (p := ⟨go, 0, none⟩) HD1.out.2.1 (.int .i64 vx)).set_ 0 (.int .i64 vx)).set_ 1 (.slice A5 (k + 1) c5))
      have y0 := HR9.out.cell 0
      have y1 := HR9.out.cell 1
      simp at y0 y1
      have hm := Mod.set (F := fun b => b = go ∨ b = gr) (p := ⟨gr, 1, none⟩) (Mod.set (F := fun b => b = go ∨ b = gr) (p := ⟨gr, 0, none⟩) (Mod.set (F := fun b => b = go ∨ b = gr) (p := ⟨go, 0, none⟩) (Mod.refl _ w6) (.inl (.inl rfl)) (.int .i64 vx)) (.inl (.inr rfl)) (.int .i64 vx)) (.inl (.inr rfl)) (.slice A5 (k + 1) c5)
      have HF := Lib.hid (HEND.out _ vx (.inr hvr) hm)
      clear hm HEND hvr
      go_wp2
      exact bodyPost_ret (v := .agg #[.int .i64 vx, .slice A5 (k + 1) c5]) (by simp [results, Try.results16, go_sem, y0, y1]) rfl HF.out
    · have hr1' : ((r : Int) == 0) = false := by simp; omega
      clear hr0
      have HR9 := Lib.hid ((HKR6.out.set_ 0 (.int .i64 v)).set_ 1 (.slice A5 (k + 1) c5))
      have y0 := HR9.out.cell 0
      have y1 := HR9.out.cell 1
      simp at y0 y1
      have hm := Mod.set (F := fun b => b = go ∨ b = gr) (p := ⟨gr, 1, none⟩) (Mod.set (F := fun b => b = go ∨ b = gr) (p := ⟨gr, 0, none⟩) (Mod.refl _ w6) (.inl (.inr rfl)) (.int .i64 v)) (.inl (.inr rfl)) (.slice A5 (k + 1) c5)
      have HF := Lib.hid (HEND.out _ v (.inl rfl) hm)
      clear hm HEND
      go_wp2
      exact bodyPost_ret (v := .agg #[.int .i64 v, .slice A5 (k + 1) c5]) (by simp [results, Try.results16, go_sem, y0, y1]) rfl HF.out
  --@1
  have hkm : k < nn := by omega
  have hki : (k : Int) < (nn : Int) := by omega
  have hq : ((k : Int) == (nn : Int)) = false := by simp; omega
  obtain ⟨g, hg, hgB, hgl⟩ := own_some HN4.out.row (by omega)
  subst hg
  have hkl : k < N.length := by rw [HNL.out]; exact hkm
  have HND4 : Hid (Nds w4 (some ⟨g, 0, none⟩, nn, c2) N) := Lib.hid ⟨Rows.of_own Nd.cells_length HN4.out.row (by decide), fun b hb => (HN.out.ok b hb).all HB4.out⟩
  obtain ⟨b9, o9, hA9, hb9, p0, p1, p2, p3, pok⟩ := HND4.out.cell hkl
  dsimp only at hA9
  injection hA9 with hA9
  injection hA9 with hA9 hA10 _
  subst hA9 hA10
  rw [Nat.zero_add] at p0 p1 p2 p3
  have hsn := HNS.out _ (List.getElem_mem hkl)
  have how0 : (N[k]).ok w := HN.out.ok _ (List.getElem_mem hkl)
  have howt := HNT.out.ok _ (List.getElem_mem hkl)
  have hym : N[k] ∈ N := List.getElem_mem hkl
  obtain ⟨y, hy⟩ : ∃ y, N[k] = y := ⟨_, rfl⟩
  rw [hy] at p0 p1 p2 p3 pok hsn how0 hym howt
  clear hy
  obtain ⟨bi, iq, oq, ⟨sA, sn, sc⟩, ps⟩ := y
  unfold slV at p3
  dsimp only [Nd.ok] at p0 p1 p2 p3 pok hsn how0 howt
  have HOK := Lib.hid pok
  have HOW := Lib.hid howt
  have HKL := Lib.hid hkl
  have HYM := Lib.hid hym
  clear pok how0 hkl hym howt
  have f0 := HN4.out.row.frozenAt (k * 4)
  have f1 := HN4.out.row.frozenAt (k * 4 + 1)
  have f2 := HN4.out.row.frozenAt (k * 4 + 2)
  have f3 := HN4.out.row.frozenAt (k * 4 + 3)
  have HD2 : Hid (g ≠ gr ∧ gr ≠ g ∧ g ≠ go ∧ go ≠ g) := Lib.hid (by have := HLT.out; omega)
  have HPP := Lib.hid (And.intro p0 (And.intro p1 (And.intro p2 p3)))
  have HGW : Hid (w.heap.size ≤ g) := Lib.hid (Nat.le_trans HB3.out.size hgB)
  have HMD : Hid (∀ (wx : World) (x : Nd), Mod (fun b => b = g ∨ b = gr) wx (((((((wx).setCell ⟨g, k * 4, none⟩ (.int .i64 x.bid)).setCell ⟨g, k * 4 + 1, none⟩ (.int .i64 x.inn)).setCell ⟨g, k * 4 + 2, none⟩ (.int .i64 x.out)).setCell ⟨g, k * 4 + 3, none⟩ (slV x.s)).setCell ⟨gr, 0, none⟩ (.int .i64 v)).setCell ⟨gr, 1, none⟩ (.slice (some ⟨g, 0, none⟩) nn c2))) := Lib.hid (fun wx x => Mod.set (F := fun b => b = g ∨ b = gr) (p := ⟨gr, 1, none⟩) (Mod.set (F := fun b => b = g ∨ b = gr) (p := ⟨gr, 0, none⟩) (Mod.set (F := fun b => b = g ∨ b = gr) (p := ⟨g, k * 4 + 3, none⟩) (Mod.set (F := fun b => b = g ∨ b = gr) (p := ⟨g, k * 4 + 2, none⟩) (Mod.set (F := fun b => b = g ∨ b = gr) (p := ⟨g, k * 4 + 1, none⟩) (Mod.set (F := fun b => b = g ∨ b = gr) (p := ⟨g, k * 4, none⟩) (Mod.refl _ wx) (.inl (.inl rfl)) _) (.inl (.inl rfl)) _) (.inl (.inl rfl)) _) (.inl (.inl rfl)) _) (.inl (.inr rfl)) _) (.inl (.inr rfl)) _)
  have HBW : Hid (∀ wx wf, Below w4.heap.size w4 wx → Mod (fun b => b = g ∨ b = gr) wx wf → Below w.heap.size w wf) := Lib.hid (fun wx wf hbx hm => Mod.below (bt HB4.out hbx) hm (bt HB4.out hbx).size (fun b hb => by rcases hb with rfl | rfl; exact HGW.out; exact HGB.out.1))
  have HEND : Hid (∀ (wx : World) (x : Nd), Below w4.heap.size w4 wx → (∀ wf, Mod (fun b => b = g ∨ b = gr) wx wf → TI wf x.s x.prices) → NdAlt ⟨bi, iq, oq, (sA, sn, sc), ps⟩ n x → Spoilt29Post v nn N n w (.returned (.agg #[.int .i64 v, .slice (some ⟨g, 0, none⟩) nn c2])) (((((((wx).setCell ⟨g, k * 4, none⟩ (.int .i64 x.bid)).setCell ⟨g, k * 4 + 1, none⟩ (.int .i64 x.inn)).setCell ⟨g, k * 4 + 2, none⟩ (.int .i64 x.out)).setCell ⟨g, k * 4 + 3, none⟩ (slV x.s)).setCell ⟨gr, 0, none⟩ (.int .i64 v)).setCell ⟨gr, 1, none⟩ (.slice (some ⟨g, 0, none⟩) nn c2))) := Lib.hid (fun wx x hbx hok hal => by
    have hmod := HMD.out wx x
    have hbf := HBW.out wx _ hbx hmod
    have hrw := ownsRow_setCell_below (a := ⟨gr, 1, none⟩) (ownsRow_setCell_below (a := ⟨gr, 0, none⟩) (own_set4 (own_keep HN4.out.row hbx) HKL.out x) HLT.out.1 (.int .i64 v)) HLT.out.1 (.slice (some ⟨g, 0, none⟩) nn c2)
    refine ⟨v, some ⟨g, 0, none⟩, nn, c2, N.set k x, rfl, by omega, ⟨Rows.of_own (base := w3.heap.size) (e := 34) Nd.cells_length hrw (by decide), fun h0 => own_tyE hrw h0, fun b hb => ?_⟩, hbf, fun b hb => ?_, .inl rfl⟩
    · rcases List.mem_or_eq_of_mem_set hb with h | h
      · exact (HNT.out.ok b h).all hbf
      · rw [h]
        exact hok _ hmod
    · rcases List.mem_or_eq_of_mem_set hb with h | h
      · exact .inr ⟨b, h, NdAlt.refl _ _⟩
      · exact .inr ⟨_, HYM.out, by rw [h]; exact hal⟩)
  have HOLD : Hid (∀ wx, Below w4.heap.size w4 wx → ∀ wf, Mod (fun b => b = g ∨ b = gr) wx wf → TI wf (sA, sn, sc) ps) := Lib.hid (fun wx hbx wf hm => TI.all HOW.out (HBW.out wx wf hbx hm))
  have HTG : Hid (∀ wx, Below w4.heap.size w4 wx → ∀ b, (b = g ∨ b = gr) → ¬ Ty wx b 3) := Lib.hid (fun wx hbx b hb => by
    rcases hb with rfl | rfl
    · exact (own_ty (own_keep HN4.out.row hbx) rfl).not (by decide)
    · exact (HKR4.out.all hbx).ty.not (by decide))
  have HEQ : Hid (∀ (wx : World) (x : Nd), Below w4.heap.size w4 wx → ((((((((wx).setCell ⟨g, k * 4, none⟩ (.int .i64 x.bid)).setCell ⟨g, k * 4 + 1, none⟩ (.int .i64 x.inn)).setCell ⟨g, k * 4 + 2, none⟩ (.int .i64 x.out)).setCell ⟨g, k * 4 + 3, none⟩ (slV x.s)).setCell ⟨gr, 0, none⟩ (.int .i64 v)).setCell ⟨gr, 1, none⟩ (.slice (some ⟨g, 0, none⟩) nn c2))).cell? ⟨gr, 0, none⟩ = some (.int .i64 v) ∧ ((((((((wx).setCell ⟨g, k * 4, none⟩ (.int .i64 x.bid)).setCell ⟨g, k * 4 + 1, none⟩ (.int .i64 x.inn)).setCell ⟨g, k * 4 + 2, none⟩ (.int .i64 x.out)).setCell ⟨g, k * 4 + 3, none⟩ (slV x.s)).setCell ⟨gr, 0, none⟩ (.int .i64 v)).setCell ⟨gr, 1, none⟩ (.slice (some ⟨g, 0, none⟩) nn c2))).cell? ⟨gr, 1, none⟩ = some (.slice (some ⟨g, 0, none⟩) nn c2) ∧ True) := Lib.hid (fun wx x hbx => by
    have h := (((((((HKR4.out.all hbx).far (p := ⟨g, k * 4, none⟩) HD2.out.2.1 (.int .i64 x.bid)).far (p := ⟨g, k * 4 + 1, none⟩) HD2.out.2.1 (.int .i64 x.inn)).far (p := ⟨g, k * 4 + 2, none⟩) HD2.out.2.1 (.int .i64 x.out)).far (p := ⟨g, k * 4 + 3, none⟩) HD2.out.2.1 (slV x.s)).set_ 0 (.int .i64 v)).set_ 1 (.slice (some ⟨g, 0, none⟩) nn c2))
    exact ⟨by rw [h.cell 0]; rfl, by rw [h.cell 1]; rfl, trivial⟩)
  have HKR := HKR4
  have HKO := HKO4
  have HD3 := HD2
  obtain ⟨gx, hgx⟩ : ∃ gx, w4.heap.size = gx := ⟨_, rfl⟩
  have hgxg : g < gx := by omega
  have hcast := td6_ok how hh1 hh2
  go_wp2_with fail
  refine (around_nat how 6 6 _ (by rfl) hh1 hh2 (by omega) (by omega)).mono ?_
  rintro e w4b ⟨r, rfl, hr, -, rfl⟩
  clear hh1 hh2
  by_cases r0 : r = 0
  · as_aux_lemma =>
      subst r0
      have HXK : Hid (Blk (w4.alloc (.cells #[.int .i64 n, .int .i64 iq, .int .i64 oq, .slice sA sn sc] 34)) gx 34 #[.int .i64 n, .int .i64 iq, .int .i64 oq, .slice sA sn sc]) := Lib.hid (by rw [← hgx]; exact Blk.new _ _ _)
      have HXL : Hid (Below w4.heap.size w4 (w4.alloc (.cells #[.int .i64 n, .int .i64 iq, .int .i64 oq, .slice sA sn sc] 34))) := Lib.hid ((Below.refl _ _).alloc (Nat.le_refl _) _)
      go_upto_region 22 with (fail)
      obtain ⟨wx, hwx⟩ : ∃ wx, w4.alloc (.cells #[.int .i64 n, .int .i64 iq, .int .i64 oq, .slice sA sn sc] 34) = wx := ⟨_, rfl⟩
      have HXB : Hid (Blk wx gx 34 #[.int .i64 n, .int .i64 iq, .int .i64 oq, .slice sA sn sc]) := Lib.hid (by rw [← hwx]; exact HXK.out)
      have HXW : Hid (Below w4.heap.size w4 wx) := Lib.hid (by rw [← hwx]; exact HXL.out)
      have HOX := Lib.hid (HN4.out.all HXW.out)
      have HGO := Lib.hid (HKO.out.all HXW.out)
      have HGR := Lib.hid (HKR.out.all HXW.out)
      have HF := Lib.hid (HEND.out wx ⟨n, iq, oq, (sA, sn, sc), ps⟩ HXW.out (HOLD.out _ HXW.out) ⟨.inr rfl, .inl rfl, .inl rfl, Nat.le_succ _, fun _ hp => .inl hp⟩)
      unfold slV at HF
      dsimp only at HF
      rw [hwx]
      clear hwx HXK HXL p0 p1 p2 p3 f0 f1 f2 f3 g0 g1
      have x0 := HXB.out.cell 0
      have x1 := HXB.out.cell 1
      have x2 := HXB.out.cell 2
      have x3 := HXB.out.cell 3
      have g0 := HGO.out.cell 0
      have g1 := HGO.out.cell 1
      have r0 := HGR.out.cell 0
      have r1 := HGR.out.cell 1
      have r2 := HGR.out.frozen 0
      have r3 := HGR.out.frozen 1
      simp at x0 x1 x2 x3 g0 g1 r0 r1
      have p0 := (HXW.out.cell (p := ⟨g, k * 4, none⟩) hgl).trans HPP.out.1
      have p1 := (HXW.out.cell (p := ⟨g, k * 4 + 1, none⟩) hgl).trans HPP.out.2.1
      have p2 := (HXW.out.cell (p := ⟨g, k * 4 + 2, none⟩) hgl).trans HPP.out.2.2.1
      have p3 := (HXW.out.cell (p := ⟨g, k * 4 + 3, none⟩) hgl).trans HPP.out.2.2.2
      have f0 := HOX.out.row.frozenAt (k * 4)
      have f1 := HOX.out.row.frozenAt (k * 4 + 1)
      have f2 := HOX.out.row.frozenAt (k * 4 + 2)
      have f3 := HOX.out.row.frozenAt (k * 4 + 3)
      obtain ⟨hd1, hd2, -, -⟩ := HD1.out
      obtain ⟨hd3, hd4, hd5, hd6⟩ := HD2.out
      have HRZ := Lib.hid (HEQ.out wx ⟨n, iq, oq, (sA, sn, sc), ps⟩ HXW.out)
      unfold slV at HRZ
      dsimp only at HRZ
      clear HPP HXB HOX HEND HTG HOLD HEQ HMD HBW HND4 hgx hcast hr2 r0 r1 r2 r3
      go_upto_region 23 with (fail)
      clear x0 x1 x2 x3 p0 p1 p2 p3 f0 f1 f2 f3 g0 g1
      obtain ⟨wy, hwy⟩ : ∃ wy, (((((wx).setCell ⟨g, k * 4, none⟩ (.int .i64 n)).setCell ⟨g, k * 4 + 1, none⟩ (.int .i64 iq)).setCell ⟨g, k * 4 + 2, none⟩ (.int .i64 oq)).setCell ⟨g, k * 4 + 3, none⟩ (.slice sA sn sc)) = wy := ⟨_, rfl⟩
      have HGY : Hid (Blk wy go 30 #[.int .i64 v, .slice (some ⟨g, 0, none⟩) nn c2]) := Lib.hid (by rw [← hwy]; exact (((HGO.out.far (p := ⟨g, k * 4, none⟩) hd6 _).far (p := ⟨g, k * 4 + 1, none⟩) hd6 _).far (p := ⟨g, k * 4 + 2, none⟩) hd6 _).far (p := ⟨g, k * 4 + 3, none⟩) hd6 _)
      have HGZ : Hid (Blk wy gr 30 #[.int .i64 0, .slice none 0 0]) := Lib.hid (by rw [← hwy]; exact (((HGR.out.far (p := ⟨g, k * 4, none⟩) hd4 _).far (p := ⟨g, k * 4 + 1, none⟩) hd4 _).far (p := ⟨g, k * 4 + 2, none⟩) hd4 _).far (p := ⟨g, k * 4 + 3, none⟩) hd4 _)
      rw [hwy] at HF HRZ ⊢
      clear hwy HGO HGR
      have g0 := HGY.out.cell 0
      have g1 := HGY.out.cell 1
      have r0 := HGZ.out.cell 0
      have r1 := HGZ.out.cell 1
      have r2 := HGZ.out.frozen 0
      have r3 := HGZ.out.frozen 1
      simp at g0 g1 r0 r1
      go_wp2
      have y0 := HRZ.out.1
      have y1 := HRZ.out.2.1
      refine bodyPost_ret (v := .agg #[.int .i64 v, .slice (some ⟨g, 0, none⟩) nn c2]) (by simp [results, Try.results16, go_sem, y0, y1]) rfl HF.out
  by_cases r1 : r = 1
  · as_aux_lemma =>
      subst r1
      have HXK : Hid (Blk (w4.alloc (.cells #[.int .i64 bi, .int .i64 n, .int .i64 oq, .slice sA sn sc] 34)) gx 34 #[.int .i64 bi, .int .i64 n, .int .i64 oq, .slice sA sn sc]) := Lib.hid (by rw [← hgx]; exact Blk.new _ _ _)
      have HXL : Hid (Below w4.heap.size w4 (w4.alloc (.cells #[.int .i64 bi, .int .i64 n, .int .i64 oq, .slice sA sn sc] 34))) := Lib.hid ((Below.refl _ _).alloc (Nat.le_refl _) _)
      go_upto_region 22 with (fail)
      obtain ⟨wx, hwx⟩ : ∃ wx, w4.alloc (.cells #[.int .i64 bi, .int .i64 n, .int .i64 oq, .slice sA sn sc] 34) = wx := ⟨_, rfl⟩
      have HXB : Hid (Blk wx gx 34 #[.int .i64 bi, .int .i64 n, .int .i64 oq, .slice sA sn sc]) := Lib.hid (by rw [← hwx]; exact HXK.out)
      have HXW : Hid (Below w4.heap.size w4 wx) := Lib.hid (by rw [← hwx]; exact HXL.out)
      have HOX := Lib.hid (HN4.out.all HXW.out)
      have HGO := Lib.hid (HKO.out.all HXW.out)
      have HGR := Lib.hid (HKR.out.all HXW.out)
      have HF := Lib.hid (HEND.out wx ⟨bi, n, oq, (sA, sn, sc), ps⟩ HXW.out (HOLD.out _ HXW.out) ⟨.inl rfl, .inr rfl, .inl rfl, Nat.le_succ _, fun _ hp => .inl hp⟩)
      unfold slV at HF
      dsimp only at HF
      rw [hwx]
      clear hwx HXK HXL p0 p1 p2 p3 f0 f1 f2 f3 g0 g1
      have x0 := HXB.out.cell 0
      have x1 := HXB.out.cell 1
      have x2 := HXB.out.cell 2
      have x3 := HXB.out.cell 3
      have g0 := HGO.out.cell 0
      have g1 := HGO.out.cell 1
      have r0 := HGR.out.cell 0
      have r1 := HGR.out.cell 1
      have r2 := HGR.out.frozen 0
      have r3 := HGR.out.frozen 1
      simp at x0 x1 x2 x3 g0 g1 r0 r1
      have p0 := (HXW.out.cell (p := ⟨g, k * 4, none⟩) hgl).trans HPP.out.1
      have p1 := (HXW.out.cell (p := ⟨g, k * 4 + 1, none⟩) hgl).trans HPP.out.2.1
      have p2 := (HXW.out.cell (p := ⟨g, k * 4 + 2, none⟩) hgl).trans HPP.out.2.2.1
      have p3 := (HXW.out.cell (p := ⟨g, k * 4 + 3, none⟩) hgl).trans HPP.out.2.2.2
      have f0 := HOX.out.row.frozenAt (k * 4)
      have f1 := HOX.out.row.frozenAt (k * 4 + 1)
      have f2 := HOX.out.row.frozenAt (k * 4 + 2)
      have f3 := HOX.out.row.frozenAt (k * 4 + 3)
      obtain ⟨hd1, hd2, -, -⟩ := HD1.out
      obtain ⟨hd3, hd4, hd5, hd6⟩ := HD2.out
      have HRZ := Lib.hid (HEQ.out wx ⟨bi, n, oq, (sA, sn, sc), ps⟩ HXW.out)
      unfold slV at HRZ
      dsimp only at HRZ
      clear HPP HXB HOX HEND HTG HOLD HEQ HMD HBW HND4 hgx hcast hr2 r0 r1 r2 r3
      go_upto_region 23 with (fail)
      clear x0 x1 x2 x3 p0 p1 p2 p3 f0 f1 f2 f3 g0 g1
      obtain ⟨wy, hwy⟩ : ∃ wy, (((((wx).setCell ⟨g, k * 4, none⟩ (.int .i64 bi)).setCell ⟨g, k * 4 + 1, none⟩ (.int .i64 n)).setCell ⟨g, k * 4 + 2, none⟩ (.int .i64 oq)).setCell ⟨g, k * 4 + 3, none⟩ (.slice sA sn sc)) = wy := ⟨_, rfl⟩
      have HGY : Hid (Blk wy go 30 #[.int .i64 v, .slice (some ⟨g, 0, none⟩) nn c2]) := Lib.hid (by rw [← hwy]; exact (((HGO.out.far (p := ⟨g, k * 4, none⟩) hd6 _).far (p := ⟨g, k * 4 + 1, none⟩) hd6 _).far (p := ⟨g, k * 4 + 2, none⟩) hd6 _).far (p := ⟨g, k * 4 + 3, none⟩) hd6 _)
      have HGZ : Hid (Blk wy gr 30 #[.int .i64 0, .slice none 0 0]) := Lib.hid (by rw [← hwy]; exact (((HGR.out.far (p := ⟨g, k * 4, none⟩) hd4 _).far (p := ⟨g, k * 4 + 1, none⟩) hd4 _).far (p := ⟨g, k * 4 + 2, none⟩) hd4 _).far (p := ⟨g, k * 4 + 3, none⟩) hd4 _)
      rw [hwy] at HF HRZ ⊢
      clear hwy HGO HGR
      have g0 := HGY.out.cell 0
      have g1 := HGY.out.cell 1
      have r0 := HGZ.out.cell 0
      have r1 := HGZ.out.cell 1
      have r2 := HGZ.out.frozen 0
      have r3 := HGZ.out.frozen 1
      simp at g0 g1 r0 r1
      go_wp2
      have y0 := HRZ.out.1
      have y1 := HRZ.out.2.1
      refine bodyPost_ret (v := .agg #[.int .i64 v, .slice (some ⟨g, 0, none⟩) nn c2]) (by simp [results, Try.results16, go_sem, y0, y1]) rfl HF.out
  by_cases r2 : r = 2
  · as_aux_lemma =>
      subst r2
      have HXK : Hid (Blk (w4.alloc (.cells #[.int .i64 bi, .int .i64 iq, .int .i64 n, .slice sA sn sc] 34)) gx 34 #[.int .i64 bi, .int .i64 iq, .int .i64 n, .slice sA sn sc]) := Lib.hid (by rw [← hgx]; exact Blk.new _ _ _)
      have HXL : Hid (Below w4.heap.size w4 (w4.alloc (.cells #[.int .i64 bi, .int .i64 iq, .int .i64 n, .slice sA sn sc] 34))) := Lib.hid ((Below.refl _ _).alloc (Nat.le_refl _) _)
      go_upto_region 22 with (fail)
      obtain ⟨wx, hwx⟩ : ∃ wx, w4.alloc (.cells #[.int .i64 bi, .int .i64 iq, .int .i64 n, .slice sA sn sc] 34) = wx := ⟨_, rfl⟩
      have HXB : Hid (Blk wx gx 34 #[.int .i64 bi, .int .i64 iq, .int .i64 n, .slice sA sn sc]) := Lib.hid (by rw [← hwx]; exact HXK.out)
      have HXW : Hid (Below w4.heap.size w4 wx) := Lib.hid (by rw [← hwx]; exact HXL.out)
      have HOX := Lib.hid (HN4.out.all HXW.out)
      have HGO := Lib.hid (HKO.out.all HXW.out)
      have HGR := Lib.hid (HKR.out.all HXW.out)
      have HF := Lib.hid (HEND.out wx ⟨bi, iq, n, (sA, sn, sc), ps⟩ HXW.out (HOLD.out _ HXW.out) ⟨.inl rfl, .inl rfl, .inr rfl, Nat.le_succ _, fun _ hp => .inl hp⟩)
      unfold slV at HF
      dsimp only at HF
      rw [hwx]
      clear hwx HXK HXL p0 p1 p2 p3 f0 f1 f2 f3 g0 g1
      have x0 := HXB.out.cell 0
      have x1 := HXB.out.cell 1
      have x2 := HXB.out.cell 2
      have x3 := HXB.out.cell 3
      have g0 := HGO.out.cell 0
      have g1 := HGO.out.cell 1
      have r0 := HGR.out.cell 0
      have r1 := HGR.out.cell 1
      have r2 := HGR.out.frozen 0
      have r3 := HGR.out.frozen 1
      simp at x0 x1 x2 x3 g0 g1 r0 r1
      have p0 := (HXW.out.cell (p := ⟨g, k * 4, none⟩) hgl).trans HPP.out.1
      have p1 := (HXW.out.cell (p := ⟨g, k * 4 + 1, none⟩) hgl).trans HPP.out.2.1
      have p2 := (HXW.out.cell (p := ⟨g, k * 4 + 2, none⟩) hgl).trans HPP.out.2.2.1
      have p3 := (HXW.out.cell (p := ⟨g, k * 4 + 3, none⟩) hgl).trans HPP.out.2.2.2
      have f0 := HOX.out.row.frozenAt (k * 4)
      have f1 := HOX.out.row.frozenAt (k * 4 + 1)
      have f2 := HOX.out.row.frozenAt (k * 4 + 2)
      have f3 := HOX.out.row.frozenAt (k * 4 + 3)
      obtain ⟨hd1, hd2, -, -⟩ := HD1.out
      obtain ⟨hd3, hd4, hd5, hd6⟩ := HD2.out
      have HRZ := Lib.hid (HEQ.out wx ⟨bi, iq, n, (sA, sn, sc), ps⟩ HXW.out)
      unfold slV at HRZ
      dsimp only at HRZ
      clear HPP HXB HOX HEND HTG HOLD HEQ HMD HBW HND4 hgx hcast hr2 r0 r1 r2 r3
      go_upto_region 23 with (fail)
      clear x0 x1 x2 x3 p0 p1 p2 p3 f0 f1 f2 f3 g0 g1
      obtain ⟨wy, hwy⟩ : ∃ wy, (((((wx).setCell ⟨g, k * 4, none⟩ (.int .i64 bi)).setCell ⟨g, k * 4 + 1, none⟩ (.int .i64 iq)).setCell ⟨g, k * 4 + 2, none⟩ (.int .i64 n)).setCell ⟨g, k * 4 + 3, none⟩ (.slice sA sn sc)) = wy := ⟨_, rfl⟩
      have HGY : Hid (Blk wy go 30 #[.int .i64 v, .slice (some ⟨g, 0, none⟩) nn c2]) := Lib.hid (by rw [← hwy]; exact (((HGO.out.far (p := ⟨g, k * 4, none⟩) hd6 _).far (p := ⟨g, k * 4 + 1, none⟩) hd6 _).far (p := ⟨g, k * 4 + 2, none⟩) hd6 _).far (p := ⟨g, k * 4 + 3, none⟩) hd6 _)
      have HGZ : Hid (Blk wy gr 30 #[.int .i64 0, .slice none 0 0]) := Lib.hid (by rw [← hwy]; exact (((HGR.out.far (p := ⟨g, k * 4, none⟩) hd4 _).far (p := ⟨g, k * 4 + 1, none⟩) hd4 _).far (p := ⟨g, k * 4 + 2, none⟩) hd4 _).far (p := ⟨g, k * 4 + 3, none⟩) hd4 _)
      rw [hwy] at HF HRZ ⊢
      clear hwy HGO HGR
      have g0 := HGY.out.cell 0
      have g1 := HGY.out.cell 1
      have r0 := HGZ.out.cell 0
      have r1 := HGZ.out.cell 1
      have r2 := HGZ.out.frozen 0
      have r3 := HGZ.out.frozen 1
      simp at g0 g1 r0 r1
      go_wp2
      have y0 := HRZ.out.1
      have y1 := HRZ.out.2.1
      refine bodyPost_ret (v := .agg #[.int .i64 v, .slice (some ⟨g, 0, none⟩) nn c2]) (by simp [results, Try.results16, go_sem, y0, y1]) rfl HF.out
  by_cases r3 : r = 3
  · as_aux_lemma =>
      subst r3
      have hk0 := Blk.new w4 34 #[.int .i64 bi, .int .i64 iq, .int .i64 oq, .slice sA sn sc]
      rw [hgx] at hk0
      obtain ⟨wa, hwa⟩ : ∃ wa, w4.alloc (.cells #[.int .i64 bi, .int .i64 iq, .int .i64 oq, .slice sA sn sc] 34) = wa := ⟨_, rfl⟩
      have hba : Below w4.heap.size w4 wa := by rw [← hwa]; exact (Below.refl _ _).alloc (Nat.le_refl _) _
      have hza : wa.heap.size = gx + 1 := by rw [← hwa, World.size_alloc, hgx]
      rw [hwa] at hk0 ⊢
      clear hwa
      have hlit := own_lit wa (gx + 1) 3 1 0 #[] rfl (by omega) (by omega)
      have hlb : Below w4.heap.size w4 (wa.alloc (.cells #[] 3)) := hba.alloc (by omega) _
      obtain ⟨A5, c5, w5, hr5, ho5, hb5⟩ := app_cells (w := wa.alloc (.cells #[] 3)) (ty := 22) slT_ints hlit sA sn sc (ps.map (Value.int .i64)) (by rw [List.length_map, HOK.out.len]; simp) (NIn.none_ HOK.out) (NIn.news (NIn.all HOK.out hlb)) (by
        intro u hu
        obtain ⟨x, -, rfl⟩ := List.mem_map.1 hu
        rfl) (by omega) (by decide) (by simp; omega)
      rw [Nat.zero_add] at hr5 ho5
      have ho5' : OwnI w5 (gx + 1) A5 sn c5 ps := by simpa [OwnI] using ho5
      have hba5 : Below (gx + 1) wa w5 := ((Below.refl (gx + 1) wa).alloc (by omega) _).trans hb5
      have hk5 := hk0.below hba5 (by omega)
      have HK0 := Lib.hid hk0
      have HR5 : Hid ((Builtin.append_ #[22, 22] 22 #[.slice (some ⟨gx + 1, 0, none⟩) 0 0, .slice sA sn sc]).run Try.prog (wa.alloc (.cells #[] 3)) = .ok (.slice A5 sn c5) w5) := Lib.hid (by rw [← hza]; exact hr5)
      obtain ⟨A6, c6, w6, hr6, ho6, hb6⟩ := app_int (w := w5) 22 n ho5' (by omega) (by have := hba5.size; omega)
      have hk6 := hk5.below hb6 (by omega)
      have HR6 := Lib.hid hr6
      have hbx : Below w4.heap.size w4 w6 := hba.trans ((hba5.trans hb6).mono (by omega))
      have HXK : Hid (Blk (w6.setCell ⟨gx, 3, none⟩ (.slice A6 (sn + 1) c6)) gx 34 #[.int .i64 bi, .int .i64 iq, .int .i64 oq, .slice A6 (sn + 1) c6]) := Lib.hid (hk6.set_ 3 _)
      have HXL : Hid (Below w4.heap.size w4 (w6.setCell ⟨gx, 3, none⟩ (.slice A6 (sn + 1) c6))) := Lib.hid (hbx.setCell (by rw [hgx]; exact Nat.le_refl _) _)
      have HTI : Hid (TI (w6.setCell ⟨gx, 3, none⟩ (.slice A6 (sn + 1) c6)) (A6, sn + 1, c6) (ps ++ [n])) := Lib.hid (TI.own (B := gx + 1) (ownsRow_setCell_below ho6 (by simp) _))
      have q2 := (hk0.alloc (.cells #[] 3)).cell 3
      have q3 := hk6.cell 3
      have q4 := hk6.frozen 3
      simp at q2 q3
      have hgw : gx < wa.heap.size := by omega
      clear hk0 hlit hlb hr5 ho5 ho5' hba5 hk5 hr6 ho6 hb6 hk6 hb5 hbx hba
      go_upto_region 22 with (first | (at_builtin; refine wpList_append_run HR5.out (by rfl) (by rfl) (by rfl) (by rfl) ?_; clear HR5) | (at_builtin; refine wpList_append_run HR6.out (by rfl) (by rfl) (by rfl) (by rfl) ?_; clear HR6))
      clear q2 q3 q4
      obtain ⟨wx, hwx⟩ : ∃ wx, w6.setCell ⟨gx, 3, none⟩ (.slice A6 (sn + 1) c6) = wx := ⟨_, rfl⟩
      have HXB : Hid (Blk wx gx 34 #[.int .i64 bi, .int .i64 iq, .int .i64 oq, .slice A6 (sn + 1) c6]) := Lib.hid (by rw [← hwx]; exact HXK.out)
      have HXW : Hid (Below w4.heap.size w4 wx) := Lib.hid (by rw [← hwx]; exact HXL.out)
      have HTX := HTI
      rw [hwx] at HTX
      have HOX := Lib.hid (HN4.out.all HXW.out)
      have HGO := Lib.hid (HKO.out.all HXW.out)
      have HGR := Lib.hid (HKR.out.all HXW.out)
      have HF := Lib.hid (HEND.out wx ⟨bi, iq, oq, (A6, sn + 1, c6), ps ++ [n]⟩ HXW.out (fun wf hm => (HTX.out.mod hm (fun b hb => HTG.out _ HXW.out b hb))) ⟨.inl rfl, .inl rfl, .inl rfl, Nat.le_refl _, fun p hp => by simpa [List.mem_append] using hp⟩)
      unfold slV at HF
      dsimp only at HF
      rw [hwx]
      clear hwx HXK HXL p0 p1 p2 p3 f0 f1 f2 f3 g0 g1
      have x0 := HXB.out.cell 0
      have x1 := HXB.out.cell 1
      have x2 := HXB.out.cell 2
      have x3 := HXB.out.cell 3
      have g0 := HGO.out.cell 0
      have g1 := HGO.out.cell 1
      have r0 := HGR.out.cell 0
      have r1 := HGR.out.cell 1
      have r2 := HGR.out.frozen 0
      have r3 := HGR.out.frozen 1
      simp at x0 x1 x2 x3 g0 g1 r0 r1
      have p0 := (HXW.out.cell (p := ⟨g, k * 4, none⟩) hgl).trans HPP.out.1
      have p1 := (HXW.out.cell (p := ⟨g, k * 4 + 1, none⟩) hgl).trans HPP.out.2.1
      have p2 := (HXW.out.cell (p := ⟨g, k * 4 + 2, none⟩) hgl).trans HPP.out.2.2.1
      have p3 := (HXW.out.cell (p := ⟨g, k * 4 + 3, none⟩) hgl).trans HPP.out.2.2.2
      have f0 := HOX.out.row.frozenAt (k * 4)
      have f1 := HOX.out.row.frozenAt (k * 4 + 1)
      have f2 := HOX.out.row.frozenAt (k * 4 + 2)
      have f3 := HOX.out.row.frozenAt (k * 4 + 3)
      obtain ⟨hd1, hd2, -, -⟩ := HD1.out
      obtain ⟨hd3, hd4, hd5, hd6⟩ := HD2.out
      have HRZ := Lib.hid (HEQ.out wx ⟨bi, iq, oq, (A6, sn + 1, c6), ps ++ [n]⟩ HXW.out)
      unfold slV at HRZ
      dsimp only at HRZ
      clear HPP HXB HOX HEND HTG HOLD HEQ HMD HBW HND4 hgx hcast hr2 r0 r1 r2 r3
      go_upto_region 23 with (fail)
      clear x0 x1 x2 x3 p0 p1 p2 p3 f0 f1 f2 f3 g0 g1
      obtain ⟨wy, hwy⟩ : ∃ wy, (((((wx).setCell ⟨g, k * 4, none⟩ (.int .i64 bi)).setCell ⟨g, k * 4 + 1, none⟩ (.int .i64 iq)).setCell ⟨g, k * 4 + 2, none⟩ (.int .i64 oq)).setCell ⟨g, k * 4 + 3, none⟩ (.slice A6 (sn + 1) c6)) = wy := ⟨_, rfl⟩
      have HGY : Hid (Blk wy go 30 #[.int .i64 v, .slice (some ⟨g, 0, none⟩) nn c2]) := Lib.hid (by rw [← hwy]; exact (((HGO.out.far (p := ⟨g, k * 4, none⟩) hd6 _).far (p := ⟨g, k * 4 + 1, none⟩) hd6 _).far (p := ⟨g, k * 4 + 2, none⟩) hd6 _).far (p := ⟨g, k * 4 + 3, none⟩) hd6 _)
      have HGZ : Hid (Blk wy gr 30 #[.int .i64 0, .slice none 0 0]) := Lib.hid (by rw [← hwy]; exact (((HGR.out.far (p := ⟨g, k * 4, none⟩) hd4 _).far (p := ⟨g, k * 4 + 1, none⟩) hd4 _).far (p := ⟨g, k * 4 + 2, none⟩) hd4 _).far (p := ⟨g, k * 4 + 3, none⟩) hd4 _)
      rw [hwy] at HF HRZ ⊢
      clear hwy HGO HGR
      have g0 := HGY.out.cell 0
      have g1 := HGY.out.cell 1
      have r0 := HGZ.out.cell 0
      have r1 := HGZ.out.cell 1
      have r2 := HGZ.out.frozen 0
      have r3 := HGZ.out.frozen 1
      simp at g0 g1 r0 r1
      go_wp2
      have y0 := HRZ.out.1
      have y1 := HRZ.out.2.1
      refine bodyPost_ret (v := .agg #[.int .i64 v, .slice (some ⟨g, 0, none⟩) nn c2]) (by simp [results, Try.results16, go_sem, y0, y1]) rfl HF.out
  have hr0 : ((r : Int) == 0) = false := by simp; omega
  have hr1 : ((r : Int) == 1) = false := by simp; omega
  have hr2 : ((r : Int) == 2) = false := by simp; omega
  have hr3 : ((r : Int) == 3) = false := by simp; omega
  clear r0 r1 r2 r3 hr
  by_cases hs0 : sn = 0
  · as_aux_lemma =>
      subst hs0
      have HXK : Hid (Blk (w4.alloc (.cells #[.int .i64 bi, .int .i64 iq, .int .i64 oq, .slice sA 0 sc] 34)) gx 34 #[.int .i64 bi, .int .i64 iq, .int .i64 oq, .slice sA 0 sc]) := Lib.hid (by rw [← hgx]; exact Blk.new _ _ _)
      have HXL : Hid (Below w4.heap.size w4 (w4.alloc (.cells #[.int .i64 bi, .int .i64 iq, .int .i64 oq, .slice sA 0 sc] 34))) := Lib.hid ((Below.refl _ _).alloc (Nat.le_refl _) _)
      go_upto_region 22 with (fail)
      obtain ⟨wx, hwx⟩ : ∃ wx, w4.alloc (.cells #[.int .i64 bi, .int .i64 iq, .int .i64 oq, .slice sA 0 sc] 34) = wx := ⟨_, rfl⟩
      have HXB : Hid (Blk wx gx 34 #[.int .i64 bi, .int .i64 iq, .int .i64 oq, .slice sA 0 sc]) := Lib.hid (by rw [← hwx]; exact HXK.out)
      have HXW : Hid (Below w4.heap.size w4 wx) := Lib.hid (by rw [← hwx]; exact HXL.out)
      have HOX := Lib.hid (HN4.out.all HXW.out)
      have HGO := Lib.hid (HKO.out.all HXW.out)
      have HGR := Lib.hid (HKR.out.all HXW.out)
      have HF := Lib.hid (HEND.out wx ⟨bi, iq, oq, (sA, 0, sc), ps⟩ HXW.out (HOLD.out _ HXW.out) (NdAlt.refl _ _))
      unfold slV at HF
      dsimp only at HF
      rw [hwx]
      clear hwx HXK HXL p0 p1 p2 p3 f0 f1 f2 f3 g0 g1
      have x0 := HXB.out.cell 0
      have x1 := HXB.out.cell 1
      have x2 := HXB.out.cell 2
      have x3 := HXB.out.cell 3
      have g0 := HGO.out.cell 0
      have g1 := HGO.out.cell 1
      have r0 := HGR.out.cell 0
      have r1 := HGR.out.cell 1
      have r2 := HGR.out.frozen 0
      have r3 := HGR.out.frozen 1
      simp at x0 x1 x2 x3 g0 g1 r0 r1
      have p0 := (HXW.out.cell (p := ⟨g, k * 4, none⟩) hgl).trans HPP.out.1
      have p1 := (HXW.out.cell (p := ⟨g, k * 4 + 1, none⟩) hgl).trans HPP.out.2.1
      have p2 := (HXW.out.cell (p := ⟨g, k * 4 + 2, none⟩) hgl).trans HPP.out.2.2.1
      have p3 := (HXW.out.cell (p := ⟨g, k * 4 + 3, none⟩) hgl).trans HPP.out.2.2.2
      have f0 := HOX.out.row.frozenAt (k * 4)
      have f1 := HOX.out.row.frozenAt (k * 4 + 1)
      have f2 := HOX.out.row.frozenAt (k * 4 + 2)
      have f3 := HOX.out.row.frozenAt (k * 4 + 3)
      obtain ⟨hd1, hd2, -, -⟩ := HD1.out
      obtain ⟨hd3, hd4, hd5, hd6⟩ := HD2.out
      have HRZ := Lib.hid (HEQ.out wx ⟨bi, iq, oq, (sA, 0, sc), ps⟩ HXW.out)
      unfold slV at HRZ
      dsimp only at HRZ
      clear HPP HXB HOX HEND HTG HOLD HEQ HMD HBW HND4 hgx hcast hr2 r0 r1 r2 r3
      go_upto_region 23 with (fail)
      clear x0 x1 x2 x3 p0 p1 p2 p3 f0 f1 f2 f3 g0 g1
      obtain ⟨wy, hwy⟩ : ∃ wy, (((((wx).setCell ⟨g, k * 4, none⟩ (.int .i64 bi)).setCell ⟨g, k * 4 + 1, none⟩ (.int .i64 iq)).setCell ⟨g, k * 4 + 2, none⟩ (.int .i64 oq)).setCell ⟨g, k * 4 + 3, none⟩ (.slice sA 0 sc)) = wy := ⟨_, rfl⟩
      have HGY : Hid (Blk wy go 30 #[.int .i64 v, .slice (some ⟨g, 0, none⟩) nn c2]) := Lib.hid (by rw [← hwy]; exact (((HGO.out.far (p := ⟨g, k * 4, none⟩) hd6 _).far (p := ⟨g, k * 4 + 1, none⟩) hd6 _).far (p := ⟨g, k * 4 + 2, none⟩) hd6 _).far (p := ⟨g, k * 4 + 3, none⟩) hd6 _)
      have HGZ : Hid (Blk wy gr 30 #[.int .i64 0, .slice none 0 0]) := Lib.hid (by rw [← hwy]; exact (((HGR.out.far (p := ⟨g, k * 4, none⟩) hd4 _).far (p := ⟨g, k * 4 + 1, none⟩) hd4 _).far (p := ⟨g, k * 4 + 2, none⟩) hd4 _).far (p := ⟨g, k * 4 + 3, none⟩) hd4 _)
      rw [hwy] at HF HRZ ⊢
      clear hwy HGO HGR
      have g0 := HGY.out.cell 0
      have g1 := HGY.out.cell 1
      have r0 := HGZ.out.cell 0
      have r1 := HGZ.out.cell 1
      have r2 := HGZ.out.frozen 0
      have r3 := HGZ.out.frozen 1
      simp at g0 g1 r0 r1
      go_wp2
      have y0 := HRZ.out.1
      have y1 := HRZ.out.2.1
      refine bodyPost_ret (v := .agg #[.int .i64 v, .slice (some ⟨g, 0, none⟩) nn c2]) (by simp [results, Try.results16, go_sem, y0, y1]) rfl HF.out
  · as_aux_lemma =>
      have hsn1 : 0 < sn := by omega
      obtain ⟨kq, hkq⟩ : ∃ q, how.tdiv 6 = q := ⟨_, rfl⟩
      rw [hkq] at hcast
      obtain ⟨hkq1, hkq2⟩ := hcast
      have hkw : IntKind.i64.wrap kq = kq := by rw [IntKind.wrap_i64]; omega
      have hk0 := Blk.new w4 34 #[.int .i64 bi, .int .i64 iq, .int .i64 oq, .slice sA sn sc]
      rw [hgx] at hk0
      obtain ⟨wa, hwa⟩ : ∃ wa, w4.alloc (.cells #[.int .i64 bi, .int .i64 iq, .int .i64 oq, .slice sA sn sc] 34) = wa := ⟨_, rfl⟩
      have hba : Below w4.heap.size w4 wa := by rw [← hwa]; exact (Below.refl _ _).alloc (Nat.le_refl _) _
      have hza : wa.heap.size = gx + 1 := by rw [← hwa, World.size_alloc, hgx]
      rw [hwa] at hk0 ⊢
      clear hwa
      have hlit := own_lit wa (gx + 1) 3 1 0 #[] rfl (by omega) (by omega)
      have hlb : Below w4.heap.size w4 (wa.alloc (.cells #[] 3)) := hba.alloc (by omega) _
      obtain ⟨A5, c5, w5, hr5, ho5, hb5⟩ := app_cells (w := wa.alloc (.cells #[] 3)) (ty := 22) slT_ints hlit sA sn sc (ps.map (Value.int .i64)) (by rw [List.length_map, HOK.out.len]; simp) (NIn.none_ HOK.out) (NIn.news (NIn.all HOK.out hlb)) (by
        intro u hu
        obtain ⟨x, -, rfl⟩ := List.mem_map.1 hu
        rfl) (by omega) (by decide) (by simp; omega)
      rw [Nat.zero_add] at hr5 ho5
      have ho5' : OwnI w5 (gx + 1) A5 sn c5 ps := by simpa [OwnI] using ho5
      have hba5 : Below (gx + 1) wa w5 := ((Below.refl (gx + 1) wa).alloc (by omega) _).trans hb5
      have hk5 := hk0.below hba5 (by omega)
      have HK0 := Lib.hid hk0
      have HR5 : Hid ((Builtin.append_ #[22, 22] 22 #[.slice (some ⟨gx + 1, 0, none⟩) 0 0, .slice sA sn sc]).run Try.prog (wa.alloc (.cells #[] 3)) = .ok (.slice A5 sn c5) w5) := Lib.hid (by rw [← hza]; exact hr5)
      obtain ⟨g5, hg5, hg51, hg52⟩ := own_some ho5' (by omega)
      subst hg5
      have hbx : Below w4.heap.size w4 w5 := hba.trans (hba5.mono (by omega))
      have HXL5 : Hid (Below w4.heap.size w4 (w5.setCell ⟨gx, 3, none⟩ (.slice (some ⟨g5, 0, none⟩) sn c5))) := Lib.hid (hbx.setCell (by rw [hgx]; exact Nat.le_refl _) _)
      have HXK5 : Hid (Blk (w5.setCell ⟨gx, 3, none⟩ (.slice (some ⟨g5, 0, none⟩) sn c5)) gx 34 #[.int .i64 bi, .int .i64 iq, .int .i64 oq, .slice (some ⟨g5, 0, none⟩) sn c5]) := Lib.hid (hk5.set_ 3 _)
      have HO5 : Hid (OwnI (w5.setCell ⟨gx, 3, none⟩ (.slice (some ⟨g5, 0, none⟩) sn c5)) (gx + 1) (some ⟨g5, 0, none⟩) sn c5 ps) := Lib.hid (ownsRow_setCell_below ho5' (by simp) _)
      have q2 := (hk0.alloc (.cells #[] 3)).cell 3
      have q3 := hk5.cell 3
      have q4 := hk5.frozen 3
      have q5 := hk0.cell 3
      simp at q2 q3 q5
      have hgw : gx < wa.heap.size := by omega
      have hgne : gx ≠ g5 := by omega
      have hsn0 : (0 : Int) < (sn : Int) := by omega
      clear hk0 hlit hlb hr5 ho5 ho5' hba5 hk5 hb5 hbx hba
      go_wp2_with (at_builtin; refine wpList_append_run HR5.out (by rfl) (by rfl) (by rfl) (by rfl) ?_)
      clear q2 q3 q4 q5 HR5
      obtain ⟨w6, hw6⟩ : ∃ w6, w5.setCell ⟨gx, 3, none⟩ (.slice (some ⟨g5, 0, none⟩) sn c5) = w6 := ⟨_, rfl⟩
      rw [hw6] at HXL5 HXK5 HO5 ⊢
      clear hw6
      have HXK6 : Hid (w6.drew.cell? ⟨gx, 3, none⟩ = some (.slice (some ⟨g5, 0, none⟩) sn c5)) := Lib.hid (HXK5.out.cell 3)
      have HO6 : Hid (OwnI w6.drew (gx + 1) (some ⟨g5, 0, none⟩) sn c5 ps) := Lib.hid (HO5.out.all (below_drewN (Below.refl _ _) 1))
      refine wp_region_held_drew (S := (fun w' => w'.cell? ⟨gx, 3, none⟩ = some (.slice (some ⟨g5, 0, none⟩) sn c5))) (by kernel_rfl) HXK6.out (fun hHeld => ?_)
      refine takeH 0 (some 63) (v := ?_) (by rfl) (by rfl) (by kernel_rfl) (by kernel_rfl) (by kernel_rfl) (fun _ _ _ h => h) ?_ (by assumption) ?_
      rotate_left
      · (intro o ho w hSw; have z0 := hSw; cases ho; go_simp; try with_reducible rfl)
      try simp only [Act.put, List.setIfInBounds_toArray, List.set_cons_zero, List.set_cons_succ]
      refine takeH 1 (some 64) (v := ?_) (by rfl) (by rfl) (by kernel_rfl) (by kernel_rfl) (by kernel_rfl) (fun _ _ _ h => h) ?_ (by assumption) ?_
      rotate_left
      · (intro o ho w hSw; have z0 := hSw; cases ho; go_simp; try with_reducible rfl)
      try simp only [Act.put, List.setIfInBounds_toArray, List.set_cons_zero, List.set_cons_succ]
      refine takeH 2 (some 65) (v := ?_) (by rfl) (by rfl) (by kernel_rfl) (by kernel_rfl) (by kernel_rfl) (fun _ _ _ h => h) ?_ (by assumption) ?_
      rotate_left
      · (intro o ho w hSw; have z0 := hSw; cases ho; go_simp; try with_reducible rfl)
      try simp only [Act.put, List.setIfInBounds_toArray, List.set_cons_zero, List.set_cons_succ]
      refine takeH 3 (some 66) (v := ?_) (by rfl) (by rfl) (by kernel_rfl) (by kernel_rfl) (by kernel_rfl) (fun _ _ _ h => h) ?_ (by assumption) ?_
      rotate_left
      · (intro o ho w hSw; have z0 := hSw; cases ho; go_simp; try with_reducible rfl)
      try simp only [Act.put, List.setIfInBounds_toArray, List.set_cons_zero, List.set_cons_succ]
      refine takeH 4 (some 67) (v := ?_) (by rfl) (by rfl) (by kernel_rfl) (by kernel_rfl) (by kernel_rfl) (fun _ _ _ h => h) ?_ (by assumption) ?_
      rotate_left
      · (intro o ho w hSw; have z0 := hSw; cases ho; go_simp; try with_reducible rfl)
      try simp only [Act.put, List.setIfInBounds_toArray, List.set_cons_zero, List.set_cons_succ]
      refine takeH 5 (some 68) (v := ?_) (by rfl) (by rfl) (by kernel_rfl) (by kernel_rfl) (by kernel_rfl) (fun _ _ _ h => h) ?_ (by assumption) ?_
      rotate_left
      · (intro o ho w hSw; have z0 := hSw; cases ho; go_simp; try with_reducible rfl)
      try simp only [Act.put, List.setIfInBounds_toArray, List.set_cons_zero, List.set_cons_succ]
      refine takeH 6 (some 69) (v := ?_) (by rfl) (by rfl) (by kernel_rfl) (by kernel_rfl) (by kernel_rfl) (fun _ _ _ h => h) ?_ (by assumption) ?_
      rotate_left
      · (intro o ho w hSw; have z0 := hSw; cases ho; go_simp; try with_reducible rfl)
      try simp only [Act.put, List.setIfInBounds_toArray, List.set_cons_zero, List.set_cons_succ]
      refine takeH 8 (some 71) (v := ?_) (by rfl) (by rfl) (by kernel_rfl) (by kernel_rfl) (by kernel_rfl) (fun _ _ _ h => h) ?_ (by assumption) ?_
      rotate_left
      · (intro o ho w hSw; have z0 := hSw; cases ho; go_simp; try with_reducible rfl)
      try simp only [Act.put, List.setIfInBounds_toArray, List.set_cons_zero, List.set_cons_succ]
      refine wpAnyH_ready (rs := [7]) (by kernel_rfl) (by simp) ?_
      refine AllReadyH.cons rfl (fun K hK => ?_) AllReadyH.nil
      go_simp
      go_at_call 17
      try rw [hkw]
      (refine (around_nat kq sn (sn : Int) _ rfl hkq1 hkq2 (by omega) (by omega)).mono ?_)
      rintro e w7 ⟨j, rfl, hj, -, rfl⟩
      have hji : (j : Int) < (sn : Int) := by omega
      have e0 := (own_int HO6.out hj).1
      have e1 := (own_int HO6.out hj).2
      go_wp2
      refine hK.out _ _ ?_ (fun hh7 => ?_)
      · exact HXK6.out
      clear hK K
      try simp only [Act.put, List.setIfInBounds_toArray, List.set_cons_zero, List.set_cons_succ]
      refine takeH 9 (some 72) (v := ?_) (by rfl) (by rfl) (by kernel_rfl) (by kernel_rfl) (by kernel_rfl) (fun _ _ _ h => h) ?_ (by assumption) ?_
      rotate_left
      · (intro o ho w hSw; have z0 := hSw; cases ho; go_simp; try with_reducible rfl)
      try simp only [Act.put, List.setIfInBounds_toArray, List.set_cons_zero, List.set_cons_succ]
      refine wpAnyH_ready (rs := [10]) (by kernel_rfl) (by simp) ?_
      refine AllReadyH.cons rfl (fun K hK => ?_) AllReadyH.nil
      go_simp
      refine hK.out _ _ ?_ (fun hh10 => ?_)
      · exact ((Blk.far (w := w6.drew) (p := ⟨g5, j, none⟩) HXK5.out hgne _).cell 3)
      clear hK K
      try simp only [Act.put, List.setIfInBounds_toArray, List.set_cons_zero, List.set_cons_succ]
      refine wpAnyH_done (by kernel_rfl) ?_ _
      have HXK : Hid (Blk (w6.drew.setCell ⟨g5, j, none⟩ (.int .i64 n)) gx 34 #[.int .i64 bi, .int .i64 iq, .int .i64 oq, .slice (some ⟨g5, 0, none⟩) sn c5]) := Lib.hid (Blk.far (w := w6.drew) (p := ⟨g5, j, none⟩) HXK5.out hgne _)
      have HXL : Hid (Below w4.heap.size w4 (w6.drew.setCell ⟨g5, j, none⟩ (.int .i64 n))) := Lib.hid ((bt HXL5.out (below_drewN (Below.refl _ _) 1)).setCell (by rw [hgx]; exact Nat.le_trans (Nat.le_succ _) hg51) _)
      have HTI : Hid (TI (w6.drew.setCell ⟨g5, j, none⟩ (.int .i64 n)) (some ⟨g5, 0, none⟩, sn, c5) (ps.set j n)) := Lib.hid (TI.own (B := gx + 1) (own_int_set HO6.out j n))
      clear hh7 hh10 hHeld e0 e1 HXK5 HXL5 HO5 HO6 HXK6
      go_upto_region 22 with (fail)
      have hcast := hkq1
      try rw [show (w6.setCell ⟨g5, j, none⟩ (.int .i64 n)).drew = w6.drew.setCell ⟨g5, j, none⟩ (.int .i64 n) from rfl]
      obtain ⟨wx, hwx⟩ : ∃ wx, w6.drew.setCell ⟨g5, j, none⟩ (.int .i64 n) = wx := ⟨_, rfl⟩
      have HXB : Hid (Blk wx gx 34 #[.int .i64 bi, .int .i64 iq, .int .i64 oq, .slice (some ⟨g5, 0, none⟩) sn c5]) := Lib.hid (by rw [← hwx]; exact HXK.out)
      have HXW : Hid (Below w4.heap.size w4 wx) := Lib.hid (by rw [← hwx]; exact HXL.out)
      have HTX := HTI
      rw [hwx] at HTX
      have HOX := Lib.hid (HN4.out.all HXW.out)
      have HGO := Lib.hid (HKO.out.all HXW.out)
      have HGR := Lib.hid (HKR.out.all HXW.out)
      have HF := Lib.hid (HEND.out wx ⟨bi, iq, oq, (some ⟨g5, 0, none⟩, sn, c5), ps.set j n⟩ HXW.out (fun wf hm => (HTX.out.mod hm (fun b hb => HTG.out _ HXW.out b hb))) ⟨.inl rfl, .inl rfl, .inl rfl, Nat.le_succ _, fun p hp => List.mem_or_eq_of_mem_set hp⟩)
      unfold slV at HF
      dsimp only at HF
      rw [hwx]
      clear hwx HXK HXL p0 p1 p2 p3 f0 f1 f2 f3 g0 g1
      have x0 := HXB.out.cell 0
      have x1 := HXB.out.cell 1
      have x2 := HXB.out.cell 2
      have x3 := HXB.out.cell 3
      have g0 := HGO.out.cell 0
      have g1 := HGO.out.cell 1
      have r0 := HGR.out.cell 0
      have r1 := HGR.out.cell 1
      have r2 := HGR.out.frozen 0
      have r3 := HGR.out.frozen 1
      simp at x0 x1 x2 x3 g0 g1 r0 r1
      have p0 := (HXW.out.cell (p := ⟨g, k * 4, none⟩) hgl).trans HPP.out.1
      have p1 := (HXW.out.cell (p := ⟨g, k * 4 + 1, none⟩) hgl).trans HPP.out.2.1
      have p2 := (HXW.out.cell (p := ⟨g, k * 4 + 2, none⟩) hgl).trans HPP.out.2.2.1
      have p3 := (HXW.out.cell (p := ⟨g, k * 4 + 3, none⟩) hgl).trans HPP.out.2.2.2
      have f0 := HOX.out.row.frozenAt (k * 4)
      have f1 := HOX.out.row.frozenAt (k * 4 + 1)
      have f2 := HOX.out.row.frozenAt (k * 4 + 2)
      have f3 := HOX.out.row.frozenAt (k * 4 + 3)
      obtain ⟨hd1, hd2, -, -⟩ := HD1.out
      obtain ⟨hd3, hd4, hd5, hd6⟩ := HD2.out
      have HRZ := Lib.hid (HEQ.out wx ⟨bi, iq, oq, (some ⟨g5, 0, none⟩, sn, c5), ps.set j n⟩ HXW.out)
      unfold slV at HRZ
      dsimp only at HRZ
      clear HPP HXB HOX HEND HTG HOLD HEQ HMD HBW HND4 hgx hcast hr2 r0 r1 r2 r3
      go_upto_region 23 with (fail)
      clear x0 x1 x2 x3 p0 p1 p2 p3 f0 f1 f2 f3 g0 g1
      obtain ⟨wy, hwy⟩ : ∃ wy, (((((wx).setCell ⟨g, k * 4, none⟩ (.int .i64 bi)).setCell ⟨g, k * 4 + 1, none⟩ (.int .i64 iq)).setCell ⟨g, k * 4 + 2, none⟩ (.int .i64 oq)).setCell ⟨g, k * 4 + 3, none⟩ (.slice (some ⟨g5, 0, none⟩) sn c5)) = wy := ⟨_, rfl⟩
      have HGY : Hid (Blk wy go 30 #[.int .i64 v, .slice (some ⟨g, 0, none⟩) nn c2]) := Lib.hid (by rw [← hwy]; exact (((HGO.out.far (p := ⟨g, k * 4, none⟩) hd6 _).far (p := ⟨g, k * 4 + 1, none⟩) hd6 _).far (p := ⟨g, k * 4 + 2, none⟩) hd6 _).far (p := ⟨g, k * 4 + 3, none⟩) hd6 _)
      have HGZ : Hid (Blk wy gr 30 #[.int .i64 0, .slice none 0 0]) := Lib.hid (by rw [← hwy]; exact (((HGR.out.far (p := ⟨g, k * 4, none⟩) hd4 _).far (p := ⟨g, k * 4 + 1, none⟩) hd4 _).far (p := ⟨g, k * 4 + 2, none⟩) hd4 _).far (p := ⟨g, k * 4 + 3, none⟩) hd4 _)
      rw [hwy] at HF HRZ ⊢
      clear hwy HGO HGR
      have g0 := HGY.out.cell 0
      have g1 := HGY.out.cell 1
      have r0 := HGZ.out.cell 0
      have r1 := HGZ.out.cell 1
      have r2 := HGZ.out.frozen 0
      have r3 := HGZ.out.frozen 1
      simp at g0 g1 r0 r1
      go_wp2
      have y0 := HRZ.out.1
      have y1 := HRZ.out.2.1
      refine bodyPost_ret (v := .agg #[.int .i64 v, .slice (some ⟨g, 0, none⟩) nn c2]) (by simp [results, Try.results16, go_sem, y0, y1]) rfl HF.out
end Go.Proofs.Ytikfcpkobgejmaa

/- reference: Full. -/
namespace Go.Proofs.Ytikfcpkobgejmaa
open Go.RowKit

theorem grow_any (n : Nat) (A : Option Addr) (m c : Nat) (v : Int) (L : List Bd) (w0 : World) (HL : Hid (Bds w0 (A, m, c) L)) (hm : m ≤ 10) (hn : n ≤ 8) (HLS : Hid (∀ b ∈ L, b.s.2.1 ≤ 1000000)) : ∀ d, GrowSpec n A m c v w0 d
  | 0 => grow_step n A m c v L w0 HL hm hn HLS 0 (Lib.hid fun d' h => by omega)
  | d + 1 => grow_step n A m c v L w0 HL hm hn HLS (d + 1) (Lib.hid fun d' h => by
    obtain rfl : d = d' := by omega
    exact grow_any n A m c v L w0 HL hm hn HLS d)
def FullPost (v : Int) (w : World) (e : Ending) (w' : World) : Prop := ∃ A' m' c' N', e = .returned (.agg #[.int .i64 v, .slice A' m' c']) ∧ 0 < m' ∧ m' ≤ 2047 ∧ NdsO w' w.heap.size 34 A' m' c' N' ∧ Below w.heap.size w w'
set_option maxHeartbeats 4000000 in
theorem full_any (n : Nat) (A : Option Addr) (m c : Nat) (v : Int) (L : List Bd) (w : World) (HL : Hid (Bds w (A, m, c) L)) (hm : m ≤ 10) (hn : n ≤ 8) (HLS : Hid (∀ b ∈ L, b.s.2.1 ≤ 1000000)) :
    Calls Try.prog 14 #[.int .i64 (n : Int), .slice A m c, .int .i64 v] w (FullPost v w) := by
  have HG := Lib.hid (grow_any n A m c v L w HL hm hn HLS m)
  have hP : 2 ^ (m + 1) ≤ 2048 := Nat.le_trans (Nat.pow_le_pow_right (by omega) (show m + 1 ≤ 11 by omega)) (by decide)
  have HPW := Lib.hid hP
  clear hP
  go_enter Try.func14, Try.ntmps14
  go_wp2_with fail
  have hb2 := ((Below.refl w.heap.size w).alloc (Nat.le_refl _) (.cells #[.int .i64 0, .slice none 0 0] 30)).alloc (by simp) (.cells #[.int .i64 v, .slice none 0 0] 30)
  have hr2 := Blk.alloc (Blk.new w 30 #[.int .i64 0, .slice none 0 0]) (.cells #[.int .i64 v, .slice none 0 0] 30)
  obtain ⟨w2, hw2⟩ : ∃ w2, (w.alloc (.cells #[.int .i64 0, .slice none 0 0] 30)).alloc (.cells #[.int .i64 v, .slice none 0 0] 30) = w2 := ⟨_, rfl⟩
  obtain ⟨gr, hgr⟩ : ∃ gr, w.heap.size = gr := ⟨_, rfl⟩
  rw [hw2] at hb2 hr2 ⊢
  rw [hgr] at hr2 ⊢
  have HB2 := Lib.hid hb2
  have HR2 := Lib.hid hr2
  have HGR := Lib.hid hgr
  clear hb2 hr2 hw2 hgr
  refine (HG.out none 0 0 [] none 0 0 none 0 0 [] [] (List.replicate m 0) w2 HB2 (Lib.hid ⟨rfl, World.ownsRow_nil _ _ _ _, fun x hx => by simp at hx, fun x hx => by simp at hx⟩) (Lib.hid (TI.nil _)) (Lib.hid (TI.nil _)) (Lib.hid (DI.start m)) (by rw [List.count_replicate_self]; exact Nat.le_refl _) (by omega) (by have := HPW.out; omega)).mono ?_
  rintro e w3 ⟨A3, m3, c3, N3, rfl, h1, h2, hN, hM, -⟩
  have hb3 : Below w2.heap.size w2 w3 := hM.below_self (Nat.le_refl _) (fun b hb => by simp [Value.ownBlock] at hb)
  have HB3 := Lib.hid (bt HB2.out hb3)
  have HR3 := Lib.hid (HR2.out.all hb3)
  have hm4 : Mod (fun b => b = gr) w3 ((w3.setCell ⟨gr, 0, none⟩ (.int .i64 v)).setCell ⟨gr, 1, none⟩ (.slice A3 m3 c3)) := Mod.set (F := fun b => b = gr) (p := ⟨gr, 1, none⟩) (Mod.set (F := fun b => b = gr) (p := ⟨gr, 0, none⟩) (Mod.refl _ w3) (.inl rfl) _) (.inl rfl) _
  have HF : Hid (FullPost v w (.returned (.agg #[.int .i64 v, .slice A3 m3 c3])) ((w3.setCell ⟨gr, 0, none⟩ (.int .i64 v)).setCell ⟨gr, 1, none⟩ (.slice A3 m3 c3))) := Lib.hid ⟨A3, m3, c3, N3, rfl, by omega, by have := HPW.out; omega, hN.mod hm4 (fun b hb => by rw [hb]; exact pf_not HR3.out), (HB3.out.setCell (by rw [HGR.out]; exact Nat.le_refl _) _).setCell (by rw [HGR.out]; exact Nat.le_refl _) _⟩
  have u0 := HR3.out.cell 0
  have u1 := HR3.out.cell 1
  have u2 := HR3.out.frozen 0
  have u3 := HR3.out.frozen 1
  have HR5 := Lib.hid ((HR3.out.set_ 0 (.int .i64 v)).set_ 1 (.slice A3 m3 c3))
  have v0 := HR5.out.cell 0
  have v1 := HR5.out.cell 1
  simp at u0 u1 v0 v1
  clear hN hM hm4 h1 h2 hb3
  go_wp2
  exact bodyPost_ret (v := .agg #[.int .i64 v, .slice A3 m3 c3]) (by simp [results, Try.results14, go_sem, v0, v1]) rfl HF.out
end Go.Proofs.Ytikfcpkobgejmaa

/- reference: Lots (of 27 and of 28), Choice, Less. -/
namespace Go.Proofs.Ytikfcpkobgejmaa
open Go.RowKit

theorem lots27_any (n : Int) (w : World) (h1 : -9223372036854775808 ≤ n) (h2 : n ≤ 9223372036854775807) :
    Calls Try.prog 10 #[.int .i64 n] w fun e w' => ∃ k : Nat, e = .returned (.int .i64 (k : Int)) ∧ 1 ≤ k ∧ k ≤ 8 ∧ w = w' := by
  go_enter Try.func10, Try.ntmps10
  go_wp2_with fail
  refine (around_nat n 8 8 w (by rfl) h1 h2 (by omega) (by omega)).mono ?_
  rintro e w2 ⟨k, rfl, hk, -, rfl⟩
  go_wp2
  go_ret
  exact ⟨k + 1, by rw [Int.natCast_add, Int.add_comm]; rfl, by omega, by omega, rfl⟩
/-- What Lots returns. -/
def LotsPost (n : Nat) (w : World) (e : Ending) (w' : World) : Prop := ∃ A' c' P, e = .returned (.slice A' n c') ∧ OwnI w' w.heap.size A' n c' P ∧ P.length = n ∧ (∀ x ∈ P, 0 ≤ x ∧ x < 12) ∧ Below w.heap.size w w'
set_option maxRecDepth 100000 in
set_option maxHeartbeats 4000000 in
theorem lots28_any (n : Nat) (A : Option Addr) (m c : Nat) (f : Nat → Int) (w : World) (hn8 : n ≤ 8) (hR : Rd w w.heap.size A m (fun j => .int .i64 (f j))) (hw : Hid (∀ j, j < m → -9223372036854775808 ≤ f j ∧ f j ≤ 9223372036854775807)) :
    Calls Try.prog 15 #[.int .i64 (n : Int), .slice A m c] w (LotsPost n w) := by
  have HPI : Hid (∀ (q : Nat) (w' : World), Below w.heap.size w w' → Calls Try.prog 43 #[.slice A m c, .int .i64 (q : Int), .int .i64 12] w' fun e w'' => ∃ k : Nat, e = .returned (.int .i64 (k : Int)) ∧ k < 12 ∧ w' = w'') := Lib.hid (fun q w' hb => (pick_nat A m c f q q 12 12 w' _ rfl (by rfl) (hR.all hb) hw (by omega) (by omega)).mono fun e w'' ⟨k, h5, h6, _, h7⟩ => ⟨k, h5, h6, h7⟩)
  clear hR hw
  go_enter Try.func15, Try.ntmps15
  go_wp2
  go_loopw [5, 6] (fun v iv wr => ∃ (i : Nat) (A' : Option Addr) (c' : Nat) (P : List Int), i ≤ n ∧ iv = .int .i64 (i : Int) ∧ v = .slice A' i c' ∧ Hid (P.length = i) ∧ Hid (∀ x ∈ P, 0 ≤ x ∧ x < 12) ∧ Hid (OwnI wr w.heap.size A' i c' P) ∧ Hid (Below w.heap.size w wr)) (fun _ iv _ => n - (intOf iv).toNat)
  case atStart => exact ⟨0, none, 0, [], by omega, rfl, rfl, Lib.hid rfl, Lib.hid (fun b hb => by simp at hb), Lib.hid (OwnI.nil _ _), Lib.hid (Below.refl _ _)⟩
  case round =>
    obtain ⟨i, A', c', P, hi, rfl, rfl, HPL, HPX, HO, HB⟩ := hrel
    by_cases hin : i < n
    · have hii : (i : Int) < (n : Int) := by omega
      go_wp2_with fail
      refine (HPI.out i _ HB.out).mono ?_
      rintro e w2 ⟨k, rfl, hk, rfl⟩
      obtain ⟨A5, c5, w5, hr5, ho5, hb5⟩ := app_int (w := wr) 22 (k : Int) HO.out (by omega) HB.out.size
      have HR5 := Lib.hid hr5
      have HO5 := Lib.hid ho5
      have HB5 : Hid (Below w.heap.size w w5) := Lib.hid (HB.out.trans hb5)
      have HL5 : Hid ((P ++ [(k : Int)]).length = i + 1) := Lib.hid (by rw [List.length_append, HPL.out]; rfl)
      have HX5 : Hid (∀ x ∈ P ++ [(k : Int)], 0 ≤ x ∧ x < 12) := Lib.hid (fun x hx => by
        rcases List.mem_append.1 hx with h | h
        · exact HPX.out x h
        · simp at h
          omega)
      clear hr5 ho5 hb5
      go_wp2_with (at_builtin; refine wpList_append_run HR5.out (by rfl) (by rfl) (by rfl) (by rfl) ?_)
      exact ⟨⟨i + 1, A5, c5, _, by omega, by go_num, rfl, HL5, HX5, HO5, HB5⟩, by simp [intOf]; omega⟩
    · obtain rfl : i = n := by omega
      have HF : Hid (LotsPost i w (.returned (.slice A' i c')) wr) := Lib.hid ⟨A', c', P, rfl, HO.out, HPL.out, HPX.out, HB.out⟩
      go_wp2
      go_ret
      exact HF.out
/-- What Choice returns. -/
def ChoicePost (n : Nat) (w : World) (e : Ending) (w' : World) : Prop := ∃ A' k c' C, e = .returned (.slice A' k c') ∧ OwnI w' w.heap.size A' k c' C ∧ C.length = k ∧ k ≤ n ∧ lotsBad (n : Int) (-1) C = false ∧ Below w.heap.size w w'
set_option maxRecDepth 100000 in
set_option maxHeartbeats 4000000 in
theorem choice_any (bits : Int) (n : Nat) (w : World) (hn : n ≤ 1000) (h1 : -9223372036854775808 ≤ bits) (h2 : bits ≤ 9223372036854775807) :
    Calls Try.prog 32 #[.int .i64 bits, .int .i64 (n : Int)] w (ChoicePost n w) := by
  go_enter Try.func32, Try.ntmps32
  go_wp2
  go_loopw [0, 5, 6] (fun xv v iv wr => ∃ (x : Int) (i : Nat) (A' : Option Addr) (k c' : Nat) (C : List Int), i ≤ n ∧ k ≤ i ∧ xv = .int .i64 x ∧ -9223372036854775808 ≤ x ∧ x ≤ 9223372036854775807 ∧ iv = .int .i64 (i : Int) ∧ v = .slice A' k c' ∧ Hid (C.length = k) ∧ Hid (lotsBad (n : Int) (-1) C = false) ∧ Hid (∀ y ∈ C, y < (i : Int)) ∧ Hid (OwnI wr w.heap.size A' k c' C) ∧ Hid (Below w.heap.size w wr)) (fun _ _ iv _ => n - (intOf iv).toNat)
  case atStart => exact ⟨bits, 0, none, 0, 0, [], by omega, by omega, rfl, h1, h2, rfl, rfl, Lib.hid rfl, Lib.hid rfl, Lib.hid (fun b hb => by simp at hb), Lib.hid (OwnI.nil _ _), Lib.hid (Below.refl _ _)⟩
  case round =>
    clear h1 h2
    obtain ⟨x, i, A', k, c', C, hi, hki, rfl, hx1, hx2, rfl, rfl, HCL, HLB, HLT, HO, HB⟩ := hrel
    by_cases hin : i < n
    · have hii : (i : Int) < (n : Int) := by omega
      have hti := td2_ok x hx1 hx2
      obtain ⟨xh, hxh⟩ : ∃ y, x.tdiv 2 = y := ⟨_, rfl⟩
      rw [hxh] at hti
      obtain ⟨xm, hxm⟩ : ∃ y, x.tmod 2 = y := ⟨_, rfl⟩
      by_cases hm1 : xm = 1
      · subst hm1
        obtain ⟨A5, c5, w5, hr5, ho5, hb5⟩ := app_int (w := wr) 22 (i : Int) HO.out (by omega) HB.out.size
        have HR5 := Lib.hid hr5
        have HO5 := Lib.hid ho5
        have HB5 : Hid (Below w.heap.size w w5) := Lib.hid (HB.out.trans hb5)
        have HL5 : Hid ((C ++ [(i : Int)]).length = k + 1) := Lib.hid (by rw [List.length_append, HCL.out]; rfl)
        have HLB2 : Hid (lotsBad (n : Int) (-1) (C ++ [(i : Int)]) = false) := Lib.hid (lotsBad_snoc HLB.out (by omega) HLT.out (by omega))
        have HLT2 : Hid (∀ y ∈ C ++ [(i : Int)], y < ((i + 1 : Nat) : Int)) := Lib.hid (fun y hy => by
          rcases List.mem_append.1 hy with h | h
          · have := HLT.out y h
            omega
          · simp at h
            omega)
        clear hr5 ho5 hb5
        go_wp2_with (at_builtin; refine wpList_append_run HR5.out (by rfl) (by rfl) (by rfl) (by rfl) ?_)
        exact ⟨⟨xh, i + 1, A5, k + 1, c5, _, by omega, by omega, rfl, hti.1, hti.2, by go_num, rfl, HL5, HLB2, HLT2, HO5, HB5⟩, by simp [intOf]; omega⟩
      · have hm2 : (xm == 1) = false := by simpa using hm1
        have HLT3 : Hid (∀ y ∈ C, y < ((i + 1 : Nat) : Int)) := Lib.hid (fun y hy => by have := HLT.out y hy; omega)
        clear hm1
        go_wp2
        exact ⟨⟨xh, i + 1, A', k, c', C, by omega, by omega, rfl, hti.1, hti.2, by go_num, rfl, HCL, HLB, HLT3, HO, HB⟩, by simp [intOf]; omega⟩
    · obtain rfl : i = n := by omega
      have HF : Hid (ChoicePost i w (.returned (.slice A' k c')) wr) := Lib.hid ⟨A', k, c', C, rfl, HO.out, HCL.out, hki, HLB.out, HB.out⟩
      go_wp2
      go_ret
      exact HF.out
def LessPost (w : World) (e : Ending) (w' : World) : Prop := ∃ r, e = .returned (.bool r) ∧ Below w.heap.size w w'
set_option maxRecDepth 100000 in
set_option maxHeartbeats 4000000 in
theorem less_any (A1 : Option Addr) (n1 c1 : Nat) (A2 : Option Addr) (n2 c2 : Nat) (xs ys : List Int) (w : World) (H1 : Hid (NIn w w.heap.size (A1, n1, c1) xs)) (H2 : Hid (NIn w w.heap.size (A2, n2, c2) ys)) (h1 : n1 ≤ 1000) :
    Calls Try.prog 75 #[.slice A1 n1 c1, .slice A2 n2 c2] w (LessPost w) := by
  have hm2 : n2 ≤ 9223372036854775807 := Nat.le_trans H2.out.cap H2.out.max
  go_enter Try.func75, Try.ntmps75
  go_wp2
  go_loopw [5] (fun iv wr => ∃ k : Nat, k ≤ n1 ∧ iv = .int .i64 (k : Int) ∧ Hid (Below w.heap.size w wr)) (fun iv _ => n1 - (intOf iv).toNat)
  case atStart => exact ⟨0, by omega, rfl, Lib.hid (Below.refl _ _)⟩
  case round =>
    obtain ⟨k, hk, rfl, HB⟩ := hrel
    by_cases hk1 : k < n1
    · have hki : (k : Int) < (n1 : Int) := by omega
      by_cases hk2 : k < n2
      · have hki2 : (k : Int) < (n2 : Int) := by omega
        obtain ⟨b1, o1, hA1, hb1, c1⟩ := (NIn.all H1.out HB.out).cell (k := k) hk1
        dsimp only at hA1
        subst hA1
        obtain ⟨b2, o2, hA2, hb2, c2⟩ := (NIn.all H2.out HB.out).cell (k := k) hk2
        dsimp only at hA2
        subst hA2
        obtain ⟨x, hx⟩ : ∃ x, xs[k]?.getD 0 = x := ⟨_, rfl⟩
        obtain ⟨y, hy⟩ : ∃ y, ys[k]?.getD 0 = y := ⟨_, rfl⟩
        rw [hx] at c1
        rw [hy] at c2
        have HBD : Hid (Below w.heap.size w wr.drew) := Lib.hid (bt HB.out (below_drewN (Below.refl _ _) 1))
        have HBE : Hid (Below w.heap.size w wr.drew.drew) := Lib.hid (bt HBD.out (below_drewN (Below.refl _ _) 1))
        clear hx hy
        by_cases hxy : x = y
        · have hq : (x != y) = false := by simpa using hxy
          clear hxy
          go_wp2
          refine wp_region_held_drew (S := (fun w' => w'.cell? ⟨b1, o1 + k, none⟩ = some (.int .i64 x) ∧ w'.cell? ⟨b2, o2 + k, none⟩ = some (.int .i64 y))) (by kernel_rfl) ⟨c1, c2⟩ (fun hHeld => ?_)
          refine takeH 0 (some 18) (v := ?_) (by rfl) (by rfl) (by kernel_rfl) (by kernel_rfl) (by kernel_rfl) (fun _ _ _ h => h) ?_ (by assumption) ?_
          rotate_left
          · (intro o ho w hSw; obtain ⟨z0, z1⟩ := hSw; cases ho; go_simp; try with_reducible rfl)
          try simp only [Act.put, List.setIfInBounds_toArray, List.set_cons_zero, List.set_cons_succ]
          refine takeH 1 (some 19) (v := ?_) (by rfl) (by rfl) (by kernel_rfl) (by kernel_rfl) (by kernel_rfl) (fun _ _ _ h => h) ?_ (by assumption) ?_
          rotate_left
          · (intro o ho w hSw; obtain ⟨z0, z1⟩ := hSw; cases ho; go_simp; try with_reducible rfl)
          try simp only [Act.put, List.setIfInBounds_toArray, List.set_cons_zero, List.set_cons_succ]
          refine takeH 2 (some 20) (v := ?_) (by rfl) (by rfl) (by kernel_rfl) (by kernel_rfl) (by kernel_rfl) (fun _ _ _ h => h) ?_ (by assumption) ?_
          rotate_left
          · (intro o ho w hSw; obtain ⟨z0, z1⟩ := hSw; cases ho; go_simp; try with_reducible rfl)
          try simp only [Act.put, List.setIfInBounds_toArray, List.set_cons_zero, List.set_cons_succ]
          refine takeH 3 (some 21) (v := ?_) (by rfl) (by rfl) (by kernel_rfl) (by kernel_rfl) (by kernel_rfl) (fun _ _ _ h => h) ?_ (by assumption) ?_
          rotate_left
          · (intro o ho w hSw; obtain ⟨z0, z1⟩ := hSw; cases ho; go_simp; try with_reducible rfl)
          try simp only [Act.put, List.setIfInBounds_toArray, List.set_cons_zero, List.set_cons_succ]
          refine takeH 4 (some 22) (v := ?_) (by rfl) (by rfl) (by kernel_rfl) (by kernel_rfl) (by kernel_rfl) (fun _ _ _ h => h) ?_ (by assumption) ?_
          rotate_left
          · (intro o ho w hSw; obtain ⟨z0, z1⟩ := hSw; cases ho; go_simp; try with_reducible rfl)
          try simp only [Act.put, List.setIfInBounds_toArray, List.set_cons_zero, List.set_cons_succ]
          refine takeH 5 (some 23) (v := ?_) (by rfl) (by rfl) (by kernel_rfl) (by kernel_rfl) (by kernel_rfl) (fun _ _ _ h => h) ?_ (by assumption) ?_
          rotate_left
          · (intro o ho w hSw; obtain ⟨z0, z1⟩ := hSw; cases ho; go_simp; try with_reducible rfl)
          try simp only [Act.put, List.setIfInBounds_toArray, List.set_cons_zero, List.set_cons_succ]
          refine takeH 6 (some 24) (v := ?_) (by rfl) (by rfl) (by kernel_rfl) (by kernel_rfl) (by kernel_rfl) (fun _ _ _ h => h) ?_ (by assumption) ?_
          rotate_left
          · (intro o ho w hSw; obtain ⟨z0, z1⟩ := hSw; cases ho; go_simp; try with_reducible rfl)
          try simp only [Act.put, List.setIfInBounds_toArray, List.set_cons_zero, List.set_cons_succ]
          refine takeH 7 (some 25) (v := ?_) (by rfl) (by rfl) (by kernel_rfl) (by kernel_rfl) (by kernel_rfl) (fun _ _ _ h => h) ?_ (by assumption) ?_
          rotate_left
          · (intro o ho w hSw; obtain ⟨z0, z1⟩ := hSw; cases ho; go_simp; try with_reducible rfl)
          try simp only [Act.put, List.setIfInBounds_toArray, List.set_cons_zero, List.set_cons_succ]
          refine takeH 8 (some 26) (v := .bool false) (by rfl) (by rfl) (by kernel_rfl) (by kernel_rfl) (by kernel_rfl) (fun _ _ _ h => h) ?_ (by assumption) ?_
          skip
          · (intro o ho w hSw; obtain ⟨z0, z1⟩ := hSw; cases ho; go_simp; try with_reducible rfl)
          try simp only [Act.put, List.setIfInBounds_toArray, List.set_cons_zero, List.set_cons_succ]
          refine wpAnyH_done (by kernel_rfl) ?_ _
          go_wp2
          exact ⟨⟨k + 1, by omega, by go_num, HBD⟩, by simp [intOf]; omega⟩
        · have hq : (x != y) = true := by simpa using hxy
          clear hxy
          go_wp2
          refine wp_region_held_drew (S := (fun w' => w'.cell? ⟨b1, o1 + k, none⟩ = some (.int .i64 x) ∧ w'.cell? ⟨b2, o2 + k, none⟩ = some (.int .i64 y))) (by kernel_rfl) ⟨c1, c2⟩ (fun hHeld => ?_)
          refine takeH 0 (some 18) (v := ?_) (by rfl) (by rfl) (by kernel_rfl) (by kernel_rfl) (by kernel_rfl) (fun _ _ _ h => h) ?_ (by assumption) ?_
          rotate_left
          · (intro o ho w hSw; obtain ⟨z0, z1⟩ := hSw; cases ho; go_simp; try with_reducible rfl)
          try simp only [Act.put, List.setIfInBounds_toArray, List.set_cons_zero, List.set_cons_succ]
          refine takeH 1 (some 19) (v := ?_) (by rfl) (by rfl) (by kernel_rfl) (by kernel_rfl) (by kernel_rfl) (fun _ _ _ h => h) ?_ (by assumption) ?_
          rotate_left
          · (intro o ho w hSw; obtain ⟨z0, z1⟩ := hSw; cases ho; go_simp; try with_reducible rfl)
          try simp only [Act.put, List.setIfInBounds_toArray, List.set_cons_zero, List.set_cons_succ]
          refine takeH 2 (some 20) (v := ?_) (by rfl) (by rfl) (by kernel_rfl) (by kernel_rfl) (by kernel_rfl) (fun _ _ _ h => h) ?_ (by assumption) ?_
          rotate_left
          · (intro o ho w hSw; obtain ⟨z0, z1⟩ := hSw; cases ho; go_simp; try with_reducible rfl)
          try simp only [Act.put, List.setIfInBounds_toArray, List.set_cons_zero, List.set_cons_succ]
          refine takeH 3 (some 21) (v := ?_) (by rfl) (by rfl) (by kernel_rfl) (by kernel_rfl) (by kernel_rfl) (fun _ _ _ h => h) ?_ (by assumption) ?_
          rotate_left
          · (intro o ho w hSw; obtain ⟨z0, z1⟩ := hSw; cases ho; go_simp; try with_reducible rfl)
          try simp only [Act.put, List.setIfInBounds_toArray, List.set_cons_zero, List.set_cons_succ]
          refine takeH 4 (some 22) (v := ?_) (by rfl) (by rfl) (by kernel_rfl) (by kernel_rfl) (by kernel_rfl) (fun _ _ _ h => h) ?_ (by assumption) ?_
          rotate_left
          · (intro o ho w hSw; obtain ⟨z0, z1⟩ := hSw; cases ho; go_simp; try with_reducible rfl)
          try simp only [Act.put, List.setIfInBounds_toArray, List.set_cons_zero, List.set_cons_succ]
          refine takeH 5 (some 23) (v := ?_) (by rfl) (by rfl) (by kernel_rfl) (by kernel_rfl) (by kernel_rfl) (fun _ _ _ h => h) ?_ (by assumption) ?_
          rotate_left
          · (intro o ho w hSw; obtain ⟨z0, z1⟩ := hSw; cases ho; go_simp; try with_reducible rfl)
          try simp only [Act.put, List.setIfInBounds_toArray, List.set_cons_zero, List.set_cons_succ]
          refine takeH 6 (some 24) (v := ?_) (by rfl) (by rfl) (by kernel_rfl) (by kernel_rfl) (by kernel_rfl) (fun _ _ _ h => h) ?_ (by assumption) ?_
          rotate_left
          · (intro o ho w hSw; obtain ⟨z0, z1⟩ := hSw; cases ho; go_simp; try with_reducible rfl)
          try simp only [Act.put, List.setIfInBounds_toArray, List.set_cons_zero, List.set_cons_succ]
          refine takeH 7 (some 25) (v := ?_) (by rfl) (by rfl) (by kernel_rfl) (by kernel_rfl) (by kernel_rfl) (fun _ _ _ h => h) ?_ (by assumption) ?_
          rotate_left
          · (intro o ho w hSw; obtain ⟨z0, z1⟩ := hSw; cases ho; go_simp; try with_reducible rfl)
          try simp only [Act.put, List.setIfInBounds_toArray, List.set_cons_zero, List.set_cons_succ]
          refine takeH 8 (some 26) (v := .bool true) (by rfl) (by rfl) (by kernel_rfl) (by kernel_rfl) (by kernel_rfl) (fun _ _ _ h => h) ?_ (by assumption) ?_
          skip
          · (intro o ho w hSw; obtain ⟨z0, z1⟩ := hSw; cases ho; go_simp; try with_reducible rfl)
          try simp only [Act.put, List.setIfInBounds_toArray, List.set_cons_zero, List.set_cons_succ]
          refine wpAnyH_done (by kernel_rfl) ?_ _
          go_wp2
          clear hHeld
          refine wp_region_held_drew (S := (fun w' => w'.cell? ⟨b1, o1 + k, none⟩ = some (.int .i64 x) ∧ w'.cell? ⟨b2, o2 + k, none⟩ = some (.int .i64 y))) (by kernel_rfl) ⟨c1, c2⟩ (fun hHeld => ?_)
          refine takeH 0 (some 27) (v := ?_) (by rfl) (by rfl) (by kernel_rfl) (by kernel_rfl) (by kernel_rfl) (fun _ _ _ h => h) ?_ (by assumption) ?_
          rotate_left
          · (intro o ho w hSw; obtain ⟨z0, z1⟩ := hSw; cases ho; go_simp; try with_reducible rfl)
          try simp only [Act.put, List.setIfInBounds_toArray, List.set_cons_zero, List.set_cons_succ]
          refine takeH 1 (some 28) (v := ?_) (by rfl) (by rfl) (by kernel_rfl) (by kernel_rfl) (by kernel_rfl) (fun _ _ _ h => h) ?_ (by assumption) ?_
          rotate_left
          · (intro o ho w hSw; obtain ⟨z0, z1⟩ := hSw; cases ho; go_simp; try with_reducible rfl)
          try simp only [Act.put, List.setIfInBounds_toArray, List.set_cons_zero, List.set_cons_succ]
          refine takeH 2 (some 29) (v := ?_) (by rfl) (by rfl) (by kernel_rfl) (by kernel_rfl) (by kernel_rfl) (fun _ _ _ h => h) ?_ (by assumption) ?_
          rotate_left
          · (intro o ho w hSw; obtain ⟨z0, z1⟩ := hSw; cases ho; go_simp; try with_reducible rfl)
          try simp only [Act.put, List.setIfInBounds_toArray, List.set_cons_zero, List.set_cons_succ]
          refine takeH 3 (some 30) (v := ?_) (by rfl) (by rfl) (by kernel_rfl) (by kernel_rfl) (by kernel_rfl) (fun _ _ _ h => h) ?_ (by assumption) ?_
          rotate_left
          · (intro o ho w hSw; obtain ⟨z0, z1⟩ := hSw; cases ho; go_simp; try with_reducible rfl)
          try simp only [Act.put, List.setIfInBounds_toArray, List.set_cons_zero, List.set_cons_succ]
          refine takeH 4 (some 31) (v := ?_) (by rfl) (by rfl) (by kernel_rfl) (by kernel_rfl) (by kernel_rfl) (fun _ _ _ h => h) ?_ (by assumption) ?_
          rotate_left
          · (intro o ho w hSw; obtain ⟨z0, z1⟩ := hSw; cases ho; go_simp; try with_reducible rfl)
          try simp only [Act.put, List.setIfInBounds_toArray, List.set_cons_zero, List.set_cons_succ]
          refine takeH 5 (some 32) (v := ?_) (by rfl) (by rfl) (by kernel_rfl) (by kernel_rfl) (by kernel_rfl) (fun _ _ _ h => h) ?_ (by assumption) ?_
          rotate_left
          · (intro o ho w hSw; obtain ⟨z0, z1⟩ := hSw; cases ho; go_simp; try with_reducible rfl)
          try simp only [Act.put, List.setIfInBounds_toArray, List.set_cons_zero, List.set_cons_succ]
          refine takeH 6 (some 33) (v := ?_) (by rfl) (by rfl) (by kernel_rfl) (by kernel_rfl) (by kernel_rfl) (fun _ _ _ h => h) ?_ (by assumption) ?_
          rotate_left
          · (intro o ho w hSw; obtain ⟨z0, z1⟩ := hSw; cases ho; go_simp; try with_reducible rfl)
          try simp only [Act.put, List.setIfInBounds_toArray, List.set_cons_zero, List.set_cons_succ]
          refine takeH 7 (some 34) (v := ?_) (by rfl) (by rfl) (by kernel_rfl) (by kernel_rfl) (by kernel_rfl) (fun _ _ _ h => h) ?_ (by assumption) ?_
          rotate_left
          · (intro o ho w hSw; obtain ⟨z0, z1⟩ := hSw; cases ho; go_simp; try with_reducible rfl)
          try simp only [Act.put, List.setIfInBounds_toArray, List.set_cons_zero, List.set_cons_succ]
          refine takeH 8 (some 35) (v := ?_) (by rfl) (by rfl) (by kernel_rfl) (by kernel_rfl) (by kernel_rfl) (fun _ _ _ h => h) ?_ (by assumption) ?_
          rotate_left
          · (intro o ho w hSw; obtain ⟨z0, z1⟩ := hSw; cases ho; go_simp; try with_reducible rfl)
          try simp only [Act.put, List.setIfInBounds_toArray, List.set_cons_zero, List.set_cons_succ]
          refine takeH 9 (some 4) (v := ?_) (by rfl) (by rfl) (by kernel_rfl) (by kernel_rfl) (by kernel_rfl) (fun _ _ _ h => h) ?_ (by assumption) ?_
          rotate_left
          · (intro o ho w hSw; obtain ⟨z0, z1⟩ := hSw; cases ho; go_simp; try with_reducible rfl)
          try simp only [Act.put, List.setIfInBounds_toArray, List.set_cons_zero, List.set_cons_succ]
          refine wpAnyH_done (by kernel_rfl) ?_ _
          go_wp2
          go_ret
          exact ⟨_, rfl, HBE.out⟩
      · have hk3 : ¬ (k : Int) < (n2 : Int) := by omega
        go_wp2
        go_ret
        exact ⟨_, rfl, HB.out⟩
    · obtain rfl : k = n1 := by omega
      go_wp2
      go_ret
      exact ⟨_, rfl, HB.out⟩
end Go.Proofs.Ytikfcpkobgejmaa
