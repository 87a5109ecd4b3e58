/- Part 10 of the texts that ProofChecks needs: RegG PfGrow. -/
import Derived.Deep.RegionHeld3
import Derived.Deep.RegionWith
import Derived.Test.YtikfcpkobgejmaaGProofChecks9

/- A region that draws its order, whose last operation writes what the others load: the condition need not hold behind that one. -/
namespace Go.Proofs.Ytikfcpkobgejmaa

section
variable {P : Program} {ops : Array Oper} {Q : Exit → Act → World → Prop} {md : Region.Mode} {S : World → Prop} {z : Nat}
/-- Whatever order is picked; S holds behind each operation but number z. -/
def wpAnyG (P : Program) (md : Region.Mode) (ops : Array Oper) (Q : Exit → Act → World → Prop) (S : World → Prop) (z : Nat) : Nat → Array Bool → Act → World → Prop
  | 0, listed, a, w => Region.ready md ops listed = [] ∧ Q .normal a w
  | fuel + 1, listed, a, w => (Region.ready md ops listed = [] → Q .normal a w) ∧ ∀ i ∈ Region.ready md ops listed, wpOp P ops Q i (fun a' w' => (i ≠ z → S w') ∧ wpAnyG P md ops Q S z fuel (listed.setIfInBounds i true) a' w') a w
theorem wpAny_of_G : ∀ (fuel : Nat) (listed : Array Bool) (a : Act) (w : World), wpAnyG P md ops Q S z fuel listed a w → wpAny P md ops Q fuel listed a w
  | 0, _, _, _, h => h
  | fuel + 1, _, _, _, h => ⟨h.1, fun i hi => wpOp_mono (fun a' w' h' => wpAny_of_G fuel _ a' w' h'.2) (h.2 i hi)⟩
theorem wpAnyG_first {i : Nat} {oi : Oper} {v : Value} (hi : ops[i]? = some oi) (hsel : ∀ (j : Nat) (o : Oper) cs b, ops[j]? = some o → o.op ≠ .select cs b) (hz : ∃ oz, ops[z]? = some oz ∧ ∃ e ∈ oz.after, Region.binds md e = true ∧ e.on = i) (hiz : i ≠ z)
    (hQ : ∀ c a w, Q (.panic c) (a.put oi.dst v) w → Q (.panic c) a w) :
    ∀ (fuel : Nat) (listed : Array Bool) (a : Act) (w : World),
      (∀ j oj, ops[j]? = some oj → j ≠ i → listed.getD j true = false → (∀ e ∈ oj.after, Region.binds md e = true → e.on ≠ i) → oi.apart ops oj = true) →
      i ∈ Region.ready md ops listed → YieldsIf P ops S oi v a → S w →
      wpAnyG P md ops Q S z fuel (listed.setIfInBounds i true) (a.put oi.dst v) w → wpAnyG P md ops Q S z (fuel + 1) listed a w := by
  intro fuel
  have unlisted : ∀ {listed : Array Bool}, i ∈ Region.ready md ops listed → listed.getD i false = true → False := fun {listed} hr h1 => by
    have h0 := (mem_ready.1 hr).1
    rcases Nat.lt_or_ge i listed.size with h' | h'
    · simp [h'] at h0 h1
      rw [h0] at h1
      cases h1
    · simp [Array.getElem?_eq_none h'] at h1
  induction fuel with
  | zero =>
    intro listed a w _ hr hy hS H
    refine ⟨fun h => (by rw [h] at hr; cases hr), fun j hj => ?_⟩
    by_cases hji : j = i
    · subst hji
      exact hy.wpOp hi hS ⟨fun _ => hS, H⟩
    · have := ready_mono hj hji
      rw [H.1] at this
      cases this
  | succ fuel ih =>
    intro listed a w hfree hr hy hS H
    refine ⟨fun h => (by rw [h] at hr; cases hr), fun j hj => ?_⟩
    by_cases hji : j = i
    · subst hji
      exact hy.wpOp hi hS ⟨fun _ => hS, H⟩
    · by_cases hjz : j = z
      · obtain ⟨oz, hoz, e, he, hb, heq⟩ := hz
        obtain ⟨_, oj, hoj, hall⟩ := mem_ready.1 hj
        rw [hjz, hoz] at hoj
        injection hoj with hoj
        subst hoj
        have h1 := hall e he hb
        rw [heq] at h1
        exact (unlisted hr h1).elim
      have h1 := H.2 j (ready_mono hj hji)
      obtain ⟨hjun, oj, hoj, hall⟩ := mem_ready.1 hj
      have hnot : ∀ e ∈ oj.after, Region.binds md e = true → e.on ≠ i := fun e he hb heq => by
        have h1 := hall e he hb
        rw [heq] at h1
        exact unlisted hr h1
      have h2 := wpOp_putIf hoj (hfree j oj hoj hji hjun hnot) (fun cs b => hsel i oi cs b hi) (fun cs b => hsel j oj cs b hoj) hQ hy h1
      have hfree' : ∀ k ok, ops[k]? = some ok → k ≠ i → (listed.setIfInBounds j true).getD k true = false →
          (∀ e ∈ ok.after, Region.binds md e = true → e.on ≠ i) → oi.apart ops ok = true := fun k ok hk hki hun hno => by
        refine hfree k ok hk hki ?_ hno
        by_cases hjk : j = k
        · subst hjk
          exact hjun
        · rw [getD_set_ne true hjk] at hun
          exact hun
      refine wpOp_mono (fun a' w' h3 => ⟨h3.2.1, ih (listed.setIfInBounds j true) a' w' hfree' (ready_mono hr (Ne.symm hji)) h3.1 (h3.2.1 hjz) ?_⟩) h2
      rw [Array.setIfInBounds_comm _ _ hji]
      exact h3.2.2
theorem wpAnyG_take {i : Nat} {oi : Oper} {v : Value} {fuel : Nat} {listed : Array Bool} {a : Act} {w : World} (hi : ops[i]? = some oi)
    (hs : Region.noSelect ops = true) (hz : (ops[z]?).map (fun oz => oz.after.any fun e => Region.binds md e && (e.on == i)) = some true) (hiz : i ≠ z) (hf : Region.free md ops listed i = true) (hr : (Region.ready md ops listed).contains i = true)
    (hQ : ∀ c a w, Q (.panic c) (a.put oi.dst v) w → Q (.panic c) a w) (hy : YieldsIf P ops S oi v a) (hS : S w)
    (h : wpAnyG P md ops Q S z fuel (listed.setIfInBounds i true) (a.put oi.dst v) w) : wpAnyG P md ops Q S z (fuel + 1) listed a w := by
  refine wpAnyG_first hi (Region.noSelect_spec hs) ?_ hiz hQ fuel listed a w (Region.free_spec hi hf) (by simpa using hr) hy hS h
  obtain ⟨oz, hoz, ha⟩ := Option.map_eq_some_iff.1 hz
  obtain ⟨e, he, hb⟩ := Array.any_eq_true'.1 ha
  simp only [Bool.and_eq_true, beq_iff_eq] at hb
  exact ⟨oz, hoz, e, he, hb.1, hb.2⟩
theorem takeG (i : Nat) (d : Option Tmp) {v : Value} {fuel : Nat} {listed : Array Bool} {a : Act} {w : World} (hd : (ops[i]?).map Oper.dst = some d) (hw : (ops[i]?).map (fun o => Region.wanted o (yielded ops a.tmps)) = some true)
    (hs : Region.noSelect ops = true) (hz : (ops[z]?).map (fun oz => oz.after.any fun e => Region.binds md e && (e.on == i)) = some true) (hiz : i ≠ z) (hf : Region.free md ops listed i = true) (hr : (Region.ready md ops listed).contains i = true)
    (hQ : ∀ c a w, Q (.panic c) (a.put d v) w → Q (.panic c) a w) (hy : ∀ o, ops[i]? = some o → ∀ w, S w → (execOp a.eval o).run P w = .ok (.value v) w) (hS : S w)
    (h : wpAnyG P md ops Q S z fuel (listed.setIfInBounds i true) (a.put d v) w) : wpAnyG P md ops Q S z (fuel + 1) listed a w := by
  cases ho : ops[i]? with
  | none => rw [ho] at hd; cases hd
  | some o =>
    rw [ho] at hd hw
    simp only [Option.map_some, Option.some.injEq] at hd hw
    subst hd
    exact wpAnyG_take ho hs hz hiz hf hr hQ (Or.inl ⟨hw, hy o ho⟩) hS h
theorem skipG (i : Nat) (d : Option Tmp) {fuel : Nat} {listed : Array Bool} {a : Act} {w : World} (hd : (ops[i]?).map Oper.dst = some d) (hw : (ops[i]?).map (fun o => Region.wanted o (yielded ops a.tmps)) = some false)
    (hs : Region.noSelect ops = true) (hz : (ops[z]?).map (fun oz => oz.after.any fun e => Region.binds md e && (e.on == i)) = some true) (hiz : i ≠ z) (hf : Region.free md ops listed i = true) (hr : (Region.ready md ops listed).contains i = true)
    (hQ : ∀ c a w, Q (.panic c) (a.put d undef) w → Q (.panic c) a w) (hS : S w)
    (h : wpAnyG P md ops Q S z fuel (listed.setIfInBounds i true) (a.put d undef) w) : wpAnyG P md ops Q S z (fuel + 1) listed a w := by
  cases ho : ops[i]? with
  | none => rw [ho] at hd; cases hd
  | some o =>
    rw [ho] at hd hw
    simp only [Option.map_some, Option.some.injEq] at hd hw
    subst hd
    exact wpAnyG_take ho hs hz hiz hf hr hQ (Or.inr ⟨hw, rfl⟩) hS h
/-- One operation alone may come up, and it is not the last. -/
theorem readyG {i : Nat} {o : Oper} {fuel : Nat} {listed : Array Bool} {a : Act} {w : World} (hr : Region.ready md ops listed = [i]) (ho : ops[i]? = some o)
    (h : ∀ K' : Act → World → Prop, Shut (∀ a w, S w → (S w → wpAnyG P md ops Q S z fuel (listed.setIfInBounds i true) a w) → K' a w) → if Region.wanted o (yielded ops a.tmps) = true then Oper.wp P o a w K' Q else K' (a.put o.dst undef) w) : wpAnyG P md ops Q S z (fuel + 1) listed a w :=
  ⟨fun h0 => (by rw [hr] at h0; cases h0), fun j hj => by
    rw [hr, List.mem_singleton] at hj
    subst hj
    exact wpOp_step ho (fun K' hK => h K' (fun a w hS hW => hK a w ⟨fun _ => hS, hW hS⟩))⟩
/-- The last operation comes up. -/
theorem lastG {o : Oper} {fuel : Nat} {listed : Array Bool} {a : Act} {w : World} (hr : Region.ready md ops listed = [z]) (ho : ops[z]? = some o)
    (h : ∀ K' : Act → World → Prop, Shut (∀ a w, wpAnyG P md ops Q S z fuel (listed.setIfInBounds z true) a w → K' a w) → if Region.wanted o (yielded ops a.tmps) = true then Oper.wp P o a w K' Q else K' (a.put o.dst undef) w) : wpAnyG P md ops Q S z (fuel + 1) listed a w :=
  ⟨fun h0 => (by rw [hr] at h0; cases h0), fun j hj => by
    rw [hr, List.mem_singleton] at hj
    subst hj
    exact wpOp_step ho (fun K' hK => h K' (fun a w hW => hK a w ⟨fun hne => absurd rfl hne, hW⟩))⟩
theorem doneG {listed : Array Bool} {a : Act} {w : World} (hr : Region.ready md ops listed = []) (h : Q .normal a w) : ∀ fuel, wpAnyG P md ops Q S z fuel listed a w
  | 0 => ⟨hr, h⟩
  | _ + 1 => ⟨fun _ => h, by rw [hr]; simp⟩
/-- The beginning. -/
theorem beginG (z : Nat) {id : Nat} {a : Act} {w : World} (hm : P.follows .mixedOrders = true) (hS : S w.drew)
    (h : S w.drew → wpAnyG P .any ops Q S z ops.size (Array.replicate ops.size false) a w.drew) : (Code.region id ops true).wp P Q a w :=
  wp_region_any hm (wpAny_of_G _ _ _ _ (h hS))
end
end Go.Proofs.Ytikfcpkobgejmaa

/- reference: grow, Full. -/
namespace Go.Proofs.Ytikfcpkobgejmaa
open Go.RowKit

theorem slT_rnode : SlT Try.prog 28 34 4 48 := SlT.of Try.underlying28 (by kernel_rfl) (by decide)
def GrowPost (v : Int) (B : Nat) (Ak : Option Addr) (k ck d : Nat) (w : World) (e : Ending) (w' : World) : Prop := ∃ A' m' c' N', e = .returned (.agg #[.int .i64 v, .slice A' m' c']) ∧ k < m' ∧ m' < k + 2 ^ (d + 1) ∧ NdsO w' B 34 A' m' c' N' ∧ Mod (fun b => (Value.slice Ak k ck).ownBlock = some b) w w' ∧ (∀ g, (Value.slice A' m' c').ownBlock = some g → (Value.slice Ak k ck).ownBlock = some g ∨ w.heap.size ≤ g)
def GrowSpec (n : Nat) (A : Option Addr) (m c : Nat) (v : Int) (w0 : World) (d : Nat) : Prop :=
  ∀ (Ak : Option Addr) (k ck : Nat) (N : List Nd) (Ai : Option Addr) (ni ci : Nat) (Ao : Option Addr) (no co : Nat) (inn out D : List Int) (w : World) (_HB : Hid (Below w0.heap.size w0 w)) (_HN : Hid (NdsO w w0.heap.size 34 Ak k ck N)) (_HI : Hid (TI w (Ai, ni, ci) inn)) (_HO : Hid (TI w (Ao, no, co) out)) (_HD : Hid (DI m D inn out)) (_hd : D.count 0 ≤ d) (_hni : ni + no + d ≤ 1000) (_hk : k + 2 ^ (d + 1) ≤ 100000),
    Calls Try.prog 46 #[.int .i64 (n : Int), .slice A m c, .agg #[.int .i64 v, .slice Ak k ck], .slice Ai ni ci, .slice Ao no co] w (GrowPost v w0.heap.size Ak k ck d w)
theorem own_not_int {w : World} {B k c : Nat} {A : Option Addr} {N : List Nd} (h : NdsO w B 34 A k c N) : ∀ b, (Value.slice A k c).ownBlock = some b → ¬ Ty w b 3 := fun b hb => (own_ty h.row hb).not (by decide)
theorem own_not_pf {w : World} {B k c : Nat} {A : Option Addr} {N : List Nd} (h : NdsO w B 34 A k c N) : ∀ b, (Value.slice A k c).ownBlock = some b → ¬ Ty w b 30 := fun b hb => (own_ty h.row hb).not (by decide)
theorem pf_not {w : World} {g : Nat} {cs : Array Value} (h : Blk w g 30 cs) : ¬ Ty w g 3 ∧ ¬ Ty w g 34 := ⟨h.ty.not (by decide), h.ty.not (by decide)⟩
theorem two_not {w : World} {g : Nat} {cs cs' : Array Value} (h : Blk w g 30 cs) (h' : Blk w (g + 1) 30 cs') : ∀ b, (b = g ∨ b = g + 1) → ¬ Ty w b 3 ∧ ¬ Ty w b 34 := fun b hb => by
  rcases hb with rfl | rfl
  · exact pf_not h
  · exact pf_not h'
set_option maxRecDepth 100000 in
set_option maxHeartbeats 16000000 in
theorem grow_step (n : Nat) (A : Option Addr) (m c : Nat) (v : Int) (L : List Bd) (w0 : World) (HL : Hid (Bds w0 (A, m, c) L)) (hm : m ≤ 10) (hn : n ≤ 8) (HLS : Hid (∀ b ∈ L, b.s.2.1 ≤ 1000000)) (d : Nat) (IH : Hid (∀ d', d = d' + 1 → GrowSpec n A m c v w0 d')) : GrowSpec n A m c v w0 d := by
  intro Ak k ck N Ai ni ci Ao no co inn out D w HB HN HI HO HD hd hni hk
  have HLL := Lib.hid HL.out.rows.len
  dsimp only at HLL
  have HDL : Hid (DI L.length D inn out) := Lib.hid (by rw [HLL.out]; exact HD.out)
  have hpos : 2 ≤ 2 ^ (d + 1) := by rw [Nat.pow_succ]; have := Nat.one_le_two_pow (n := d); omega
  have hk2 : k ≤ 99998 := by omega
  have HK := Lib.hid hk
  have HNI := Lib.hid hni
  clear hpos hk hni
  go_enter Try.func46, Try.ntmps46
  go_wp2
  have hb1 := ((Below.refl w.heap.size w).alloc (Nat.le_refl _) (.cells #[.int .i64 v, .slice Ak k ck] 30)).alloc (by simp) (.cells #[.int .i64 0, .slice none 0 0] 30)
  have hp1 := Blk.alloc (Blk.new w 30 #[.int .i64 v, .slice Ak k ck]) (.cells #[.int .i64 0, .slice none 0 0] 30)
  have hr1 := Blk.new (w.alloc (.cells #[.int .i64 v, .slice Ak k ck] 30)) 30 #[.int .i64 0, .slice none 0 0]
  rw [World.size_alloc] at hr1
  obtain ⟨w1, hw1⟩ : ∃ w1, (w.alloc (.cells #[.int .i64 v, .slice Ak k ck] 30)).alloc (.cells #[.int .i64 0, .slice none 0 0] 30) = w1 := ⟨_, rfl⟩
  rw [hw1] at hb1 hp1 hr1 ⊢
  obtain ⟨gp, hgp⟩ : ∃ gp, w.heap.size = gp := ⟨_, rfl⟩
  rw [hgp] at hp1 hr1 ⊢
  have HGP := Lib.hid hgp
  have HB1 := Lib.hid hb1
  have HP1 := Lib.hid hp1
  have HR1 := Lib.hid hr1
  clear hb1 hp1 hr1 hw1 hgp
  go_loopw [12] (fun iv wr => ∃ i : Nat, i ≤ m ∧ iv = .int .i64 (i : Int) ∧ Hid (Blk wr gp 30 #[.int .i64 v, .slice Ak k ck]) ∧ Hid (Blk wr (gp + 1) 30 #[.int .i64 0, .slice none 0 0]) ∧ Hid (Below w.heap.size w wr)) (fun iv _ => m - (intOf iv).toNat)
  case atStart => exact ⟨0, by omega, rfl, HP1, HR1, HB1⟩
  case round =>
    clear HP1 HR1 HB1
    obtain ⟨i, hi, rfl, HP, HR, HBr⟩ := hrel
    by_cases him : i < m
    rotate_left
    · as_aux_lemma =>
      obtain rfl : i = m := by omega
      have HBD : Hid (Below wr.heap.size wr wr.drew) := Lib.hid (below_drewN (Below.refl _ _) 1)
      obtain ⟨i0, hi0, hz0, hz1, hz2⟩ := info_parts int_info
      obtain ⟨w2, hmk, hown, hb2, hlt2⟩ := make_all (P := Try.prog) wr.drew 22 3 i0 _ 8 Try.underlying22 hi0 hz0 hz1 hz2 rfl .i64 .i64 n (by omega) (by unfold maxLen; omega)
      clear hi0 hz0 hz1 hz2
      have hd2 : wr.drew.heap.size = wr.heap.size := rfl
      rw [hd2] at hmk hown hlt2
      have HB2 : Hid (Below wr.heap.size wr w2) := Lib.hid (bt HBD.out hb2)
      have HN2 : Hid (NdsO w2 w0.heap.size 34 Ak k ck N) := Lib.hid (HN.out.all (bt HBr.out HB2.out))
      have hbw2 : w0.heap.size ≤ w2.heap.size := by have := HB.out.size; have := HBr.out.size; have := HB2.out.size; omega
      obtain ⟨A3, c3, w3, hr3, ho3, hb3, hm3, hg3⟩ := app_elem2 (w := w2) 28 slT_rnode HN2.out.row #[.int .i64 (-1), .int .i64 0, .int .i64 0, .slice (some ⟨wr.heap.size, 0, none⟩) n n] rfl (by intro u hu; simp at hu; rcases hu with rfl | rfl | rfl | rfl <;> rfl) (by omega) (by decide) hbw2
      have HTI : Hid (TI w2 (some ⟨wr.heap.size, 0, none⟩, n, n) (List.replicate n 0)) := Lib.hid (TI.own (B := wr.heap.size) (by unfold OwnI; rw [List.map_replicate]; exact hown))
      have HP3 : Hid (Blk w3 gp 30 #[.int .i64 v, .slice Ak k ck]) := Lib.hid (hm3.blk (HP.out.all HB2.out) (fun hf => own_not_pf HN2.out _ hf (HP.out.all HB2.out).ty))
      have HR3' : Hid (Blk w3 (gp + 1) 30 #[.int .i64 0, .slice none 0 0]) := Lib.hid (hm3.blk (HR.out.all HB2.out) (fun hf => own_not_pf HN2.out _ hf (HR.out.all HB2.out).ty))
      have HN3 : Hid (NdsO w3 w0.heap.size 34 A3 (k + 1) c3 (N ++ [⟨-1, 0, 0, (some ⟨wr.heap.size, 0, none⟩, n, n), List.replicate n 0⟩])) := Lib.hid ⟨by rw [List.length_append, HN2.out.len]; rfl, by rw [List.flatMap_append]; exact ho3, fun x hx => by
        rcases List.mem_append.1 hx with h | h
        · exact (HN2.out.ok x h).mod hm3 (own_not_int HN2.out)
        · rw [List.mem_singleton] at h
          subst h
          exact HTI.out.mod hm3 (own_not_int HN2.out), fun x hx => by
        rcases List.mem_append.1 hx with h | h
        · exact HN2.out.fine x h
        · rw [List.mem_singleton] at h
          subst h
          exact ⟨hn, by simp, by simp, by simp, fun p hp => (List.mem_replicate.1 hp).2⟩⟩
      have HA2 : Hid (Below wr.heap.size wr (w2.alloc (.cells #[.int .i64 (-1), .int .i64 0, .int .i64 0, .slice (some ⟨wr.heap.size, 0, none⟩) n n] 34))) := Lib.hid (HB2.out.alloc HB2.out.size _)
      have HAP := Lib.hid hr3
      have HM3 : Hid (Mod (fun b => (Value.slice Ak k ck).ownBlock = some b) w w3) := Lib.hid ((Mod.of_below _ (bt HBr.out HB2.out)).trans hm3 (fun b hb => .inl hb))
      have HG3 : Hid (∀ g, (Value.slice A3 (k + 1) c3).ownBlock = some g → (Value.slice Ak k ck).ownBlock = some g ∨ w.heap.size ≤ g) := Lib.hid (fun g hg => (hg3 g hg).imp id (fun h => by have := HBr.out.size; have := HB2.out.size; omega))
      clear hr3 ho3 hb3 hm3 hg3 hbw2 hd2 hown
      have HMK := Lib.hid hmk
      clear hmk
      go_wp2
      refine beginG (S := (fun w' => w'.cell? ⟨gp, 0, none⟩ = some (.int .i64 v) ∧ w'.cell? ⟨gp, 1, none⟩ = some (.slice Ak k ck) ∧ w'.frozen? ⟨gp, 0, none⟩ = false ∧ w'.frozen? ⟨gp, 1, none⟩ = false)) 8 (by kernel_rfl) ⟨(HP.out.all HBD.out).cell 0, (HP.out.all HBD.out).cell 1, (HP.out.all HBD.out).frozen 0, (HP.out.all HBD.out).frozen 1⟩ (fun hHeld => ?_)
      refine takeG 0 (some 73) (v := ?_) (by rfl) (by rfl) (by kernel_rfl) (by kernel_rfl) (by decide) (by kernel_rfl) (by kernel_rfl) (fun _ _ _ h => h) ?_ (by assumption) ?_
      rotate_left
      · (intro o ho w hSw; obtain ⟨x0, x1, x2, x3⟩ := hSw; cases ho; go_simp; try with_reducible rfl)
      try simp only [Act.put, List.setIfInBounds_toArray, List.set_cons_zero, List.set_cons_succ]
      refine takeG 1 (some 74) (v := ?_) (by rfl) (by rfl) (by kernel_rfl) (by kernel_rfl) (by decide) (by kernel_rfl) (by kernel_rfl) (fun _ _ _ h => h) ?_ (by assumption) ?_
      rotate_left
      · (intro o ho w hSw; obtain ⟨x0, x1, x2, x3⟩ := hSw; cases ho; go_simp; try with_reducible rfl)
      try simp only [Act.put, List.setIfInBounds_toArray, List.set_cons_zero, List.set_cons_succ]
      refine takeG 2 (some 75) (v := ?_) (by rfl) (by rfl) (by kernel_rfl) (by kernel_rfl) (by decide) (by kernel_rfl) (by kernel_rfl) (fun _ _ _ h => h) ?_ (by assumption) ?_
      rotate_left
      · (intro o ho w hSw; obtain ⟨x0, x1, x2, x3⟩ := hSw; cases ho; go_simp; try with_reducible rfl)
      try simp only [Act.put, List.setIfInBounds_toArray, List.set_cons_zero, List.set_cons_succ]
      refine readyG (i := 3) (by kernel_rfl) rfl (fun K hK => ?_)
      have hmk := HMK.out
      go_simp
      refine hK.out _ _ ?_ (fun hHa => ?_)
      · exact ⟨(HP.out.all HB2.out).cell 0, (HP.out.all HB2.out).cell 1, (HP.out.all HB2.out).frozen 0, (HP.out.all HB2.out).frozen 1⟩
      clear hK K
      (try simp only [Act.put]); (try simp only [List.setIfInBounds_toArray]); (try simp only [List.set_cons_succ]); (try simp only [List.set_cons_zero])
      refine takeG 4 (some 77) (v := ?_) (by rfl) (by rfl) (by kernel_rfl) (by kernel_rfl) (by decide) (by kernel_rfl) (by kernel_rfl) (fun _ _ _ h => h) ?_ (by assumption) ?_
      rotate_left
      · (intro o ho w hSw; obtain ⟨x0, x1, x2, x3⟩ := hSw; cases ho; go_simp; try with_reducible rfl)
      (try simp only [Act.put]); (try simp only [List.setIfInBounds_toArray]); (try simp only [List.set_cons_succ]); (try simp only [List.set_cons_zero])
      refine readyG (i := 5) (by kernel_rfl) rfl (fun K hK => ?_)
      go_simp
      refine hK.out _ _ ?_ (fun hHb => ?_)
      · exact ⟨(HP.out.all HA2.out).cell 0, (HP.out.all HA2.out).cell 1, (HP.out.all HA2.out).frozen 0, (HP.out.all HA2.out).frozen 1⟩
      clear hK K
      try simp only [Act.put, List.setIfInBounds_toArray, List.set_cons_zero, List.set_cons_succ]
      refine readyG (i := 6) (by kernel_rfl) rfl (fun K hK => ?_)
      refine step_app (t := 28) HAP.out (by kernel_rfl) (by rfl) (by rfl) (by rfl) ?_
      refine hK.out _ _ ?_ (fun hHc => ?_)
      · exact ⟨(HP3.out).cell 0, (HP3.out).cell 1, (HP3.out).frozen 0, (HP3.out).frozen 1⟩
      clear hK K
      (try simp only [Act.put]); (try simp only [List.setIfInBounds_toArray]); (try simp only [List.set_cons_succ]); (try simp only [List.set_cons_zero])
      refine takeG 7 (some 80) (v := ?_) (by rfl) (by rfl) (by kernel_rfl) (by kernel_rfl) (by decide) (by kernel_rfl) (by kernel_rfl) (fun _ _ _ h => h) ?_ (by assumption) ?_
      rotate_left
      · (intro o ho w hSw; obtain ⟨x0, x1, x2, x3⟩ := hSw; cases ho; go_simp; try with_reducible rfl)
      (try simp only [Act.put]); (try simp only [List.setIfInBounds_toArray]); (try simp only [List.set_cons_succ]); (try simp only [List.set_cons_zero])
      refine lastG (by kernel_rfl) rfl (fun K hK => ?_)
      go_simp
      refine hK.out _ _ ?_
      clear hK K
      (try simp only [Act.put]); (try simp only [List.setIfInBounds_toArray]); (try simp only [List.set_cons_succ]); (try simp only [List.set_cons_zero])
      refine doneG (by kernel_rfl) ?_ _
      have HP4 := Lib.hid (HP3.out.set_ 1 (.slice A3 (k + 1) c3))
      have y0 := HP4.out.cell 0
      have y1 := HP4.out.cell 1
      have HR4 := Lib.hid (HR3'.out.far (p := ⟨gp, 1, none⟩) (by simp) (.slice A3 (k + 1) c3))
      have HR5 := Lib.hid ((HR4.out.set_ 0 (.int .i64 v)).set_ 1 (.slice A3 (k + 1) c3))
      have u0 := HR5.out.cell 0
      have u1 := HR5.out.cell 1
      have u2 := HR4.out.frozen 0
      have u3 := HR4.out.frozen 1
      have u4 := HR4.out.cell 0
      have u5 := HR4.out.cell 1
      simp at y0 y1 u0 u1 u4 u5
      go_wp2
      have HZ : Hid (Mod (fun b => b = gp ∨ b = gp + 1) w3 (((w3.setCell ⟨gp, 1, none⟩ (.slice A3 (k + 1) c3)).setCell ⟨gp + 1, 0, none⟩ (.int .i64 v)).setCell ⟨gp + 1, 1, none⟩ (.slice A3 (k + 1) c3))) := Lib.hid ((((Mod.refl _ w3).set (.inl (.inl rfl)) _).set (.inl (.inr rfl)) _).set (.inl (.inr rfl)) _)
      refine bodyPost_ret (v := .agg #[.int .i64 v, .slice A3 (k + 1) c3]) (by simp [results, Try.results46, go_sem, u0, u1]) rfl ⟨A3, k + 1, c3, _, rfl, by omega, by have := Nat.one_le_two_pow (n := d); rw [Nat.pow_succ]; omega, HN3.out.mod HZ.out (two_not HP3.out HR3'.out), HM3.out.trans HZ.out (fun b hb => .inr (by rw [HGP.out]; omega)), HG3.out⟩
    have hni2 : ni ≤ 1000 := by have := HNI.out; omega
    have hno2 : no ≤ 1000 := by have := HNI.out; omega
    have hrp := rposs_any A m c Ai ni ci Ao no co L inn out i wr (Lib.hid (HL.out.all (bt HB.out HBr.out))) (Lib.hid (HI.out.all HBr.out).nin) (Lib.hid (HO.out.all HBr.out).nin) him (by omega) (by omega) (Lib.hid HD.out.range) HLS
    rw [rPoss_eq HDL.out (by rw [HLL.out]; exact him)] at hrp
    have HRP := Lib.hid hrp
    have HQ : Hid (possB L D (i : Int) = true → D[i]?.getD 0 = 0) := Lib.hid (fun hq => by
      rw [possB_in (by rw [HLL.out]; exact him)] at hq
      simp only [Bool.and_eq_true, decide_eq_true_eq] at hq
      exact hq.1)
    clear hrp
    obtain ⟨r, hr⟩ : ∃ r, possB L D (i : Int) = r := ⟨_, rfl⟩
    rw [hr] at HRP HQ
    clear hr
    have hii : (i : Int) < (m : Int) := by omega
    go_wp2_with (fail)
    refine HRP.out.mono ?_
    rintro e w2 ⟨rfl, hb2⟩
    have HBR2 : Hid (Below w.heap.size w w2) := Lib.hid (bt HBr.out hb2)
    have HP2 := Lib.hid (HP.out.all hb2)
    have HR2 := Lib.hid (HR.out.all hb2)
    clear HRP hb2 HP HR
    cases r with
    | false =>
      go_wp2
      exact ⟨⟨i + 1, by omega, by go_num, HP2, HR2, HBR2⟩, by simp [intOf]; omega⟩
    | true => as_aux_lemma =>
      have hd0 := HQ.out rfl
      have hcs := fun x hx => count_set (D := D) (k := i) (x := x) (by rw [HD.out.len]; exact him) hd0 hx
      have hcs1 := hcs 1 (by decide)
      have hcs2 := hcs 2 (by decide)
      obtain ⟨d', hdd⟩ : ∃ d', d = d' + 1 := ⟨d - 1, by omega⟩
      have HIH := Lib.hid (IH.out d' hdd)
      have HCT : Hid ((D.set i 1).count 0 ≤ d' ∧ (D.set i 2).count 0 ≤ d') := Lib.hid ⟨by omega, by omega⟩
      have HDD := Lib.hid hdd
      have HD0 := Lib.hid hd0
      have HP2' : Hid (2 ^ (d + 1) = 2 ^ (d' + 1) + 2 ^ (d' + 1)) := Lib.hid (by rw [hdd, Nat.pow_succ]; omega)
      have HDK : Hid (k + 1 + 2 ^ (d' + 1) ≤ 1000000) := Lib.hid (by have h1 := HK.out; rw [hdd, Nat.pow_succ] at h1; have h2 := Nat.one_le_two_pow (n := d' + 1); omega)
      clear hd0 hcs hcs1 hcs2 hdd hd IH HQ
      have HN2 := Lib.hid (HN.out.all HBR2.out)
      have hbw2 : w0.heap.size ≤ w2.heap.size := by have := HB.out.size; have := HBR2.out.size; omega
      have hgpw : gp + 1 < w2.heap.size := HR2.out.lt
      obtain ⟨A3, c3, w3, hr3, ho3, hb3, hm3, hg3⟩ := app_elem2 (w := w2) 28 slT_rnode HN2.out.row #[.int .i64 (i : Int), .int .i64 ((k : Int) + 1), .int .i64 0, .slice none 0 0] rfl (by intro u hu; simp at hu; rcases hu with rfl | rfl | rfl | rfl <;> rfl) (by omega) (by decide) hbw2
      have HP3 : Hid (Blk w3 gp 30 #[.int .i64 v, .slice Ak k ck]) := Lib.hid (hm3.blk HP2.out (fun hf => own_not_pf HN2.out _ hf HP2.out.ty))
      have HR3 : Hid (Blk w3 (gp + 1) 30 #[.int .i64 0, .slice none 0 0]) := Lib.hid (hm3.blk HR2.out (fun hf => own_not_pf HN2.out _ hf HR2.out.ty))
      have HN3 : Hid (NdsO w3 w0.heap.size 34 A3 (k + 1) c3 (N ++ [⟨(i : Int), (k : Int) + 1, 0, (none, 0, 0), []⟩])) := Lib.hid ⟨by rw [List.length_append, HN2.out.len]; rfl, by rw [List.flatMap_append]; exact ho3, fun x hx => by
        rcases List.mem_append.1 hx with h | h
        · exact (HN2.out.ok x h).mod hm3 (own_not_int HN2.out)
        · rw [List.mem_singleton] at h
          subst h
          exact TI.nil _, fun x hx => by
        rcases List.mem_append.1 hx with h | h
        · exact HN2.out.fine x h
        · rw [List.mem_singleton] at h
          subst h
          exact ⟨by simp, by dsimp only; omega, by dsimp only; omega, by simp, fun p hp => by simp at hp⟩⟩
      have HI3 := Lib.hid ((HI.out.all HBR2.out).mod hm3 (own_not_int HN2.out))
      have HO3 := Lib.hid ((HO.out.all HBR2.out).mod hm3 (own_not_int HN2.out))
      have HM3 : Hid (Mod (fun b => (Value.slice Ak k ck).ownBlock = some b) w w3) := Lib.hid ((Mod.of_below _ HBR2.out).trans hm3 (fun b hb => .inl hb))
      have HG3 : Hid (∀ g, (Value.slice A3 (k + 1) c3).ownBlock = some g → (Value.slice Ak k ck).ownBlock = some g ∨ w.heap.size ≤ g) := Lib.hid (fun g hg => (hg3 g hg).imp id (fun h => by have := HBR2.out.size; omega))
      have HBS : Hid (Below w0.heap.size w0 w3) := Lib.hid ((bt HB.out HBR2.out).trans hb3)
      have HAP := Lib.hid hr3
      have q1 := HP2.out.cell 1
      have e1 := HP3.out.cell 1
      have e2 := HP3.out.frozen 1
      simp at q1 e1
      have hm4 : Mod (fun b => b = gp ∨ b = gp + 1) w3 (w3.setCell ⟨gp, 1, none⟩ (.slice A3 (k + 1) c3)) := (Mod.refl _ w3).set (.inl (.inl rfl)) _
      have htn := two_not HP3.out HR3.out
      have HP4 : Hid (Blk (w3.setCell ⟨gp, 1, none⟩ (.slice A3 (k + 1) c3)) gp 30 #[.int .i64 v, .slice A3 (k + 1) c3]) := Lib.hid (HP3.out.set_ 1 _)
      have HR4 : Hid (Blk (w3.setCell ⟨gp, 1, none⟩ (.slice A3 (k + 1) c3)) (gp + 1) 30 #[.int .i64 0, .slice none 0 0]) := Lib.hid (HR3.out.far (p := ⟨gp, 1, none⟩) (by simp) _)
      have HN4 := Lib.hid (HN3.out.mod hm4 htn)
      have HI4 := Lib.hid (HI3.out.mod hm4 (fun b hb => (htn b hb).1))
      have HO4 := Lib.hid (HO3.out.mod hm4 (fun b hb => (htn b hb).1))
      have HM4 := Lib.hid (HM3.out.trans hm4 (fun b hb => .inr (by rw [HGP.out]; omega)))
      have HB4 : Hid (Below w0.heap.size w0 (w3.setCell ⟨gp, 1, none⟩ (.slice A3 (k + 1) c3))) := Lib.hid (HBS.out.setCell (by have := HB.out.size; have := HGP.out; simp; omega) _)
      clear hr3 ho3 hb3 hm3 hg3 hm4 htn HP3 HR3 HN3 HI3 HO3 HM3 HBS HN2 HR2 hbw2
      obtain ⟨w4, hw4⟩ : ∃ w4, w3.setCell ⟨gp, 1, none⟩ (.slice A3 (k + 1) c3) = w4 := ⟨_, rfl⟩
      have HW4 := Lib.hid hw4
      rw [hw4] at HP4 HR4 HN4 HI4 HO4 HM4 HB4
      clear hw4
      obtain ⟨A4, c4, w5, hr4, ho4, hb4⟩ := app_ints (w := w4) (s := (Ai, ni, ci)) (xs := inn) w4.heap.size 22 HI4.out.nin (by dsimp only; omega) (Nat.le_refl _)
      unfold slV at hr4
      dsimp only at hr4 ho4
      have HA4 := Lib.hid hr4
      have HO5 := Lib.hid ho4
      have HB5 : Hid (Below w4.heap.size w4 w5) := Lib.hid hb4
      clear hr4 ho4 hb4
      have HD6 : Hid (Below w4.heap.size w4 w5.drew) := Lib.hid (bt HB5.out (below_drewN (Below.refl _ _) 1))
      obtain ⟨A6, c6, w6, hr6, ho6, hb6⟩ := app_int (w := w5.drew) 22 (i : Int) (HO5.out.all (below_drewN (Below.refl w5.heap.size w5) 1)) (by omega) HD6.out.size
      have HR6 := Lib.hid hr6
      have HOI6 := Lib.hid ho6
      have HE6 : Hid (Below w4.heap.size w4 (w5.drew.alloc (.cells #[.int .i64 (i : Int)] 3))) := Lib.hid (HD6.out.alloc HD6.out.size _)
      have HB6 : Hid (Below w4.heap.size w4 w6) := Lib.hid (HD6.out.trans hb6)
      clear hr6 ho6 hb6
      go_wp2_with (first | (at_builtin; refine wpList_append_run HAP.out (by rfl) (by rfl) (by rfl) (by rfl) ?_) | (at_builtin; rw [HW4.out]; refine wpList_append_run HA4.out (by rfl) (by rfl) (by rfl) (by rfl) ?_))
      have HP6 := Lib.hid (HP4.out.all HB6.out)
      have HN6 := Lib.hid (HN4.out.all HB6.out)
      have HC1 := Lib.hid (HIH.out A3 (k + 1) c3 _ A6 (ni + 1) c6 Ao no co (inn ++ [(i : Int)]) out (D.set i 1) w6 (Lib.hid (HB4.out.trans (HB6.out.mono (by have := HB4.out.size; omega)))) HN6 (Lib.hid (TI.own HOI6.out)) (Lib.hid (HO4.out.all HB6.out)) (Lib.hid (HD.out.win him HD0.out)) HCT.out.1 (by have := HNI.out; have := HDD.out; omega) (by have := HK.out; have := HP2'.out; have := Nat.one_le_two_pow (n := d' + 1); omega))
      clear HW4 HAP HA4 q1 e1 e2 HO5
      refine beginG (S := (fun w' => w'.cell? ⟨gp, 0, none⟩ = some (.int .i64 v) ∧ w'.cell? ⟨gp, 1, none⟩ = some (.slice A3 (k + 1) c3) ∧ w'.frozen? ⟨gp, 0, none⟩ = false ∧ w'.frozen? ⟨gp, 1, none⟩ = false)) 9 (by kernel_rfl) ⟨(HP4.out.all HD6.out).cell 0, (HP4.out.all HD6.out).cell 1, (HP4.out.all HD6.out).frozen 0, (HP4.out.all HD6.out).frozen 1⟩ (fun hHeld => ?_)
      refine takeG 0 (some 44) (v := ?_) (by rfl) (by rfl) (by kernel_rfl) (by kernel_rfl) (by decide) (by kernel_rfl) (by kernel_rfl) (fun _ _ _ h => h) ?_ (by assumption) ?_
      rotate_left
      · (intro o ho w hSw; obtain ⟨x0, x1, x2, x3⟩ := hSw; cases ho; go_simp; try with_reducible rfl)
      try simp only [Act.put, List.setIfInBounds_toArray, List.set_cons_zero, List.set_cons_succ]
      refine takeG 1 (some 45) (v := ?_) (by rfl) (by rfl) (by kernel_rfl) (by kernel_rfl) (by decide) (by kernel_rfl) (by kernel_rfl) (fun _ _ _ h => h) ?_ (by assumption) ?_
      rotate_left
      · (intro o ho w hSw; obtain ⟨x0, x1, x2, x3⟩ := hSw; cases ho; go_simp; try with_reducible rfl)
      try simp only [Act.put, List.setIfInBounds_toArray, List.set_cons_zero, List.set_cons_succ]
      refine takeG 2 (some 46) (v := ?_) (by rfl) (by rfl) (by kernel_rfl) (by kernel_rfl) (by decide) (by kernel_rfl) (by kernel_rfl) (fun _ _ _ h => h) ?_ (by assumption) ?_
      rotate_left
      · (intro o ho w hSw; obtain ⟨x0, x1, x2, x3⟩ := hSw; cases ho; go_simp; try with_reducible rfl)
      try simp only [Act.put, List.setIfInBounds_toArray, List.set_cons_zero, List.set_cons_succ]
      refine takeG 3 (some 47) (v := ?_) (by rfl) (by rfl) (by kernel_rfl) (by kernel_rfl) (by decide) (by kernel_rfl) (by kernel_rfl) (fun _ _ _ h => h) ?_ (by assumption) ?_
      rotate_left
      · (intro o ho w hSw; obtain ⟨x0, x1, x2, x3⟩ := hSw; cases ho; go_simp; try with_reducible rfl)
      try simp only [Act.put, List.setIfInBounds_toArray, List.set_cons_zero, List.set_cons_succ]
      refine takeG 4 (some 48) (v := ?_) (by rfl) (by rfl) (by kernel_rfl) (by kernel_rfl) (by decide) (by kernel_rfl) (by kernel_rfl) (fun _ _ _ h => h) ?_ (by assumption) ?_
      rotate_left
      · (intro o ho w hSw; obtain ⟨x0, x1, x2, x3⟩ := hSw; cases ho; go_simp; try with_reducible rfl)
      try simp only [Act.put, List.setIfInBounds_toArray, List.set_cons_zero, List.set_cons_succ]
      refine takeG 7 (some 51) (v := ?_) (by rfl) (by rfl) (by kernel_rfl) (by kernel_rfl) (by decide) (by kernel_rfl) (by kernel_rfl) (fun _ _ _ h => h) ?_ (by assumption) ?_
      rotate_left
      · (intro o ho w hSw; obtain ⟨x0, x1, x2, x3⟩ := hSw; cases ho; go_simp; try with_reducible rfl)
      try simp only [Act.put, List.setIfInBounds_toArray, List.set_cons_zero, List.set_cons_succ]
      refine readyG (i := 5) (by kernel_rfl) rfl (fun K hK => ?_)
      go_simp
      refine hK.out _ _ ?_ (fun hHa => ?_)
      · exact ⟨(HP4.out.all HE6.out).cell 0, (HP4.out.all HE6.out).cell 1, (HP4.out.all HE6.out).frozen 0, (HP4.out.all HE6.out).frozen 1⟩
      clear hK K
      try simp only [Act.put, List.setIfInBounds_toArray, List.set_cons_zero, List.set_cons_succ]
      refine readyG (i := 6) (by kernel_rfl) rfl (fun K hK => ?_)
      refine step_app (t := 22) HR6.out (by kernel_rfl) (by rfl) (by rfl) (by rfl) ?_
      refine hK.out _ _ ?_ (fun hHb => ?_)
      · exact ⟨(HP4.out.all HB6.out).cell 0, (HP4.out.all HB6.out).cell 1, (HP4.out.all HB6.out).frozen 0, (HP4.out.all HB6.out).frozen 1⟩
      clear hK K
      (try simp only [Act.put]); (try simp only [List.setIfInBounds_toArray]); (try simp only [List.set_cons_succ]); (try simp only [List.set_cons_zero])
      refine readyG (i := 8) (by kernel_rfl) rfl (fun K hK => ?_)
      go_simp
      go_at_call 46
      (with_reducible refine HC1.out.mono ?_)
      rintro e w7 ⟨A7, m7, c7, N7, rfl, hm71, hm72, hN7, hM7, hG7⟩
      have HP7' : Blk w7 gp 30 #[.int .i64 v, .slice A3 (k + 1) c3] := hM7.blk HP6.out (fun hf => own_not_pf HN6.out _ hf HP6.out.ty)
      go_wp2
      refine hK.out _ _ ?_ (fun hHc => ?_)
      · exact ⟨(HP7').cell 0, (HP7').cell 1, (HP7').frozen 0, (HP7').frozen 1⟩
      clear hK K
      try simp only [Act.put, List.setIfInBounds_toArray, List.set_cons_zero, List.set_cons_succ]
      refine lastG (by kernel_rfl) rfl (fun K hK => ?_)
      obtain ⟨f0, f1, f2, f3⟩ := hHc
      go_simp
      refine hK.out _ _ ?_
      clear hK K
      (try simp only [Act.put]); (try simp only [List.setIfInBounds_toArray]); (try simp only [List.set_cons_succ]); (try simp only [List.set_cons_zero])
      refine doneG (by kernel_rfl) ?_ _
      have HP7 := Lib.hid HP7'
      have hR7 : Blk w7 (gp + 1) 30 #[.int .i64 0, .slice none 0 0] := hM7.blk (HR4.out.all HB6.out) (fun hf => own_not_pf HN6.out _ hf (HR4.out.all HB6.out).ty)
      obtain ⟨g7, hg7, hg71, hg72⟩ := own_some hN7.row (by omega)
      subst hg7
      obtain ⟨w8, hw8⟩ : ∃ w8, (w7.setCell ⟨gp, 0, none⟩ (.int .i64 v)).setCell ⟨gp, 1, none⟩ (.slice (some ⟨g7, 0, none⟩) m7 c7) = w8 := ⟨_, rfl⟩
      have hm8 : Mod (fun b => b = gp ∨ b = gp + 1) w7 w8 := by rw [← hw8]; exact ((Mod.refl _ w7).set (.inl (.inl rfl)) _).set (.inl (.inl rfl)) _
      have htn := two_not HP7' hR7
      have HP8 : Hid (Blk w8 gp 30 #[.int .i64 v, .slice (some ⟨g7, 0, none⟩) m7 c7]) := Lib.hid (by rw [← hw8]; exact (HP7'.set_ 0 _).set_ 1 _)
      have HR8 : Hid (Blk w8 (gp + 1) 30 #[.int .i64 0, .slice none 0 0]) := Lib.hid (by rw [← hw8]; exact (hR7.far (p := ⟨gp, 0, none⟩) (by simp) _).far (p := ⟨gp, 1, none⟩) (by simp) _)
      have HN8 := Lib.hid (hN7.mod hm8 htn)
      have HI8 := Lib.hid (((HI4.out.all HB6.out).mod hM7 (own_not_int HN6.out)).mod hm8 (fun b hb => (htn b hb).1))
      have HO8 := Lib.hid (((HO4.out.all HB6.out).mod hM7 (own_not_int HN6.out)).mod hm8 (fun b hb => (htn b hb).1))
      have hwz : w.heap.size ≤ w6.heap.size := by have := HM4.out.size; have := HB6.out.size; omega
      have HM8 := Lib.hid (((HM4.out.then_below HB6.out).trans hM7 (fun b hb => HG3.out b hb)).trans hm8 (fun b hb => .inr (by rw [HGP.out]; omega)))
      have hBB := ((HB4.out.trans (HB6.out.mono HB4.out.size)).size)
      have HB8 : Hid (Below w0.heap.size w0 w8) := Lib.hid (Mod.below (Mod.below (HB4.out.trans (HB6.out.mono HB4.out.size)) hM7 hBB (fun b hb => (own_ge HN6.out.row hb).1)) hm8 (Nat.le_trans hBB hM7.size) (fun b hb => by have := HB.out.size; have := HGP.out; omega))
      have HG8 : Hid (∀ g, (Value.slice (some ⟨g7, 0, none⟩) m7 c7).ownBlock = some g → (Value.slice Ak k ck).ownBlock = some g ∨ w.heap.size ≤ g) := Lib.hid (fun g hg => (hG7 g hg).elim (fun h => HG3.out g h) (fun h => .inr (by omega)))
      obtain ⟨b9, o9, hA9, -, -, -, c9, -, -⟩ := HN8.out.nds.cell (k := k) (by rw [HN8.out.len]; omega)
      dsimp only at hA9
      injection hA9 with hA9
      injection hA9 with hA9 hA10 _
      subst hA9 hA10
      rw [Nat.zero_add] at c9
      replace c9 : ∃ x, w8.cell? ⟨g7, k * 4 + 2, none⟩ = some (.int .i64 x) := ⟨_, c9⟩
      obtain ⟨x9, c9⟩ := c9
      have f9 := HN8.out.row.frozenAt (k * 4 + 2)
      have p8 := HP8.out.cell 1
      simp at p8
      obtain ⟨w9, hw9⟩ : ∃ w9, w8.setCell ⟨g7, k * 4 + 2, none⟩ (.int .i64 (m7 : Int)) = w9 := ⟨_, rfl⟩
      have hm9 : Mod (fun b => b = g7) w8 w9 := by rw [← hw9]; exact Mod.set (F := fun b => b = g7) (p := ⟨g7, k * 4 + 2, none⟩) (Mod.refl _ w8) (.inl rfl) _
      have hty : Ty w8 g7 34 := own_ty HN8.out.row rfl
      have hn9 : ∀ b, b = g7 → ¬ Ty w8 b 3 := fun b hb => by rw [hb]; exact hty.not (by decide)
      have hgg : gp ≠ g7 := fun e => (pf_not HP8.out).2 (by rw [e]; exact hty)
      have hgg2 : gp + 1 ≠ g7 := fun e => (pf_not HR8.out).2 (by rw [e]; exact hty)
      have HN9 : Hid (NdsO w9 w0.heap.size 34 (some ⟨g7, 0, none⟩) m7 c7 (N7.set k ((N7[k]?.getD nd0).upd (m7 : Int)))) := Lib.hid (by rw [← hw9]; exact HN8.out.upd (by omega) (by decide) _ (by have := HDK.out; omega))
      have HP9 : Hid (Blk w9 gp 30 #[.int .i64 v, .slice (some ⟨g7, 0, none⟩) m7 c7]) := Lib.hid (by rw [← hw9]; exact HP8.out.far (by simpa using hgg) _)
      have HR9 : Hid (Blk w9 (gp + 1) 30 #[.int .i64 0, .slice none 0 0]) := Lib.hid (by rw [← hw9]; exact HR8.out.far (by simpa using hgg2) _)
      have HI9 := Lib.hid (HI8.out.mod hm9 hn9)
      have HO9 := Lib.hid (HO8.out.mod hm9 hn9)
      have HM9 := Lib.hid (HM8.out.trans hm9 (fun b hb => HG8.out b (by rw [hb]; rfl)))
      have HB9 : Hid (Below w0.heap.size w0 w9) := Lib.hid (by rw [← hw9]; exact HB8.out.setCell (p := ⟨g7, k * 4 + 2, none⟩) (own_ge HN8.out.row rfl).1 _)
      have HW8 := Lib.hid hw8
      have HW9 := Lib.hid hw9
      have hkm : (k : Int) < (m7 : Int) := by omega
      have hkm2 : k < m7 := by omega
      have HMB : Hid (m7 < k + 1 + 2 ^ (d' + 1)) := Lib.hid hm72
      clear hw8 hm8 htn hw9 hm9 hty hn9 hgg hgg2 HP7' hR7 hN7 hM7 hG7 hHa hHb hHeld f0 f1 f2 f3 HI8 HO8 HM8 hBB HR8 HC1 hm71 hm72 hg71 hg72 hwz
      obtain ⟨A8, c8, w10, hr8, ho8, hb8⟩ := app_ints (w := w9) (s := (Ao, no, co)) (xs := out) w9.heap.size 22 HO9.out.nin (by dsimp only; omega) (Nat.le_refl _)
      unfold slV at hr8
      dsimp only at hr8 ho8
      have HA8 := Lib.hid hr8
      have HO10 := Lib.hid ho8
      have HB10 : Hid (Below w9.heap.size w9 w10) := Lib.hid hb8
      clear hr8 ho8 hb8
      have HD11 : Hid (Below w9.heap.size w9 w10.drew) := Lib.hid (bt HB10.out (below_drewN (Below.refl _ _) 1))
      obtain ⟨A11, c11, w11, hr11, ho11, hb11⟩ := app_int (w := w10.drew) 22 (i : Int) (HO10.out.all (below_drewN (Below.refl w10.heap.size w10) 1)) (by omega) HD11.out.size
      have HR11 := Lib.hid hr11
      have HOI11 := Lib.hid ho11
      have HE11 : Hid (Below w9.heap.size w9 (w10.drew.alloc (.cells #[.int .i64 (i : Int)] 3))) := Lib.hid (HD11.out.alloc HD11.out.size _)
      have HB11 : Hid (Below w9.heap.size w9 w11) := Lib.hid (HD11.out.trans hb11)
      clear hr11 ho11 hb11
      rw [HW8.out]
      go_wp2_with (at_builtin; rw [HW9.out]; refine wpList_append_run HA8.out (by rfl) (by rfl) (by rfl) (by rfl) ?_)
      have HP11 := Lib.hid (HP9.out.all HB11.out)
      have HRR11 := Lib.hid (HR9.out.all HB11.out)
      have HN11 := Lib.hid (HN9.out.all HB11.out)
      have HC2 := Lib.hid (HIH.out (some ⟨g7, 0, none⟩) m7 c7 _ Ai ni ci A11 (no + 1) c11 inn (out ++ [(i : Int)]) (D.set i 2) w11 (Lib.hid (HB9.out.trans (HB11.out.mono HB9.out.size))) HN11 (Lib.hid (HI9.out.all HB11.out)) (Lib.hid (TI.own HOI11.out)) (Lib.hid (HD.out.lose him HD0.out)) HCT.out.2 (by have := HNI.out; have := HDD.out; omega) (by have := HK.out; have := HP2'.out; have := HMB.out; omega))
      clear HW8 HW9 HA8 p8 c9 f9 HO10
      refine beginG (S := (fun w' => w'.cell? ⟨gp, 0, none⟩ = some (.int .i64 v) ∧ w'.cell? ⟨gp, 1, none⟩ = some (.slice (some ⟨g7, 0, none⟩) m7 c7) ∧ w'.frozen? ⟨gp, 0, none⟩ = false ∧ w'.frozen? ⟨gp, 1, none⟩ = false)) 9 (by kernel_rfl) ⟨(HP9.out.all HD11.out).cell 0, (HP9.out.all HD11.out).cell 1, (HP9.out.all HD11.out).frozen 0, (HP9.out.all HD11.out).frozen 1⟩ (fun hHeld => ?_)
      refine takeG 0 (some 64) (v := ?_) (by rfl) (by rfl) (by kernel_rfl) (by kernel_rfl) (by decide) (by kernel_rfl) (by kernel_rfl) (fun _ _ _ h => h) ?_ (by assumption) ?_
      rotate_left
      · (intro o ho w hSw; obtain ⟨x0, x1, x2, x3⟩ := hSw; cases ho; go_simp; try with_reducible rfl)
      try simp only [Act.put, List.setIfInBounds_toArray, List.set_cons_zero, List.set_cons_succ]
      refine takeG 1 (some 65) (v := ?_) (by rfl) (by rfl) (by kernel_rfl) (by kernel_rfl) (by decide) (by kernel_rfl) (by kernel_rfl) (fun _ _ _ h => h) ?_ (by assumption) ?_
      rotate_left
      · (intro o ho w hSw; obtain ⟨x0, x1, x2, x3⟩ := hSw; cases ho; go_simp; try with_reducible rfl)
      try simp only [Act.put, List.setIfInBounds_toArray, List.set_cons_zero, List.set_cons_succ]
      refine takeG 2 (some 66) (v := ?_) (by rfl) (by rfl) (by kernel_rfl) (by kernel_rfl) (by decide) (by kernel_rfl) (by kernel_rfl) (fun _ _ _ h => h) ?_ (by assumption) ?_
      rotate_left
      · (intro o ho w hSw; obtain ⟨x0, x1, x2, x3⟩ := hSw; cases ho; go_simp; try with_reducible rfl)
      try simp only [Act.put, List.setIfInBounds_toArray, List.set_cons_zero, List.set_cons_succ]
      refine takeG 3 (some 67) (v := ?_) (by rfl) (by rfl) (by kernel_rfl) (by kernel_rfl) (by decide) (by kernel_rfl) (by kernel_rfl) (fun _ _ _ h => h) ?_ (by assumption) ?_
      rotate_left
      · (intro o ho w hSw; obtain ⟨x0, x1, x2, x3⟩ := hSw; cases ho; go_simp; try with_reducible rfl)
      try simp only [Act.put, List.setIfInBounds_toArray, List.set_cons_zero, List.set_cons_succ]
      refine takeG 4 (some 68) (v := ?_) (by rfl) (by rfl) (by kernel_rfl) (by kernel_rfl) (by decide) (by kernel_rfl) (by kernel_rfl) (fun _ _ _ h => h) ?_ (by assumption) ?_
      rotate_left
      · (intro o ho w hSw; obtain ⟨x0, x1, x2, x3⟩ := hSw; cases ho; go_simp; try with_reducible rfl)
      try simp only [Act.put, List.setIfInBounds_toArray, List.set_cons_zero, List.set_cons_succ]
      refine takeG 5 (some 69) (v := ?_) (by rfl) (by rfl) (by kernel_rfl) (by kernel_rfl) (by decide) (by kernel_rfl) (by kernel_rfl) (fun _ _ _ h => h) ?_ (by assumption) ?_
      rotate_left
      · (intro o ho w hSw; obtain ⟨x0, x1, x2, x3⟩ := hSw; cases ho; go_simp; try with_reducible rfl)
      try simp only [Act.put, List.setIfInBounds_toArray, List.set_cons_zero, List.set_cons_succ]
      refine readyG (i := 6) (by kernel_rfl) rfl (fun K hK => ?_)
      go_simp
      refine hK.out _ _ ?_ (fun hHa => ?_)
      · exact ⟨(HP9.out.all HE11.out).cell 0, (HP9.out.all HE11.out).cell 1, (HP9.out.all HE11.out).frozen 0, (HP9.out.all HE11.out).frozen 1⟩
      clear hK K
      try simp only [Act.put, List.setIfInBounds_toArray, List.set_cons_zero, List.set_cons_succ]
      refine readyG (i := 7) (by kernel_rfl) rfl (fun K hK => ?_)
      refine step_app (t := 22) HR11.out (by kernel_rfl) (by rfl) (by rfl) (by rfl) ?_
      refine hK.out _ _ ?_ (fun hHb => ?_)
      · exact ⟨(HP9.out.all HB11.out).cell 0, (HP9.out.all HB11.out).cell 1, (HP9.out.all HB11.out).frozen 0, (HP9.out.all HB11.out).frozen 1⟩
      clear hK K
      (try simp only [Act.put]); (try simp only [List.setIfInBounds_toArray]); (try simp only [List.set_cons_succ]); (try simp only [List.set_cons_zero])
      refine readyG (i := 8) (by kernel_rfl) rfl (fun K hK => ?_)
      go_simp
      go_at_call 46
      (with_reducible refine HC2.out.mono ?_)
      rintro e w12 ⟨A12, m12, c12, N12, rfl, hm121, hm122, hN12, hM12, hG12⟩
      have HP12 : Hid (Blk w12 gp 30 #[.int .i64 v, .slice (some ⟨g7, 0, none⟩) m7 c7]) := Lib.hid (hM12.blk HP11.out (fun hf => own_not_pf HN11.out _ hf HP11.out.ty))
      have HR12 : Hid (Blk w12 (gp + 1) 30 #[.int .i64 0, .slice none 0 0]) := Lib.hid (hM12.blk HRR11.out (fun hf => own_not_pf HN11.out _ hf HRR11.out.ty))
      have HALL := Lib.hid (And.intro hM12 (And.intro hG12 (And.intro hN12 (And.intro hm121 hm122))))
      clear hM12 hG12 hN12 hm121 hm122
      go_wp2
      refine hK.out _ _ ?_ (fun hHc => ?_)
      · exact ⟨(HP12.out).cell 0, (HP12.out).cell 1, (HP12.out).frozen 0, (HP12.out).frozen 1⟩
      clear hK K
      try simp only [Act.put, List.setIfInBounds_toArray, List.set_cons_zero, List.set_cons_succ]
      refine lastG (by kernel_rfl) rfl (fun K hK => ?_)
      have r0 := HR12.out.cell 0
      have r1 := HR12.out.cell 1
      have r2 := HR12.out.frozen 0
      have r3 := HR12.out.frozen 1
      simp at r0 r1
      go_simp
      refine hK.out _ _ ?_
      clear hK K
      (try simp only [Act.put]); (try simp only [List.setIfInBounds_toArray]); (try simp only [List.set_cons_succ]); (try simp only [List.set_cons_zero])
      refine doneG (by kernel_rfl) ?_ _
      obtain ⟨hM12, hG12, hN12, hm121, hm122⟩ := HALL.out
      have HR13 := Lib.hid ((HR12.out.set_ 0 (.int .i64 v)).set_ 1 (.slice A12 m12 c12))
      have u0 := HR13.out.cell 0
      have u1 := HR13.out.cell 1
      simp at u0 u1
      have hm13 : Mod (fun b => b = gp ∨ b = gp + 1) w12 ((w12.setCell ⟨gp + 1, 0, none⟩ (.int .i64 v)).setCell ⟨gp + 1, 1, none⟩ (.slice A12 m12 c12)) := ((Mod.refl _ w12).set (.inl (.inr rfl)) _).set (.inl (.inr rfl)) _
      have hP12 : Blk w12 gp 30 #[.int .i64 v, .slice (some ⟨g7, 0, none⟩) m7 c7] := hM12.blk HP11.out (fun hf => own_not_pf HN11.out _ hf HP11.out.ty)
      have HF : Hid (GrowPost v w0.heap.size Ak k ck d w (.returned (.agg #[.int .i64 v, .slice A12 m12 c12])) ((w12.setCell ⟨gp + 1, 0, none⟩ (.int .i64 v)).setCell ⟨gp + 1, 1, none⟩ (.slice A12 m12 c12))) := Lib.hid ⟨A12, m12, c12, _, rfl, by omega, by have := HMB.out; have := HP2'.out; omega, hN12.mod hm13 (two_not hP12 HR12.out), ((HM9.out.then_below HB11.out).trans hM12 (fun b hb => HG8.out b hb)).trans hm13 (fun b hb => .inr (by rw [HGP.out]; omega)), fun g hg => (hG12 g hg).elim (fun h => HG8.out g h) (fun h => .inr (by have := HM9.out.size; have := HB11.out.size; omega))⟩
      clear hM12 hG12 hN12 hm121 hm122 hm13 hP12 HALL
      go_wp2
      exact bodyPost_ret (v := .agg #[.int .i64 v, .slice A12 m12 c12]) (by simp [results, Try.results46, go_sem, u0, u1]) rfl HF.out
end Go.Proofs.Ytikfcpkobgejmaa
