/- For every client, key, bytes and change worldmintlaw37.ClientLies returns true. No condition. -/
import Derived.Test.YtompkpleiichaaaCliLives
import Derived.Test.YtompkpleiichaaaCliRq
import Derived.Test.YtompkpleiichaaaHashInj
import Derived.Test.YtompkpleiichaaaLaw
namespace Go.Proofs.Ytompkpleiichaaa
open Go.ChangeShapes Go.WideShapes Go.ChangeAt Go.RowKit Go.ChangeMaps

theorem i64_toI (z : Int) : IntKind.i64.wrap z = toI z := by simp [toI, wrap64, IntKind.wrap, IntKind.bits, IntKind.signed]; omega
theorem request_agg (cl num : Int) (A : Option Addr) (n c : Nat) (tag : Int) (w : World) : Calls Try.prog 16 #[.agg #[.int .i64 cl, .int .i64 num, .slice A n c, .int .u64 tag]] w fun e w' => e = .returned (.agg #[.int .i64 cl, .int .i64 num, .slice A n c, .int .u64 tag]) ∧ Below w.heap.size w w' :=
  request_any ⟨cl, num, A, n, c, [], tag⟩ w
theorem keepTwo {wz w' : World} {g s : Nat} {t t' : TypeId} {a b c d a' b' c' d' : Value} (h : Below wz.heap.size wz w') (h1 : Blk wz g t #[a, b, c, d]) (h2 : Blk wz s t' #[a', b', c', d']) :
    Below wz.heap.size wz w' ∧ w'.cell? ⟨g, 0, none⟩ = some a ∧ w'.cell? ⟨g, 1, none⟩ = some b ∧ w'.cell? ⟨g, 2, none⟩ = some c ∧ w'.cell? ⟨g, 3, none⟩ = some d ∧ w'.cell? ⟨s, 0, none⟩ = some a' ∧ w'.cell? ⟨s, 1, none⟩ = some b' ∧ w'.cell? ⟨s, 2, none⟩ = some c' ∧ w'.cell? ⟨s, 3, none⟩ = some d' :=
  ⟨h, (h1.all h).cell 0, (h1.all h).cell 1, (h1.all h).cell 2, (h1.all h).cell 3, (h2.all h).cell 0, (h2.all h).cell 1, (h2.all h).cell 2, (h2.all h).cell 3⟩
theorem keepOne {wz w' : World} {g : Nat} {t : TypeId} {a b c d : Value} (h : Below wz.heap.size wz w') (h1 : Blk wz g t #[a, b, c, d]) :
    Below wz.heap.size wz w' ∧ w'.cell? ⟨g, 0, none⟩ = some a ∧ w'.cell? ⟨g, 1, none⟩ = some b ∧ w'.cell? ⟨g, 2, none⟩ = some c ∧ w'.cell? ⟨g, 3, none⟩ = some d :=
  ⟨h, (h1.all h).cell 0, (h1.all h).cell 1, (h1.all h).cell 2, (h1.all h).cell 3⟩
/-- A request whose tag is wrong is refused, and nothing changes. -/
theorem accept_lie {W w : World} {g mb gc : Nat} {c : Cl} {ccl key last : Int} {rv : Value} {op : List Rq} {hs : List (Nat × Rq)} (hB : Both W w g mb [c] gc ccl key last rv op hs) (x : Rq) (hx : x.ok w) (h5 : x.num ≤ 9223372036854775807) (hn : x.n ≤ 65536) (hl : c.last < 4611686018427387904) (ht : c.id = x.cl → tagOk c.key x = false) :
    Calls Try.prog 20 #[.pointer (some ⟨g, 0, none⟩), x.val] w fun e w' => ∃ (A : Option Addr) (n cap : Nat) (f : Int) (c' : Cl), e = .returned (.tuple #[.bool false, .slice A n cap, .int .i64 f]) ∧ (f == 0) = false ∧ c'.id = c.id ∧ c'.key = c.key ∧ (c'.last, c'.acc.map Acc.log) = (c.last, c.acc.map Acc.log) ∧
      Both W w' g mb [c'] gc ccl key last rv op hs := by
  by_cases h1 : 1 ≤ x.cl ∧ x.cl ≤ 1073741824
  · by_cases h3 : 1 ≤ x.num
    · by_cases hid : c.id = x.cl
      · have hR : accRes (tagOk c.key x) c.last (c.acc.map Acc.log) x.num (bodyI x.bs) = (false, [], 20) := by unfold accRes; rw [ht hid, if_pos rfl]
        refine (acc1 hB x hx hid h1.1 h1.2 h3 hn h5 hl hR (N := (c.last, c.acc.map Acc.log)) (by unfold accNew; rw [hR]; rfl)).mono ?_
        rintro e w' ⟨A, n, cap, c', rfl, -, hi, hk, hst, hB', -⟩
        exact ⟨A, n, cap, 20, c', rfl, rfl, hi, hk, hst, hB'⟩
      · refine (accept_none g mb [c] x w (Lib.hid hB.ses) (Lib.hid (by simp [findC, hid])) h1.1 h1.2 h3 hn).mono ?_
        rintro e w' ⟨rfl, hb⟩
        exact ⟨none, 0, 0, 7, c, rfl, rfl, rfl, rfl, rfl, hB.all hb⟩
    · refine (accept_arg g x w (.inr ⟨h1, .inl (by omega)⟩)).mono ?_
      rintro e w' ⟨rfl, hb⟩
      exact ⟨none, 0, 0, 1, c, rfl, rfl, rfl, rfl, rfl, hB.all hb⟩
  · refine (accept_arg g x w (.inl h1)).mono ?_
    rintro e w' ⟨rfl, hb⟩
    exact ⟨none, 0, 0, 1, c, rfl, rfl, rfl, rfl, rfl, hB.all hb⟩
theorem wrap64_in (x : Int) : -9223372036854775808 ≤ wrap64 x ∧ wrap64 x ≤ 9223372036854775807 := by unfold wrap64; omega
theorem bodyI_in (bs : List UInt8) : InU (bodyI bs) := mixI_in _ _
theorem tag_cl {key a b num body : Int} (ha : -9223372036854775808 ≤ a ∧ a ≤ 9223372036854775807) (hb : -9223372036854775808 ≤ b ∧ b ≤ 9223372036854775807) (h : tagI key a num body = tagI key b num body) : a = b :=
  (toU_inj ha hb).1 ((sum_one tagB [toI key] [num, toI body] a b).1 h)
theorem tag_num {key cl a b body : Int} (ha : -9223372036854775808 ≤ a ∧ a ≤ 9223372036854775807) (hb : -9223372036854775808 ≤ b ∧ b ≤ 9223372036854775807) (h : tagI key cl a body = tagI key cl b body) : a = b :=
  (toU_inj ha hb).1 ((sum_one tagB [toI key, cl] [toI body] a b).1 h)
theorem tag_body {key cl num a b : Int} (ha : InU a) (hb : InU b) (h : tagI key cl num a = tagI key cl num b) : a = b := by
  have := (sum_one tagB [toI key, cl, num] [] (toI a) (toI b)).1 h
  rwa [toU_toI ha, toU_toI hb] at this
theorem chgB_length (bs : List UInt8) (d : Int) : (chgB bs d).length = bs.length := by
  unfold chgB
  split
  · rfl
  · rw [List.length_set]
theorem body_small {a b : List UInt8} (hl : a.length = b.length) (h8 : a.length ≤ 8) (h : bodyI a = bodyI b) : a = b := by
  rcases Nat.eq_zero_or_pos a.length with h0 | h0
  · have ea := List.eq_nil_of_length_eq_zero h0
    have eb := List.eq_nil_of_length_eq_zero (hl.symm.trans h0)
    rw [ea, eb]
  · refine (bytes_one bodyB (g := 0) hl (by unfold nwords; omega) (fun j hj => ?_)).1 h
    unfold group
    rw [List.drop_eq_nil_of_le (by omega), List.drop_eq_nil_of_le (by omega)]
theorem lies_plain {key k d which : Int} {r x : Rq} {bs : List UInt8} (hr : r.log = (k, 1, bs, tagI key k 1 (bodyI bs))) (hbs : bs.length ≤ 8) (hk : 1 ≤ k ∧ k ≤ 1000) (hx : x.log = chgL r which d) (hne : x.log ≠ r.log) : (tagI key x.cl x.num (bodyI x.bs) == x.tag) = false := by
  obtain ⟨r1, r2, r3, r4⟩ := Rq.log_eq hr
  rw [beq_eq_false_iff_ne]
  intro he
  apply hne
  unfold chgL at hx
  rw [r1, r2, r3, r4] at hx
  rw [hr]
  split at hx
  · obtain ⟨x1, x2, x3, x4⟩ := Rq.log_eq hx
    rw [x1, x2, x3, x4] at he
    have := tag_cl (wrap64_in _) ⟨by omega, by omega⟩ he
    rw [hx, this]
  · split at hx
    · obtain ⟨x1, x2, x3, x4⟩ := Rq.log_eq hx
      rw [x1, x2, x3, x4] at he
      have := tag_num (wrap64_in _) ⟨by decide, by decide⟩ he
      rw [hx, this]
    · split at hx
      · obtain ⟨x1, x2, x3, x4⟩ := Rq.log_eq hx
        rw [x1, x2, x3, x4] at he
        rw [hx, ← he]
      · obtain ⟨x1, x2, x3, x4⟩ := Rq.log_eq hx
        rw [x1, x2, x3, x4] at he
        have := body_small (chgB_length _ _) (by rw [chgB_length]; exact hbs) (tag_body (bodyI_in _) (bodyI_in _) he)
        rw [hx, this]
theorem chgL_range {r x : Rq} {which d : Int} (hx : x.log = chgL r which d) (hn : -9223372036854775808 ≤ r.num ∧ r.num ≤ 9223372036854775807) : x.num ≤ 9223372036854775807 ∧ x.bs.length = r.bs.length := by
  unfold chgL at hx
  split at hx
  · obtain ⟨x1, x2, x3, x4⟩ := Rq.log_eq hx
    rw [x2, x3]
    exact ⟨hn.2, rfl⟩
  · split at hx
    · obtain ⟨x1, x2, x3, x4⟩ := Rq.log_eq hx
      rw [x2, x3]
      exact ⟨(wrap64_in _).2, rfl⟩
    · split at hx
      · obtain ⟨x1, x2, x3, x4⟩ := Rq.log_eq hx
        rw [x2, x3]
        exact ⟨hn.2, rfl⟩
      · obtain ⟨x1, x2, x3, x4⟩ := Rq.log_eq hx
        rw [x2, x3]
        exact ⟨hn.2, chgB_length _ _⟩

set_option maxRecDepth 100000 in
set_option maxHeartbeats 8000000 in
theorem ClientLies_walk (W : World) (a0 : Int) (ha0 : Hid ((Lit.int .i64 a0).wf = true)) (a1 : Int) (_ha1 : Hid ((Lit.int .u64 a1).wf = true)) (A2 : Option Addr) (n2 c2 : Nat) (f2 : Nat → Int) (hA2 : A2 = none → n2 = 0) (hn2 : n2 ≤ c2) (hc2 : c2 ≤ 9223372036854775807) (hR2 : Rd W W.heap.size A2 n2 (fun j => .int .u8 (f2 j))) (hw2 : Hid (∀ j, j < n2 → (Lit.int .u8 (f2 j)).wf = true)) (a3 : Int) (ha3 : Hid ((Lit.int .i64 a3).wf = true)) (a4 : Int) (ha4 : Hid ((Lit.int .i64 a4).wf = true)) :
    Calls Try.prog 3 #[.int .i64 a0, .int .u64 a1, .slice A2 n2 c2, .int .i64 a3, .int .i64 a4] W fun e w' => e = .returned (.bool true) ∧ Below W.heap.size W w' := by
  obtain ⟨hr00, hr01⟩ := wf_i64 ha0.out
  obtain ⟨hr30, hr31⟩ := wf_i64 ha3.out
  obtain ⟨hr40, hr41⟩ := wf_i64 ha4.out
  have hb := Below.refl W.heap.size W
  go_enter Try.func3, Try.ntmps3
  go_wp2_with fail
  refine (around_nat _ 1000 1000 _ rfl hr00 hr01 (by decide) (by decide)).mono ?_
  rintro e w0 ⟨k0, rfl, hk0, -, rfl⟩
  obtain ⟨k, hk⟩ : ∃ k : Int, k = 1 + (k0 : Int) := ⟨_, rfl⟩
  have hk1 : 1 ≤ k := by omega
  have hk2 : k ≤ 1000 := by omega
  have HK := Lib.hid hk
  clear hk
  go_wp2_with fail
  rw [← HK.out]
  refine (newS_any _).mono ?_
  rintro e w1 ⟨g, mb, rfl, hg, hm, hS, hb1⟩
  go_wp2_with fail
  refine (call_any _ _ _).mono ?_
  rintro e w2 ⟨gc, rfl, hgc, hC, hb2⟩
  have hB : Both W w2 g mb [] gc k a1 0 (.slice none 0 0) [] [] := ⟨hS.all hb2, hC, fun b hb hc => by
      have := hS.ltF b hb
      rcases hc with e | e
      · omega
      · simp [Value.ownBlock] at e, bt (bt hb hb1) hb2, by
      have := hb.size
      rintro b (e | e | ⟨_, h, _⟩)
      · omega
      · omega
      · simp at h, by
      have := hb.size
      have := hb1.size
      rintro b (e | e)
      · omega
      · simp [Value.ownBlock] at e, by simp⟩
  clear hS hC hb1 hb2 hg hm hgc hb
  go_wp2_with fail
  refine (join_yes g mb [] k a1 _ (Lib.hid hB.ses) hk1 (by omega) rfl).mono ?_
  rintro e w3 ⟨sb, rfl, hS3, m3, hF3⟩
  replace hB := hB.toSes hS3 m3 hF3
  clear hS3 m3 hF3
  rw [List.nil_append] at hB
  obtain ⟨ca, hcd⟩ : ∃ ca : Cl, ca = ⟨k, a1, 0, [], sb, .slice none 0 0⟩ := ⟨_, rfl⟩
  rw [← hcd] at hB
  have HCI := Lib.hid (show ca.id = k by rw [hcd])
  have HCK := Lib.hid (show ca.key = a1 by rw [hcd])
  have HCL := Lib.hid (show ca.last = 0 by rw [hcd])
  have HCG := Lib.hid (show ca.acc.map Acc.log = [] by rw [hcd]; rfl)
  clear hcd
  go_wp2_with fail
  refine (few_list _ _ _ 8 8 rfl _ _ hA2 ((hR2.below hB.below (Nat.le_refl _)).more hB.below.size) hn2 hc2 (by decide) (bytes_wf hw2)).mono ?_
  rintro e w4 ⟨As, cs, n, bs, rfl, -, -, hn8, -, -, -, hown, -, hb4⟩
  have HBT := Lib.hid (Bts.of_own hown).1
  have hL8 : bs.length ≤ 8 := by rw [HBT.out.1]; exact hn8
  have HLN := Lib.hid HBT.out.1
  have HL8 := Lib.hid hL8
  replace hB := hB.all hb4
  clear hb4 hown hL8
  go_wp2_with fail
  refine (send_yes gc k a1 0 _ _ _ n cs bs _ (Lib.hid hB.call) (by decide) (by decide) (by omega) (by decide) HBT).mono ?_
  intro e w5 hp
  obtain ⟨r1, Ar, cr, tag, rv1, rfl, HT, hr, -, hB'⟩ := hB.sent1 (last' := 1) (n := n) hp rfl HLN.out
  clear hp hB
  have hB := hB'
  clear hB'
  obtain ⟨i0, i1, i2, i3, -, -, -, -⟩ := blk4 (hB.held _ (List.mem_cons_self ..)).1
  dsimp only at i0 i1 i2 i3
  go_wp2_with fail
  generalize w5.alloc (.cells #[.int .i64 k, .int .i64 1, .slice Ar n cr, .int .u64 tag] 32) = w6 at *
  obtain ⟨r, hrd⟩ : ∃ r : Rq, r = ⟨k, 1, Ar, n, cr, bs, tag⟩ := ⟨_, rfl⟩
  have HRL := Lib.hid (show r.log = (k, 1, bs, tagI a1 k 1 (bodyI bs)) by rw [hrd, ← HT.out]; rfl)
  rw [← hrd] at hB
  have HRD := Lib.hid hrd
  refine (request_any ⟨k, 1, Ar, n, cr, bs, tag⟩ _).mono ?_
  rintro e w7 ⟨rfl, hb7⟩
  replace hB := hB.all hb7
  clear hb7 i0 i1 i2 i3 hr
  go_wp2_with fail
  refine (changed_any ⟨k, 1, Ar, n, cr, bs, tag⟩ _ _ _ (Lib.hid (by rw [← HRD.out]; exact (hB.held _ (List.mem_cons_self ..)).2.1)) hr30 hr31 hr40 hr41).mono ?_
  rintro e w8 ⟨x, rfl, hx, hxl, hb8⟩
  rw [← HRD.out] at hxl
  replace hB := hB.all hb8
  clear hb8 hrd
  go_wp2_with fail
  refine (ownR_any x _).mono ?_
  rintro e w9 ⟨rfl, hb9⟩
  replace hB := (hB.all hb9).hold x (hx.all hb9)
  clear hb9 hx
  unfold Rq.val
  go_wp2
  generalize w9.alloc (.cells #[.int .i64 x.cl, .int .i64 x.num, .slice x.A x.n x.c, .int .u64 x.tag] 32) = wz at *
  generalize w9.heap.size = gx at *
  generalize w5.heap.size = gr at *
  obtain ⟨bx, okx, -⟩ := hB.held _ (List.mem_cons_self ..)
  obtain ⟨br, okr, -⟩ := hB.held _ (List.mem_cons_of_mem _ (List.mem_cons_self ..))
  dsimp only at bx br okx okr
  have HBX := Lib.hid bx
  have HBR := Lib.hid br
  have HOX := Lib.hid okx
  have HOR := Lib.hid okr
  obtain ⟨q0, q1, q2, q3, -, -, -, -⟩ := blk4 bx
  obtain ⟨s0, s1, s2, s3, -, -, -, -⟩ := blk4 br
  go_region_held3 (fun w' => Below wz.heap.size wz w' ∧ w'.cell? ⟨gx, 0, none⟩ = some (.int .i64 x.cl) ∧ w'.cell? ⟨gx, 1, none⟩ = some (.int .i64 x.num) ∧ w'.cell? ⟨gx, 2, none⟩ = some (.slice x.A x.n x.c) ∧ w'.cell? ⟨gx, 3, none⟩ = some (.int .u64 x.tag) ∧ w'.cell? ⟨gr, 0, none⟩ = some (.int .i64 r.cl) ∧ w'.cell? ⟨gr, 1, none⟩ = some (.int .i64 r.num) ∧ w'.cell? ⟨gr, 2, none⟩ = some (.slice r.A r.n r.c) ∧ w'.cell? ⟨gr, 3, none⟩ = some (.int .u64 r.tag))
    (first | with_reducible exact keepTwo (Below.refl _ wz).drew HBX.out HBR.out | with_reducible exact keepTwo hS2 HBX.out HBR.out)
    (first
      | (go_at_call 16; have hS1 := (‹Below wz.heap.size wz _ ∧ _›).1; ((with_reducible refine (request_agg _ _ _ _ _ _ _).mono ?_); rintro e wt ⟨rfl, hb3⟩; have hS2 := bt hS1 hb3; clear hS1 hb3))
      | (go_at_call 17; have hS1 := (‹Below wz.heap.size wz _ ∧ _›).1; ((refine (sameRq_any x r _ (Lib.hid (HOX.out.all hS1)) (Lib.hid (HOR.out.all hS1))).mono ?_); rintro e wt ⟨rfl, hb3⟩; have hS2 := bt hS1 hb3; clear hS1 hb3)))
  replace hB := hB.all hS2
  clear hS2 q0 q1 q2 q3 s0 s1 s2 s3 HBX HBR HOX HOR bx br okx okr
  obtain ⟨bx, okx, -⟩ := hB.held _ (List.mem_cons_self ..)
  dsimp only at bx okx
  have HBX := Lib.hid bx
  have HOX := Lib.hid okx
  have HXL := Lib.hid okx.1.1
  have hxc := okx.1.2.1
  have hxn := okx.2
  obtain ⟨q0, q1, q2, q3, -, -, -, -⟩ := blk4 bx
  clear bx okx
  have e1 : IntKind.i64.wrap a1 = toI a1 := i64_toI a1
  have e2 : IntKind.i64.wrap (bytesI [98, 111, 100, 121] x.bs) = toI (bodyI x.bs) := i64_toI _
  go_wp2
  go_region_held3 (fun w' => Below wt.heap.size wt w' ∧ w'.cell? ⟨gx, 0, none⟩ = some (.int .i64 x.cl) ∧ w'.cell? ⟨gx, 1, none⟩ = some (.int .i64 x.num) ∧ w'.cell? ⟨gx, 2, none⟩ = some (.slice x.A x.n x.c) ∧ w'.cell? ⟨gx, 3, none⟩ = some (.int .u64 x.tag))
    (first | with_reducible exact keepOne (Below.refl _ wt).drew HBX.out | with_reducible exact keepOne hS2 HBX.out | with_reducible exact keepOne (hS2.alloc hS2.size _) HBX.out)
    (first
      | (go_at_call 19; have hS1 := (‹Below wt.heap.size wt _ ∧ _›).1; ((refine (hbytes_any ⟨#[98, 111, 100, 121]⟩ _ _ _ _ x.bs _ HXL (by decide) hxc (by omega) (Nat.le_refl _) (HOX.out.1.all hS1).rd).mono ?_); rintro e wB ⟨rfl, hb3⟩; have hS2 := bt hS1 hb3; clear hS1 hb3))
      | (go_at_call 18; have hS1 := (‹Below wt.heap.size wt _ ∧ _›).1; ((refine (hsum_any ⟨#[116, 97, 103]⟩ _ 4 4 (wB.heap.size + 1) [toI a1, x.cl, x.num, toI (bodyI x.bs)] _ (Lib.hid rfl) (by decide) (by decide) (by simp) (rd_lit4' wB 3 (toI a1) x.cl x.num (toI (bodyI x.bs)))).mono ?_); rintro e wS ⟨rfl, hb3⟩; have hS2 := bt hS1 hb3; clear hS1 hb3)))
  replace hB := hB.all hS2
  clear hS2 q0 q1 q2 q3 HBX HOX HXL hxc e1 e2
  obtain ⟨rt, hrt⟩ : ∃ rt, (sumI [116, 97, 103] [toI a1, x.cl, x.num, toI (bodyI x.bs)] == x.tag) = rt := ⟨_, rfl⟩
  have HRT := Lib.hid (show (tagI a1 x.cl x.num (bodyI x.bs) == x.tag) = rt from hrt)
  rw [hrt]
  clear hrt
  obtain ⟨rl1, rl2, rl3, rl4⟩ := Rq.log_eq HRL.out
  have HR1 := Lib.hid rl1
  have HR2 := Lib.hid rl2
  have HR3 := Lib.hid rl3
  have HR4 := Lib.hid rl4
  clear rl1 rl2 rl3 rl4
  have HXLG := Lib.hid hxl
  obtain ⟨hx5, hx6⟩ := chgL_range hxl (by rw [HR2.out]; omega)
  rw [HR3.out] at hx6
  have hl8 := HL8.out
  have hxn8 : x.bs.length ≤ 8 := by omega
  clear hxl hx6 hl8
  rcases hsame : sameR x r with _ | _
  · have hne : x.log ≠ r.log := fun e => by rw [(sameR_iff x r).2 e] at hsame; cases hsame
    have hrt := HRT.out
    rw [lies_plain HRL.out HL8.out ⟨hk1, hk2⟩ HXLG.out hne] at hrt
    subst hrt
    have HTF := Lib.hid (show ca.id = x.cl → tagOk ca.key x = false from fun _ => by
      unfold tagOk
      rw [HCK.out, Bool.beq_comm]
      exact HRT.out)
    clear hsame hne
    obtain ⟨bx, okx, -⟩ := hB.held _ (List.mem_cons_self ..)
    dsimp only at bx okx
    obtain ⟨q0, q1, q2, q3, -, -, -, -⟩ := blk4 bx
    clear bx
    go_wp2_with fail
    have hxn8' : x.n ≤ 65536 := by have := okx.1.1; omega
    refine (accept_lie hB x okx hx5 hxn8' (by rw [HCL.out]; decide) HTF.out).mono ?_
    rintro e wa ⟨Aa, na, ca2, f, cb, rfl, hf, hi, hkk, hst, hB'⟩
    clear hB q0 q1 q2 q3 okx
    obtain ⟨hst1, hst2⟩ := st_split hst
    have HI := Lib.hid (hi.trans HCI.out)
    have HKY := Lib.hid (hkk.trans HCK.out)
    have HLS := Lib.hid (hst1.trans HCL.out)
    have HLG := Lib.hid (hst2.trans HCG.out)
    clear hi hkk hst hst1 hst2
    have hB := hB'
    clear hB'
    go_wp2_with fail
    refine (lastS_any g mb _ k _ (Lib.hid hB.ses)).mono ?_
    rw [findC_one HI.out, Option.elim_some, HLS.out]
    rintro e w' ⟨rfl, rfl⟩
    obtain ⟨br, okr, -⟩ := hB.held _ (List.mem_cons_of_mem _ (List.mem_cons_self ..))
    dsimp only at br okr
    obtain ⟨s0, s1, s2, s3, -, -, -, -⟩ := blk4 br
    clear br
    go_wp2_with fail
    have hrn : r.n ≤ 65536 := by have := okr.1.1; rw [HR3.out] at this; have := HL8.out; omega
    refine (acc1 hB r okr (by rw [HI.out, HR1.out]) (by rw [HR1.out]; omega) (by rw [HR1.out]; omega) (by rw [HR2.out]; decide) hrn (by rw [HR2.out]; decide) (by rw [HLS.out]; decide) (R := (true, [], 0)) (by rw [HKY.out, HLS.out, HLG.out, HR2.out, show tagOk a1 r = true by unfold tagOk; rw [HR1.out, HR2.out, HR3.out, HR4.out]; simp]; exact (r_new _).1) (N := _) rfl).mono ?_
    rintro e wd ⟨Ad, nd, cd, cc, rfl, -, -, -, -, hB', -⟩
    have hb := hB'.below
    clear hB hB' s0 s1 s2 s3 okr
    go_wp2_with (go_at_call 21; ((with_reducible refine (lives37_any _).mono ?_); rintro e wl ⟨rfl, hbl⟩; replace hb := bt hb hbl; clear hbl))
    go_ret
    exact ⟨rfl, hb⟩
  · have hee := (sameR_iff x r).1 hsame
    rw [HRL.out] at hee
    obtain ⟨xl1, xl2, xl3, xl4⟩ := Rq.log_eq hee
    have HX1 := Lib.hid xl1
    have HX2 := Lib.hid xl2
    have HX3 := Lib.hid xl3
    have HX4 := Lib.hid xl4
    clear xl1 xl2 xl3 xl4 hee
    obtain ⟨bx, okx, -⟩ := hB.held _ (List.mem_cons_self ..)
    dsimp only at bx okx
    obtain ⟨q0, q1, q2, q3, -, -, -, -⟩ := blk4 bx
    clear bx
    go_wp2_with fail
    have hxn8' : x.n ≤ 65536 := by have := okx.1.1; omega
    refine (acc1 hB x okx (by rw [HCI.out, HX1.out]) (by rw [HX1.out]; omega) (by rw [HX1.out]; omega) (by rw [HX2.out]; decide) hxn8' (by rw [HX2.out]; decide) (by rw [HCL.out]; decide) (R := (true, [], 0)) (by rw [HCK.out, HCL.out, HCG.out, HX2.out, show tagOk a1 x = true by unfold tagOk; rw [HX1.out, HX2.out, HX3.out, HX4.out]; simp]; exact (r_new _).1) (N := _) rfl).mono ?_
    rintro e wd ⟨Ad, nd, cd, cc, rfl, -, -, -, -, hB', -⟩
    have hb := hB'.below
    clear hB hB' q0 q1 q2 q3 okx
    go_wp2_with (go_at_call 21; ((with_reducible refine (lives37_any _).mono ?_); rintro e wl ⟨rfl, hbl⟩; replace hb := bt hb hbl; clear hbl))
    go_ret
    exact ⟨rfl, hb⟩

set_option maxRecDepth 100000 in
theorem ClientLies_lifted (os : Os) (started : os.Started) (H : Type) (enc : TypeId × Value → H) :
    ReturnsInHanded {} Try.checked os 3 .any (Rows.clientLiesSpec.pre6 enc Try.prog Try.f3 Rows.clientLiesRow.domain false) (Rows.clientLiesSpec.post enc Try.prog Try.f3 false true false false) := by
  refine returnsInHanded_of_change (C := Try.checked) Try.own started (by kernel_rfl) Try.func3
    (ChangeSpec.witness6 (enc := enc) (C := Try.checked) false ⟨#[], #[.int .i64 0, .int .u64 0, .slice none 0 0, .int .i64 0, .int .i64 0], []⟩ 8 (by kernel_rfl) (by kernel_rfl) (by kernel_rfl) (by kernel_rfl)) ?_
  intro W base args ds gs before hval0 hW _ _
  have hval : ∀ (j : Nat) t v, Try.f3.params[j]? = some t → args[j]? = some v → Value.okWide Try.prog W .any base t v := hval0
  have hW' := hW
  obtain ⟨p, q, hT0, hV, rfl, hfz, hnd⟩ := hW
  have hT : DataW.TrodAll enc Try.prog W 0 (fun _ => true) true Try.f3.params.toList args.toList ds p := hT0
  rw [Try.params3] at hT hval
  obtain ⟨v0, vs0, d0, ds0, p0, q0, hargs0, rfl, rfl, h0, r0⟩ := trodAll_cons hT
  obtain ⟨v1, vs1, d1, ds1, p1, q1, hargs1, rfl, rfl, h1, r1⟩ := trodAll_cons r0
  obtain ⟨v2, vs2, d2, ds2, p2, q2, hargs2, rfl, rfl, h2, r2⟩ := trodAll_cons r1
  obtain ⟨v3, vs3, d3, ds3, p3, q3, hargs3, rfl, rfl, h3, r3⟩ := trodAll_cons r2
  obtain ⟨v4, vs4, d4, ds4, p4, q4, hargs4, rfl, rfl, h4, r4⟩ := trodAll_cons r3
  obtain ⟨rfl, rfl, rfl⟩ := trodAll_nil r4
  obtain rfl : args = #[v0, v1, v2, v3, v4] := by cases args; simp_all
  obtain ⟨a0, rfl, -, -, w0⟩ := open_int Try.underlying3 (hval 0 3 v0 rfl rfl) h0
  obtain ⟨a1, rfl, -, -, w1⟩ := open_int Try.underlying22 (hval 1 22 v1 rfl rfl) h1
  obtain ⟨A2, n2, c2, f2, rfl, hA2, hn2, hc2, hR2, hw2⟩ := open_sl Try.underlying23 Try.underlying5 (by kernel_rfl) (hval 2 23 v2 rfl rfl) h2
  obtain ⟨a3, rfl, -, -, w3⟩ := open_int Try.underlying3 (hval 3 3 v3 rfl rfl) h3
  obtain ⟨a4, rfl, -, -, w4⟩ := open_int Try.underlying3 (hval 4 3 v4 rfl rfl) h4
  refine (ClientLies_walk W a0 w0 a1 w1 A2 n2 c2 f2 hA2 hn2 hc2 hR2 hw2 a3 w3 a4 w4).mono fun e W' ⟨he, hb⟩ => ?_
  subst he
  exact ⟨_, rfl, law_post Try.laidOut (by kernel_rfl) (by kernel_rfl) Try.underlying4 rfl hW' rfl hb⟩

theorem ClientLies_holds : Rows.ClientLiesSaid :=
  OpenClaim.holds_of_wide 3 Try.f3 rfl rfl rfl rfl rfl rfl rfl ⟨rfl, rfl, rfl, rfl, rfl⟩ rfl rfl rfl rfl rfl (by kernel_rfl) Try.func3 (by kernel_rfl)
    (of_decide_eq_true (by kernel_rfl)) (by unfold Func.isWrapper; first | (rw [if_pos (by decide +kernel)]; kernel_rfl) | (rw [if_neg (by decide +kernel)]; exact ⟨rfl, rfl⟩))
    (fun os started H enc _ => ClientLies_lifted os started H enc)

end Go.Proofs.Ytompkpleiichaaa
