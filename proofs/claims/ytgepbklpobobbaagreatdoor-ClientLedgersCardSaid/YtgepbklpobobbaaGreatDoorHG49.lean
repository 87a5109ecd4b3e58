/- client: the example. -/
import Derived.Test.YtgepbklpobobbaaGreatDoorHG48
import Derived.Lib.SlBytesConst
import Derived.Test.YtgepbklpobobbaaGreatDoorHG1
import Derived.Test.YtgepbklpobobbaaGreatDoorHLaw
import Derived.Test.YtgepbklpobobbaaGreatDoorHG15
import Derived.LaidMore
import Derived.OpenShut
import Derived.Stop.Joined

namespace Go.Proofs.YtgepbklpobobbaaGreatDoor
open Go.RowKit

theorem findC_one {c : Cl} {id : Int} (h : c.id = id) : findC [c] id = some c := by simp [findC, h]
section
variable {W w : World} {g mb gc : Nat} {c : Cl} {ccl key last : Int} {rv : Value} {op : List Rq} {hs : List (Nat × Rq)}
/-- Accept, of the only client. -/
theorem acc1 (hB : Both W w g mb [c] gc ccl key last rv op hs) (r : Rq) (hr : r.ok w) (hid : c.id = r.cl) (h1 : 1 ≤ r.cl) (h2 : r.cl ≤ 1073741824) (h3 : 1 ≤ r.num) (h4 : r.n ≤ 65536) (h5 : r.num ≤ 9223372036854775807) (hl : c.last < 4611686018427387904)
    {R : Bool × List UInt8 × Int} (hR : accRes (tagOk c.key r) c.last (c.acc.map Acc.log) r.num (bodyI r.bs) = R) {N : Int × List AL} (hN : accNew (tagOk c.key r) c.last (c.acc.map Acc.log) r.num (bodyI r.bs) = N) :
    Calls Tryz.prog 14 #[.pointer (some ⟨g, 0, none⟩), r.val] w fun e w' => ∃ (A : Option Addr) (n cap : Nat) (c' : Cl), e = .returned (.tuple #[.bool R.1, .slice A n cap, .int .i64 R.2.2]) ∧ Bts w' A n cap R.2.1 ∧ c'.id = c.id ∧ c'.key = c.key ∧ (c'.last, c'.acc.map Acc.log) = N ∧
      Both W w' g mb [c'] gc ccl key last rv op hs ∧ Mod (SesF g mb [c]) w w' := by
  refine (accept_joined g mb [] [] c r w (Lib.hid hB.ses) (Lib.hid (findC_one hid)) (Lib.hid hr) h1 h2 h3 h4 h5 hl).mono ?_
  rintro e w' ⟨A, n, cap, c', rfl, hb, hi, hk, hn, hS, m, hF⟩
  rw [hR] at hb ⊢
  rw [hN] at hn
  exact ⟨A, n, cap, c', rfl, hb, hi, hk, hn, hB.toSes hS m hF, m⟩
theorem ans1 (hB : Both W w g mb [c] gc ccl key last rv op hs) (id num : Int) (A : Option Addr) (n cc : Nat) (bs : List UInt8) (hb : Bts w A n cc bs) (hn : n ≤ 1048576) (hid : c.id = id) {R : Int} (hR : ansErr c.last (c.acc.map Acc.log) num n = R) {N : List AL} (hN : ansNew c.last (c.acc.map Acc.log) num n bs = N) :
    Calls Tryz.prog 18 #[.pointer (some ⟨g, 0, none⟩), .int .i64 id, .int .i64 num, .slice A n cc] w fun e w' => ∃ c' : Cl, e = .returned (.int .i64 R) ∧ c'.id = c.id ∧ c'.key = c.key ∧ c'.last = c.last ∧ c'.acc.map Acc.log = N ∧ Both W w' g mb [c'] gc ccl key last rv op hs := by
  refine (answer_joined g mb [] [] c id num A n cc bs w (Lib.hid hB.ses) (Lib.hid (findC_one hid)) (Lib.hid hb) hn).mono ?_
  rintro e w' ⟨c', rfl, hi, hk, hl, hn, hS, m, hF⟩
  rw [hN] at hn
  rw [hR]
  exact ⟨c', rfl, hi, hk, hl, hn, hB.toSes hS m hF⟩
end
theorem Rq.log_eq {r : Rq} {a b : Int} {l : List UInt8} {t : Int} (h : r.log = (a, b, l, t)) : r.cl = a ∧ r.num = b ∧ r.bs = l ∧ r.tag = t := by
  unfold Rq.log at h
  simpa using h
theorem Rq.ok.len {w : World} {r : Rq} {l : List UInt8} (h : r.ok w) (e : r.bs = l) : r.n = l.length := by rw [← e]; exact h.1.1.symm
/-- A literal of bytes, converted. -/
theorem lit_conv (w : World) (C : Array Value) (l : List UInt8) (n gb : Nat) (hg : gb = w.heap.size) (hn : l.length = n) (hm : n ≤ 1000) (hC : ∀ j, j < n → C[j]? = some (vByte l j)) :
    ∃ w1, (convert 44 44 (.slice (some ⟨gb, 0, none⟩) n n)).run Tryz.prog (w.alloc (.cells C 5)) = .ok (.slice (some ⟨gb, 0, none⟩) n n) w1 ∧ Bts w1 (some ⟨gb, 0, none⟩) n n l ∧ Below w.heap.size w w1 := by
  subst hg
  exact ⟨_, Lib.run_convert_bytes_const (P := Tryz.prog) w 44 5 C n n Tryz.underlying44 Tryz.underlying5,
    ⟨hn, Nat.le_refl _, by omega, fun _ => ⟨w.heap.size, 0, C, _, rfl, World.alloc_heap_new w _, fun j hj => by rw [Nat.zero_add]; exact hC j hj⟩⟩, (Below.refl _ _).alloc (Nat.le_refl _) _⟩
theorem Both.sent1 {W w w' : World} {g mb gc : Nat} {cl : List Cl} {ccl key last last' : Int} {rv : Value} {op : List Rq} {hs : List (Nat × Rq)} {bs : List UInt8} {n : Nat} {e : Ending} (h : Both W w g mb cl gc ccl key last rv op hs) (hp : SendYes 106 49 gc ccl key last rv op bs w e w') (hl : last + 1 = last') (hn : bs.length = n) :
    ∃ (r : Rq) (A : Option Addr) (c : Nat) (tag : Int) (rv' : Value), e = .returned (.tuple #[.agg #[.int .i64 ccl, .int .i64 last', .slice A n c, .int .u64 tag], .int .i64 0]) ∧ Hid (tag = tagI key ccl last' (bodyI bs)) ∧ (⟨ccl, last', A, n, c, bs, tag⟩ : Rq).ok w' ∧ Hid (r.log = (ccl, last', bs, tag)) ∧
      Both W (w'.alloc (.cells #[.int .i64 ccl, .int .i64 last', .slice A n c, .int .u64 tag] 49)) g mb cl gc ccl key last' rv' (op ++ [r]) ((w'.heap.size, ⟨ccl, last', A, n, c, bs, tag⟩) :: hs) := by
  obtain ⟨r, ⟨cl2, num2, A2, n2, c2, bs2, tag2⟩, rv', rfl, hr, hlog, hl2, hB⟩ := h.sent hp
  rw [hlog] at hl2
  obtain ⟨e1, e2, e3, e4⟩ := Rq.log_eq hl2
  have e5 := hr.len e3
  dsimp only at e1 e2 e3 e4 e5
  subst e1 e2 e3 hl
  rw [hn] at e5
  subst e5
  exact ⟨r, A2, c2, tag2, rv', rfl, Lib.hid e4, hr, Lib.hid (by rw [hlog, e4]), hB.hold _ hr⟩
theorem idx3 {C : Array Value} {l : List UInt8} (h0 : C[0]? = some (vByte l 0)) (h1 : C[1]? = some (vByte l 1)) (h2 : C[2]? = some (vByte l 2)) : ∀ j, j < 3 → C[j]? = some (vByte l j) := fun j hj => by
  rcases (show j = 0 ∨ j = 1 ∨ j = 2 by omega) with rfl | rfl | rfl <;> assumption
theorem idx4 {C : Array Value} {l : List UInt8} (h0 : C[0]? = some (vByte l 0)) (h1 : C[1]? = some (vByte l 1)) (h2 : C[2]? = some (vByte l 2)) (h3 : C[3]? = some (vByte l 3)) : ∀ j, j < 4 → C[j]? = some (vByte l j) := fun j hj => by
  rcases (show j = 0 ∨ j = 1 ∨ j = 2 ∨ j = 3 by omega) with rfl | rfl | rfl | rfl <;> assumption
theorem idx5 {C : Array Value} {l : List UInt8} (h0 : C[0]? = some (vByte l 0)) (h1 : C[1]? = some (vByte l 1)) (h2 : C[2]? = some (vByte l 2)) (h3 : C[3]? = some (vByte l 3)) (h4 : C[4]? = some (vByte l 4)) : ∀ j, j < 5 → C[j]? = some (vByte l j) := fun j hj => by
  rcases (show j = 0 ∨ j = 1 ∨ j = 2 ∨ j = 3 ∨ j = 4 by omega) with rfl | rfl | rfl | rfl | rfl <;> assumption
theorem tagOk_true {key cl num tag : Int} {A : Option Addr} {n c : Nat} {bs : List UInt8} (h : tag = tagI key cl num (bodyI bs)) : tagOk key ⟨cl, num, A, n, c, bs, tag⟩ = true := by unfold tagOk; simp [h]
theorem r_new (b : Int) : accRes true 0 [] 1 b = (true, [], 0) ∧ accNew true 0 [] 1 b = (1, [(b, false, [])]) := by simp [accRes, accNew, waitsL, cut16]
theorem r_busy (b : Int) : accRes true 1 [(b, false, [])] 1 b = (false, [], 13) ∧ accNew true 1 [(b, false, [])] 1 b = (1, [(b, false, [])]) := by simp [accRes, accNew, posL]
theorem r_ans (b : Int) (bs : List UInt8) : ansErr 1 [(b, false, [])] 1 4 = 0 ∧ ansNew 1 [(b, false, [])] 1 4 bs = [(b, true, bs)] := by simp [ansErr, ansNew, waitsL]
theorem r_again (b : Int) (bs : List UInt8) : accRes true 1 [(b, true, bs)] 1 b = (false, bs, 0) ∧ accNew true 1 [(b, true, bs)] 1 b = (1, [(b, true, bs)]) := by simp [accRes, accNew, posL]
theorem r_more (b b3 : Int) (bs : List UInt8) : accRes true 1 [(b, true, bs)] 3 b3 = (false, [], 3) ∧ accNew true 1 [(b, true, bs)] 3 b3 = (1, [(b, true, bs)]) := by simp [accRes, accNew]
theorem r_next (b b2 : Int) (bs : List UInt8) : accRes true 1 [(b, true, bs)] 2 b2 = (true, [], 0) ∧ accNew true 1 [(b, true, bs)] 2 b2 = (2, [(b, true, bs), (b2, false, [])]) := by simp [accRes, accNew, waitsL, cut16]
theorem st_split {c : Cl} {l : Int} {L : List AL} (h : (c.last, c.acc.map Acc.log) = (l, L)) : c.last = l ∧ c.acc.map Acc.log = L := by simpa using h
set_option maxRecDepth 100000 in
set_option maxHeartbeats 2000000 in
theorem lives37_any (w : World) : Calls Tryz.prog 21 #[] w fun e w' => e = .returned (.bool true) ∧ Below w.heap.size w w' := by
  go_enter Tryz.func21, Tryz.ntmps21
  go_wp2_with fail
  refine (newS_any _).mono ?_
  rintro e w1 ⟨g, mb, rfl, hg, hm, hS, hb1⟩
  go_wp2_with fail
  refine (call_any 7 5 _).mono ?_
  rintro e w2 ⟨gc, rfl, hgc, hC, hb2⟩
  have hB : Both w w2 g mb [] gc 7 5 0 (.slice none 0 0) [] [] := ⟨hS.all hb2, hC, fun b hb hc => by
      have := hS.ltF b hb
      rcases hc with e | e
      · omega
      · simp [Value.ownBlock] at e, bt hb1 hb2, by
      rintro b (e | e | ⟨_, h, _⟩)
      · omega
      · omega
      · simp at h, by
      rintro b (e | e)
      · have := hb1.size
        omega
      · simp [Value.ownBlock] at e, by simp⟩
  clear hS hC hb1 hb2 hg hm hgc
  go_wp2_with fail
  refine (join_yes g mb [] 7 5 _ (Lib.hid hB.ses) (by decide) (by decide) rfl).mono ?_
  rintro e w3 ⟨sb, rfl, hS3, m3, hF3⟩
  replace hB := hB.toSes hS3 m3 hF3
  clear hS3 m3 hF3
  rw [List.nil_append] at hB
  obtain ⟨wl1, kc, hL, hb⟩ := lit_conv (w3) #[.int .u8 111, .int .u8 110, .int .u8 101] [111, 110, 101] 3 (w3.heap.size) (by simp) rfl (by decide) (idx3 rfl rfl rfl)
  replace hB := hB.all hb
  clear hb
  go_wp2_with fail
  refine (send_yes gc 7 5 0 _ _ _ 3 3 [111, 110, 101] _ (Lib.hid hB.call) (by decide) (by decide) (by decide) (by simp) (Lib.hid hL)).mono ?_
  intro e ws1 hp
  obtain ⟨r1, A1, c1, tag1, rv1, rfl, HT1, hr1, HR1, hB'⟩ := hB.sent1 (last' := 1) (n := 3) hp rfl rfl
  replace hB := hB'
  clear hp hB' kc hL hr1
  obtain ⟨wl2, kc, hL, hb⟩ := lit_conv (ws1.alloc (.cells #[.int .i64 7, .int .i64 1, .slice A1 3 c1, .int .u64 tag1] 49)) #[.int .u8 116, .int .u8 119, .int .u8 111] [116, 119, 111] 3 (ws1.heap.size + 1) (by simp) rfl (by decide) (idx3 rfl rfl rfl)
  replace hB := hB.all hb
  clear hb
  go_wp2_with fail
  refine (send_yes gc 7 5 1 _ _ _ 3 3 [116, 119, 111] _ (Lib.hid hB.call) (by decide) (by decide) (by decide) (by simp) (Lib.hid hL)).mono ?_
  intro e ws2 hp
  obtain ⟨r2, A2, c2, tag2, rv2, rfl, HT2, hr2, HR2, hB'⟩ := hB.sent1 (last' := 2) (n := 3) hp rfl rfl
  replace hB := hB'
  clear hp hB' kc hL hr2
  obtain ⟨wl3, kc, hL, hb⟩ := lit_conv (ws2.alloc (.cells #[.int .i64 7, .int .i64 2, .slice A2 3 c2, .int .u64 tag2] 49)) #[.int .u8 116, .int .u8 104, .int .u8 114, .int .u8 101, .int .u8 101] [116, 104, 114, 101, 101] 5 (ws2.heap.size + 1) (by simp) rfl (by decide) (idx5 rfl rfl rfl rfl rfl)
  replace hB := hB.all hb
  clear hb
  go_wp2_with fail
  refine (send_yes gc 7 5 2 _ _ _ 5 5 [116, 104, 114, 101, 101] _ (Lib.hid hB.call) (by decide) (by decide) (by decide) (by simp) (Lib.hid hL)).mono ?_
  intro e ws3 hp
  obtain ⟨r3, A3, c3, tag3, rv3, rfl, HT3, hr3, HR3, hB'⟩ := hB.sent1 (last' := 3) (n := 5) hp rfl rfl
  replace hB := hB'
  clear hp hB' kc hL hr3
  obtain ⟨ca, hcd⟩ : ∃ ca : Cl, ca = ⟨7, 5, 0, [], sb, .slice none 0 0⟩ := ⟨_, rfl⟩
  rw [← hcd] at hB
  have hci : ca.id = 7 := by rw [hcd]
  have hck : ca.key = 5 := by rw [hcd]
  have hcl : ca.last = 0 := by rw [hcd]
  have hcg : ca.acc.map Acc.log = [] := by rw [hcd]; rfl
  clear hcd
  obtain ⟨⟨k0, k1, k2, k3, -, -, -, -⟩, ⟨j0, j1, j2, j3, -, -, -, -⟩, ⟨i0, i1, i2, i3, -, -, -, -⟩⟩ := And.intro (blk4 (hB.held _ (List.mem_cons_self ..)).1) (And.intro (blk4 (hB.held _ (List.mem_cons_of_mem _ (List.mem_cons_self ..))).1) (blk4 (hB.held _ (List.mem_cons_of_mem _ (List.mem_cons_of_mem _ (List.mem_cons_self ..)))).1))
  dsimp only at k0 k1 k2 k3 j0 j1 j2 j3 i0 i1 i2 i3
  go_wp2_with fail
  generalize ws3.alloc (.cells #[.int .i64 7, .int .i64 3, .slice A3 5 c3, .int .u64 tag3] 49) = wh at *
  clear k0 k1 k2 k3 j0 j1 j2 j3 i0 i1 i2 i3
  refine (acc1 hB ⟨7, 1, A1, 3, c1, [111, 110, 101], tag1⟩ (hB.held _ (List.mem_cons_of_mem _ (List.mem_cons_of_mem _ (List.mem_cons_self ..)))).2.1 hci (by dsimp only; decide) (by dsimp only; decide) (by dsimp only; decide) (by dsimp only; decide) (by dsimp only; decide) (by rw [hcl]; decide) (R := (true, [], 0)) (by rw [hck, hcl, hcg, tagOk_true HT1.out]; exact (r_new _).1) (N := (1, [(bodyI [111, 110, 101], false, [])])) (by rw [hck, hcl, hcg, tagOk_true HT1.out]; exact (r_new _).2)).mono ?_
  rintro e wa ⟨Awa, nwa, cwa, cb, rfl, hbt, hi', hk', hst, hB', hm'⟩
  replace hci := hi'.trans hci
  replace hck := hk'.trans hck
  clear hbt
  clear hcl hcg
  obtain ⟨hcl, hcg⟩ := st_split hst
  clear hB hi' hk' hst hm'
  have hB := hB'
  clear hB'
  obtain ⟨⟨k0, k1, k2, k3, -, -, -, -⟩, ⟨j0, j1, j2, j3, -, -, -, -⟩, ⟨i0, i1, i2, i3, -, -, -, -⟩⟩ := And.intro (blk4 (hB.held _ (List.mem_cons_self ..)).1) (And.intro (blk4 (hB.held _ (List.mem_cons_of_mem _ (List.mem_cons_self ..))).1) (blk4 (hB.held _ (List.mem_cons_of_mem _ (List.mem_cons_of_mem _ (List.mem_cons_self ..)))).1))
  dsimp only at k0 k1 k2 k3 j0 j1 j2 j3 i0 i1 i2 i3
  go_wp2_with fail
  clear k0 k1 k2 k3 j0 j1 j2 j3 i0 i1 i2 i3
  refine (acc1 hB ⟨7, 1, A1, 3, c1, [111, 110, 101], tag1⟩ (hB.held _ (List.mem_cons_of_mem _ (List.mem_cons_of_mem _ (List.mem_cons_self ..)))).2.1 hci (by dsimp only; decide) (by dsimp only; decide) (by dsimp only; decide) (by dsimp only; decide) (by dsimp only; decide) (by rw [hcl]; decide) (R := (false, [], 13)) (by rw [hck, hcl, hcg, tagOk_true HT1.out]; exact (r_busy _).1) (N := (1, [(bodyI [111, 110, 101], false, [])])) (by rw [hck, hcl, hcg, tagOk_true HT1.out]; exact (r_busy _).2)).mono ?_
  rintro e wb ⟨Awb, nwb, cwb, cc, rfl, hbt, hi', hk', hst, hB', hm'⟩
  replace hci := hi'.trans hci
  replace hck := hk'.trans hck
  clear hbt
  clear hcl hcg
  obtain ⟨hcl, hcg⟩ := st_split hst
  clear hB hi' hk' hst hm'
  have hB := hB'
  clear hB'
  obtain ⟨wl4, kc, hL, hb⟩ := lit_conv wb #[.int .u8 100, .int .u8 111, .int .u8 110, .int .u8 101] [100, 111, 110, 101] 4 wb.heap.size rfl rfl (by decide) (idx4 rfl rfl rfl rfl)
  replace hB := hB.all hb
  clear hb
  go_wp2_with fail
  refine (ans1 hB 7 1 _ 4 4 [100, 111, 110, 101] hL (by decide) hci (R := 0) (by rw [hcl, hcg]; exact (r_ans _ []).1) (N := [(bodyI [111, 110, 101], true, [100, 111, 110, 101])]) (by rw [hcl, hcg]; exact (r_ans _ _).2)).mono ?_
  rintro e wc ⟨cd, rfl, hi', hk', hl', hg', hB'⟩
  replace hci := hi'.trans hci
  replace hck := hk'.trans hck
  replace hcl := hl'.trans hcl
  clear hcg hB
  have hcg := hg'
  have hB := hB'
  clear hB' hg' hl' hi' hk' hL kc
  obtain ⟨⟨k0, k1, k2, k3, -, -, -, -⟩, ⟨j0, j1, j2, j3, -, -, -, -⟩, ⟨i0, i1, i2, i3, -, -, -, -⟩⟩ := And.intro (blk4 (hB.held _ (List.mem_cons_self ..)).1) (And.intro (blk4 (hB.held _ (List.mem_cons_of_mem _ (List.mem_cons_self ..))).1) (blk4 (hB.held _ (List.mem_cons_of_mem _ (List.mem_cons_of_mem _ (List.mem_cons_self ..)))).1))
  dsimp only at k0 k1 k2 k3 j0 j1 j2 j3 i0 i1 i2 i3
  go_wp2_with fail
  clear k0 k1 k2 k3 j0 j1 j2 j3 i0 i1 i2 i3
  refine (acc1 hB ⟨7, 1, A1, 3, c1, [111, 110, 101], tag1⟩ (hB.held _ (List.mem_cons_of_mem _ (List.mem_cons_of_mem _ (List.mem_cons_self ..)))).2.1 hci (by dsimp only; decide) (by dsimp only; decide) (by dsimp only; decide) (by dsimp only; decide) (by dsimp only; decide) (by rw [hcl]; decide) (R := (false, [100, 111, 110, 101], 0)) (by rw [hck, hcl, hcg, tagOk_true HT1.out]; exact (r_again _ _).1) (N := (1, [(bodyI [111, 110, 101], true, [100, 111, 110, 101])])) (by rw [hck, hcl, hcg, tagOk_true HT1.out]; exact (r_again _ _).2)).mono ?_
  rintro e wd ⟨Awd, nwd, cwd, ce, rfl, hbt, hi', hk', hst, hB', hm'⟩
  replace hci := hi'.trans hci
  replace hck := hk'.trans hck
  have hTX := hbt
  clear hbt
  clear hcl hcg
  obtain ⟨hcl, hcg⟩ := st_split hst
  clear hB hi' hk' hst hm'
  have hB := hB'
  clear hB'
  obtain ⟨⟨k0, k1, k2, k3, -, -, -, -⟩, ⟨j0, j1, j2, j3, -, -, -, -⟩, ⟨i0, i1, i2, i3, -, -, -, -⟩⟩ := And.intro (blk4 (hB.held _ (List.mem_cons_self ..)).1) (And.intro (blk4 (hB.held _ (List.mem_cons_of_mem _ (List.mem_cons_self ..))).1) (blk4 (hB.held _ (List.mem_cons_of_mem _ (List.mem_cons_of_mem _ (List.mem_cons_self ..)))).1))
  dsimp only at k0 k1 k2 k3 j0 j1 j2 j3 i0 i1 i2 i3
  go_wp2_with fail
  clear k0 k1 k2 k3 j0 j1 j2 j3 i0 i1 i2 i3
  refine (acc1 hB ⟨7, 3, A3, 5, c3, [116, 104, 114, 101, 101], tag3⟩ (hB.held _ (List.mem_cons_self ..)).2.1 hci (by dsimp only; decide) (by dsimp only; decide) (by dsimp only; decide) (by dsimp only; decide) (by dsimp only; decide) (by rw [hcl]; decide) (R := (false, [], 3)) (by rw [hck, hcl, hcg, tagOk_true HT3.out]; exact (r_more _ _ _).1) (N := (1, [(bodyI [111, 110, 101], true, [100, 111, 110, 101])])) (by rw [hck, hcl, hcg, tagOk_true HT3.out]; exact (r_more _ _ _).2)).mono ?_
  rintro e we ⟨Awe, nwe, cwe, cf, rfl, hbt, hi', hk', hst, hB', hm'⟩
  replace hci := hi'.trans hci
  replace hck := hk'.trans hck
  replace hTX := hTX.mod hm' hB.ses.noB
  clear hbt
  clear hcl hcg
  obtain ⟨hcl, hcg⟩ := st_split hst
  clear hB hi' hk' hst hm'
  have hB := hB'
  clear hB'
  obtain ⟨⟨k0, k1, k2, k3, -, -, -, -⟩, ⟨j0, j1, j2, j3, -, -, -, -⟩, ⟨i0, i1, i2, i3, -, -, -, -⟩⟩ := And.intro (blk4 (hB.held _ (List.mem_cons_self ..)).1) (And.intro (blk4 (hB.held _ (List.mem_cons_of_mem _ (List.mem_cons_self ..))).1) (blk4 (hB.held _ (List.mem_cons_of_mem _ (List.mem_cons_of_mem _ (List.mem_cons_self ..)))).1))
  dsimp only at k0 k1 k2 k3 j0 j1 j2 j3 i0 i1 i2 i3
  go_wp2_with fail
  clear k0 k1 k2 k3 j0 j1 j2 j3 i0 i1 i2 i3
  refine (acc1 hB ⟨7, 2, A2, 3, c2, [116, 119, 111], tag2⟩ (hB.held _ (List.mem_cons_of_mem _ (List.mem_cons_self ..))).2.1 hci (by dsimp only; decide) (by dsimp only; decide) (by dsimp only; decide) (by dsimp only; decide) (by dsimp only; decide) (by rw [hcl]; decide) (R := (true, [], 0)) (by rw [hck, hcl, hcg, tagOk_true HT2.out]; exact (r_next _ _ _).1) (N := (2, [(bodyI [111, 110, 101], true, [100, 111, 110, 101]), (bodyI [116, 119, 111], false, [])])) (by rw [hck, hcl, hcg, tagOk_true HT2.out]; exact (r_next _ _ _).2)).mono ?_
  rintro e wf ⟨Awf, nwf, cwf, cg, rfl, hbt, hi', hk', hst, hB', hm'⟩
  replace hci := hi'.trans hci
  replace hck := hk'.trans hck
  replace hTX := hTX.mod hm' hB.ses.noB
  clear hbt
  clear hcl hcg
  obtain ⟨hcl, hcg⟩ := st_split hst
  clear hB hi' hk' hst hm'
  have hB := hB'
  clear hB'
  have ks := conv_str (P := Tryz.prog) (src := 44) (dst := 9) (c := cwd) Tryz.underlying44 Tryz.underlying5 Tryz.underlying9 hTX.1 hTX.rd
  have HBB := Lib.hid hB.below
  go_wp2_with (first
    | (go_at_call 20; ((with_reducible refine (lastS_any g mb _ 7 _ (Lib.hid hB.ses)).mono ?_); rintro e w' ⟨rfl, rfl⟩; rw [findC_one hci]; simp only [Option.elim_some, hcl]))
    | (go_at_call 50; ((with_reducible refine (again_any gc 7 5 _ _ _ _ (Lib.hid hB.call) (by simp)).mono ?_); rintro e w' ⟨Ag, cgg, lg, rfl, -, -, -, hbg⟩)))
  go_ret
  exact ⟨rfl, bt HBB.out hbg⟩
end Go.Proofs.YtgepbklpobobbaaGreatDoor

/- worldmintref01: Pick. -/
namespace Go.Proofs.YtgepbklpobobbaaGreatDoor
open Go.RowKit

/-- Element i of a list of numbers, reduced; 0 where there is none. -/
def pickI (n : Nat) (f : Nat → Int) (i most : Nat) : Int := if i < n then aroundI (f i) (most : Int) else 0
set_option maxRecDepth 100000 in
theorem pick_nat (A : Option Addr) (n c : Nat) (f : Nat → Int) (i : Nat) (ii : Int) (m : Nat) (mi : Int) (w : World) (B : Nat) (hii : ii = (i : Int)) (hmi : mi = (m : Int)) (hR : Rd w B A n (fun j => .int .i64 (f j))) (hw : Hid (∀ j, j < n → -9223372036854775808 ≤ f j ∧ f j ≤ 9223372036854775807)) (h3 : 0 < m) (h4 : m ≤ 9223372036854775807) :
    Calls Tryz.prog 13 #[.slice A n c, .int .i64 ii, .int .i64 mi] w fun e w' => ∃ k : Nat, e = .returned (.int .i64 (k : Int)) ∧ k < m ∧ Hid ((k : Int) = pickI n f i m) ∧ w = w' := by
  subst hii hmi
  by_cases h : i < n
  · obtain ⟨b, off, hA, hb, hc⟩ := hR (by omega)
    subst hA
    have hci := hc i h
    obtain ⟨l0, l1⟩ := hw.out i h
    have h0 : (0 : Int) ≤ (i : Int) := by omega
    have h1 : ¬ ((n : Int) ≤ (i : Int)) := by omega
    have h2 : (i : Int) < (n : Int) := by omega
    clear hc hR
    go_enter Tryz.func13, Tryz.ntmps13
    go_wp2_with fail
    refine (around_nat _ m _ _ rfl l0 l1 h3 h4).mono ?_
    rintro e w1 ⟨k, rfl, hk, HK, rfl⟩
    go_wp2
    go_ret
    exact ⟨k, rfl, hk, Lib.hid (by unfold pickI; rw [if_pos h]; exact HK.out), rfl⟩
  · have h1 : (n : Int) ≤ (i : Int) := by omega
    have h0 : (0 : Int) ≤ (i : Int) := by omega
    go_enter Tryz.func13, Tryz.ntmps13
    go_wp2
    go_ret
    exact ⟨0, rfl, h3, Lib.hid (by unfold pickI; rw [if_neg h]; rfl), rfl⟩
end Go.Proofs.YtgepbklpobobbaaGreatDoor

/- The variable lexer.kinds, listed in a row: its letters are letters. -/
namespace Go.Proofs.YtgepbklpobobbaaGreatDoor
open Go.ChangeShapes Go.WideShapes Go.ChangeAt Go.WideMaps Go.WideElems Go.RowKit

abbrev laidK : List (String × DataW Unit) := [("worldmint/lexer.kinds", Rows.laid_worldmint_lexer_kinds)]
theorem Tryz.gKinds : Tryz.prog.globalNamed "worldmint/lexer.kinds" = some 1 := by kernel_rfl
theorem Tryz.tKinds : (Tryz.prog.globals[1]?).map (·.type) = some 298 := by kernel_rfl
/-- The door's own heap meets the condition. -/
theorem kinds_door (os : Os) (args : Array Value) : laidMetH Tryz.prog laidK ((World.doorLaid Tryz.prog 400 os).forCall (fun _ _ => 0) ⟨#[], args, []⟩).memory :=
  laidMetH_of_parts3 (fuel := 8) (laidMet_of_run' 8 (by kernel_rfl) (by kernel_rfl)) (by kernel_rfl) (by kernel_rfl)
theorem kinds_letter {H : Type} {xs : List (DataW H)} (h : DataW.agg xs = Rows.laid_worldmint_lexer_kinds) : ∀ x : Nat, 97 ≤ x → x ≤ 122 → xs[x]? = some (.lit (.int .u8 3)) := by
  unfold Rows.laid_worldmint_lexer_kinds at h
  injection h with h
  subst h
  intro x h1 h2
  obtain ⟨k, rfl⟩ : ∃ k, x = 97 + k := ⟨x - 97, by omega⟩
  have hk : k < 26 := by omega
  match k, hk with
  | 0, _ | 1, _ | 2, _ | 3, _ | 4, _ | 5, _ | 6, _ | 7, _ | 8, _ | 9, _ | 10, _ | 11, _ | 12, _ | 13, _ | 14, _ | 15, _ | 16, _ | 17, _ | 18, _ | 19, _ | 20, _ | 21, _ | 22, _ | 23, _ | 24, _ | 25, _ => rfl
  | k + 26, h => exact absurd h (by omega)
theorem kinds_at {H : Type} {xs : List (DataW H)} (h : DataW.agg xs = Rows.laid_worldmint_lexer_kinds) (x : Nat) (k : Int) (hk : kd x = some k) : xs[x]? = some (.lit (.int .u8 k)) := by
  unfold kd at hk
  split at hk
  · rename_i hx
    injection hk with hk
    subst hk
    exact kinds_letter h x hx.1 hx.2
  · unfold Rows.laid_worldmint_lexer_kinds at h
    injection h with h
    subst h
    split at hk
    · rename_i hx
      injection hk with hk
      subst hk hx
      rfl
    · split at hk
      · rename_i hx
        injection hk with hk
        subst hk hx
        rfl
      · cases hk
theorem kinds_laid {W : World} (h : laidMetH Tryz.prog laidK W) : KL W := by
  rw [MakeChecks.laidMetH_plain _ _ _ (by kernel_rfl)] at h
  obtain ⟨ps, ⟨g0, t0, cs0, f0, p0, q0, hg0, ht0, hv0, hd0, _, _⟩, _, _⟩ := h
  obtain rfl := Option.some.inj (Tryz.gKinds.symm.trans hg0)
  obtain rfl := Option.some.inj (Tryz.tKinds.symm.trans ht0)
  obtain ⟨xs, m1, rfl, hx1, hlen, hn, hel⟩ := DataW.trod_array Tryz.underlying298 hd0
  simp only [Prod.mk.injEq] at hx1
  have c1 : Tryz.prog.cellsOf 5 = 1 := by kernel_rfl
  rw [c1] at hel
  intro x k hk
  have hx := kinds_at hx1.1.symm x k hk
  have he := hel x (by have := (kd_lt hk).1; omega)
  rw [List.getElem?_map] at hx
  obtain ⟨y, hy, hx⟩ := Option.map_eq_some_iff.1 hx
  rw [hy] at he
  obtain ⟨n, e1, e2, _⟩ := DataW.trod_int Tryz.underlying5 he
  subst e2
  have hn3 : n = k := by simpa using hx
  subst hn3
  have hc := World.var?_cell hg0 hv0 x
  rw [hc]
  have e3 := congrArg (fun l => l[0]?) e1
  simp only [List.getElem?_take, List.getElem?_drop, Nat.mul_one, Nat.add_zero] at e3
  simpa using e3
end Go.Proofs.YtgepbklpobobbaaGreatDoor
