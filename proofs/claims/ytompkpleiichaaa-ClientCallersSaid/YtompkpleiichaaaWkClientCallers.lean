/- The walk of ClientCallers. -/
import Derived.Test.YtompkpleiichaaaCliSendA
import Derived.Test.YtompkpleiichaaaCliGotP
import Derived.Test.YtompkpleiichaaaCliLives
import Derived.Test.YtompkpleiichaaaLaw
namespace Go.Proofs.Ytompkpleiichaaa
open Go.ChangeShapes Go.WideShapes Go.ChangeAt Go.RowKit Go.ChangeMaps

theorem CallAt.notF {w : World} {T E t : TypeId} {g b : Nat} {cl key last : Int} {rv : Value} {op : List Rq} (h : CallAt w T E g cl key last rv op) (hb : Ty w b t) (h1 : t ≠ T) (h2 : t ≠ E) : ¬ CallF g rv b := by
  rintro (rfl | e)
  · exact h1 (Ty.unique hb h.1.ty)
  · exact h2 (Ty.unique hb (Ty.of_own h.2.1 e))
theorem keep8 {wz w' : World} {g s : Nat} {t t' : TypeId} {a b c d a' b' c' d' : Value} (h : Below wz.heap.size wz w') (h1 : Blk wz g t #[a, b, c, d]) (h2 : Blk wz s t' #[a', b', c', d']) :
    Below wz.heap.size wz w' ∧ w'.cell? ⟨g, 0, none⟩ = some a ∧ w'.cell? ⟨g, 1, none⟩ = some b ∧ w'.cell? ⟨g, 2, none⟩ = some c ∧ w'.cell? ⟨g, 3, none⟩ = some d ∧ w'.cell? ⟨s, 0, none⟩ = some a' ∧ w'.cell? ⟨s, 1, none⟩ = some b' ∧ w'.cell? ⟨s, 2, none⟩ = some c' ∧ w'.cell? ⟨s, 3, none⟩ = some d' :=
  ⟨h, (h1.all h).cell 0, (h1.all h).cell 1, (h1.all h).cell 2, (h1.all h).cell 3, (h2.all h).cell 0, (h2.all h).cell 1, (h2.all h).cell 2, (h2.all h).cell 3⟩

set_option maxRecDepth 100000 in
set_option maxHeartbeats 8000000 in
theorem ClientCallers_walk (W : World) (a0 : Int) (_ha0 : Hid ((Lit.int .i64 a0).wf = true)) (a1 : Int) (_ha1 : Hid ((Lit.int .u64 a1).wf = true)) (A2 : Option Addr) (n2 c2 : Nat) (f2 : Nat → Int) (_hA2 : A2 = none → n2 = 0) (_hn2 : n2 ≤ c2) (_hc2 : c2 ≤ 9223372036854775807) (hR2 : Rd W W.heap.size A2 n2 (fun j => .int .i64 (f2 j))) (hw2 : Hid (∀ j, j < n2 → (Lit.int .i64 (f2 j)).wf = true)) :
    Calls Try.prog 5 #[.int .i64 a0, .int .u64 a1, .slice A2 n2 c2] W fun e w' => e = .returned (.bool true) ∧ Below W.heap.size W w' := by
  have hb := Below.refl W.heap.size W
  go_enter Try.func5, Try.ntmps5
  go_wp2_with fail
  refine (call_any _ _ _).mono ?_
  rintro e w1 ⟨gc, rfl, hgc, hC, hb1⟩
  have hT := Two.new hC (bt hb hb1) hgc
  go_wp2
  obtain ⟨gm, hgm⟩ : ∃ gm, w1.heap.size = gm := ⟨_, rfl⟩
  rw [hgm] at hT ⊢
  clear hgm hC hb1 hgc hb
  generalize w1.alloc (.cells #[.int .i64 a0, .int .u64 a1, .int .i64 0, .slice none 0 0] 63) = w2 at *
  go_loopw [9] (fun i wr => ∃ (q : Nat) (last : Int) (rv rvm : Value) (op opm : List Rq), q ≤ 81 ∧ i = .int .i64 (q : Int) ∧ 0 ≤ last ∧ last ≤ q ∧ op.length ≤ 16 ∧ Hid (op.map Rq.log = opm.map Rq.log) ∧ Hid (Two W wr gc gm a0 a1 last last rv op rvm opm)) (fun i _ => 100 - (intOf i).toNat)
  case atStart => exact ⟨0, 0, _, _, [], [], by omega, rfl, by omega, by omega, by decide, Lib.hid rfl, Lib.hid hT⟩
  case round =>
    obtain ⟨q, last, rv, rvm, op, opm, hq, rfl, hl0, hlq, hop, HS, HT⟩ := hrel
    clear hT
    by_cases h1 : q + 1 < n2
    · by_cases h2 : q < 80
      · have hR := HT.out.below
        obtain ⟨bl, off, hA, hbl, hcell⟩ := (hR2.below hR (Nat.le_refl _)) (by omega)
        subst hA
        have hc1 := hcell (q + 1) h1
        have hc0 := hcell q (by omega)
        obtain ⟨hx0, hx1⟩ := wf_i64 (hw2.out (q + 1) h1)
        obtain ⟨hy0, hy1⟩ := wf_i64 (hw2.out q (by omega))
        clear hcell hR
        have hlt : bl < wr.heap.size := Nat.lt_of_lt_of_le hbl HT.out.below.size
        --@1
        go_wp2_with fail
        refine (body_any _ _ hx0 hx1).mono ?_
        rintro e w3 ⟨A3, n3, c3, rfl, hB3, hb3⟩
        have HT3 := Lib.hid (HT.out.all hb3)
        have hc0' := (hb3.cell (p := ⟨bl, off + q, none⟩) hlt).trans hc0
        have hlt3 : bl < w3.heap.size := Nat.lt_of_lt_of_le hbl HT3.out.below.size
        have HLM := Lib.hid (show opm.length = op.length by rw [← List.length_map (f := Rq.log), ← List.length_map (f := Rq.log), HS.out])
        clear HT hc0 hc1 hb3 hlt hx0 hx1
        have HBL := Lib.hid (bodyL_len (f2 (q + 1)))
        generalize bodyL (f2 (q + 1)) = bs at *
        have hbl3 : n3 ≤ 1000000 := by have := hB3.1; have := HBL.out; omega
        go_wp2_with fail
        refine (around_nat _ 9 9 _ rfl hy0 hy1 (by decide) (by decide)).mono ?_
        rintro e w4 ⟨k, rfl, hk, -, rfl⟩
        by_cases hk5 : k < 5
        · have hk5' : (k : Int) < 5 := by omega
          go_wp2_with fail
          refine (sendP_any gc a0 a1 last rv op A3 n3 c3 bs _ (Lib.hid HT3.out.call) hl0 (by omega) (Lib.hid hB3)).mono ?_
          rintro e w5 ⟨r2, rv5, op5, rfl, hok5, hlog5, hops5, hC5, hm5, hrv5⟩
          have hT5 := HT3.out.toC hC5 hm5 hrv5
          have hB5 := hB3.mod hm5 (HT3.out.call.noB (by decide) (by decide))
          have HOPS5 := Lib.hid hops5
          obtain ⟨er, her⟩ : ∃ er, sendErr op.length bs.length = er := ⟨_, rfl⟩
          have HER := Lib.hid her
          rw [her]
          have hb6 := (Below.refl w5.heap.size w5).alloc (Nat.le_refl _) (.cells #[.int .i64 r2.cl, .int .i64 r2.num, .slice r2.A r2.n r2.c, .int .u64 r2.tag] 32)
          have hbr := Blk.new w5 32 #[.int .i64 r2.cl, .int .i64 r2.num, .slice r2.A r2.n r2.c, .int .u64 r2.tag]
          have hT6 := hT5.all hb6
          have hB6 := hB5.all hb6
          have hok6 := hok5.all hb6
          clear hT5 hB5 hok5 hb6 her hC5 hm5 hrv5 hops5 HT3 hB3
          --@2
          go_wp2_with fail
          obtain ⟨gr, hgr⟩ : ∃ gr, w5.heap.size = gr := ⟨_, rfl⟩
          rw [hgr] at hbr ⊢
          clear hgr
          generalize w5.alloc (.cells #[.int .i64 r2.cl, .int .i64 r2.num, .slice r2.A r2.n r2.c, .int .u64 r2.tag] 32) = w6 at *
          refine (sendR_any gm a0 a1 last rvm opm A3 n3 c3 bs _ (Lib.hid hT6.ref) hl0 (by omega) (Lib.hid hB6)).mono ?_
          rintro e w7 ⟨r3, rvm7, opm7, rfl, hok7, hlog7, hops7, hC7, hm7, hrv7⟩
          have hT7 := hT6.toM hC7 hm7 hrv7
          have hbr7 := hm7.blk hbr (hT6.ref.notF hbr.ty (by decide) (by decide))
          have hok67 := hok6.mod hm7 (hT6.ref.noB (by decide) (by decide))
          rw [HLM.out] at hT7 hlog7 ⊢
          rw [HER.out]
          have HSM := Lib.hid (show sameR r2 r3 = true from (sameR_iff _ _).2 (hlog5.trans hlog7.symm))
          have HS7 := Lib.hid (show op5.map Rq.log = opm7.map Rq.log by rw [HOPS5.out, hops7, HS.out])
          have hop7 : op5.length ≤ 16 := by
            have := sendOps_len a0 a1 last (op.map Rq.log) bs (by rw [List.length_map]; exact hop)
            rw [← HOPS5.out, List.length_map] at this
            exact this
          have hlast : 0 ≤ sendLast last op.length bs.length ∧ sendLast last op.length bs.length ≤ last + 1 := by unfold sendLast; split <;> omega
          generalize sendLast last op.length bs.length = last7 at *
          have hb8 := (Below.refl w7.heap.size w7).alloc (Nat.le_refl _) (.cells #[.int .i64 r3.cl, .int .i64 r3.num, .slice r3.A r3.n r3.c, .int .u64 r3.tag] 37)
          have hbq := Blk.new w7 37 #[.int .i64 r3.cl, .int .i64 r3.num, .slice r3.A r3.n r3.c, .int .u64 r3.tag]
          have HT8 := Lib.hid (hT7.all hb8)
          have HBR := Lib.hid (hbr7.all hb8)
          have HOK2 := Lib.hid (hok67.all hb8)
          have HOK3 := Lib.hid (hok7.all hb8)
          clear hT6 hT7 hB6 hok6 hok67 hok7 hbr hbr7 hb8 hC7 hm7 hrv7 hops7 hlog5 hlog7 HER HOPS5
          go_wp2
          obtain ⟨gq, hgq⟩ : ∃ gq, w7.heap.size = gq := ⟨_, rfl⟩
          rw [hgq] at hbq ⊢
          clear hgq
          generalize w7.alloc (.cells #[.int .i64 r3.cl, .int .i64 r3.num, .slice r3.A r3.n r3.c, .int .u64 r3.tag] 37) = w8 at *
          have HBQ := Lib.hid hbq
          obtain ⟨q0, q1, q2, q3, -, -, -, -⟩ := blk4 HBR.out
          obtain ⟨s0, s1, s2, s3, -, -, -, -⟩ := blk4 hbq
          clear hbq
          --@3
          go_region_held3 (fun w' => Below w8.heap.size w8 w' ∧ w'.cell? ⟨gr, 0, none⟩ = some (.int .i64 r2.cl) ∧ w'.cell? ⟨gr, 1, none⟩ = some (.int .i64 r2.num) ∧ w'.cell? ⟨gr, 2, none⟩ = some (.slice r2.A r2.n r2.c) ∧ w'.cell? ⟨gr, 3, none⟩ = some (.int .u64 r2.tag) ∧ w'.cell? ⟨gq, 0, none⟩ = some (.int .i64 r3.cl) ∧ w'.cell? ⟨gq, 1, none⟩ = some (.int .i64 r3.num) ∧ w'.cell? ⟨gq, 2, none⟩ = some (.slice r3.A r3.n r3.c) ∧ w'.cell? ⟨gq, 3, none⟩ = some (.int .u64 r3.tag))
            (first | with_reducible exact keep8 (Below.refl _ w8).drew HBR.out HBQ.out | with_reducible exact keep8 hS2 HBR.out HBQ.out)
            (first
              | (go_at_call 16; have hS1 := (‹Below w8.heap.size w8 _ ∧ _›).1; ((with_reducible refine (request_agg' _ _ _ _ _ _ _).mono ?_); rintro e wt ⟨rfl, hb3⟩; have hS2 := bt hS1 hb3; clear hS1 hb3))
              | (go_at_call 17; have hS1 := (‹Below w8.heap.size w8 _ ∧ _›).1; ((refine (sameRq_any r2 r3 _ (Lib.hid (HOK2.out.all hS1)) (Lib.hid (HOK3.out.all hS1))).mono ?_); rw [HSM.out]; rintro e wt ⟨rfl, hb3⟩; have hS2 := bt hS1 hb3; clear hS1 hb3)))
          have HT9 := Lib.hid (HT8.out.all hS2)
          clear hS2 q0 q1 q2 q3 s0 s1 s2 s3 HBR HBQ HOK2 HOK3 HSM HT8
          go_wp2_with fail
          refine (opens_any gc gm _ _ _ _ _ _ _ _ _ _ _ (Lib.hid HT9.out.call) (Lib.hid HT9.out.ref) HS7 (by omega)).mono ?_
          rintro e w10 ⟨rfl, hb10⟩
          have HT10 := Lib.hid (HT9.out.all hb10)
          clear HT9 hb10
          go_wp2
          exact ⟨⟨q + 2, last7, rv5, rvm7, op5, opm7, by omega, by go_num, hlast.1, by omega, hop7, HS7, HT10⟩, by simp [intOf]; omega⟩
        · have hk5' : ¬ ((k : Int) < 5) := by omega
          --@4
          obtain ⟨t0, t1, t2⟩ := tdiv_in 9 (by decide) hy0 hy1
          have m2 := (blk4 HT3.out.ref.1).2.2.1
          go_wp2
          go_quiet ((go_at_call 8; exact (around_any _ _ _ (by omega) (by omega) (by omega) (by omega)).mono (fun e w'' h => ⟨h.1, _, h.2.symm⟩)))
          generalize wrap64 (aroundI ((f2 q).tdiv 9) (last + 3) - 1) = x at *
          have HTQ := Lib.hid (show Two W (w3.drewN nq) gc gm a0 a1 last last rv op rvm opm from HT3.out.all ⟨rfl, rfl, rfl, Nat.le_refl _, fun _ _ => rfl⟩)
          have hcq : (w3.drewN nq).cell? ⟨bl, off + q, none⟩ = some (.int .i64 (f2 q)) := hc0'
          generalize w3.drewN nq = w4 at *
          clear t0 t1 t2 m2 hc0' hlt3 hB3 HT3
          obtain ⟨num, hnum⟩ : ∃ num, (if k = 8 then f2 q else x) = num := ⟨_, rfl⟩
          have hw : k = 8 ∧ f2 q = num ∨ ¬ k = 8 ∧ x = num := by
            by_cases h8 : k = 8
            · rw [if_pos h8] at hnum
              exact .inl ⟨h8, hnum⟩
            · rw [if_neg h8] at hnum
              exact .inr ⟨h8, hnum⟩
          clear hnum
          rcases hw with ⟨h8, hnum⟩ | ⟨h8, rfl⟩
          · have h8' : ((k : Int) == 8) = true := by simp [h8]
            rw [hnum] at hcq
            clear h8
            go_wp2_with fail
            rw [hnum]
            clear hnum
            refine (gotP_any gc a0 a1 last rv op num A3 n3 c3 _ (Lib.hid HTQ.out.call) (by omega) (by omega)).mono ?_
            rintro e w5 ⟨rv5, op5, rfl, hops5, hC5, hm5, hrv5⟩
            have hT5 := HTQ.out.toC hC5 hm5 hrv5
            rw [HS.out] at hops5 ⊢
            obtain ⟨er, her⟩ : ∃ er, gotErr last (opm.map Rq.log) num n3 = er := ⟨_, rfl⟩
            rw [her]
            have HER := Lib.hid her
            have HOPS5 := Lib.hid hops5
            clear hC5 hm5 hrv5 her hops5 HTQ hcq
            go_wp2_with fail
            refine (rgot_any gm a0 a1 last rvm opm num A3 n3 c3 _ (Lib.hid hT5.ref) (by rw [HLM.out]; omega) (by omega)).mono ?_
            rintro e w6 ⟨rvm6, opm6, rfl, hops6, hC6, hm6, hrv6⟩
            have HT6 := Lib.hid (hT5.toM hC6 hm6 hrv6)
            rw [HER.out]
            have HS6 := Lib.hid (HOPS5.out.trans hops6.symm)
            have hop6 : op5.length ≤ 16 := by
              have := gotNew_len last (opm.map Rq.log) num n3 (by rw [List.length_map, HLM.out]; exact hop)
              rw [← HOPS5.out, List.length_map] at this
              exact this
            clear hC6 hm6 hrv6 hops6 hT5 HER HOPS5
            go_wp2_with fail
            refine (opens_any gc gm _ _ _ _ _ _ _ _ _ _ _ (Lib.hid HT6.out.call) (Lib.hid HT6.out.ref) HS6 (by omega)).mono ?_
            rintro e w10 ⟨rfl, hb10⟩
            have HT10 := Lib.hid (HT6.out.all hb10)
            clear HT6 hb10
            go_wp2
            exact ⟨⟨q + 2, last, rv5, rvm6, op5, opm6, by omega, by go_num, hl0, by omega, hop6, HS6, HT10⟩, by simp [intOf]; omega⟩
          · have h8' : ((k : Int) == 8) = false := by simp; omega
            clear h8
            go_wp2_with fail
            refine (gotP_any gc a0 a1 last rv op x A3 n3 c3 _ (Lib.hid HTQ.out.call) (by omega) (by omega)).mono ?_
            rintro e w5 ⟨rv5, op5, rfl, hops5, hC5, hm5, hrv5⟩
            have hT5 := HTQ.out.toC hC5 hm5 hrv5
            rw [HS.out] at hops5 ⊢
            obtain ⟨er, her⟩ : ∃ er, gotErr last (opm.map Rq.log) x n3 = er := ⟨_, rfl⟩
            rw [her]
            have HER := Lib.hid her
            have HOPS5 := Lib.hid hops5
            clear hC5 hm5 hrv5 her hops5 HTQ hcq
            go_wp2_with fail
            refine (rgot_any gm a0 a1 last rvm opm x A3 n3 c3 _ (Lib.hid hT5.ref) (by rw [HLM.out]; omega) (by omega)).mono ?_
            rintro e w6 ⟨rvm6, opm6, rfl, hops6, hC6, hm6, hrv6⟩
            have HT6 := Lib.hid (hT5.toM hC6 hm6 hrv6)
            rw [HER.out]
            have HS6 := Lib.hid (HOPS5.out.trans hops6.symm)
            have hop6 : op5.length ≤ 16 := by
              have := gotNew_len last (opm.map Rq.log) x n3 (by rw [List.length_map, HLM.out]; exact hop)
              rw [← HOPS5.out, List.length_map] at this
              exact this
            clear hC6 hm6 hrv6 hops6 hT5 HER HOPS5
            go_wp2_with fail
            refine (opens_any gc gm _ _ _ _ _ _ _ _ _ _ _ (Lib.hid HT6.out.call) (Lib.hid HT6.out.ref) HS6 (by omega)).mono ?_
            rintro e w10 ⟨rfl, hb10⟩
            have HT10 := Lib.hid (HT6.out.all hb10)
            clear HT6 hb10
            go_wp2
            exact ⟨⟨q + 2, last, rv5, rvm6, op5, opm6, by omega, by go_num, hl0, by omega, hop6, HS6, HT10⟩, by simp [intOf]; omega⟩
      · go_wp2_with fail
        refine (lives37_any _).mono ?_
        rintro e w3 ⟨rfl, hb3⟩
        go_wp2
        go_ret
        exact ⟨rfl, bt HT.out.below hb3⟩
    · go_wp2_with fail
      refine (lives37_any _).mono ?_
      rintro e w3 ⟨rfl, hb3⟩
      go_wp2
      go_ret
      exact ⟨rfl, bt HT.out.below hb3⟩

end Go.Proofs.Ytompkpleiichaaa
