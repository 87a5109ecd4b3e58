/- The walk of ClientSessions. -/
import Derived.Test.YtompkpleiichaaaCliAlike
import Derived.Test.YtompkpleiichaaaCliLives
import Derived.Test.YtompkpleiichaaaCliRq
import Derived.Test.YtompkpleiichaaaLaw
import Derived.Deep.DeepCutAuto
namespace Go.Proofs.Ytompkpleiichaaa
open Go.ChangeShapes Go.WideShapes Go.ChangeAt Go.RowKit Go.ChangeMaps

theorem own_agg (cl num : Int) (A : Option Addr) (n c : Nat) (tag : Int) (w : World) : Calls Try.prog 14 #[.agg #[.int .i64 cl, .int .i64 num, .slice A n c, .int .u64 tag]] w fun e w' => e = .returned (.agg #[.int .i64 cl, .int .i64 num, .slice A n c, .int .u64 tag]) ∧ Below w.heap.size w w' :=
  ownR_any ⟨cl, num, A, n, c, [], tag⟩ w
def ChgPost (L : Int × Int × List UInt8 × Int) (w : World) (e : Ending) (w' : World) : Prop := ∃ r : Rq, e = .returned (.agg #[.int .i64 r.cl, .int .i64 r.num, .slice r.A r.n r.c, .int .u64 r.tag]) ∧ r.ok w' ∧ r.log = L ∧ Below w.heap.size w w'
theorem changed_agg (r : Rq) (which d : Int) (w : World) (hr : Hid (r.ok w)) (h1 : -9223372036854775808 ≤ which) (h2 : which ≤ 9223372036854775807) (h3 : -9223372036854775808 ≤ d) (h4 : d ≤ 9223372036854775807) :
    Calls Try.prog 15 #[.agg #[.int .i64 r.cl, .int .i64 r.num, .slice r.A r.n r.c, .int .u64 r.tag], .int .i64 which, .int .i64 d] w (ChgPost (chgL r which d) w) :=
  changed_any r which d w hr h1 h2 h3 h4
theorem chgL_num {r x : Rq} {which d : Int} (hx : x.log = chgL r which d) (hn : r.num ≤ 9223372036854775807) : x.num ≤ 9223372036854775807 := by
  have w64 : ∀ y : Int, wrap64 y ≤ 9223372036854775807 := fun y => by unfold wrap64; omega
  unfold chgL at hx
  split at hx
  · obtain ⟨-, x2, -⟩ := Rq.log_eq hx
    rw [x2]
    exact hn
  · split at hx
    · obtain ⟨-, x2, -⟩ := Rq.log_eq hx
      rw [x2]
      exact w64 _
    · split at hx
      · obtain ⟨-, x2, -⟩ := Rq.log_eq hx
        rw [x2]
        exact hn
      · obtain ⟨-, x2, -⟩ := Rq.log_eq hx
        rw [x2]
        exact hn
theorem keepL {wz w' : World} {b o : Nat} {v : Value} (h : Below wz.heap.size wz w') (hb : b < wz.heap.size) (hc : wz.cell? ⟨b, o, none⟩ = some v) : Below wz.heap.size wz w' ∧ w'.cell? ⟨b, o, none⟩ = some v := ⟨h, (h.cell (p := ⟨b, o, none⟩) hb).trans hc⟩
theorem lit8 (k : Nat) (h : k < 8) : ∃ x : Int, (∀ h, ([Value.int .i64 1, .int .i64 2, .int .i64 1073741824, .int .i64 0, .int .i64 1, .int .i64 2, .int .i64 1, .int .i64 3] : List Value)[k]'h = .int .i64 x) ∧ 0 ≤ x ∧ x ≤ 1073741824 := by
  match k, h with
  | 0, _ => exact ⟨_, fun _ => rfl, by decide, by decide⟩
  | 1, _ => exact ⟨_, fun _ => rfl, by decide, by decide⟩
  | 2, _ => exact ⟨_, fun _ => rfl, by decide, by decide⟩
  | 3, _ => exact ⟨_, fun _ => rfl, by decide, by decide⟩
  | 4, _ => exact ⟨_, fun _ => rfl, by decide, by decide⟩
  | 5, _ => exact ⟨_, fun _ => rfl, by decide, by decide⟩
  | 6, _ => exact ⟨_, fun _ => rfl, by decide, by decide⟩
  | 7, _ => exact ⟨_, fun _ => rfl, by decide, by decide⟩
theorem lit10 (k : Nat) (h : k < 10) : ∃ x : Int, (∀ h, ([Value.int .i64 1, .int .i64 1, .int .i64 0, .int .i64 1, .int .i64 (-1), .int .i64 2, .int .i64 1, .int .i64 (-15), .int .i64 (-16), .int .i64 1] : List Value)[k]'h = .int .i64 x) ∧ -16 ≤ x ∧ x ≤ 2 := by
  match k, h with
  | 0, _ => exact ⟨_, fun _ => rfl, by decide, by decide⟩
  | 1, _ => exact ⟨_, fun _ => rfl, by decide, by decide⟩
  | 2, _ => exact ⟨_, fun _ => rfl, by decide, by decide⟩
  | 3, _ => exact ⟨_, fun _ => rfl, by decide, by decide⟩
  | 4, _ => exact ⟨_, fun _ => rfl, by decide, by decide⟩
  | 5, _ => exact ⟨_, fun _ => rfl, by decide, by decide⟩
  | 6, _ => exact ⟨_, fun _ => rfl, by decide, by decide⟩
  | 7, _ => exact ⟨_, fun _ => rfl, by decide, by decide⟩
  | 8, _ => exact ⟨_, fun _ => rfl, by decide, by decide⟩
  | 9, _ => exact ⟨_, fun _ => rfl, by decide, by decide⟩
theorem Pool.new {W w : World} {g mb : Nat} (hS : SesAt w g mb []) (hb : Below W.heap.size W w) (hg : W.heap.size ≤ g) (hm : W.heap.size ≤ mb) : Pool W (w.alloc (.cells #[.slice none 0 0] 52)) [⟨g, mb, [], w.heap.size, .slice none 0 0, []⟩] := by
  have h1 := (Below.refl w.heap.size w).alloc (Nat.le_refl _) (.cells #[.slice none 0 0] 52)
  have hs := hb.size
  refine ⟨bt hb h1, ?_, ?_, ?_, ?_⟩
  · intro p hp
    rw [List.mem_singleton] at hp
    subst hp
    exact hS.all h1
  · intro p hp
    rw [List.mem_singleton] at hp
    subst hp
    exact ⟨Blk.new _ _ _, World.ownsRow_nil _ _ _ _, by simp⟩
  · intro p hp b hb
    rw [List.mem_singleton] at hp
    subst hp
    rcases hb with (e | e | ⟨_, h, _⟩) | (e | e)
    · dsimp only at e; omega
    · dsimp only at e; omega
    · simp at h
    · dsimp only at e; omega
    · simp [Value.ownBlock] at e
  · intro i j hi hj hne
    simp at hi hj
    omega

set_option maxRecDepth 100000 in
set_option maxHeartbeats 100000000 in
theorem ClientSessions_walk (W : World) (A0 : Option Addr) (n0 c0 : Nat) (f0 : Nat → Int) (_hA0 : A0 = none → n0 = 0) (_hn0 : n0 ≤ c0) (_hc0 : c0 ≤ 9223372036854775807) (hR0 : Rd W W.heap.size A0 n0 (fun j => .int .i64 (f0 j))) (hw0 : Hid (∀ j, j < n0 → (Lit.int .i64 (f0 j)).wf = true)) :
    Calls Try.prog 4 #[.slice A0 n0 c0] W fun e w' => e = .returned (.bool true) ∧ Below W.heap.size W w' := by
  have hb := Below.refl W.heap.size W
  go_enter Try.func4, Try.ntmps4
  go_wp2_with fail
  refine (newS_any _).mono ?_
  rintro e w1 ⟨g, mb, rfl, hg, hm, hS, hb1⟩
  have hP := Pool.new hS (bt hb hb1) hg hm
  go_wp2
  obtain ⟨gm, hgm⟩ : ∃ gm, w1.heap.size = gm := ⟨_, rfl⟩
  rw [hgm] at hP ⊢
  clear hgm hS hb1 hg hm hb
  generalize w1.alloc (.cells #[.slice none 0 0] 52) = w2 at *
  go_loopw [3, 4, 5, 6, 7] (fun s m c d i wr => ∃ (q : Nat) (L : List Pr) (x y : Nat) (hx : x < L.length) (hy : y < L.length), q ≤ 123 ∧ i = .int .i64 (q : Int) ∧ s = .pointer (some ⟨(L[x]).g, 0, none⟩) ∧ m = .pointer (some ⟨(L[x]).gm, 0, none⟩) ∧ c = .pointer (some ⟨(L[y]).g, 0, none⟩) ∧ d = .pointer (some ⟨(L[y]).gm, 0, none⟩) ∧ Hid (Alike q L) ∧ Hid (Pool W wr L)) (fun _ _ _ _ i _ => 200 - (intOf i).toNat)
  case atStart => exact ⟨0, [⟨g, mb, [], gm, .slice none 0 0, []⟩], 0, 0, Nat.zero_lt_one, Nat.zero_lt_one, by omega, rfl, rfl, rfl, rfl, rfl, Lib.hid (fun p hp => by
    rw [List.mem_singleton] at hp
    subst hp
    exact ⟨rfl, Nat.le_refl _, fun id s h => by simp [sigR, findR] at h⟩), Lib.hid hP⟩
  case round =>
    obtain ⟨q, L, x, y, hx, hy, hq, rfl, rfl, rfl, rfl, rfl, HA, HP⟩ := hrel
    clear hP
    obtain ⟨p, hp⟩ : ∃ p, L[x] = p := ⟨_, rfl⟩
    obtain ⟨p2, hp2⟩ : ∃ p2, L[y] = p2 := ⟨_, rfl⟩
    rw [hp, hp2]
    have HPX := Lib.hid hp
    have HPY := Lib.hid hp2
    clear hp hp2
    by_cases h1 : q + 3 < n0
    · by_cases h2 : q < 120
      · obtain ⟨bl, off, hA, hbl, hcell⟩ := (hR0.below HP.out.below (Nat.le_refl _)) (by omega)
        subst hA
        have HC := Lib.hid hcell
        have hc1 := hcell (q + 1) (by omega)
        obtain ⟨hy10, hy11⟩ := wf_i64 (hw0.out (q + 1) (by omega))
        have hbr : bl < wr.heap.size := Nat.lt_of_lt_of_le hbl HP.out.below.size
        clear hcell
        --@1
        have hb1 := (Below.refl wr.heap.size wr).alloc (Nat.le_refl _) (.cells #[.int .i64 1, .int .i64 2, .int .i64 1073741824, .int .i64 0, .int .i64 1, .int .i64 2, .int .i64 1, .int .i64 3] 3)
        have hc1' := (hb1.cell (p := ⟨bl, off + (q + 1), none⟩) hbr).trans hc1
        go_wp2_with fail
        refine (around_nat _ 8 8 _ rfl hy10 hy11 (by decide) (by decide)).mono ?_
        rintro e w3 ⟨k, rfl, hk, -, rfl⟩
        obtain ⟨id, hlit, hid0, hid1⟩ := lit8 k hk
        have hk0 : (0 : Int) ≤ (k : Int) := by omega
        have hk8 : (k : Int) < 8 := by omega
        go_wp2
        generalize wr.alloc (.cells #[.int .i64 1, .int .i64 2, .int .i64 1073741824, .int .i64 0, .int .i64 1, .int .i64 2, .int .i64 1, .int .i64 3] 3) = w4 at *
        have HP4 := Lib.hid (HP.out.all hb1)
        have HB4 := Lib.hid hb1
        have hbl4 : bl < w4.heap.size := Nat.lt_of_lt_of_le hbr hb1.size
        have hc2 := (hb1.cell (p := ⟨bl, off + (q + 2), none⟩) hbr).trans (HC.out (q + 2) (by omega))
        have HCC := Lib.hid hc2
        obtain ⟨hy20, hy21⟩ := wf_i64 (hw0.out (q + 2) (by omega))
        have hpm : p ∈ L := by rw [← HPX.out]; exact List.getElem_mem hx
        have HAP := Lib.hid (HA.out p hpm)
        have HRP := Lib.hid (HP4.out.ref p hpm)
        have HRL := Lib.hid (show p.rl.length ≤ 1000000 by have := HAP.out.2.1; omega)
        obtain ⟨la, hla⟩ : ∃ la, (sigR p.rl id).elim 0 (·.2.1) = la := ⟨_, rfl⟩
        have HLA := Lib.hid hla
        have hla1 : la ≤ q := by
          rw [← hla]
          rcases hs : sigR p.rl id with _ | s
          · simp
          · exact HAP.out.2.2 id s hs
        have hla0 : 0 ≤ la := by
          rw [← hla]
          unfold sigR
          rcases hf : findR p.rl id with _ | s
          · simp
          · have : s ∈ p.rl := List.mem_of_find?_eq_some hf
            exact (HRP.out.ok s this).last.1
        clear hla hc1 hc1' hlit hk hk0 hk8 hb1
        have z1 : IntKind.i64.wrap ((q : Int) + 2) = (q : Int) + 2 := IntWalk.i64_in _ (by omega)
        have z2 : (0 : Int) ≤ (q : Int) + 2 := by omega
        have z3 : (q : Int) + 2 < (n0 : Int) := by omega
        have z4 : ((q : Int) + 2).toNat = q + 2 := by omega
        have hc2b := (((Below.refl _ w4).alloc (Nat.le_refl _) (.cells #[.int .i64 1, .int .i64 1, .int .i64 0, .int .i64 1, .int .i64 (-1), .int .i64 2, .int .i64 1, .int .i64 (-15), .int .i64 (-16), .int .i64 1] 3)).drew.cell (p := ⟨bl, off + (q + 2), none⟩) hbl4).trans hc2
        go_cut [9] (fun s9 wx => ∃ num : Int, s9 = .int .i64 num ∧ -16 ≤ num ∧ num ≤ 1000 ∧ Below w4.heap.size w4 wx)
        case first =>
          go_region_law (first
            | (go_simp; go_at_call 8; ((with_reducible refine (around_nat _ 10 10 _ (by decide) hy20 hy21 (by decide) (by decide)).mono ?_); rintro e w5 ⟨k, rfl, hk, -, rfl⟩; obtain ⟨dx, hlit, hd0, hd1⟩ := lit10 k hk; have hk0 : (0 : Int) ≤ (k : Int) := (by omega); have hk10 : (k : Int) < 10 := (by omega); have z5 : IntKind.i64.wrap (la + dx) = la + dx := IntWalk.i64_in _ (by clear z1 z4; omega)))
            | (go_simp; go_at_call 23; ((with_reducible refine (rlast_any p.gm p.rv p.rl id _ (Lib.hid (by first | exact HRP.out.all (Below.refl _ w4).drew | exact HRP.out.all ((Below.refl _ w4).alloc (Nat.le_refl _) _).drew)) HRL.out).mono ?_); rw [HLA.out]; rintro e w5 ⟨rfl, rfl⟩)))
          all_goals (go_wp2_with fail; go_meet; exact ⟨la + dx, rfl, by clear z1 z4 z5; omega, by clear z1 z4 z5; omega, ((Below.refl _ w4).alloc (Nat.le_refl _) _).drew⟩)
        case rest =>
          obtain ⟨num, rfl, hnum0, hnum1, hb5⟩ := hcut
          have HP5 := Lib.hid (HP4.out.all hb5)
          clear z1 z2 z3 z4 hc2 hc2b HCC hbl4 HRP HB4 HP4 hb5 HC hy20 hy21
          have hcell := hR0.below HP5.out.below (Nat.le_refl _)
          obtain ⟨bl', off', hA', -, hcell⟩ := hcell (by omega)
          injection hA' with hA'
          injection hA' with e1 e2
          subst e1 e2
          have hc3 := hcell (q + 3) h1
          obtain ⟨hy30, hy31⟩ := wf_i64 (hw0.out (q + 3) h1)
          clear hcell
          go_wp2_with fail
          refine (body_any _ _ hy30 hy31).mono ?_
          rintro e w6 ⟨A6, n6, c6, rfl, hB6, hb6⟩
          have HP6 := Lib.hid (HP5.out.all hb6)
          have HBL := Lib.hid (bodyL_len (f0 (q + 3)))
          generalize bodyL (f0 (q + 3)) = bs at *
          have HB6 := Lib.hid hB6
          have hn6 : n6 ≤ 65538 := by have := hB6.1; have := HBL.out; omega
          clear hc3 hb6 HP5 hB6 HBL
          have hcell := hR0.below HP6.out.below (Nat.le_refl _)
          obtain ⟨bl', off', hA', -, hcell⟩ := hcell (by omega)
          injection hA' with hA'
          injection hA' with e1 e2
          subst e1 e2
          have hcl0 := hcell q (by omega)
          have hc2 := hcell (q + 2) (by omega)
          have hc3 := hcell (q + 3) (by omega)
          obtain ⟨hy00, hy01⟩ := wf_i64 (hw0.out q (by omega))
          clear hcell
          --@2
          go_wp2_with fail
          refine (around_nat _ 11 11 _ rfl hy00 hy01 (by decide) (by decide)).mono ?_
          rintro e w7 ⟨kk, rfl, hkk, -, rfl⟩
          have HSX := Lib.hid (show Shown w6 p.g p.gm p from HPX.out ▸ HP6.out.shown HA.out (by omega) hx)
          have HSY := Lib.hid (show Shown w6 p2.g p2.gm p2 from HPY.out ▸ HP6.out.shown HA.out (by omega) hy)
          have HRX := Lib.hid (show p.rl.length ≤ q ∧ ∀ id s, sigR p.rl id = some s → s.2.1 ≤ (q : Int) from HAP.out.2)
          have hcases : kk = 10 ∨ kk = 0 ∨ kk = 1 ∨ kk = 2 ∨ kk = 3 ∨ kk = 4 ∨ kk = 5 ∨ (kk ≠ 10 ∧ kk ≠ 0 ∧ kk ≠ 1 ∧ kk ≠ 2 ∧ kk ≠ 3 ∧ kk ≠ 4 ∧ kk ≠ 5) := by omega
          rcases hcases with h | h | h | h | h | h | h | h
          · as_aux_lemma =>
            have k10 : ((kk : Int) == 10) = true := by simp [h]
            clear h
            have tk1 : True := trivial
            have tk2 : True := trivial
            have HPn := HP6
            have HAn := Lib.hid (HA.out.mono (show q ≤ q + 4 by omega))
            go_wp2_with (first
              | (go_at_call 22; have _tk := tk1; ((with_reducible refine (lastP_any _ _ _ _ _ (Lib.hid HSY.out.ses)).mono ?_); rw [HSY.out.sig]; rintro e wl ⟨rfl, rfl⟩; clear tk1))
              | (go_at_call 23; have _tk := tk2; ((with_reducible refine (rlast_any _ _ _ _ _ (Lib.hid HSY.out.ref) HSY.out.len).mono ?_); rintro e wl ⟨rfl, rfl⟩; clear tk2))
              | (go_at_call 22; ((with_reducible refine (lastP_any _ _ _ _ _ (Lib.hid HSX.out.ses)).mono ?_); rw [HSX.out.sig]; rintro e wl ⟨rfl, rfl⟩))
              | (go_at_call 23; ((with_reducible refine (rlast_any _ _ _ _ _ (Lib.hid HSX.out.ref) HSX.out.len).mono ?_); rintro e wl ⟨rfl, rfl⟩)))
            exact ⟨⟨q + 4, L, y, x, hy, hx, by omega, by go_num, by rw [HPY.out], by rw [HPY.out], by rw [HPX.out], by rw [HPX.out], HAn, HPn⟩, by simp [intOf]; omega⟩
          · as_aux_lemma =>
            have k10 : ((kk : Int) == 10) = false := by simp; omega
            have k0 : ((kk : Int) == 0) = true := by simp [h]
            clear h
            go_wp2_with fail
            refine (joinP_any p.g p.mb p.cl id _ _ (Lib.hid HSX.out.ses)).mono ?_
            rintro e w8 ⟨rfl, hN8⟩
            obtain ⟨cl8, hs8, hP8⟩ := HP6.out.toS' hx HPX.out hN8
            rw [HSX.out.sig]
            obtain ⟨er, her⟩ : ∃ er, joinE (sigR p.rl id) id = er := ⟨_, rfl⟩
            rw [her]
            have HER := Lib.hid her
            clear hN8 her
            go_wp2_with fail
            refine (rjoin_any p.gm p.rv p.rl id _ _ (Lib.hid (hP8.ref ⟨p.g, p.mb, cl8, p.gm, p.rv, p.rl⟩ (mem_set_self hx))) HSX.out.len).mono ?_
            rintro e w9 ⟨rfl, hN9⟩
            rw [HER.out]
            obtain ⟨rv9, rl9, hs9, hl9, hP9⟩ := hP8.toR' hx hN9
            clear hN9 hP8
            have HPn := Lib.hid hP9
            have HAn := Lib.hid (HA.out.set (x := x) (p' := ⟨p.g, p.mb, cl8, p.gm, rv9, rl9⟩) (show sigP cl8 = sigR rl9 by rw [hs8, hs9, HSX.out.sig]) (show rl9.length ≤ q + 1 by have := HRX.out.1; (try dsimp only at hl9); omega) (show ∀ id s, sigR rl9 id = some s → s.2.1 ≤ (q : Int) + 1 by rw [hs9]; exact join_bnd (by omega) HRX.out.2))
            obtain ⟨hsx, hsy⟩ := hP9.shownSet HAn.out (by omega) hx hy HPX.out HPY.out rfl rfl
            have HEQ := Lib.hid (set_same (p' := ⟨p.g, p.mb, cl8, p.gm, rv9, rl9⟩) hx hy HPX.out HPY.out rfl rfl)
            have HSXn := Lib.hid hsx
            have HSYn := Lib.hid hsy
            have tk1 : True := trivial
            have tk2 : True := trivial
            clear hsx hsy hs8 hs9 hP9 hl9
            go_wp2_with (first
              | (go_at_call 22; have _tk := tk1; ((with_reducible refine (lastP_any _ _ _ _ _ (Lib.hid HSXn.out.ses)).mono ?_); rw [HSXn.out.sig]; rintro e wl ⟨rfl, rfl⟩; clear tk1))
              | (go_at_call 23; have _tk := tk2; ((with_reducible refine (rlast_any _ _ _ _ _ (Lib.hid HSXn.out.ref) HSXn.out.len).mono ?_); rintro e wl ⟨rfl, rfl⟩; clear tk2))
              | (go_at_call 22; ((with_reducible refine (lastP_any _ _ _ _ _ (Lib.hid HSYn.out.ses)).mono ?_); rw [HSYn.out.sig]; rintro e wl ⟨rfl, rfl⟩))
              | (go_at_call 23; ((with_reducible refine (rlast_any _ _ _ _ _ (Lib.hid HSYn.out.ref) HSYn.out.len).mono ?_); rintro e wl ⟨rfl, rfl⟩)))
            exact ⟨⟨q + 4, L.set x ⟨p.g, p.mb, cl8, p.gm, rv9, rl9⟩, x, y, (by rw [List.length_set]; exact hx), (by rw [List.length_set]; exact hy), by omega, by go_num, by rw [HEQ.out.2.2.1], by rw [HEQ.out.2.2.2], by rw [HEQ.out.1], by rw [HEQ.out.2.1], HAn, HPn⟩, by simp [intOf]; omega⟩
          · as_aux_lemma =>
            have k10 : ((kk : Int) == 10) = false := by simp; omega
            have k0 : ((kk : Int) == 0) = false := by simp; omega
            have k1 : ((kk : Int) == 1) = true := by simp [h]
            clear h
            go_wp2_with fail
            refine (rlast_any _ _ _ _ _ (Lib.hid HSX.out.ref) HSX.out.len).mono ?_
            rw [HLA.out]
            rintro e wl ⟨rfl, rfl⟩
            go_wp2_with fail
            refine (answerP_any p.g p.mb p.cl id la A6 n6 c6 bs _ (Lib.hid HSX.out.ses) HB6 (by omega)).mono ?_
            rintro e w8 ⟨rfl, hN8⟩
            obtain ⟨cl8, hs8, hP8⟩ := HP6.out.toS' hx HPX.out hN8
            have hB8 : Bts w8 A6 n6 c6 bs := by
              obtain ⟨_, _, _, m8, _⟩ := hN8
              exact HB6.out.mod m8 HSX.out.ses.noB
            rw [HSX.out.sig]
            obtain ⟨er, her⟩ : ∃ er, anErr (sigR p.rl) id la n6 = er := ⟨_, rfl⟩
            rw [her]
            have HER := Lib.hid her
            clear hN8 her
            go_wp2_with fail
            refine (rlast_any p.gm p.rv p.rl id _ (Lib.hid (hP8.ref ⟨p.g, p.mb, cl8, p.gm, p.rv, p.rl⟩ (mem_set_self hx))) HSX.out.len).mono ?_
            rw [HLA.out]
            rintro e wl ⟨rfl, rfl⟩
            go_wp2_with fail
            refine (ranswer_any p.gm p.rv p.rl id la A6 n6 c6 bs _ (Lib.hid (hP8.ref ⟨p.g, p.mb, cl8, p.gm, p.rv, p.rl⟩ (mem_set_self hx))) HSX.out.len (Lib.hid hB8) (by omega)).mono ?_
            rintro e w9 ⟨rfl, hN9⟩
            rw [HER.out]
            obtain ⟨rv9, rl9, hs9, hl9, hP9⟩ := hP8.toR' hx hN9
            clear hN9 hP8 hB8
            have HPn := Lib.hid hP9
            have HAn := Lib.hid (HA.out.set (x := x) (p' := ⟨p.g, p.mb, cl8, p.gm, rv9, rl9⟩) (show sigP cl8 = sigR rl9 by rw [hs8, hs9, HSX.out.sig]) (show rl9.length ≤ q + 1 by have := HRX.out.1; (try dsimp only at hl9); omega) (show ∀ id s, sigR rl9 id = some s → s.2.1 ≤ (q : Int) + 1 by rw [hs9]; exact an_bnd HRX.out.2))
            obtain ⟨hsx, hsy⟩ := hP9.shownSet HAn.out (by omega) hx hy HPX.out HPY.out rfl rfl
            have HEQ := Lib.hid (set_same (p' := ⟨p.g, p.mb, cl8, p.gm, rv9, rl9⟩) hx hy HPX.out HPY.out rfl rfl)
            have HSXn := Lib.hid hsx
            have HSYn := Lib.hid hsy
            have tk1 : True := trivial
            have tk2 : True := trivial
            clear hsx hsy hs8 hs9 hP9 hl9
            go_wp2_with (first
              | (go_at_call 22; have _tk := tk1; ((with_reducible refine (lastP_any _ _ _ _ _ (Lib.hid HSXn.out.ses)).mono ?_); rw [HSXn.out.sig]; rintro e wl ⟨rfl, rfl⟩; clear tk1))
              | (go_at_call 23; have _tk := tk2; ((with_reducible refine (rlast_any _ _ _ _ _ (Lib.hid HSXn.out.ref) HSXn.out.len).mono ?_); rintro e wl ⟨rfl, rfl⟩; clear tk2))
              | (go_at_call 22; ((with_reducible refine (lastP_any _ _ _ _ _ (Lib.hid HSYn.out.ses)).mono ?_); rw [HSYn.out.sig]; rintro e wl ⟨rfl, rfl⟩))
              | (go_at_call 23; ((with_reducible refine (rlast_any _ _ _ _ _ (Lib.hid HSYn.out.ref) HSYn.out.len).mono ?_); rintro e wl ⟨rfl, rfl⟩)))
            exact ⟨⟨q + 4, L.set x ⟨p.g, p.mb, cl8, p.gm, rv9, rl9⟩, x, y, (by rw [List.length_set]; exact hx), (by rw [List.length_set]; exact hy), by omega, by go_num, by rw [HEQ.out.2.2.1], by rw [HEQ.out.2.2.2], by rw [HEQ.out.1], by rw [HEQ.out.2.1], HAn, HPn⟩, by simp [intOf]; omega⟩
          · as_aux_lemma =>
            have k10 : ((kk : Int) == 10) = false := by simp; omega
            have k0 : ((kk : Int) == 0) = false := by simp; omega
            have k1 : ((kk : Int) == 1) = false := by simp; omega
            have k2 : ((kk : Int) == 2) = true := by simp [h]
            clear h
            go_wp2_with fail
            refine (rlast_any _ _ _ _ _ (Lib.hid HSX.out.ref) HSX.out.len).mono ?_
            rw [HLA.out]
            rintro e wl ⟨rfl, rfl⟩
            go_wp2_with fail
            refine (answerP_any p.g p.mb p.cl id la A6 n6 c6 bs _ (Lib.hid HSX.out.ses) HB6 (by omega)).mono ?_
            rintro e w8 ⟨rfl, hN8⟩
            obtain ⟨cl8, hs8, hP8⟩ := HP6.out.toS' hx HPX.out hN8
            have hB8 : Bts w8 A6 n6 c6 bs := by
              obtain ⟨_, _, _, m8, _⟩ := hN8
              exact HB6.out.mod m8 HSX.out.ses.noB
            rw [HSX.out.sig]
            obtain ⟨er, her⟩ : ∃ er, anErr (sigR p.rl) id la n6 = er := ⟨_, rfl⟩
            rw [her]
            have HER := Lib.hid her
            clear hN8 her
            go_wp2_with fail
            refine (rlast_any p.gm p.rv p.rl id _ (Lib.hid (hP8.ref ⟨p.g, p.mb, cl8, p.gm, p.rv, p.rl⟩ (mem_set_self hx))) HSX.out.len).mono ?_
            rw [HLA.out]
            rintro e wl ⟨rfl, rfl⟩
            go_wp2_with fail
            refine (ranswer_any p.gm p.rv p.rl id la A6 n6 c6 bs _ (Lib.hid (hP8.ref ⟨p.g, p.mb, cl8, p.gm, p.rv, p.rl⟩ (mem_set_self hx))) HSX.out.len (Lib.hid hB8) (by omega)).mono ?_
            rintro e w9 ⟨rfl, hN9⟩
            rw [HER.out]
            obtain ⟨rv9, rl9, hs9, hl9, hP9⟩ := hP8.toR' hx hN9
            clear hN9 hP8 hB8
            have HPn := Lib.hid hP9
            have HAn := Lib.hid (HA.out.set (x := x) (p' := ⟨p.g, p.mb, cl8, p.gm, rv9, rl9⟩) (show sigP cl8 = sigR rl9 by rw [hs8, hs9, HSX.out.sig]) (show rl9.length ≤ q + 1 by have := HRX.out.1; (try dsimp only at hl9); omega) (show ∀ id s, sigR rl9 id = some s → s.2.1 ≤ (q : Int) + 1 by rw [hs9]; exact an_bnd HRX.out.2))
            obtain ⟨hsx, hsy⟩ := hP9.shownSet HAn.out (by omega) hx hy HPX.out HPY.out rfl rfl
            have HEQ := Lib.hid (set_same (p' := ⟨p.g, p.mb, cl8, p.gm, rv9, rl9⟩) hx hy HPX.out HPY.out rfl rfl)
            have HSXn := Lib.hid hsx
            have HSYn := Lib.hid hsy
            have tk1 : True := trivial
            have tk2 : True := trivial
            clear hsx hsy hs8 hs9 hP9 hl9
            go_wp2_with (first
              | (go_at_call 22; have _tk := tk1; ((with_reducible refine (lastP_any _ _ _ _ _ (Lib.hid HSXn.out.ses)).mono ?_); rw [HSXn.out.sig]; rintro e wl ⟨rfl, rfl⟩; clear tk1))
              | (go_at_call 23; have _tk := tk2; ((with_reducible refine (rlast_any _ _ _ _ _ (Lib.hid HSXn.out.ref) HSXn.out.len).mono ?_); rintro e wl ⟨rfl, rfl⟩; clear tk2))
              | (go_at_call 22; ((with_reducible refine (lastP_any _ _ _ _ _ (Lib.hid HSYn.out.ses)).mono ?_); rw [HSYn.out.sig]; rintro e wl ⟨rfl, rfl⟩))
              | (go_at_call 23; ((with_reducible refine (rlast_any _ _ _ _ _ (Lib.hid HSYn.out.ref) HSYn.out.len).mono ?_); rintro e wl ⟨rfl, rfl⟩)))
            exact ⟨⟨q + 4, L.set x ⟨p.g, p.mb, cl8, p.gm, rv9, rl9⟩, x, y, (by rw [List.length_set]; exact hx), (by rw [List.length_set]; exact hy), by omega, by go_num, by rw [HEQ.out.2.2.1], by rw [HEQ.out.2.2.2], by rw [HEQ.out.1], by rw [HEQ.out.2.1], HAn, HPn⟩, by simp [intOf]; omega⟩
          · as_aux_lemma =>
            have k10 : ((kk : Int) == 10) = false := by simp; omega
            have k0 : ((kk : Int) == 0) = false := by simp; omega
            have k1 : ((kk : Int) == 1) = false := by simp; omega
            have k2 : ((kk : Int) == 2) = false := by simp; omega
            have k3 : ((kk : Int) == 3) = true := by simp [h]
            clear h
            go_wp2_with fail
            refine (rlast_any _ _ _ _ _ (Lib.hid HSX.out.ref) HSX.out.len).mono ?_
            rw [HLA.out]
            rintro e wl ⟨rfl, rfl⟩
            go_wp2_with fail
            refine (answerP_any p.g p.mb p.cl id la A6 n6 c6 bs _ (Lib.hid HSX.out.ses) HB6 (by omega)).mono ?_
            rintro e w8 ⟨rfl, hN8⟩
            obtain ⟨cl8, hs8, hP8⟩ := HP6.out.toS' hx HPX.out hN8
            have hB8 : Bts w8 A6 n6 c6 bs := by
              obtain ⟨_, _, _, m8, _⟩ := hN8
              exact HB6.out.mod m8 HSX.out.ses.noB
            rw [HSX.out.sig]
            obtain ⟨er, her⟩ : ∃ er, anErr (sigR p.rl) id la n6 = er := ⟨_, rfl⟩
            rw [her]
            have HER := Lib.hid her
            clear hN8 her
            go_wp2_with fail
            refine (rlast_any p.gm p.rv p.rl id _ (Lib.hid (hP8.ref ⟨p.g, p.mb, cl8, p.gm, p.rv, p.rl⟩ (mem_set_self hx))) HSX.out.len).mono ?_
            rw [HLA.out]
            rintro e wl ⟨rfl, rfl⟩
            go_wp2_with fail
            refine (ranswer_any p.gm p.rv p.rl id la A6 n6 c6 bs _ (Lib.hid (hP8.ref ⟨p.g, p.mb, cl8, p.gm, p.rv, p.rl⟩ (mem_set_self hx))) HSX.out.len (Lib.hid hB8) (by omega)).mono ?_
            rintro e w9 ⟨rfl, hN9⟩
            rw [HER.out]
            obtain ⟨rv9, rl9, hs9, hl9, hP9⟩ := hP8.toR' hx hN9
            clear hN9 hP8 hB8
            have HPn := Lib.hid hP9
            have HAn := Lib.hid (HA.out.set (x := x) (p' := ⟨p.g, p.mb, cl8, p.gm, rv9, rl9⟩) (show sigP cl8 = sigR rl9 by rw [hs8, hs9, HSX.out.sig]) (show rl9.length ≤ q + 1 by have := HRX.out.1; (try dsimp only at hl9); omega) (show ∀ id s, sigR rl9 id = some s → s.2.1 ≤ (q : Int) + 1 by rw [hs9]; exact an_bnd HRX.out.2))
            obtain ⟨hsx, hsy⟩ := hP9.shownSet HAn.out (by omega) hx hy HPX.out HPY.out rfl rfl
            have HEQ := Lib.hid (set_same (p' := ⟨p.g, p.mb, cl8, p.gm, rv9, rl9⟩) hx hy HPX.out HPY.out rfl rfl)
            have HSXn := Lib.hid hsx
            have HSYn := Lib.hid hsy
            have tk1 : True := trivial
            have tk2 : True := trivial
            clear hsx hsy hs8 hs9 hP9 hl9
            go_wp2_with (first
              | (go_at_call 22; have _tk := tk1; ((with_reducible refine (lastP_any _ _ _ _ _ (Lib.hid HSXn.out.ses)).mono ?_); rw [HSXn.out.sig]; rintro e wl ⟨rfl, rfl⟩; clear tk1))
              | (go_at_call 23; have _tk := tk2; ((with_reducible refine (rlast_any _ _ _ _ _ (Lib.hid HSXn.out.ref) HSXn.out.len).mono ?_); rintro e wl ⟨rfl, rfl⟩; clear tk2))
              | (go_at_call 22; ((with_reducible refine (lastP_any _ _ _ _ _ (Lib.hid HSYn.out.ses)).mono ?_); rw [HSYn.out.sig]; rintro e wl ⟨rfl, rfl⟩))
              | (go_at_call 23; ((with_reducible refine (rlast_any _ _ _ _ _ (Lib.hid HSYn.out.ref) HSYn.out.len).mono ?_); rintro e wl ⟨rfl, rfl⟩)))
            exact ⟨⟨q + 4, L.set x ⟨p.g, p.mb, cl8, p.gm, rv9, rl9⟩, x, y, (by rw [List.length_set]; exact hx), (by rw [List.length_set]; exact hy), by omega, by go_num, by rw [HEQ.out.2.2.1], by rw [HEQ.out.2.2.2], by rw [HEQ.out.1], by rw [HEQ.out.2.1], HAn, HPn⟩, by simp [intOf]; omega⟩
          · as_aux_lemma =>
            have k10 : ((kk : Int) == 10) = false := by simp; omega
            have k0 : ((kk : Int) == 0) = false := by simp; omega
            have k1 : ((kk : Int) == 1) = false := by simp; omega
            have k2 : ((kk : Int) == 2) = false := by simp; omega
            have k3 : ((kk : Int) == 3) = false := by simp; omega
            have k4 : ((kk : Int) == 4) = true := by simp [h]
            clear h
            go_wp2_with fail
            refine (answerP_any p.g p.mb p.cl id num A6 n6 c6 bs _ (Lib.hid HSX.out.ses) HB6 (by omega)).mono ?_
            rintro e w8 ⟨rfl, hN8⟩
            obtain ⟨cl8, hs8, hP8⟩ := HP6.out.toS' hx HPX.out hN8
            have hB8 : Bts w8 A6 n6 c6 bs := by
              obtain ⟨_, _, _, m8, _⟩ := hN8
              exact HB6.out.mod m8 HSX.out.ses.noB
            rw [HSX.out.sig]
            obtain ⟨er, her⟩ : ∃ er, anErr (sigR p.rl) id num n6 = er := ⟨_, rfl⟩
            rw [her]
            have HER := Lib.hid her
            clear hN8 her
            go_wp2_with fail
            refine (ranswer_any p.gm p.rv p.rl id num A6 n6 c6 bs _ (Lib.hid (hP8.ref ⟨p.g, p.mb, cl8, p.gm, p.rv, p.rl⟩ (mem_set_self hx))) HSX.out.len (Lib.hid hB8) (by omega)).mono ?_
            rintro e w9 ⟨rfl, hN9⟩
            rw [HER.out]
            obtain ⟨rv9, rl9, hs9, hl9, hP9⟩ := hP8.toR' hx hN9
            clear hN9 hP8 hB8
            have HPn := Lib.hid hP9
            have HAn := Lib.hid (HA.out.set (x := x) (p' := ⟨p.g, p.mb, cl8, p.gm, rv9, rl9⟩) (show sigP cl8 = sigR rl9 by rw [hs8, hs9, HSX.out.sig]) (show rl9.length ≤ q + 1 by have := HRX.out.1; (try dsimp only at hl9); omega) (show ∀ id s, sigR rl9 id = some s → s.2.1 ≤ (q : Int) + 1 by rw [hs9]; exact an_bnd HRX.out.2))
            obtain ⟨hsx, hsy⟩ := hP9.shownSet HAn.out (by omega) hx hy HPX.out HPY.out rfl rfl
            have HEQ := Lib.hid (set_same (p' := ⟨p.g, p.mb, cl8, p.gm, rv9, rl9⟩) hx hy HPX.out HPY.out rfl rfl)
            have HSXn := Lib.hid hsx
            have HSYn := Lib.hid hsy
            have tk1 : True := trivial
            have tk2 : True := trivial
            clear hsx hsy hs8 hs9 hP9 hl9
            go_wp2_with (first
              | (go_at_call 22; have _tk := tk1; ((with_reducible refine (lastP_any _ _ _ _ _ (Lib.hid HSXn.out.ses)).mono ?_); rw [HSXn.out.sig]; rintro e wl ⟨rfl, rfl⟩; clear tk1))
              | (go_at_call 23; have _tk := tk2; ((with_reducible refine (rlast_any _ _ _ _ _ (Lib.hid HSXn.out.ref) HSXn.out.len).mono ?_); rintro e wl ⟨rfl, rfl⟩; clear tk2))
              | (go_at_call 22; ((with_reducible refine (lastP_any _ _ _ _ _ (Lib.hid HSYn.out.ses)).mono ?_); rw [HSYn.out.sig]; rintro e wl ⟨rfl, rfl⟩))
              | (go_at_call 23; ((with_reducible refine (rlast_any _ _ _ _ _ (Lib.hid HSYn.out.ref) HSYn.out.len).mono ?_); rintro e wl ⟨rfl, rfl⟩)))
            exact ⟨⟨q + 4, L.set x ⟨p.g, p.mb, cl8, p.gm, rv9, rl9⟩, x, y, (by rw [List.length_set]; exact hx), (by rw [List.length_set]; exact hy), by omega, by go_num, by rw [HEQ.out.2.2.1], by rw [HEQ.out.2.2.2], by rw [HEQ.out.1], by rw [HEQ.out.2.1], HAn, HPn⟩, by simp [intOf]; omega⟩
          · as_aux_lemma =>
            have k10 : ((kk : Int) == 10) = false := by simp; omega
            have k0 : ((kk : Int) == 0) = false := by simp; omega
            have k1 : ((kk : Int) == 1) = false := by simp; omega
            have k2 : ((kk : Int) == 2) = false := by simp; omega
            have k3 : ((kk : Int) == 3) = false := by simp; omega
            have k4 : ((kk : Int) == 4) = false := by simp; omega
            have k5 : ((kk : Int) == 5) = true := by simp [h]
            clear h
            go_wp2_with fail
            refine (copyS_any p.g p.mb p.cl _ (Lib.hid HSX.out.ses)).mono ?_
            rintro e w8 ⟨g8, mb8, cl8, rfl, hS8, hs8, hF8, hb8⟩
            go_wp2_with fail
            refine (rcopy_any p.gm p.rv p.rl _ (Lib.hid (HSX.out.ref.all hb8)) HSX.out.len).mono ?_
            rintro e w9 ⟨gm9, rv9, rfl, hR9, hF9, hb9⟩
            have hbs := hb8.size
            have hP9 := ((HP6.out.all hb8).all hb9).add (p := ⟨g8, mb8, cl8, gm9, rv9, p.rl⟩) (hS8.all hb9) hR9 (w0 := w6) (fun q hq => HP6.out.ltF hq) HP6.out.below.size (by
              rintro b (hb | hb)
              · exact hF8 b hb
              · exact Nat.le_trans hbs (hF9 b hb))
            have HPn := Lib.hid hP9
            have HAn := Lib.hid (HA.out.add (p' := ⟨g8, mb8, cl8, gm9, rv9, p.rl⟩) (show sigP cl8 = sigR p.rl by rw [hs8, HSX.out.sig]) HRX.out.1 HRX.out.2)
            have HSXn : Hid (Shown w9 g8 gm9 ⟨g8, mb8, cl8, gm9, rv9, p.rl⟩) := Lib.hid ⟨rfl, rfl, hS8.all hb9, hR9, by rw [hs8, HSX.out.sig], HSX.out.len⟩
            have HSYn : Hid (Shown w9 p.g p.gm p) := Lib.hid ⟨rfl, rfl, (HSX.out.ses.all hb8).all hb9, (HSX.out.ref.all hb8).all hb9, HSX.out.sig, HSX.out.len⟩
            have HEX := Lib.hid (show (L ++ [(⟨g8, mb8, cl8, gm9, rv9, p.rl⟩ : Pr)])[L.length]'(by simp) = ⟨g8, mb8, cl8, gm9, rv9, p.rl⟩ by simp)
            have HEY := Lib.hid (show (L ++ [(⟨g8, mb8, cl8, gm9, rv9, p.rl⟩ : Pr)])[x]'(by rw [List.length_append]; omega) = p by rw [List.getElem_append_left hx]; exact HPX.out)
            have tk1 : True := trivial
            have tk2 : True := trivial
            clear hP9 hbs hb8 hb9 hS8 hR9 hF8 hF9 hs8
            go_wp2_with (first
              | (go_at_call 22; have _tk := tk1; ((with_reducible refine (lastP_any _ _ _ _ _ (Lib.hid HSXn.out.ses)).mono ?_); rw [HSXn.out.sig]; rintro e wl ⟨rfl, rfl⟩; clear tk1))
              | (go_at_call 23; have _tk := tk2; ((with_reducible refine (rlast_any _ _ _ _ _ (Lib.hid HSXn.out.ref) HSXn.out.len).mono ?_); rintro e wl ⟨rfl, rfl⟩; clear tk2))
              | (go_at_call 22; ((with_reducible refine (lastP_any _ _ _ _ _ (Lib.hid HSYn.out.ses)).mono ?_); rw [HSYn.out.sig]; rintro e wl ⟨rfl, rfl⟩))
              | (go_at_call 23; ((with_reducible refine (rlast_any _ _ _ _ _ (Lib.hid HSYn.out.ref) HSYn.out.len).mono ?_); rintro e wl ⟨rfl, rfl⟩)))
            exact ⟨⟨q + 4, L ++ [⟨g8, mb8, cl8, gm9, rv9, p.rl⟩], L.length, x, (by simp), (by rw [List.length_append]; omega), by omega, by go_num, by rw [HEX.out], by rw [HEX.out], by rw [HEY.out], by rw [HEY.out], HAn, HPn⟩, by simp [intOf]; omega⟩
          · have k10 : ((kk : Int) == 10) = false := by simp; omega
            have k0 : ((kk : Int) == 0) = false := by simp; omega
            have k1 : ((kk : Int) == 1) = false := by simp; omega
            have k2 : ((kk : Int) == 2) = false := by simp; omega
            have k3 : ((kk : Int) == 3) = false := by simp; omega
            have k4 : ((kk : Int) == 4) = false := by simp; omega
            have k5 : ((kk : Int) == 5) = false := by simp; omega
            clear h
            go_wp2_with fail
            refine (rtag_any _ _ _ _ _ _ bs _ (Lib.hid HB6.out.1) HB6.out.2.1 (by omega) HB6.out.rd).mono ?_
            rintro e w8 ⟨rfl, hb8⟩
            generalize tagI id id num (bodyI bs) = tg at *
            have hb8' := bt hb8 ((Below.refl w8.heap.size w8).alloc (Nat.le_refl _) (.cells #[.int .i64 id, .int .i64 num, .slice A6 n6 c6, .int .u64 tg] 37))
            have hq8 := Blk.new w8 37 #[.int .i64 id, .int .i64 num, .slice A6 n6 c6, .int .u64 tg]
            have HP8 := Lib.hid (HP6.out.all hb8')
            have HSX8 : Hid (Shown _ p.g p.gm p) := Lib.hid ⟨rfl, rfl, HSX.out.ses.all hb8', HSX.out.ref.all hb8', HSX.out.sig, HSX.out.len⟩
            have HR8 : Hid (Rq.ok _ ⟨id, num, A6, n6, c6, bs, tg⟩) := Lib.hid ⟨HB6.out.all hb8', show n6 ≤ 1048576 by omega⟩
            obtain ⟨t0, t1, t2⟩ := tdiv_in 10 (by decide) hy00 hy01
            have hlt6 : bl < w6.heap.size := Nat.lt_of_lt_of_le hbl HP6.out.below.size
            have c0' := (hb8'.cell (p := ⟨bl, off + q, none⟩) hlt6).trans hcl0
            have c2' := (hb8'.cell (p := ⟨bl, off + (q + 2), none⟩) hlt6).trans hc2
            have c3' := (hb8'.cell (p := ⟨bl, off + (q + 3), none⟩) hlt6).trans hc3
            have hlt8 := Nat.lt_of_lt_of_le hlt6 hb8'.size
            have HW68 := Lib.hid hb8.size
            clear hb8 hb8'
            go_upto_if 88 with (go_at_call 8; ((refine (around_nat _ 8 8 _ (by decide) t0 (t2 hy01 (by decide)) (by decide) (by decide)).mono ?_); rintro e w10 ⟨k8, rfl, hk8, -, rfl⟩))
            generalize w8.alloc (.cells #[.int .i64 id, .int .i64 num, .slice A6 n6 c6, .int .u64 tg] 37) = w9 at *
            obtain ⟨gr, hgr⟩ : ∃ gr, w8.heap.size = gr := ⟨_, rfl⟩
            have HGR := Lib.hid (show W.heap.size ≤ gr by have := HP6.out.below.size; have := HW68.out; omega)
            rw [hgr] at hq8 ⊢
            clear hgr
            clear hcl0 hc2 hc3 c0'
            obtain ⟨hy20, hy21⟩ := wf_i64 (hw0.out (q + 2) (by omega))
            go_cut [14] (fun s14 wx => s14 = .pointer (some ⟨gr, 0, none⟩) ∧ ∃ r : Rq, r.num ≤ 9223372036854775807 ∧ r.ok wx ∧ Blk wx gr 37 #[.int .i64 r.cl, .int .i64 r.num, .slice r.A r.n r.c, .int .u64 r.tag] ∧ Pool W wx L ∧ Shown wx p.g p.gm p)
            case first =>
              by_cases hch : k8 = 0
              · have hch' : ((k8 : Int) == 0) = true := by simp [hch]
                clear hch
                have q8c := hq8
                obtain ⟨q0, q1, q2, q3, -, -, -, -⟩ := blk4 hq8
                have z1 : IntKind.i64.wrap ((q : Int) + 2) = (q : Int) + 2 := IntWalk.i64_in _ (by omega)
                have z2 : (0 : Int) ≤ (q : Int) + 2 := by omega
                have z3 : (q : Int) + 2 < (n0 : Int) := by omega
                have z4 : ((q : Int) + 2).toNat = q + 2 := by omega
                have y1 : IntKind.i64.wrap ((q : Int) + 3) = (q : Int) + 3 := IntWalk.i64_in _ (by omega)
                have y2 : (0 : Int) ≤ (q : Int) + 3 := by omega
                have y3 : (q : Int) + 3 < (n0 : Int) := by omega
                have y4 : ((q : Int) + 3).toNat = q + 3 := by omega
                obtain ⟨v0, v1, v2⟩ := tdiv_in 10 (by decide) hy20 hy21
                have v3 := v2 hy21 (by decide)
                have v4 : IntKind.i64.wrap ((f0 (q + 2)).tdiv 10) = (f0 (q + 2)).tdiv 10 := IntWalk.i64_in _ (by omega)
                have HQ8 := Lib.hid hq8
                clear v2 q8c
                go_wp2
                go_region_law (first
                  | (go_simp; go_at_call 15; ((refine (changed_agg ⟨id, num, A6, n6, c6, bs, tg⟩ _ _ _ (Lib.hid (HR8.out.all (Below.refl _ w9).drew)) v0 v3 hy30 hy31).mono ?_); rintro e w11 ⟨r, rfl, hok11, hlog11, hb11⟩; have hq11 := Blk.all HQ8.out (undrew hb11); obtain ⟨x0, x1, x2, x3, f0', f1', f2', f3'⟩ := blk4 hq11)))
                all_goals
                  go_wp2_with fail
                  go_meet
                  obtain ⟨hbs, hms⟩ := blk_set4 hq11 (.int .i64 r.cl) (.int .i64 r.num) (.slice r.A r.n r.c) (.int .u64 r.tag)
                  have hP11 := HP8.out.all (undrew hb11)
                  have hnb : ∀ b, b = gr → ¬ Ty w11 b 5 := by
                    rintro b rfl ht
                    exact absurd (Ty.unique hq11.ty ht) (by decide)
                  have hno : ∀ b, b = gr → ¬ Ty w11 b 112 := by
                    rintro b rfl ht
                    exact absurd (Ty.unique hq11.ty ht) (by decide)
                  have hgF : ∀ p ∈ L, ¬ p.F gr := by
                    rintro p hp (hf | hf)
                    · exact (hP11.ses p hp).notF hq11.ty (by decide) (by decide) (by decide) hf
                    · exact (hP11.ref p hp).notF hq11.ty (by decide) (by decide) hf
                  have hP12 : Pool W _ L := ⟨hms.below hP11.below hP11.below.size (fun b e => by
                      subst e
                      exact HGR.out), fun p hp => (hP11.ses p hp).mod hms (fun b hb e => by subst e; exact hgF p hp (.inl hb)) hnb, fun p hp => (hP11.ref p hp).mod hms (fun b hb e => by subst e; exact hgF p hp (.inr hb)) hnb hno, hP11.ge, hP11.apart⟩
                  exact ⟨rfl, r, chgL_num hlog11 (by dsimp only; omega), hok11.mod hms hnb, hbs, hP12, HPX.out ▸ hP12.shown HA.out (by omega) hx⟩
              · have hch' : ((k8 : Int) == 0) = false := by simp; omega
                clear hch
                go_wp2
                go_meet
                exact ⟨rfl, ⟨id, num, A6, n6, c6, bs, tg⟩, by dsimp only; omega, HR8.out, hq8, HP8.out, HSX8.out⟩
            case rest => as_aux_lemma =>
              obtain ⟨rfl, r, hrn, hrok, hrb, hPr, hSr⟩ := hcut
              have HPR := Lib.hid hPr
              have HSXR := Lib.hid hSr
              have HRR := Lib.hid hrok
              have HQR := Lib.hid hrb
              clear hPr hSr hrok hrb hq8 HR8 HP8 HSX8 c2' c3' t0 t1 t2
              obtain ⟨q0, q1, q2, q3, -, -, -, -⟩ := blk4 HQR.out
              go_wp2_with fail
              refine (own_agg _ _ _ _ _ _ _).mono ?_
              rintro e w12 ⟨rfl, hb12⟩
              have hq12 := HQR.out.all hb12
              have hP12 := HPR.out.all hb12
              have HSX12 : Hid (Shown w12 p.g p.gm p) := Lib.hid ⟨rfl, rfl, HSXR.out.ses.all hb12, HSXR.out.ref.all hb12, HSX.out.sig, HSX.out.len⟩
              have hR12 := HRR.out.all hb12
              clear q0 q1 q2 q3 hb12
              go_wp2_with fail
              refine (acceptP_any p.g p.mb p.cl r _ (Lib.hid HSX12.out.ses) (Lib.hid hR12) hrn (Lib.hid (fun s hs => by have := HRX.out.2 _ _ (HSX.out.sig ▸ hs); omega))).mono ?_
              rintro e w13 ⟨A13, n13, c13, rfl, hB13, hN13⟩
              obtain ⟨cl8, hs8, hP13⟩ := hP12.toS' hx HPX.out hN13
              obtain ⟨_, _, _, m13, _⟩ := hN13
              have hq13 := m13.blk hq12 (HSX12.out.ses.notF hq12.ty (by decide) (by decide) (by decide))
              have hR13 := hR12.mod m13 HSX12.out.ses.noB
              rw [HSX.out.sig] at hB13 ⊢
              obtain ⟨R, hR⟩ : ∃ R, acRes (sigR p.rl) r = R := ⟨_, rfl⟩
              rw [hR] at hB13 ⊢
              have HR := Lib.hid hR
              obtain ⟨q0, q1, q2, q3, -, -, -, -⟩ := blk4 hq13
              clear m13 hR hP12 hq12 hR12
              go_wp2_with fail
              refine (raccept_any p.gm p.rv p.rl r _ (Lib.hid (hP13.ref ⟨p.g, p.mb, cl8, p.gm, p.rv, p.rl⟩ (mem_set_self hx))) HSX.out.len (Lib.hid hR13) hrn (Lib.hid (fun s hs => by have := HRX.out.2 _ _ hs; omega))).mono ?_
              rintro e w14 ⟨A14, n14, c14, rfl, hB14, hN14⟩
              have hRS := hP13.ref ⟨p.g, p.mb, cl8, p.gm, p.rv, p.rl⟩ (mem_set_self hx)
              obtain ⟨rv9, rl9, hs9, hl9, hP14⟩ := hP13.toR' hx hN14
              obtain ⟨_, _, _, _, _, m14, _⟩ := hN14
              have hB13' := hB13.mod m14 hRS.noB
              rw [HR.out] at hB14 ⊢
              have l13 := hB13'.1
              have l14 := hB14.1
              have HB13 := Lib.hid hB13'
              have HB14 := Lib.hid hB14
              have hn13 : n13 ≤ 9223372036854775807 := Nat.le_trans hB14.2.1 hB14.2.2.1 |> fun h => by omega
              have hn14 : n14 ≤ 9223372036854775807 := Nat.le_trans hB14.2.1 hB14.2.2.1
              have HL13 := Lib.hid l13
              have HL14 := Lib.hid l14
              clear m14 hB13 hB13' hB14 l13 l14 q0 q1 q2 q3 hq13 hR13 hRS hP13
              go_wp2_with fail
              refine (sameBytes_true _ _ _ _ _ _ R.2.1 R.2.1 _ rfl HL13 HL14 HB13.out.rd HB14.out.rd hn13 hn14).mono ?_
              rintro e w15 ⟨rfl, hb15⟩
              have hP9 := hP14.all hb15
              clear hb15 hP14
              have HPn := Lib.hid hP9
              have HAn := Lib.hid (HA.out.set (x := x) (p' := ⟨p.g, p.mb, cl8, p.gm, rv9, rl9⟩) (show sigP cl8 = sigR rl9 by rw [hs8, hs9, HSX.out.sig]) (show rl9.length ≤ q + 1 by have := HRX.out.1; (try dsimp only at hl9); omega) (show ∀ id s, sigR rl9 id = some s → s.2.1 ≤ (q : Int) + 1 by rw [hs9]; exact ac_bnd HRX.out.2))
              obtain ⟨hsx, hsy⟩ := hP9.shownSet HAn.out (by omega) hx hy HPX.out HPY.out rfl rfl
              have HEQ := Lib.hid (set_same (p' := ⟨p.g, p.mb, cl8, p.gm, rv9, rl9⟩) hx hy HPX.out HPY.out rfl rfl)
              have HSXn := Lib.hid hsx
              have HSYn := Lib.hid hsy
              have tk1 : True := trivial
              have tk2 : True := trivial
              clear hsx hsy hs8 hs9 hP9 hl9
              go_wp2_with (first
                | (go_at_call 22; have _tk := tk1; ((with_reducible refine (lastP_any _ _ _ _ _ (Lib.hid HSXn.out.ses)).mono ?_); rw [HSXn.out.sig]; rintro e wl ⟨rfl, rfl⟩; clear tk1))
                | (go_at_call 23; have _tk := tk2; ((with_reducible refine (rlast_any _ _ _ _ _ (Lib.hid HSXn.out.ref) HSXn.out.len).mono ?_); rintro e wl ⟨rfl, rfl⟩; clear tk2))
                | (go_at_call 22; ((with_reducible refine (lastP_any _ _ _ _ _ (Lib.hid HSYn.out.ses)).mono ?_); rw [HSYn.out.sig]; rintro e wl ⟨rfl, rfl⟩))
                | (go_at_call 23; ((with_reducible refine (rlast_any _ _ _ _ _ (Lib.hid HSYn.out.ref) HSYn.out.len).mono ?_); rintro e wl ⟨rfl, rfl⟩)))
              exact ⟨⟨q + 4, L.set x ⟨p.g, p.mb, cl8, p.gm, rv9, rl9⟩, x, y, (by rw [List.length_set]; exact hx), (by rw [List.length_set]; exact hy), by omega, by go_num, by rw [HEQ.out.2.2.1], by rw [HEQ.out.2.2.2], by rw [HEQ.out.1], by rw [HEQ.out.2.1], HAn, HPn⟩, by simp [intOf]; omega⟩
      · go_wp2_with fail
        refine (lives37_any _).mono ?_
        rintro e w3 ⟨rfl, hb3⟩
        go_wp2
        go_ret
        exact ⟨rfl, bt HP.out.below hb3⟩
    · go_wp2_with fail
      refine (lives37_any _).mono ?_
      rintro e w3 ⟨rfl, hb3⟩
      go_wp2
      go_ret
      exact ⟨rfl, bt HP.out.below hb3⟩

end Go.Proofs.Ytompkpleiichaaa
