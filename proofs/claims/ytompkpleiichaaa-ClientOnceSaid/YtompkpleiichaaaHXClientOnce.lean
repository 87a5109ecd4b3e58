/- For all requests and networks worldmintlaw37.ClientOnce returns true. No condition. -/
import Derived.Test.YtompkpleiichaaaHOnceL2
import Derived.Test.YtompkpleiichaaaHOnceL5
import Derived.Test.YtompkpleiichaaaHLaw

namespace Go.Proofs.Ytompkpleiichaaa
open Go.ChangeShapes Go.WideShapes Go.ChangeAt Go.RowKit Go.ChangeMaps

set_option maxRecDepth 1000000 in
set_option maxHeartbeats 100000000 in
theorem ClientOnce_walk (W : World) (A0 : Option Addr) (n0 c0 : Nat) (f0 : Nat → Int) (_hA0 : A0 = none → n0 = 0) (_hn0 : n0 ≤ c0) (_hc0 : c0 ≤ 9223372036854775807) (hR0 : Rd W W.heap.size A0 n0 (fun j => .int .i64 (f0 j))) (hw0 : Hid (∀ j, j < n0 → (Lit.int .i64 (f0 j)).wf = true)) (a1 : Int) (ha1 : Hid ((Lit.int .i64 a1).wf = true)) :
    Calls Try.prog 6 #[.slice A0 n0 c0, .int .i64 a1] W fun e w' => e = .returned (.bool true) ∧ Below W.heap.size W w' := by
  have hb := Below.refl W.heap.size W
  go_enter Try.func6, Try.ntmps6
  obtain ⟨hm0, hm1⟩ := wf_i64 ha1.out
  have HW := Lib.hid (fun j hj => wf_i64 (hw0.out j hj))
  go_wp2_with fail
  refine (newS_any _).mono ?_
  rintro e w1 ⟨gs, mb, rfl, hg, hm, hS, hb1⟩
  have HS0 : Hid (Sys W w1 0 gs mb [] (fun _ => ⟨0, 0, .slice none 0 0, []⟩) (.slice none 0 0)) := Lib.hid (Sys.new hS (bt hb hb1) hg hm)
  clear hS hb1 hg hm hb
  go_wp2
  go_loopw [6, 7] (fun v i wr => ∃ (k : Nat) (cl : List Cl) (C : Nat → Cll), k ≤ 2 ∧ i = .int .i64 (k : Int) ∧ (∃ A c, v = .slice A k c) ∧ Hid (Sys W wr k gs mb cl C v) ∧ Hid (∀ i, i < k → (C i).last = 0 ∧ (C i).op = [] ∧ sigP cl ((i : Int) + 1) = some ((i : Int) + 5, 0, [])) ∧ Hid (∀ i, k ≤ i → sigP cl ((i : Int) + 1) = none)) (fun _ i _ => 2 - (intOf i).toNat)
  case atStart => exact ⟨0, [], _, by omega, rfl, ⟨none, 0, rfl⟩, HS0, Lib.hid (fun i hi => absurd hi (by omega)), Lib.hid (fun i _ => rfl)⟩
  case round =>
    obtain ⟨k, cl, C, hk, rfl, ⟨A, c, rfl⟩, HS, HC, HNO⟩ := hrel
    clear HS0
    by_cases hlt : k < 2
    · as_aux_lemma =>
      have hkI : (k : Int) < 2 := by omega
      go_wp2_with fail
      refine (call_any _ _ _).mono ?_
      rintro e w2 ⟨gc, rfl, hgc, hCa, hb2⟩
      have hS2 := HS.out.all hb2
      have hje : joinE (sigP cl ((k : Int) + 1)) ((k : Int) + 1) = 0 := by rw [HNO.out k (Nat.le_refl _)]; unfold joinE; rw [if_neg (by omega)]; rfl
      have HJE := Lib.hid hje
      clear hje
      go_wp2_with fail
      refine (joinP_any gs mb cl ((k : Int) + 1) ((k : Int) + 5) _ (Lib.hid hS2.ses)).mono ?_
      rintro e w3 ⟨rfl, hN3⟩
      rw [HJE.out]
      obtain ⟨cl3, hS3, hs3, m3, hF3⟩ := hN3
      have hSys3 := hS2.toSes hS3 m3 hF3
      have hc2 : Cll.At w2 k ⟨gc, 0, .slice none 0 0, []⟩ := hCa
      have hc3 := hc2.mod m3 (fun b hb hs => hS2.ses.apartC hc2 b hs hb) hS2.ses.noB
      have HO3 := Lib.hid hSys3.ptr
      have HSY3 := Lib.hid hSys3
      have HC3 := Lib.hid hc3
      have hsz := HS.out.below.size
      have h23 := hb2.size
      have HGE := Lib.hid (show ∀ b, Cll.F ⟨gc, 0, .slice none 0 0, []⟩ b → W.heap.size ≤ b by
        rintro b (e | e)
        · dsimp only at e; omega
        · simp [Value.ownBlock] at e)
      have HAP := Lib.hid (show ∀ i, i < k → ∀ b, (C i).F b → ¬ Cll.F ⟨gc, 0, .slice none 0 0, []⟩ b by
        rintro i hi b hb (e | e)
        · have := (HS.out.call i hi).ltF b hb
          dsimp only at e; omega
        · simp [Value.ownBlock] at e)
      have HSG := Lib.hid (show ∀ i : Nat, sigP cl3 ((i : Int) + 1) = if i = k then some ((k : Int) + 5, 0, []) else sigP cl ((i : Int) + 1) from fun i => by
        rw [hs3]
        unfold joinS
        rw [if_pos HJE.out]
        unfold upd
        by_cases e : i = k
        · subst e
          rw [if_pos rfl, if_pos rfl]
        · rw [if_neg (by omega), if_neg e])
      clear hS3 hs3 m3 hF3 hSys3 hc2 hc3 hS2 hCa hb2 hgc hsz h23 HJE HS
      --@2
      go_wp2_with (at_builtin; refine wpList_append1 slT_ptr rfl rfl rfl w3.heap.size rfl (HO3.out.alloc _) #[.pointer (some ⟨gc, 0, none⟩)] (Blk.new w3 _ _) rfl (by simp; rfl) (by omega) (by decide) (by omega) ?_; intro g5 cap5 w9 ho9 hg9 hat9)
      have HSN := Lib.hid (HSY3.out.push HC3.out HGE.out HAP.out ho9 hg9 (hat9.imp (fun e => e) (fun e => by rw [e]; simp)))
      exact ⟨⟨k + 1, cl3, _, by omega, by go_num, ⟨_, _, rfl⟩, HSN, Lib.hid (fun i hi => by
        unfold updN
        rw [HSG.out i]
        by_cases e : i = k
        · rw [if_pos e, if_pos e, e]
          exact ⟨rfl, rfl, rfl⟩
        · rw [if_neg e, if_neg e]
          exact HC.out i (by omega)), Lib.hid (fun i hi => by
        rw [HSG.out i, if_neg (by omega)]
        exact HNO.out i (by omega))⟩, by simp [intOf]; omega⟩
    · obtain rfl : k = 2 := by omega
      go_wp2_with fail
      refine (around_nat _ 10 10 _ rfl hm0 hm1 (by decide) (by decide)).mono ?_
      rintro e w2 ⟨nn, rfl, hnn, -, rfl⟩
      --@3
      obtain ⟨gp, capp, hvp, -⟩ := HS.out.row
      rw [hvp] at HS ⊢
      clear hvp
      have hb2 := (Below.refl wr.heap.size wr).alloc (Nat.le_refl _) (.cells #[.int .i64 0, .int .i64 0] 70)
      have hO : Once W (wr.alloc (.cells #[.int .i64 0, .int .i64 0] 70)) gs mb cl C (.slice (some ⟨gp, 0, none⟩) 2 capp) (.slice none 0 0) [] wr.heap.size (fun _ => 0) := ⟨HS.out.all hb2, World.ownsRow_nil _ _ _ _, by simp, fun b e => by simp [Value.ownBlock] at e, fun _ _ b e => by simp [Value.ownBlock] at e, Blk.new _ _ _, HS.out.below.size⟩
      have hI : OnceI (sigP cl) C [] (fun _ => 0) (fun _ => []) true := ⟨fun i hi => by
        obtain ⟨h1, h2, -⟩ := HC.out i hi
        rw [h1, h2]
        exact ⟨rfl, List.Pairwise.nil, by simp, fun m h1 h2 => by omega, Nat.le_refl _⟩, fun i hi => ⟨[], (HC.out i hi).2.2, rfl, fun k h => absurd h (by simp)⟩, by simp⟩
      have HO := Lib.hid hO
      have HI := Lib.hid hI
      have HLS := Lib.hid (show ∀ i, i < 2 → (C i).last = 0 from fun i hi => (HC.out i hi).1)
      obtain ⟨gd, hgd⟩ : ∃ gd, wr.heap.size = gd := ⟨_, rfl⟩
      obtain ⟨n, hn⟩ : ∃ n : Nat, 1 + nn = n := ⟨_, rfl⟩
      have hnI : (1 : Int) + (nn : Int) = (n : Int) := by omega
      have hn1 : 1 ≤ n := by omega
      have hn10 : n ≤ 10 := by omega
      rw [hgd] at HO
      clear hO hI hb2 HNO HC hm0 hm1 hn hnn
      go_wp2
      (try rw [hgd])
      (try rw [hnI])
      clear hgd hnI
      generalize wr.alloc (.cells #[.int .i64 0, .int .i64 0] 70) = w3 at *
      clear HS
      refine once_loop2 hR0 HW hn1 hn10 (OR2.mk (round := 0) (nN := 0) (by omega) (by omega) rfl (Lib.hid rfl) HO HI (Lib.hid (fun i hi => by rw [HLS.out i hi]; simp))) ?_
      clear HO HI HLS
      intros
      rename_i h8
      obtain ⟨v8, cl8, C8, N8, D8, nums8, hO8, hI8, hL8⟩ := h8
      go_wp2
      refine once_loop5 hn10 ⟨0, by omega, rfl, OR10.mk (Lib.hid hO8) (Lib.hid hI8.weak) (Lib.hid hL8) (Lib.hid (fun j hj => absurd hj (by omega)))⟩ ?_
      clear hO8 hI8 hL8
      intros
      rename_i h10
      obtain ⟨v, cl, C, N, D, nums, HO, HI, HL, HPR⟩ := h10
      have hf : ∀ i, i < 2 → D i = n ∧ (C i).op = [] := fun i hi => by
        have hg := HI.out.good i hi
        rw [HPR.out i hi, HL.out i hi] at hg
        exact hg.done
      have d0 := (HO.out.doneAt (i := 0) (by omega)).1
      have d1 := (HO.out.doneAt (i := 1) (by omega)).1
      rw [(hf 0 (by omega)).1] at d0
      rw [(hf 1 (by omega)).1] at d1
      have k0 := HO.out.rowAt (i := 0) (by omega)
      have k1 := HO.out.rowAt (i := 1) (by omega)
      have HE0 := Lib.hid (hf 0 (by omega)).2
      have HE1 := Lib.hid (hf 1 (by omega)).2
      clear hf
      go_wp2_with fail
      refine (again_any (C 0).g _ _ _ _ _ _ (Lib.hid (HO.out.sys.call 0 (by omega))) (by rw [HE0.out]; decide)).mono ?_
      rintro e w7 ⟨A7, c7, l7, rfl, -, -, -, hb7⟩
      rw [HE0.out]
      simp only [List.length_nil]
      have HO7 := Lib.hid (HO.out.all hb7)
      have k1 := HO7.out.rowAt (i := 1) (by omega)
      clear hb7 d0 d1 k0 HO
      go_wp2_with fail
      refine (again_any (C 1).g _ _ _ _ _ _ (Lib.hid (HO7.out.sys.call 1 (by omega))) (by rw [HE1.out]; decide)).mono ?_
      rintro e w8 ⟨A8, c8, l8, rfl, -, -, -, hb8⟩
      rw [HE1.out]
      simp only [List.length_nil]
      have HB8 := Lib.hid (bt HO7.out.sys.below hb8)
      clear hb8 k1 HO7
      go_wp2_with fail
      refine (lives37_any _).mono ?_
      rintro e w9 ⟨rfl, hb9⟩
      have HB9 := Lib.hid (bt HB8.out hb9)
      clear hb9 HB8
      go_wp2
      go_ret
      exact ⟨rfl, HB9.out⟩
end Go.Proofs.Ytompkpleiichaaa

/- For all requests and networks worldmintlaw37.ClientOnce returns true. No condition. -/
namespace Go.Proofs.Ytompkpleiichaaa
open Go.ChangeShapes Go.WideShapes Go.ChangeAt Go.RowKit Go.ChangeMaps

set_option maxRecDepth 100000 in
theorem ClientOnce_lifted (os : Os) (started : os.Started) (H : Type) (enc : TypeId × Value → H) :
    ReturnsInHanded {} Try.checked os 6 .any (Rows.clientOnceSpec.pre6 enc Try.prog Try.f6 Rows.clientOnceRow.domain false) (Rows.clientOnceSpec.post enc Try.prog Try.f6 false true false false) := by
  refine returnsInHanded_of_change (C := Try.checked) Try.own started (by kernel_rfl) Try.func6
    (ChangeSpec.witness6 (enc := enc) (C := Try.checked) false ⟨#[], #[.slice none 0 0, .int .i64 0], []⟩ 8 (by kernel_rfl) (by kernel_rfl) (by kernel_rfl) (by kernel_rfl)) ?_
  intro W base args ds gs before hval0 hW _ _
  have hval : ∀ (j : Nat) t v, Try.f6.params[j]? = some t → args[j]? = some v → Value.okWide Try.prog W .any base t v := hval0
  have hW' := hW
  obtain ⟨p, q, hT0, hV, rfl, hfz, hnd⟩ := hW
  have hT : DataW.TrodAll enc Try.prog W 0 (fun _ => true) true Try.f6.params.toList args.toList ds p := hT0
  rw [Try.params6] at hT hval
  obtain ⟨v0, vs0, d0, ds0, p0, q0, hargs0, rfl, rfl, h0, r0⟩ := trodAll_cons hT
  obtain ⟨v1, vs1, d1, ds1, p1, q1, hargs1, rfl, rfl, h1, r1⟩ := trodAll_cons r0
  obtain ⟨rfl, rfl, rfl⟩ := trodAll_nil r1
  obtain rfl : args = #[v0, v1] := by cases args; simp_all
  obtain ⟨A0, n0, c0, f0, rfl, hA0, hn0, hc0, hR0, hw0⟩ := open_sl Try.underlying48 Try.underlying3 (by kernel_rfl) (hval 0 48 v0 rfl rfl) h0
  obtain ⟨a1, rfl, -, -, w1⟩ := open_int Try.underlying3 (hval 1 3 v1 rfl rfl) h1
  refine (ClientOnce_walk W A0 n0 c0 f0 hA0 hn0 hc0 hR0 hw0 a1 w1).mono fun e W' ⟨he, hb⟩ => ?_
  subst he
  exact ⟨_, rfl, law_post Try.laidOut (by kernel_rfl) (by kernel_rfl) Try.underlying4 rfl hW' rfl hb⟩

theorem ClientOnce_holds : Rows.ClientOnceSaid :=
  OpenClaim.holds_of_wide 6 Try.f6 rfl rfl rfl rfl rfl rfl rfl ⟨rfl, rfl, rfl, rfl, rfl⟩ rfl rfl rfl rfl rfl (by kernel_rfl) Try.func6 (by kernel_rfl)
    (of_decide_eq_true (by kernel_rfl)) (by unfold Func.isWrapper; first | (rw [if_pos (by decide +kernel)]; kernel_rfl) | (rw [if_neg (by decide +kernel)]; exact ⟨rfl, rfl⟩))
    (fun os started H enc _ => ClientOnce_lifted os started H enc)

end Go.Proofs.Ytompkpleiichaaa
