/- disk: Sync. -/
import Derived.Test.YtldmokjpfnakkaaGreatHDskRead

namespace Go.Proofs.YtldmokjpfnakkaaGreat
open Go.RowKit

theorem DskAt.not_iter {w : World} {g mb room r : Nat} {off : Bool} {plan : Int} {fs : List Fl} {es : List (Int × Value)} {left : Int → Bool} (h : DskAt w g mb room off plan fs) (hi : IIter w mb r es left) : ∀ b, DskF g mb fs b → b ≠ r := by
  rintro b (rfl | rfl | ⟨f, hf, (rfl | e)⟩) he
  · subst he
    exact hi.not_ty h.blk.ty
  · exact hi.ne he.symm
  · subst he
    exact hi.not_ty (h.ok f hf).1.ty
  · subst he
    exact hi.not_ty (Ty.of_own (h.ok f hf).2.1 e)
theorem DskF_sync (g mb : Nat) (fs : List Fl) (left : Int → Bool) (b : Nat) : DskF g mb (fs.map (syncF left)) b ↔ DskF g mb fs b := by
  unfold DskF
  refine or_congr Iff.rfl (or_congr Iff.rfl ⟨?_, ?_⟩)
  · rintro ⟨f, hf, hb⟩
    obtain ⟨d, hd, rfl⟩ := List.mem_map.1 hf
    refine ⟨d, hd, ?_⟩
    unfold Fl.F at hb ⊢
    rw [syncF_fb, syncF_rv] at hb
    exact hb
  · rintro ⟨f, hf, hb⟩
    refine ⟨syncF left f, List.mem_map.2 ⟨f, hf, rfl⟩, ?_⟩
    unfold Fl.F at hb ⊢
    rw [syncF_fb, syncF_rv]
    exact hb
theorem sync_off (g mb room : Nat) (plan : Int) (fs : List Fl) (w : World) (HD : Hid (DskAt w g mb room true plan fs)) :
    Calls Tryz.prog 25 #[.pointer (some ⟨g, 0, none⟩)] w fun e w' => e = .returned (.int .i64 23) ∧ w = w' := by
  obtain ⟨c0, c1, c2, c3, c4, -⟩ := HD.out.dcells
  go_enter Tryz.func25, Tryz.ntmps25
  go_wp2
  go_ret
  exact ⟨rfl, rfl⟩
set_option maxRecDepth 100000 in
set_option maxHeartbeats 2000000 in
theorem sync_any (g mb room : Nat) (plan : Int) (fs : List Fl) (w : World) (HD : Hid (DskAt w g mb room false plan fs)) :
    Calls Tryz.prog 25 #[.pointer (some ⟨g, 0, none⟩)] w fun e w' => e = .returned (.int .i64 (if failOff false plan then 23 else 0)) ∧ DskNext g mb room (failOff false plan) (failPlan plan) fs (if failOff false plan then fs.map Fl.log else syncLog (fs.map Fl.log)) w w' := by
  obtain ⟨c0, c1, c2, c3, c4, -⟩ := HD.out.dcells
  obtain ⟨o, ho⟩ : ∃ o, failOff false plan = o := ⟨_, rfl⟩
  rw [ho]
  have HO := Lib.hid ho
  clear ho
  go_enter Tryz.func25, Tryz.ntmps25
  go_wp2_with fail
  refine (fails_any _ _ _ _ _ _ _ HD).mono ?_
  rintro e w2 ⟨rfl, hD2, m2⟩
  rw [HO.out] at hD2 ⊢
  have M2 : Mod (DskF g mb fs) w w2 := m2.mono (fun b hb => .inl (.inl hb))
  clear m2 c0 c1 c2 c3 c4
  cases o with
  | true =>
    go_wp2
    go_ret
    exact ⟨rfl, fs, rfl, hD2, M2, fun b hb => .inl hb⟩
  | false =>
    obtain ⟨d0, d1, d2, d3, d4, -⟩ := hD2.dcells
    obtain ⟨w3, hrg, hi3, hb3⟩ := IMap.iter (P := Tryz.prog) hD2.map Tryz.underlying60
    have hD3 := hD2.all hb3
    have M3 := M2.then_below hb3
    obtain ⟨r, hr⟩ : ∃ r, w2.heap.size = r := ⟨_, rfl⟩
    rw [hr] at hrg hi3
    have hrw : w.heap.size ≤ r := by rw [← hr]; exact M2.size
    have HD3 : Hid (DskAt w3 g mb room false (failPlan plan) (fs.map (syncF fun _ => true))) := Lib.hid (by
      have : fs.map (syncF fun _ => true) = fs := by
        conv => rhs; rw [← List.map_id fs]
        exact List.map_congr_left (fun f _ => syncF_all f)
      rw [this]
      exact hD3)
    have HI3 := Lib.hid hi3
    have HM3 := Lib.hid M3
    clear hD2 hD3 hi3 M3 M2 hb3 hr
    go_wp2
    go_loopw [4] (fun _ wr => ∃ left, Hid (IIter wr mb r (fs.map fun f => (f.num, f.ptr)) left) ∧ Hid (DskAt wr g mb room false (failPlan plan) (fs.map (syncF left))) ∧ Hid (Mod (DskF g mb fs) w wr)) (fun _ wr => iterLeft wr mb r)
    case atStart => exact ⟨_, HI3, HD3, HM3⟩
    case round =>
      obtain ⟨left, HI, HDr, HMr⟩ := hrel
      rcases HI.out.next (P := Tryz.prog) with ⟨hno, hnx⟩ | ⟨k, v, w', hkv, hlk, hnx, hen, hI', hg', -, hlt⟩
      · have HNO := Lib.hid (show ∀ f ∈ fs, left f.num = false from fun f hf => hno (f.num, f.ptr) (List.mem_map.2 ⟨f, hf, rfl⟩))
        clear hno
        go_wp2
        go_ret
        exact ⟨rfl, _, syncF_done HNO.out, HDr.out, HMr.out, fun b hb => .inl ((DskF_sync _ _ _ _ _).1 hb)⟩
      · obtain ⟨f, hf, he⟩ := List.mem_map.1 hkv
        injection he with he1 he2
        subst he1 he2
        have hnr := HDr.out.not_iter HI.out
        have hD' := HDr.out.mod (Mod.of_grown (F := fun b => b = r) hg' (fun b e => .inl (by injection e with e; exact e.symm))) (fun b hb e => hnr b hb e)
        obtain ⟨A, c, hrv, q1, q2, q3, hD'', m''⟩ := hD'.syncOne hf hlk
        have HD'' := Lib.hid hD''
        have hfr : f.fb ≠ r := hnr _ ((DskF_sync _ _ _ _ _).2 (.inr (.inr ⟨f, hf, .inl rfl⟩)))
        have hfm : f.fb ≠ mb := by
          have := (HDr.out.F_ne (f := syncF left f) (List.mem_map.2 ⟨f, hf, rfl⟩) f.fb (by unfold Fl.F; rw [syncF_fb]; exact .inl rfl)).2
          exact this
        have HI'' := Lib.hid (hI'.mod m'' (fun e => hfm e.symm) (fun e => hfr e.symm))
        have HM'' : Hid (Mod (DskF g mb fs) w (w'.setCell ⟨f.fb, 1, none⟩ (.int .i64 (f.bs.length : Int)))) := Lib.hid ((HMr.out.then_grown hg' (fun b e => .inr (by injection e with e; omega))).trans m'' (fun b hb => .inl (.inr (.inr ⟨f, hf, .inl hb⟩))))
        have HLT : Hid (iterLeft (w'.setCell ⟨f.fb, 1, none⟩ (.int .i64 (f.bs.length : Int))) mb r < iterLeft wr mb r) := Lib.hid (by
          have e : iterLeft (w'.setCell ⟨f.fb, 1, none⟩ (.int .i64 (f.bs.length : Int))) mb r = iterLeft w' mb r := by
            unfold iterLeft
            rw [Below.heap_setCell w' ⟨f.fb, 1, none⟩ _ mb (fun e => hfm e.symm), Below.heap_setCell w' ⟨f.fb, 1, none⟩ _ r (fun e => hfr e.symm)]
          rw [e]
          exact hlt)
        replace hnx : ∀ ty, (Instr.next (.pointer (some ⟨r, 0, none⟩)) false ty).run Tryz.prog wr = .ok (.tuple #[.bool true, .int .i64 f.num, .pointer (some ⟨f.fb, 0, none⟩)]) w' := hnx
        replace hen : (Instr.entry (.pointer (some ⟨r, 0, none⟩))).run Tryz.prog w' = .ok (.tuple #[.int .i64 f.num, .pointer (some ⟨f.fb, 0, none⟩)]) w' := hen
        clear hkv hlk hI' hg' hlt hnr hD' hD'' m'' hfr hfm hrv
        go_wp2
        exact ⟨⟨_, HI'', HD'', HM''⟩, HLT.out⟩
end Go.Proofs.YtldmokjpfnakkaaGreat
