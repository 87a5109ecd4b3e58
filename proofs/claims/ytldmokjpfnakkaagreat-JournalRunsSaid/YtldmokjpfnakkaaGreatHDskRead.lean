/- disk: Read, Sync. -/
import Derived.Test.YtldmokjpfnakkaaGreatHG21

namespace Go.Proofs.YtldmokjpfnakkaaGreat
open Go.RowKit

theorem readD_arg (g mb room : Nat) (off : Bool) (plan : Int) (fs : List Fl) (num : Int) (w : World) (_HD : Hid (DskAt w g mb room off plan fs)) (h : num < 0 ∨ 64 ≤ num) :
    Calls Tryz.prog 19 #[.pointer (some ⟨g, 0, none⟩), .int .i64 num] w fun e w' => e = .returned (.tuple #[.slice none 0 0, .int .i64 1]) ∧ w = w' := by
  go_enter Tryz.func19, Tryz.ntmps19
  go_wp2_with (go_at_call 39; ((with_reducible refine (isFile_no _ _ h).mono ?_); rintro e w1 ⟨rfl, rfl⟩))
  go_ret2
  exact ⟨rfl, rfl⟩
theorem readD_off (g mb room : Nat) (plan : Int) (fs : List Fl) (num : Int) (w : World) (HD : Hid (DskAt w g mb room true plan fs)) (h1 : 0 ≤ num) (h2 : num < 64) :
    Calls Tryz.prog 19 #[.pointer (some ⟨g, 0, none⟩), .int .i64 num] w fun e w' => e = .returned (.tuple #[.slice none 0 0, .int .i64 23]) ∧ w = w' := by
  obtain ⟨c0, c1, c2, c3, c4, -⟩ := HD.out.dcells
  go_enter Tryz.func19, Tryz.ntmps19
  go_wp2_with (go_at_call 39; ((with_reducible refine (isFile_yes _ _ h1 h2).mono ?_); rintro e w1 ⟨rfl, rfl⟩))
  go_ret2
  exact ⟨rfl, rfl⟩
theorem readD_none (g mb room : Nat) (plan : Int) (fs : List Fl) (num : Int) (w : World) (HD : Hid (DskAt w g mb room false plan fs)) (HN : Hid (findF fs num = none)) (h1 : 0 ≤ num) (h2 : num < 64) :
    Calls Tryz.prog 19 #[.pointer (some ⟨g, 0, none⟩), .int .i64 num] w fun e w' => e = .returned (.tuple #[.slice none 0 0, .int .i64 0]) ∧ w = w' := by
  obtain ⟨c0, c1, c2, c3, c4, -⟩ := HD.out.dcells
  have hlk := DskAt.look2 HD.out num
  rw [HN.out] at hlk
  replace hlk : (Instr.lookup 60 (.map (some mb)) (.int .i64 num) true).run Tryz.prog w = .ok (.tuple #[.pointer none, .bool false]) w := hlk
  go_enter Tryz.func19, Tryz.ntmps19
  go_wp2_with (go_at_call 39; ((with_reducible refine (isFile_yes _ _ h1 h2).mono ?_); rintro e w1 ⟨rfl, rfl⟩))
  go_ret2
  exact ⟨rfl, rfl⟩
def ReadPost (bs : List UInt8) (w : World) (e : Ending) (w' : World) : Prop := ∃ A n c, e = .returned (.tuple #[.slice A n c, .int .i64 0]) ∧ w'.ownsRow w.heap.size 5 1 (.slice A n c) n (bs.map fun b => Value.int .u8 ((b.toNat : Nat) : Int)) ∧ Below w.heap.size w w'
theorem readD_some (g mb room : Nat) (plan : Int) (fs : List Fl) (f : Fl) (num : Int) (w : World) (HD : Hid (DskAt w g mb room false plan fs)) (HN : Hid (findF fs num = some f)) (h1 : 0 ≤ num) (h2 : num < 64) :
    Calls Tryz.prog 19 #[.pointer (some ⟨g, 0, none⟩), .int .i64 num] w (ReadPost f.bs w) := by
  obtain ⟨c0, c1, c2, c3, c4, -⟩ := HD.out.dcells
  have hlk := DskAt.look2 HD.out num
  rw [HN.out] at hlk
  replace hlk : (Instr.lookup 60 (.map (some mb)) (.int .i64 num) true).run Tryz.prog w = .ok (.tuple #[.pointer (some ⟨f.fb, 0, none⟩), .bool true]) w := hlk
  obtain ⟨l1, l2, hfs, -⟩ := findF_split HN.out
  have hok := HD.out.ok f (by rw [hfs]; simp)
  obtain ⟨A0, k0, hrv⟩ := own_slice hok.2.1
  have hcl : w.cell? ⟨f.fb, 0, none⟩ = some (.slice A0 f.bs.length k0) := by rw [← hrv]; simpa using hok.1.cell 0
  have hown := hok.2.1
  rw [hrv] at hown
  have hrd := (rd_bytes hown).2.2
  have hlen : f.bs.length ≤ 16777216 := by
    have h1 := HD.out.room_le
    have h2 := HD.out.used_le
    rw [hfs, sumL_append, sumL_cons] at h2
    omega
  obtain ⟨k, hk⟩ : ∃ k, f.bs.length = k := ⟨_, rfl⟩
  rw [hk] at hcl hrd hlen
  have HK := Lib.hid hk
  clear hk hfs hok hrv hown
  go_enter Tryz.func19, Tryz.ntmps19
  go_wp2_with (first
    | (go_at_call 39; ((with_reducible refine (isFile_yes _ _ h1 h2).mono ?_); rintro e w1 ⟨rfl, rfl⟩))
    | (go_at_call 36; ((with_reducible refine (clone_any _ _ _ f.bs _ HK hrd (by omega)).mono ?_); rintro e w2 ⟨A', c', rfl, q1, q2, q3, q4, q5⟩)))
  go_ret2
  exact ⟨A', k, c', rfl, q3, q5⟩
/-- Files whose bytes are all durable, but for those that are left. -/
def syncF (left : Int → Bool) (f : Fl) : Fl := if left f.num then f else { f with dur := f.bs.length }
theorem syncF_num (left : Int → Bool) (f : Fl) : (syncF left f).num = f.num := by unfold syncF; split <;> rfl
theorem syncF_bs (left : Int → Bool) (f : Fl) : (syncF left f).bs = f.bs := by unfold syncF; split <;> rfl
theorem syncF_fb (left : Int → Bool) (f : Fl) : (syncF left f).fb = f.fb := by unfold syncF; split <;> rfl
theorem syncF_rv (left : Int → Bool) (f : Fl) : (syncF left f).rv = f.rv := by unfold syncF; split <;> rfl
theorem syncF_all (f : Fl) : syncF (fun _ => true) f = f := by simp [syncF]
def syncLog (st : List (Int × List UInt8 × Nat)) : List (Int × List UInt8 × Nat) := st.map fun p => (p.1, p.2.1, p.2.1.length)
theorem syncF_done {fs : List Fl} {left : Int → Bool} (h : ∀ f ∈ fs, left f.num = false) : (fs.map (syncF left)).map Fl.log = syncLog (fs.map Fl.log) := by
  rw [syncLog, List.map_map, List.map_map]
  apply List.map_congr_left
  intro f hf
  simp [Function.comp, syncF, h f hf, Fl.log]
theorem sumL_sync (fs : List Fl) (left : Int → Bool) : sumL (fs.map (syncF left)) = sumL fs := by
  unfold sumL
  rw [List.map_map]
  congr 1
  apply List.map_congr_left
  intro f _
  simp [Function.comp, syncF_bs]
theorem keys_sync (fs : List Fl) (left : Int → Bool) : (fs.map (syncF left)).map (fun f => (f.num, f.ptr)) = fs.map fun f => (f.num, f.ptr) := by
  rw [List.map_map]
  apply List.map_congr_left
  intro f _
  simp [Function.comp, syncF_num, Fl.ptr, syncF_fb]
theorem IMap.nodup {w : World} {b : Nat} {es : List (Int × Value)} (h : IMap w b es) : (es.map Prod.fst).Nodup := by
  obtain ⟨l, c, -, -, h3, -⟩ := h
  exact h3
theorem DskAt.syncOne {w : World} {g mb room : Nat} {off : Bool} {plan : Int} {fs : List Fl} {left : Int → Bool} {f : Fl} (h : DskAt w g mb room off plan (fs.map (syncF left))) (hf : f ∈ fs) (hl : left f.num = true) :
    ∃ A c, f.rv = .slice A f.bs.length c ∧ w.cell? ⟨f.fb, 0, none⟩ = some (.slice A f.bs.length c) ∧ w.cell? ⟨f.fb, 1, none⟩ = some (.int .i64 (f.dur : Int)) ∧ w.frozen? ⟨f.fb, 1, none⟩ = false ∧
      DskAt (w.setCell ⟨f.fb, 1, none⟩ (.int .i64 (f.bs.length : Int))) g mb room off plan (fs.map (syncF fun j => left j && !(j == f.num))) ∧ Mod (fun b => b = f.fb) w (w.setCell ⟨f.fb, 1, none⟩ (.int .i64 (f.bs.length : Int))) := by
  obtain ⟨l1, l2, rfl⟩ := List.append_of_mem hf
  have hn := h.map.nodup
  rw [keys_sync] at hn
  have hsf : syncF left f = f := by simp [syncF, hl]
  rw [List.map_append, List.map_cons, hsf] at h
  have hne : ∀ d ∈ l1 ++ l2, d.num ≠ f.num := by
    intro d hd e
    simp only [List.map_append, List.map_cons, List.map_map, Function.comp_def] at hn
    rw [List.nodup_append] at hn
    obtain ⟨-, h2, h3⟩ := hn
    rw [List.nodup_cons] at h2
    rcases List.mem_append.1 hd with hd | hd
    · exact h3 d.num (List.mem_map.2 ⟨d, hd, rfl⟩) f.num (by simp) e
    · exact h2.1 (List.mem_map.2 ⟨d, hd, e⟩)
  have hsame : ∀ l : List Fl, (∀ d ∈ l, d ∈ l1 ++ l2) → l.map (syncF fun j => left j && !(j == f.num)) = l.map (syncF left) := by
    intro l hl'
    apply List.map_congr_left
    intro d hd
    have : (d.num == f.num) = false := beq_false_of_ne (hne d (hl' d hd))
    simp [syncF, this]
  have hnew : (l1 ++ f :: l2).map (syncF fun j => left j && !(j == f.num)) = l1.map (syncF left) ++ ({ f with dur := f.bs.length } : Fl) :: l2.map (syncF left) := by
    rw [List.map_append, List.map_cons, hsame l1 (fun d hd => by simp [hd]), hsame l2 (fun d hd => by simp [hd])]
    simp [syncF]
  have hfm : f ∈ l1.map (syncF left) ++ f :: l2.map (syncF left) := by simp
  have hok := h.ok f hfm
  obtain ⟨A, c, hrv⟩ := own_slice hok.2.1
  have hgne : f.fb ≠ g := (h.F_ne hfm _ (.inl rfl)).1
  have m : Mod (fun b => b = f.fb) w (w.setCell ⟨f.fb, 1, none⟩ (.int .i64 (f.bs.length : Int))) := (Mod.refl (fun b => b = f.fb) w).set (p := ⟨f.fb, 1, none⟩) (.inl rfl) _
  have hs : sumL (l1.map (syncF left) ++ ({ f with dur := f.bs.length } : Fl) :: l2.map (syncF left)) = sumL (l1.map (syncF left) ++ f :: l2.map (syncF left)) := by simp [sumL]
  refine ⟨A, c, hrv, by rw [← hrv]; simpa using hok.1.cell 0, by simpa using hok.1.cell 1, hok.1.frozen 1, ?_, m⟩
  rw [hnew]
  refine (h.upd (f' := { f with dur := f.bs.length }) (off' := off) (plan' := plan) (m.mono (fun b hb => .inl (.inl (.inl hb)))) (by rw [hs]; exact m.blk h.blk (fun e => hgne e.symm)) rfl rfl ⟨?_, ?_, Nat.le_refl _⟩ (.inl rfl) (by rw [hs]; exact h.used_le) h.plan_le).1
  · simpa using hok.1.set_ 1 (.int .i64 (f.bs.length : Int))
  · exact m.own hok.2.1 (fun b e hb => own_ne (by decide) hok.1 hok.2.1 (by rw [e, hb]))
end Go.Proofs.YtldmokjpfnakkaaGreat
