/- worldmintref24: New. -/
import Derived.Test.YtldmokjpfnakkaaGreatHG33
import Derived.Test.YtldmokjpfnakkaaGreatHG1
import Derived.Test.YtldmokjpfnakkaaGreatHG13
import Derived.Test.YtldmokjpfnakkaaGreatHG27
import Derived.Test.YtldmokjpfnakkaaGreatHG35
import Derived.Test.YtldmokjpfnakkaaGreatHDskCrash
import Derived.Test.YtldmokjpfnakkaaGreatHG26

namespace Go.Proofs.YtldmokjpfnakkaaGreat
open Go.RowKit

theorem infoU8s : (Tryz.prog.info? 39).map (fun i => (i.zero, i.size, i.bytes)) = some (some nilV, 1, 24) := by kernel_rfl
theorem rows_make (w : World) : ∃ w', (Instr.makeSlice 29 (.int .i64 (64 : Int)) (.int .i64 (64 : Int))).run Tryz.prog w = .ok (.slice (some ⟨w.heap.size, 0, none⟩) 64 64) w' ∧ w'.ownsRow w.heap.size 39 1 (.slice (some ⟨w.heap.size, 0, none⟩) 64 64) 64 (row2 nilV nilV) ∧ Below w.heap.size w w' ∧ w.heap.size < w'.heap.size := by
  obtain ⟨i0, hi, hz0, hz1, hz2⟩ := info_parts infoU8s
  exact make_all (P := Tryz.prog) w 29 39 i0 _ 24 Tryz.underlying29 hi hz0 hz1 hz2 rfl .i64 .i64 64 (by decide) (by decide)
theorem ints_make (w : World) : ∃ w', (Instr.makeSlice 22 (.int .i64 (64 : Int)) (.int .i64 (64 : Int))).run Tryz.prog w = .ok (.slice (some ⟨w.heap.size, 0, none⟩) 64 64) w' ∧ w'.ownsRow w.heap.size 3 1 (.slice (some ⟨w.heap.size, 0, none⟩) 64 64) 64 (row2 (fV 0) (fV 0)) ∧ Below w.heap.size w w' ∧ w.heap.size < w'.heap.size := by
  obtain ⟨i0, hi, hz0, hz1, hz2⟩ := info_parts infoInt
  exact make_all (P := Tryz.prog) w 22 3 i0 _ 8 Tryz.underlying22 hi hz0 hz1 hz2 rfl .i64 .i64 64 (by decide) (by decide)
theorem RDk.made {w2 : World} {B gB gF room : Nat} (hB : w2.ownsRow B 39 1 (.slice (some ⟨gB, 0, none⟩) 64 64) 64 (row2 nilV nilV)) (hF : w2.ownsRow B 3 1 (.slice (some ⟨gF, 0, none⟩) 64 64) 64 (row2 (fV 0) (fV 0))) (hB2 : B ≤ w2.heap.size) (hr : room ≤ 16777216) :
    RDk (w2.alloc (.cells #[.int .i64 (room : Int), .slice (some ⟨gB, 0, none⟩) 64 64, .slice (some ⟨gF, 0, none⟩) 64 64, .bool false, .int .i64 (-1)] 50)) w2.heap.size gB gF room false (-1) nilV [] 0 ∧ ∀ b, RDF w2.heap.size gB gF nilV b → B ≤ b := by
  have hb := (Below.refl w2.heap.size w2).alloc (Nat.le_refl _) (.cells #[.int .i64 (room : Int), .slice (some ⟨gB, 0, none⟩) 64 64, .slice (some ⟨gF, 0, none⟩) 64 64, .bool false, .int .i64 (-1)] 50)
  refine ⟨⟨Blk.new w2 _ _, own_lower (own_keep hB hb) (Nat.zero_le _), own_lower (own_keep hF hb) (Nat.zero_le _), World.ownsRow_nil _ _ _ _, Nat.le_refl _, ⟨hr, Nat.zero_le _⟩, by omega⟩, ?_⟩
  rintro b (rfl | rfl | rfl | h)
  · exact hB2
  · exact (hB.lt _ rfl).1
  · exact (hF.lt _ rfl).1
  · simp [nilV, Value.ownBlock] at h
set_option maxRecDepth 100000 in
set_option maxHeartbeats 2000000 in
theorem rnew_any (room : Nat) (w : World) (hr : room ≤ 16777216) :
    Calls Tryz.prog 6 #[.int .i64 (room : Int)] w fun e w' => ∃ g gB gF, e = .returned (.pointer (some ⟨g, 0, none⟩)) ∧ RDk w' g gB gF room false (-1) nilV [] 0 ∧ (∀ b, RDF g gB gF nilV b → w.heap.size ≤ b) ∧ Below w.heap.size w w' := by
  obtain ⟨w1, m1, o1, b1, s1⟩ := rows_make w.drew
  obtain ⟨w2, m2, o2, b2, s2⟩ := ints_make w1
  obtain ⟨w3, m3, o3, b3, s3⟩ := ints_make w.drew
  obtain ⟨w4, m4, o4, b4, s4⟩ := rows_make w3
  have hd := (Below.refl w.heap.size w).drew
  have e0 : w.drew.heap.size = w.heap.size := rfl
  rw [e0] at o1 o3 b1 b3 s1 s3
  have hz1 := b1.size
  have hz2 := b2.size
  have hz3 := b3.size
  have hz4 := b4.size
  obtain ⟨D1, F1⟩ := RDk.made (own_keep o1 b2) (own_lower o2 hz1) (by omega) hr
  obtain ⟨D2, F2⟩ := RDk.made (own_lower o4 hz3) (own_keep o3 b4) (by omega) hr
  have B1 := Lib.hid ((hd.trans (b1.trans (b2.mono hz1))).alloc (by omega) (.cells #[.int .i64 (room : Int), .slice (some ⟨w.heap.size, 0, none⟩) 64 64, .slice (some ⟨w1.heap.size, 0, none⟩) 64 64, .bool false, .int .i64 (-1)] 50))
  have B2 := Lib.hid ((hd.trans (b3.trans (b4.mono hz3))).alloc (by omega) (.cells #[.int .i64 (room : Int), .slice (some ⟨w3.heap.size, 0, none⟩) 64 64, .slice (some ⟨w.heap.size, 0, none⟩) 64 64, .bool false, .int .i64 (-1)] 50))
  have HD1 := Lib.hid D1
  have HF1 := Lib.hid F1
  have HD2 := Lib.hid D2
  have HF2 := Lib.hid F2
  clear D1 F1 D2 F2 o1 o2 o3 o4 b1 b2 b3 b4 s1 s2 s3 s4 hd hz1 hz2 hz3 hz4 e0
  go_enter Tryz.func6, Tryz.ntmps6
  go_wp2
  go_region
  · clear HD2 HF2 B2
    go_wp2
    go_ret
    exact ⟨_, _, _, rfl, HD1.out, HF1.out, B1.out⟩
  · clear HD1 HF1 B1
    go_wp2
    go_ret
    exact ⟨_, _, _, rfl, HD2.out, HF2.out, B2.out⟩
end Go.Proofs.YtldmokjpfnakkaaGreat

/- journal: a log and its disk of one file; what a scan finds behind a crash. -/
namespace Go.Proofs.YtldmokjpfnakkaaGreat
open Go.RowKit

theorem first_nil (k : Int) : FirstIs k [] none := fun x r h => by
  have h1 := congrArg List.length h
  rw [List.length_append] at h1
  have := frameB_pos k x
  simp at h1
  omega
theorem first_cut {k : Int} {x p q : List UInt8} (h : frameB k x = p ++ q) (hq : q ≠ []) (hl : (frameB k x).length ≤ 9223372036854775807) : FirstIs k p none := by
  intro y r e
  have h1 : frameB k x ++ [] = frameB k y ++ (r ++ q) := by rw [List.append_nil, h, e, List.append_assoc]
  have hy : (frameB k y).length ≤ 9223372036854775807 := by
    have h2 := congrArg List.length e
    rw [List.length_append] at h2
    have h3 := congrArg List.length h
    rw [List.length_append] at h3
    omega
  obtain ⟨-, h3⟩ := frame_split (by omega) (by omega) h1
  exact hq (List.append_eq_nil_iff.1 h3.symm).2
theorem scan_frames (ks : List (List UInt8)) : ScanIs (framesB 0 ks) ks (framesB 0 ks).length := ⟨rfl, [], (List.append_nil _).symm, first_nil _⟩
/-- Behind the frames of ks stands the beginning of one more. -/
theorem scan_part (ks : List (List UInt8)) (y : List UInt8) (m : Nat) (hl : (frameB (ks.length : Nat) y).length ≤ 9223372036854775807) :
    ∃ rs, ScanIs (framesB 0 ks ++ (frameB (ks.length : Nat) y).take m) rs (framesB 0 rs).length ∧ (rs = ks ∨ rs = ks ++ [y]) := by
  by_cases h : (frameB (ks.length : Nat) y).length ≤ m
  · refine ⟨ks ++ [y], ?_, .inr rfl⟩
    rw [List.take_of_length_le h]
    have e : framesB 0 ks ++ frameB (ks.length : Nat) y = framesB 0 (ks ++ [y]) := by rw [framesB_snoc, Nat.zero_add]
    rw [e]
    exact scan_frames _
  · refine ⟨ks, ⟨rfl, _, rfl, ?_⟩, .inl rfl⟩
    refine first_cut (q := (frameB (ks.length : Nat) y).drop m) (List.take_append_drop _ _).symm ?_ hl
    intro h0
    have := congrArg List.length h0
    rw [List.length_drop] at this
    simp at this
    omega
/-- A disk of one file, or of none. -/
def fileSt (num : Int) (bs : List UInt8) (dur : Nat) : List (Int × List UInt8 × Nat) := if bs = [] then [] else [(num, bs, dur)]
theorem fileSt_cases {fs : List Fl} {num : Int} {bs : List UInt8} {dur : Nat} (h : fs.map Fl.log = fileSt num bs dur) : (fs = [] ∧ bs = []) ∨ ∃ f, fs = [f] ∧ f.num = num ∧ f.bs = bs ∧ f.dur = dur ∧ bs ≠ [] := by
  unfold fileSt at h
  by_cases hk : bs = []
  · rw [if_pos hk] at h
    exact .inl ⟨by simpa using h, hk⟩
  · rw [if_neg hk] at h
    rcases fs with _ | ⟨f, _ | ⟨f2, fs⟩⟩
    · simp at h
    · simp [Fl.log] at h
      exact .inr ⟨f, rfl, h.1, h.2.1, h.2.2, hk⟩
    · simp at h
theorem fileSt_sum {fs : List Fl} {num : Int} {bs : List UInt8} {dur : Nat} (h : fs.map Fl.log = fileSt num bs dur) : sumL fs = bs.length := by
  rcases fileSt_cases h with ⟨rfl, rfl⟩ | ⟨f, rfl, -, rfl, -, -⟩
  · rfl
  · simp [sumL]
theorem fileSt_app {fs : List Fl} {num : Int} {bs : List UInt8} (h : fs.map Fl.log = fileSt num bs bs.length) (xs : List UInt8) : AppSt fs num xs [(num, bs ++ xs, bs.length)] := by
  rcases fileSt_cases h with ⟨rfl, rfl⟩ | ⟨f, rfl, rfl, rfl, h3, -⟩
  · exact .inl ⟨rfl, rfl⟩
  · exact .inr ⟨[], f, [], rfl, by simp [findF], by rw [h3]; rfl⟩
theorem fileSt_num {fs : List Fl} {num : Int} {bs : List UInt8} {dur : Nat} (h : fs.map Fl.log = fileSt num bs dur) (h1 : 0 ≤ num) (h2 : num < 64) : ∀ f ∈ fs, 0 ≤ f.num ∧ f.num < 64 := by
  rcases fileSt_cases h with ⟨rfl, -⟩ | ⟨f, rfl, rfl, -⟩
  · intro f hf; cases hf
  · intro d hd
    simp at hd
    subst hd
    exact ⟨h1, h2⟩
theorem fileSt_len {fs : List Fl} {num : Int} {bs : List UInt8} {dur : Nat} (h : fs.map Fl.log = fileSt num bs dur) : fs.length ≤ 1 := by
  rcases fileSt_cases h with ⟨rfl, -⟩ | ⟨f, rfl, -⟩ <;> simp
/-- What a crash leaves of a file. -/
def crashB (bs : List UInt8) (dur : Nat) (K : List Int) (flip : Int) : List UInt8 :=
  if 0 ≤ flip ∧ 0 < keptB K bs.length dur then flipAt (bs.take (dur + keptB K bs.length dur)) dur (flip % (8 * ((keptB K bs.length dur : Nat) : Int))).toNat else bs.take (dur + keptB K bs.length dur)
theorem flipAt_nil {bs : List UInt8} {d b : Nat} : flipAt bs d b = [] ↔ bs = [] := by
  unfold flipAt
  rw [List.set_eq_nil_iff]
theorem crash_st {fs : List Fl} {num : Int} {bs : List UInt8} {dur : Nat} (h : fs.map Fl.log = fileSt num bs dur) (K : List Int) (flip : Int) : ∃ kp st1 st2, CrashTo fs K flip kp st1 st2 ∧ syncLog st2 = fileSt num (crashB bs dur K flip) (crashB bs dur K flip).length := by
  rcases fileSt_cases h with ⟨rfl, rfl⟩ | ⟨f, rfl, rfl, rfl, rfl, hne⟩
  · refine ⟨0, [], [], .inl ⟨rfl, rfl, rfl, rfl⟩, ?_⟩
    have : crashB [] dur K flip = [] := by
      unfold crashB
      split
      · rw [flipAt_nil]; simp
      · simp
    rw [this]
    rfl
  · refine ⟨keptB K f.bs.length f.dur, _, _, .inr (.inl ⟨f, rfl, rfl, rfl, rfl⟩), ?_⟩
    unfold crashB
    by_cases hb : 0 ≤ flip ∧ 0 < keptB K f.bs.length f.dur
    · rw [if_pos hb, if_pos hb]
      have hn : ¬ flipAt (f.bs.take (f.dur + keptB K f.bs.length f.dur)) f.dur (flip % (8 * ((keptB K f.bs.length f.dur : Nat) : Int))).toNat = [] := by
        rw [flipAt_nil, List.take_eq_nil_iff]
        rintro (h | h)
        · omega
        · exact hne h
      unfold fileSt
      rw [if_neg hn]
      rfl
    · rw [if_neg hb, if_neg hb]
      by_cases h0 : f.dur + keptB K f.bs.length f.dur = 0
      · rw [if_pos h0, h0]
        rfl
      · rw [if_neg h0]
        have hn : ¬ f.bs.take (f.dur + keptB K f.bs.length f.dur) = [] := by
          rw [List.take_eq_nil_iff]
          rintro (h | h)
          · exact h0 h
          · exact hne h
        unfold fileSt
        rw [if_neg hn]
        rfl
set_option maxHeartbeats 1000000 in
/-- Open on a disk of one file. -/
theorem open1_any (g mb room : Nat) (fs : List Fl) (num : Int) (bs : List UInt8) (dur m : Nat) (rs : List (List UInt8)) (w : World) (HD : Hid (DskAt w g mb room false (-1) fs)) (HS : Hid (fs.map Fl.log = fileSt num bs dur)) (h1 : 0 ≤ num) (h2 : num < 64) (HSC : Hid (ScanIs bs rs m)) :
    Calls Tryz.prog 7 #[.pointer (some ⟨g, 0, none⟩), .int .i64 num] w (OpenPost g mb room num (-1) fs rs (fileSt num (framesB 0 rs) (framesB 0 rs).length) w) := by
  obtain ⟨rfl, r, hr, hno⟩ := id HSC.out
  rcases fileSt_cases HS.out with ⟨rfl, rfl⟩ | ⟨f, rfl, rfl, rfl, rfl, hne⟩
  · have h3 := congrArg List.length hr
    rw [List.length_append] at h3
    have hfr : framesB 0 rs = [] := List.eq_nil_of_length_eq_zero (by simp at h3; omega)
    have hrs : rs = [] := List.eq_nil_of_length_eq_zero (by have := framesB_len rs 0; rw [hfr] at this; simp at this; omega)
    subst hrs
    exact open_clean g mb room (-1) [] num [] w HD h1 h2 (Lib.hid rfl) (Lib.hid rfl)
  · have hfn : findF [f] f.num = some f := by simp [findF]
    by_cases hm : (framesB 0 rs).length < f.bs.length
    · have := open_trunc g mb room (-1) [] [] f f.num rs _ w HD (Lib.hid hfn) h1 h2 HSC hm (Lib.hid rfl) (Lib.hid rfl)
      have e : syncLog (cutLogs [] f [] (framesB 0 rs).length) = fileSt f.num (framesB 0 rs) (framesB 0 rs).length := by
        unfold cutLogs fileSt
        by_cases h0 : framesB 0 rs = []
        · rw [if_pos h0, if_pos (by rw [h0]; rfl)]
          rfl
        · rw [if_neg h0, if_neg (fun h => h0 (List.eq_nil_of_length_eq_zero h))]
          have ht : f.bs.take (framesB 0 rs).length = framesB 0 rs := by rw [hr, List.take_left]
          rw [ht]
          rfl
      rw [e] at this
      exact this
    · have hr0 : r = [] := by
        have h3 := congrArg List.length hr
        rw [List.length_append] at h3
        exact List.eq_nil_of_length_eq_zero (by omega)
      rw [hr0, List.append_nil] at hr
      have := open_clean g mb room (-1) [f] f.num rs w HD h1 h2 (Lib.hid (by unfold fileBs; rw [hfn]; exact hr)) (Lib.hid rfl)
      have e : syncLog ([f].map Fl.log) = fileSt f.num (framesB 0 rs) (framesB 0 rs).length := by
        unfold fileSt
        rw [if_neg (by rw [← hr]; exact hne), ← hr]
        rfl
      rw [e] at this
      exact this
end Go.Proofs.YtldmokjpfnakkaaGreat
