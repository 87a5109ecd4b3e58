/- JournalRuns: the package's disk and log beside the reference's: what holds of both, and what each call does to it. -/
import Derived.Test.YtldmokjpfnakkaaGreatHRDkCrash
import Derived.Test.YtldmokjpfnakkaaGreatHG41
import Derived.Test.YtldmokjpfnakkaaGreatHG35
import Derived.Test.YtldmokjpfnakkaaGreatHG36
import Derived.Test.YtldmokjpfnakkaaGreatHG42
import Derived.Test.YtldmokjpfnakkaaGreatHG20
import Derived.Test.YtldmokjpfnakkaaGreatHG2

namespace Go.Proofs.YtldmokjpfnakkaaGreat
open Go.RowKit

theorem scan_from (bs : List UInt8) : ∀ (n : Nat) (l : List (List UInt8)) (r : List UInt8), r.length ≤ n → bs = framesB 0 l ++ r → ∃ rs m, ScanIs bs rs m
  | 0, l, r, hn, hb => ⟨l, _, rfl, r, hb, fun x t e => by
      have h1 := congrArg List.length e
      have h2 := frameB_pos ((l.length : Nat) : Int) x
      rw [List.length_append] at h1
      omega⟩
  | n + 1, l, r, hn, hb => by
      by_cases h : ∃ x t, r = frameB ((l.length : Nat) : Int) x ++ t
      · obtain ⟨x, t, e⟩ := h
        have h1 := congrArg List.length e
        have h2 := frameB_pos ((l.length : Nat) : Int) x
        rw [List.length_append] at h1
        refine scan_from bs n (l ++ [x]) t (by omega) ?_
        rw [framesB_snoc, Nat.zero_add, List.append_assoc, ← e]
        exact hb
      · exact ⟨l, _, rfl, r, hb, fun x t e => h ⟨x, t, e⟩⟩
theorem scan_ex (bs : List UInt8) : ∃ rs m, ScanIs bs rs m := scan_from bs bs.length [] bs (Nat.le_refl _) rfl
theorem ScanIs.count {bs : List UInt8} {rs : List (List UInt8)} {m : Nat} (h : ScanIs bs rs m) : rs.length ≤ bs.length := by
  have h3 := framesB_len rs 0
  obtain ⟨h4, rest, h5, -⟩ := h
  have h6 := congrArg List.length h5
  rw [List.length_append] at h6
  omega
/-- Both disks. -/
structure DD (W w : World) (g mb : Nat) (fs : List Fl) (g' gB gF : Nat) (v : Value) (room : Nat) (o : Bool) (p : Int) (bs : List UInt8) (dur : Nat) (o' : Bool) (p' : Int) (bs' : List UInt8) (dur' : Nat) : Prop where
  d : DskAt w g mb room o p fs
  s : fs.map Fl.log = stOf bs dur
  r : RDk w g' gB gF room o' p' v bs' dur'
  ap : ∀ b, v.ownBlock = some b → ¬ DskF g mb fs b
  lowP : ∀ b, DskF g mb fs b → W.heap.size ≤ b
  lowR : ∀ b, RDF g' gB gF v b → W.heap.size ≤ b
  below : Below W.heap.size W w
section
variable {W w w1 : World} {g mb g' gB gF room dur dur' : Nat} {fs : List Fl} {v : Value} {o o' : Bool} {p p' : Int} {bs bs' : List UInt8}
theorem DD.dis (h : DD W w g mb fs g' gB gF v room o p bs dur o' p' bs' dur') : ∀ b, RDF g' gB gF v b → ¬ DskF g mb fs b := by
  rintro b (rfl | rfl | rfl | hb) hf
  · exact h.d.noT (by decide) (by decide) (by decide) _ hf h.r.blk.ty
  · exact h.d.noT (by decide) (by decide) (by decide) _ hf h.r.tyB
  · exact h.d.noT (by decide) (by decide) (by decide) _ hf h.r.tyF
  · exact h.ap b hb hf
theorem DD.all (h : DD W w g mb fs g' gB gF v room o p bs dur o' p' bs' dur') (hb : Below w.heap.size w w1) : DD W w1 g mb fs g' gB gF v room o p bs dur o' p' bs' dur' :=
  ⟨h.d.all hb, h.s, h.r.all hb, h.ap, h.lowP, h.lowR, bt h.below hb⟩
/-- The package's disk goes on. -/
theorem DD.pkg {o2 : Bool} {p2 : Int} {bs2 : List UInt8} {dur2 : Nat} {F : Nat → Prop} (h : DD W w g mb fs g' gB gF v room o p bs dur o' p' bs' dur') (fs2 : List Fl) (hs : fs2.map Fl.log = stOf bs2 dur2) (hD : DskAt w1 g mb room o2 p2 fs2) (m : Mod F w w1) (hF : ∀ b, F b → W.heap.size ≤ b ∧ ¬ RDF g' gB gF v b) (hF2 : ∀ b, DskF g mb fs2 b → DskF g mb fs b ∨ w.heap.size ≤ b) :
    DD W w1 g mb fs2 g' gB gF v room o2 p2 bs2 dur2 o' p' bs' dur' := by
  refine ⟨hD, hs, h.r.mod m (fun b hb hf => (hF b hf).2 hb), fun b hb hf => ?_, fun b hb => ?_, h.lowR, m.below h.below h.below.size (fun b hf => (hF b hf).1)⟩
  · rcases hF2 b hf with hf | hf
    · exact h.ap b hb hf
    · have := h.r.ltF b (.inr (.inr (.inr hb)))
      omega
  · rcases hF2 b hb with hf | hf
    · exact h.lowP b hf
    · exact Nat.le_trans h.below.size hf
/-- The reference's disk goes on. -/
theorem DD.ref {o2 : Bool} {p2 : Int} {bs2 : List UInt8} {dur2 : Nat} {F : Nat → Prop} (h : DD W w g mb fs g' gB gF v room o p bs dur o' p' bs' dur') (v2 : Value) (hD : RDk w1 g' gB gF room o2 p2 v2 bs2 dur2) (m : Mod F w w1) (hF : ∀ b, F b → W.heap.size ≤ b ∧ ¬ DskF g mb fs b) (hF2 : ∀ b, RDF g' gB gF v2 b → RDF g' gB gF v b ∨ w.heap.size ≤ b) :
    DD W w1 g mb fs g' gB gF v2 room o p bs dur o2 p2 bs2 dur2 := by
  refine ⟨h.d.mod m (fun b hb hf => (hF b hf).2 hb), h.s, hD, fun b hb hf => ?_, h.lowP, fun b hb => ?_, m.below h.below h.below.size (fun b hf => (hF b hf).1)⟩
  · rcases hF2 b (.inr (.inr (.inr hb))) with hr | hr
    · exact h.dis b hr hf
    · have := h.d.ltF b hf
      omega
  · rcases hF2 b hb with hf | hf
    · exact h.lowR b hf
    · exact Nat.le_trans h.below.size hf
theorem DD.next {o2 : Bool} {p2 : Int} {bs2 : List UInt8} {dur2 : Nat} (h : DD W w g mb fs g' gB gF v room o p bs dur o' p' bs' dur') (hN : DskNext g mb room o2 p2 fs (stOf bs2 dur2) w w1) :
    ∃ fs2, DD W w1 g mb fs2 g' gB gF v room o2 p2 bs2 dur2 o' p' bs' dur' ∧ Mod (DskF g mb fs) w w1 := by
  obtain ⟨fs2, hs, hD, m, hF⟩ := hN
  exact ⟨fs2, h.pkg fs2 hs hD m (fun b hf => ⟨h.lowP b hf, fun hr => h.dis b hr hf⟩) hF, m⟩
theorem DD.rnext {o2 : Bool} {p2 : Int} {bs2 : List UInt8} {dur2 : Nat} (h : DD W w g mb fs g' gB gF v room o p bs dur o' p' bs' dur') (hN : RNext g' gB gF room v o2 p2 bs2 dur2 w w1) :
    ∃ v2, DD W w1 g mb fs g' gB gF v2 room o p bs dur o2 p2 bs2 dur2 ∧ Mod (RDF g' gB gF v) w w1 := by
  obtain ⟨v2, hD, m, hF⟩ := hN
  exact ⟨v2, h.ref v2 hD m (fun b hf => ⟨h.lowR b hf, h.dis b hf⟩) hF, m⟩
/-- The logs: none of both, or both at one number. -/
def Logs (W w : World) (g g' : Nat) (o : Bool) (i : Nat) (pl rl : Value) : Prop :=
  (pl = .pointer none ∧ rl = .pointer none) ∨ ∃ gl gl' N down, pl = .pointer (some ⟨gl, 0, none⟩) ∧ rl = .pointer (some ⟨gl', 0, none⟩) ∧ LogAt w gl g 2 N (!down) ∧ RLogAt w gl' g' N down ∧ N ≤ 1000 + i ∧ (o = true → down = true) ∧ W.heap.size ≤ gl ∧ W.heap.size ≤ gl'
theorem DD.notP (h : DD W w g mb fs g' gB gF v room o p bs dur o' p' bs' dur') {b : Nat} {t : TypeId} (hb : Ty w b t) (h1 : t ≠ 62) (h2 : t ≠ 66) (h3 : t ≠ 5) : ¬ DskF g mb fs b := fun hf => h.d.noT h1 h2 h3 b hf hb
theorem DD.notR (h : DD W w g mb fs g' gB gF v room o p bs dur o' p' bs' dur') {b : Nat} {t : TypeId} (hb : Ty w b t) (h1 : t ≠ 50) (h2 : t ≠ 39) (h3 : t ≠ 3) (h4 : t ≠ 5) : ¬ RDF g' gB gF v b := fun hf => by
  rcases h.r.ty b hf with h5 | h5 | h5 | h5
  · exact h1 (Ty.unique hb h5)
  · exact h2 (Ty.unique hb h5)
  · exact h3 (Ty.unique hb h5)
  · exact h4 (Ty.unique hb h5)
theorem Logs.mod {i : Nat} {pl rl : Value} {F : Nat → Prop} (h : Logs W w g g' o i pl rl) (m : Mod F w w1) (hF : ∀ b, F b → ¬ Ty w b 59 ∧ ¬ Ty w b 44) {o2 : Bool} (ho : o2 = true → o = true) {i2 : Nat} (hi : i ≤ i2) : Logs W w1 g g' o2 i2 pl rl := by
  rcases h with h | ⟨gl, gl', N, down, h1, h2, h3, h4, h5, h6, h7, h8⟩
  · exact .inl h
  · exact .inr ⟨gl, gl', N, down, h1, h2, m.blk h3 (fun hf => (hF _ hf).1 h3.ty), m.blk h4 (fun hf => (hF _ hf).2 h4.ty), by omega, fun e => h6 (ho e), h7, h8⟩
theorem Logs.all {i : Nat} {pl rl : Value} (h : Logs W w g g' o i pl rl) (hb : Below w.heap.size w w1) {i2 : Nat} (hi : i ≤ i2) : Logs W w1 g g' o i2 pl rl := h.mod (F := fun _ => False) (Mod.of_below _ hb) (fun _ hf => hf.elim) (fun e => e) hi
theorem DD.logsP {i : Nat} {pl rl : Value} (h : DD W w g mb fs g' gB gF v room o p bs dur o' p' bs' dur') {oo o2 : Bool} (hL : Logs W w g g' oo i pl rl) (m : Mod (DskF g mb fs) w w1) (ho : o2 = true → oo = true) : Logs W w1 g g' o2 i pl rl :=
  hL.mod m (fun b hf => ⟨fun ht => h.notP ht (by decide) (by decide) (by decide) hf, fun ht => h.notP ht (by decide) (by decide) (by decide) hf⟩) ho (Nat.le_refl _)
theorem DD.logsR {i : Nat} {pl rl : Value} (h : DD W w g mb fs g' gB gF v room o p bs dur o' p' bs' dur') {oo o2 : Bool} (hL : Logs W w g g' oo i pl rl) (m : Mod (RDF g' gB gF v) w w1) (ho : o2 = true → oo = true) : Logs W w1 g g' o2 i pl rl :=
  hL.mod m (fun b hf => ⟨fun ht => h.notR ht (by decide) (by decide) (by decide) (by decide) hf, fun ht => h.notR ht (by decide) (by decide) (by decide) (by decide) hf⟩) ho (Nat.le_refl _)
/-- What holds between the calls. -/
def PR (W : World) (g mb g' gB gF room i : Nat) (pl e rl f : Value) (w : World) : Prop :=
  ∃ fs v o p bs dur, DD W w g mb fs g' gB gF v room o p bs dur o p bs dur ∧ Logs W w g g' o i pl rl ∧ f = e ∧ (e = .int .i64 0 ∨ e = .int .i64 23)
theorem PR.more {i i2 : Nat} {pl e rl f : Value} (h : PR W g mb g' gB gF room i pl e rl f w) (hi : i ≤ i2) : PR W g mb g' gB gF room i2 pl e rl f w := by
  obtain ⟨fs, v, o, p, bs, dur, h1, h2, h3, h4⟩ := h
  exact ⟨fs, v, o, p, bs, dur, h1, h2.all (Below.refl _ _) hi, h3, h4⟩
/-- What Open does, with the power on or off. -/
def opnO (o : Bool) (p : Int) (bs : List UInt8) (dur m : Nat) : Int × Bool × Int × List UInt8 × Nat := if o then (23, true, p, bs, dur) else opn p bs dur m
theorem popen_all {m : Nat} {rs : List (List UInt8)} (HD : Hid (DD W w g mb fs g' gB gF v room o p bs dur o' p' bs' dur')) (HSC : Hid (ScanIs bs rs m)) :
    Calls Tryz.prog 7 #[.pointer (some ⟨g, 0, none⟩), .int .i64 2] w (POpenPost g mb room fs (opnO o p bs dur m) rs w) := by
  cases o
  · exact popen_any g mb room p fs bs dur m rs w (Lib.hid HD.out.d) (Lib.hid HD.out.s) HSC
  · refine (open_off g mb room p fs 2 w (Lib.hid HD.out.d) (by decide) (by decide)).mono ?_
    rintro e w2 ⟨rfl, rfl⟩
    exact .inr ⟨rfl, rfl, rfl, fs, HD.out.s, HD.out.d, Mod.refl _ _, fun b hb => .inl hb⟩
theorem ropen_off (w : World) (HD : Hid (RDk w g gB gF room true p v bs dur)) :
    Calls Tryz.prog 8 #[.pointer (some ⟨g, 0, none⟩), .int .i64 2] w fun e w' => e = .returned (.tuple #[.pointer none, .slice none 0 0, .int .i64 23]) ∧ w' = w := by
  obtain ⟨c0, c1, c2, c3, c4, f3, f4⟩ := HD.out.cells
  go_enter Tryz.func8, Tryz.ntmps8
  go_wp2
  go_ret3
  exact ⟨rfl, rfl⟩
theorem ropen_all {m : Nat} {rs : List (List UInt8)} (HD : Hid (RDk w g gB gF room o p v bs dur)) (HSC : Hid (ScanIs bs rs m)) :
    Calls Tryz.prog 8 #[.pointer (some ⟨g, 0, none⟩), .int .i64 2] w (ROpenPost g gB gF room v (opnO o p bs dur m) rs w) := by
  cases o
  · exact ropen_any g gB gF room dur m p v bs rs w HD HSC
  · refine (ropen_off w HD).mono ?_
    rintro e w2 ⟨rfl, rfl⟩
    exact ⟨RNext3.same HD.out (Below.refl _ _), .inr ⟨rfl, rfl⟩⟩
/-- Behind the package's Open. -/
theorem DD.open1 {R : Int × Bool × Int × List UInt8 × Nat} {rs : List (List UInt8)} {e : Ending} (h : DD W w g mb fs g' gB gF v room o p bs dur o' p' bs' dur') (hP : POpenPost g mb room fs R rs w e w1) :
    ∃ fs2, DD W w1 g mb fs2 g' gB gF v room R.2.1 R.2.2.1 R.2.2.2.1 R.2.2.2.2 o' p' bs' dur' ∧ Mod (DskF g mb fs) w w1 ∧
      ((R.1 = 0 ∧ R.2.1 = false ∧ ∃ gl A c L, e = .returned (.tuple #[.pointer (some ⟨gl, 0, none⟩), .slice A rs.length c, .int .i64 0]) ∧ w.heap.size ≤ gl ∧ LogAt w1 gl g 2 rs.length true ∧ LsOwn w1 w.heap.size (.slice A rs.length c) L ∧ bsOf L = rs ∧ ∀ z ∈ L, z.low w.heap.size) ∨
       (R.1 = 23 ∧ R.2.1 = true ∧ e = .returned (.tuple #[.pointer none, .slice none 0 0, .int .i64 23]))) := by
  rcases hP with ⟨h1, h2, gl, v2, L, fs2, rfl, h3, h4, h5, h6, h7, h8, h9, m, h10, -⟩ | ⟨h1, h2, h3, hN⟩
  · obtain ⟨A, c, rfl⟩ := h5.slice
    have hl : L.length = rs.length := by rw [← bsOf_length, h6]
    rw [hl] at h5 ⊢
    refine ⟨fs2, ?_, m, .inl ⟨h1, h2, gl, A, c, L, rfl, h3, h4, h5, h6, h7⟩⟩
    rw [h2]
    exact h.pkg fs2 h8 h9 m (fun b hf => ⟨h.lowP b hf, fun hr => h.dis b hr hf⟩) h10
  · obtain ⟨fs2, hD, m⟩ := h.next hN
    refine ⟨fs2, ?_, m, .inr ⟨h1, h2, h3⟩⟩
    rw [h2]
    exact hD
/-- Behind the reference's Open. -/
theorem DD.open2 {R : Int × Bool × Int × List UInt8 × Nat} {rs : List (List UInt8)} {e : Ending} (h : DD W w g mb fs g' gB gF v room o p bs dur o' p' bs' dur') (hP : ROpenPost g' gB gF room v R rs w e w1) :
    ∃ v2, DD W w1 g mb fs g' gB gF v2 room o p bs dur R.2.1 R.2.2.1 R.2.2.2.1 R.2.2.2.2 ∧ Mod (RDF g' gB gF v) w w1 ∧
      ((R.1 = 0 ∧ ∃ gl A c L, e = .returned (.tuple #[.pointer (some ⟨gl, 0, none⟩), .slice A rs.length c, .int .i64 0]) ∧ w.heap.size ≤ gl ∧ RLogAt w1 gl g' rs.length false ∧ LsOwnR w1 w.heap.size (.slice A rs.length c) L ∧ bsOf L = rs) ∨
       (R.1 = 23 ∧ e = .returned (.tuple #[.pointer none, .slice none 0 0, .int .i64 23]))) := by
  obtain ⟨hN, hE⟩ := hP
  obtain ⟨v2, hD, m⟩ := h.rnext hN.to
  refine ⟨v2, hD, m, ?_⟩
  rcases hE with ⟨h1, gl, v3, L, rfl, h2, h3, h4, h5⟩ | hE
  · obtain ⟨A, c, rfl⟩ := h4.slice
    have hl : L.length = rs.length := by rw [← bsOf_length, h5]
    rw [hl] at h4 ⊢
    exact .inl ⟨h1, gl, A, c, L, rfl, h2, h3, h4, h5⟩
  · exact .inr hE
/-- Both have been opened. -/
theorem DD.opened {i : Nat} {rs : List (List UInt8)} {gl gl' : Nat} (h : DD W w g mb fs g' gB gF v room false p bs dur false p bs dur) (hr : rs.length ≤ 1000) (h1 : LogAt w gl g 2 rs.length true) (h2 : RLogAt w gl' g' rs.length false) (h3 : W.heap.size ≤ gl) (h4 : W.heap.size ≤ gl') : PR W g mb g' gB gF room i (.pointer (some ⟨gl, 0, none⟩)) (.int .i64 0) (.pointer (some ⟨gl', 0, none⟩)) (.int .i64 0) w :=
  ⟨fs, v, false, p, bs, dur, h, .inr ⟨gl, gl', rs.length, false, rfl, rfl, h1, h2, by omega, fun e => (by cases e), h3, h4⟩, rfl, .inl rfl⟩
theorem DD.shut {i : Nat} (h : DD W w g mb fs g' gB gF v room o p bs dur o p bs dur) : PR W g mb g' gB gF room i (.pointer none) (.int .i64 23) (.pointer none) (.int .i64 23) w :=
  ⟨fs, v, o, p, bs, dur, h, .inl ⟨rfl, rfl⟩, rfl, .inr rfl⟩
/-- Append at both, the power on and the log up. -/
theorem DD.app1 {gl N : Nat} {R : Int × Bool × Nat × Bool × Int × List UInt8 × Nat} {e : Ending} (h : DD W w g mb fs g' gB gF v room o p bs dur o' p' bs' dur') (hl : LogAt w gl g 2 N true) (hg : W.heap.size ≤ gl) (hP : PAppPost gl g mb room fs R w e w1) :
    ∃ fs2, e = .returned (.int .i64 R.1) ∧ DD W w1 g mb fs2 g' gB gF v room R.2.2.2.1 R.2.2.2.2.1 R.2.2.2.2.2.1 R.2.2.2.2.2.2 o' p' bs' dur' ∧ LogAt w1 gl g 2 R.2.2.1 (!R.2.1) ∧ Mod (fun b => DskF g mb fs b ∨ b = gl) w w1 := by
  obtain ⟨he, fs2, hs, hD, hL, m, hF⟩ := hP
  refine ⟨fs2, he, h.pkg fs2 hs hD m ?_ hF, hL, m⟩
  rintro b (hf | rfl)
  · exact ⟨h.lowP b hf, fun hr => h.dis b hr hf⟩
  · exact ⟨hg, h.notR hl.ty (by decide) (by decide) (by decide) (by decide)⟩
theorem DD.app2 {gl N : Nat} {R : Int × Bool × Nat × Bool × Int × List UInt8 × Nat} {e : Ending} (h : DD W w g mb fs g' gB gF v room o p bs dur o' p' bs' dur') (hl : RLogAt w gl g' N false) (hg : W.heap.size ≤ gl) (hP : RAppPost g' gB gF gl room v R w e w1) :
    ∃ v2, e = .returned (.int .i64 R.1) ∧ DD W w1 g mb fs g' gB gF v2 room o p bs dur R.2.2.2.1 R.2.2.2.2.1 R.2.2.2.2.2.1 R.2.2.2.2.2.2 ∧ RLogAt w1 gl g' R.2.2.1 R.2.1 ∧ Mod (fun b => RDF g' gB gF v b ∨ b = gl) w w1 := by
  obtain ⟨he, hL, v2, hD, m, hF⟩ := hP
  refine ⟨v2, he, h.ref v2 hD m ?_ hF, hL, m⟩
  rintro b (hf | rfl)
  · exact ⟨h.lowR b hf, h.dis b hf⟩
  · exact ⟨hg, h.notP hl.ty (by decide) (by decide) (by decide)⟩
theorem apd_more {room N dur : Nat} {plan : Int} {bs x : List UInt8} : (apd room plan bs dur N x).2.2.1 ≤ N + 1 ∧ ((apd room plan bs dur N x).2.2.2.1 = true → (apd room plan bs dur N x).2.1 = true) := by
  unfold apd
  split
  · exact ⟨by simp, by simp⟩
  · split
    · exact ⟨by simp, by simp⟩
    · split <;> exact ⟨by simp, by simp⟩
/-- Arm, with the power on or off. -/
theorem parm_all {n : Int} (hn0 : 0 ≤ n) (hn : n ≤ 1000) (HD : Hid (DD W w g mb fs g' gB gF v room o p bs dur o' p' bs' dur')) :
    Calls Tryz.prog 9 #[.pointer (some ⟨g, 0, none⟩), .int .i64 n] w fun e w' => e = .returned (.tuple #[]) ∧ DskNext g mb room o (if o then p else n) fs (stOf bs dur) w w' := by
  cases o
  · refine (arm_any g mb room p n fs w (Lib.hid HD.out.d) (by omega)).mono ?_
    rintro e w2 ⟨rfl, h⟩
    rw [HD.out.s, show max n (-1) = n by omega] at h
    exact ⟨rfl, h⟩
  · refine (arm_off g mb room p n fs w (Lib.hid HD.out.d)).mono ?_
    rintro e w2 ⟨rfl, rfl⟩
    exact ⟨rfl, fs, HD.out.s, HD.out.d, Mod.refl _ _, fun b hb => .inl hb⟩
end
/-- The condition held within a region may be made stronger. -/
theorem wpAnyH_mono {P : Program} {md : Region.Mode} {ops : Array Oper} {Q : Exit → Act → World → Prop} {S S2 : World → Prop} (hS : ∀ w, S2 w → S w) : ∀ (fuel : Nat) (listed : Array Bool) (a : Act) (w : World), wpAnyH P md ops Q S2 fuel listed a w → wpAnyH P md ops Q S fuel listed a w
  | 0, _, _, _, h => h
  | fuel + 1, _, _, _, h => ⟨h.1, fun i hi => wpOp_mono (fun _ _ h' => ⟨hS _ h'.1, wpAnyH_mono hS fuel _ _ _ h'.2⟩) (h.2 i hi)⟩
end Go.Proofs.YtldmokjpfnakkaaGreat

/- The loops of a function's code, in the order of the text. -/
namespace Go.Proofs.YtldmokjpfnakkaaGreat
open Go.RowKit

def loopsOf : Code → List Code
  | .loop c => c :: loopsOf c
  | .seq a b => loopsOf a ++ loopsOf b
  | .block _ c => loopsOf c
  | .scope c => loopsOf c
  | .cond _ a b => loopsOf a ++ loopsOf b
  | _ => []
noncomputable def nthLoop (f : Func) (n : Nat) : Code := (((f.body.map loopsOf).getD [])[n]?).getD .skip
end Go.Proofs.YtldmokjpfnakkaaGreat
