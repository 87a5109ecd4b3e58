/- journal: the invariant of JournalFull. -/
import Derived.Test.YtldmokjpfnakkaaGreatHG25
import Derived.Test.YtldmokjpfnakkaaGreatHG26

namespace Go.Proofs.YtldmokjpfnakkaaGreat
open Go.RowKit

def Bz.inI (a b : Nat) (z : Bz) : Prop := ∀ g off, z.A = some ⟨g, off, none⟩ → 0 < z.n → a ≤ g ∧ g < b
theorem Bz.ok.inI {w : World} {z : Bz} {a : Nat} (h : z.ok w) (hl : z.low a) : z.inI a w.heap.size := by
  intro g off e hn
  refine ⟨hl g off e hn, ?_⟩
  obtain ⟨b, o, cs, fr, e', hh, -⟩ := h.2.2.2 hn
  rw [e] at e'
  injection e' with e'
  injection e' with e' _ _
  rw [e']
  exact (Array.getElem?_eq_some_iff.1 hh).1
theorem Bz.ok.modI {w w' : World} {F : Nat → Prop} {a b : Nat} {z : Bz} (h : z.ok w) (hl : z.inI a b) (m : Mod F w w') (hF : ∀ g, a ≤ g → g < b → ¬ F g) : z.ok w' := by
  refine ⟨h.1, h.2.1, h.2.2.1, fun hn => ?_⟩
  obtain ⟨g, off, cs, fr, e, hh, hc⟩ := h.2.2.2 hn
  obtain ⟨h1, h2⟩ := hl g off e hn
  exact ⟨g, off, cs, fr, e, (m.block g (Array.getElem?_eq_some_iff.1 hh).1 (hF g h1 h2)).trans hh, hc⟩
theorem LsOwn.modT {w w' : World} {base a b : Nat} {v : Value} {L : List Bz} {F : Nat → Prop} (h : LsOwn w base v L) (hl : ∀ z ∈ L, z.inI a b) (m : Mod F w w') (hT : ∀ g, F g → ¬ Ty w g 39) (hF : ∀ g, a ≤ g → g < b → ¬ F g) : LsOwn w' base v L :=
  ⟨m.own h.1 (fun g e hf => hT g hf (Ty.of_own h.1 e)), fun z hz => (h.2 z hz).modI (hl z hz) m hF⟩
theorem DskAt.noRow {w : World} {g mb room : Nat} {off : Bool} {plan : Int} {fs : List Fl} (h : DskAt w g mb room off plan fs) : ∀ b, DskF g mb fs b → ¬ Ty w b 39 := by
  rintro b (rfl | rfl | ⟨f, hf, (rfl | e)⟩) ht
  · exact absurd (Ty.unique h.blk.ty ht) (by decide)
  · exact h.map.not_ty ht
  · exact absurd (Ty.unique (h.ok f hf).1.ty ht) (by decide)
  · exact absurd (Ty.unique (Ty.of_own (h.ok f hf).2.1 e) ht) (by decide)
/-- The disk's files where the file 63 holds the records ks. -/
def stK (ks : List (List UInt8)) : List (Int × List UInt8 × Nat) := if ks = [] then [] else [(63, framesB 0 ks, (framesB 0 ks).length)]
theorem stK_sum {fs : List Fl} {ks : List (List UInt8)} (h : fs.map Fl.log = stK ks) : sumL fs = (framesB 0 ks).length := by
  unfold stK at h
  by_cases hk : ks = []
  · rw [if_pos hk] at h
    have : fs = [] := by simpa using h
    subst this
    subst hk
    rfl
  · rw [if_neg hk] at h
    rcases fs with _ | ⟨f, _ | ⟨f2, fs⟩⟩
    · simp at h
    · simp [Fl.log] at h
      simp [sumL, h.2.1]
    · simp at h
theorem stK_file {fs : List Fl} {ks : List (List UInt8)} (h : fs.map Fl.log = stK ks) : fileBs fs 63 = framesB 0 ks := by
  unfold stK at h
  by_cases hk : ks = []
  · rw [if_pos hk] at h
    have : fs = [] := by simpa using h
    subst this
    subst hk
    rfl
  · rw [if_neg hk] at h
    rcases fs with _ | ⟨f, _ | ⟨f2, fs⟩⟩
    · simp at h
    · simp [Fl.log] at h
      simp [fileBs, findF, h.1, h.2.1]
    · simp at h
theorem stK_app0 {fs : List Fl} {ks : List (List UInt8)} {fr all : List UInt8} (h : fs.map Fl.log = stK ks) (hall : all = framesB 0 ks ++ fr) : ∃ st, AppSt fs 63 fr st ∧ syncLog st = [(63, all, all.length)] := by
  unfold stK at h
  by_cases hk : ks = []
  · rw [if_pos hk] at h
    have : fs = [] := by simpa using h
    subst this
    refine ⟨_, .inl ⟨rfl, rfl⟩, ?_⟩
    have e : all = fr := by rw [hall, hk, framesB_nil, List.nil_append]
    rw [e]
    rfl
  · rw [if_neg hk] at h
    generalize framesB 0 ks = old at *
    rcases fs with _ | ⟨f, _ | ⟨f2, fs⟩⟩
    · simp at h
    · simp [Fl.log] at h
      refine ⟨_, .inr ⟨[], f, [], rfl, by simp [findF, h.1], rfl⟩, ?_⟩
      rw [hall]
      simp [syncLog, h.1, h.2.1]
    · simp at h
theorem stK_app {fs : List Fl} {ks : List (List UInt8)} (h : fs.map Fl.log = stK ks) (x : List UInt8) : ∃ st, AppSt fs 63 (frameB (ks.length : Nat) x) st ∧ syncLog st = stK (ks ++ [x]) := by
  obtain ⟨st, h1, h2⟩ := stK_app0 (all := framesB 0 (ks ++ [x])) h (by rw [framesB_snoc, Nat.zero_add])
  refine ⟨st, h1, ?_⟩
  rw [h2]
  unfold stK
  rw [if_neg (by simp)]
theorem stK_sync (ks : List (List UInt8)) : syncLog (stK ks) = stK ks := by
  unfold stK
  split <;> simp [syncLog]
/-- The state of JournalFull's loop: K is kept of X. -/
structure FullI (W : World) (N5 N6 g mb gl room : Nat) (vX vK : Value) (X K : List Bz) (w : World) : Prop where
  dsk : ∃ fs, DskAt w g mb room false (-1) fs ∧ fs.map Fl.log = stK (bsOf K) ∧ (∀ b, DskF g mb fs b → b < N5 ∨ N6 ≤ b) ∧ (∀ b, DskF g mb fs b → W.heap.size ≤ b) ∧ ¬ DskF g mb fs gl
  log : LogAt w gl g 63 K.length true
  glo : W.heap.size ≤ gl ∧ gl < N5 ∧ N5 ≤ N6
  xs : LsOwn w N5 vX X
  ks : LsOwn w N6 vK K
  xin : ∀ z ∈ X, z.inI N5 N6
  kin : ∀ z ∈ K, z ∈ X
  xrow : ∀ b, vX.ownBlock = some b → b < N6
  n6 : N6 ≤ w.heap.size
  below : Below W.heap.size W w
theorem FullI.all {W : World} {N5 N6 g mb gl room : Nat} {vX vK : Value} {X K : List Bz} {w w' : World} (h : FullI W N5 N6 g mb gl room vX vK X K w) (hb : Below w.heap.size w w') : FullI W N5 N6 g mb gl room vX vK X K w' := by
  obtain ⟨⟨fs, h1, h2⟩, h3, h4, h5, h6, h7, h8, hx, h9, h10⟩ := h
  exact ⟨⟨fs, h1.all hb, h2⟩, Blk.all h3 hb, h4, h5.all hb, h6.all hb, h7, h8, hx, Nat.le_trans h9 hb.size, bt h10 hb⟩
/-- After an Append that was taken. -/
theorem FullI.app {W : World} {N5 N6 g mb gl room : Nat} {vX vK : Value} {X K : List Bz} {w w' : World} {fs : List Fl} {z : Bz} {st : List (Int × List UInt8 × Nat)} (h : FullI W N5 N6 g mb gl room vX vK X K w) (hd : DskAt w g mb room false (-1) fs) (hsep : ∀ b, DskF g mb fs b → b < N5 ∨ N6 ≤ b) (hW : ∀ b, DskF g mb fs b → W.heap.size ≤ b) (hgl : ¬ DskF g mb fs gl)
    (hn : LogNext gl g mb room 63 false (-1) (K.length + 1) true fs st w w') (hst : st = stK (bsOf (K ++ [z]))) :
    (∃ fs', DskAt w' g mb room false (-1) fs' ∧ fs'.map Fl.log = stK (bsOf (K ++ [z])) ∧ (∀ b, DskF g mb fs' b → b < N5 ∨ N6 ≤ b) ∧ (∀ b, DskF g mb fs' b → W.heap.size ≤ b) ∧ ¬ DskF g mb fs' gl) ∧ LogAt w' gl g 63 (K.length + 1) true ∧ LsOwn w' N5 vX X ∧ LsOwn w' N6 vK K ∧ Below W.heap.size W w' ∧ N6 ≤ w'.heap.size := by
  obtain ⟨fs', h1, h2, h3, m, h5⟩ := hn
  have hgT : ¬ Ty w gl 39 := fun ht => absurd (Ty.unique (Blk.ty h.log) ht) (by decide)
  have hT : ∀ b, (DskF g mb fs b ∨ b = gl) → ¬ Ty w b 39 := by
    rintro b (hb | rfl)
    · exact hd.noRow b hb
    · exact hgT
  have hI : ∀ b, N5 ≤ b → b < N6 → ¬ (DskF g mb fs b ∨ b = gl) := by
    rintro b h6 h7 (hb | rfl)
    · rcases hsep b hb with h | h <;> omega
    · have := h.glo.2.1
      omega
  have hw := h.below.size
  refine ⟨⟨fs', h2, by rw [h1, hst], fun b hb => ?_, fun b hb => ?_, fun hb => ?_⟩, h3, h.xs.modT h.xin m hT hI, h.ks.modT (fun z hz => h.xin z (h.kin z hz)) m hT hI, m.below h.below h.below.size (by
    rintro b (hb | rfl)
    · exact hW b hb
    · exact h.glo.1), Nat.le_trans h.n6 m.size⟩
  · rcases h5 b hb with h | h
    · exact hsep b h
    · exact .inr (Nat.le_trans ‹FullI W N5 N6 g mb gl room vX vK X K w›.n6 h)
  · rcases h5 b hb with h | h
    · exact hW b h
    · omega
  · rcases h5 gl hb with h | h'
    · exact hgl h
    · have := Blk.lt ‹FullI W N5 N6 g mb gl room vX vK X K w›.log
      omega
/-- After the record was kept. -/
theorem FullI.kept {W : World} {N5 N6 g mb gl room : Nat} {vX vK vK' : Value} {X K : List Bz} {w w6 w7 : World} {z : Bz} (h : FullI W N5 N6 g mb gl room vX vK X K w) (hz : z ∈ X)
    (hd : ∃ fs', DskAt w6 g mb room false (-1) fs' ∧ fs'.map Fl.log = stK (bsOf (K ++ [z])) ∧ (∀ b, DskF g mb fs' b → b < N5 ∨ N6 ≤ b) ∧ (∀ b, DskF g mb fs' b → W.heap.size ≤ b) ∧ ¬ DskF g mb fs' gl) (hlog : LogAt w6 gl g 63 (K.length + 1) true) (hx : LsOwn w6 N5 vX X) (hk : LsOwn w6 N6 vK K) (hb : Below W.heap.size W w6) (hn : N6 ≤ w6.heap.size)
    (hk' : LsOwn w7 N6 vK' (K ++ [z])) (hg : w6.grownBy w7 vK.ownBlock) : FullI W N5 N6 g mb gl room vX vK' X (K ++ [z]) w7 := by
  obtain ⟨fs', h1, h2, h3, h4, h5⟩ := hd
  have m : Mod (fun b => vK.ownBlock = some b) w6 w7 := Mod.of_grown hg (fun b e => .inl e)
  have hrow : ∀ b, vK.ownBlock = some b → N6 ≤ b ∧ Ty w6 b 39 := fun b e => ⟨(hk.1.lt b e).1, Ty.of_own hk.1 e⟩
  have hW5 : W.heap.size ≤ N6 := by
    have := h.glo
    omega
  refine ⟨⟨fs', h1.mod m (fun b hb e => h1.noRow b hb (hrow b e).2), h2, h3, h4, h5⟩, by rw [List.length_append]; exact m.blk hlog (fun e => absurd (Ty.unique (Blk.ty hlog) (hrow gl e).2) (by decide)), h.glo, ?_, hk', h.xin, ?_, h.xrow, Nat.le_trans hn m.size, m.below hb hb.size (fun b e => by have := (hrow b e).1; omega)⟩
  · exact ⟨m.own hx.1 (fun b e e2 => by have := h.xrow b e; have := (hrow b e2).1; omega), fun y hy => (hx.2 y hy).modI (h.xin y hy) m (fun b _ hb e => by have := (hrow b e).1; omega)⟩
  · intro y hy
    rcases List.mem_append.1 hy with hy | hy
    · exact h.kin y hy
    · simp at hy
      subst hy
      exact hz
end Go.Proofs.YtldmokjpfnakkaaGreat

/- journal: Open where the end of the file is no frame. -/
namespace Go.Proofs.YtldmokjpfnakkaaGreat
open Go.RowKit

set_option maxRecDepth 100000 in
set_option maxHeartbeats 2000000 in
theorem open_trunc (g mb room : Nat) (plan : Int) (l1 l2 : List Fl) (f : Fl) (num : Int) (rs : List (List UInt8)) (m : Nat) (w : World) (HD : Hid (DskAt w g mb room false plan (l1 ++ f :: l2))) (HFN : Hid (findF (l1 ++ f :: l2) num = some f)) (h1 : 0 ≤ num) (h2 : num < 64) (HSC : Hid (ScanIs f.bs rs m)) (hm : m < f.bs.length) (HO : Hid (failOff false plan = false)) (HO2 : Hid (failOff false (failPlan plan) = false)) :
    Calls Tryz.prog 7 #[.pointer (some ⟨g, 0, none⟩), .int .i64 num] w (OpenPost g mb room num (failPlan (failPlan plan)) (l1 ++ f :: l2) rs (syncLog (cutLogs l1 f l2 m)) w) := by
  have hlen : f.bs.length ≤ 16777216 := by
    have h1 := HD.out.room_le
    have h2 := HD.out.used_le
    rw [sumL_append, sumL_cons] at h2
    omega
  have HF := Lib.hid HD.out.ltF
  have HBS : Hid (fileBs (l1 ++ f :: l2) num = f.bs) := Lib.hid (by unfold fileBs; rw [HFN.out]; rfl)
  obtain ⟨fs, hfs⟩ : ∃ fs, l1 ++ f :: l2 = fs := ⟨_, rfl⟩
  rw [hfs] at HD HF HBS ⊢
  have HFS := Lib.hid hfs
  clear hfs
  go_enter Tryz.func7, Tryz.ntmps7
  go_wp2_with fail
  refine (readD_any _ _ _ _ _ _ _ HD h1 h2).mono ?_
  rintro e w1 ⟨A1, n1, c1, rfl, hown1, hb1⟩
  rw [HBS.out] at hown1
  have hS1 := Sb.own hown1
  have hD1 := HD.out.all hb1
  have HN1 := Lib.hid hS1.1
  have hn1 : n1 ≤ 16777216 := by rw [← HN1.out]; exact hlen
  clear hown1
  go_wp2_with fail
  refine (scan2_any _ _ _ _ _ (Lib.hid hS1) (by omega)).mono ?_
  rintro e w2 ⟨v2, L2, m2, rfl, hL2, hs2, hb2, hlow2⟩
  obtain ⟨e1, e2⟩ := ScanIs.unique (by omega) hs2 HSC.out
  subst e2
  have hm1 : m2 < n1 := by rw [← HN1.out]; exact hm
  obtain ⟨A2, c2, rfl⟩ := hL2.slice
  have HE1 := Lib.hid e1
  have hD2 := hD1.all hb2
  have hB2 := bt hb1 hb2
  have hll : L2.length = rs.length := by rw [← bsOf_length, e1]
  rw [hll] at hL2 ⊢
  have hrl : rs.length ≤ 16777216 := by
    have h3 := framesB_len rs 0
    have h4 := HSC.out.1
    omega
  have hz1 := hb1.size
  have HLW : Hid (∀ z ∈ L2, z.low w.heap.size) := Lib.hid (fun z hz => (hlow2 z hz).mono hz1)
  have HL2 := Lib.hid (hL2.lower hz1)
  have HIN : Hid (∀ z ∈ L2, z.inI w.heap.size w2.heap.size) := Lib.hid (fun z hz => (hL2.2 z hz).inI (HLW.out z hz))
  clear hs2 e1 hll hL2 hlow2 hb1 hb2 hD1 hS1 hz1
  rw [← HFS.out] at hD2
  go_wp2_with fail
  refine (trunc_any _ _ _ _ _ _ _ _ m2 false _ (Lib.hid hD2) HFN h1 h2 (by omega) HO).mono ?_
  rintro e w3 ⟨rfl, hN3⟩
  replace hN3 : DskNext g mb room false (failPlan plan) (l1 ++ f :: l2) (cutLogs l1 f l2 m2) w2 w3 := hN3
  rw [HFS.out] at hN3 hD2
  obtain ⟨fs3, hst3, hD3, m3, hF3⟩ := hN3
  have hL3 : LsOwn w3 w.heap.size (.slice A2 rs.length c2) L2 := HL2.out.modL HLW.out m3 (fun b hb hf => by have := HF.out b hf; omega) (Nat.le_refl _)
  have M3 : Mod (DskF g mb fs) w w3 := (Mod.of_below (DskF g mb fs) hB2).trans m3 (fun b hb => .inl hb)
  have hz2 := hB2.size
  have HF3 : Hid (∀ b, DskF g mb fs3 b → DskF g mb fs b ∨ w2.heap.size ≤ b) := Lib.hid hF3
  have HT3 : Hid (∀ b, DskF g mb fs3 b → ¬ Ty w3 b 39) := Lib.hid hD3.noRow
  have HST3 := Lib.hid hst3
  have HM3 := Lib.hid M3
  clear hF3 hst3 M3 m3 hB2 hD2
  go_wp2_with fail
  refine (sync_any _ _ _ _ _ _ (Lib.hid hD3)).mono ?_
  rintro e w4 ⟨rfl, fs4, hst4, hD4, m4, hF4⟩
  rw [HO2.out] at hst4 hD4 ⊢
  have hL4 : LsOwn w4 w.heap.size (.slice A2 rs.length c2) L2 := hL3.modT HIN.out m4 HT3.out (fun b hb1 hb2 hf => by
    rcases HF3.out b hf with h | h
    · have := HF.out b h
      omega
    · omega)
  have M4 : Mod (DskF g mb fs) w w4 := HM3.out.trans m4 (fun b hb => (HF3.out b hb).imp id (fun h => by omega))
  have HF4 : Hid (∀ b, DskF g mb fs4 b → DskF g mb fs b ∨ w.heap.size ≤ b) := Lib.hid (fun b hb => by
    rcases hF4 b hb with h | h
    · exact (HF3.out b h).imp id (fun h => by omega)
    · have := HM3.out.size
      exact .inr (by omega))
  have hst : fs4.map Fl.log = syncLog (cutLogs l1 f l2 m2) := by rw [hst4, ← HST3.out]; rfl
  have hb5 := (Below.refl w4.heap.size w4).alloc (Nat.le_refl _) (.cells #[.pointer (some ⟨g, 0, none⟩), .int .i64 num, .int .i64 ((rs.length : Nat) : Int), .bool true] 59)
  have HLG : Hid (LogAt (w4.alloc (.cells #[.pointer (some ⟨g, 0, none⟩), .int .i64 num, .int .i64 ((rs.length : Nat) : Int), .bool true] 59)) w4.heap.size g num rs.length true) := Lib.hid (Blk.new w4 59 _)
  have HFIN : Hid (OpenPost g mb room num (failPlan (failPlan plan)) fs rs (syncLog (cutLogs l1 f l2 m2)) w (.returned (.tuple #[.pointer (some ⟨w4.heap.size, 0, none⟩), .slice A2 rs.length c2, .int .i64 0])) (w4.alloc (.cells #[.pointer (some ⟨g, 0, none⟩), .int .i64 num, .int .i64 ((rs.length : Nat) : Int), .bool true] 59))) := Lib.hid
    ⟨w4.heap.size, _, L2, fs4, rfl, M4.size, HLG.out, hL4.all hb5, HE1.out, HLW.out, hst, hD4.all hb5, M4.then_below hb5, HF4.out, fun h => by have := hD4.ltF _ h; omega⟩
  clear hL4 M4 hb5 hD4 hst4 m4 hF4 hst hL3 hD3 HL2 HLG hz2
  go_wp2
  go_ret3
  exact HFIN.out
end Go.Proofs.YtldmokjpfnakkaaGreat
