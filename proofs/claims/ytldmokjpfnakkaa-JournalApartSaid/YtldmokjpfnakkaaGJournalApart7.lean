/- Part 7 of the texts that JournalApart needs: JrnMore JrnFullI JrnOpenT JrnLog3 DskFiles Law DskInv DskCrash JrnLogI. -/
import Derived.Test.YtldmokjpfnakkaaRows
import Derived.WalkKit
import Derived.ProofKit
import Derived.OpenShut
import Derived.JoinedCond
import Derived.Deep.DeepCutAuto
import Derived.Deep.CutBlock
import Derived.Test.YtldmokjpfnakkaaGJournalApart6

/- journal: lemmas for the laws. -/
namespace Go.Proofs.Ytldmokjpfnakkaa
open Go.RowKit
theorem frames_le (L : List Bz) (hs : ∀ z ∈ L, z.bs.length ≤ 10) (hn : L.length ≤ 6) : ∀ k, k ≤ L.length → (framesB 0 (bsOf (L.take k))).length ≤ 50 * k := by
  intro k
  induction k with
  | zero => intro _; simp [bsOf, framesB]
  | succ k ih =>
    intro hk
    have h1 := ih (by omega)
    rw [← List.take_append_getElem (show k < L.length by omega), bsOf_snoc, framesB_snoc, List.length_append]
    have h2 := frameB_len (k := ((0 + (bsOf (L.take k)).length : Nat) : Int)) (bs := (L[k]'(by omega)).bs) (by rw [bsOf_length, List.length_take]; exact ⟨by omega, by omega⟩) (by have := hs _ (List.getElem_mem (show k < L.length by omega)); omega)
    have h3 := hs _ (List.getElem_mem (show k < L.length by omega))
    omega
theorem rd_list {w : World} {B n : Nat} {A : Option Addr} {f : Nat → Int} (h : Rd w B A n (fun j => .int .u8 (f j))) (hf : ∀ j, j < n → 0 ≤ f j ∧ f j ≤ 255) : Rd w B A n (vByte ((List.range n).map fun j => UInt8.ofNat (f j).toNat)) :=
  h.congr (fun j hj => by
    have := hf j hj
    unfold vByte
    rw [List.getElem?_map, List.getElem?_range hj]
    simp only [Option.map_some, Option.getD_some]
    rw [ofNat_toNat (by omega)]
    congr 1
    omega)
theorem run_cut (A : Option Addr) (n c m : Nat) (mi : Int) (hmi : mi = (m : Int)) (hm : m ≤ c) (w : World) : (Instr.slice 23 (.slice A n c) none (some (.int .i64 mi)) none).run Try.prog w = .ok (.slice A m c) w := by
  subst hmi
  have e : A.map (fun a => a.add 0) = A := by
    cases A with
    | none => rfl
    | some a => simp [Addr.add]
  have h1 : (m : Int) ≤ (c : Int) := by omega
  have h2 := run_slice_h (P := Try.prog) (w := w) 23 A n c (by kernel_rfl) .i64 (m : Int) (by omega) h1
  rw [h2]
  have h3 : (sizeOf (Try.prog.elem 23)).run Try.prog w = .ok 1 w := by kernel_rfl
  rw [h3]
  simp only [Result.andThen, sliced, Nat.zero_mul, e, ite_self, Nat.sub_zero, Int.toNat_natCast]
theorem three_rows {w : World} {A1 A2 A3 : Option Addr} {n1 n2 n3 c1 c2 c3 : Nat} {b1 b2 b3 : List UInt8} (h1 : Sb w A1 n1 c1 b1) (h2 : Sb w A2 n2 c2 b2) (h3 : Sb w A3 n3 c3 b3) :
    LsRd (w.alloc (.cells #[.slice A1 n1 c1, .slice A2 n2 c2, .slice A3 n3 c3] 23)) (some ⟨w.heap.size, 0, none⟩) 3 3 [⟨A1, n1, c1, b1⟩, ⟨A2, n2, c2, b2⟩, ⟨A3, n3, c3, b3⟩] := by
  have hb := (Below.refl w.heap.size w).alloc (Nat.le_refl _) (.cells #[.slice A1 n1 c1, .slice A2 n2 c2, .slice A3 n3 c3] 23)
  have hB := Blk.new w 23 #[.slice A1 n1 c1, .slice A2 n2 c2, .slice A3 n3 c3]
  refine ⟨rfl, by decide, by decide, fun _ => ⟨_, _, rfl, by simp, fun j hj => ?_⟩, fun z hz => ?_⟩
  · rw [Nat.zero_add, hB.cell]
    rcases (show j = 0 ∨ j = 1 ∨ j = 2 by omega) with rfl | rfl | rfl <;> rfl
  · simp at hz
    rcases hz with rfl | rfl | rfl
    · exact ⟨h1.1, h1.2.1, h1.2.2.1, (h1.all hb).rd⟩
    · exact ⟨h2.1, h2.2.1, h2.2.2.1, (h2.all hb).rd⟩
    · exact ⟨h3.1, h3.2.1, h3.2.2.1, (h3.all hb).rd⟩
theorem three_sb {w : World} {A1 A2 A3 : Option Addr} {n1 n2 n3 c1 c2 c3 : Nat} {b1 b2 b3 : List UInt8} (h1 : Sb w A1 n1 c1 b1) (h2 : Sb w A2 n2 c2 b2) (h3 : Sb w A3 n3 c3 b3) :
    ∀ z ∈ ([⟨A1, n1, c1, b1⟩, ⟨A2, n2, c2, b2⟩, ⟨A3, n3, c3, b3⟩] : List Bz), Sb (w.alloc (.cells #[.slice A1 n1 c1, .slice A2 n2 c2, .slice A3 n3 c3] 23)) z.A z.n z.c z.bs := by
  have hb := (Below.refl w.heap.size w).alloc (Nat.le_refl _) (.cells #[.slice A1 n1 c1, .slice A2 n2 c2, .slice A3 n3 c3] 23)
  intro z hz
  simp at hz
  rcases hz with rfl | rfl | rfl
  · exact h1.all hb
  · exact h2.all hb
  · exact h3.all hb
theorem three_n {nR na nF : Nat} (h1 : nR ≤ 60) (h2 : na ≤ 300) (h3 : nF ≤ 50) {AR A2 AF : Option Addr} {cR c2 cF : Nat} {rsR bs2 fs : List UInt8} : ∀ z ∈ ([⟨AR, nR, cR, rsR⟩, ⟨A2, na, c2, bs2⟩, ⟨AF, nF, cF, fs⟩] : List Bz), z.n ≤ 300 := by
  intro z hz
  simp at hz
  rcases hz with rfl | rfl | rfl <;> simp only <;> omega
theorem scan_len {bs : List UInt8} {L : List Bz} {m n : Nat} (h : ScanIs bs (bsOf L) m) (hn : bs.length ≤ n) : L.length ≤ n := by
  obtain ⟨h1, r, h2, -⟩ := h
  have h3 := framesB_len (bsOf L) 0
  rw [bsOf_length] at h3
  have h4 := congrArg List.length h2
  rw [List.length_append] at h4
  omega
theorem frames_next {L : List Bz} {k : Nat} {z : Bz} (hz : L[k]? = some z) : framesB 0 (bsOf (L.take (k + 1))) = framesB 0 (bsOf (L.take k)) ++ frameB (k : Nat) z.bs := by
  obtain ⟨hk, rfl⟩ := List.getElem?_eq_some_iff.1 hz
  rw [← List.take_append_getElem hk, bsOf_snoc, framesB_snoc, bsOf_length, List.length_take, Nat.zero_add, Nat.min_eq_left (by omega)]
end Go.Proofs.Ytldmokjpfnakkaa

/- journal: the invariant of JournalFull. -/
namespace Go.Proofs.Ytldmokjpfnakkaa
open Go.RowKit

def Bz.inI (a b : Nat) (z : Bz) : Prop := ∀ g off, z.A = some ⟨g, off, none⟩ → 0 < z.n → a ≤ g ∧ g < b
theorem Bz.ok.inI {w : World} {z : Bz} {a : Nat} (h : z.ok w) (hl : z.low a) : z.inI a w.heap.size := by
  intro g off e hn
  refine ⟨hl g off e hn, ?_⟩
  obtain ⟨b, o, cs, fr, e', hh, -⟩ := h.2.2.2 hn
  rw [e] at e'
  injection e' with e'
  injection e' with e' _ _
  rw [e']
  exact (Array.getElem?_eq_some_iff.1 hh).1
theorem Bz.ok.modI {w w' : World} {F : Nat → Prop} {a b : Nat} {z : Bz} (h : z.ok w) (hl : z.inI a b) (m : Mod F w w') (hF : ∀ g, a ≤ g → g < b → ¬ F g) : z.ok w' := by
  refine ⟨h.1, h.2.1, h.2.2.1, fun hn => ?_⟩
  obtain ⟨g, off, cs, fr, e, hh, hc⟩ := h.2.2.2 hn
  obtain ⟨h1, h2⟩ := hl g off e hn
  exact ⟨g, off, cs, fr, e, (m.block g (Array.getElem?_eq_some_iff.1 hh).1 (hF g h1 h2)).trans hh, hc⟩
theorem LsOwn.modT {w w' : World} {base a b : Nat} {v : Value} {L : List Bz} {F : Nat → Prop} (h : LsOwn w base v L) (hl : ∀ z ∈ L, z.inI a b) (m : Mod F w w') (hT : ∀ g, F g → ¬ Ty w g 23) (hF : ∀ g, a ≤ g → g < b → ¬ F g) : LsOwn w' base v L :=
  ⟨m.own h.1 (fun g e hf => hT g hf (Ty.of_own h.1 e)), fun z hz => (h.2 z hz).modI (hl z hz) m hF⟩
theorem DskAt.noRow {w : World} {g mb room : Nat} {off : Bool} {plan : Int} {fs : List Fl} (h : DskAt w g mb room off plan fs) : ∀ b, DskF g mb fs b → ¬ Ty w b 23 := by
  rintro b (rfl | rfl | ⟨f, hf, (rfl | e)⟩) ht
  · exact absurd (Ty.unique h.blk.ty ht) (by decide)
  · exact h.map.not_ty ht
  · exact absurd (Ty.unique (h.ok f hf).1.ty ht) (by decide)
  · exact absurd (Ty.unique (Ty.of_own (h.ok f hf).2.1 e) ht) (by decide)
/-- The disk's files where the file 63 holds the records ks. -/
def stK (ks : List (List UInt8)) : List (Int × List UInt8 × Nat) := if ks = [] then [] else [(63, framesB 0 ks, (framesB 0 ks).length)]
theorem stK_sum {fs : List Fl} {ks : List (List UInt8)} (h : fs.map Fl.log = stK ks) : sumL fs = (framesB 0 ks).length := by
  unfold stK at h
  by_cases hk : ks = []
  · rw [if_pos hk] at h
    have : fs = [] := by simpa using h
    subst this
    subst hk
    rfl
  · rw [if_neg hk] at h
    rcases fs with _ | ⟨f, _ | ⟨f2, fs⟩⟩
    · simp at h
    · simp [Fl.log] at h
      simp [sumL, h.2.1]
    · simp at h
theorem stK_file {fs : List Fl} {ks : List (List UInt8)} (h : fs.map Fl.log = stK ks) : fileBs fs 63 = framesB 0 ks := by
  unfold stK at h
  by_cases hk : ks = []
  · rw [if_pos hk] at h
    have : fs = [] := by simpa using h
    subst this
    subst hk
    rfl
  · rw [if_neg hk] at h
    rcases fs with _ | ⟨f, _ | ⟨f2, fs⟩⟩
    · simp at h
    · simp [Fl.log] at h
      simp [fileBs, findF, h.1, h.2.1]
    · simp at h
theorem stK_app0 {fs : List Fl} {ks : List (List UInt8)} {fr all : List UInt8} (h : fs.map Fl.log = stK ks) (hall : all = framesB 0 ks ++ fr) : ∃ st, AppSt fs 63 fr st ∧ syncLog st = [(63, all, all.length)] := by
  unfold stK at h
  by_cases hk : ks = []
  · rw [if_pos hk] at h
    have : fs = [] := by simpa using h
    subst this
    refine ⟨_, .inl ⟨rfl, rfl⟩, ?_⟩
    have e : all = fr := by rw [hall, hk, framesB_nil, List.nil_append]
    rw [e]
    rfl
  · rw [if_neg hk] at h
    generalize framesB 0 ks = old at *
    rcases fs with _ | ⟨f, _ | ⟨f2, fs⟩⟩
    · simp at h
    · simp [Fl.log] at h
      refine ⟨_, .inr ⟨[], f, [], rfl, by simp [findF, h.1], rfl⟩, ?_⟩
      rw [hall]
      simp [syncLog, h.1, h.2.1]
    · simp at h
theorem stK_app {fs : List Fl} {ks : List (List UInt8)} (h : fs.map Fl.log = stK ks) (x : List UInt8) : ∃ st, AppSt fs 63 (frameB (ks.length : Nat) x) st ∧ syncLog st = stK (ks ++ [x]) := by
  obtain ⟨st, h1, h2⟩ := stK_app0 (all := framesB 0 (ks ++ [x])) h (by rw [framesB_snoc, Nat.zero_add])
  refine ⟨st, h1, ?_⟩
  rw [h2]
  unfold stK
  rw [if_neg (by simp)]
theorem stK_sync (ks : List (List UInt8)) : syncLog (stK ks) = stK ks := by
  unfold stK
  split <;> simp [syncLog]
/-- The state of JournalFull's loop: K is kept of X. -/
structure FullI (W : World) (N5 N6 g mb gl room : Nat) (vX vK : Value) (X K : List Bz) (w : World) : Prop where
  dsk : ∃ fs, DskAt w g mb room false (-1) fs ∧ fs.map Fl.log = stK (bsOf K) ∧ (∀ b, DskF g mb fs b → b < N5 ∨ N6 ≤ b) ∧ (∀ b, DskF g mb fs b → W.heap.size ≤ b) ∧ ¬ DskF g mb fs gl
  log : LogAt w gl g 63 K.length true
  glo : W.heap.size ≤ gl ∧ gl < N5 ∧ N5 ≤ N6
  xs : LsOwn w N5 vX X
  ks : LsOwn w N6 vK K
  xin : ∀ z ∈ X, z.inI N5 N6
  kin : ∀ z ∈ K, z ∈ X
  xrow : ∀ b, vX.ownBlock = some b → b < N6
  n6 : N6 ≤ w.heap.size
  below : Below W.heap.size W w
theorem FullI.all {W : World} {N5 N6 g mb gl room : Nat} {vX vK : Value} {X K : List Bz} {w w' : World} (h : FullI W N5 N6 g mb gl room vX vK X K w) (hb : Below w.heap.size w w') : FullI W N5 N6 g mb gl room vX vK X K w' := by
  obtain ⟨⟨fs, h1, h2⟩, h3, h4, h5, h6, h7, h8, hx, h9, h10⟩ := h
  exact ⟨⟨fs, h1.all hb, h2⟩, Blk.all h3 hb, h4, h5.all hb, h6.all hb, h7, h8, hx, Nat.le_trans h9 hb.size, bt h10 hb⟩
/-- After an Append that was taken. -/
theorem FullI.app {W : World} {N5 N6 g mb gl room : Nat} {vX vK : Value} {X K : List Bz} {w w' : World} {fs : List Fl} {z : Bz} {st : List (Int × List UInt8 × Nat)} (h : FullI W N5 N6 g mb gl room vX vK X K w) (hd : DskAt w g mb room false (-1) fs) (hsep : ∀ b, DskF g mb fs b → b < N5 ∨ N6 ≤ b) (hW : ∀ b, DskF g mb fs b → W.heap.size ≤ b) (hgl : ¬ DskF g mb fs gl)
    (hn : LogNext gl g mb room 63 false (-1) (K.length + 1) true fs st w w') (hst : st = stK (bsOf (K ++ [z]))) :
    (∃ fs', DskAt w' g mb room false (-1) fs' ∧ fs'.map Fl.log = stK (bsOf (K ++ [z])) ∧ (∀ b, DskF g mb fs' b → b < N5 ∨ N6 ≤ b) ∧ (∀ b, DskF g mb fs' b → W.heap.size ≤ b) ∧ ¬ DskF g mb fs' gl) ∧ LogAt w' gl g 63 (K.length + 1) true ∧ LsOwn w' N5 vX X ∧ LsOwn w' N6 vK K ∧ Below W.heap.size W w' ∧ N6 ≤ w'.heap.size := by
  obtain ⟨fs', h1, h2, h3, m, h5⟩ := hn
  have hgT : ¬ Ty w gl 23 := fun ht => absurd (Ty.unique (Blk.ty h.log) ht) (by decide)
  have hT : ∀ b, (DskF g mb fs b ∨ b = gl) → ¬ Ty w b 23 := by
    rintro b (hb | rfl)
    · exact hd.noRow b hb
    · exact hgT
  have hI : ∀ b, N5 ≤ b → b < N6 → ¬ (DskF g mb fs b ∨ b = gl) := by
    rintro b h6 h7 (hb | rfl)
    · rcases hsep b hb with h | h <;> omega
    · have := h.glo.2.1
      omega
  have hw := h.below.size
  refine ⟨⟨fs', h2, by rw [h1, hst], fun b hb => ?_, fun b hb => ?_, fun hb => ?_⟩, h3, h.xs.modT h.xin m hT hI, h.ks.modT (fun z hz => h.xin z (h.kin z hz)) m hT hI, m.below h.below h.below.size (by
    rintro b (hb | rfl)
    · exact hW b hb
    · exact h.glo.1), Nat.le_trans h.n6 m.size⟩
  · rcases h5 b hb with h | h
    · exact hsep b h
    · exact .inr (Nat.le_trans ‹FullI W N5 N6 g mb gl room vX vK X K w›.n6 h)
  · rcases h5 b hb with h | h
    · exact hW b h
    · omega
  · rcases h5 gl hb with h | h'
    · exact hgl h
    · have := Blk.lt ‹FullI W N5 N6 g mb gl room vX vK X K w›.log
      omega
/-- After the record was kept. -/
theorem FullI.kept {W : World} {N5 N6 g mb gl room : Nat} {vX vK vK' : Value} {X K : List Bz} {w w6 w7 : World} {z : Bz} (h : FullI W N5 N6 g mb gl room vX vK X K w) (hz : z ∈ X)
    (hd : ∃ fs', DskAt w6 g mb room false (-1) fs' ∧ fs'.map Fl.log = stK (bsOf (K ++ [z])) ∧ (∀ b, DskF g mb fs' b → b < N5 ∨ N6 ≤ b) ∧ (∀ b, DskF g mb fs' b → W.heap.size ≤ b) ∧ ¬ DskF g mb fs' gl) (hlog : LogAt w6 gl g 63 (K.length + 1) true) (hx : LsOwn w6 N5 vX X) (hk : LsOwn w6 N6 vK K) (hb : Below W.heap.size W w6) (hn : N6 ≤ w6.heap.size)
    (hk' : LsOwn w7 N6 vK' (K ++ [z])) (hg : w6.grownBy w7 vK.ownBlock) : FullI W N5 N6 g mb gl room vX vK' X (K ++ [z]) w7 := by
  obtain ⟨fs', h1, h2, h3, h4, h5⟩ := hd
  have m : Mod (fun b => vK.ownBlock = some b) w6 w7 := Mod.of_grown hg (fun b e => .inl e)
  have hrow : ∀ b, vK.ownBlock = some b → N6 ≤ b ∧ Ty w6 b 23 := fun b e => ⟨(hk.1.lt b e).1, Ty.of_own hk.1 e⟩
  have hW5 : W.heap.size ≤ N6 := by
    have := h.glo
    omega
  refine ⟨⟨fs', h1.mod m (fun b hb e => h1.noRow b hb (hrow b e).2), h2, h3, h4, h5⟩, by rw [List.length_append]; exact m.blk hlog (fun e => absurd (Ty.unique (Blk.ty hlog) (hrow gl e).2) (by decide)), h.glo, ?_, hk', h.xin, ?_, h.xrow, Nat.le_trans hn m.size, m.below hb hb.size (fun b e => by have := (hrow b e).1; omega)⟩
  · exact ⟨m.own hx.1 (fun b e e2 => by have := h.xrow b e; have := (hrow b e2).1; omega), fun y hy => (hx.2 y hy).modI (h.xin y hy) m (fun b _ hb e => by have := (hrow b e).1; omega)⟩
  · intro y hy
    rcases List.mem_append.1 hy with hy | hy
    · exact h.kin y hy
    · simp at hy
      subst hy
      exact hz
end Go.Proofs.Ytldmokjpfnakkaa

/- journal: Open where the end of the file is no frame. -/
namespace Go.Proofs.Ytldmokjpfnakkaa
open Go.RowKit

set_option maxRecDepth 100000 in
set_option maxHeartbeats 2000000 in
theorem open_trunc (g mb room : Nat) (plan : Int) (l1 l2 : List Fl) (f : Fl) (num : Int) (rs : List (List UInt8)) (m : Nat) (w : World) (HD : Hid (DskAt w g mb room false plan (l1 ++ f :: l2))) (HFN : Hid (findF (l1 ++ f :: l2) num = some f)) (h1 : 0 ≤ num) (h2 : num < 64) (HSC : Hid (ScanIs f.bs rs m)) (hm : m < f.bs.length) (HO : Hid (failOff false plan = false)) (HO2 : Hid (failOff false (failPlan plan) = false)) :
    Calls Try.prog 30 #[.pointer (some ⟨g, 0, none⟩), .int .i64 num] w (OpenPost g mb room num (failPlan (failPlan plan)) (l1 ++ f :: l2) rs (syncLog (cutLogs l1 f l2 m)) w) := by
  have hlen : f.bs.length ≤ 16777216 := by
    have h1 := HD.out.room_le
    have h2 := HD.out.used_le
    rw [sumL_append, sumL_cons] at h2
    omega
  have HF := Lib.hid HD.out.ltF
  have HBS : Hid (fileBs (l1 ++ f :: l2) num = f.bs) := Lib.hid (by unfold fileBs; rw [HFN.out]; rfl)
  obtain ⟨fs, hfs⟩ : ∃ fs, l1 ++ f :: l2 = fs := ⟨_, rfl⟩
  rw [hfs] at HD HF HBS ⊢
  have HFS := Lib.hid hfs
  clear hfs
  go_enter Try.func30, Try.ntmps30
  go_wp2_with fail
  refine (readD_any _ _ _ _ _ _ _ HD h1 h2).mono ?_
  rintro e w1 ⟨A1, n1, c1, rfl, hown1, hb1⟩
  rw [HBS.out] at hown1
  have hS1 := Sb.own hown1
  have hD1 := HD.out.all hb1
  have HN1 := Lib.hid hS1.1
  have hn1 : n1 ≤ 16777216 := by rw [← HN1.out]; exact hlen
  clear hown1
  go_wp2_with fail
  refine (scan2_any _ _ _ _ _ (Lib.hid hS1) (by omega)).mono ?_
  rintro e w2 ⟨v2, L2, m2, rfl, hL2, hs2, hb2, hlow2⟩
  obtain ⟨e1, e2⟩ := ScanIs.unique (by omega) hs2 HSC.out
  subst e2
  have hm1 : m2 < n1 := by rw [← HN1.out]; exact hm
  obtain ⟨A2, c2, rfl⟩ := hL2.slice
  have HE1 := Lib.hid e1
  have hD2 := hD1.all hb2
  have hB2 := bt hb1 hb2
  have hll : L2.length = rs.length := by rw [← bsOf_length, e1]
  rw [hll] at hL2 ⊢
  have hrl : rs.length ≤ 16777216 := by
    have h3 := framesB_len rs 0
    have h4 := HSC.out.1
    omega
  have hz1 := hb1.size
  have HLW : Hid (∀ z ∈ L2, z.low w.heap.size) := Lib.hid (fun z hz => (hlow2 z hz).mono hz1)
  have HL2 := Lib.hid (hL2.lower hz1)
  have HIN : Hid (∀ z ∈ L2, z.inI w.heap.size w2.heap.size) := Lib.hid (fun z hz => (hL2.2 z hz).inI (HLW.out z hz))
  clear hs2 e1 hll hL2 hlow2 hb1 hb2 hD1 hS1 hz1
  rw [← HFS.out] at hD2
  go_wp2_with fail
  refine (trunc_any _ _ _ _ _ _ _ _ m2 false _ (Lib.hid hD2) HFN h1 h2 (by omega) HO).mono ?_
  rintro e w3 ⟨rfl, hN3⟩
  replace hN3 : DskNext g mb room false (failPlan plan) (l1 ++ f :: l2) (cutLogs l1 f l2 m2) w2 w3 := hN3
  rw [HFS.out] at hN3 hD2
  obtain ⟨fs3, hst3, hD3, m3, hF3⟩ := hN3
  have hL3 : LsOwn w3 w.heap.size (.slice A2 rs.length c2) L2 := HL2.out.modL HLW.out m3 (fun b hb hf => by have := HF.out b hf; omega) (Nat.le_refl _)
  have M3 : Mod (DskF g mb fs) w w3 := (Mod.of_below (DskF g mb fs) hB2).trans m3 (fun b hb => .inl hb)
  have hz2 := hB2.size
  have HF3 : Hid (∀ b, DskF g mb fs3 b → DskF g mb fs b ∨ w2.heap.size ≤ b) := Lib.hid hF3
  have HT3 : Hid (∀ b, DskF g mb fs3 b → ¬ Ty w3 b 23) := Lib.hid hD3.noRow
  have HST3 := Lib.hid hst3
  have HM3 := Lib.hid M3
  clear hF3 hst3 M3 m3 hB2 hD2
  go_wp2_with fail
  refine (sync_any _ _ _ _ _ _ (Lib.hid hD3)).mono ?_
  rintro e w4 ⟨rfl, fs4, hst4, hD4, m4, hF4⟩
  rw [HO2.out] at hst4 hD4 ⊢
  have hL4 : LsOwn w4 w.heap.size (.slice A2 rs.length c2) L2 := hL3.modT HIN.out m4 HT3.out (fun b hb1 hb2 hf => by
    rcases HF3.out b hf with h | h
    · have := HF.out b h
      omega
    · omega)
  have M4 : Mod (DskF g mb fs) w w4 := HM3.out.trans m4 (fun b hb => (HF3.out b hb).imp id (fun h => by omega))
  have HF4 : Hid (∀ b, DskF g mb fs4 b → DskF g mb fs b ∨ w.heap.size ≤ b) := Lib.hid (fun b hb => by
    rcases hF4 b hb with h | h
    · exact (HF3.out b h).imp id (fun h => by omega)
    · have := HM3.out.size
      exact .inr (by omega))
  have hst : fs4.map Fl.log = syncLog (cutLogs l1 f l2 m2) := by rw [hst4, ← HST3.out]; rfl
  have hb5 := (Below.refl w4.heap.size w4).alloc (Nat.le_refl _) (.cells #[.pointer (some ⟨g, 0, none⟩), .int .i64 num, .int .i64 ((rs.length : Nat) : Int), .bool true] 87)
  have HLG : Hid (LogAt (w4.alloc (.cells #[.pointer (some ⟨g, 0, none⟩), .int .i64 num, .int .i64 ((rs.length : Nat) : Int), .bool true] 87)) w4.heap.size g num rs.length true) := Lib.hid (Blk.new w4 87 _)
  have HFIN : Hid (OpenPost g mb room num (failPlan (failPlan plan)) fs rs (syncLog (cutLogs l1 f l2 m2)) w (.returned (.tuple #[.pointer (some ⟨w4.heap.size, 0, none⟩), .slice A2 rs.length c2, .int .i64 0])) (w4.alloc (.cells #[.pointer (some ⟨g, 0, none⟩), .int .i64 num, .int .i64 ((rs.length : Nat) : Int), .bool true] 87))) := Lib.hid
    ⟨w4.heap.size, _, L2, fs4, rfl, M4.size, HLG.out, hL4.all hb5, HE1.out, HLW.out, hst, hD4.all hb5, M4.then_below hb5, HF4.out, fun h => by have := hD4.ltF _ h; omega⟩
  clear hL4 M4 hb5 hD4 hst4 m4 hF4 hst hL3 hD3 HL2 HLG hz2
  go_wp2
  go_ret3
  exact HFIN.out
end Go.Proofs.Ytldmokjpfnakkaa

/- journal: Append of the log, where the power fails. -/
namespace Go.Proofs.Ytldmokjpfnakkaa
open Go.RowKit

set_option maxRecDepth 100000 in
set_option maxHeartbeats 4000000 in
theorem logAppend_fail1 (gl g mb room : Nat) (num : Int) (len : Nat) (plan : Int) (fs : List Fl) (st : List (Int × List UInt8 × Nat)) (A : Option Addr) (n c : Nat) (bs : List UInt8) (w : World) (HL : Hid (LogAt w gl g num len true)) (HD : Hid (DskAt w g mb room false plan fs)) (hgl : ¬ DskF g mb fs gl) (hn : n ≤ 65536) (HX : Hid (bs.length = n)) (HR : Hid (Rd w w.heap.size A n (vByte bs))) (hlen : len ≤ 1099511627776) (h1 : 0 ≤ num) (h2 : num < 64) (hroom : sumL fs + (frameB (len : Int) bs).length ≤ room)
    (HS : Hid (AppSt fs num (frameB (len : Int) bs) st)) (HO1 : Hid (failOff false plan = true)) :
    Calls Try.prog 32 #[.pointer (some ⟨gl, 0, none⟩), .slice A n c] w fun e w' => e = .returned (.int .i64 23) ∧ LogNext gl g mb room num true (failPlan plan) len false fs st w w' := by
  obtain ⟨l0, l1, l2, l3, -, -⟩ := HL.out.cells
  have hlt := Blk.lt HL.out
  have HF := Lib.hid HD.out.ltF
  have HB := Lib.hid (((Below.refl w.heap.size w).alloc (Nat.le_refl _) (.cells #[.pointer (some ⟨gl, 0, none⟩)] 53)).alloc (by simp) (.cells #[.int .i64 0] 47))
  have HE := Lib.hid (Blk.new (w.alloc (.cells #[.pointer (some ⟨gl, 0, none⟩)] 53)) 47 #[.int .i64 0])
  have HC := Lib.hid (show LCells gl g w.heap.size num len ((w.alloc (.cells #[.pointer (some ⟨gl, 0, none⟩)] 53)).alloc (.cells #[.int .i64 0] 47)) from ⟨Blk.alloc (Blk.new w 53 #[.pointer (some ⟨gl, 0, none⟩)]) _, Blk.alloc (Blk.alloc HL.out _) _⟩)
  rw [World.size_alloc] at HE
  have HRz := Lib.hid (HR.out.all HB.out)
  have HDz := Lib.hid (HD.out.all HB.out)
  have hfl := frameB_len (k := (len : Int)) (bs := bs) ⟨by omega, by omega⟩ (by rw [HX.out]; omega)
  have hfp := frameB_pos (len : Int) bs
  rw [HX.out] at hfl
  have hbl : ¬ DskF g mb fs w.heap.size := fun h => by have := HF.out _ h; omega
  have hel : ¬ DskF g mb fs (w.heap.size + 1) := fun h => by have := HF.out _ h; omega
  have HGL := Lib.hid hgl
  have HBL := Lib.hid hbl
  have HEL := Lib.hid hel
  clear hgl hbl hel
  go_enter_defers Try.func32, Try.ntmps32
  go_wp2
  obtain ⟨k0, k1, k2, k3⟩ := HC.out.keep
  generalize (w.alloc (.cells #[.pointer (some ⟨gl, 0, none⟩)] 53)).alloc (.cells #[.int .i64 0] 47) = wz at *
  clear l0 l1 l2 l3
  have hwz := HB.out.size
  go_region_held3 (fun w' => w'.cell? ⟨w.heap.size, 0, none⟩ = some (.pointer (some ⟨gl, 0, none⟩)) ∧ w'.cell? ⟨gl, 0, none⟩ = some (.pointer (some ⟨g, 0, none⟩)) ∧ w'.cell? ⟨gl, 1, none⟩ = some (.int .i64 num) ∧ w'.cell? ⟨gl, 2, none⟩ = some (.int .i64 (len : Int)))
    (first | exact ⟨k0, k1, k2, k3⟩ | with_reducible exact ((HC.out.all hS5).mod m6 HBL.out HGL.out).keep | with_reducible exact (HC.out.all hS5).keep | with_reducible exact (HC.out.all hS4).keep)
    (first
      | (go_at_call 45; ((with_reducible refine (clone_any _ _ _ bs _ HX HRz.out.drew (by omega)).mono ?_); rintro e w4 ⟨A4, c4, rfl, -, -, -, hr4, hb4⟩; have hS4 := undrewB hb4; clear hb4))
      | (go_at_call 12; revert hr4; intro hr4; ((with_reducible refine (frame_any _ _ _ _ bs _ HX (by omega) (by omega) (by omega) hr4).mono ?_); rintro e w5 ⟨A5, n5, c5, rfl, HN5, hown5, hb5⟩; have hS5 := bt hS4 hb5; have hz4 := hS4.size; clear hb5 hr4))
      | (go_at_call 35; revert hown5; intro hown5; ((with_reducible refine (appendD_any _ _ _ _ _ st _ _ _ _ (frameB (len : Int) bs) true _ (Lib.hid (HDz.out.all hS5)) HS HO1 h1 h2 HN5 (by rw [← HN5.out]; exact hfp) (by rw [← HN5.out]; exact hroom) (Lib.hid (rd_bytes hown5).2.2) (Lib.hid (away_own hown5 (by rw [← HN5.out]; exact hfp) HF.out (by omega)))).mono ?_); rintro e w6 ⟨rfl, fs6, hst6, hD6, m6, hF6⟩)))
  have hC6 := (HC.out.all hS5).mod m6 HBL.out HGL.out
  have hE6 : Blk w6 (w.heap.size + 1) 47 #[.int .i64 0] := m6.blk (Blk.all HE.out hS5) HEL.out
  have M6 : Mod (fun b => DskF g mb fs b ∨ b = gl) w w6 := (Mod.of_below (fun b => DskF g mb fs b ∨ b = gl) (bt HB.out hS5)).trans m6 (fun b hb => .inl (.inl hb))
  have HF6 : Hid (∀ b, DskF g mb fs6 b → DskF g mb fs b ∨ w.heap.size + 2 ≤ b) := Lib.hid (fun b hb => (hF6 b hb).imp id (fun h => by
    have h1 := hS5.size
    have h2 := Blk.lt HE.out
    omega))
  have e0 : w6.cell? ⟨w.heap.size + 1, 0, none⟩ = some (.int .i64 0) := hE6.cell 0
  have e1 : w6.frozen? ⟨w.heap.size + 1, 0, none⟩ = false := hE6.frozen 0
  have hgl6 : ¬ DskF g mb fs6 gl := fun h => (HF6.out _ h).elim HGL.out (by omega)
  have hel6 : ¬ DskF g mb fs6 (w.heap.size + 1) := fun h => (HF6.out _ h).elim HEL.out (by omega)
  have hE9 := Blk.set_ hE6 0 (.int .i64 23)
  have hC9 := hC6.mod ((Mod.refl (fun b => b = w.heap.size + 1) w6).set (p := ⟨w.heap.size + 1, 0, none⟩) (.inl rfl) (.int .i64 23)) (by omega) (by omega)
  have ma : Mod (fun b => b = gl ∨ b = w.heap.size + 1) w6 ((w6.setCell ⟨w.heap.size + 1, 0, none⟩ (.int .i64 23)).setCell ⟨gl, 3, none⟩ (.bool false)) := ((Mod.refl (fun b => b = gl ∨ b = w.heap.size + 1) w6).set (p := ⟨w.heap.size + 1, 0, none⟩) (.inl (.inr rfl)) _).set (p := ⟨gl, 3, none⟩) (.inl (.inl rfl)) _
  have HNX : Hid (LogNext gl g mb room num true (failPlan plan) len false fs st w ((w6.setCell ⟨w.heap.size + 1, 0, none⟩ (.int .i64 23)).setCell ⟨gl, 3, none⟩ (.bool false))) := Lib.hid ⟨fs6, hst6, hD6.mod ma (by
    rintro b hb (rfl | rfl)
    · exact (HF6.out _ hb).elim HGL.out (by omega)
    · exact (HF6.out _ hb).elim HEL.out (by omega)), by simpa [LogAt] using Blk.set_ hC9.log 3 (.bool false), M6.trans ma (by
    rintro b (rfl | rfl)
    · exact .inl (.inr rfl)
    · exact .inr (by omega)), fun b hb => (HF6.out b hb).imp id (fun h => by omega)⟩
  have HC9 := Lib.hid hC9
  have HE9 := Lib.hid hE9
  have HER := Lib.hid (Blk.far (p := ⟨gl, 3, none⟩) hE9 (by simp; omega) (.bool false))
  clear hC6 hE6 M6 hD6 hst6 m6 hF6 hgl6 hel6 hS5 hS4 hown5 hz4 ma hC9 hE9
  go_wp2
  refine leaves_cons (f := 54) (args := #[.pointer (some ⟨w.heap.size + 1, 0, none⟩), .pointer (some ⟨w.heap.size, 0, none⟩)]) (by simp) (by simp [go_sem]) ?_
  obtain ⟨-, -, -, g3, -, g4⟩ := HC9.out.log.cells
  refine (door_yes (w.heap.size + 1) w.heap.size gl .returning _ _ (HE9.out.cell 0) (Blk.cell HC9.out.box 0) g3 g4).mono ?_
  rintro e u' w'' ⟨rfl, rfl, rfl⟩
  have hc := HER.out.cell 0
  simp at hc
  refine ⟨.int .i64 23, ?_, rfl, HNX.out⟩
  simp [results, Try.results32, go_sem, hc]
set_option maxRecDepth 100000 in
set_option maxHeartbeats 4000000 in
theorem logAppend_fail2 (gl g mb room : Nat) (num : Int) (len : Nat) (plan : Int) (fs : List Fl) (st : List (Int × List UInt8 × Nat)) (A : Option Addr) (n c : Nat) (bs : List UInt8) (w : World) (HL : Hid (LogAt w gl g num len true)) (HD : Hid (DskAt w g mb room false plan fs)) (hgl : ¬ DskF g mb fs gl) (hn : n ≤ 65536) (HX : Hid (bs.length = n)) (HR : Hid (Rd w w.heap.size A n (vByte bs))) (hlen : len ≤ 1099511627776) (h1 : 0 ≤ num) (h2 : num < 64) (hroom : sumL fs + (frameB (len : Int) bs).length ≤ room)
    (HS : Hid (AppSt fs num (frameB (len : Int) bs) st)) (HO1 : Hid (failOff false plan = false)) (HO2 : Hid (failOff false (failPlan plan) = true)) :
    Calls Try.prog 32 #[.pointer (some ⟨gl, 0, none⟩), .slice A n c] w fun e w' => e = .returned (.int .i64 23) ∧ LogNext gl g mb room num true (failPlan (failPlan plan)) len false fs st w w' := by
  obtain ⟨l0, l1, l2, l3, -, -⟩ := HL.out.cells
  have hlt := Blk.lt HL.out
  have HF := Lib.hid HD.out.ltF
  have HB := Lib.hid (((Below.refl w.heap.size w).alloc (Nat.le_refl _) (.cells #[.pointer (some ⟨gl, 0, none⟩)] 53)).alloc (by simp) (.cells #[.int .i64 0] 47))
  have HE := Lib.hid (Blk.new (w.alloc (.cells #[.pointer (some ⟨gl, 0, none⟩)] 53)) 47 #[.int .i64 0])
  have HC := Lib.hid (show LCells gl g w.heap.size num len ((w.alloc (.cells #[.pointer (some ⟨gl, 0, none⟩)] 53)).alloc (.cells #[.int .i64 0] 47)) from ⟨Blk.alloc (Blk.new w 53 #[.pointer (some ⟨gl, 0, none⟩)]) _, Blk.alloc (Blk.alloc HL.out _) _⟩)
  rw [World.size_alloc] at HE
  have HRz := Lib.hid (HR.out.all HB.out)
  have HDz := Lib.hid (HD.out.all HB.out)
  have hfl := frameB_len (k := (len : Int)) (bs := bs) ⟨by omega, by omega⟩ (by rw [HX.out]; omega)
  have hfp := frameB_pos (len : Int) bs
  rw [HX.out] at hfl
  have hbl : ¬ DskF g mb fs w.heap.size := fun h => by have := HF.out _ h; omega
  have hel : ¬ DskF g mb fs (w.heap.size + 1) := fun h => by have := HF.out _ h; omega
  have HGL := Lib.hid hgl
  have HBL := Lib.hid hbl
  have HEL := Lib.hid hel
  clear hgl hbl hel
  go_enter_defers Try.func32, Try.ntmps32
  go_wp2
  obtain ⟨k0, k1, k2, k3⟩ := HC.out.keep
  generalize (w.alloc (.cells #[.pointer (some ⟨gl, 0, none⟩)] 53)).alloc (.cells #[.int .i64 0] 47) = wz at *
  clear l0 l1 l2 l3
  have hwz := HB.out.size
  go_region_held3 (fun w' => w'.cell? ⟨w.heap.size, 0, none⟩ = some (.pointer (some ⟨gl, 0, none⟩)) ∧ w'.cell? ⟨gl, 0, none⟩ = some (.pointer (some ⟨g, 0, none⟩)) ∧ w'.cell? ⟨gl, 1, none⟩ = some (.int .i64 num) ∧ w'.cell? ⟨gl, 2, none⟩ = some (.int .i64 (len : Int)))
    (first | exact ⟨k0, k1, k2, k3⟩ | with_reducible exact ((HC.out.all hS5).mod m6 HBL.out HGL.out).keep | with_reducible exact (HC.out.all hS5).keep | with_reducible exact (HC.out.all hS4).keep)
    (first
      | (go_at_call 45; ((with_reducible refine (clone_any _ _ _ bs _ HX HRz.out.drew (by omega)).mono ?_); rintro e w4 ⟨A4, c4, rfl, -, -, -, hr4, hb4⟩; have hS4 := undrewB hb4; clear hb4))
      | (go_at_call 12; revert hr4; intro hr4; ((with_reducible refine (frame_any _ _ _ _ bs _ HX (by omega) (by omega) (by omega) hr4).mono ?_); rintro e w5 ⟨A5, n5, c5, rfl, HN5, hown5, hb5⟩; have hS5 := bt hS4 hb5; have hz4 := hS4.size; clear hb5 hr4))
      | (go_at_call 35; revert hown5; intro hown5; ((with_reducible refine (appendD_any _ _ _ _ _ st _ _ _ _ (frameB (len : Int) bs) false _ (Lib.hid (HDz.out.all hS5)) HS HO1 h1 h2 HN5 (by rw [← HN5.out]; exact hfp) (by rw [← HN5.out]; exact hroom) (Lib.hid (rd_bytes hown5).2.2) (Lib.hid (away_own hown5 (by rw [← HN5.out]; exact hfp) HF.out (by omega)))).mono ?_); rintro e w6 ⟨rfl, fs6, hst6, hD6, m6, hF6⟩)))
  have hC6 := (HC.out.all hS5).mod m6 HBL.out HGL.out
  have hE6 : Blk w6 (w.heap.size + 1) 47 #[.int .i64 0] := m6.blk (Blk.all HE.out hS5) HEL.out
  have M6 : Mod (fun b => DskF g mb fs b ∨ b = gl) w w6 := (Mod.of_below (fun b => DskF g mb fs b ∨ b = gl) (bt HB.out hS5)).trans m6 (fun b hb => .inl (.inl hb))
  have hw5 := (bt HB.out hS5).size
  have HF6 : Hid (∀ b, DskF g mb fs6 b → DskF g mb fs b ∨ w.heap.size + 2 ≤ b) := Lib.hid (fun b hb => (hF6 b hb).imp id (fun h => by
    have h1 := hS5.size
    have h2 := Blk.lt HE.out
    omega))
  obtain ⟨k0, k1, k2, k3⟩ := hC6.keep
  clear hown5 hS4 hS5 m6 hF6 hz4
  go_wp2_with fail
  refine (sync_any _ _ _ _ _ _ (Lib.hid hD6)).mono ?_
  rintro e w7 ⟨rfl, fs7, hst7, hD7, m7, hF7⟩
  rw [HO2.out] at hst7 hD7 ⊢
  have hgl6 : ¬ DskF g mb fs6 gl := fun h => (HF6.out _ h).elim HGL.out (by omega)
  have hbl6 : ¬ DskF g mb fs6 w.heap.size := fun h => (HF6.out _ h).elim HBL.out (by omega)
  have hel6 : ¬ DskF g mb fs6 (w.heap.size + 1) := fun h => (HF6.out _ h).elim HEL.out (by omega)
  have hC7 := hC6.mod m7 hbl6 hgl6
  have hE7 := m7.blk hE6 hel6
  have M7 : Mod (fun b => DskF g mb fs b ∨ b = gl) w w7 := M6.trans m7 (fun b hb => (HF6.out b hb).imp .inl (fun h => by omega))
  have HF7 : Hid (∀ b, DskF g mb fs7 b → DskF g mb fs b ∨ w.heap.size + 2 ≤ b) := Lib.hid (fun b hb => (hF7 b hb).elim (HF6.out b) (fun h => .inr (by
    have := M6.size
    have := Blk.lt hE6
    omega)))
  have hst : fs7.map Fl.log = st := by rw [hst7, ← hst6]; rfl
  have e0 : w7.cell? ⟨w.heap.size + 1, 0, none⟩ = some (.int .i64 0) := hE7.cell 0
  have e1 : w7.frozen? ⟨w.heap.size + 1, 0, none⟩ = false := hE7.frozen 0
  have hE9 := Blk.set_ hE7 0 (.int .i64 23)
  have hC9 := hC7.mod ((Mod.refl (fun b => b = w.heap.size + 1) w7).set (p := ⟨w.heap.size + 1, 0, none⟩) (.inl rfl) (.int .i64 23)) (by omega) (by omega)
  have ma : Mod (fun b => b = gl ∨ b = w.heap.size + 1) w7 ((w7.setCell ⟨w.heap.size + 1, 0, none⟩ (.int .i64 23)).setCell ⟨gl, 3, none⟩ (.bool false)) := ((Mod.refl (fun b => b = gl ∨ b = w.heap.size + 1) w7).set (p := ⟨w.heap.size + 1, 0, none⟩) (.inl (.inr rfl)) _).set (p := ⟨gl, 3, none⟩) (.inl (.inl rfl)) _
  have HNX : Hid (LogNext gl g mb room num true (failPlan (failPlan plan)) len false fs st w ((w7.setCell ⟨w.heap.size + 1, 0, none⟩ (.int .i64 23)).setCell ⟨gl, 3, none⟩ (.bool false))) := Lib.hid ⟨fs7, hst, hD7.mod ma (by
    rintro b hb (rfl | rfl)
    · exact (HF7.out _ hb).elim HGL.out (by omega)
    · exact (HF7.out _ hb).elim HEL.out (by omega)), by simpa [LogAt] using Blk.set_ hC9.log 3 (.bool false), M7.trans ma (by
    rintro b (rfl | rfl)
    · exact .inl (.inr rfl)
    · exact .inr (by omega)), fun b hb => (HF7.out b hb).imp id (fun h => by omega)⟩
  have HC9 := Lib.hid hC9
  have HE9 := Lib.hid hE9
  have HER := Lib.hid (Blk.far (p := ⟨gl, 3, none⟩) hE9 (by simp; omega) (.bool false))
  clear hC6 hE6 M6 hD6 hst6 hD7 m7 hF7 hst7 hC7 hE7 M7 hst ma k0 k1 k2 k3 hgl6 hbl6 hel6 hC9 hE9
  go_wp2
  refine leaves_cons (f := 54) (args := #[.pointer (some ⟨w.heap.size + 1, 0, none⟩), .pointer (some ⟨w.heap.size, 0, none⟩)]) (by simp) (by simp [go_sem]) ?_
  obtain ⟨-, -, -, g3, -, g4⟩ := HC9.out.log.cells
  refine (door_yes (w.heap.size + 1) w.heap.size gl .returning _ _ (HE9.out.cell 0) (Blk.cell HC9.out.box 0) g3 g4).mono ?_
  rintro e u' w'' ⟨rfl, rfl, rfl⟩
  have hc := HER.out.cell 0
  simp at hc
  refine ⟨.int .i64 23, ?_, rfl, HNX.out⟩
  simp [results, Try.results32, go_sem, hc]
end Go.Proofs.Ytldmokjpfnakkaa

/- disk: Files. -/
namespace Go.Proofs.Ytldmokjpfnakkaa
open Go.RowKit Go.Maps Go.Sort Go.Shelf Go.WideElems Go.ChangeShapes Go.WideShapes Go.MapKept

theorem insert_perm {H : Type} (x : Lit × DataW H) (l : List (Lit × DataW H)) : (DataW.insert x l).Perm (x :: l) := by
  induction l with
  | nil => exact List.Perm.refl _
  | cons y r ih =>
    unfold DataW.insert
    split
    · exact List.Perm.refl _
    · exact (ih.cons y).trans (List.Perm.swap x y r)
theorem fold_perm {H : Type} (l : List (Lit × DataW H)) : (l.foldr DataW.insert []).Perm l := by
  induction l with
  | nil => exact List.Perm.refl _
  | cons x l ih => exact (insert_perm x _).trans (ih.cons x)
/-- How a value reads of which nothing is asked. -/
def anyElem (_ : Value) : Option (DataW Unit × List MemPlace) := some (.lit (.bool true), [])
theorem IMap.owns {P : Program} {w : World} {b : Nat} {es : List (Int × Value)} {k : TypeId} (h : IMap w b es) (hk : P.underlying k = some (.int .i64)) (hw : ∀ p ∈ es, -9223372036854775808 ≤ p.1 ∧ p.1 ≤ 9223372036854775807) (hs : es.length ≤ 1000000) :
    ∃ D0 : DataW Unit, w.ownsMap P k anyElem b es.length D0 ∧ (intKeys D0).Perm (es.map Prod.fst) ∧ Maps.size D0 = es.length := by
  obtain ⟨l, c, hb, hl, hn, hbn, hbc⟩ := h
  have hlen : l.length = es.length := by have := congrArg List.length hl; simpa using this
  have hrd : ∀ x ∈ l, ∃ n : Int, (n ∈ es.map Prod.fst) ∧ x.key = .int .i64 n ∧ WideElems.rd P k anyElem x = some (.int .i64 n, .lit (.bool true)) := by
    intro x hx
    have hm : (x.key, x.val) ∈ l.map (fun e => (e.key, e.val)) := List.mem_map.2 ⟨x, hx, rfl⟩
    rw [hl] at hm
    obtain ⟨p, hp, he⟩ := List.mem_map.1 hm
    injection he with he1 he2
    have hq := hw p hp
    have hwf : (Lit.int .i64 p.1).wf = true := by
      simp [Lit.wf, IntKind.min, IntKind.max, IntKind.signed, IntKind.bits]
      omega
    refine ⟨p.1, List.mem_map.2 ⟨p, hp, rfl⟩, he1.symm, ?_⟩
    unfold WideElems.rd
    rw [← he1, keyOf_int_mk hk hwf]
    rfl
  have hkeys : l.map (·.key) = (es.map Prod.fst).map (Value.int .i64) := by
    have := congrArg (List.map Prod.fst) hl
    simpa [List.map_map, Function.comp_def] using this
  refine ⟨.map ((l.map (rg P k anyElem)).foldr DataW.insert []), ⟨l.toArray, c, hb, ⟨by simp [maxLen]; omega, ⟨by simpa using hbc, by simpa using hbn, ?_⟩, ?_⟩, by simp [hlen], by simp⟩, ?_, ?_⟩
  · simp only []
    rw [hkeys]
    exact List.Pairwise.map _ (fun a b (hab : a ≠ b) e => hab (by injection e)) hn
  · intro x hx
    obtain ⟨n, -, -, h⟩ := hrd x (by simpa using hx)
    exact ⟨_, h⟩
  · have h1 : (intKeys (DataW.map ((l.map (rg P k anyElem)).foldr DataW.insert []))).Perm ((l.map (rg P k anyElem)).map fun p => Go.intOf p.1) := (fold_perm _).map _
    refine h1.trans ?_
    have h2 : (l.map (rg P k anyElem)).map (fun p => Go.intOf p.1) = es.map Prod.fst := by
      have h3 : l.map (fun x => RowKit.intOf x.key) = es.map Prod.fst := by
        have := congrArg (List.map RowKit.intOf) hkeys
        simpa [List.map_map, Function.comp_def, RowKit.intOf] using this
      rw [← h3, List.map_map]
      apply List.map_congr_left
      intro x hx
      obtain ⟨n, -, h4, h5⟩ := hrd x hx
      simp only [Function.comp]
      unfold rg
      rw [h5, h4]
      rfl
    rw [h2]
  · rw [Maps.size_eq, (fold_perm _).length_eq, List.length_map, hlen]
/-- slices.Sort's two contracts. -/
theorem sortsA (m : Nat) : AnyZI.SortsIn Try.prog Try.sortedA_ren Fence.wide m :=
  ⟨fun blk off cap ss W hH hblk hsz => callsIn_wide.2 (AnyM.slices_Sort_int Try.sortA blk off cap ss W hH hblk hsz),
   fun p cap W => callsIn_wide.2 (AnyM.slices_Sort_int_none Try.sortA p cap W)⟩
/-- The numbers of the files. -/
def FilesPost (fs : List Fl) (w : World) (e : Ending) (w' : World) : Prop := ∃ (A : Option Addr) (c : Nat) (ns : List Int), e = .returned (.slice A ns.length c) ∧ ns.Perm (fs.map Fl.num) ∧ w'.ownsRow w.heap.size 3 1 (.slice A ns.length c) ns.length (ns.map (Value.int .i64)) ∧ Below w.heap.size w w'
set_option maxHeartbeats 1000000 in
theorem files_any (g mb room : Nat) (off : Bool) (plan : Int) (fs : List Fl) (w : World) (HD : Hid (DskAt w g mb room off plan fs)) (hl : fs.length ≤ 12) (hn : ∀ f ∈ fs, 0 ≤ f.num ∧ f.num < 64) :
    Calls Try.prog 57 #[.pointer (some ⟨g, 0, none⟩)] w (FilesPost fs w) := by
  obtain ⟨-, -, c2, -⟩ := HD.out.dcells
  obtain ⟨D0, hown, hperm, hsz⟩ := IMap.owns HD.out.map Try.underlying3 (fun p hp => by
    obtain ⟨f, hf, rfl⟩ := List.mem_map.1 hp
    have := hn f hf
    exact ⟨by omega, by omega⟩) (by simp; omega)
  rw [List.length_map] at hsz
  have hbl := HD.out.map.lt
  refine (callsIn_wide (n := 6)).1 ?_
  have hseq : SeqGives Fence.wide 2 Try.prog 80 #[.pointer (some ⟨w.heap.size, 0, none⟩)] encZ (fun ss => ss.Perm (intKeys D0)) (Maps.size D0) (w.alloc (.cells #[.map (some mb)] 88)) :=
    AnyZI.keys_gives (ρ := Try.keysA_ren) { Try.keysA with } Fence.wide _ trivial rfl (by omega) w.heap.size mb _ D0 _ (by simp) (by simp) (by
      obtain ⟨es, clock, hb, Ft, hs, hD⟩ := hown
      exact ⟨es, clock, (Below.heap_alloc _ _ mb hbl).trans hb, Ft, hs, hD⟩)
  have cK : ∀ mb W, CallsIn Fence.wide 5 Try.prog 70 #[.map mb] W fun e w' => e = .returned (.func (.func 80) #[] #[.pointer (some ⟨W.heap.size, 0, none⟩)]) ∧ w' = W.alloc (.cells #[.map mb] 88) := fun mb W => AnyZI.keys_in Try.keysA Fence.wide 5 trivial rfl mb W
  have cS := AnyZI.sorted_in Try.sortedA Fence.wide 5 trivial trivial trivial trivial rfl (by omega) (sortsA _) (enters_of Try.func79 (by kernel_rfl) rfl) 80 #[.pointer (some ⟨w.heap.size, 0, none⟩)] trivial (enters_of Try.func80 (by kernel_rfl) rfl) _ _ (by rw [hsz]; unfold maxLen; omega) (by rw [hsz]; omega) _ hseq
  change CallsIn _ _ Try.prog 69 _ _ _ at cS
  have hfK : Fence.wide.fn 70 := trivial
  have hfS : Fence.wide.fn 69 := trivial
  clear hown hbl hsz
  refine callsIn_of_wp Try.func57 rfl trivial ?_ rfl
  simp only [Try.ntmps57, List.size_toArray, List.length_cons, List.length_nil, Nat.reduceAdd, Nat.reduceSub, Array.replicate_succ, Array.replicate_zero, List.push_toArray, List.append_toArray, List.nil_append, List.cons_append]
  gi_wp2_with (first
    | (gi_at_call 70; refine (cK _ _).mono ?_; rintro e w' ⟨rfl, rfl⟩)
    | (gi_at_call 69; refine cS.mono ?_; rintro e w' ⟨v, ss, rfl, hS, hrow, hnil, hb⟩))
  go_ret
  obtain ⟨A, c, rfl⟩ := own_slice hrow
  have hl2 : (ss.mergeSort fun x y => decide (x ≤ y)).length = ss.length := List.length_mergeSort _
  refine ⟨A, c, ss.mergeSort (fun x y => decide (x ≤ y)), by rw [hl2]; rfl, (List.mergeSort_perm _ _).trans ((hS.trans hperm).trans (List.Perm.of_eq (by simp))), ?_, ((Below.refl _ w).alloc (Nat.le_refl _) _).trans (hb.mono (by simp))⟩
  rw [hl2]
  exact ownsRow_base_a hrow (by simp)
end Go.Proofs.Ytldmokjpfnakkaa

/- A law's row out of its walk: the call returns true, and nothing that lay when it began has turned. -/
namespace Go.Proofs.Ytldmokjpfnakkaa
open Go.ChangeShapes Go.WideShapes Go.ChangeAt Go.RowKit

theorem Try.own : ownKnob Try.prog.godebug = none := by kernel_rfl
theorem Try.laidOut : laidOutB Try.prog = true := by kernel_rfl

theorem wf_u8 {n : Int} (h : (Lit.int .u8 n).wf = true) : 0 ≤ n ∧ n ≤ 255 := by simpa [Lit.wf, IntKind.min, IntKind.max, IntKind.signed, IntKind.bits] using h
theorem wf_i64 {n : Int} (h : (Lit.int .i64 n).wf = true) : -9223372036854775808 ≤ n ∧ n ≤ 9223372036854775807 := by simpa [Lit.wf, IntKind.min, IntKind.max, IntKind.signed, IntKind.bits] using h
theorem wf_u64 {n : Int} (h : (Lit.int .u64 n).wf = true) : 0 ≤ n ∧ n ≤ 18446744073709551615 := by simpa [Lit.wf, IntKind.min, IntKind.max, IntKind.signed, IntKind.bits] using h
theorem bytes_wf {n : Nat} {f : Nat → Int} (h : Hid (∀ j, j < n → (Lit.int .u8 (f j)).wf = true)) : ∀ j, j < n → 0 ≤ f j ∧ f j ≤ 255 := fun j hj => wf_u8 (h.out j hj)

theorem byte_of_wf {n : Int} (h : (Lit.int .u8 n).wf = true) : ∃ b : UInt8, n = ((b.toNat : Nat) : Int) := by
  have := wf_u8 h
  exact ⟨UInt8.ofNat n.toNat, by rw [UInt8.toNat_ofNat']; omega⟩
/-- '^' on bytes, under a name that the walk does not open. -/
def xorB (x y : UInt8) : UInt8 := x ^^^ y
theorem xor_u8 (x y : UInt8) : bits BinOp.xor IntKind.u8 ((x.toNat : Nat) : Int) ((y.toNat : Nat) : Int) = (((xorB x y).toNat : Nat) : Int) := by
  unfold xorB
  show IntKind.u8.wrap ((BitVec.ofInt 8 ((x.toNat : Nat) : Int) ^^^ BitVec.ofInt 8 ((y.toNat : Nat) : Int)).toNat : Int) = _
  have e : ∀ z : UInt8, (BitVec.ofInt 8 ((z.toNat : Nat) : Int)).toNat = z.toNat := fun z => by
    rw [BitVec.ofInt_natCast, BitVec.toNat_ofNat]; exact Nat.mod_eq_of_lt z.toNat_lt
  rw [BitVec.toNat_xor, e, e, UInt8.toNat_xor]
  have hx : x.toNat ^^^ y.toNat < 2 ^ 8 := Nat.xor_lt_two_pow x.toNat_lt y.toNat_lt
  simp [IntKind.wrap, IntKind.bits, IntKind.signed]
  omega

section
variable {H : Type} {enc : TypeId × Value → H} {P : Program}

theorem trodAll_stays (hl : laidOutB P = true) {W W' : World} {sp' : Nat → Bool} : ∀ {ts : List TypeId} (_ : ts.all (fun t => P.readableRec t && decide (t < P.types.size)) = true) {vs : List Value} {ds : List (DataW H)} {ps : List MemPlace}
    (_ : DataW.TrodAll enc P W 0 (fun _ => true) true ts vs ds ps) (_ : ∀ p ∈ ps, W.sameAt W' p) (_ : ∀ p ∈ ps, sp' p.block = true), DataW.TrodAll enc P W' 0 sp' true ts vs ds ps
  | [], _, vs, ds, ps, h, _, _ => by
    obtain ⟨rfl, rfl, rfl⟩ := trodAll_nil h
    exact trodAll_mk0
  | t :: ts, hr, vs, ds, ps, h, hs, hp => by
    obtain ⟨v, vs', d, ds', p, q, rfl, rfl, rfl, h1, h2⟩ := trodAll_cons h
    simp only [List.all_cons, Bool.and_eq_true, decide_eq_true_eq] at hr
    exact trodAll_cons_mk (WideElems.Trod_stays hl hr.1.1 hr.1.2 h1 (fun x hx => hs x (by simp [hx])) (fun x hx => hp x (by simp [hx])))
      (trodAll_stays hl hr.2 h2 (fun x hx => hs x (by simp [hx])) (fun x hx => hp x (by simp [hx])))

theorem law_post {f : Func} {s : ChangeSpec} {tb : TypeId} {W W' : World} {args : Array Value} {ds gs : List (DataW H)} {before : List MemPlace} (hl : laidOutB P = true)
    (hr : f.params.toList.all (fun t => P.readableRec t && decide (t < P.types.size)) = true) (hres : f.resultTypes = #[tb]) (hb : P.underlying tb = some .bool) (hv : s.vars = [])
    (hW : DataW.Whole enc P f.params.toList s.vars false W args.toList ds gs before) (hspec : s.fn H ds = { results := [.lit (.bool true)], args := ds }) (hB : Below W.heap.size W W') :
    s.post enc P f false true false false W args (.bool true) W' := by
  have hW' := hW
  obtain ⟨p, q, hA, hV, rfl, hfz, hnd⟩ := hW
  rw [hv] at hV
  obtain ⟨rfl, rfl⟩ := trodVars_none hV
  refine ⟨ds, [], p ++ [], [], p, [], hW', ?_, ?_, ?_, hB.frame _, fun h => by cases h⟩
  · rw [hres, List.append_nil, hspec]
    exact trodAll_mk1 (shut_bool hb true)
  · rw [List.append_nil, hspec]
    exact trodAll_stays hl hr hA (fun x hx => hB.same (by simpa using hW'.lt x (by simp [hx]))) (fun x hx => by simpa using hW'.lt x (by simp [hx]))
  · rw [hv, List.append_nil, hspec]
    rfl

theorem cell_spot {w : World} {a : Addr} {v : Value} (h : w.cell? a = some v) : a.spot = none ∧ a.block < w.heap.size := by
  unfold World.cell? at h
  split at h
  · rename_i c t f hc
    refine ⟨?_, (Array.getElem?_eq_some_iff.1 hc).1⟩
    cases hs : a.spot with
    | none => rfl
    | some x => simp [hs] at h
  · cases h

/-- A slice of integers that came in. -/
theorem open_sl {t e : TypeId} {k : IntKind} {W : World} {v : Value} {d : DataW H} {ps : List MemPlace} {r : Reach} {b0 : Nat} (ht : P.underlying t = some (.slice e)) (he : P.underlying e = some (.int k)) (hc : P.cellsOf e = 1)
    (hval : Value.okWide P W r b0 t v) (h : DataW.Trod enc P W 0 (fun _ => true) true t v d ps) :
    ∃ (A : Option Addr) (n c : Nat) (f : Nat → Int), v = .slice A n c ∧ (A = none → n = 0) ∧ n ≤ c ∧ c ≤ 9223372036854775807 ∧ Rd W W.heap.size A n (fun j => .int k (f j)) ∧ ∀ j, j < n → (Lit.int k (f j)).wf = true := by
  obtain ⟨a0, len, cap, rfl⟩ := okWide_slice ht hval
  obtain ⟨fuel, hf⟩ := h
  rcases open_ints ht he hc hf with ⟨hcs, hx⟩ | ⟨a, len', cap', zs, hcs, _, hl, hm, hz, hx, hcell, hwz⟩
  · simp [Value.cells] at hcs
    obtain ⟨rfl, rfl, rfl⟩ := hcs
    exact ⟨none, 0, 0, fun _ => 0, rfl, fun _ => rfl, by omega, by omega, Rd.nil, fun j hj => absurd hj (by omega)⟩
  · simp [Value.cells] at hcs
    obtain ⟨rfl, rfl, rfl⟩ := hcs
    simp only [if_true] at hz
    refine ⟨some a, len, cap, fun j => zs.getD j 0, rfl, (fun h => by cases h), hl, (by simpa [maxLen] using hm), ?_, ?_⟩
    · intro hn
      have h0 := hcell 0 (by omega)
      have hs := cell_spot h0
      have ea : a.add 0 = a := by simp [Addr.add]
      rw [ea] at hs
      refine ⟨a.block, a.off, ?_, hs.2, fun j hj => ?_⟩
      · cases a; simp_all
      · rw [← hcell j (by omega)]
        congr 1
        unfold Addr.add
        split
        · rename_i h; subst h; cases a; simp_all
        · cases a; simp_all
    · intro j hj
      refine hwz _ ?_
      show zs.getD j 0 ∈ zs
      have : zs.getD j 0 = zs[j]'(by omega) := by simp [List.getD, show j < zs.length by omega]
      rw [this]
      exact List.getElem_mem _
end

end Go.Proofs.Ytldmokjpfnakkaa

/- disk: Arm, invert. -/
namespace Go.Proofs.Ytldmokjpfnakkaa
open Go.RowKit

theorem arm_any (g mb room : Nat) (plan n : Int) (fs : List Fl) (w : World) (HD : Hid (DskAt w g mb room false plan fs)) (hn : n ≤ 4611686018427387904) :
    Calls Try.prog 37 #[.pointer (some ⟨g, 0, none⟩), .int .i64 n] w fun e w' => e = .returned (.tuple #[]) ∧ DskNext g mb room false (max n (-1)) fs (fs.map Fl.log) w w' := by
  obtain ⟨c0, c1, c2, c3, c4, hf⟩ := HD.out.dcells
  have hf4 := hf 4
  have hm := (Mod.refl (fun b => b = g) w).set (p := ⟨g, 4, none⟩) (.inl rfl) (.int .i64 (max n (-1)))
  have hB := Blk.set_ HD.out.blk 4 (.int .i64 (max n (-1)))
  have HF : Hid (DskNext g mb room false (max n (-1)) fs (fs.map Fl.log) w (w.setCell ⟨g, 4, none⟩ (.int .i64 (max n (-1))))) := Lib.hid ⟨fs, rfl, HD.out.cells (off' := false) (plan' := max n (-1)) hm hB (by omega), hm.mono (fun b hb => .inl (.inl hb)), fun b hb => .inl hb⟩
  clear hf hm hB
  go_enter Try.func37, Try.ntmps37
  go_wp2
  go_end0
  exact ⟨rfl, HF.out⟩
/-- A bit of the loose bytes turned. -/
def flipAt (bs : List UInt8) (dur bit : Nat) : List UInt8 := bs.set (dur + bit / 8) (xorB (bs[dur + bit / 8]?.getD 0) (UInt8.ofNat (128 / 2 ^ (bit % 8))))
theorem one_cell {w : World} {base c : Nat} {A : Option Addr} {x : Int} (h : w.ownsRow base 3 1 (.slice A 1 c) 1 ([x].map (Value.int .i64))) : ∃ ga, A = some ⟨ga, 0, none⟩ ∧ base ≤ ga ∧ ga < w.heap.size ∧ w.cell? ⟨ga, 0, none⟩ = some (.int .i64 x) ∧ Ty w ga 3 := by
  obtain ⟨ga, rfl, h1, h2⟩ := own_some h (by decide)
  exact ⟨ga, rfl, h1, h2, (own_int h (j := 0) (by decide)).1, Ty.of_own h rfl⟩
theorem DskAt.flip {w : World} {g mb room : Nat} {off : Bool} {plan : Int} {f : Fl} (h : DskAt w g mb room off plan [f]) (fr cc : Nat) (hrv : f.rv = .slice (some ⟨fr, 0, none⟩) f.bs.length cc) (bit : Nat) :
    DskNext g mb room off plan [f] [(f.num, flipAt f.bs f.dur bit, f.dur)] w (w.setCell ⟨fr, f.dur + bit / 8, none⟩ (.int .u8 (((xorB (f.bs[f.dur + bit / 8]?.getD 0) (UInt8.ofNat (128 / 2 ^ (bit % 8)))).toNat : Nat) : Int))) := by
  have hok := h.ok f (by simp)
  have hown := hok.2.1
  rw [hrv] at hown
  have hset := own_byte_set hown (f.dur + bit / 8) (xorB (f.bs[f.dur + bit / 8]?.getD 0) (UInt8.ofNat (128 / 2 ^ (bit % 8))))
  have hFf : f.F fr := .inr (by rw [hrv]; rfl)
  have hne := h.F_ne (f := f) (by simp) fr hFf
  have hff : f.fb ≠ fr := by
    rintro rfl
    exact own_ne (by decide) hok.1 hok.2.1 (by rw [hrv]; rfl)
  have m := (Mod.refl (fun b => f.F b ∨ b = g) w).set (p := ⟨fr, f.dur + bit / 8, none⟩) (.inl (.inl hFf)) (.int .u8 (((xorB (f.bs[f.dur + bit / 8]?.getD 0) (UInt8.ofNat (128 / 2 ^ (bit % 8)))).toNat : Nat) : Int))
  obtain ⟨r1, r2, r3⟩ := DskAt.upd (l1 := []) (l2 := []) (f' := ⟨f.num, f.fb, f.rv, flipAt f.bs f.dur bit, f.dur⟩) (off' := off) (plan' := plan) h m (by
      have e : sumL ([] ++ (⟨f.num, f.fb, f.rv, flipAt f.bs f.dur bit, f.dur⟩ : Fl) :: []) = sumL [f] := by simp [sumL, flipAt]
      rw [e]
      exact Blk.far h.blk (fun e => hne.1 e.symm) _) rfl rfl ⟨Blk.far hok.1 hff _, by
        unfold flipAt
        rw [List.length_set, hrv]
        exact hset, by
        show f.dur ≤ (flipAt f.bs f.dur bit).length
        unfold flipAt
        rw [List.length_set]
        exact hok.2.2⟩ (.inl rfl) (by simpa [sumL, flipAt] using h.used_le) h.plan_le
  exact ⟨_, rfl, r1, r2, r3⟩
theorem shr_byte : ∀ r : Fin 8, ((((UInt8.ofNat (128 / 2 ^ r.val)).toNat : Nat) : Int)) = 128 / 2 ^ r.val := by decide
set_option maxRecDepth 100000 in
set_option maxHeartbeats 1000000 in
theorem invert_one (g mb room : Nat) (off : Bool) (plan : Int) (f : Fl) (bit : Nat) (bi : Int) (hbi : bi = (bit : Int)) (w : World) (HD : Hid (DskAt w g mb room off plan [f])) (h1 : 0 ≤ f.num) (h2 : f.num < 64) (hb : bit < 8 * (f.bs.length - f.dur)) :
    Calls Try.prog 59 #[.pointer (some ⟨g, 0, none⟩), .int .i64 bi] w fun e w' => e = .returned (.tuple #[]) ∧ DskNext g mb room off plan [f] [(f.num, flipAt f.bs f.dur bit, f.dur)] w w' := by
  subst hbi
  go_enter Try.func59, Try.ntmps59
  go_wp2_with fail
  refine (files_any _ _ _ _ _ _ _ HD (by simp) (fun d hd => by simp at hd; subst hd; exact ⟨h1, h2⟩)).mono ?_
  rintro e w1 ⟨A, c, ns, rfl, hp, hown, hb1⟩
  obtain rfl : ns = [f.num] := List.perm_singleton.1 hp
  obtain ⟨ga, rfl, hga, hga2, k0, hty⟩ := one_cell hown
  have hD1 := HD.out.all hb1
  obtain ⟨c0, c1, c2, c3, c4, -⟩ := hD1.dcells
  have hrm := hD1.room_le
  have hul := hD1.used_le
  have hlk := DskAt.look hD1 f.num
  have hfnd : findF [f] f.num = some f := by simp [findF]
  rw [hfnd] at hlk
  replace hlk : (Instr.lookup 88 (.map (some mb)) (.int .i64 f.num) false).run Try.prog w1 = .ok (.pointer (some ⟨f.fb, 0, none⟩)) w1 := hlk
  obtain ⟨A0, cc, hrv, hne, q0, q1, q2, q3, hlc, hcc, -, -⟩ := DskAt.short (l1 := []) (l2 := []) hD1 0 (Nat.zero_le _)
  have hdl := (hD1.ok f (by simp)).2.2
  have hown := (hD1.ok f (by simp)).2.1
  rw [hrv] at hown
  obtain ⟨fr, rfl, -, hfr2⟩ := own_some hown (by omega)
  have hfl : f.bs.length ≤ sumL [f] := by simp [sumL]
  obtain ⟨hc1, hc2⟩ := own_byte hown (j := f.dur + bit / 8) (by omega)
  have hfin : ∀ k, DskNext g mb room off plan [f] [(f.num, flipAt f.bs f.dur bit, f.dur)] w ((w1.drewN k).setCell ⟨fr, f.dur + bit / 8, none⟩ (.int .u8 (bits BinOp.xor IntKind.u8 (((f.bs[f.dur + bit / 8]?.getD 0).toNat : Nat) : Int) (128 / 2 ^ (bit % 8))))) := by
    intro k
    have hx : bits BinOp.xor IntKind.u8 (((f.bs[f.dur + bit / 8]?.getD 0).toNat : Nat) : Int) (128 / 2 ^ (bit % 8)) = (((xorB (f.bs[f.dur + bit / 8]?.getD 0) (UInt8.ofNat (128 / 2 ^ (bit % 8)))).toNat : Nat) : Int) := by
      rw [← xor_u8]
      congr 1
      exact (shr_byte ⟨bit % 8, Nat.mod_lt _ (by decide)⟩).symm
    rw [hx]
    have hbk : Below w1.heap.size w1 (w1.drewN k) := below_drewN (Below.refl _ _) k
    exact ((hD1.all hbk).flip fr cc hrv bit).from (F := fun _ => False) (Mod.of_below _ (bt hb1 hbk)) (fun _ hf => hf.elim)
  have HFIN := Lib.hid hfin
  clear hfin
  generalize sumL [f] = u at *
  generalize hy : f.bs[f.dur + bit / 8]?.getD 0 = y at *
  clear hy
  clear hfnd hp
  go_wp2
  refine wp_loop_rounds 1 ?_
  rw [rounds_succ]
  go_wp2
  have hw1 := Below.refl w1.heap.size w1
  obtain ⟨n, hn⟩ : ∃ n, f.bs.length = n := ⟨_, rfl⟩
  obtain ⟨du, hdu⟩ : ∃ du, f.dur = du := ⟨_, rfl⟩
  rw [hn] at hlc hdl q0 hfl hb
  rw [hdu] at hdl q1 hc1 hc2 hb
  rw [hdu] at HFIN
  have i1 : IntKind.i64.wrap ((n : Int) - (du : Int)) = (n : Int) - (du : Int) := IntWalk.i64_in _ (by omega)
  have i2 : IntKind.i64.wrap (8 * ((n : Int) - (du : Int))) = 8 * ((n : Int) - (du : Int)) := IntWalk.i64_in _ (by omega)
  have HDU := Lib.hid hdu
  clear hn hdu hrv hown hb1
  go_quiet (fail)
  clear i1 i2
  have b1 : (bit : Int) < 8 * ((n : Int) - (du : Int)) := by omega
  go_wp2
  have b2 : (bit : Int) / 8 < (n : Int) - (du : Int) := by omega
  have i3 : IntKind.i64.wrap ((du : Int) + (bit : Int) / 8) = (du : Int) + (bit : Int) / 8 := IntWalk.i64_in _ (by omega)
  go_region
  clear i3
  go_wp2
  refine bodyPost_ret (results_none rfl _ _ _) rfl ?_
  rw [HDU.out]
  exact ⟨rfl, HFIN.out _⟩
end Go.Proofs.Ytldmokjpfnakkaa

/- disk: Crash. -/
namespace Go.Proofs.Ytldmokjpfnakkaa
open Go.RowKit

/-- How many loose bytes survive in the first file. -/
def keptB (K : List Int) (len dur : Nat) : Nat := match K with
  | [] => 0
  | k :: _ => (max 0 (min k ((len : Int) - (dur : Int)))).toNat
theorem keptB_le (K : List Int) (len dur : Nat) : keptB K len dur ≤ len - dur := by
  unfold keptB
  split <;> omega
/-- What Crash makes of the files: st1 behind the cuts (kp loose bytes are left), st2 behind the bit. -/
def CrashTo (fs : List Fl) (K : List Int) (flip : Int) (kp : Nat) (st1 st2 : List (Int × List UInt8 × Nat)) : Prop :=
  (fs = [] ∧ kp = 0 ∧ st1 = [] ∧ st2 = []) ∨
  (∃ f, fs = [f] ∧ kp = keptB K f.bs.length f.dur ∧ st1 = (if f.dur + kp = 0 then [] else [(f.num, f.bs.take (f.dur + kp), f.dur)]) ∧ st2 = (if 0 ≤ flip ∧ 0 < kp then [(f.num, flipAt (f.bs.take (f.dur + kp)) f.dur (flip % (8 * (kp : Int))).toNat, f.dur)] else st1)) ∨
  ((∀ f ∈ fs, f.dur = f.bs.length) ∧ (∀ f ∈ fs, 0 < f.bs.length) ∧ K = [] ∧ flip < 0 ∧ kp = 0 ∧ st1 = fs.map Fl.log ∧ st2 = st1)
theorem cutLogs_one (f : Fl) (kp : Nat) : cutLogs [] f [] (f.dur + kp) = if f.dur + kp = 0 then [] else [(f.num, f.bs.take (f.dur + kp), f.dur)] := by
  unfold cutLogs
  rw [Nat.min_eq_left (Nat.le_add_right _ _)]
  rfl
theorem clean_find {fs fs' : List Fl} (h : fs'.map Fl.log = fs.map Fl.log) (h1 : ∀ f ∈ fs, f.dur = f.bs.length) (h2 : ∀ f ∈ fs, 0 < f.bs.length) {num : Int} (hm : num ∈ fs.map Fl.num) : ∃ l1 f l2, fs' = l1 ++ f :: l2 ∧ findF (l1 ++ f :: l2) num = some f ∧ f.dur = f.bs.length ∧ cutLogs l1 f l2 f.bs.length = fs.map Fl.log := by
  have hn : fs'.map Fl.num = fs.map Fl.num := by
    have := congrArg (List.map fun p : Int × List UInt8 × Nat => p.1) h
    simpa [List.map_map, Function.comp_def, Fl.log] using this
  rw [← hn] at hm
  obtain ⟨d, hd, rfl⟩ := List.mem_map.1 hm
  obtain ⟨f, hf⟩ : ∃ f, findF fs' d.num = some f := by
    cases hq : findF fs' d.num with
    | some f => exact ⟨f, rfl⟩
    | none =>
      unfold findF at hq
      rw [List.find?_eq_none] at hq
      exact absurd (hq d hd) (by simp)
  obtain ⟨l1, l2, rfl, -⟩ := findF_split hf
  have hfm : f.log ∈ fs.map Fl.log := by rw [← h]; exact List.mem_map.2 ⟨f, by simp, rfl⟩
  obtain ⟨y, hy, he⟩ := List.mem_map.1 hfm
  unfold Fl.log at he
  injection he with e1 e2
  injection e2 with e2 e3
  have hd1 := h1 y hy
  have hd2 := h2 y hy
  rw [e2, e3] at hd1
  rw [e2] at hd2
  refine ⟨l1, f, l2, rfl, hf, hd1, ?_⟩
  unfold cutLogs
  rw [if_neg (by omega), List.take_length, hd1, Nat.min_self, ← h]
  simp [Fl.log, hd1]
theorem DskAt.noT {w : World} {g mb room : Nat} {off : Bool} {plan : Int} {fs : List Fl} (h : DskAt w g mb room off plan fs) {t : TypeId} (h1 : t ≠ 90) (h2 : t ≠ 94) (h3 : t ≠ 5) : ∀ b, DskF g mb fs b → ¬ Ty w b t := by
  rintro b (rfl | rfl | ⟨f, hf, (rfl | e)⟩) ht
  · exact h1 (Ty.unique h.blk.ty ht).symm
  · exact h.map.not_ty ht
  · exact h2 (Ty.unique (h.ok f hf).1.ty ht).symm
  · exact h3 (Ty.unique (Ty.of_own (h.ok f hf).2.1 e) ht).symm
set_option maxRecDepth 100000 in
set_option maxHeartbeats 4000000 in
theorem crash_any (g mb room : Nat) (off : Bool) (plan : Int) (fs : List Fl) (A : Option Addr) (n c : Nat) (K : List Int) (flip : Int) (kp : Nat) (st1 st2 : List (Int × List UInt8 × Nat)) (w : World) (HD : Hid (DskAt w g mb room off plan fs)) (hl : fs.length ≤ 12) (HN : Hid (∀ f ∈ fs, 0 ≤ f.num ∧ f.num < 64)) (HKL : Hid (K.length = n)) (HR : Hid (Rd w w.heap.size A n (vInt K))) (HW : Hid (∀ k ∈ K, -9223372036854775808 ≤ k ∧ k ≤ 9223372036854775807)) (hnc : n ≤ 1000000) (hf1 : -9223372036854775808 ≤ flip) (hf2 : flip ≤ 9223372036854775807) (HT : Hid (CrashTo fs K flip kp st1 st2)) :
    Calls Try.prog 36 #[.pointer (some ⟨g, 0, none⟩), .slice A n c, .int .i64 flip] w fun e w' => e = .returned (.tuple #[]) ∧ DskNext g mb room false (-1) fs (syncLog st2) w w' := by
  go_enter Try.func36, Try.ntmps36
  go_wp2_with fail
  refine (files_any _ _ _ _ _ _ _ HD hl HN.out).mono ?_
  rintro e w1 ⟨An, cn, ns, rfl, hp, hown, hb1⟩
  have HP := Lib.hid hp
  have HD1 := Lib.hid (HD.out.all hb1)
  have HB1 := Lib.hid hb1
  have HO1 := Lib.hid hown
  have HR1 := Lib.hid (HR.out.all hb1)
  obtain ⟨nn, hnn⟩ : ∃ nn, ns.length = nn := ⟨_, rfl⟩
  rw [hnn]
  have HNN := Lib.hid hnn
  have hn12 : nn ≤ 12 := by have := hp.length_eq; rw [List.length_map] at this; omega
  clear hp hb1 hown hnn HR
  go_upto_block 0 with fail
  go_cut [6] (fun v wx => v = .int .i64 (kp : Int) ∧ Hid (DskNext g mb room off plan fs st1 w wx))
  case first =>
    rcases HT.out with ⟨rfl, rfl, rfl, rfl⟩ | ⟨f, rfl, hkp, rfl, rfl⟩ | ⟨h1, h2, rfl, h4, rfl, rfl, rfl⟩
    · have h0 : ns = [] := List.perm_nil.1 HP.out
      obtain rfl : nn = 0 := by rw [← HNN.out, h0]; rfl
      go_wp2
      refine wp_loop_rounds 1 ?_
      rw [rounds_succ]
      go_wp2
      go_meet
      exact ⟨rfl, Lib.hid ⟨[], rfl, HD1.out, Mod.of_below _ HB1.out, fun b hb => .inl hb⟩⟩
    · obtain rfl : ns = [f.num] := List.perm_singleton.1 HP.out
      obtain rfl : nn = 1 := by rw [← HNN.out]; rfl
      obtain ⟨ga, rfl, hga, hga2, k0, -⟩ := one_cell HO1.out
      obtain ⟨c0, c1, c2, c3, c4, -⟩ := HD1.out.dcells
      have hrm := HD1.out.room_le
      have hul := HD1.out.used_le
      have hlk := DskAt.look HD1.out f.num
      have HFN : Hid (findF ([] ++ f :: []) f.num = some f) := Lib.hid (by simp [findF])
      rw [show findF [f] f.num = some f from HFN.out] at hlk
      replace hlk : (Instr.lookup 88 (.map (some mb)) (.int .i64 f.num) false).run Try.prog w1 = .ok (.pointer (some ⟨f.fb, 0, none⟩)) w1 := hlk
      obtain ⟨A0, cc, -, -, q0, q1, -, -, hlc, hcc, -, -⟩ := DskAt.short (l1 := []) (l2 := []) HD1.out 0 (Nat.zero_le _)
      have hdl := (HD1.out.ok f (by simp)).2.2
      have hkl := keptB_le K f.bs.length f.dur
      rw [← hkp] at hkl
      have hfl : f.bs.length ≤ sumL [f] := by simp [sumL]
      have hsz : f.dur + kp ≤ f.bs.length := by omega
      obtain ⟨u, hu⟩ : ∃ u, sumL [f] = u := ⟨_, rfl⟩
      obtain ⟨m, hm⟩ : ∃ m, f.bs.length = m := ⟨_, rfl⟩
      obtain ⟨du, hdu⟩ : ∃ du, f.dur = du := ⟨_, rfl⟩
      rw [hu] at c1 hul hfl
      rw [hm] at hdl hkl hlc q0 hfl hkp
      rw [hdu] at hdl hkl q1 hkp
      have HSZ := Lib.hid hsz
      have HDU := Lib.hid hdu
      have HKP := Lib.hid hkp
      clear hu hm hdu hsz hkp
      have i1 : IntKind.i64.wrap ((m : Int) - (du : Int)) = (m : Int) - (du : Int) := IntWalk.i64_in _ (by omega)
      go_wp2
      refine wp_loop_rounds 2 ?_
      rw [rounds_succ]
      rcases K with _ | ⟨kk, K⟩
      · obtain rfl : n = 0 := by rw [← HKL.out]; rfl
        obtain rfl : kp = 0 := HKP.out
        go_wp2_with fail
        refine (cut_any _ _ _ _ _ [] [] f _ f.dur _ (by rw [HDU.out]) _ HD1 HFN HSZ.out).mono ?_
        rintro e w3 ⟨rfl, hN3⟩
        have HN3 : Hid (DskNext g mb room off plan [f] (if f.dur + 0 = 0 then [] else [(f.num, f.bs.take (f.dur + 0), f.dur)]) w w3) := Lib.hid (by
          rw [← cutLogs_one f 0]
          exact hN3.from (F := fun _ => False) (Mod.of_below _ HB1.out) (fun _ hf => hf.elim))
        clear hN3 hlk q0 q1 k0 c0 c1 c2 c3 c4
        go_wp2_with fail
        rw [rounds_succ]
        go_wp2
        go_meet
        exact ⟨rfl, HN3⟩
      · have hn0 : 0 < n := by rw [← HKL.out]; simp
        obtain ⟨bA, oA, rfl, -, hkc⟩ := HR1.out.at_ hn0
        replace hkc : w1.cell? ⟨bA, oA, none⟩ = some (.int .i64 kk) := hkc
        have hmx : max 0 (min kk ((m : Int) - (du : Int))) = (kp : Int) := by
          have := HKP.out
          simp only [keptB] at this
          omega
        go_wp2_with fail
        go_quiet (fail)
        clear i1 hmx
        have HDw := Lib.hid (HD1.out.all (below_drewN (Below.refl _ w1) nq))
        have HBw := Lib.hid (bt HB1.out (below_drewN (Below.refl _ w1) nq))
        have i2 : IntKind.i64.wrap ((du : Int) + (kp : Int)) = (du : Int) + (kp : Int) := IntWalk.i64_in _ (by omega)
        go_wp2_with fail
        refine (cut_any _ _ _ _ _ [] [] f _ (f.dur + kp) _ (by rw [HDU.out]; omega) _ HDw HFN HSZ.out).mono ?_
        rintro e w3 ⟨rfl, hN3⟩
        have HN3 := Lib.hid (hN3.from (F := fun _ => False) (Mod.of_below _ HBw.out) (fun _ hf => hf.elim))
        rw [cutLogs_one] at HN3
        clear hN3 hlk q0 q1 k0 c0 c1 c2 c3 c4 hkc i2
        go_wp2_with fail
        rw [rounds_succ]
        go_wp2
        go_meet
        exact ⟨rfl, HN3⟩
    · obtain rfl : n = 0 := by rw [← HKL.out]; rfl
      have HC1 := Lib.hid h1
      have HC2 := Lib.hid h2
      clear h1 h2
      have HST : Hid (DskNext g mb room off plan fs (fs.map Fl.log) w w1) := Lib.hid ⟨fs, rfl, HD1.out, Mod.of_below _ HB1.out, fun b hb => .inl hb⟩
      have HOW : Hid (w1.ownsRow w.heap.size 3 1 (.slice An nn cn) nn (ns.map (Value.int .i64))) := Lib.hid (by rw [← HNN.out]; exact HO1.out)
      go_wp2
      go_loopw [6, 16] (fun v6 v16 wr => ∃ k : Nat, k ≤ nn ∧ v6 = .int .i64 0 ∧ v16 = .int .i64 (k : Int) ∧ Hid (DskNext g mb room off plan fs (fs.map Fl.log) w wr) ∧ Hid (wr.ownsRow w.heap.size 3 1 (.slice An nn cn) nn (ns.map (Value.int .i64)))) (fun _ v16 wr => nn - (intOf v16).toNat)
      case atStart => exact ⟨0, Nat.zero_le _, rfl, rfl, HST, HOW⟩
      case round =>
        obtain ⟨k, hk, rfl, rfl, HS, HO⟩ := hrel
        by_cases hlt : k < nn
        · obtain ⟨ga, rfl, hga, hga2⟩ := own_some HO.out (by omega)
          have hkc := (own_int HO.out hlt).1
          have hkm : ns[k]?.getD 0 ∈ ns := by
            rw [List.getElem?_eq_getElem (by rw [HNN.out]; exact hlt)]
            exact List.getElem_mem _
          obtain ⟨num, hnum⟩ : ∃ num, ns[k]?.getD 0 = num := ⟨_, rfl⟩
          rw [hnum] at hkc hkm
          obtain ⟨fs', hlg, hD, hM, hF⟩ := HS.out
          obtain ⟨l1, f, l2, rfl, hfnd, hfd, hcut⟩ := clean_find hlg HC1.out HC2.out (HP.out.subset hkm)
          obtain ⟨c0, c1, c2, c3, c4, -⟩ := hD.dcells
          have hlk := DskAt.look hD num
          rw [hfnd] at hlk
          replace hlk : (Instr.lookup 88 (.map (some mb)) (.int .i64 num) false).run Try.prog wr = .ok (.pointer (some ⟨f.fb, 0, none⟩)) wr := hlk
          obtain ⟨A0, cc, -, -, q0, q1, -, -, hlc, hcc, -, -⟩ := hD.short 0 (Nat.zero_le _)
          have HFN := Lib.hid hfnd
          have HCU := Lib.hid hcut
          have HMF := Lib.hid (And.intro hM hF)
          have HDr := Lib.hid hD
          have HNT := Lib.hid (hD.noT (t := 3) (by decide) (by decide) (by decide))
          have HFD := Lib.hid hfd
          obtain ⟨du, hdu⟩ : ∃ du, f.dur = du := ⟨_, rfl⟩
          rw [hdu] at q1
          have HDU := Lib.hid hdu
          have hlc2 : f.bs.length ≤ 9223372036854775807 := Nat.le_trans hlc hcc
          have hdl : du ≤ 9223372036854775807 := by rw [← hdu, hfd]; exact hlc2
          clear hfnd hcut hM hF hD hfd hdu hlg hnum hlc2 hkm hlc hcc
          go_wp2_with fail
          refine (cut_any _ _ _ _ _ l1 l2 f _ f.bs.length _ (by rw [← HFD.out, HDU.out]) _ HDr HFN (Nat.le_refl _)).mono ?_
          rintro e w3 ⟨rfl, hN3⟩
          rw [HCU.out] at hN3
          obtain ⟨fs3, g1, g2, g3, g4⟩ := hN3
          have HS3 : Hid (DskNext g mb room off plan fs (fs.map Fl.log) w w3) := Lib.hid (DskNext.from2 ⟨fs3, g1, g2, g3, g4⟩ HMF.out.1 HMF.out.2)
          have HO3 := Lib.hid (g3.own HO.out (fun b e hb => HNT.out b hb (Ty.of_own HO.out e)))
          clear g1 g2 g3 g4 hlk q0 q1 c0 c1 c2 c3 c4 hkc
          go_wp2_with fail
          go_roundw
          case rel => exact ⟨k + 1, by omega, rfl, by go_num, HS3, HO3⟩
          case measure => simp [intOf]; omega
        · obtain rfl : k = nn := by omega
          go_wp2
          go_meet
          exact ⟨rfl, HS⟩
  case rest =>
    obtain ⟨rfl, HS1⟩ := hcut
    have hkp0 : (0 : Int) ≤ (kp : Int) := by omega
    go_upto_region 11 with fail
    go_cut [65] (fun v wx => v = .bool (decide (0 ≤ flip ∧ 0 < kp)) ∧ wx = wc)
    case first =>
      by_cases hfl : 0 ≤ flip
      · by_cases hkp : 0 < kp
        · have HD1 := Lib.hid (show decide (0 ≤ flip ∧ 0 < kp) = true by simp [hfl, hkp])
          have hk : (0 : Int) < (kp : Int) := by omega
          go_wp2
          go_meet
          exact ⟨by rw [HD1.out], rfl⟩
        · have HD1 := Lib.hid (show decide (0 ≤ flip ∧ 0 < kp) = false by simp [hkp])
          go_wp2
          go_meet
          exact ⟨by rw [HD1.out], rfl⟩
      · have HD1 := Lib.hid (show decide (0 ≤ flip ∧ 0 < kp) = false by simp [hfl])
        have hf3 : decide (0 ≤ flip) = false := by simpa using hfl
        go_wp2
        go_meet
        exact ⟨by rw [HD1.out], rfl⟩
    case rest =>
      obtain ⟨rfl, rfl⟩ := hcut
      go_upto_if 65 with fail
      go_cut [6] (fun _ wx => Hid (DskNext g mb room off plan fs st2 w wx))
      case first =>
        by_cases hb : 0 ≤ flip ∧ 0 < kp
        · have hdb : decide (0 ≤ flip ∧ 0 < kp) = true := by rw [decide_eq_true_iff]; exact hb
          rw [hdb]
          rcases HT.out with ⟨rfl, rfl, rfl, rfl⟩ | ⟨f, rfl, hkp, rfl, rfl⟩ | ⟨h1, h2, rfl, h4, rfl, rfl, rfl⟩
          · exact absurd hb.2 (by omega)
          · have hkl := keptB_le K f.bs.length f.dur
            rw [← hkp] at hkl
            have hdl := (HD1.out.ok f (by simp)).2.2
            have h0 : ¬ f.dur + kp = 0 := by omega
            rw [if_neg h0] at HS1
            obtain ⟨fs1, hlg, hD, hM, hF⟩ := HS1.out
            rcases fs1 with _ | ⟨f1, _ | ⟨f2, fs1⟩⟩
            · simp at hlg
            rotate_left
            · simp at hlg
            obtain ⟨e1, e2, e3⟩ : f1.num = f.num ∧ f1.bs = f.bs.take (f.dur + kp) ∧ f1.dur = f.dur := by simpa [Fl.log] using hlg
            have hnum := HN.out f (by simp)
            rw [← e1] at hnum
            obtain ⟨hnum1, hnum2⟩ := hnum
            have hml : 0 < 8 * (kp : Int) := by omega
            have hm0 : 0 ≤ flip % (8 * (kp : Int)) := Int.emod_nonneg _ (by omega)
            have hm1 : flip % (8 * (kp : Int)) < 8 * (kp : Int) := Int.emod_lt_of_pos _ hml
            obtain ⟨bit, hbit⟩ : ∃ bit : Nat, (flip % (8 * (kp : Int))).toNat = bit := ⟨_, rfl⟩
            have HBI : Hid (flip % (8 * (kp : Int)) = (bit : Int)) := Lib.hid (by omega)
            have HBT := Lib.hid hbit
            have hbb : bit < 8 * (f1.bs.length - f1.dur) := by
              rw [e2, e3, List.length_take]
              omega
            have hkb : kp ≤ 16777216 := by
              have := HD1.out.room_le
              have := HD1.out.used_le
              have : f.bs.length ≤ sumL [f] := by simp [sumL]
              omega
            have HDr := Lib.hid hD
            have HMF := Lib.hid (And.intro hM hF)
            have HE := Lib.hid (And.intro e1 (And.intro e2 e3))
            have i1 : IntKind.i64.wrap (8 * (kp : Int)) = 8 * (kp : Int) := IntWalk.i64_in _ (by omega)
            obtain ⟨hf0, hkp1⟩ := hb
            clear hD hM hF hlg e1 e2 e3 hkl hdl h0 hm0 hm1 hbit hdb hkp
            go_wp2_with fail
            refine (invert_one _ _ _ _ _ f1 bit _ HBI.out _ HDr hnum1 hnum2 hbb).mono ?_
            rintro e w2 ⟨rfl, hN2⟩
            have HN2 := Lib.hid (hN2.from2 HMF.out.1 HMF.out.2)
            rw [HE.out.1, HE.out.2.1, HE.out.2.2] at HN2
            clear hN2
            go_wp2
            go_meet
            rw [if_pos ⟨hf0, hkp1⟩, HBT.out]
            exact HN2
          · exact absurd hb.2 (by omega)
        · have hdb : decide (0 ≤ flip ∧ 0 < kp) = false := by rw [decide_eq_false_iff_not]; exact hb
          rw [hdb]
          have HNB := Lib.hid hb
          clear hb hdb
          go_wp2
          go_meet
          rcases HT.out with ⟨rfl, rfl, rfl, rfl⟩ | ⟨f, rfl, hkp, rfl, rfl⟩ | ⟨h1, h2, rfl, h4, rfl, rfl, rfl⟩
          · exact HS1
          · rw [if_neg HNB.out]
            exact HS1
          · exact HS1
      case rest =>
        obtain ⟨fs2, hlg, hD2, hM2, hF2⟩ := hcut.out
        have HLG := Lib.hid hlg
        obtain ⟨d0, d1, d2, d3, d4, -⟩ := hD2.dcells
        obtain ⟨w3, hrg, hi3, hb3⟩ := IMap.iter (P := Try.prog) hD2.map Try.underlying88
        obtain ⟨r, hr⟩ : ∃ r, wc.heap.size = r := ⟨_, rfl⟩
        have hrw : w.heap.size ≤ r := by rw [← hr]; exact hM2.size
        have HD3 : Hid (DskAt w3 g mb room off plan (fs2.map (syncF fun _ => true))) := Lib.hid (by
          have : fs2.map (syncF fun _ => true) = fs2 := by
            conv => rhs; rw [← List.map_id fs2]
            exact List.map_congr_left (fun f _ => syncF_all f)
          rw [this]
          exact hD2.all hb3)
        have HM3 : Hid (Mod (DskF g mb fs) w w3) := Lib.hid (hM2.then_below hb3)
        have HF3 : Hid (∀ b, DskF g mb fs2 b → DskF g mb fs b ∨ w.heap.size ≤ b) := Lib.hid hF2
        rw [hr] at hrg hi3
        have HI3 := Lib.hid hi3
        clear hlg hD2 hM2 hF2 hb3 hr hi3 hcut HS1
        go_wp2
        go_loopw [12] (fun _ wr => ∃ left, Hid (IIter wr mb r (fs2.map fun f => (f.num, f.ptr)) left) ∧ Hid (DskAt wr g mb room off plan (fs2.map (syncF left))) ∧ Hid (Mod (DskF g mb fs) w wr)) (fun _ wr => iterLeft wr mb r)
        case atStart => exact ⟨_, HI3, HD3, HM3⟩
        case round =>
          obtain ⟨left, HI, HDr, HMr⟩ := hrel
          rcases HI.out.next (P := Try.prog) with ⟨hno, hnx⟩ | ⟨k, v, w', hkv, hlk, hnx, hen, hI', hg', -, hlt⟩
          · have HNO := Lib.hid (show ∀ f ∈ fs2, left f.num = false from fun f hf => hno (f.num, f.ptr) (List.mem_map.2 ⟨f, hf, rfl⟩))
            clear hno
            obtain ⟨e0, e1, e2, e3, e4, hfz⟩ := HDr.out.dcells
            have hfz3 := hfz 3
            have hfz4 := hfz 4
            clear hfz
            have ma := ((Mod.refl (fun b => b = g) wr).set (p := ⟨g, 3, none⟩) (.inl rfl) (.bool false)).set (p := ⟨g, 4, none⟩) (.inl rfl) (.int .i64 (-1))
            have hBa := Blk.set_ (Blk.set_ HDr.out.blk 3 (.bool false)) 4 (.int .i64 (-1))
            have HFIN : Hid (DskNext g mb room false (-1) fs (syncLog st2) w ((wr.setCell ⟨g, 3, none⟩ (.bool false)).setCell ⟨g, 4, none⟩ (.int .i64 (-1)))) := Lib.hid
              ⟨fs2.map (syncF left), by rw [syncF_done HNO.out, HLG.out], HDr.out.cells (off' := false) (plan' := -1) ma hBa (by omega), HMr.out.trans ma (fun b hb => .inl (.inl hb)), fun b hb => HF3.out b ((DskF_sync _ _ _ _ _).1 hb)⟩
            clear ma hBa
            go_wp2
            go_end0
            exact ⟨rfl, HFIN.out⟩
          · obtain ⟨f, hf, he⟩ := List.mem_map.1 hkv
            injection he with he1 he2
            subst he1 he2
            have hnr := HDr.out.not_iter HI.out
            have hD' := HDr.out.mod (Mod.of_grown (F := fun b => b = r) hg' (fun b e => .inl (by injection e with e; exact e.symm))) (fun b hb e => hnr b hb e)
            obtain ⟨A, c, hrv, q1, q2, q3, hD'', m''⟩ := hD'.syncOne hf hlk
            have HD'' := Lib.hid hD''
            have hfr : f.fb ≠ r := hnr _ ((DskF_sync _ _ _ _ _).2 (.inr (.inr ⟨f, hf, .inl rfl⟩)))
            have hfm : f.fb ≠ mb := by
              have := (HDr.out.F_ne (f := syncF left f) (List.mem_map.2 ⟨f, hf, rfl⟩) f.fb (by unfold Fl.F; rw [syncF_fb]; exact .inl rfl)).2
              exact this
            have HI'' := Lib.hid (hI'.mod m'' (fun e => hfm e.symm) (fun e => hfr e.symm))
            have HM'' : Hid (Mod (DskF g mb fs) w (w'.setCell ⟨f.fb, 1, none⟩ (.int .i64 (f.bs.length : Int)))) := Lib.hid ((HMr.out.then_grown hg' (fun b e => .inr (by injection e with e; omega))).trans m'' (fun b hb => by
              rcases HF3.out b (.inr (.inr ⟨f, hf, .inl hb⟩)) with h | h
              · exact .inl h
              · exact .inr h))
            have HLT : Hid (iterLeft (w'.setCell ⟨f.fb, 1, none⟩ (.int .i64 (f.bs.length : Int))) mb r < iterLeft wr mb r) := Lib.hid (by
              have e : iterLeft (w'.setCell ⟨f.fb, 1, none⟩ (.int .i64 (f.bs.length : Int))) mb r = iterLeft w' mb r := by
                unfold iterLeft
                rw [Below.heap_setCell w' ⟨f.fb, 1, none⟩ _ mb (fun e => hfm e.symm), Below.heap_setCell w' ⟨f.fb, 1, none⟩ _ r (fun e => hfr e.symm)]
              rw [e]
              exact hlt)
            replace hnx : ∀ ty, (Instr.next (.pointer (some ⟨r, 0, none⟩)) false ty).run Try.prog wr = .ok (.tuple #[.bool true, .int .i64 f.num, .pointer (some ⟨f.fb, 0, none⟩)]) w' := hnx
            replace hen : (Instr.entry (.pointer (some ⟨r, 0, none⟩))).run Try.prog w' = .ok (.tuple #[.int .i64 f.num, .pointer (some ⟨f.fb, 0, none⟩)]) w' := hen
            clear hkv hlk hI' hg' hlt hnr hD' hD'' m'' hfr hfm hrv
            go_wp2
            exact ⟨⟨_, HI'', HD'', HM''⟩, HLT.out⟩
end Go.Proofs.Ytldmokjpfnakkaa

/- journal: a log and its disk of one file; what a scan finds behind a crash. -/
namespace Go.Proofs.Ytldmokjpfnakkaa
open Go.RowKit

theorem first_nil (k : Int) : FirstIs k [] none := fun x r h => by
  have h1 := congrArg List.length h
  rw [List.length_append] at h1
  have := frameB_pos k x
  simp at h1
  omega
theorem first_cut {k : Int} {x p q : List UInt8} (h : frameB k x = p ++ q) (hq : q ≠ []) (hl : (frameB k x).length ≤ 9223372036854775807) : FirstIs k p none := by
  intro y r e
  have h1 : frameB k x ++ [] = frameB k y ++ (r ++ q) := by rw [List.append_nil, h, e, List.append_assoc]
  have hy : (frameB k y).length ≤ 9223372036854775807 := by
    have h2 := congrArg List.length e
    rw [List.length_append] at h2
    have h3 := congrArg List.length h
    rw [List.length_append] at h3
    omega
  obtain ⟨-, h3⟩ := frame_split (by omega) (by omega) h1
  exact hq (List.append_eq_nil_iff.1 h3.symm).2
theorem scan_frames (ks : List (List UInt8)) : ScanIs (framesB 0 ks) ks (framesB 0 ks).length := ⟨rfl, [], (List.append_nil _).symm, first_nil _⟩
/-- Behind the frames of ks stands the beginning of one more. -/
theorem scan_part (ks : List (List UInt8)) (y : List UInt8) (m : Nat) (hl : (frameB (ks.length : Nat) y).length ≤ 9223372036854775807) :
    ∃ rs, ScanIs (framesB 0 ks ++ (frameB (ks.length : Nat) y).take m) rs (framesB 0 rs).length ∧ (rs = ks ∨ rs = ks ++ [y]) := by
  by_cases h : (frameB (ks.length : Nat) y).length ≤ m
  · refine ⟨ks ++ [y], ?_, .inr rfl⟩
    rw [List.take_of_length_le h]
    have e : framesB 0 ks ++ frameB (ks.length : Nat) y = framesB 0 (ks ++ [y]) := by rw [framesB_snoc, Nat.zero_add]
    rw [e]
    exact scan_frames _
  · refine ⟨ks, ⟨rfl, _, rfl, ?_⟩, .inl rfl⟩
    refine first_cut (q := (frameB (ks.length : Nat) y).drop m) (List.take_append_drop _ _).symm ?_ hl
    intro h0
    have := congrArg List.length h0
    rw [List.length_drop] at this
    simp at this
    omega
/-- A disk of one file, or of none. -/
def fileSt (num : Int) (bs : List UInt8) (dur : Nat) : List (Int × List UInt8 × Nat) := if bs = [] then [] else [(num, bs, dur)]
theorem fileSt_cases {fs : List Fl} {num : Int} {bs : List UInt8} {dur : Nat} (h : fs.map Fl.log = fileSt num bs dur) : (fs = [] ∧ bs = []) ∨ ∃ f, fs = [f] ∧ f.num = num ∧ f.bs = bs ∧ f.dur = dur ∧ bs ≠ [] := by
  unfold fileSt at h
  by_cases hk : bs = []
  · rw [if_pos hk] at h
    exact .inl ⟨by simpa using h, hk⟩
  · rw [if_neg hk] at h
    rcases fs with _ | ⟨f, _ | ⟨f2, fs⟩⟩
    · simp at h
    · simp [Fl.log] at h
      exact .inr ⟨f, rfl, h.1, h.2.1, h.2.2, hk⟩
    · simp at h
theorem fileSt_sum {fs : List Fl} {num : Int} {bs : List UInt8} {dur : Nat} (h : fs.map Fl.log = fileSt num bs dur) : sumL fs = bs.length := by
  rcases fileSt_cases h with ⟨rfl, rfl⟩ | ⟨f, rfl, -, rfl, -, -⟩
  · rfl
  · simp [sumL]
theorem fileSt_app {fs : List Fl} {num : Int} {bs : List UInt8} (h : fs.map Fl.log = fileSt num bs bs.length) (xs : List UInt8) : AppSt fs num xs [(num, bs ++ xs, bs.length)] := by
  rcases fileSt_cases h with ⟨rfl, rfl⟩ | ⟨f, rfl, rfl, rfl, h3, -⟩
  · exact .inl ⟨rfl, rfl⟩
  · exact .inr ⟨[], f, [], rfl, by simp [findF], by rw [h3]; rfl⟩
theorem fileSt_num {fs : List Fl} {num : Int} {bs : List UInt8} {dur : Nat} (h : fs.map Fl.log = fileSt num bs dur) (h1 : 0 ≤ num) (h2 : num < 64) : ∀ f ∈ fs, 0 ≤ f.num ∧ f.num < 64 := by
  rcases fileSt_cases h with ⟨rfl, -⟩ | ⟨f, rfl, rfl, -⟩
  · intro f hf; cases hf
  · intro d hd
    simp at hd
    subst hd
    exact ⟨h1, h2⟩
theorem fileSt_len {fs : List Fl} {num : Int} {bs : List UInt8} {dur : Nat} (h : fs.map Fl.log = fileSt num bs dur) : fs.length ≤ 1 := by
  rcases fileSt_cases h with ⟨rfl, -⟩ | ⟨f, rfl, -⟩ <;> simp
/-- What a crash leaves of a file. -/
def crashB (bs : List UInt8) (dur : Nat) (K : List Int) (flip : Int) : List UInt8 :=
  if 0 ≤ flip ∧ 0 < keptB K bs.length dur then flipAt (bs.take (dur + keptB K bs.length dur)) dur (flip % (8 * ((keptB K bs.length dur : Nat) : Int))).toNat else bs.take (dur + keptB K bs.length dur)
theorem flipAt_nil {bs : List UInt8} {d b : Nat} : flipAt bs d b = [] ↔ bs = [] := by
  unfold flipAt
  rw [List.set_eq_nil_iff]
theorem crash_st {fs : List Fl} {num : Int} {bs : List UInt8} {dur : Nat} (h : fs.map Fl.log = fileSt num bs dur) (K : List Int) (flip : Int) : ∃ kp st1 st2, CrashTo fs K flip kp st1 st2 ∧ syncLog st2 = fileSt num (crashB bs dur K flip) (crashB bs dur K flip).length := by
  rcases fileSt_cases h with ⟨rfl, rfl⟩ | ⟨f, rfl, rfl, rfl, rfl, hne⟩
  · refine ⟨0, [], [], .inl ⟨rfl, rfl, rfl, rfl⟩, ?_⟩
    have : crashB [] dur K flip = [] := by
      unfold crashB
      split
      · rw [flipAt_nil]; simp
      · simp
    rw [this]
    rfl
  · refine ⟨keptB K f.bs.length f.dur, _, _, .inr (.inl ⟨f, rfl, rfl, rfl, rfl⟩), ?_⟩
    unfold crashB
    by_cases hb : 0 ≤ flip ∧ 0 < keptB K f.bs.length f.dur
    · rw [if_pos hb, if_pos hb]
      have hn : ¬ flipAt (f.bs.take (f.dur + keptB K f.bs.length f.dur)) f.dur (flip % (8 * ((keptB K f.bs.length f.dur : Nat) : Int))).toNat = [] := by
        rw [flipAt_nil, List.take_eq_nil_iff]
        rintro (h | h)
        · omega
        · exact hne h
      unfold fileSt
      rw [if_neg hn]
      rfl
    · rw [if_neg hb, if_neg hb]
      by_cases h0 : f.dur + keptB K f.bs.length f.dur = 0
      · rw [if_pos h0, h0]
        rfl
      · rw [if_neg h0]
        have hn : ¬ f.bs.take (f.dur + keptB K f.bs.length f.dur) = [] := by
          rw [List.take_eq_nil_iff]
          rintro (h | h)
          · exact h0 h
          · exact hne h
        unfold fileSt
        rw [if_neg hn]
        rfl
set_option maxHeartbeats 1000000 in
/-- Open on a disk of one file. -/
theorem open1_any (g mb room : Nat) (fs : List Fl) (num : Int) (bs : List UInt8) (dur m : Nat) (rs : List (List UInt8)) (w : World) (HD : Hid (DskAt w g mb room false (-1) fs)) (HS : Hid (fs.map Fl.log = fileSt num bs dur)) (h1 : 0 ≤ num) (h2 : num < 64) (HSC : Hid (ScanIs bs rs m)) :
    Calls Try.prog 30 #[.pointer (some ⟨g, 0, none⟩), .int .i64 num] w (OpenPost g mb room num (-1) fs rs (fileSt num (framesB 0 rs) (framesB 0 rs).length) w) := by
  obtain ⟨rfl, r, hr, hno⟩ := id HSC.out
  rcases fileSt_cases HS.out with ⟨rfl, rfl⟩ | ⟨f, rfl, rfl, rfl, rfl, hne⟩
  · have h3 := congrArg List.length hr
    rw [List.length_append] at h3
    have hfr : framesB 0 rs = [] := List.eq_nil_of_length_eq_zero (by simp at h3; omega)
    have hrs : rs = [] := List.eq_nil_of_length_eq_zero (by have := framesB_len rs 0; rw [hfr] at this; simp at this; omega)
    subst hrs
    exact open_clean g mb room (-1) [] num [] w HD h1 h2 (Lib.hid rfl) (Lib.hid rfl)
  · have hfn : findF [f] f.num = some f := by simp [findF]
    by_cases hm : (framesB 0 rs).length < f.bs.length
    · have := open_trunc g mb room (-1) [] [] f f.num rs _ w HD (Lib.hid hfn) h1 h2 HSC hm (Lib.hid rfl) (Lib.hid rfl)
      have e : syncLog (cutLogs [] f [] (framesB 0 rs).length) = fileSt f.num (framesB 0 rs) (framesB 0 rs).length := by
        unfold cutLogs fileSt
        by_cases h0 : framesB 0 rs = []
        · rw [if_pos h0, if_pos (by rw [h0]; rfl)]
          rfl
        · rw [if_neg h0, if_neg (fun h => h0 (List.eq_nil_of_length_eq_zero h))]
          have ht : f.bs.take (framesB 0 rs).length = framesB 0 rs := by rw [hr, List.take_left]
          rw [ht]
          rfl
      rw [e] at this
      exact this
    · have hr0 : r = [] := by
        have h3 := congrArg List.length hr
        rw [List.length_append] at h3
        exact List.eq_nil_of_length_eq_zero (by omega)
      rw [hr0, List.append_nil] at hr
      have := open_clean g mb room (-1) [f] f.num rs w HD h1 h2 (Lib.hid (by unfold fileBs; rw [hfn]; exact hr)) (Lib.hid rfl)
      have e : syncLog ([f].map Fl.log) = fileSt f.num (framesB 0 rs) (framesB 0 rs).length := by
        unfold fileSt
        rw [if_neg (by rw [← hr]; exact hne), ← hr]
        rfl
      rw [e] at this
      exact this
end Go.Proofs.Ytldmokjpfnakkaa
