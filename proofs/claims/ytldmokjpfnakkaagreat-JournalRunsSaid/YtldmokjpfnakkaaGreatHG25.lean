/- journal: Open. -/
import Derived.Test.YtldmokjpfnakkaaGreatHG24
import Derived.Test.YtldmokjpfnakkaaGreatHG1
import Derived.Shelf.SlIterI.Nil
import Derived.Shelf.SortM.Plain
import Derived.Shelf.SortM.SortNone
import Derived.Test.YtldmokjpfnakkaaGreatProg

namespace Go.Proofs.YtldmokjpfnakkaaGreat
open Go.RowKit

/-- What Open returns where all goes well. -/
def OpenPost (g mb room : Nat) (num : Int) (plan' : Int) (fs : List Fl) (rs : List (List UInt8)) (st : List (Int × List UInt8 × Nat)) (w : World) (e : Ending) (w' : World) : Prop :=
  ∃ gl v L fs', e = .returned (.tuple #[.pointer (some ⟨gl, 0, none⟩), v, .int .i64 0]) ∧ w.heap.size ≤ gl ∧ LogAt w' gl g num rs.length true ∧ LsOwn w' w.heap.size v L ∧ bsOf L = rs ∧ (∀ z ∈ L, z.low w.heap.size) ∧ fs'.map Fl.log = st ∧ DskAt w' g mb room false plan' fs' ∧ Mod (DskF g mb fs) w w' ∧ (∀ b, DskF g mb fs' b → DskF g mb fs b ∨ w.heap.size ≤ b) ∧ ¬ DskF g mb fs' gl
theorem open_nil (num : Int) (w : World) : Calls Tryz.prog 7 #[.pointer none, .int .i64 num] w fun e w' => e = .returned (.tuple #[.pointer none, .slice none 0 0, .int .i64 1]) ∧ w = w' := by
  go_enter Tryz.func7, Tryz.ntmps7
  go_wp2
  go_ret3
  exact ⟨rfl, rfl⟩
theorem open_arg (g mb room : Nat) (off : Bool) (plan : Int) (fs : List Fl) (num : Int) (w : World) (HD : Hid (DskAt w g mb room off plan fs)) (h : num < 0 ∨ 64 ≤ num) : Calls Tryz.prog 7 #[.pointer (some ⟨g, 0, none⟩), .int .i64 num] w fun e w' => e = .returned (.tuple #[.pointer none, .slice none 0 0, .int .i64 1]) ∧ w = w' := by
  go_enter Tryz.func7, Tryz.ntmps7
  go_wp2_with (go_at_call 19; ((with_reducible refine (readD_arg _ _ _ _ _ _ _ _ HD h).mono ?_); rintro e w1 ⟨rfl, rfl⟩))
  go_ret3
  exact ⟨rfl, rfl⟩
/-- The bytes of a file. -/
def fileBs (fs : List Fl) (num : Int) : List UInt8 := ((findF fs num).map Fl.bs).getD []
/-- Read, with or without a file. -/
theorem readD_any (g mb room : Nat) (plan : Int) (fs : List Fl) (num : Int) (w : World) (HD : Hid (DskAt w g mb room false plan fs)) (h1 : 0 ≤ num) (h2 : num < 64) :
    Calls Tryz.prog 19 #[.pointer (some ⟨g, 0, none⟩), .int .i64 num] w (ReadPost (fileBs fs num) w) := by
  cases hf : findF fs num with
  | none =>
    have e : fileBs fs num = [] := by unfold fileBs; rw [hf]; rfl
    rw [e]
    refine (readD_none g mb room plan fs num w HD (Lib.hid hf) h1 h2).mono ?_
    rintro e w' ⟨rfl, rfl⟩
    exact ⟨none, 0, 0, rfl, World.ownsRow_nil _ _ _ _, Below.refl _ _⟩
  | some f =>
    have e : fileBs fs num = f.bs := by unfold fileBs; rw [hf]; rfl
    rw [e]
    exact readD_some g mb room plan fs f num w HD (Lib.hid hf) h1 h2
set_option maxRecDepth 100000 in
set_option maxHeartbeats 2000000 in
theorem open_clean (g mb room : Nat) (plan : Int) (fs : List Fl) (num : Int) (rs : List (List UInt8)) (w : World) (HD : Hid (DskAt w g mb room false plan fs)) (h1 : 0 ≤ num) (h2 : num < 64) (HB : Hid (fileBs fs num = framesB 0 rs)) (HO : Hid (failOff false plan = false)) :
    Calls Tryz.prog 7 #[.pointer (some ⟨g, 0, none⟩), .int .i64 num] w (OpenPost g mb room num (failPlan plan) fs rs (syncLog (fs.map Fl.log)) w) := by
  have hlen : (framesB 0 rs).length ≤ 16777216 := by
    rw [← HB.out]
    unfold fileBs
    cases hf : findF fs num with
    | none => simp
    | some f =>
      obtain ⟨l1, l2, hfs, -⟩ := findF_split hf
      have h1 := HD.out.room_le
      have h2 := HD.out.used_le
      rw [hfs, sumL_append, sumL_cons] at h2
      simp only [Option.map_some, Option.getD_some]
      omega
  have HF := Lib.hid HD.out.ltF
  have HSC : Hid (ScanIs (framesB 0 rs) rs (framesB 0 rs).length) := Lib.hid ⟨rfl, [], (List.append_nil _).symm, fun x r h => by
    have h1 := congrArg List.length h
    rw [List.length_append] at h1
    have h2 := frameB_pos ((rs.length : Nat) : Int) x
    simp only [List.length_nil] at h1
    omega⟩
  go_enter Tryz.func7, Tryz.ntmps7
  go_wp2_with fail
  refine (readD_any _ _ _ _ _ _ _ HD h1 h2).mono ?_
  rintro e w1 ⟨A1, n1, c1, rfl, hown1, hb1⟩
  rw [HB.out] at hown1
  have hS1 := Sb.own hown1
  have hD1 := HD.out.all hb1
  have HN1 := Lib.hid hS1.1
  have hn1 : n1 ≤ 16777216 := by rw [← HN1.out]; exact hlen
  clear hown1
  go_wp2_with fail
  refine (scan2_any _ _ _ _ _ (Lib.hid hS1) (by omega)).mono ?_
  rintro e w2 ⟨v2, L2, m2, rfl, hL2, hs2, hb2, hlow2⟩
  obtain ⟨e1, e2⟩ := ScanIs.unique (by omega) hs2 HSC.out
  rw [HN1.out] at e2
  subst e2
  obtain ⟨A2, c2, rfl⟩ := hL2.slice
  have HE1 := Lib.hid e1
  have hD2 := hD1.all hb2
  have hB2 := bt hb1 hb2
  have hll : L2.length = rs.length := by rw [← bsOf_length, e1]
  rw [hll] at hL2 ⊢
  have hrl : rs.length ≤ 16777216 := by
    have := framesB_len rs 0
    omega
  have hz1 := hb1.size
  have HLW : Hid (∀ z ∈ L2, z.low w.heap.size) := Lib.hid (fun z hz => (hlow2 z hz).mono hz1)
  have HL2 := Lib.hid (hL2.lower hz1)
  clear hs2 e1 hll hL2 hlow2 hb1 hb2 hD1 hS1 hz1
  go_wp2_with fail
  refine (sync_any _ _ _ _ _ _ (Lib.hid hD2)).mono ?_
  rintro e w3 ⟨rfl, fs3, hst3, hD3, m3, hF3⟩
  rw [HO.out] at hst3 hD3 ⊢
  have hL3 : LsOwn w3 w.heap.size (.slice A2 rs.length c2) L2 := HL2.out.modL HLW.out m3 (fun b hb hf => by have := HF.out b hf; omega) (Nat.le_refl _)
  have M3 : Mod (DskF g mb fs) w w3 := (Mod.of_below (DskF g mb fs) hB2).trans m3 (fun b hb => .inl hb)
  have hz2 := hB2.size
  have HF3 : Hid (∀ b, DskF g mb fs3 b → DskF g mb fs b ∨ w.heap.size ≤ b) := Lib.hid (fun b hb => (hF3 b hb).imp id (fun h => by omega))
  have hb4 := (Below.refl w3.heap.size w3).alloc (Nat.le_refl _) (.cells #[.pointer (some ⟨g, 0, none⟩), .int .i64 num, .int .i64 ((rs.length : Nat) : Int), .bool true] 59)
  have HLG : Hid (LogAt (w3.alloc (.cells #[.pointer (some ⟨g, 0, none⟩), .int .i64 num, .int .i64 ((rs.length : Nat) : Int), .bool true] 59)) w3.heap.size g num rs.length true) := Lib.hid (Blk.new w3 59 _)
  have HFIN : Hid (OpenPost g mb room num (failPlan plan) fs rs (syncLog (fs.map Fl.log)) w (.returned (.tuple #[.pointer (some ⟨w3.heap.size, 0, none⟩), .slice A2 rs.length c2, .int .i64 0])) (w3.alloc (.cells #[.pointer (some ⟨g, 0, none⟩), .int .i64 num, .int .i64 ((rs.length : Nat) : Int), .bool true] 59))) := Lib.hid
    ⟨w3.heap.size, _, L2, fs3, rfl, M3.size, HLG.out, hL3.all hb4, HE1.out, HLW.out, hst3, hD3.all hb4, M3.then_below hb4, HF3.out, fun h => by have := hD3.ltF _ h; omega⟩
  clear hL3 M3 hb4 hD3 hst3 m3 hF3 hD2 hB2 HL2 HLG
  go_wp2
  go_ret3
  exact HFIN.out
end Go.Proofs.YtldmokjpfnakkaaGreat

/- A map from ints, known by its entries: delete. -/
namespace Go.Proofs.YtldmokjpfnakkaaGreat
open Go.RowKit

theorem imap_at {l1 l2 : List (Int × Value)} {k : Int} {v u : Value} {j : Nat} (hn : ((l1 ++ (k, v) :: l2).map Prod.fst).Nodup) (hj : (l1 ++ (k, v) :: l2)[j]? = some (k, u)) : j = l1.length := by
  obtain ⟨hlt, hj⟩ := List.getElem?_eq_some_iff.1 hj
  have h1 : l1.length < (l1 ++ (k, v) :: l2).length := by simp
  have e1 : ((l1 ++ (k, v) :: l2).map Prod.fst)[j]'(by simpa using hlt) = k := by rw [List.getElem_map, hj]
  have e2 : ((l1 ++ (k, v) :: l2).map Prod.fst)[l1.length]'(by simp) = k := by simp
  exact (List.getElem_inj hn).1 (e1.trans e2.symm)
theorem map_erase {α β : Type} (f : α → β) : ∀ (l : List α) (i : Nat), (l.eraseIdx i).map f = (l.map f).eraseIdx i
  | [], i => by simp
  | a :: l, 0 => by simp
  | a :: l, i + 1 => by simp [map_erase f l i]
/-- An entry is deleted. -/
theorem IMap.del {P : Program} {w : World} {b : Nat} {l1 l2 : List (Int × Value)} {k : Int} {v : Value} {t kt e ty : TypeId} (h : IMap w b (l1 ++ (k, v) :: l2)) (ht : P.underlying t = some (.map kt e)) (hk : P.underlying kt = some (.int .i64)) :
    ∃ w', (Builtin.delete_ #[t, kt] ty #[.map (some b), .int .i64 k]).run P w = .ok (.tuple #[]) w' ∧ IMap w' b (l1 ++ l2) ∧ w.grownBy w' (some b) ∧ w'.heap.size = w.heap.size := by
  obtain ⟨l, c, hb, hl, hn, hbn, hbc⟩ := h
  have hlt := (Array.getElem?_eq_some_iff.1 hb).1
  have hlen : l.length = (l1 ++ (k, v) :: l2).length := by have := congrArg List.length hl; simpa using this
  rcases imap_find l _ hl k 0 with ⟨h1, h2⟩ | ⟨j, v0, h1, h0, h2, h3, h4⟩
  · exfalso
    have := List.lookup_eq_none_iff.1 h1 (k, v) (by simp)
    simp at this
  · obtain rfl := imap_at hn h3
    have hsub : (l.eraseIdx l1.length).Sublist l := List.eraseIdx_sublist _ _
    have hers : (l1 ++ (k, v) :: l2).eraseIdx l1.length = l1 ++ l2 := by
      rw [List.eraseIdx_append_of_length_le (Nat.le_refl _)]
      simp
    refine ⟨_, ?_, ⟨l.eraseIdx l1.length, c, heap_set_same hlt, ?_, ?_, ?_, ?_⟩, grown_setObj w b _, by simp⟩
    · simp [Builtin.delete_, run_underlying ht, MapKept.run_getObj_map hb, run_checkKey hk, run_findKey hk l k _ h4, MapKept.run_setObj_map _ hb, Result.andThen]
    · rw [map_erase, hl, ← map_erase, hers]
    · rw [← hers, map_erase]
      exact hn.eraseIdx _
    · rw [map_erase]
      exact hbn.eraseIdx _
    · exact fun e he => hbc e (hsub.subset he)
end Go.Proofs.YtldmokjpfnakkaaGreat

/- disk: the library's contracts for maps.Keys, slices.Sorted and slices.Sort at this program (laid by the kit's tool, in plain words). -/
namespace Go.Proofs
open Go.Shelf
def Tryz.keysA_ren : Go.Shelf.Ren := ⟨fun | 7 => 49 | 10 => 65 | n => n, fun | 23 => 60 | 26 => 3 | 3 => 64 | 28 => 88 | 0 => 0 | 27 => 87 | 33 => 72 | 4 => 4 | n => n, fun | n => n⟩
theorem Tryz.keysA : Go.Proofs.SlLaysZI.n7 Tryz.prog Tryz.keysA_ren := {
  mixed := by kernel_rfl
  f7 := ⟨Tryz.f49.name, by decide, Tryz.func49.trans (congrArg some (by kernel_rfl))⟩
  f10 := ⟨Tryz.f65.name, by decide, Tryz.func65.trans (congrArg some (by kernel_rfl))⟩
  t0 := Tryz.underlying0
  a0 := Tryz.isAgg0
  z0 := Tryz.sizeOf0
  v0 := Tryz.zeroValue0
  t4 := Tryz.underlying4
  a4 := Tryz.isAgg4
  z4 := Tryz.sizeOf4
  v4 := Tryz.zeroValue4
  t23 := Tryz.underlying60
  a23 := Tryz.isAgg60
  z23 := Tryz.sizeOf60
  v23 := Tryz.zeroValue60
  t26 := Tryz.underlying3
  a26 := Tryz.isAgg3
  z26 := Tryz.sizeOf3
  v26 := Tryz.zeroValue3
  t27 := Tryz.underlying87
  a27 := Tryz.isAgg87
  z27 := Tryz.sizeOf87
  v27 := Tryz.zeroValue87
  t28 := Tryz.underlying88
  a28 := Tryz.isAgg88
  z28 := Tryz.sizeOf88
  v28 := Tryz.zeroValue88
  t33 := Tryz.underlying72
  a33 := Tryz.isAgg72
  z33 := Tryz.sizeOf72
  v33 := Tryz.zeroValue72 }
def Tryz.sortedA_ren : Go.Shelf.Ren := ⟨fun | 6 => 48 | 8 => 63 | 9 => 64 | 11 => 81 | 13 => 83 | 12 => 82 | 23 => 99 | 24 => 100 | 14 => 90 | 15 => 91 | 16 => 92 | 17 => 93 | 18 => 94 | 19 => 95 | 20 => 96 | 21 => 97 | 22 => 98 | 25 => 101 | 26 => 102 | 27 => 103 | 28 => 104 | 29 => 105 | 30 => 106 | 31 => 107 | n => n, fun | 26 => 3 | 28 => 88 | 24 => 22 | 0 => 0 | 3 => 3 | 37 => 68 | 48 => 131 | 50 => 78 | 4 => 4 | 40 => 123 | 39 => 122 | 45 => 128 | 5 => 5 | 9 => 9 | 51 => 132 | 55 => 135 | 57 => 137 | 58 => 138 | 33 => 72 | n => n, fun | n => n⟩
theorem Tryz.sortedA : Go.Proofs.SlLaysZI.n6 Tryz.prog Tryz.sortedA_ren := {
  mixed := by kernel_rfl
  f6 := ⟨Tryz.f48.name, by decide, Tryz.func48.trans (congrArg some (by kernel_rfl))⟩
  f8 := ⟨Tryz.f63.name, by decide, Tryz.func63.trans (congrArg some (by kernel_rfl))⟩
  f11 := ⟨Tryz.f81.name, by decide, Tryz.func81.trans (congrArg some (by kernel_rfl))⟩
  t0 := Tryz.underlying0
  a0 := Tryz.isAgg0
  z0 := Tryz.sizeOf0
  v0 := Tryz.zeroValue0
  t24 := Tryz.underlying22
  a24 := Tryz.isAgg22
  z24 := Tryz.sizeOf22
  v24 := Tryz.zeroValue22
  t26 := Tryz.underlying3
  a26 := Tryz.isAgg3
  z26 := Tryz.sizeOf3
  v26 := Tryz.zeroValue3
  t28 := Tryz.underlying88
  a28 := Tryz.isAgg88
  z28 := Tryz.sizeOf88
  v28 := Tryz.zeroValue88
  i26 := by kernel_rfl }
def Tryz.sortA_ren : Go.Shelf.Ren := ⟨fun | 5 => 64 | 8 => 83 | 7 => 82 | 19 => 99 | 20 => 100 | 10 => 90 | 11 => 91 | 12 => 92 | 13 => 93 | 14 => 94 | 15 => 95 | 16 => 96 | 17 => 97 | 18 => 98 | 30 => 101 | 31 => 102 | 32 => 103 | 33 => 104 | 34 => 105 | 35 => 106 | 40 => 107 | n => n, fun | 23 => 22 | 25 => 3 | 3 => 3 | 32 => 68 | 22 => 22 | 0 => 0 | 44 => 131 | 46 => 78 | 4 => 4 | 36 => 123 | 35 => 122 | 41 => 128 | 5 => 5 | 9 => 9 | 53 => 132 | 57 => 135 | 63 => 137 | 64 => 138 | n => n, fun | n => n⟩
theorem Tryz.sortA : Go.Proofs.SlLaysM.n5 Tryz.prog Tryz.sortA_ren := {
  mixed := by kernel_rfl
  f5 := ⟨Tryz.f64.name, by decide, Tryz.func64.trans (congrArg some (by kernel_rfl))⟩
  f7 := ⟨Tryz.f82.name, by decide, Tryz.func82.trans (congrArg some (by kernel_rfl))⟩
  f8 := Tryz.func83.trans (congrArg some (by kernel_rfl))
  f10 := ⟨Tryz.f90.name, by decide, Tryz.func90.trans (congrArg some (by kernel_rfl))⟩
  f11 := ⟨Tryz.f91.name, by decide, Tryz.func91.trans (congrArg some (by kernel_rfl))⟩
  f12 := ⟨Tryz.f92.name, by decide, Tryz.func92.trans (congrArg some (by kernel_rfl))⟩
  f13 := ⟨Tryz.f93.name, by decide, Tryz.func93.trans (congrArg some (by kernel_rfl))⟩
  f14 := ⟨Tryz.f94.name, by decide, Tryz.func94.trans (congrArg some (by kernel_rfl))⟩
  f15 := ⟨Tryz.f95.name, by decide, Tryz.func95.trans (congrArg some (by kernel_rfl))⟩
  f16 := ⟨Tryz.f96.name, by decide, Tryz.func96.trans (congrArg some (by kernel_rfl))⟩
  f17 := ⟨Tryz.f97.name, by decide, Tryz.func97.trans (congrArg some (by kernel_rfl))⟩
  f18 := ⟨Tryz.f98.name, by decide, Tryz.func98.trans (congrArg some (by kernel_rfl))⟩
  f19 := Tryz.func99.trans (congrArg some (by kernel_rfl))
  f20 := Tryz.func100.trans (congrArg some (by kernel_rfl))
  f30 := ⟨Tryz.f101.name, by decide, Tryz.func101.trans (congrArg some (by kernel_rfl))⟩
  f31 := Tryz.func102.trans (congrArg some (by kernel_rfl))
  f32 := Tryz.func103.trans (congrArg some (by kernel_rfl))
  f33 := ⟨Tryz.f104.name, by decide, Tryz.func104.trans (congrArg some (by kernel_rfl))⟩
  f34 := ⟨Tryz.f105.name, by decide, Tryz.func105.trans (congrArg some (by kernel_rfl))⟩
  f35 := ⟨Tryz.f106.name, by decide, Tryz.func106.trans (congrArg some (by kernel_rfl))⟩
  f40 := ⟨Tryz.f107.name, by decide, Tryz.func107.trans (congrArg some (by kernel_rfl))⟩
  t0 := Tryz.underlying0
  a0 := Tryz.isAgg0
  z0 := Tryz.sizeOf0
  v0 := Tryz.zeroValue0
  t3 := Tryz.underlying3
  a3 := Tryz.isAgg3
  z3 := Tryz.sizeOf3
  v3 := Tryz.zeroValue3
  t4 := Tryz.underlying4
  a4 := Tryz.isAgg4
  z4 := Tryz.sizeOf4
  v4 := Tryz.zeroValue4
  t5 := Tryz.underlying5
  a5 := Tryz.isAgg5
  z5 := Tryz.sizeOf5
  v5 := Tryz.zeroValue5
  t9 := Tryz.underlying9
  a9 := Tryz.isAgg9
  z9 := Tryz.sizeOf9
  v9 := Tryz.zeroValue9
  t22 := Tryz.underlying22
  a22 := Tryz.isAgg22
  z22 := Tryz.sizeOf22
  v22 := Tryz.zeroValue22
  t23 := Tryz.underlying22
  a23 := Tryz.isAgg22
  z23 := Tryz.sizeOf22
  v23 := Tryz.zeroValue22
  t25 := Tryz.underlying3
  a25 := Tryz.isAgg3
  z25 := Tryz.sizeOf3
  v25 := Tryz.zeroValue3
  t32 := Tryz.underlying68
  a32 := Tryz.isAgg68
  z32 := Tryz.sizeOf68
  v32 := Tryz.zeroValue68
  t35 := Tryz.underlying122
  a35 := Tryz.isAgg122
  z35 := Tryz.sizeOf122
  v35 := Tryz.zeroValue122
  t36 := Tryz.underlying123
  a36 := Tryz.isAgg123
  z36 := Tryz.sizeOf123
  v36 := Tryz.zeroValue123
  t41 := Tryz.underlying128
  a41 := Tryz.isAgg128
  z41 := Tryz.sizeOf128
  v41 := Tryz.zeroValue128
  t44 := Tryz.underlying131
  a44 := Tryz.isAgg131
  z44 := Tryz.sizeOf131
  v44 := Tryz.zeroValue131
  t46 := Tryz.underlying78
  a46 := Tryz.isAgg78
  z46 := Tryz.sizeOf78
  v46 := Tryz.zeroValue78
  t53 := Tryz.underlying132
  a53 := Tryz.isAgg132
  z53 := Tryz.sizeOf132
  v53 := Tryz.zeroValue132
  t57 := Tryz.underlying135
  a57 := Tryz.isAgg135
  z57 := Tryz.sizeOf135
  v57 := Tryz.zeroValue135
  t63 := Tryz.underlying137
  a63 := Tryz.isAgg137
  z63 := Tryz.sizeOf137
  v63 := Tryz.zeroValue137
  t64 := Tryz.underlying138
  a64 := Tryz.isAgg138
  z64 := Tryz.sizeOf138
  v64 := Tryz.zeroValue138 }
end Go.Proofs
