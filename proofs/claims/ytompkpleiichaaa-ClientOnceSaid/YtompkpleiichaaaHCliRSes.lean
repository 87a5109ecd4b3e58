/- client: Sessions of the reference: find, Last, Join, Copy. -/
import Derived.Test.YtompkpleiichaaaHG12
import Derived.Test.YtompkpleiichaaaHCliAcc
import Derived.Test.YtompkpleiichaaaHCliGot

namespace Go.Proofs.Ytompkpleiichaaa
open Go.RowKit

structure Old where
  num : Int
  hash : Int
  done : Bool
  A : Option Addr
  n : Nat
  c : Nat
  bs : List UInt8
def Old.cells (o : Old) : List Value := [.int .i64 o.num, .int .u64 o.hash, .bool o.done, .slice o.A o.n o.c]
def Old.log (o : Old) : AL := (o.hash, o.done, o.bs)
def Old.ok (w : World) (o : Old) : Prop := Bts w o.A o.n o.c o.bs ∧ o.n ≤ 1048576
theorem Old.cells_length (o : Old) : o.cells.length = 4 := rfl
structure RCl where
  id : Int
  key : Int
  last : Int
  A : Option Addr
  n : Nat
  c : Nat
  olds : List Old
def RCl.cells (r : RCl) : List Value := [.int .i64 r.id, .int .u64 r.key, .int .i64 r.last, .slice r.A r.n r.c]
theorem RCl.cells_length (r : RCl) : r.cells.length = 4 := rfl
structure RCl.ok (w : World) (r : RCl) : Prop where
  len : r.olds.length = r.n
  cap : r.n ≤ r.c
  max : r.c ≤ 9223372036854775807
  row : RowT w 112 r.A (r.olds.flatMap Old.cells)
  old : ∀ o ∈ r.olds, o.ok w
  last : 0 ≤ r.last ∧ r.last ≤ 4611686018427387904
  few : r.n ≤ 16
  num : ∀ k (h : k < r.olds.length), (r.olds[k]).num = r.last - (r.olds.length - 1 - k : Int)
structure RSes (w : World) (g : Nat) (rv : Value) (rl : List RCl) : Prop where
  blk : Blk w g 52 #[rv]
  own : w.ownsRow 0 108 4 rv rl.length (rl.flatMap RCl.cells)
  ok : ∀ r ∈ rl, r.ok w
def RSesF (g : Nat) (rv : Value) (b : Nat) : Prop := b = g ∨ rv.ownBlock = some b
section
variable {w w' : World} {g : Nat} {rv rv' : Value} {rl rl' : List RCl} {F : Nat → Prop} {r : RCl}
theorem RCl.ok.mod (h : r.ok w) (m : Mod F w w') (hB : ∀ b, F b → ¬ Ty w b 5) (hO : ∀ b, F b → ¬ Ty w b 112) : r.ok w' :=
  ⟨h.len, h.cap, h.max, h.row.mod m hO, fun o ho => ⟨(h.old o ho).1.mod m hB, (h.old o ho).2⟩, h.last, h.few, h.num⟩
theorem RSes.mod (h : RSes w g rv rl) (m : Mod F w w') (hF : ∀ b, RSesF g rv b → ¬ F b) (hB : ∀ b, F b → ¬ Ty w b 5) (hO : ∀ b, F b → ¬ Ty w b 112) : RSes w' g rv rl :=
  ⟨m.blk h.blk (hF g (.inl rfl)), m.own h.own (fun b hb => hF b (.inr hb)), fun r hr => (h.ok r hr).mod m hB hO⟩
theorem RSes.all (h : RSes w g rv rl) (m : Below w.heap.size w w') : RSes w' g rv rl := h.mod (F := fun _ => False) (Mod.of_below _ m) (fun _ _ hf => hf) (fun _ hf => hf.elim) (fun _ hf => hf.elim)
theorem RSes.tyF (h : RSes w g rv rl) : ∀ b, RSesF g rv b → Ty w b 52 ∨ Ty w b 108 := by
  rintro b (rfl | hb)
  · exact .inl h.blk.ty
  · exact .inr (Ty.of_own h.own hb)
theorem RSes.notF {t : TypeId} {b : Nat} (h : RSes w g rv rl) (hb : Ty w b t) (h1 : t ≠ 52) (h2 : t ≠ 108) : ¬ RSesF g rv b := fun hf => by
  rcases h.tyF b hf with h | h
  · exact h1 (Ty.unique hb h)
  · exact h2 (Ty.unique hb h)
theorem RSes.noB (h : RSes w g rv rl) : ∀ b, RSesF g rv b → ¬ Ty w b 5 := fun b hf hb => h.notF hb (by decide) (by decide) hf
theorem RSes.noO (h : RSes w g rv rl) : ∀ b, RSesF g rv b → ¬ Ty w b 112 := fun b hf hb => h.notF hb (by decide) (by decide) hf
theorem RSes.ltF (h : RSes w g rv rl) : ∀ b, RSesF g rv b → b < w.heap.size := by
  rintro b (rfl | hb)
  · exact h.blk.lt
  · exact (h.own.lt b hb).2
theorem RSes.ne (h : RSes w g rv rl) {b : Nat} (hb : rv.ownBlock = some b) : b ≠ g := by
  rintro rfl
  exact absurd (Ty.unique h.blk.ty (Ty.of_own h.own hb)) (by decide)
theorem RSes.row (h : RSes w g rv rl) {k : Nat} (hk : k < rl.length) : ∃ g1 cap, rv = .slice (some ⟨g1, 0, none⟩) rl.length cap ∧ w.cell? ⟨g1, k * 4, none⟩ = some (.int .i64 (rl[k]).id) ∧ w.cell? ⟨g1, k * 4 + 1, none⟩ = some (.int .u64 (rl[k]).key) ∧ w.cell? ⟨g1, k * 4 + 2, none⟩ = some (.int .i64 (rl[k]).last) ∧ w.cell? ⟨g1, k * 4 + 3, none⟩ = some (.slice (rl[k]).A (rl[k]).n (rl[k]).c) ∧ ∀ o, w.frozen? ⟨g1, o, none⟩ = false := by
  rcases h.own.2 with ⟨hv, h0⟩ | ⟨g1, cap, cur, hv, _, hh, _⟩
  · omega
  · have hc : ∀ i, i < 4 → w.cell? ⟨g1, k * 4 + i, none⟩ = ((rl[k]).cells)[i]? := fun i hi => by
      have ho := h.own
      rw [hv] at ho
      rw [ho.cellAt (k * 4 + i) (by omega), flat_at RCl.cells 4 RCl.cells_length rl k i hk hi]
    exact ⟨g1, cap, hv, hc 0 (by omega), hc 1 (by omega), hc 2 (by omega), hc 3 (by omega), fun o => by simp [World.frozen?, hh]⟩
end
/-- What is known of a client: its key, its last number, and what was accepted. -/
abbrev CSt := Int × Int × List AL
def RCl.st (r : RCl) : CSt := (r.key, r.last, r.olds.map Old.log)
def findR (rl : List RCl) (id : Int) : Option RCl := rl.find? fun r => r.id == id
def sigR (rl : List RCl) (id : Int) : Option CSt := (findR rl id).map RCl.st
def upd (σ : Int → Option CSt) (id : Int) (s : CSt) : Int → Option CSt := fun j => if j = id then some s else σ j
def idxR (rl : List RCl) (id : Int) : Int := match rl.findIdx? (fun r => r.id == id) with | some k => (k : Int) | none => -1
theorem idxR_cases (rl : List RCl) (id : Int) : (idxR rl id = -1 ∧ findR rl id = none) ∨ ∃ k, ∃ hk : k < rl.length, idxR rl id = (k : Int) ∧ findR rl id = some rl[k] ∧ (∀ t (ht : t < k), (rl[t]'(by omega)).id ≠ id) ∧ (rl[k]).id = id := by
  rcases hf : rl.findIdx? (fun r => r.id == id) with _ | k
  · left
    refine ⟨by unfold idxR; rw [hf], ?_⟩
    rw [List.findIdx?_eq_none_iff] at hf
    unfold findR
    rw [List.find?_eq_none]
    intro x hx
    simpa using hf x hx
  · right
    have hf' := hf
    rw [List.findIdx?_eq_some_iff_getElem] at hf
    obtain ⟨hk, hp, hno⟩ := hf
    refine ⟨k, hk, by unfold idxR; rw [hf'], ?_, fun t ht => by simpa using hno t ht, by simpa using hp⟩
    unfold findR
    rw [List.find?_eq_some_iff_getElem]
    exact ⟨hp, k, hk, rfl, fun j hj => by simpa using hno j hj⟩
theorem sigR_set {rl : List RCl} {id : Int} {k : Nat} {r : RCl} (hk : k < rl.length) (hno : ∀ t (ht : t < k), (rl[t]'(by omega)).id ≠ id) (he : (rl[k]).id = id) (hr : r.id = id) : sigR (rl.set k r) = upd (sigR rl) id r.st := by
  funext j
  unfold sigR upd findR
  induction rl generalizing k with
  | nil => simp at hk
  | cons x rl ih =>
    rcases k with _ | k
    · have he' : x.id = id := he
      by_cases hj : j = id
      · subst hj
        simp [hr]
      · have h1 : ¬ r.id = j := by rw [hr]; exact fun e => hj e.symm
        have h2 : ¬ x.id = j := by rw [he']; exact fun e => hj e.symm
        simp [hj, h1, h2]
    · have h0 : x.id ≠ id := hno 0 (by omega)
      have := ih (k := k) (by simpa using hk) (fun t ht => hno (t + 1) (by omega)) he
      dsimp only at this ⊢
      rw [List.set_cons_succ, List.find?_cons, List.find?_cons]
      by_cases hx : x.id = j
      · have hj : ¬ j = id := by rw [← hx]; exact h0
        simp [hx, hj]
      · rw [show (x.id == j) = false by simpa using hx]
        exact this
theorem sigR_snoc {rl : List RCl} {r : RCl} (hno : findR rl r.id = none) : sigR (rl ++ [r]) = upd (sigR rl) r.id r.st := by
  funext j
  unfold sigR upd findR
  rw [List.find?_append]
  by_cases hj : j = r.id
  · subst hj
    unfold findR at hno
    simp [hno]
  · have : ¬ r.id = j := fun e => hj e.symm
    simp [hj, this]
set_option maxRecDepth 100000 in
set_option maxHeartbeats 1000000 in
theorem rfind_any (g : Nat) (rv : Value) (rl : List RCl) (id : Int) (w : World) (HS : Hid (RSes w g rv rl)) (hl : rl.length ≤ 1000000) :
    Calls Try.prog 56 #[.pointer (some ⟨g, 0, none⟩), .int .i64 id] w fun e w' => e = .returned (.int .i64 (idxR rl id)) ∧ w = w' := by
  obtain ⟨A1, c1, rfl⟩ := own_parts HS.out.own
  have d0 := HS.out.blk.cell 0
  simp only [List.getElem?_toArray, List.getElem?_cons_zero] at d0
  go_enter Try.func56, Try.ntmps56
  go_wp2
  go_loop [5] (fun i => ∃ j : Nat, j ≤ rl.length ∧ i = .int .i64 (j : Int) ∧ Hid (∀ t (ht : t < j) (hl : t < rl.length), (rl[t]).id ≠ id)) (fun i => rl.length - (intOf i).toNat)
  case atStart => exact ⟨0, by omega, rfl, Lib.hid (fun t ht => absurd ht (by omega))⟩
  case round =>
    obtain ⟨j, hj, rfl, HNO⟩ := hrel
    by_cases hlt : j < rl.length
    · obtain ⟨g1, cap, hv, t0, -⟩ := HS.out.row hlt
      injection hv with hv1 _ hv3
      subst hv1 hv3
      have hi0 : (0 : Int) ≤ (j : Int) := by omega
      have hi1 : (j : Int) < (rl.length : Int) := by omega
      rcases he : ((rl[j]).id == id) with _ | _
      · have HNE := Lib.hid he
        generalize hx : (rl[j]).id = x at *
        have HX := Lib.hid hx
        clear hx
        go_wp2
        go_round
        case rel => exact ⟨j + 1, by omega, by go_num, Lib.hid (fun t ht hl => by
          rcases Nat.lt_or_eq_of_le (Nat.lt_succ_iff.1 ht) with h | rfl
          · exact HNO.out t h hl
          · rw [HX.out]; simpa using HNE.out)⟩
        case measure => simp [intOf]; omega
      · have HNE := Lib.hid he
        generalize hx : (rl[j]).id = x at *
        have HX := Lib.hid hx
        clear hx
        go_wp2
        go_ret
        have hf : rl.findIdx? (fun r => r.id == id) = some j := by
          rw [List.findIdx?_eq_some_iff_getElem]
          exact ⟨hlt, by rw [HX.out]; exact HNE.out, fun t ht => by simpa using HNO.out t ht (by omega)⟩
        exact ⟨by unfold idxR; rw [hf]; rfl, rfl⟩
    · obtain rfl : j = rl.length := by omega
      go_wp2
      go_ret
      have hf : rl.findIdx? (fun r => r.id == id) = none := by
        rw [List.findIdx?_eq_none_iff]
        intro r hr
        obtain ⟨t, ht, rfl⟩ := List.getElem_of_mem hr
        simpa using HNO.out t ht ht
      exact ⟨by unfold idxR; rw [hf]; rfl, rfl⟩
def RNext (g : Nat) (rv : Value) (n0 : Nat) (σ : Int → Option CSt) (w w' : World) : Prop := ∃ rv' rl', RSes w' g rv' rl' ∧ rl'.length ≤ n0 + 1 ∧ sigR rl' = σ ∧ Mod (RSesF g rv) w w' ∧ (rv'.ownBlock = rv.ownBlock ∨ ∀ b, rv'.ownBlock = some b → w.heap.size ≤ b)
theorem RNext.same {g : Nat} {rv : Value} {rl : List RCl} {w w' : World} (h : RSes w g rv rl) (hb : Below w.heap.size w w') : RNext g rv rl.length (sigR rl) w w' := ⟨rv, rl, h.all hb, by omega, rfl, Mod.of_below _ hb, .inl rfl⟩
set_option maxRecDepth 100000 in
theorem rlast_any (g : Nat) (rv : Value) (rl : List RCl) (id : Int) (w : World) (HS : Hid (RSes w g rv rl)) (hl : rl.length ≤ 1000000) :
    Calls Try.prog 23 #[.pointer (some ⟨g, 0, none⟩), .int .i64 id] w fun e w' => e = .returned (.int .i64 ((sigR rl id).elim 0 (·.2.1))) ∧ w = w' := by
  have HF := Lib.hid (rfind_any g rv rl id w HS hl)
  rcases idxR_cases rl id with ⟨hi, hf⟩ | ⟨k, hk, hi, hf, -, -⟩
  · rw [hi] at HF
    have HE := Lib.hid (show (sigR rl id).elim 0 (·.2.1) = 0 by unfold sigR; rw [hf]; rfl)
    clear hi hf
    go_enter Try.func23, Try.ntmps23
    go_wp2_with fail
    refine HF.out.mono ?_
    rintro e w1 ⟨rfl, rfl⟩
    go_wp2
    go_ret
    exact ⟨by rw [HE.out]; rfl, rfl⟩
  · rw [hi] at HF
    have HE := Lib.hid (show (sigR rl id).elim 0 (·.2.1) = (rl[k]).last by unfold sigR; rw [hf]; rfl)
    obtain ⟨g1, cap, hv, t0, t1, t2, -⟩ := HS.out.row hk
    subst hv
    have d0 := HS.out.blk.cell 0
    simp only [List.getElem?_toArray, List.getElem?_cons_zero] at d0
    have hi0 : ¬ ((k : Int) < 0) := by omega
    have hi1 : (0 : Int) ≤ (k : Int) := by omega
    have hi2 : (k : Int) < (rl.length : Int) := by omega
    generalize hx : (rl[k]).last = x at *
    clear hi hf hx t0 t1
    go_enter Try.func23, Try.ntmps23
    go_wp2_with fail
    refine HF.out.mono ?_
    rintro e w1 ⟨rfl, rfl⟩
    go_wp2
    go_ret
    exact ⟨by rw [HE.out]; rfl, rfl⟩
theorem slT_rcl : SlT Try.prog 50 108 4 48 := SlT.of Try.underlying50 (by kernel_rfl) (by decide)
theorem slT_old : SlT Try.prog 106 112 4 48 := SlT.of Try.underlying106 (by kernel_rfl) (by decide)
def joinE (o : Option CSt) (id : Int) : Int := if ¬ (1 ≤ id ∧ id ≤ 1073741824) then 1 else if o.isSome then 8 else 0
def joinS (σ : Int → Option CSt) (id key : Int) : Int → Option CSt := if joinE (σ id) id = 0 then upd σ id (key, 0, []) else σ
theorem rcl_one (l : List RCl) : ∀ u ∈ l.flatMap RCl.cells, u.oneCell' = true := by
  intro u hu
  obtain ⟨a, _, hu⟩ := List.mem_flatMap.1 hu
  simp only [RCl.cells, List.mem_cons, List.not_mem_nil, or_false] at hu
  rcases hu with rfl | rfl | rfl | rfl <;> rfl
theorem old_one (l : List Old) : ∀ u ∈ l.flatMap Old.cells, u.oneCell' = true := by
  intro u hu
  obtain ⟨a, _, hu⟩ := List.mem_flatMap.1 hu
  simp only [Old.cells, List.mem_cons, List.not_mem_nil, or_false] at hu
  rcases hu with rfl | rfl | rfl | rfl <;> rfl
set_option maxRecDepth 100000 in
set_option maxHeartbeats 1000000 in
theorem rjoin_any (g : Nat) (rv : Value) (rl : List RCl) (id key : Int) (w : World) (HS : Hid (RSes w g rv rl)) (hl : rl.length ≤ 1000000) :
    Calls Try.prog 25 #[.pointer (some ⟨g, 0, none⟩), .int .i64 id, .int .u64 key] w fun e w' => e = .returned (.int .i64 (joinE (sigR rl id) id)) ∧ RNext g rv rl.length (joinS (sigR rl) id key) w w' := by
  have hsame : joinE (sigR rl id) id ≠ 0 → RNext g rv rl.length (joinS (sigR rl) id key) w w := fun h => by
    unfold joinS
    rw [if_neg h]
    exact RNext.same HS.out (Below.refl _ _)
  have HSAME := Lib.hid hsame
  clear hsame
  by_cases h1 : id < 1
  · have HE := Lib.hid (show joinE (sigR rl id) id = 1 by unfold joinE; rw [if_pos (by omega)])
    go_enter Try.func25, Try.ntmps25
    go_wp2
    go_ret
    exact ⟨by rw [HE.out]; rfl, HSAME.out (by rw [HE.out]; decide)⟩
  by_cases h2 : 1073741824 < id
  · have HE := Lib.hid (show joinE (sigR rl id) id = 1 by unfold joinE; rw [if_pos (by omega)])
    go_enter Try.func25, Try.ntmps25
    go_wp2
    go_ret
    exact ⟨by rw [HE.out]; rfl, HSAME.out (by rw [HE.out]; decide)⟩
  have HF := Lib.hid (rfind_any g rv rl id w HS hl)
  rcases idxR_cases rl id with ⟨hi, hf⟩ | ⟨k, hk, hi, hf, -, -⟩
  · have HNF := Lib.hid hf
    have HE := Lib.hid (show joinE (sigR rl id) id = 0 by unfold joinE sigR; rw [if_neg (by omega), hf]; rfl)
    rw [hi] at HF
    obtain ⟨A1, c1, rfl⟩ := own_parts HS.out.own
    have d0 := HS.out.blk.cell 0
    simp only [List.getElem?_toArray, List.getElem?_cons_zero] at d0
    have HO := Lib.hid HS.out.own
    clear hi hf
    go_enter Try.func25, Try.ntmps25
    go_wp2_with fail
    refine HF.out.mono ?_
    rintro e w1 ⟨rfl, rfl⟩
    go_wp2_with (at_builtin; refine wpList_append1 slT_rcl rfl rfl rfl w.heap.size rfl (HO.out.alloc _) #[.int .i64 id, .int .u64 key, .int .i64 0, .slice none 0 0] (Blk.new w _ _) rfl (by simp; exact ⟨rfl, rfl, rfl, rfl⟩) (by omega) (by decide) (by omega) ?_; intro g5 cap5 w9 ho9 hg9 hat9; have hb9 := (Blk.alloc HS.out.blk (.cells #[.int .i64 id, .int .u64 key, .int .i64 0, .slice none 0 0] 108)).grown hg9 (fun e => HS.out.ne e.symm rfl); have hc9 := hb9.cell 0; have hf9 := hb9.frozen 0; simp only [List.getElem?_toArray, List.getElem?_cons_zero] at hc9)
    go_ret
    have hmod : Mod (RSesF g (.slice A1 rl.length c1)) w w9 := Mod.then_grown ((Mod.refl _ w).alloc _) hg9 (fun b e => .inl (.inr e))
    have m2 : Mod (fun b => b = g) w9 (w9.setCell ⟨g, 0, none⟩ (.slice (some ⟨g5, 0, none⟩) (rl.length + 1) cap5)) := (Mod.refl (fun b => b = g) w9).set (p := ⟨g, 0, none⟩) (.inl rfl) _
    have hty : Ty w9 g5 108 := Ty.of_own ho9 rfl
    refine ⟨by rw [HE.out]; rfl, .slice (some ⟨g5, 0, none⟩) (rl.length + 1) cap5, rl ++ [⟨id, key, 0, none, 0, 0, []⟩], ⟨?_, ?_, ?_⟩, by simp, ?_, hmod.trans m2 (fun b e => .inl (.inl e)), ?_⟩
    · have := Blk.set_ hb9 0 (.slice (some ⟨g5, 0, none⟩) (rl.length + 1) cap5)
      simpa using this
    · rw [List.length_append, List.flatMap_append, List.flatMap_singleton]
      exact m2.own ho9 (fun b hb e => by
        injection hb with hb
        subst hb e
        exact absurd (Ty.unique hb9.ty hty) (by decide))
    · intro r hr
      rw [List.mem_append, List.mem_singleton] at hr
      rcases hr with hr | rfl
      · refine (((HS.out.ok r hr).mod hmod HS.out.noB HS.out.noO)).mod m2 ?_ ?_
        · rintro b rfl ht
          exact absurd (Ty.unique hb9.ty ht) (by decide)
        · rintro b rfl ht
          exact absurd (Ty.unique hb9.ty ht) (by decide)
      · exact ⟨rfl, Nat.le_refl _, by simp, RowT.nil _ _ _, by simp, ⟨by simp, by simp⟩, by simp, by simp⟩
    · unfold joinS
      rw [if_pos HE.out]
      exact sigR_snoc (r := ⟨id, key, 0, none, 0, 0, []⟩) HNF.out
    · rcases hat9 with e | e
      · left
        exact e
      · right
        intro b hb
        injection hb with hb
        have e' : g5 = w.heap.size + 1 := by simpa using e
        have hb' : g5 = b := hb
        omega
  · rw [hi] at HF
    have HE := Lib.hid (show joinE (sigR rl id) id = 8 by unfold joinE sigR; rw [if_neg (by omega), hf]; rfl)
    have hi0 : (0 : Int) ≤ (k : Int) := by omega
    clear hi hf
    go_enter Try.func25, Try.ntmps25
    go_wp2_with fail
    refine HF.out.mono ?_
    rintro e w1 ⟨rfl, rfl⟩
    go_wp2
    go_ret
    exact ⟨by rw [HE.out]; rfl, HSAME.out (by rw [HE.out]; decide)⟩
def RCopy (rl : List RCl) (w : World) (e : Ending) (w' : World) : Prop := ∃ g' rv', e = .returned (.pointer (some ⟨g', 0, none⟩)) ∧ RSes w' g' rv' rl ∧ (∀ b, RSesF g' rv' b → w.heap.size ≤ b) ∧ Below w.heap.size w w'
set_option maxRecDepth 100000 in
set_option maxHeartbeats 1000000 in
theorem rcopy_any (g : Nat) (rv : Value) (rl : List RCl) (w : World) (HS : Hid (RSes w g rv rl)) (hl : rl.length ≤ 1000000) :
    Calls Try.prog 29 #[.pointer (some ⟨g, 0, none⟩)] w (RCopy rl w) := by
  obtain ⟨A1, c1, rfl⟩ := own_parts HS.out.own
  have d0 := HS.out.blk.cell 0
  simp only [List.getElem?_toArray, List.getElem?_cons_zero] at d0
  have hA : A1 = none → rl.length = 0 := by
    rintro rfl
    rcases HS.out.own.2 with ⟨h, h0⟩ | ⟨g1, cap, cur, h, _⟩
    · exact h0
    · cases h
  obtain ⟨v1, w1, hap1, hown1, hg1, hat1⟩ := run_append_rows (P := Try.prog) (w := w) (base := w.heap.size) (ty := 50) slT_rcl (World.ownsRow_nil w _ _ _) A1 rl.length c1 (rl.flatMap RCl.cells) (by rw [flat_length RCl.cells 4 RCl.cells_length]) hA
    (fun ad e i u hu => by
      have ho := HS.out.own
      subst e
      rcases ho.2 with ⟨h, h0⟩ | ⟨g1, cap, cur, h, _⟩
      · cases h
      · injection h with h _ _
        injection h with h
        subst h
        have hil := (List.getElem?_eq_some_iff.1 hu).1
        rw [flat_length RCl.cells 4 RCl.cells_length] at hil
        have ea : (⟨g1, 0, none⟩ : Addr).add i = ⟨g1, i, none⟩ := by unfold Addr.add; split <;> simp_all
        rw [ea, ho.cellAt i hil]
        exact hu) (rcl_one _) (by omega) (by decide) (Nat.le_refl _)
  rw [Nat.zero_add, List.nil_append] at hown1
  have hb1 : Below w.heap.size w w1 := (Below.refl _ _).grown hg1 (Nat.le_refl _) (fun k e => by simp [Value.ownBlock] at e)
  obtain ⟨A2, c2, rfl⟩ := own_parts hown1
  have HAP := Lib.hid hap1
  have HOW := Lib.hid hown1
  have HB := Lib.hid hb1
  clear hap1 hown1 hb1 hg1 hat1 hA
  go_enter Try.func29, Try.ntmps29
  go_wp2_with (at_builtin; refine wpList_append_run HAP.out rfl rfl rfl rfl ?_)
  go_ret
  have hb2 := (Below.refl w1.heap.size w1).alloc (Nat.le_refl _) (.cells #[.slice A2 rl.length c2] 52)
  refine ⟨_, _, rfl, ⟨Blk.new _ _ _, own_lower (own_keep HOW.out hb2) (Nat.zero_le _), fun r hr => ?_⟩, ?_, bt HB.out hb2⟩
  · exact ((HS.out.all HB.out).all hb2).ok r hr
  · rintro b (rfl | hb)
    · exact HB.out.size
    · exact (HOW.out.lt b hb).1
end Go.Proofs.Ytompkpleiichaaa
