/- client: the package's Sessions told as the reference's are. -/
import Derived.Test.YtompkpleiichaaaCliCopy
namespace Go.Proofs.Ytompkpleiichaaa
open Go.RowKit

def PNext (g mb : Nat) (cl : List Cl) (σ : Int → Option CSt) (w w' : World) : Prop := ∃ cl', SesAt w' g mb cl' ∧ sigP cl' = σ ∧ Mod (SesF g mb cl) w w' ∧ ∀ b, SesF g mb cl' b → SesF g mb cl b ∨ w.heap.size ≤ b
theorem PNext.same {g mb : Nat} {cl : List Cl} {w w' : World} (h : SesAt w g mb cl) (hb : Below w.heap.size w w') : PNext g mb cl (sigP cl) w w' := ⟨cl, h.all hb, rfl, Mod.of_below _ hb, fun _ h => .inl h⟩
theorem sigP_upd {w : World} {g mb : Nat} {l1 l2 : List Cl} {c c' : Cl} (h : SesAt w g mb (l1 ++ c :: l2)) (hid : c'.id = c.id) : sigP (l1 ++ c' :: l2) = upd (sigP (l1 ++ c :: l2)) c.id c'.st := by
  have hn := IMap.nodup' h.map
  rw [List.map_map] at hn
  have hno : ∀ x ∈ l1, x.id ≠ c.id := by
    intro x hx e
    rw [List.map_append, List.nodup_append] at hn
    exact hn.2.2 x.id (List.mem_map.2 ⟨x, hx, rfl⟩) c.id (by simp) e
  funext j
  unfold sigP upd findC
  dsimp only
  rw [List.find?_append, List.find?_append, List.find?_cons, List.find?_cons, hid]
  by_cases hj : j = c.id
  · subst hj
    have h1 : l1.find? (fun x => x.id == c.id) = none := by
      rw [List.find?_eq_none]
      intro x hx
      simpa using hno x hx
    simp [h1]
  · have : ¬ c.id = j := fun e => hj e.symm
    rw [show (c.id == j) = false by simpa using this]
    simp [hj]
theorem sigP_some {cl : List Cl} {id : Int} {c : Cl} (h : findC cl id = some c) : sigP cl id = some c.st := by unfold sigP; rw [h]; rfl
theorem sigP_none {cl : List Cl} {id : Int} (h : findC cl id = none) : sigP cl id = none := by unfold sigP; rw [h]; rfl
theorem lastP_any (g mb : Nat) (cl : List Cl) (id : Int) (w : World) (HS : Hid (SesAt w g mb cl)) : Calls Try.prog 22 #[.pointer (some ⟨g, 0, none⟩), .int .i64 id] w fun e w' => e = .returned (.int .i64 ((sigP cl id).elim 0 (·.2.1))) ∧ w = w' :=
  (lastS_any g mb cl id w HS).mono fun e w' ⟨he, hw⟩ => ⟨by
    rw [he]
    unfold sigP
    cases findC cl id <;> rfl, hw⟩
theorem joinP_any (g mb : Nat) (cl : List Cl) (id key : Int) (w : World) (HS : Hid (SesAt w g mb cl)) :
    Calls Try.prog 11 #[.pointer (some ⟨g, 0, none⟩), .int .i64 id, .int .u64 key] w fun e w' => e = .returned (.int .i64 (joinE (sigP cl id) id)) ∧ PNext g mb cl (joinS (sigP cl) id key) w w' := by
  by_cases h : 1 ≤ id ∧ id ≤ 1073741824
  · rcases hf : findC cl id with _ | c
    · have he : joinE (sigP cl id) id = 0 := by unfold joinE; rw [if_neg (by omega), sigP_none hf]; rfl
      refine (join_yes g mb cl id key w HS h.1 h.2 hf).mono ?_
      rintro e w' ⟨sb, rfl, hS, hm, hF⟩
      exact ⟨by rw [he], _, hS, by unfold joinS; rw [if_pos he]; exact sigP_snoc (c := ⟨id, key, 0, [], sb, .slice none 0 0⟩) hf, hm, hF⟩
    · have he : joinE (sigP cl id) id = 8 := by unfold joinE; rw [if_neg (by omega), sigP_some hf]; rfl
      refine (join_twice g mb cl c id key w HS h.1 h.2 hf).mono ?_
      rintro e w' ⟨rfl, rfl⟩
      exact ⟨by rw [he], by unfold joinS; rw [if_neg (by rw [he]; decide)]; exact PNext.same HS.out (Below.refl _ _)⟩
  · have he : joinE (sigP cl id) id = 1 := by unfold joinE; rw [if_pos h]
    refine (join_arg g id key w h).mono ?_
    rintro e w' ⟨rfl, rfl⟩
    exact ⟨by rw [he], by unfold joinS; rw [if_neg (by rw [he]; decide)]; exact PNext.same HS.out (Below.refl _ _)⟩
def PAccPost (g mb : Nat) (cl : List Cl) (r : Rq) (w : World) (e : Ending) (w' : World) : Prop :=
  ∃ A n cap, e = .returned (.tuple #[.bool (acRes (sigP cl) r).1, .slice A n cap, .int .i64 (acRes (sigP cl) r).2.2]) ∧ Bts w' A n cap (acRes (sigP cl) r).2.1 ∧ PNext g mb cl (acSt (sigP cl) r) w w'
theorem acceptP_any (g mb : Nat) (cl : List Cl) (r : Rq) (w : World) (HS : Hid (SesAt w g mb cl)) (HR : Hid (r.ok w)) (h5 : r.num ≤ 9223372036854775807) (HLT : Hid (∀ s, sigP cl r.cl = some s → s.2.1 < 4611686018427387904)) :
    Calls Try.prog 20 #[.pointer (some ⟨g, 0, none⟩), .agg #[.int .i64 r.cl, .int .i64 r.num, .slice r.A r.n r.c, .int .u64 r.tag]] w (PAccPost g mb cl r w) := by
  by_cases h : (r.cl < 1 ∨ 1073741824 < r.cl) ∨ r.num < 1 ∨ 65536 < r.n
  · have he : acRes (sigP cl) r = (false, [], 1) := by unfold acRes; rw [if_pos h]
    refine (accept_arg g r w (by omega)).mono ?_
    rintro e w' ⟨rfl, hb⟩
    exact ⟨none, 0, 0, by rw [he], by rw [he]; exact Bts.nil _, by unfold acSt; rw [he]; exact PNext.same HS.out hb⟩
  · rcases hf : findC cl r.cl with _ | c
    · have he : acRes (sigP cl) r = (false, [], 7) := by unfold acRes; rw [if_neg h, sigP_none hf]
      refine (accept_none g mb cl r w HS (Lib.hid hf) (by omega) (by omega) (by omega) (by omega)).mono ?_
      rintro e w' ⟨rfl, hb⟩
      exact ⟨none, 0, 0, by rw [he], by rw [he]; exact Bts.nil _, by unfold acSt; rw [he]; exact PNext.same HS.out hb⟩
    · obtain ⟨l1, l2, rfl, hid⟩ := findC_split hf
      have hs := sigP_some hf
      have he : acRes (sigP (l1 ++ c :: l2)) r = accRes (tagOk c.key r) c.last (c.acc.map Acc.log) r.num (bodyI r.bs) := by unfold acRes; rw [if_neg h, hs]; rfl
      refine (accept_joined g mb l1 l2 c r w HS (Lib.hid hf) HR (by omega) (by omega) (by omega) (by omega) h5 (HLT.out _ hs)).mono ?_
      rintro e w' ⟨A, n, cap, c', rfl, hB, hi, hk, hst, hS, hm, hF⟩
      refine ⟨A, n, cap, by rw [he], by rw [he]; exact hB, _, hS, ?_, hm, hF⟩
      rw [sigP_upd HS.out hi]
      unfold acSt
      rw [hs, he]
      dsimp only
      have hst' : c'.st = (c.key, accNew (tagOk c.key r) c.last (c.acc.map Acc.log) r.num (bodyI r.bs)) := by unfold Cl.st; rw [hk, hst]
      rw [hst', hid]
      split
      · rfl
      · rename_i hno
        refine upd_same ?_
        rw [hs]
        unfold accNew Cl.st
        rw [if_neg hno]
def PAnsPost (g mb : Nat) (cl : List Cl) (id num : Int) (n : Nat) (bs : List UInt8) (w : World) (e : Ending) (w' : World) : Prop := e = .returned (.int .i64 (anErr (sigP cl) id num n)) ∧ PNext g mb cl (anSt (sigP cl) id num n bs) w w'
theorem answerP_any (g mb : Nat) (cl : List Cl) (id num : Int) (A : Option Addr) (n cc : Nat) (bs : List UInt8) (w : World) (HS : Hid (SesAt w g mb cl)) (HB : Hid (Bts w A n cc bs)) (hn : n ≤ 1048576) :
    Calls Try.prog 26 #[.pointer (some ⟨g, 0, none⟩), .int .i64 id, .int .i64 num, .slice A n cc] w (PAnsPost g mb cl id num n bs w) := by
  rcases hf : findC cl id with _ | c
  · refine (answer_none g mb cl id num A n cc w HS (Lib.hid hf)).mono ?_
    rintro e w' ⟨rfl, rfl⟩
    exact ⟨by unfold anErr; rw [sigP_none hf], by unfold anSt; rw [sigP_none hf]; exact PNext.same HS.out (Below.refl _ _)⟩
  · obtain ⟨l1, l2, rfl, hid⟩ := findC_split hf
    have hs := sigP_some hf
    refine (answer_joined g mb l1 l2 c id num A n cc bs w HS (Lib.hid hf) HB hn).mono ?_
    rintro e w' ⟨c', rfl, hi, hk, hl, hst, hS, hm, hF⟩
    refine ⟨by unfold anErr; rw [hs]; rfl, _, hS, ?_, hm, hF⟩
    rw [sigP_upd HS.out hi]
    unfold anSt
    rw [hs]
    dsimp only
    have hst' : c'.st = (c.key, c.last, ansNew c.last (c.acc.map Acc.log) num n bs) := by unfold Cl.st; rw [hk, hl, hst]
    rw [hst', hid]
    rfl
end Go.Proofs.Ytompkpleiichaaa
