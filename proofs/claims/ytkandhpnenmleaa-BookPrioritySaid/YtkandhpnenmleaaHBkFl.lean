/- book: a full book, plain. -/
import Derived.Test.YtkandhpnenmleaaHNc

namespace Go.Proofs.Ytkandhpnenmleaa
open Go.RowKit

def fullOs (i : Nat) : List Ord := (List.range i).map fun (k : Nat) => ⟨(k : Int), 1, true, 1, 1, 1⟩
def fullB (i : Nat) : BkS := ⟨fullOs i, List.range i, []⟩
theorem fullOs_len (i : Nat) : (fullOs i).length = i := by simp [fullOs]
theorem fullOs_succ (i : Nat) : fullOs i ++ [⟨(i : Int), 1, true, 1, 1, 1⟩] = fullOs (i + 1) := by
  unfold fullOs
  rw [List.range_succ, List.map_append]
  rfl
theorem fullOs_at {i k : Nat} (hk : k < i) : ordAt (fullOs i) k = ⟨(k : Int), 1, true, 1, 1, 1⟩ := by
  rw [ordAt_eq (by rw [fullOs_len]; exact hk)]
  unfold fullOs
  simp
theorem full_place {i : Nat} (hi : i < 4096) : placeE (fullB i) 1 true 1 1 = ((i : Int), [], 0, fullB (i + 1)) := by
  have he : placeErr (fullB i) 1 1 1 = 0 := by
    unfold placeErr
    rw [if_neg (by omega), if_neg (by decide), if_neg]
    show ¬ 4096 ≤ (List.range i).length + 0
    rw [List.length_range]
    omega
  have hl : (fullB i).os.length = i := fullOs_len i
  unfold placeE
  rw [if_pos he, hl]
  have hS : placeS (fullB i) 1 true 1 1 = ([], fullB (i + 1)) := by
    unfold placeS
    rw [hl]
    have hm : matchP (fullB i).os ⟨(i : Int), 1, true, 1, 1, 1⟩ ((fullB i).side !true) = ([], ⟨(i : Int), 1, true, 1, 1, 1⟩, fullOs i, []) := rfl
    rw [hm]
    dsimp only
    rw [if_pos (by decide)]
    refine Prod.ext rfl ?_
    dsimp only
    unfold BkS.opened
    dsimp only
    have hs : (((fullB i).put (!true) []).setOs (fullOs i ++ [⟨(i : Int), 1, true, 1, 1, 1⟩])).side true = List.range i := rfl
    rw [hs]
    have hos : (((fullB i).put (!true) []).setOs (fullOs i ++ [⟨(i : Int), 1, true, 1, 1, 1⟩])).os = fullOs (i + 1) := fullOs_succ i
    rw [hos]
    have hp : placeN (fullOs (i + 1)) (List.range i) ⟨(i : Int), 1, true, 1, 1, 1⟩ = i := by
      unfold placeN
      dsimp only
      have : List.findIdx (fun id => !betterB true (ordAt (fullOs (i + 1)) id) ⟨(i : Int), 1, true, 1, 1, 1⟩) (List.range i) = (List.range i).length := by
        rw [List.findIdx_eq_length]
        intro x hx
        have hx2 := List.mem_range.1 hx
        rw [fullOs_at (by omega)]
        unfold betterB
        simp
        omega
      rw [this, List.length_range]
    rw [hp]
    have ht : List.take i (List.range i) = List.range i := List.take_of_length_le (by simp)
    have hd : List.drop i (List.range i) = [] := List.drop_of_length_le (by simp)
    rw [ht, hd, List.append_nil, Int.toNat_natCast, ← List.range_succ]
    unfold BkS.put BkS.setOs
    simp only [Bool.not_true, if_true, Bool.false_eq_true, if_false]
    rw [fullOs_succ]
    rfl
  rw [hS]
/-- The book of the second loop. -/
structure F2 (k : Nat) (b : BkS) : Prop where
  ok : b.Ok
  ss : b.ss = []
  old : ∀ j, k ≤ j → j < 4090 → j ∈ b.bs ∧ (ordAt b.os j).acc = 1 ∧ (ordAt b.os j).left = 1
  len : b.os.length ≤ 4090 + k
theorem fullB_os (i : Nat) : (fullB i).os = fullOs i := rfl
theorem fullB_bs (i : Nat) : (fullB i).bs = List.range i := rfl
theorem fullB_ss (i : Nat) : (fullB i).ss = [] := rfl
theorem F2.start' {i : Nat} (hi : i = 4090) (h : (fullB i).Ok) : F2 0 (fullB i) := by
  refine ⟨h, rfl, fun j _ hj => ⟨?_, ?_, ?_⟩, ?_⟩
  · rw [fullB_bs]
    exact List.mem_range.2 (by omega)
  · rw [fullB_os, fullOs_at (by omega)]
  · rw [fullB_os, fullOs_at (by omega)]
  · rw [fullB_os, fullOs_len]
    omega
theorem open_len {b : BkS} (h : b.Ok) : b.openOs.length = b.bs.length + b.ss.length := by
  rw [← BkS.openIds_len h]
  unfold BkS.openOs
  rw [List.length_map]
theorem F2.cancel {k : Nat} {b : BkS} (h : F2 k b) (hk : k < 20) : ∃ b', cancelE b 1 (k : Int) = (1, 0, b') ∧ (b'.Ok → F2 (k + 1) b' ∧ b'.openOs.length + 1 = b.openOs.length) := by
  obtain ⟨h1, h2, h3⟩ := h.old k (Nat.le_refl _) (by omega)
  have hlt : k < b.os.length := (h.ok.mem true k h1).1
  have hin : b.isIn k = true := isIn_of (s := true) h1
  refine ⟨b.ended (ordAt b.os k), ?_, fun hok => ?_⟩
  · unfold cancelE
    rw [if_neg (by omega), Int.toNat_natCast, if_neg (by rw [isOpenB_eq h.ok hlt, hin]; simp), if_neg (by rw [h2]; simp), h3]
  · have he := BkS.ended_eq h.ok hin
    rw [he] at hok ⊢
    have hbs : (b.keep fun j => j != k).bs = b.bs.filter fun j => j != k := rfl
    have hss : (b.keep fun j => j != k).ss = [] := by
      show b.ss.filter _ = []
      rw [h.ss]
      rfl
    refine ⟨⟨hok, hss, fun j hj1 hj2 => ?_, by have := h.len; show b.os.length ≤ _; omega⟩, ?_⟩
    · obtain ⟨g1, g2, g3⟩ := h.old j (by omega) hj2
      refine ⟨?_, g2, g3⟩
      rw [hbs]
      refine List.mem_filter.2 ⟨g1, ?_⟩
      simp
      omega
    · rw [open_len hok, open_len h.ok, hbs, hss, h.ss]
      have hnd : b.bs.Nodup := (h.ok.sorted true).nodup
      rw [← filter_erase hnd k, List.length_eraseIdx]
      have : b.bs.idxOf k < b.bs.length := List.idxOf_lt_length_of_mem h1
      rw [if_pos this]
      simp
      omega
theorem F2.place {k : Nat} {b : BkS} (h : F2 k b) {p : Int} (hp : 1 ≤ p ∧ p ≤ 1000) (hf : b.openOs.length < 4096) : ∃ id b', placeE b 2 true p 1 = (id, [], 0, b') ∧ (b'.Ok → F2 (k + 1) b') := by
  have hlen := open_len h.ok
  have he : placeErr b 2 p 1 = 0 := by
    unfold placeErr
    rw [if_neg (by omega), if_neg, if_neg (by omega)]
    have h1 : inR p = true := by unfold inR; simp; omega
    have h2 : inR 1 = true := by decide
    rw [h1, h2, show (1099511627776 : Int).tdiv 1 = 1099511627776 by decide]
    simp
    omega
  have hside : b.side (!true) = [] := h.ss
  have hS : placeS b 2 true p 1 = ([], (((b.put (!true) []).setOs (b.os ++ [⟨b.os.length, 2, true, p, 1, 1⟩])).opened ⟨b.os.length, 2, true, p, 1, 1⟩)) := by
    unfold placeS
    rw [hside]
    rfl
  refine ⟨(b.os.length : Int), (((b.put (!true) []).setOs (b.os ++ [⟨b.os.length, 2, true, p, 1, 1⟩])).opened ⟨b.os.length, 2, true, p, 1, 1⟩), ?_, fun hok => ?_⟩
  · unfold placeE
    rw [if_pos he, hS]
  · have hos : (((b.put (!true) []).setOs (b.os ++ [⟨b.os.length, 2, true, p, 1, 1⟩])).opened ⟨b.os.length, 2, true, p, 1, 1⟩).os = b.os ++ [⟨b.os.length, 2, true, p, 1, 1⟩] := opened_os _ _
    refine ⟨hok, rfl, fun j hj1 hj2 => ?_, by rw [hos, List.length_append]; have := h.len; simp; omega⟩
    obtain ⟨g1, g2, g3⟩ := h.old j (by omega) hj2
    have hlt := (h.ok.mem true j g1).1
    rw [hos, ordAt_app, if_neg (by omega)]
    refine ⟨?_, g2, g3⟩
    show j ∈ List.take _ b.bs ++ [_] ++ List.drop _ b.bs
    obtain ⟨q, hq⟩ : ∃ q, placeN ((b.put (!true) []).setOs (b.os ++ [⟨b.os.length, 2, true, p, 1, 1⟩])).os b.bs ⟨b.os.length, 2, true, p, 1, 1⟩ = q := ⟨_, rfl⟩
    have key : ∀ q z, j ∈ List.take q b.bs ++ [z] ++ List.drop q b.bs := by
      intro q z
      have : j ∈ List.take q b.bs ++ List.drop q b.bs := by rw [List.take_append_drop]; exact g1
      simp only [List.mem_append, List.mem_singleton] at this ⊢
      rcases this with h | h
      · exact .inl (.inl h)
      · exact .inr h
    exact key _ _
theorem F2.full {k : Nat} {b : BkS} (h : F2 k b) {p : Int} (hp : 1 ≤ p ∧ p ≤ 1000) (hf : 4096 ≤ b.openOs.length) : placeE b 2 true p 1 = (0, [], 4, b) ∧ F2 (k + 1) b := by
  have hlen := open_len h.ok
  refine ⟨?_, ⟨h.ok, h.ss, fun j h1 h2 => h.old j (by omega) h2, by have := h.len; omega⟩⟩
  unfold placeE
  have he : placeErr b 2 p 1 = 4 := by
    unfold placeErr
    rw [if_neg (by omega), if_neg, if_pos (by omega)]
    have h1 : inR p = true := by unfold inR; simp; omega
    have h2 : inR 1 = true := by decide
    rw [h1, h2, show (1099511627776 : Int).tdiv 1 = 1099511627776 by decide]
    simp
    omega
  rw [he, if_neg (by decide)]
end Go.Proofs.Ytkandhpnenmleaa
