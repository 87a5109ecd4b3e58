/- package parser: the reader of tokens: is, need. -/
import Derived.Test.YtgepbklpobobbaaGreatDoorHG17
import Derived.Test.YtgepbklpobobbaaGreatDoorHG15
import Derived.Test.YtgepbklpobobbaaGreatDoorHGMap
import Derived.Test.YtgepbklpobobbaaGreatDoorHG2
import Derived.StillTailTactics
import Derived.StringKeys
import Derived.Laws.EntriesVeiled

namespace Go.Proofs.YtgepbklpobobbaaGreatDoor
open Go.RowKit

/-- A slice of tokens, read only. -/
def TkIs (w : World) (A : Option Addr) (n c : Nat) (ts : List Tk) : Prop := ts.length = n ∧ n ≤ c ∧ c ≤ 9223372036854775807 ∧ RowT w 189 A (ts.flatMap tkV)
section
variable {w w' : World} {A : Option Addr} {n c : Nat} {ts : List Tk} {F : Nat → Prop}
theorem TkIs.mod (h : TkIs w A n c ts) (m : Mod F w w') (hF : ∀ b, F b → ¬ Ty w b 189) : TkIs w' A n c ts := ⟨h.1, h.2.1, h.2.2.1, h.2.2.2.mod m hF⟩
theorem TkIs.all (h : TkIs w A n c ts) (hb : Below w.heap.size w w') : TkIs w' A n c ts := h.mod (F := fun _ => False) (Mod.of_below _ hb) (fun _ hf => hf.elim)
theorem TkIs.head {t : Tk} (h : TkIs w A n c (t :: ts)) : ∃ b off, A = some ⟨b, off, none⟩ ∧ b < w.heap.size ∧ Ty w b 189 ∧ w.cell? ⟨b, off, none⟩ = some (.int .i64 t.kind) ∧ w.cell? ⟨b, off + 1, none⟩ = some (.string t.text) ∧ w.cell? ⟨b, off + 2, none⟩ = some (.int .i64 t.n) ∧ w.cell? ⟨b, off + 3, none⟩ = some (.int .i64 t.at_) := by
  obtain ⟨b, off, e, h1, h2, hc⟩ := h.2.2.2.cells (by rw [flatT_length tkV 4 tkV_len]; simp)
  have hl : ((t :: ts).flatMap tkV).length = (t :: ts).length * 4 := flatT_length tkV 4 tkV_len _
  rw [List.length_cons] at hl
  refine ⟨b, off, e, h1, h2, ?_, ?_, ?_, ?_⟩
  · exact hc 0 (by omega)
  · exact hc 1 (by omega)
  · exact hc 2 (by omega)
  · exact hc 3 (by omega)
/-- The slice behind its first token. -/
theorem TkIs.tail {t : Tk} {b off : Nat} (h : TkIs w (some ⟨b, off, none⟩) n c (t :: ts)) : (c ≠ 1 → TkIs w (some ⟨b, off + 4, none⟩) (n - 1) (c - 1) ts) ∧ (c = 1 → ts = [] ∧ n = 1) := by
  obtain ⟨h1, h2, h3, h4⟩ := h
  rw [List.length_cons] at h1
  refine ⟨fun hc => ⟨by omega, by omega, by omega, fun hn => ?_⟩, fun hc => ⟨List.eq_nil_of_length_eq_zero (by omega), by omega⟩⟩
  have hl : ((t :: ts).flatMap tkV).length = (t :: ts).length * 4 := flatT_length tkV 4 tkV_len _
  have hl2 : (ts.flatMap tkV).length = ts.length * 4 := flatT_length tkV 4 tkV_len _
  rw [List.length_cons] at hl
  obtain ⟨b2, o2, e2, h5⟩ := h4.drop 4 (by omega)
  injection e2 with e2
  injection e2 with e3 e4
  subst e3 e4
  have e5 : ((t :: ts).flatMap tkV).drop 4 = ts.flatMap tkV := by rw [List.flatMap_cons]; rfl
  rw [e5] at h5
  exact h5 hn
end
/-- What stands in the reader's block: its tokens, the text's end, the declaration. -/
def rdC (A : Option Addr) (n c : Nat) (e : Int) (D : List Value) : Array Value := (Value.slice A n c :: .int .i64 e :: D).toArray
set_option maxRecDepth 100000 in
theorem is_kind (r : Nat) (A : Option Addr) (n c : Nat) (e : Int) (D : List Value) (t : Tk) (ts : List Tk) (k : Int) (s : ByteArray) (w : World) (HB : Hid (Blk w r 147 (rdC A n c e D))) (HT : Hid (TkIs w A n c (t :: ts))) (hk : t.kind ≠ k) :
    Calls Tryz.prog 96 #[.pointer (some ⟨r, 0, none⟩), .int .i64 k, .string s] w fun e w' => e = .returned (.bool false) ∧ w' = w := by
  have c0 : w.cell? ⟨r, 0, none⟩ = some (.slice A n c) := HB.out.cell 0
  obtain ⟨b, off, rfl, -, -, t0, t1, t2, t3⟩ := HT.out.head
  have hn := HT.out.1
  rw [List.length_cons] at hn
  have hn0 : (0 : Int) < (n : Int) := by omega
  have hkb : (t.kind == k) = false := by simpa using hk
  clear hn hk
  go_enter Tryz.func96, Tryz.ntmps96
  go_wp2
  go_ret
  exact ⟨rfl, rfl⟩
set_option maxRecDepth 100000 in
theorem is_empty (r : Nat) (A : Option Addr) (n c : Nat) (e : Int) (D : List Value) (t : Tk) (ts : List Tk) (k : Int) (w : World) (HB : Hid (Blk w r 147 (rdC A n c e D))) (HT : Hid (TkIs w A n c (t :: ts))) (hk : t.kind = k) :
    Calls Tryz.prog 96 #[.pointer (some ⟨r, 0, none⟩), .int .i64 k, .string ⟨#[]⟩] w fun e w' => e = .returned (.bool true) ∧ w' = w := by
  have c0 : w.cell? ⟨r, 0, none⟩ = some (.slice A n c) := HB.out.cell 0
  obtain ⟨b, off, rfl, -, -, t0, t1, t2, t3⟩ := HT.out.head
  have hn := HT.out.1
  rw [List.length_cons] at hn
  have hn0 : (0 : Int) < (n : Int) := by omega
  rw [hk] at t0
  clear hn hk
  go_enter Tryz.func96, Tryz.ntmps96
  go_wp2
  go_ret
  exact ⟨rfl, rfl⟩
set_option maxRecDepth 100000 in
theorem is_text (r : Nat) (A : Option Addr) (n c : Nat) (e : Int) (D : List Value) (t : Tk) (ts : List Tk) (k : Int) (s : ByteArray) (w : World) (HB : Hid (Blk w r 147 (rdC A n c e D))) (HT : Hid (TkIs w A n c (t :: ts))) (hk : t.kind = k) (hs : s.toList.isEmpty = false) (ht : t.text = s) :
    Calls Tryz.prog 96 #[.pointer (some ⟨r, 0, none⟩), .int .i64 k, .string s] w fun e w' => e = .returned (.bool true) ∧ w' = w := by
  have c0 : w.cell? ⟨r, 0, none⟩ = some (.slice A n c) := HB.out.cell 0
  obtain ⟨b, off, rfl, -, -, t0, t1, t2, t3⟩ := HT.out.head
  have hn := HT.out.1
  rw [List.length_cons] at hn
  have hn0 : (0 : Int) < (n : Int) := by omega
  rw [hk] at t0
  rw [ht] at t1
  clear hn hk ht
  go_enter Tryz.func96, Tryz.ntmps96
  go_wp2
  go_ret
  exact ⟨rfl, rfl⟩
end Go.Proofs.YtgepbklpobobbaaGreatDoor

/- package parser: need. -/
namespace Go.Proofs.YtgepbklpobobbaaGreatDoor
open Go.RowKit

/-- The reader behind a token that was read. -/
def NeedTo (r : Nat) (n : Nat) (e : Int) (D : List Value) (ts : List Tk) (w w' : World) : Prop := ∃ A' c', Blk w' r 147 (rdC A' (n - 1) c' e D) ∧ TkIs w' A' (n - 1) c' ts ∧ Mod (fun x => x = r) w w'
set_option maxRecDepth 100000 in
set_option maxHeartbeats 4000000 in
theorem need_any (r : Nat) (A : Option Addr) (n c : Nat) (e : Int) (D : List Value) (t : Tk) (ts : List Tk) (k : Int) (s : ByteArray) (w : World) (HB : Hid (Blk w r 147 (rdC A n c e D))) (HT : Hid (TkIs w A n c (t :: ts)))
    (HIS : Hid (∀ W, Blk W r 147 (rdC A n c e D) → TkIs W A n c (t :: ts) → Calls Tryz.prog 96 #[.pointer (some ⟨r, 0, none⟩), .int .i64 k, .string s] W fun e w' => e = .returned (.bool true) ∧ w' = W)) :
    Calls Tryz.prog 98 #[.pointer (some ⟨r, 0, none⟩), .int .i64 k, .string s] w fun x w' => x = .returned (tkA t) ∧ NeedTo r n e D ts w w' := by
  obtain ⟨b, off, rfl, hbl, hbt, -, -, -, -⟩ := HT.out.head
  have hbr : b ≠ r := fun e => by subst e; exact absurd (hbt.unique HB.out.ty) (by decide)
  have hrl := HB.out.lt
  have h1 := ((Below.refl w.heap.size w).alloc (Nat.le_refl _) (.cells #[.int .i64 0, .string ⟨#[]⟩, .int .i64 0, .int .i64 0] 189))
  have k1 := Blk.new w 189 #[.int .i64 0, .string ⟨#[]⟩, .int .i64 0, .int .i64 0]
  go_enter Tryz.func98, Tryz.ntmps98
  go_wp2_with fail
  obtain ⟨w1, hw1⟩ : ∃ w1, w.alloc (.cells #[.int .i64 0, .string ⟨#[]⟩, .int .i64 0, .int .i64 0] 189) = w1 := ⟨_, rfl⟩
  rw [hw1] at h1 k1 ⊢
  have k3 := HB.out.all h1
  have ht := HT.out.all h1
  refine (HIS.out w1 k3 ht).mono ?_
  rintro e1 w4 ⟨rfl, hw4⟩
  rw [hw4]
  clear hw4
  obtain ⟨b', off', e', -, -, t0, t1, t2, t3⟩ := ht.head
  injection e' with e'
  injection e' with e1 e2
  subst e1 e2
  have c0 : w1.cell? ⟨r, 0, none⟩ = some (.slice (some ⟨b, off, none⟩) n c) := k3.cell 0
  have hn := HT.out.1
  have hcm := HT.out.2.2.1
  have hnc := HT.out.2.1
  rw [List.length_cons] at hn
  have hn1 : (1 : Int) ≤ (n : Int) := by omega
  have hn0 : (0 : Int) < (n : Int) := by omega
  obtain ⟨b0, hb0⟩ : ∃ b0, w.heap.size = b0 := ⟨_, rfl⟩
  have hsz1 : w1.heap.size = b0 + 1 := by rw [← hw1, ← hb0]; simp
  rw [hb0] at k1
  have h2 := (Below.refl w1.heap.size w1).alloc (Nat.le_refl _) (.cells #[.int .i64 t.kind, .string t.text, .int .i64 t.n, .int .i64 t.at_] 189)
  have k2 := Blk.new w1 189 #[.int .i64 t.kind, .string t.text, .int .i64 t.n, .int .i64 t.at_]
  obtain ⟨w2, hw2⟩ : ∃ w2, w1.alloc (.cells #[.int .i64 t.kind, .string t.text, .int .i64 t.n, .int .i64 t.at_] 189) = w2 := ⟨_, rfl⟩
  rw [hw2] at h2 k2
  rw [hsz1] at k2
  have k1 := k1.all h2
  have k3 := k3.all h2
  have c2 : w2.cell? ⟨r, 0, none⟩ = some (.slice (some ⟨b, off, none⟩) n c) := k3.cell 0
  have f2 := k3.frozen 0
  have HB2 := Lib.hid (h1.trans (h2.mono h1.size))
  have HFIN : Hid (∀ W A' c', Blk W r 147 (rdC A' (n - 1) c' e D) → TkIs w A' (n - 1) c' ts → Mod (fun x => x = r) w W → NeedTo r n e D ts w W) := Lib.hid (fun W A' c' a1 a2 a3 => ⟨A', c', a1, a2.mod a3 (fun x hx hy => by subst hx; exact absurd (hy.unique HB.out.ty) (by decide)), a3⟩)
  have hrl0 : r < b0 := by omega
  obtain ⟨tl1, tl2⟩ := HT.out.tail
  clear h1 h2 hw1 ht hcm hbl hbt hbr hrl
  rcases Nat.eq_or_lt_of_le (show 1 ≤ c by omega) with hc1 | hc1
  · obtain rfl : c = 1 := hc1.symm
    obtain ⟨rfl, hn1'⟩ := tl2 rfl
    have HTL : Hid (TkIs w (some ⟨b, off, none⟩) (n - 1) 0 []) := Lib.hid ⟨by rw [hn1']; rfl, by omega, by decide, RowT.nil _ _ _⟩
    clear tl1 tl2 hn
    subst hn1'
    clear hn1 hn0 hnc
    obtain ⟨w3, hw3⟩ : ∃ w3, w2.setCell ⟨r, 0, none⟩ (.slice (some ⟨b, off, none⟩) 0 0) = w3 := ⟨_, rfl⟩
    have j1 := k1.far (p := ⟨r, 0, none⟩) (by show b0 ≠ r; omega) (.slice (some ⟨b, off, none⟩) 0 0)
    have j2 := k2.far (p := ⟨r, 0, none⟩) (by show b0 + 1 ≠ r; omega) (.slice (some ⟨b, off, none⟩) 0 0)
    have j3 := k3.set_ 0 (.slice (some ⟨b, off, none⟩) 0 0)
    have hm3 : Mod (fun x => x = r) w w3 := by rw [← hw3]; exact ((Mod.of_below (fun x => x = r) HB2.out).set (p := ⟨r, 0, none⟩) (.inl rfl) _)
    rw [hw3] at j1 j2 j3
    have p0 : w3.cell? ⟨b0 + 1, 0, none⟩ = some (.int .i64 t.kind) := j2.cell 0
    have p1 : w3.cell? ⟨b0 + 1, 1, none⟩ = some (.string t.text) := j2.cell 1
    have p2 : w3.cell? ⟨b0 + 1, 2, none⟩ = some (.int .i64 t.n) := j2.cell 2
    have p3 : w3.cell? ⟨b0 + 1, 3, none⟩ = some (.int .i64 t.at_) := j2.cell 3
    have u0 : w3.cell? ⟨b0, 0, none⟩ = some (.int .i64 0) := j1.cell 0
    have u1 : w3.cell? ⟨b0, 1, none⟩ = some (.string ⟨#[]⟩) := j1.cell 1
    have u2 : w3.cell? ⟨b0, 2, none⟩ = some (.int .i64 0) := j1.cell 2
    have u3 : w3.cell? ⟨b0, 3, none⟩ = some (.int .i64 0) := j1.cell 3
    have v0 := j1.frozen 0
    have v1 := j1.frozen 1
    have v2 := j1.frozen 2
    have v3 := j1.frozen 3
    have W1 := j1.set_ 0 (.int .i64 t.kind)
    simp only [List.setIfInBounds_toArray, List.set_cons_zero] at W1
    have W2 := W1.set_ 1 (.string t.text)
    simp only [List.setIfInBounds_toArray, List.set_cons_zero, List.set_cons_succ] at W2
    have W3 := W2.set_ 2 (.int .i64 t.n)
    simp only [List.setIfInBounds_toArray, List.set_cons_zero, List.set_cons_succ] at W3
    have W4 := W3.set_ 3 (.int .i64 t.at_)
    simp only [List.setIfInBounds_toArray, List.set_cons_zero, List.set_cons_succ] at W4
    have R1 := j3.far (p := ⟨b0, 0, none⟩) (by show r ≠ b0; omega) (.int .i64 t.kind)
    have R2 := R1.far (p := ⟨b0, 1, none⟩) (by show r ≠ b0; omega) (.string t.text)
    have R3 := R2.far (p := ⟨b0, 2, none⟩) (by show r ≠ b0; omega) (.int .i64 t.n)
    have R4 := R3.far (p := ⟨b0, 3, none⟩) (by show r ≠ b0; omega) (.int .i64 t.at_)
    have M4 := (((hm3.set (p := ⟨b0, 0, none⟩) (.inr (by show w.heap.size ≤ b0; omega)) (.int .i64 t.kind)).set (p := ⟨b0, 1, none⟩) (.inr (by show w.heap.size ≤ b0; omega)) (.string t.text)).set (p := ⟨b0, 2, none⟩) (.inr (by show w.heap.size ≤ b0; omega)) (.int .i64 t.n)).set (p := ⟨b0, 3, none⟩) (.inr (by show w.heap.size ≤ b0; omega)) (.int .i64 t.at_)
    obtain ⟨w6, hw6⟩ : ∃ w6, (((w3.setCell ⟨b0, 0, none⟩ (.int .i64 t.kind)).setCell ⟨b0, 1, none⟩ (.string t.text)).setCell ⟨b0, 2, none⟩ (.int .i64 t.n)).setCell ⟨b0, 3, none⟩ (.int .i64 t.at_) = w6 := ⟨_, rfl⟩
    rw [hw6] at W4 R4 M4
    have HW4 := Lib.hid W4
    have HR4 := Lib.hid R4
    have HM4 := Lib.hid M4
    have HW6 := Lib.hid hw6
    have HW3 := Lib.hid hw3
    clear j1 j2 j3 hm3 W1 W2 W3 W4 R1 R2 R3 R4 M4 hw6 k1 k2 k3
    go_wp2
    try rw [HW6.out]
    have j8 := HW4.out
    have p0 : w6.cell? ⟨b0, 0, none⟩ = some (.int .i64 t.kind) := j8.cell 0
    have p1 : w6.cell? ⟨b0, 1, none⟩ = some (.string t.text) := j8.cell 1
    have p2 : w6.cell? ⟨b0, 2, none⟩ = some (.int .i64 t.n) := j8.cell 2
    have p3 : w6.cell? ⟨b0, 3, none⟩ = some (.int .i64 t.at_) := j8.cell 3
    refine bodyPost_ret (v := tkA t) (by simp [results, Tryz.results98, go_sem, p0, p1, p2, p3, tkA]) rfl ⟨rfl, HFIN.out _ _ _ HR4.out HTL.out HM4.out⟩
  · have hc1b : (c == 1) = false := by simp; omega
    have hc1n : ¬ (c = 1) := by omega
    have hc1i : ¬ ((c : Int) = 1) := by omega
    have HTL : Hid (TkIs w (some ⟨b, off + 4, none⟩) (n - 1) (c - 1) ts) := Lib.hid (tl1 hc1n)
    clear tl1 tl2 hn
    obtain ⟨w3, hw3⟩ : ∃ w3, w2.setCell ⟨r, 0, none⟩ (.slice (some ⟨b, off + 4, none⟩) (n - 1) (c - 1)) = w3 := ⟨_, rfl⟩
    have j1 := k1.far (p := ⟨r, 0, none⟩) (by show b0 ≠ r; omega) (.slice (some ⟨b, off + 4, none⟩) (n - 1) (c - 1))
    have j2 := k2.far (p := ⟨r, 0, none⟩) (by show b0 + 1 ≠ r; omega) (.slice (some ⟨b, off + 4, none⟩) (n - 1) (c - 1))
    have j3 := k3.set_ 0 (.slice (some ⟨b, off + 4, none⟩) (n - 1) (c - 1))
    have hm3 : Mod (fun x => x = r) w w3 := by rw [← hw3]; exact ((Mod.of_below (fun x => x = r) HB2.out).set (p := ⟨r, 0, none⟩) (.inl rfl) _)
    rw [hw3] at j1 j2 j3
    have p0 : w3.cell? ⟨b0 + 1, 0, none⟩ = some (.int .i64 t.kind) := j2.cell 0
    have p1 : w3.cell? ⟨b0 + 1, 1, none⟩ = some (.string t.text) := j2.cell 1
    have p2 : w3.cell? ⟨b0 + 1, 2, none⟩ = some (.int .i64 t.n) := j2.cell 2
    have p3 : w3.cell? ⟨b0 + 1, 3, none⟩ = some (.int .i64 t.at_) := j2.cell 3
    have u0 : w3.cell? ⟨b0, 0, none⟩ = some (.int .i64 0) := j1.cell 0
    have u1 : w3.cell? ⟨b0, 1, none⟩ = some (.string ⟨#[]⟩) := j1.cell 1
    have u2 : w3.cell? ⟨b0, 2, none⟩ = some (.int .i64 0) := j1.cell 2
    have u3 : w3.cell? ⟨b0, 3, none⟩ = some (.int .i64 0) := j1.cell 3
    have v0 := j1.frozen 0
    have v1 := j1.frozen 1
    have v2 := j1.frozen 2
    have v3 := j1.frozen 3
    have W1 := j1.set_ 0 (.int .i64 t.kind)
    simp only [List.setIfInBounds_toArray, List.set_cons_zero] at W1
    have W2 := W1.set_ 1 (.string t.text)
    simp only [List.setIfInBounds_toArray, List.set_cons_zero, List.set_cons_succ] at W2
    have W3 := W2.set_ 2 (.int .i64 t.n)
    simp only [List.setIfInBounds_toArray, List.set_cons_zero, List.set_cons_succ] at W3
    have W4 := W3.set_ 3 (.int .i64 t.at_)
    simp only [List.setIfInBounds_toArray, List.set_cons_zero, List.set_cons_succ] at W4
    have R1 := j3.far (p := ⟨b0, 0, none⟩) (by show r ≠ b0; omega) (.int .i64 t.kind)
    have R2 := R1.far (p := ⟨b0, 1, none⟩) (by show r ≠ b0; omega) (.string t.text)
    have R3 := R2.far (p := ⟨b0, 2, none⟩) (by show r ≠ b0; omega) (.int .i64 t.n)
    have R4 := R3.far (p := ⟨b0, 3, none⟩) (by show r ≠ b0; omega) (.int .i64 t.at_)
    have M4 := (((hm3.set (p := ⟨b0, 0, none⟩) (.inr (by show w.heap.size ≤ b0; omega)) (.int .i64 t.kind)).set (p := ⟨b0, 1, none⟩) (.inr (by show w.heap.size ≤ b0; omega)) (.string t.text)).set (p := ⟨b0, 2, none⟩) (.inr (by show w.heap.size ≤ b0; omega)) (.int .i64 t.n)).set (p := ⟨b0, 3, none⟩) (.inr (by show w.heap.size ≤ b0; omega)) (.int .i64 t.at_)
    obtain ⟨w6, hw6⟩ : ∃ w6, (((w3.setCell ⟨b0, 0, none⟩ (.int .i64 t.kind)).setCell ⟨b0, 1, none⟩ (.string t.text)).setCell ⟨b0, 2, none⟩ (.int .i64 t.n)).setCell ⟨b0, 3, none⟩ (.int .i64 t.at_) = w6 := ⟨_, rfl⟩
    rw [hw6] at W4 R4 M4
    have HW4 := Lib.hid W4
    have HR4 := Lib.hid R4
    have HM4 := Lib.hid M4
    have HW6 := Lib.hid hw6
    have HW3 := Lib.hid hw3
    clear j1 j2 j3 hm3 W1 W2 W3 W4 R1 R2 R3 R4 M4 hw6 k1 k2 k3
    go_wp2
    try rw [HW6.out]
    have j8 := HW4.out
    have p0 : w6.cell? ⟨b0, 0, none⟩ = some (.int .i64 t.kind) := j8.cell 0
    have p1 : w6.cell? ⟨b0, 1, none⟩ = some (.string t.text) := j8.cell 1
    have p2 : w6.cell? ⟨b0, 2, none⟩ = some (.int .i64 t.n) := j8.cell 2
    have p3 : w6.cell? ⟨b0, 3, none⟩ = some (.int .i64 t.at_) := j8.cell 3
    refine bodyPost_ret (v := tkA t) (by simp [results, Tryz.results98, go_sem, p0, p1, p2, p3, tkA]) rfl ⟨rfl, HFIN.out _ _ _ HR4.out HTL.out HM4.out⟩
end Go.Proofs.YtgepbklpobobbaaGreatDoor

/- catalog.every, differ: over items. -/
namespace Go.Proofs.YtgepbklpobobbaaGreatDoor
open Go.RowKit

/-- A function g of one item that answers v i, wherever R holds. -/
def ItF (R : World → Prop) (g : Nat) (v : Itm → Value) (is : List Itm) : Prop := ∀ i ∈ is, ∀ w, R w → Calls Tryz.prog g #[itA i] w fun e w' => e = .returned (v i) ∧ Below w.heap.size w w'
def Runs (g : Nat) : Prop := ∀ (args : Array Value) (w : World), (callFunc g args).run Tryz.prog w = .ok (.enter g args) w
def Stays (R : World → Prop) : Prop := ∀ w w' : World, Below w.heap.size w w' → R w → R w'
set_option maxRecDepth 100000 in
set_option maxHeartbeats 4000000 in
theorem everyItem_any (R : World → Prop) (g : Nat) (A : Option Addr) (n c : Nat) (is : List Itm) (w : World) (HR : Hid (R w)) (HSt : Hid (Stays R)) (HF : Hid (ItF R g (fun _ => .bool true) is)) (HI : Hid (ItAt w A n c is)) (hn : n ≤ 1000000) (HC : Hid (Runs g)) :
    Calls Tryz.prog 132 #[.slice A n c, .func (.func g) #[] #[]] w fun e w' => e = .returned (.bool true) ∧ Below w.heap.size w w' := by
  go_enter Tryz.func132, Tryz.ntmps132
  go_wp2
  go_loopg [9] n (fun gk iv wr => ∃ k : Nat, k + gk = n ∧ iv = .int .i64 (k : Int) ∧ Hid (Below w.heap.size w wr))
  case atStart => exact ⟨0, by omega, rfl, Lib.hid (Below.refl _ _)⟩
  case round =>
    obtain ⟨k, hi, rfl, HB⟩ := hrel
    have HHI := Lib.hid hi
    rcases Nat.lt_or_ge k n with hlt | hge
    · have hltI : (k : Int) < (n : Int) := by omega
      have hi0 : (0 : Int) ≤ (k : Int) := by omega
      obtain ⟨b, off, rfl, hb, i, hm, k0, k1, k2, k3, k4, k5, k6⟩ := (HI.out.all HB.out).at_ hlt
      have hwr : w.heap.size ≤ wr.heap.size := HB.out.size
      have HBA := Lib.hid (HB.out.alloc hwr (.cells #[.string i.nm, .bool false, .bool i.mx, .bool i.co, .int .i64 0, .int .i64 0, .int .i64 0] 162))
      have HRA := Lib.hid (HSt.out _ _ HBA.out HR.out)
      have hgt := List.mem_of_getElem? hm
      clear hi hb hm hwr
      go_wp2
      rw [HC.out]
      refine (HF.out i hgt _ HRA.out).mono ?_
      rintro e w5 ⟨rfl, hb5⟩
      have HB5 := Lib.hid (HBA.out.trans (hb5.mono (by rw [World.size_alloc]; have := HB.out.size; omega)))
      clear hb5
      go_wp2
      go_roundg (n - (k + 1))
      case measure => have := HHI.out; omega
      case rel => exact ⟨k + 1, by have := HHI.out; omega, by go_num, HB5⟩
    · obtain rfl : n = k := by omega
      go_wp2
      go_ret
      exact ⟨rfl, HB.out⟩
abbrev SK := {s : ByteArray // s.size ≤ 16}
def sEnc (s : SK) : Value := .string s.1
def nmK (s : ByteArray) : SK := if h : s.size ≤ 16 then ⟨s, h⟩ else ⟨⟨#[]⟩, by decide⟩
theorem nmK_enc {s : ByteArray} (h : s.size ≤ 16) : sEnc (nmK s) = .string s := by
  unfold nmK
  rw [dif_pos h]
  rfl
theorem nmK_inj {s t : ByteArray} (h : s.size ≤ 16) (h' : t.size ≤ 16) (e : nmK s = nmK t) : s = t := by
  unfold nmK at e
  rw [dif_pos h, dif_pos h'] at e
  exact congrArg Subtype.val e
theorem sEncOk : KeyEnc Tryz.prog 9 sEnc where
  keyed := Go.Maps.string_keyed Tryz.underlying9
  lit := fun s => ⟨_, Go.WideMaps.keyOf_string_mk Tryz.underlying9 (Nat.le_trans s.2 (by decide))⟩
  inj := fun {a b} h => by
    apply Subtype.ext
    injection h
theorem infoB : ∃ i, Tryz.prog.info? 4 = some i ∧ i.zero = some (.bool false) := by
  have h : (Tryz.prog.info? 4).map (fun i => i.zero) = some (some (.bool false)) := by kernel_rfl
  obtain ⟨i, hi, hz⟩ := Option.map_eq_some_iff.1 h
  exact ⟨i, hi, hz⟩
def seenK (is : List Itm) : List (SK × Value) := is.map fun i => (nmK i.nm, Value.bool true)
theorem seenK_none {is : List Itm} {k : Nat} {i : Itm} (hN : (is.map Itm.nm).Nodup) (hz : ∀ i ∈ is, i.nm.size ≤ 16) (hk : is[k]? = some i) : glk (seenK (is.take k)) (nmK i.nm) = none := by
  refine glk_none.2 fun p hp e => ?_
  obtain ⟨x, hx, rfl⟩ := List.mem_map.1 hp
  obtain ⟨j, hj, hxj⟩ := List.getElem_of_mem hx
  rw [List.length_take] at hj
  rw [List.getElem_take] at hxj
  obtain ⟨hk2, hik⟩ := List.getElem?_eq_some_iff.1 hk
  have en : x.nm = i.nm := nmK_inj (hz x (List.mem_of_mem_take hx)) (hz i (List.mem_of_getElem? hk)) e
  have := (List.getElem_inj (i := j) (j := k) (h₀ := by rw [List.length_map]; omega) (h₁ := by rw [List.length_map]; omega) hN).1 (by rw [List.getElem_map, List.getElem_map, hxj, hik, en])
  omega
theorem seenK_put {is : List Itm} {k : Nat} {i : Itm} (hN : (is.map Itm.nm).Nodup) (hz : ∀ i ∈ is, i.nm.size ≤ 16) (hk : is[k]? = some i) : gput (seenK (is.take k)) (nmK i.nm) (.bool true) = seenK (is.take (k + 1)) := by
  rw [gput_new (glk_none.1 (seenK_none hN hz hk))]
  obtain ⟨hk2, hik⟩ := List.getElem?_eq_some_iff.1 hk
  rw [← List.take_append_getElem hk2, hik]
  unfold seenK
  rw [List.map_append]
  rfl
set_option maxRecDepth 100000 in
set_option maxHeartbeats 4000000 in
theorem differItem_any (g : Nat) (A : Option Addr) (n c : Nat) (is : List Itm) (w : World) (HF : Hid (ItF (fun _ => True) g (fun i => .string i.nm) is)) (HI : Hid (ItAt w A n c is)) (hn : n ≤ 1000000) (HC : Hid (Runs g)) (HN : Hid ((is.map Itm.nm).Nodup)) (HZ : Hid (∀ i ∈ is, i.nm.size ≤ 16)) :
    Calls Tryz.prog 138 #[.slice A n c, .func (.func g) #[] #[]] w fun e w' => e = .returned (.bool true) ∧ Below w.heap.size w w' := by
  have hmm := fun (w : World) => run_makeMapN (P := Tryz.prog) Tryz.underlying265 .i64 (n : Int) w
  have hb0 := (Below.refl w.heap.size w).alloc (Nat.le_refl _) (.map #[] 0)
  have HB0 := Lib.hid hb0
  have HM0 := Lib.hid (GMap.new sEnc w)
  clear hb0
  go_enter Tryz.func138, Tryz.ntmps138
  go_wp2
  clear hmm
  have hl : is.length = n := HI.out.1
  have HL := Lib.hid hl
  clear hl
  go_loopg [13] n (fun gk iv wr => ∃ k : Nat, k + gk = n ∧ iv = .int .i64 (k : Int) ∧ Hid (GMap sEnc wr w.heap.size (seenK (is.take k))) ∧ Hid (Below w.heap.size w wr))
  case atStart => exact ⟨0, by omega, rfl, HM0, HB0⟩
  case round =>
    obtain ⟨k, hi, rfl, HM, HB⟩ := hrel
    have HHI := Lib.hid hi
    rcases Nat.lt_or_ge k n with hlt | hge
    · have hltI : (k : Int) < (n : Int) := by omega
      have hi0 : (0 : Int) ≤ (k : Int) := by omega
      obtain ⟨b, off, rfl, hb, i, hm, k0, k1, k2, k3, k4, k5, k6⟩ := (HI.out.all HB.out).at_ hlt
      have hwr : w.heap.size ≤ wr.heap.size := HB.out.size
      have HBA := Lib.hid (HB.out.alloc hwr (.cells #[.string i.nm, .bool false, .bool i.mx, .bool i.co, .int .i64 0, .int .i64 0, .int .i64 0] 162))
      have hba : Below wr.heap.size wr (wr.alloc (.cells #[.string i.nm, .bool false, .bool i.mx, .bool i.co, .int .i64 0, .int .i64 0, .int .i64 0] 162)) := (Below.refl _ _).alloc (Nat.le_refl _) _
      have HMA := Lib.hid (HM.out.all hba)
      have hgt := List.mem_of_getElem? hm
      have HGT := Lib.hid hm
      clear hi hb hm hwr hba
      go_wp2_with fail
      rw [HC.out]
      refine (HF.out i hgt _ trivial).mono ?_
      rintro e w5 ⟨rfl, hb5⟩
      have HM5 := Lib.hid (HMA.out.all hb5)
      have HB5 := Lib.hid (HBA.out.trans (hb5.mono (by rw [World.size_alloc]; have := HB.out.size; omega)))
      obtain ⟨jB, hjB, hzB⟩ := infoB
      have hlk := HM5.out.look sEncOk Tryz.underlying265 hjB hzB (nmK i.nm)
      rw [nmK_enc (HZ.out i hgt), seenK_none HN.out HZ.out HGT.out] at hlk
      have hlk : (Instr.lookup 265 (.map (some w.heap.size)) (.string i.nm) false).run Tryz.prog w5 = .ok (.bool false) w5 := hlk
      have hbk := (Blk.new wr 162 #[.string i.nm, .bool false, .bool i.mx, .bool i.co, .int .i64 0, .int .i64 0, .int .i64 0]).all hb5
      have y0 : w5.cell? ⟨wr.heap.size, 0, none⟩ = some (.string i.nm) := hbk.cell 0
      have y1 : w5.cell? ⟨wr.heap.size, 1, none⟩ = some (.bool false) := hbk.cell 1
      have y2 : w5.cell? ⟨wr.heap.size, 2, none⟩ = some (.bool i.mx) := hbk.cell 2
      have y3 : w5.cell? ⟨wr.heap.size, 3, none⟩ = some (.bool i.co) := hbk.cell 3
      have y4 : w5.cell? ⟨wr.heap.size, 4, none⟩ = some (.int .i64 0) := hbk.cell 4
      have y5 : w5.cell? ⟨wr.heap.size, 5, none⟩ = some (.int .i64 0) := hbk.cell 5
      have y6 : w5.cell? ⟨wr.heap.size, 6, none⟩ = some (.int .i64 0) := hbk.cell 6
      clear hjB hzB hbk k0 k1 k2 k3 k4 k5 k6
      have HBK := Lib.hid hb5
      clear hb5
      go_wp2_with fail
      rw [HC.out]
      refine (HF.out i hgt _ trivial).mono ?_
      rintro e w6 ⟨rfl, hb6⟩
      obtain ⟨w7, hrun, hM7, hg7, hs7⟩ := (HM5.out.all hb6).store sEncOk Tryz.underlying265 (nmK i.nm) (.bool true)
      rw [nmK_enc (HZ.out i hgt)] at hrun
      rw [seenK_put HN.out HZ.out HGT.out] at hM7
      have HM7 := Lib.hid hM7
      have HB7 := Lib.hid ((HB5.out.trans (hb6.mono HB5.out.size)).grown hg7 (Nat.le_trans HB5.out.size hb6.size) (fun k e => by cases e; exact Nat.le_refl _))
      clear hM7 hg7 hs7 hb6 y0 y1 y2 y3 y4 y5 y6 hlk
      go_wp2
      go_roundg (n - (k + 1))
      case measure => have := HHI.out; omega
      case rel => exact ⟨k + 1, by have := HHI.out; omega, by go_num, HM7, HB7⟩
    · obtain rfl : n = k := by omega
      go_wp2
      go_ret
      exact ⟨rfl, HB.out⟩
end Go.Proofs.YtgepbklpobobbaaGreatDoor

/- package parser: kind, coin, options, declaration, at declarations of items. -/
namespace Go.Proofs.YtgepbklpobobbaaGreatDoor
open Go.RowKit

/-- Values stored one after the other. -/
def putN (w : World) (g : Nat) : Nat → List Value → World
  | _, [] => w
  | off, v :: vs => putN (w.setCell ⟨g, off, none⟩ v) g (off + 1) vs
theorem Blk.putN {g : Nat} {t : TypeId} : ∀ (vs : List Value) {w : World} {off : Nat} {cs : List Value}, Blk w g t cs.toArray → off + vs.length ≤ cs.length → Blk (Go.Proofs.YtgepbklpobobbaaGreatDoor.putN w g off vs) g t (cs.take off ++ (vs ++ cs.drop (off + vs.length))).toArray
  | [], w, off, cs, h, hl => by
    have e : cs.take off ++ ([] ++ cs.drop (off + ([] : List Value).length)) = cs := by simp
    rw [e]
    exact h
  | v :: vs, w, off, cs, h, hl => by
    rw [List.length_cons] at hl
    have h1 := h.set_ off v
    rw [List.setIfInBounds_toArray] at h1
    have h2 := Blk.putN vs (off := off + 1) h1 (by rw [List.length_set]; omega)
    have e : (cs.set off v).take (off + 1) ++ (vs ++ (cs.set off v).drop (off + 1 + vs.length)) = cs.take off ++ (v :: vs ++ cs.drop (off + (v :: vs).length)) := by
      have hd : (cs.set off v).drop (off + 1 + vs.length) = cs.drop (off + 1 + vs.length) := List.drop_set_of_lt (by omega)
      rw [hd, List.take_add_one, List.length_cons, List.take_set_of_le (Nat.le_refl _)]
      simp only [List.getElem?_set_self (show off < cs.length by omega), Option.toList_some, List.append_assoc, List.cons_append, List.nil_append]
      rw [show off + 1 + vs.length = off + (vs.length + 1) by omega]
    rw [e] at h2
    exact h2
theorem Mod.putN {F : Nat → Prop} {w : World} {g : Nat} (hg : F g ∨ w.heap.size ≤ g) : ∀ (vs : List Value) {w' : World} {off : Nat}, Mod F w w' → Mod F w (Go.Proofs.YtgepbklpobobbaaGreatDoor.putN w' g off vs)
  | [], _, _, m => m
  | v :: vs, _, off, m => Mod.putN hg vs (m.set (p := ⟨g, off, none⟩) hg v)
/-- A declaration of an item. -/
def declV (nm : ByteArray) (co : Bool) (at_ : Int) : List Value := [.int .i64 0, .string nm, .int .i64 at_, .bool false, .bool false, .bool co, .int .i64 0, .int .i64 0, .int .i64 0, .int .i64 0, .int .i64 0, .int .i64 0, .slice none 0 0, .slice none 0 0, .slice none 0 0, .slice none 0 0, .slice none 0 0]
def itemS : ByteArray := ⟨#[105, 116, 101, 109]⟩
def coinS : ByteArray := ⟨#[99, 111, 105, 110]⟩
def semiS : ByteArray := ⟨#[59]⟩
set_option maxRecDepth 100000 in
theorem kind_item (r : Nat) (A : Option Addr) (n c : Nat) (e : Int) (D : List Value) (t : Tk) (ts : List Tk) (w : World) (HB : Hid (Blk w r 147 (rdC A n c e D))) (HT : Hid (TkIs w A n c (t :: ts))) (hk : t.kind = 0) (ht : t.text = itemS) :
    Calls Tryz.prog 100 #[.pointer (some ⟨r, 0, none⟩)] w fun x w' => x = .returned (.int .i64 0) ∧ w' = w := by
  have hix : (Instr.index 264 (.agg #[.string itemS, .string ⟨#[114, 117, 108, 101]⟩, .string ⟨#[115, 112, 97, 119, 110]⟩, .string ⟨#[108, 111, 111, 116]⟩, .string ⟨#[116, 97, 120]⟩]) (.int .i64 0)).run Tryz.prog w = .ok (.string itemS) w := by kernel_rfl
  unfold itemS at hix
  go_enter Tryz.func100, Tryz.ntmps100
  go_wp2
  go_loopg [3, 4, 6] 0 (fun gk v3 v4 v6 wr => v6 = .int .i64 0 ∧ wr = w)
  case atStart => exact ⟨rfl, rfl⟩
  case round =>
    obtain ⟨rfl, rfl⟩ := hrel
    go_wp2_with fail
    refine (is_text r A n c e D t ts 0 itemS wr HB HT hk (by kernel_rfl) ht).mono ?_
    rintro e w2 ⟨rfl, hw2⟩
    rw [hw2]
    clear hw2
    go_wp2
    go_ret
    exact ⟨rfl, rfl⟩
set_option maxRecDepth 100000 in
theorem coin_any (r : Nat) (A : Option Addr) (n c : Nat) (e : Int) (nm : ByteArray) (at_ : Int) (w : World) (HB : Hid (Blk w r 147 (rdC A n c e (declV nm false at_)))) :
    Calls Tryz.prog 55 #[.pointer (some ⟨r, 0, none⟩)] w fun x w' => x = .returned (.tuple #[]) ∧ Blk w' r 147 (rdC A n c e (declV nm true at_)) ∧ Mod (fun b => b = r) w w' := by
  have c7 : w.cell? ⟨r, 7, none⟩ = some (.bool false) := HB.out.cell 7
  have f7 := HB.out.frozen 7
  have hbs := HB.out.set_ 7 (.bool true)
  have hm := (Mod.refl (fun b => b = r) w).set (p := ⟨r, 7, none⟩) (.inl rfl) (.bool true)
  obtain ⟨w2, hw2⟩ : ∃ w2, w.setCell ⟨r, 7, none⟩ (.bool true) = w2 := ⟨_, rfl⟩
  rw [hw2] at hbs hm
  have HBS := Lib.hid hbs
  have HM := Lib.hid hm
  clear hbs hm
  go_enter Tryz.func55, Tryz.ntmps55
  go_wp2
  go_end0
  exact ⟨rfl, HBS.out, HM.out⟩
theorem infoFn : ∃ i z, Tryz.prog.info? 1 = some i ∧ i.zero = some z := by
  have h : ((Tryz.prog.info? 1).bind (fun i => i.zero)).isSome = true := by kernel_rfl
  obtain ⟨z, hz⟩ := Option.isSome_iff_exists.1 h
  obtain ⟨i, hi, hz⟩ := Option.bind_eq_some_iff.1 hz
  exact ⟨i, z, hi, hz⟩
set_option maxRecDepth 100000 in
theorem options_none (r : Nat) (A : Option Addr) (n c mk : Nat) (e : Int) (D : List Value) (t : Tk) (ts : List Tk) (w : World) (HB : Hid (Blk w r 147 (rdC A n c e D))) (HT : Hid (TkIs w A n c (t :: ts))) (hk : t.kind ≠ 0) :
    Calls Tryz.prog 101 #[.pointer (some ⟨r, 0, none⟩), .map (some mk)] w fun x w' => x = .returned (.tuple #[]) ∧ Below w.heap.size w w' := by
  have hba := (Below.refl w.heap.size w).alloc (Nat.le_refl _) (.map #[] 0)
  have HBA := Lib.hid hba
  clear hba
  have hmm : (Instr.makeMap 265 none).run Tryz.prog w = .ok (.map (some w.heap.size)) (w.alloc (.map #[] 0)) := rfl
  go_enter Tryz.func101, Tryz.ntmps101
  go_wp2
  clear hmm
  go_loopg [5, 6, 7] 0 (fun gk v5 v6 v7 wr => wr = w.alloc (.map #[] 0))
  case atStart => rfl
  case round =>
    obtain rfl := hrel
    go_wp2_with fail
    refine (is_kind r A n c e D t ts 0 ⟨#[]⟩ _ (Lib.hid (HB.out.all HBA.out)) (Lib.hid (HT.out.all HBA.out)) hk).mono ?_
    rintro e w2 ⟨rfl, hw2⟩
    rw [hw2]
    clear hw2
    go_wp2
    go_end0
    exact ⟨rfl, HBA.out⟩
end Go.Proofs.YtgepbklpobobbaaGreatDoor
