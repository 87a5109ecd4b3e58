/- book: Cancel. -/
import Derived.Test.YtkandhpnenmleaaHBkQ
import Derived.Test.YtkandhpnenmleaaHBkOrd

namespace Go.Proofs.Ytkandhpnenmleaa
open Go.RowKit

section
variable {W w w' w'' : World} {B gb : Nat} {V : BkV} {b b' b'' : BkS}
theorem BkPost.same (h : BkAt w B gb V b) (hb : Below w.heap.size w w') : BkPost gb B V b w b w' := ⟨V, h.all hb, Mod.of_below _ hb, fun _ hg => .inl hg⟩
theorem BkPost.pre (hb : Below w.heap.size w w') (h : BkPost gb B V b w' b' w'') : BkPost gb B V b w b' w'' := by
  obtain ⟨V', h1, h2, h3⟩ := h
  exact ⟨V', h1, (Mod.of_below _ hb).trans h2 (fun g hg => .inl hg), fun g hg => (h3 g hg).imp id (fun h => Nat.le_trans hb.size h)⟩
theorem BkPost.post (h : BkPost gb B V b w b' w') (hb : Below w'.heap.size w' w'') : BkPost gb B V b w b' w'' := by
  obtain ⟨V', h1, h2, h3⟩ := h
  exact ⟨V', h1.all hb, h2.then_below hb, h3⟩
/-- One call behind the other. -/
theorem BkPost.then (h : BkPost gb B V b w b' w') (k : ∀ V', BkAt w' B gb V' b' → (∀ g, BkF gb V' b'.os.length g → BkF gb V b.os.length g ∨ w.heap.size ≤ g) → BkPost gb B V' b' w' b'' w'') : BkPost gb B V b w b'' w'' := by
  obtain ⟨V', h1, h2, h3⟩ := h
  obtain ⟨V'', k1, k2, k3⟩ := k V' h1 h3
  refine ⟨V'', k1, h2.trans k2 h3, fun g hg => ?_⟩
  rcases k3 g hg with h | h
  · exact h3 g h
  · exact .inr (Nat.le_trans h2.size h)
end
theorem getO_in {os : List Ord} {id : Int} (h0 : 0 ≤ id) (h1 : id < (os.length : Int)) : getO os id = ordAt os id.toNat := if_pos ⟨h0, h1⟩
theorem hasO_in {os : List Ord} {id : Int} (h0 : 0 ≤ id) (h1 : id < (os.length : Int)) : hasO os id = true := by
  unfold hasO
  simp [h0, h1]
theorem hasO_out {os : List Ord} {id : Int} (h : id < 0 ∨ (os.length : Int) ≤ id) : hasO os id = false := by
  unfold hasO
  simp
  omega
def CancelPost (gb B : Nat) (V : BkV) (b : BkS) (acc id : Int) (w : World) (e : Ending) (w' : World) : Prop := e = .returned (.tuple #[.int .i64 (cancelE b acc id).1, .int .i64 (cancelE b acc id).2.1]) ∧ BkPost gb B V b w (cancelE b acc id).2.2 w'
theorem CancelPost.of {gb B : Nat} {V : BkV} {b : BkS} {acc id p q : Int} {b' : BkS} {w w' : World} (h : cancelE b acc id = (p, q, b')) (hp : BkPost gb B V b w b' w') : CancelPost gb B V b acc id w (.returned (.tuple #[.int .i64 p, .int .i64 q])) w' := by
  unfold CancelPost
  rw [h]
  exact ⟨rfl, hp⟩
set_option maxRecDepth 100000 in
set_option maxHeartbeats 1000000 in
theorem cancel_any (gb B : Nat) (V : BkV) (b : BkS) (acc id : Int) (w : World) (HK : Hid (BkAt w B gb V b)) :
    Calls Try.prog 13 #[.pointer (some ⟨gb, 0, none⟩), .int .i64 acc, .int .i64 id] w (CancelPost gb B V b acc id w) := by
  by_cases hin : id < 0 ∨ (b.os.length : Int) ≤ id
  · have HE : Hid (cancelE b acc id = (0, 7, b)) := Lib.hid (if_pos hin)
    have HH : Hid (hasO b.os id = false) := Lib.hid (hasO_out hin)
    clear hin
    go_enter Try.func13, Try.ntmps13
    go_wp2_with (go_at_call 18; ((with_reducible refine (get_any gb B V b id _ HK).mono ?_); rintro e w1 ⟨rfl, hb1⟩; rw [HH.out]; replace hb1 := Lib.hid hb1))
    go_ret2
    exact CancelPost.of HE.out (BkPost.same HK.out (hb1.out.alloc hb1.out.size _))
  · have h0 : 0 ≤ id := by omega
    have h1 : id < (b.os.length : Int) := by omega
    obtain ⟨k, rfl⟩ : ∃ k : Nat, id = (k : Int) := ⟨id.toNat, by omega⟩
    have hk : k < b.os.length := by omega
    have HH : Hid (hasO b.os (k : Int) = true) := Lib.hid (hasO_in h0 h1)
    have HG : Hid (getO b.os (k : Int) = ordAt b.os k) := Lib.hid (by rw [getO_in h0 h1, Int.toNat_natCast])
    have HI : Hid ((ordAt b.os k).id = (k : Int)) := Lib.hid (HK.out.ok.ids k hk)
    obtain ⟨x, hx⟩ : ∃ x, ordAt b.os k = x := ⟨_, rfl⟩
    have hE : cancelE b acc (k : Int) = if isOpenB b x = false then (0, 7, b) else if x.acc ≠ acc then (0, 15, b) else (x.left, 0, b.ended x) := by
      unfold cancelE
      rw [if_neg hin, Int.toNat_natCast, hx]
    rw [hx] at HG HI
    clear hin h0 h1 hx
    cases hop : isOpenB b x
    · have HO := Lib.hid hop
      have HE : Hid (cancelE b acc (k : Int) = (0, 7, b)) := Lib.hid (by rw [hE, if_pos hop])
      clear hop hE
      go_enter Try.func13, Try.ntmps13
      go_wp2_with (first
        | (go_at_call 18; ((with_reducible refine (get_any gb B V b (k : Int) _ HK).mono ?_); rintro e w1 ⟨rfl, hb1⟩; rw [HH.out, HG.out]; replace hb1 := Lib.hid hb1))
        | (go_at_call 35; ((with_reducible refine (isOpen_any gb B V b x k _ (Lib.hid (HK.out.all (hb1.out.alloc hb1.out.size _))) HI.out).mono ?_); rintro e w2 ⟨rfl, hb2⟩; rw [HO.out]; replace hb2 := Lib.hid hb2)))
      go_ret2
      exact CancelPost.of HE.out (BkPost.same HK.out (bt (hb1.out.alloc hb1.out.size _) hb2.out))
    · have HO := Lib.hid hop
      by_cases hacc : x.acc = acc
      · have HE : Hid (cancelE b acc (k : Int) = (x.left, 0, b.ended x)) := Lib.hid (by rw [hE, if_neg (by rw [hop]; decide), if_neg (by simp [hacc])])
        have hae : ((x.acc) != acc) = false := by simp [hacc]
        have hae2 : ((x.acc) == acc) = true := by simp [hacc]
        clear hop hE hacc
        go_enter Try.func13, Try.ntmps13
        go_wp2_with (first
          | (go_at_call 18; ((with_reducible refine (get_any gb B V b (k : Int) _ HK).mono ?_); rintro e w1 ⟨rfl, hb1⟩; rw [HH.out, HG.out]; replace hb1 := Lib.hid hb1; have hz1 := hb1.out.size))
          | (go_at_call 35; ((with_reducible refine (isOpen_any gb B V b x k _ (Lib.hid (HK.out.all (hb1.out.alloc hb1.out.size _))) HI.out).mono ?_); rintro e w2 ⟨rfl, hb2⟩; rw [HO.out])
             have hk2 := (Blk.new w1 42 #[.int .i64 x.id, .int .i64 x.acc, .bool x.buy, .int .i64 x.price, .int .i64 x.n, .int .i64 x.left]).all hb2
             have HK2 := Lib.hid hk2
             have d0 := hk2.cell 0
             have d1 := hk2.cell 1
             have d2 := hk2.cell 2
             have d3 := hk2.cell 3
             have d4 := hk2.cell 4
             have d5 := hk2.cell 5
             simp only [List.getElem?_toArray, List.getElem?_cons_zero, List.getElem?_cons_succ] at d0 d1 d2 d3 d4 d5
             replace hb2 := Lib.hid (bt (hb1.out.alloc hb1.out.size _) hb2); clear hk2)
          | (go_at_call 36; ((with_reducible refine (end_any gb B V b x _ (Lib.hid (HK.out.all hb2.out)) HO).mono ?_); rintro e w3 ⟨rfl, hp3⟩)
             have hm3 := hp3
             obtain ⟨V3, -, hm3, -⟩ := hm3
             have hk3 := hm3.blk HK2.out (fun hg => absurd (HK.out.lt hg).2 (by omega))
             have e5 := hk3.cell 5
             simp only [List.getElem?_toArray, List.getElem?_cons_zero, List.getElem?_cons_succ] at e5
             have HP3 := Lib.hid (BkPost.pre hb2.out hp3)
             clear hp3 hm3 hk3))
        go_ret2
        exact CancelPost.of HE.out HP3.out
      · have HE : Hid (cancelE b acc (k : Int) = (0, 15, b)) := Lib.hid (by rw [hE, if_neg (by rw [hop]; decide), if_pos hacc])
        have hae : ((x.acc) != acc) = true := by simp [hacc]
        have hae2 : ((x.acc) == acc) = false := by simp [hacc]
        clear hop hE hacc
        go_enter Try.func13, Try.ntmps13
        go_wp2_with (first
          | (go_at_call 18; ((with_reducible refine (get_any gb B V b (k : Int) _ HK).mono ?_); rintro e w1 ⟨rfl, hb1⟩; rw [HH.out, HG.out]; replace hb1 := Lib.hid hb1; have hz1 := hb1.out.size))
          | (go_at_call 35; ((with_reducible refine (isOpen_any gb B V b x k _ (Lib.hid (HK.out.all (hb1.out.alloc hb1.out.size _))) HI.out).mono ?_); rintro e w2 ⟨rfl, hb2⟩; rw [HO.out])
             have hk2 := (Blk.new w1 42 #[.int .i64 x.id, .int .i64 x.acc, .bool x.buy, .int .i64 x.price, .int .i64 x.n, .int .i64 x.left]).all hb2
             have d1 := hk2.cell 1
             simp only [List.getElem?_toArray, List.getElem?_cons_zero, List.getElem?_cons_succ] at d1
             replace hb2 := Lib.hid (bt (hb1.out.alloc hb1.out.size _) hb2); clear hk2))
        go_ret2
        exact CancelPost.of HE.out (BkPost.same HK.out hb2.out)
end Go.Proofs.Ytkandhpnenmleaa
