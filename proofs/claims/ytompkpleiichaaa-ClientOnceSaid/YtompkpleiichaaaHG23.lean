/- client: pairs of Sessions, the package's and the reference's, side by side. -/
import Derived.Test.YtompkpleiichaaaHG22
import Derived.WalkKit

namespace Go.Proofs.Ytompkpleiichaaa
open Go.RowKit

structure Pr where
  g : Nat
  mb : Nat
  cl : List Cl
  gm : Nat
  rv : Value
  rl : List RCl
def Pr.F (p : Pr) (b : Nat) : Prop := SesF p.g p.mb p.cl b ∨ RSesF p.gm p.rv b
structure Pool (W w : World) (L : List Pr) : Prop where
  below : Below W.heap.size W w
  ses : ∀ p ∈ L, SesAt w p.g p.mb p.cl
  ref : ∀ p ∈ L, RSes w p.gm p.rv p.rl
  ge : ∀ p ∈ L, ∀ b, p.F b → W.heap.size ≤ b
  apart : ∀ i j (hi : i < L.length) (hj : j < L.length), i ≠ j → ∀ b, (L[i]).F b → ¬ (L[j]).F b
/-- The pairs are alike, and small. -/
def Alike (K : Nat) (L : List Pr) : Prop := ∀ p ∈ L, sigP p.cl = sigR p.rl ∧ p.rl.length ≤ K ∧ ∀ id s, sigR p.rl id = some s → s.2.1 ≤ K
theorem SesAt.tyF {w : World} {g mb : Nat} {cl : List Cl} (h : SesAt w g mb cl) : ∀ b, SesF g mb cl b → b = mb ∨ Ty w b 87 ∨ Ty w b 94 ∨ Ty w b 104 := by
  rintro b (rfl | rfl | ⟨c, hc, (rfl | e)⟩)
  · exact .inr (.inl h.blk.ty)
  · exact .inl rfl
  · exact .inr (.inr (.inl (h.ok c hc).1.ty))
  · exact .inr (.inr (.inr (Ty.of_own (h.ok c hc).2.1 e)))
theorem SesAt.notF {w : World} {g mb b : Nat} {t : TypeId} {cl : List Cl} (h : SesAt w g mb cl) (hb : Ty w b t) (h1 : t ≠ 87) (h2 : t ≠ 94) (h3 : t ≠ 104) : ¬ SesF g mb cl b := fun hf => by
  rcases h.tyF b hf with rfl | e | e | e
  · exact h.map.not_ty hb
  · exact h1 (Ty.unique hb e)
  · exact h2 (Ty.unique hb e)
  · exact h3 (Ty.unique hb e)
theorem SesAt.apartR {w : World} {g mb gm : Nat} {cl : List Cl} {rv : Value} {rl : List RCl} (h : SesAt w g mb cl) (hr : RSes w gm rv rl) : ∀ b, RSesF gm rv b → ¬ SesF g mb cl b := fun b hb => by
  rcases hr.tyF b hb with e | e
  · exact h.notF e (by decide) (by decide) (by decide)
  · exact h.notF e (by decide) (by decide) (by decide)
theorem Pool.all {W w w' : World} {L : List Pr} (h : Pool W w L) (hb : Below w.heap.size w w') : Pool W w' L := ⟨bt h.below hb, fun p hp => (h.ses p hp).all hb, fun p hp => (h.ref p hp).all hb, h.ge, h.apart⟩
theorem Pool.ltF {W w : World} {L : List Pr} (h : Pool W w L) {p : Pr} (hp : p ∈ L) : ∀ b, p.F b → b < w.heap.size := by
  rintro b (hb | hb)
  · exact (h.ses p hp).ltF b hb
  · exact (h.ref p hp).ltF b hb
theorem mem_set_cases {α : Type} {l : List α} {i : Nat} {x y : α} (h : y ∈ l.set i x) : y = x ∨ ∃ j, ∃ hj : j < l.length, j ≠ i ∧ y = l[j] := by
  obtain ⟨j, hj, rfl⟩ := List.getElem_of_mem h
  rw [List.length_set] at hj
  rw [List.getElem_set]
  split
  · exact .inl rfl
  · rename_i hne
    exact .inr ⟨j, hj, fun e => hne e.symm, rfl⟩
section
variable {W w w' : World} {L : List Pr} {i : Nat}
/-- What a step of the pair i needs: only blocks of the pair turn. -/
theorem Pool.step {F : Nat → Prop} {p' : Pr} (h : Pool W w L) (hi : i < L.length) (m : Mod F w w') (hF : ∀ b, F b → (L[i]).F b) (hB : ∀ b, F b → ¬ Ty w b 5) (hO : ∀ b, F b → ¬ Ty w b 112)
    (hS : SesAt w' p'.g p'.mb p'.cl) (hR : RSes w' p'.gm p'.rv p'.rl) (hN : ∀ b, p'.F b → (L[i]).F b ∨ w.heap.size ≤ b) : Pool W w' (L.set i p') := by
  refine ⟨m.below h.below h.below.size (fun b hb => h.ge _ (List.getElem_mem hi) b (hF b hb)), ?_, ?_, ?_, ?_⟩
  · intro p hp
    rcases mem_set_cases hp with rfl | ⟨j, hj, hne, rfl⟩
    · exact hS
    · exact (h.ses _ (List.getElem_mem hj)).mod m (fun b hb hf => h.apart i j hi hj (Ne.symm hne) b (hF b hf) (.inl hb)) hB
  · intro p hp
    rcases mem_set_cases hp with rfl | ⟨j, hj, hne, rfl⟩
    · exact hR
    · exact (h.ref _ (List.getElem_mem hj)).mod m (fun b hb hf => h.apart i j hi hj (Ne.symm hne) b (hF b hf) (.inr hb)) hB hO
  · intro p hp b hb
    rcases mem_set_cases hp with rfl | ⟨j, hj, hne, rfl⟩
    · exact (hN b hb).elim (h.ge _ (List.getElem_mem hi) b) (fun hb => Nat.le_trans h.below.size hb)
    · exact h.ge _ (List.getElem_mem hj) b hb
  · intro a c ha hc hne b hb hb'
    rw [List.length_set] at ha hc
    rw [List.getElem_set] at hb hb'
    split at hb
    · rename_i e
      subst e
      rw [if_neg hne] at hb'
      rcases hN b hb with hb | hb
      · exact h.apart i c hi hc hne b hb hb'
      · have := h.ltF (List.getElem_mem hc) b hb'
        omega
    · split at hb'
      · rename_i e
        subst e
        rcases hN b hb' with hb' | hb'
        · exact h.apart a i ha hi hne b hb hb'
        · have := h.ltF (List.getElem_mem ha) b hb
          omega
      · exact h.apart a c ha hc hne b hb hb'
theorem Pool.toS {σ : Int → Option CSt} (h : Pool W w L) (hi : i < L.length) (hn : PNext (L[i]).g (L[i]).mb (L[i]).cl σ w w') : ∃ cl', sigP cl' = σ ∧ Pool W w' (L.set i ⟨(L[i]).g, (L[i]).mb, cl', (L[i]).gm, (L[i]).rv, (L[i]).rl⟩) := by
  obtain ⟨cl', hS, hs, m, hF⟩ := hn
  have hs0 := h.ses _ (List.getElem_mem hi)
  have hr0 := h.ref _ (List.getElem_mem hi)
  refine ⟨cl', hs, h.step hi m (fun b hb => .inl hb) hs0.noB (fun b hb ht => hs0.notF ht (by decide) (by decide) (by decide) hb) hS (hr0.mod m (hs0.apartR hr0) hs0.noB (fun b hb ht => hs0.notF ht (by decide) (by decide) (by decide) hb)) ?_⟩
  rintro b (hb | hb)
  · exact (hF b hb).imp (fun h => .inl h) (fun h => h)
  · exact .inl (.inr hb)
theorem Pool.toR {σ : Int → Option CSt} (h : Pool W w L) (hi : i < L.length) (hn : RNext (L[i]).gm (L[i]).rv (L[i]).rl.length σ w w') : ∃ rv' rl', sigR rl' = σ ∧ rl'.length ≤ (L[i]).rl.length + 1 ∧ Pool W w' (L.set i ⟨(L[i]).g, (L[i]).mb, (L[i]).cl, (L[i]).gm, rv', rl'⟩) := by
  obtain ⟨rv', rl', hS, hlen, hs, m, hF⟩ := hn
  have hs0 := h.ses _ (List.getElem_mem hi)
  have hr0 := h.ref _ (List.getElem_mem hi)
  refine ⟨rv', rl', hs, hlen, h.step hi m (fun b hb => .inr hb) hr0.noB hr0.noO (hs0.mod m (fun b hb hf => hs0.apartR hr0 b hf hb) hr0.noB) hS ?_⟩
  rintro b (hb | hb)
  · exact .inl (.inl hb)
  · rcases hb with e | e
    · exact .inl (.inr (.inl e))
    · rcases hF with hF | hF
      · exact .inl (.inr (.inr (hF ▸ e)))
      · exact .inr (hF b e)
theorem Pool.add {p : Pr} (h : Pool W w L) (hS : SesAt w p.g p.mb p.cl) (hR : RSes w p.gm p.rv p.rl) {w0 : World} (h0 : ∀ q ∈ L, ∀ b, q.F b → b < w0.heap.size) (hW : W.heap.size ≤ w0.heap.size) (hnew : ∀ b, p.F b → w0.heap.size ≤ b) : Pool W w (L ++ [p]) := by
  refine ⟨h.below, ?_, ?_, ?_, ?_⟩
  · intro q hq
    rw [List.mem_append, List.mem_singleton] at hq
    rcases hq with hq | rfl
    · exact h.ses q hq
    · exact hS
  · intro q hq
    rw [List.mem_append, List.mem_singleton] at hq
    rcases hq with hq | rfl
    · exact h.ref q hq
    · exact hR
  · intro q hq b hb
    rw [List.mem_append, List.mem_singleton] at hq
    rcases hq with hq | rfl
    · exact h.ge q hq b hb
    · exact Nat.le_trans hW (hnew b hb)
  · intro a c ha hc hne b hb hb'
    rw [List.length_append, List.length_singleton] at ha hc
    rw [List.getElem_append] at hb hb'
    split at hb
    · rename_i ha'
      split at hb'
      · rename_i hc'
        exact h.apart a c ha' hc' hne b hb hb'
      · have h1 := h0 _ (List.getElem_mem ha') b hb
        have h2 := hnew b (by simpa using hb')
        omega
    · split at hb'
      · rename_i hc'
        have h1 := h0 _ (List.getElem_mem hc') b hb'
        have h2 := hnew b (by simpa using hb)
        omega
      · omega
end
end Go.Proofs.Ytompkpleiichaaa

/- Plain Lean: varints, zigzag, and reading them. -/
namespace Go.Proofs.Ytompkpleiichaaa
open Go.RowKit

/-- The varint of a number. -/
def varint (n : Nat) : List UInt8 := if _h : n < 128 then [UInt8.ofNat n] else UInt8.ofNat (n % 128 + 128) :: varint (n / 128)
termination_by n
decreasing_by omega
theorem varint_lt {n : Nat} (h : n < 128) : varint n = [UInt8.ofNat n] := by rw [varint, dif_pos h]
theorem varint_ge {n : Nat} (h : 128 ≤ n) : varint n = UInt8.ofNat (n % 128 + 128) :: varint (n / 128) := by rw [varint, dif_neg (by omega)]
theorem varint_len (k : Nat) : ∀ {n : Nat}, n < 128 ^ (k + 1) → (varint n).length ≤ k + 1 := by
  induction k with
  | zero => intro n h; rw [varint_lt (by simpa using h)]; simp
  | succ k ih =>
    intro n h
    by_cases h1 : n < 128
    · rw [varint_lt h1]; simp
    · rw [varint_ge (by omega)]
      have : n / 128 < 128 ^ (k + 1) := Nat.div_lt_of_lt_mul (by rw [Nat.pow_succ] at h; omega)
      have := ih this
      simp only [List.length_cons]; omega
theorem varint_len10 {n : Nat} (h : n ≤ 18446744073709551615) : (varint n).length ≤ 10 := varint_len 9 (by omega)
theorem varint_pos (n : Nat) : 0 < (varint n).length := by
  by_cases h : n < 128
  · rw [varint_lt h]; simp
  · rw [varint_ge (by omega)]; simp
/-- The zigzag form. -/
def zigI (n : Int) : Nat := if n < 0 then (2 * (-(n + 1)) + 1).toNat else (2 * n).toNat
def unzigI (z : Nat) : Int := if z % 2 = 1 then -((z / 2 : Nat) : Int) - 1 else ((z / 2 : Nat) : Int)
theorem zigI_lt {n : Int} (h1 : -9223372036854775808 ≤ n) (h2 : n ≤ 9223372036854775807) : zigI n ≤ 18446744073709551615 := by unfold zigI; split <;> omega
theorem unzig_zig (n : Int) : unzigI (zigI n) = n := by unfold unzigI zigI; split <;> split <;> omega
theorem zig_unzig (z : Nat) : zigI (unzigI z) = z := by unfold unzigI zigI; split <;> split <;> omega
theorem unzigI_range {z : Nat} (h : z ≤ 18446744073709551615) : -9223372036854775808 ≤ unzigI z ∧ unzigI z ≤ 9223372036854775807 := by unfold unzigI; split <;> omega

/-- The encodings. -/
def encInt (n : Int) : List UInt8 := varint (zigI n)
def encBool (b : Bool) : List UInt8 := if b then [1] else [0]
def encRaw (bs : List UInt8) : List UInt8 := varint bs.length ++ bs
def encInts (l : List Int) : List UInt8 := varint l.length ++ l.flatMap encInt
def encIntsTo (l : List Int) (k : Nat) : List UInt8 := varint l.length ++ (l.take k).flatMap encInt
theorem encIntsTo_zero (l : List Int) : encIntsTo l 0 = varint l.length := by simp [encIntsTo]
theorem encIntsTo_succ (l : List Int) (k : Nat) (hk : k < l.length) : encIntsTo l (k + 1) = encIntsTo l k ++ encInt (l[k]?.getD 0) := by
  unfold encIntsTo
  rw [List.take_succ_eq_append_getElem hk, List.flatMap_append, List.append_assoc]
  simp [hk]
theorem encIntsTo_all (l : List Int) (n : Nat) (h : l.length ≤ n) : encIntsTo l n = encInts l := by unfold encIntsTo encInts; rw [List.take_of_length_le h]

theorem ofNat_toNat {n : Nat} (h : n < 256) : (((UInt8.ofNat n).toNat : Nat) : Int) = (n : Int) := by rw [UInt8.toNat_ofNat']; omega
end Go.Proofs.Ytompkpleiichaaa
