/- book: the reference's Get and Best. -/
import Derived.Test.YtkandhpnenmleaaHBrBest
import Derived.Test.YtkandhpnenmleaaHBkGet

namespace Go.Proofs.Ytkandhpnenmleaa
open Go.RowKit

/-- Seven cells of a block are written anew. -/
def set7 (w : World) (g : Nat) (a b c d e f u : Value) : World := ((((((w.setCell ⟨g, 0, none⟩ a).setCell ⟨g, 1, none⟩ b).setCell ⟨g, 2, none⟩ c).setCell ⟨g, 3, none⟩ d).setCell ⟨g, 4, none⟩ e).setCell ⟨g, 5, none⟩ f).setCell ⟨g, 6, none⟩ u
theorem set7_blk {w : World} {g : Nat} {t : TypeId} {cs : Array Value} (h : Blk w g t cs) (hs : cs.size = 7) (a b c d e f u : Value) : Blk (set7 w g a b c d e f u) g t #[a, b, c, d, e, f, u] := by
  have h1 := (((((((h.set_ 0 a).set_ 1 b).set_ 2 c).set_ 3 d).set_ 4 e).set_ 5 f).set_ 6 u)
  have e1 : (((((((cs.setIfInBounds 0 a).setIfInBounds 1 b).setIfInBounds 2 c).setIfInBounds 3 d).setIfInBounds 4 e).setIfInBounds 5 f).setIfInBounds 6 u) = #[a, b, c, d, e, f, u] := by
    rcases cs with ⟨_ | ⟨x0, _ | ⟨x1, _ | ⟨x2, _ | ⟨x3, _ | ⟨x4, _ | ⟨x5, _ | ⟨x6, _ | ⟨x7, l⟩⟩⟩⟩⟩⟩⟩⟩⟩
    all_goals first | (simp at hs; done) | simp
  rw [e1] at h1
  exact h1
theorem set7_mod {w : World} {g : Nat} {F : Nat → Prop} (hF : F g) (a b c d e f u : Value) : Mod F w (set7 w g a b c d e f u) :=
  ((((((((Mod.refl F w).set (p := ⟨g, 0, none⟩) (.inl hF) a).set (p := ⟨g, 1, none⟩) (.inl hF) b).set (p := ⟨g, 2, none⟩) (.inl hF) c).set (p := ⟨g, 3, none⟩) (.inl hF) d).set (p := ⟨g, 4, none⟩) (.inl hF) e).set (p := ⟨g, 5, none⟩) (.inl hF) f).set (p := ⟨g, 6, none⟩) (.inl hF) u)
def rgetO (l : List ROrd) (id : Int) : ROrd := if 0 ≤ id ∧ id < (l.length : Int) then rAt l id.toNat else rord0
theorem Rel.getO {l : List ROrd} {b : BkS} (h : Rel l b) (id : Int) : (rgetO l id).o = getO b.os id := by
  unfold rgetO Go.Proofs.Ytkandhpnenmleaa.getO
  rw [h.len]
  split
  · exact h.at_ _
  · rfl
set_option maxRecDepth 100000 in
theorem rget_any (B g n c : Nat) (A : Option Addr) (l : List ROrd) (b : BkS) (id : Int) (w : World) (HK : Hid (RAt w B g A n c l b)) :
    Calls Try.prog 43 #[.pointer (some ⟨g, 0, none⟩), .int .i64 id] w fun e w' => e = .returned (.tuple #[.agg #[.int .i64 (rgetO l id).o.id, .int .i64 (rgetO l id).o.acc, .bool (rgetO l id).o.buy, .int .i64 (rgetO l id).o.price, .int .i64 (rgetO l id).o.n, .int .i64 (rgetO l id).o.left, .bool (rgetO l id).e], .bool (hasO b.os id)]) ∧ Below w.heap.size w w' := by
  have hl := HK.out.rb.len
  have hl2 := HK.out.rel.len
  have c0 := HK.out.rb.cell0
  have hgb := HK.out.rb.blk.lt
  by_cases h0 : id < 0
  · have hr : rgetO l id = rord0 := if_neg (by omega)
    have hh : hasO b.os id = false := by simp [hasO]; omega
    rw [hr, hh]
    clear hr hh hl hl2
    go_enter Try.func43, Try.ntmps43
    go_wp2
    refine bodyPost_ret (v := .tuple #[.agg #[.int .i64 0, .int .i64 0, .bool false, .int .i64 0, .int .i64 0, .int .i64 0, .bool false], .bool false]) (by simp [results, Try.results43, go_sem]) rfl ⟨rfl, (Below.refl _ _).alloc (Nat.le_refl _) _⟩
  · by_cases h1 : id < (n : Int)
    · have hid : id.toNat < n := by omega
      have hr : rgetO l id = rAt l id.toNat := if_pos ⟨by omega, by omega⟩
      have hh : hasO b.os id = true := by simp [hasO]; omega
      rw [hr, hh]
      obtain ⟨gr, e2, lgr, -, -, x0, x1, x2, x3, x4, x5, x6⟩ := HK.out.rb.order hid
      obtain ⟨k, rfl⟩ : ∃ k : Nat, id = (k : Int) := ⟨id.toNat, by omega⟩
      rw [Int.toNat_natCast] at *
      subst e2
      clear hr hh
      obtain ⟨x, hx⟩ : ∃ x, rAt l k = x := ⟨_, rfl⟩
      rw [hx] at x0 x1 x2 x3 x4 x5 x6 ⊢
      clear hx HK hid hl hl2
      go_enter Try.func43, Try.ntmps43
      go_wp2
      refine bodyPost_ret (v := .tuple #[.agg #[.int .i64 x.o.id, .int .i64 x.o.acc, .bool x.o.buy, .int .i64 x.o.price, .int .i64 x.o.n, .int .i64 x.o.left, .bool x.e], .bool true]) (by simp [results, Try.results43, go_sem]) rfl ⟨rfl, ?_⟩
      exact (Below.refl _ _).alloc (Nat.le_refl _) _
    · have hr : rgetO l id = rord0 := if_neg (by omega)
      have hh : hasO b.os id = false := by simp [hasO]; omega
      rw [hr, hh]
      clear hr hh hl hl2
      go_enter Try.func43, Try.ntmps43
      go_wp2
      refine bodyPost_ret (v := .tuple #[.agg #[.int .i64 0, .int .i64 0, .bool false, .int .i64 0, .int .i64 0, .int .i64 0, .bool false], .bool false]) (by simp [results, Try.results43, go_sem]) rfl ⟨rfl, (Below.refl _ _).alloc (Nat.le_refl _) _⟩
end Go.Proofs.Ytkandhpnenmleaa
