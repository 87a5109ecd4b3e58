/- book: Place, whole. -/
import Derived.Test.YtkandhpnenmleaaHBkPuqT
import Derived.Test.YtkandhpnenmleaaHBkPuqF
import Derived.Test.YtkandhpnenmleaaHBkVoid

namespace Go.Proofs.Ytkandhpnenmleaa
open Go.RowKit

theorem Place_any (gb B : Nat) (V : BkV) (b : BkS) (buy : Bool) (acc price n : Int) (w : World) (HK : Hid (BkAt w B gb V b)) (hlt : b.os.length < 100000) :
    Calls Try.prog 11 #[.pointer (some ⟨gb, 0, none⟩), .int .i64 acc, .bool buy, .int .i64 price, .int .i64 n] w (PlacePost gb B V b acc buy price n w) := by
  by_cases h1 : acc < 1 ∨ 1073741824 < acc
  · exact place_err1 gb B V b buy acc price n w HK h1
  · by_cases h2 : inR price = false ∨ inR n = false ∨ (1099511627776 : Int).tdiv n < price
    · exact place_err2 gb B V b buy acc price n w HK (by omega) (by omega) h2
    · have hp : inR price = true := by simpa using (fun e => h2 (.inl e))
      have hn : inR n = true := by simpa using (fun e => h2 (.inr (.inl e)))
      have hq : ¬ (1099511627776 : Int).tdiv n < price := fun e => h2 (.inr (.inr e))
      by_cases h3 : 4096 ≤ b.bs.length + b.ss.length
      · exact place_err3 gb B V b buy acc price n w HK (by omega) (by omega) hp hn (by omega) h3
      · cases buy
        · exact place_false gb B V b acc price n w HK hlt (by omega) (by omega) hp hn (by omega) (by omega)
        · exact place_true gb B V b acc price n w HK hlt (by omega) (by omega) hp hn (by omega) (by omega)
/-- The book behind a call: its parts, and what else may have turned. -/
structure BkNext (gb B : Nat) (V : BkV) (b : BkS) (w : World) (V' : BkV) (b' : BkS) (w' : World) : Prop where
  bk : BkAt w' B gb V' b'
  mod : Mod (BkF gb V b.os.length) w w'
  new : ∀ g, BkF gb V' b'.os.length g → BkF gb V b.os.length g ∨ w.heap.size ≤ g
theorem BkPost.next {gb B : Nat} {V : BkV} {b b' : BkS} {w w' : World} (h : BkPost gb B V b w b' w') : ∃ V', BkNext gb B V b w V' b' w' := by
  obtain ⟨V', h1, h2, h3⟩ := h
  exact ⟨V', h1, h2, h3⟩
theorem placeE_ok {b b' : BkS} {acc price n id err : Int} {buy : Bool} {ts : List Trd} (h : placeE b acc buy price n = (id, ts, err, b')) : (placeE b acc buy price n).1 = id ∧ (placeE b acc buy price n).2.1 = ts ∧ (placeE b acc buy price n).2.2.1 = err ∧ (placeE b acc buy price n).2.2.2 = b' := by rw [h]; exact ⟨rfl, rfl, rfl, rfl⟩
/-- Place with its results named. -/
theorem place_step (gb B : Nat) (V : BkV) (b : BkS) (buy : Bool) (acc price n : Int) (w : World) (HK : Hid (BkAt w B gb V b)) (hlt : b.os.length < 100000) {id err : Int} {ts : List Trd} {b' : BkS} {k : Nat} (hE : placeE b acc buy price n = (id, ts, err, b')) (hk : ts.length = k) :
    Calls Try.prog 11 #[.pointer (some ⟨gb, 0, none⟩), .int .i64 acc, .bool buy, .int .i64 price, .int .i64 n] w fun e w' => ∃ A c V', e = .returned (.tuple #[.int .i64 id, .slice A k c, .int .i64 err]) ∧ w'.ownsRow w.heap.size 46 4 (.slice A k c) k (ts.flatMap Trd.cells) ∧ BkNext gb B V b w V' b' w' := by
  refine (Place_any gb B V b buy acc price n w HK hlt).mono ?_
  rintro e w' ⟨A, c, h1, h2, h3⟩
  obtain ⟨e1, e2, e3, e4⟩ := placeE_ok hE
  rw [e1, e2, e3, hk] at h1
  rw [e2, hk] at h2
  rw [e4] at h3
  obtain ⟨V', h4⟩ := h3.next
  exact ⟨A, c, V', h1, h2, h4⟩
end Go.Proofs.Ytkandhpnenmleaa
