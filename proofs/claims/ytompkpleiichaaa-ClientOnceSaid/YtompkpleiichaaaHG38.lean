/- The loops of a function's code, in the order of the text. -/
import Derived.Test.YtompkpleiichaaaHG2
import Derived.Test.YtompkpleiichaaaHG36
import Derived.Test.YtompkpleiichaaaHCliLives
import Derived.Test.YtompkpleiichaaaHLaw

namespace Go.Proofs.Ytompkpleiichaaa
open Go.RowKit

def loopsOf : Code → List Code
  | .loop c => c :: loopsOf c
  | .seq a b => loopsOf a ++ loopsOf b
  | .block _ c => loopsOf c
  | .scope c => loopsOf c
  | .cond _ a b => loopsOf a ++ loopsOf b
  | _ => []
noncomputable def nthLoop (f : Func) (n : Nat) : Code := (((f.body.map loopsOf).getD [])[n]?).getD .skip
end Go.Proofs.Ytompkpleiichaaa

/- ClientOnce: what holds at the head of its loops. -/
namespace Go.Proofs.Ytompkpleiichaaa
open Go.ChangeShapes Go.WideShapes Go.ChangeAt Go.RowKit Go.ChangeMaps

/-- Loop 4: requests under way are handed to the server. -/
def OR4 (W : World) (gs mb gp capp gd n round : Nat) (v iv : Value) (ws : World) : Prop := ∃ (i nN : Nat) (cl : List Cl) (C : Nat → Cll) (N : List Rq) (D : Nat → Nat) (nums : Nat → List Nat), i ≤ 8 ∧ nN ≤ 20 * round + 20 ∧ iv = .int .i64 (i : Int) ∧ (∃ A c, v = .slice A nN c) ∧ Hid (N.length = nN) ∧ Hid (Once W ws gs mb cl C (.slice (some ⟨gp, 0, none⟩) 2 capp) v N gd D) ∧ Hid (OnceI (sigP cl) C N D nums true) ∧ Hid (∀ i, i < 2 → (C i).last = min (round + 1) n)
theorem OR4.mk {W ws : World} {gs mb gp capp gd n round i nN c : Nat} {A : Option Addr} {iv : Value} {cl : List Cl} {C : Nat → Cll} {N : List Rq} {D : Nat → Nat} {nums : Nat → List Nat} (h1 : i ≤ 8) (h2 : nN ≤ 20 * round + 20) (h3 : iv = .int .i64 (i : Int)) (h4 : Hid (N.length = nN)) (h5 : Hid (Once W ws gs mb cl C (.slice (some ⟨gp, 0, none⟩) 2 capp) (.slice A nN c) N gd D)) (h6 : Hid (OnceI (sigP cl) C N D nums true)) (h7 : Hid (∀ i, i < 2 → (C i).last = min (round + 1) n)) : OR4 W gs mb gp capp gd n round (.slice A nN c) iv ws :=
  ⟨i, nN, cl, C, N, D, nums, h1, h2, h3, ⟨A, c, rfl⟩, h4, h5, h6, h7⟩
/-- At the round's end. -/
def OR5 (W : World) (gs mb gp capp gd n round nN : Nat) (v : Value) (ws : World) : Prop := ∃ (cl : List Cl) (C : Nat → Cll) (N : List Rq) (D : Nat → Nat) (nums : Nat → List Nat), N.length = nN ∧ Once W ws gs mb cl C (.slice (some ⟨gp, 0, none⟩) 2 capp) v N gd D ∧ OnceI (sigP cl) C N D nums true ∧ (∀ i, i < 2 → (C i).last = min (round + 1) n)
theorem OR5.mk {W ws : World} {gs mb gp capp gd n round nN : Nat} {v : Value} {cl : List Cl} {C : Nat → Cll} {N : List Rq} {D : Nat → Nat} {nums : Nat → List Nat} (h4 : Hid (N.length = nN)) (h5 : Hid (Once W ws gs mb cl C (.slice (some ⟨gp, 0, none⟩) 2 capp) v N gd D)) (h6 : Hid (OnceI (sigP cl) C N D nums true)) (h7 : Hid (∀ i, i < 2 → (C i).last = min (round + 1) n)) : OR5 W gs mb gp capp gd n round nN v ws :=
  ⟨cl, C, N, D, nums, h4.out, h5.out, h6.out, h7.out⟩
theorem OR5.next {W ws : World} {gs mb gp capp gd n round nN i c : Nat} {A : Option Addr} {iv : Value} (h : OR5 W gs mb gp capp gd n round nN (.slice A nN c) ws) (h1 : i ≤ 8) (h2 : nN ≤ 20 * round + 20) (h3 : iv = .int .i64 (i : Int)) : OR4 W gs mb gp capp gd n round (.slice A nN c) iv ws := by
  obtain ⟨cl, C, N, D, nums, h4, h5, h6, h7⟩ := h
  exact ⟨i, nN, cl, C, N, D, nums, h1, h2, h3, ⟨A, c, rfl⟩, Lib.hid h4, Lib.hid h5, Lib.hid h6, Lib.hid h7⟩
/-- Between loops 3 and 4. -/
def OR6 (W : World) (gs mb gp capp gd n round : Nat) (v : Value) (ws : World) : Prop := ∃ (A : Option Addr) (nN c : Nat), v = .slice A nN c ∧ nN ≤ 20 * round + 20 ∧ OR5 W gs mb gp capp gd n round nN v ws
theorem OR6.mk {W ws : World} {gs mb gp capp gd n round nN c : Nat} {A : Option Addr} (h2 : nN ≤ 20 * round + 20) (h : OR5 W gs mb gp capp gd n round nN (.slice A nN c) ws) : OR6 W gs mb gp capp gd n round (.slice A nN c) ws := ⟨A, nN, c, rfl, h2, h⟩
/-- Loop 2: the rounds. -/
def OR2 (W : World) (gs mb gp capp gd n : Nat) (v rd : Value) (ws : World) : Prop := ∃ (round nN : Nat) (cl : List Cl) (C : Nat → Cll) (N : List Rq) (D : Nat → Nat) (nums : Nat → List Nat), round ≤ 60 ∧ nN ≤ 20 * round ∧ rd = .int .i64 (round : Int) ∧ (∃ A c, v = .slice A nN c) ∧ Hid (N.length = nN) ∧ Hid (Once W ws gs mb cl C (.slice (some ⟨gp, 0, none⟩) 2 capp) v N gd D) ∧ Hid (OnceI (sigP cl) C N D nums true) ∧ Hid (∀ i, i < 2 → (C i).last = min round n)
theorem OR2.mk {W ws : World} {gs mb gp capp gd n round nN c : Nat} {A : Option Addr} {rd : Value} {cl : List Cl} {C : Nat → Cll} {N : List Rq} {D : Nat → Nat} {nums : Nat → List Nat} (h1 : round ≤ 60) (h2 : nN ≤ 20 * round) (h3 : rd = .int .i64 (round : Int)) (h4 : Hid (N.length = nN)) (h5 : Hid (Once W ws gs mb cl C (.slice (some ⟨gp, 0, none⟩) 2 capp) (.slice A nN c) N gd D)) (h6 : Hid (OnceI (sigP cl) C N D nums true)) (h7 : Hid (∀ i, i < 2 → (C i).last = min round n)) : OR2 W gs mb gp capp gd n (.slice A nN c) rd ws :=
  ⟨round, nN, cl, C, N, D, nums, h1, h2, h3, ⟨A, c, rfl⟩, h4, h5, h6, h7⟩
/-- Behind the rounds. -/
def OR8 (W : World) (gs mb gp capp gd n : Nat) (ws : World) : Prop := ∃ (v : Value) (cl : List Cl) (C : Nat → Cll) (N : List Rq) (D : Nat → Nat) (nums : Nat → List Nat), Once W ws gs mb cl C (.slice (some ⟨gp, 0, none⟩) 2 capp) v N gd D ∧ OnceI (sigP cl) C N D nums true ∧ ∀ i, i < 2 → (C i).last = n
def codeR : Code → Code
  | .seq _ b => b
  | _ => .skip
def codeL : Code → Code
  | .seq a _ => a
  | _ => .skip
def codeB : Code → Code
  | .block _ c => c
  | _ => .skip
/-- What follows the choice of a request in a round of loop 4. -/
noncomputable def restM : Code := codeR (codeR (codeR (codeR (codeB (codeL (codeR (nthLoop Try.f6 3)))))))
/-- What follows Accept in a round of loop 4. -/
noncomputable def restC : Code := codeR (codeR (codeR (codeR (codeR (codeR (codeB (codeL (codeR (nthLoop Try.f6 3)))))))))
end Go.Proofs.Ytompkpleiichaaa
