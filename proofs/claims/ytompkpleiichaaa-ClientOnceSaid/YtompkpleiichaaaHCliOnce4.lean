/- client: the steps of ClientOnce's end: what is still open is handed in, one after the other. -/
import Derived.Test.YtompkpleiichaaaHG36

namespace Go.Proofs.Ytompkpleiichaaa
open Go.RowKit

theorem Good.head {i last d m : Nat} {rest : List Nat} {op : List Rq} (h : Good i last d (m :: rest) op) : 1 ≤ m ∧ m ≤ last ∧ m ≤ d + 1 := by
  have hr := h.rng m (by simp)
  refine ⟨hr.1, hr.2, ?_⟩
  apply Nat.le_of_not_lt
  intro hlt
  have hi := h.inc
  rw [List.pairwise_cons] at hi
  rcases List.mem_cons.1 (h.all (d + 1) (by omega) (by omega)) with e | e
  · omega
  · have := hi.1 _ e
    omega
theorem Good.done {i last d : Nat} {op : List Rq} (h : Good i last d [] op) : d = last ∧ op = [] := by
  have hd := h.dle
  refine ⟨?_, ?_⟩
  · apply Nat.le_antisymm hd
    apply Nat.le_of_not_lt
    intro hlt
    have := h.all (d + 1) (by omega) (by omega)
    simp at this
  · have := h.log
    simpa using this
theorem SesG.weak {σ : Int → Option CSt} {i d : Nat} (h : SesG σ i d true) : SesG σ i d false := by
  obtain ⟨acc, h1, h2, h3⟩ := h
  exact ⟨acc, h1, h2, fun k hk => ⟨(h3 k hk).1, (h3 k hk).2.1, fun e => by cases e⟩⟩
theorem OnceI.weak {σ : Int → Option CSt} {C : Nat → Cll} {N : List Rq} {D : Nat → Nat} {nums : Nat → List Nat} (h : OnceI σ C N D nums true) : OnceI σ C [] D nums false := ⟨h.good, fun i hi => (h.ses i hi).weak, by simp⟩
theorem OnceI.pop {σ : Int → Option CSt} {C : Nat → Cll} {N : List Rq} {D : Nat → Nat} {nums : Nat → List Nat} {tx : Bool} {c' : Cll} {i m n : Nat} {rest : List Nat} (h : OnceI σ C N D nums tx) (hi : i < 2) (hn : nums i = m :: rest) (hm : m ≤ D i) (hsz : n ≤ 65536) (hc : c'.last = (C i).last)
    (ho : c'.op.map Rq.log = gotNew ((C i).last : Int) ((C i).op.map Rq.log) (m : Int) n) : OnceI σ (updN C i c') N D (updN nums i rest) tx := by
  have hg := h.good i hi
  rw [hn] at hg
  have hg' := hg.pop hm hsz ho
  refine ⟨fun j hj => ?_, h.ses, fun r hr => ?_⟩
  · unfold updN
    split
    · rename_i e
      subst e
      rw [hc]
      exact hg'
    · exact h.good j hj
  · obtain ⟨j, m, hj, h1, h2, e⟩ := h.net r hr
    refine ⟨j, m, hj, h1, ?_, e⟩
    unfold updN
    split
    · rename_i e
      subst e
      omega
    · exact h2
/-- An answer to the first open request arrives. -/
theorem Once.pop {W w w' : World} {gs mb gd i m n : Nat} {cl : List Cl} {C : Nat → Cll} {vP vN : Value} {N N' : List Rq} {D : Nat → Nat} {nums : Nat → List Nat} {tx : Bool} {σ : Int → Option CSt} {e : Ending} {rest : List Nat} (h : Once W w gs mb cl C vP vN N gd D) (hI : OnceI σ C N' D nums tx) (hi : i < 2) (hn : nums i = m :: rest) (hm : m ≤ D i) (hsz : n ≤ 65536)
    (hp : GotPost 89 32 (C i).g ((i : Int) + 1) ((i : Int) + 5) ((C i).last : Int) (C i).rv (C i).op (m : Int) n w e w') :
    e = .returned (.int .i64 0) ∧ ∃ C', Once W w' gs mb cl C' vP vN N gd D ∧ OnceI σ C' N' D (updN nums i rest) tx ∧ (∀ j, (C' j).last = (C j).last) ∧ (∀ j, (C' j).g = (C j).g) := by
  obtain ⟨rv', op', he, hl, hc, m', hat⟩ := hp
  have hg := hI.good i hi
  rw [hn] at hg
  have h0 := hg.gotErr0 (m := m) (n := n) (by simp) hsz
  rw [h0] at he
  have hI' := hI.pop (c' := ⟨(C i).g, (C i).last, rv', op'⟩) hi hn hm hsz rfl hl
  refine ⟨he, updN C i ⟨(C i).g, (C i).last, rv', op'⟩, h.toCall hi hc rfl m' ?_, hI', fun j => ?_, fun j => ?_⟩
  · rintro b (hb | hb)
    · exact .inl (.inl hb)
    · rcases hat with e | e
      · exact .inl (.inr (e ▸ hb))
      · exact .inr (e b hb)
  · unfold updN
    split
    · rename_i e
      rw [e]
    · rfl
  · unfold updN
    split
    · rename_i e
      rw [e]
    · rfl
/-- Other requests lie in a new row. -/
theorem Once.newNet {W w w' : World} {gs mb gd n : Nat} {cl : List Cl} {C : Nat → Cll} {vP vN v' : Value} {N N' : List Rq} {D : Nat → Nat} (h : Once W w gs mb cl C vP vN N gd D) (hb : Below w.heap.size w w') (hN : ∀ r ∈ N', r.ok w') (hn : N'.length = n) (hown : w'.ownsRow w.heap.size 32 4 v' n (N'.flatMap Rq.cells)) : Once W w' gs mb cl C vP v' N' gd D := by
  have h' := h.all hb
  have hlt : ∀ b, v'.ownBlock = some b → w.heap.size ≤ b := fun b e => (hown.lt b e).1
  exact ⟨h'.sys, by rw [hn]; exact own_lower hown (Nat.zero_le _), hN, fun b e => Nat.le_trans h.sys.below.size (hlt b e), fun i hi b e hf => by
    have h1 := hlt b e
    have h2 := (h.sys.call i hi).ltF b hf
    omega, h'.done, h'.gdn⟩
theorem log_at {L : List Rq} {ms : List Nat} {i k : Nat} (h : L.map Rq.log = ms.map (rqL i)) (hk : k < L.length) : ∃ m, ms.drop k = m :: ms.drop (k + 1) ∧ (L[k]).log = rqL i m := by
  have hl : L.length = ms.length := by rw [← List.length_map (f := Rq.log), h, List.length_map]
  refine ⟨ms[k]'(by omega), List.drop_eq_getElem_cons (by omega), ?_⟩
  have h1 : (L.map Rq.log)[k]? = (ms.map (rqL i))[k]? := by rw [h]
  rw [List.getElem?_map, List.getElem?_map, List.getElem?_eq_getElem hk, List.getElem?_eq_getElem (by omega : k < ms.length)] at h1
  simpa using h1
theorem modCell {F : Nat → Prop} {w w' : World} {b o : Nat} (m : Mod F w w') (hb : b < w.heap.size) (hf : ¬ F b) : w'.cell? ⟨b, o, none⟩ = w.cell? ⟨b, o, none⟩ := by
  have := m.block b hb hf
  simp [World.cell?, this]
theorem gotCell {w w' : World} {i b o n : Nat} {num : Int} {C : Nat → Cll} {e : Ending} (hb : b < w.heap.size) (hf : ¬ (C i).F b)
    (hp : GotPost 89 32 (C i).g ((i : Int) + 1) ((i : Int) + 5) ((C i).last : Int) (C i).rv (C i).op num n w e w') : w'.cell? ⟨b, o, none⟩ = w.cell? ⟨b, o, none⟩ := by
  obtain ⟨rv', op', -, -, -, m', -⟩ := hp
  exact modCell m' hb hf
/-- What is open of a caller is handed in: k requests are done. -/
def OR9 (W : World) (gs mb gd n i len : Nat) (vP vA : Value) (L : List Rq) (ms : List Nat) (kv : Value) (ws : World) : Prop := ∃ (k : Nat) (cl : List Cl) (C : Nat → Cll) (D : Nat → Nat) (nums : Nat → List Nat), k ≤ len ∧ kv = .int .i64 (k : Int) ∧ Hid (Once W ws gs mb cl C vP vA L gd D) ∧ Hid (OnceI (sigP cl) C [] D nums false) ∧ Hid (nums i = ms.drop k) ∧ Hid (∀ j, j < 2 → (C j).last = n) ∧ Hid (∀ j, j < i → nums j = [])
theorem OR9.mk {W ws : World} {gs mb gd n i len k : Nat} {vP vA kv : Value} {L : List Rq} {ms : List Nat} {cl : List Cl} {C : Nat → Cll} {D : Nat → Nat} {nums : Nat → List Nat} (h1 : k ≤ len) (h2 : kv = .int .i64 (k : Int)) (h3 : Hid (Once W ws gs mb cl C vP vA L gd D)) (h4 : Hid (OnceI (sigP cl) C [] D nums false)) (h5 : Hid (nums i = ms.drop k)) (h6 : Hid (∀ j, j < 2 → (C j).last = n)) (h7 : Hid (∀ j, j < i → nums j = [])) : OR9 W gs mb gd n i len vP vA L ms kv ws :=
  ⟨k, cl, C, D, nums, h1, h2, h3, h4, h5, h6, h7⟩
/-- The first i callers have nothing open. -/
def OR10 (W : World) (gs mb gd n i : Nat) (vP : Value) (ws : World) : Prop := ∃ (v : Value) (cl : List Cl) (C : Nat → Cll) (N : List Rq) (D : Nat → Nat) (nums : Nat → List Nat), Hid (Once W ws gs mb cl C vP v N gd D) ∧ Hid (OnceI (sigP cl) C [] D nums false) ∧ Hid (∀ j, j < 2 → (C j).last = n) ∧ Hid (∀ j, j < i → nums j = [])
theorem OR10.mk {W ws : World} {gs mb gd n i : Nat} {vP v : Value} {cl : List Cl} {C : Nat → Cll} {N : List Rq} {D : Nat → Nat} {nums : Nat → List Nat} (h1 : Hid (Once W ws gs mb cl C vP v N gd D)) (h2 : Hid (OnceI (sigP cl) C [] D nums false)) (h3 : Hid (∀ j, j < 2 → (C j).last = n)) (h4 : Hid (∀ j, j < i → nums j = [])) : OR10 W gs mb gd n i vP ws := ⟨v, cl, C, N, D, nums, h1, h2, h3, h4⟩
def OR11 (W : World) (gs mb gd n : Nat) (vP iv : Value) (ws : World) : Prop := ∃ i : Nat, i ≤ 2 ∧ iv = .int .i64 (i : Int) ∧ OR10 W gs mb gd n i vP ws
theorem OR9.last {W ws : World} {gs mb gd n i len : Nat} {vP vA : Value} {L : List Rq} {ms : List Nat} (h : OR9 W gs mb gd n i len vP vA L ms (.int .i64 (len : Int)) ws) (hl : ms.length = len) : OR10 W gs mb gd n (i + 1) vP ws := by
  obtain ⟨k, cl, C, D, nums, -, hk, h1, h2, h3, h4, h5⟩ := h
  injection hk with _ hk
  have hk' : k = len := by omega
  subst hk'
  refine OR10.mk h1 h2 h4 (Lib.hid (fun j hj => ?_))
  rcases Nat.lt_or_ge j i with hji | hji
  · exact h5.out j hji
  · have : j = i := by omega
    subst this
    rw [h3.out, List.drop_eq_nil_of_le (by omega)]
end Go.Proofs.Ytompkpleiichaaa
