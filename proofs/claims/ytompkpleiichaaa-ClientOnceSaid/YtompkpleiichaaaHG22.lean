/- client: the package's Sessions told as the reference's are. -/
import Derived.Test.YtompkpleiichaaaHCliCopy
import Derived.Test.YtompkpleiichaaaHG12

namespace Go.Proofs.Ytompkpleiichaaa
open Go.RowKit

def PNext (g mb : Nat) (cl : List Cl) (σ : Int → Option CSt) (w w' : World) : Prop := ∃ cl', SesAt w' g mb cl' ∧ sigP cl' = σ ∧ Mod (SesF g mb cl) w w' ∧ ∀ b, SesF g mb cl' b → SesF g mb cl b ∨ w.heap.size ≤ b
theorem PNext.same {g mb : Nat} {cl : List Cl} {w w' : World} (h : SesAt w g mb cl) (hb : Below w.heap.size w w') : PNext g mb cl (sigP cl) w w' := ⟨cl, h.all hb, rfl, Mod.of_below _ hb, fun _ h => .inl h⟩
theorem sigP_upd {w : World} {g mb : Nat} {l1 l2 : List Cl} {c c' : Cl} (h : SesAt w g mb (l1 ++ c :: l2)) (hid : c'.id = c.id) : sigP (l1 ++ c' :: l2) = upd (sigP (l1 ++ c :: l2)) c.id c'.st := by
  have hn := IMap.nodup' h.map
  rw [List.map_map] at hn
  have hno : ∀ x ∈ l1, x.id ≠ c.id := by
    intro x hx e
    rw [List.map_append, List.nodup_append] at hn
    exact hn.2.2 x.id (List.mem_map.2 ⟨x, hx, rfl⟩) c.id (by simp) e
  funext j
  unfold sigP upd findC
  dsimp only
  rw [List.find?_append, List.find?_append, List.find?_cons, List.find?_cons, hid]
  by_cases hj : j = c.id
  · subst hj
    have h1 : l1.find? (fun x => x.id == c.id) = none := by
      rw [List.find?_eq_none]
      intro x hx
      simpa using hno x hx
    simp [h1]
  · have : ¬ c.id = j := fun e => hj e.symm
    rw [show (c.id == j) = false by simpa using this]
    simp [hj]
theorem sigP_some {cl : List Cl} {id : Int} {c : Cl} (h : findC cl id = some c) : sigP cl id = some c.st := by unfold sigP; rw [h]; rfl
theorem sigP_none {cl : List Cl} {id : Int} (h : findC cl id = none) : sigP cl id = none := by unfold sigP; rw [h]; rfl
theorem lastP_any (g mb : Nat) (cl : List Cl) (id : Int) (w : World) (HS : Hid (SesAt w g mb cl)) : Calls Try.prog 22 #[.pointer (some ⟨g, 0, none⟩), .int .i64 id] w fun e w' => e = .returned (.int .i64 ((sigP cl id).elim 0 (·.2.1))) ∧ w = w' :=
  (lastS_any g mb cl id w HS).mono fun e w' ⟨he, hw⟩ => ⟨by
    rw [he]
    unfold sigP
    cases findC cl id <;> rfl, hw⟩
theorem joinP_any (g mb : Nat) (cl : List Cl) (id key : Int) (w : World) (HS : Hid (SesAt w g mb cl)) :
    Calls Try.prog 11 #[.pointer (some ⟨g, 0, none⟩), .int .i64 id, .int .u64 key] w fun e w' => e = .returned (.int .i64 (joinE (sigP cl id) id)) ∧ PNext g mb cl (joinS (sigP cl) id key) w w' := by
  by_cases h : 1 ≤ id ∧ id ≤ 1073741824
  · rcases hf : findC cl id with _ | c
    · have he : joinE (sigP cl id) id = 0 := by unfold joinE; rw [if_neg (by omega), sigP_none hf]; rfl
      refine (join_yes g mb cl id key w HS h.1 h.2 hf).mono ?_
      rintro e w' ⟨sb, rfl, hS, hm, hF⟩
      exact ⟨by rw [he], _, hS, by unfold joinS; rw [if_pos he]; exact sigP_snoc (c := ⟨id, key, 0, [], sb, .slice none 0 0⟩) hf, hm, hF⟩
    · have he : joinE (sigP cl id) id = 8 := by unfold joinE; rw [if_neg (by omega), sigP_some hf]; rfl
      refine (join_twice g mb cl c id key w HS h.1 h.2 hf).mono ?_
      rintro e w' ⟨rfl, rfl⟩
      exact ⟨by rw [he], by unfold joinS; rw [if_neg (by rw [he]; decide)]; exact PNext.same HS.out (Below.refl _ _)⟩
  · have he : joinE (sigP cl id) id = 1 := by unfold joinE; rw [if_pos h]
    refine (join_arg g id key w h).mono ?_
    rintro e w' ⟨rfl, rfl⟩
    exact ⟨by rw [he], by unfold joinS; rw [if_neg (by rw [he]; decide)]; exact PNext.same HS.out (Below.refl _ _)⟩
def PAccPost (g mb : Nat) (cl : List Cl) (r : Rq) (w : World) (e : Ending) (w' : World) : Prop :=
  ∃ A n cap, e = .returned (.tuple #[.bool (acRes (sigP cl) r).1, .slice A n cap, .int .i64 (acRes (sigP cl) r).2.2]) ∧ Bts w' A n cap (acRes (sigP cl) r).2.1 ∧ PNext g mb cl (acSt (sigP cl) r) w w'
theorem acceptP_any (g mb : Nat) (cl : List Cl) (r : Rq) (w : World) (HS : Hid (SesAt w g mb cl)) (HR : Hid (r.ok w)) (h5 : r.num ≤ 9223372036854775807) (HLT : Hid (∀ s, sigP cl r.cl = some s → s.2.1 < 4611686018427387904)) :
    Calls Try.prog 20 #[.pointer (some ⟨g, 0, none⟩), .agg #[.int .i64 r.cl, .int .i64 r.num, .slice r.A r.n r.c, .int .u64 r.tag]] w (PAccPost g mb cl r w) := by
  by_cases h : (r.cl < 1 ∨ 1073741824 < r.cl) ∨ r.num < 1 ∨ 65536 < r.n
  · have he : acRes (sigP cl) r = (false, [], 1) := by unfold acRes; rw [if_pos h]
    refine (accept_arg g r w (by omega)).mono ?_
    rintro e w' ⟨rfl, hb⟩
    exact ⟨none, 0, 0, by rw [he], by rw [he]; exact Bts.nil _, by unfold acSt; rw [he]; exact PNext.same HS.out hb⟩
  · rcases hf : findC cl r.cl with _ | c
    · have he : acRes (sigP cl) r = (false, [], 7) := by unfold acRes; rw [if_neg h, sigP_none hf]
      refine (accept_none g mb cl r w HS (Lib.hid hf) (by omega) (by omega) (by omega) (by omega)).mono ?_
      rintro e w' ⟨rfl, hb⟩
      exact ⟨none, 0, 0, by rw [he], by rw [he]; exact Bts.nil _, by unfold acSt; rw [he]; exact PNext.same HS.out hb⟩
    · obtain ⟨l1, l2, rfl, hid⟩ := findC_split hf
      have hs := sigP_some hf
      have he : acRes (sigP (l1 ++ c :: l2)) r = accRes (tagOk c.key r) c.last (c.acc.map Acc.log) r.num (bodyI r.bs) := by unfold acRes; rw [if_neg h, hs]; rfl
      refine (accept_joined g mb l1 l2 c r w HS (Lib.hid hf) HR (by omega) (by omega) (by omega) (by omega) h5 (HLT.out _ hs)).mono ?_
      rintro e w' ⟨A, n, cap, c', rfl, hB, hi, hk, hst, hS, hm, hF⟩
      refine ⟨A, n, cap, by rw [he], by rw [he]; exact hB, _, hS, ?_, hm, hF⟩
      rw [sigP_upd HS.out hi]
      unfold acSt
      rw [hs, he]
      dsimp only
      have hst' : c'.st = (c.key, accNew (tagOk c.key r) c.last (c.acc.map Acc.log) r.num (bodyI r.bs)) := by unfold Cl.st; rw [hk, hst]
      rw [hst', hid]
      split
      · rfl
      · rename_i hno
        refine upd_same ?_
        rw [hs]
        unfold accNew Cl.st
        rw [if_neg hno]
def PAnsPost (g mb : Nat) (cl : List Cl) (id num : Int) (n : Nat) (bs : List UInt8) (w : World) (e : Ending) (w' : World) : Prop := e = .returned (.int .i64 (anErr (sigP cl) id num n)) ∧ PNext g mb cl (anSt (sigP cl) id num n bs) w w'
theorem answerP_any (g mb : Nat) (cl : List Cl) (id num : Int) (A : Option Addr) (n cc : Nat) (bs : List UInt8) (w : World) (HS : Hid (SesAt w g mb cl)) (HB : Hid (Bts w A n cc bs)) (hn : n ≤ 1048576) :
    Calls Try.prog 26 #[.pointer (some ⟨g, 0, none⟩), .int .i64 id, .int .i64 num, .slice A n cc] w (PAnsPost g mb cl id num n bs w) := by
  rcases hf : findC cl id with _ | c
  · refine (answer_none g mb cl id num A n cc w HS (Lib.hid hf)).mono ?_
    rintro e w' ⟨rfl, rfl⟩
    exact ⟨by unfold anErr; rw [sigP_none hf], by unfold anSt; rw [sigP_none hf]; exact PNext.same HS.out (Below.refl _ _)⟩
  · obtain ⟨l1, l2, rfl, hid⟩ := findC_split hf
    have hs := sigP_some hf
    refine (answer_joined g mb l1 l2 c id num A n cc bs w HS (Lib.hid hf) HB hn).mono ?_
    rintro e w' ⟨c', rfl, hi, hk, hl, hst, hS, hm, hF⟩
    refine ⟨by unfold anErr; rw [hs]; rfl, _, hS, ?_, hm, hF⟩
    rw [sigP_upd HS.out hi]
    unfold anSt
    rw [hs]
    dsimp only
    have hst' : c'.st = (c.key, c.last, ansNew c.last (c.acc.map Acc.log) num n bs) := by unfold Cl.st; rw [hk, hl, hst]
    rw [hst', hid]
    rfl
end Go.Proofs.Ytompkpleiichaaa

/- client: what two callers and a server do, in plain terms. -/
namespace Go.Proofs.Ytompkpleiichaaa
open Go.RowKit

def bsL (i m : Nat) : List UInt8 := [UInt8.ofNat m, UInt8.ofNat i]
def txL (i m : Nat) : List UInt8 := [UInt8.ofNat m, UInt8.ofNat (i + 1), 9]
def rqL (i m : Nat) : Int × Int × List UInt8 × Int := ((i : Int) + 1, (m : Int), bsL i m, tagI ((i : Int) + 5) ((i : Int) + 1) (m : Int) (bodyI (bsL i m)))
/-- A caller: its open requests by their numbers; what is not performed is open. -/
structure Good (i last d : Nat) (nums : List Nat) (op : List Rq) : Prop where
  log : op.map Rq.log = nums.map (rqL i)
  inc : nums.Pairwise (· < ·)
  rng : ∀ m ∈ nums, 1 ≤ m ∧ m ≤ last
  all : ∀ m, d < m → m ≤ last → m ∈ nums
  dle : d ≤ last
/-- The server's side of a caller: d requests performed and answered. -/
def SesG (σ : Int → Option CSt) (i d : Nat) (tx : Bool) : Prop := ∃ acc : List AL, σ ((i : Int) + 1) = some ((i : Int) + 5, (d : Int), acc) ∧ acc.length = d ∧ ∀ k (h : k < acc.length), (acc[k]).1 = bodyI (bsL i (k + 1)) ∧ (acc[k]).2.1 = true ∧ (tx = true → (acc[k]).2.2 = txL i (k + 1))
theorem inc_len (nums : List Nat) : ∀ (lo last : Nat), nums.Pairwise (· < ·) → (∀ m ∈ nums, lo ≤ m ∧ m ≤ last) → nums.length + lo ≤ last + 1 ∨ nums = [] := by
  induction nums with
  | nil => intro _ _ _ _; exact .inr rfl
  | cons a l ih =>
    intro lo last hi hr
    rw [List.pairwise_cons] at hi
    have ha := hr a (by simp)
    left
    rcases ih (a + 1) last hi.2 (fun m hm => ⟨hi.1 m hm, (hr m (by simp [hm])).2⟩) with h | h
    · rw [List.length_cons]
      omega
    · subst h
      simp
      omega
theorem Good.len {i last d : Nat} {nums : List Nat} {op : List Rq} (h : Good i last d nums op) : op.length ≤ last := by
  have e : op.length = nums.length := by rw [← List.length_map (f := Rq.log), h.log, List.length_map]
  rcases inc_len nums 1 last h.inc h.rng with h1 | h1
  · omega
  · rw [e, h1]
    simp
theorem rq_bsLen (i m : Nat) : (bsL i m).length = 2 := rfl
theorem Good.sent {i last d : Nat} {nums : List Nat} {op op' : List Rq} (h : Good i last d nums op) (hl : last < 16) (ho : op'.map Rq.log = sendOps ((i : Int) + 1) ((i : Int) + 5) (last : Int) (op.map Rq.log) (bsL i (last + 1))) : Good i (last + 1) d (nums ++ [last + 1]) op' := by
  have hlen := h.len
  refine ⟨?_, ?_, ?_, ?_, by have := h.dle; omega⟩
  · rw [ho]
    unfold sendOps
    rw [if_neg (by rw [rq_bsLen, List.length_map]; omega), h.log, List.map_append]
    unfold sendLog
    rw [if_neg (by rw [rq_bsLen, List.length_map, ← List.length_map (f := rqL i), ← h.log, List.length_map]; omega)]
    rfl
  · rw [List.pairwise_append]
    refine ⟨h.inc, by simp, fun a ha b hb => ?_⟩
    rw [List.mem_singleton] at hb
    subst hb
    have := (h.rng a ha).2
    omega
  · intro m hm
    rw [List.mem_append, List.mem_singleton] at hm
    rcases hm with hm | rfl
    · have := h.rng m hm
      omega
    · omega
  · intro m h1 h2
    rw [List.mem_append, List.mem_singleton]
    rcases Nat.lt_or_ge last m with h3 | h3
    · right; omega
    · left; exact h.all m h1 h3
theorem rqL_num (i m : Nat) : (rqL i m).2.1 = (m : Int) := rfl
theorem hasN_nums (i m : Nat) (nums : List Nat) : hasN (nums.map (rqL i)) (m : Int) = decide (m ∈ nums) := by
  unfold hasN
  rw [Bool.eq_iff_iff, List.any_eq_true, decide_eq_true_iff]
  constructor
  · rintro ⟨p, hp, he⟩
    obtain ⟨a, ha, rfl⟩ := List.mem_map.1 hp
    rw [rqL_num, beq_iff_eq] at he
    have : a = m := by omega
    exact this ▸ ha
  · intro hm
    exact ⟨_, List.mem_map.2 ⟨m, hm, rfl⟩, by rw [rqL_num]; simp⟩
theorem eraseP_nums (i m : Nat) (nums : List Nat) : (nums.map (rqL i)).eraseP (fun p => p.2.1 == (m : Int)) = (nums.erase m).map (rqL i) := by
  induction nums with
  | nil => rfl
  | cons a l ih =>
    rw [List.map_cons]
    by_cases h : a = m
    · subst h
      rw [List.eraseP_cons_of_pos (by rw [rqL_num]; simp), List.erase_cons_head]
    · rw [List.eraseP_cons_of_neg (by rw [rqL_num]; simp; omega), ih, List.erase_cons_tail (by simpa using h), List.map_cons]
theorem Good.got {i last d m : Nat} {n : Nat} {nums : List Nat} {op op' : List Rq} (h : Good i last d nums op) (hm : m ≤ d) (ho : op'.map Rq.log = gotNew (last : Int) (op.map Rq.log) (m : Int) n) : ∃ nums', Good i last d nums' op' := by
  unfold gotNew at ho
  split at ho
  · rw [h.log, eraseP_nums] at ho
    refine ⟨nums.erase m, ho, h.inc.sublist (List.erase_sublist ..), fun x hx => h.rng x (List.mem_of_mem_erase hx), fun x h1 h2 => ?_, h.dle⟩
    exact (List.mem_erase_of_ne (by omega)).2 (h.all x h1 h2)
  · exact ⟨nums, ho.trans h.log, h.inc, h.rng, h.all, h.dle⟩
theorem Good.gotErr0 {i last d m : Nat} {n : Nat} {nums : List Nat} {op : List Rq} (h : Good i last d nums op) (hm : m ∈ nums) (hn : n ≤ 65536) : gotErr (last : Int) (op.map Rq.log) (m : Int) n = 0 := by
  have hr := h.rng m hm
  unfold gotErr
  rw [if_neg (by omega), h.log, hasN_nums, if_neg (by simp [hm]), if_neg (by omega)]
/-- The first open request goes. -/
theorem Good.pop {i last d m : Nat} {n : Nat} {nums : List Nat} {op op' : List Rq} (h : Good i last d (m :: nums) op) (hm : m ≤ d) (hn : n ≤ 65536) (ho : op'.map Rq.log = gotNew (last : Int) (op.map Rq.log) (m : Int) n) : Good i last d nums op' := by
  unfold gotNew at ho
  rw [if_pos (h.gotErr0 (by simp) hn), h.log, eraseP_nums, List.erase_cons_head] at ho
  have hi := h.inc
  rw [List.pairwise_cons] at hi
  refine ⟨ho, hi.2, fun x hx => h.rng x (by simp [hx]), fun x h1 h2 => ?_, h.dle⟩
  rcases List.mem_cons.1 (h.all x h1 h2) with e | e
  · omega
  · exact e
/-- One more is performed. -/
theorem Good.perf {i last d : Nat} {nums : List Nat} {op : List Rq} (h : Good i last d nums op) (hd : d + 1 ≤ last) : Good i last (d + 1) nums op := ⟨h.log, h.inc, h.rng, fun m h1 h2 => h.all m (by omega) h2, hd⟩
section
variable {σ : Int → Option CSt} {i d m : Nat} {tx : Bool} {r : Rq}
theorem ac_head (hr : r.log = rqL i m) (hi : i < 2) (h1 : 1 ≤ m) (hn : r.n = r.bs.length) {acc : List AL} (hs : σ ((i : Int) + 1) = some ((i : Int) + 5, (d : Int), acc)) : acRes σ r = accRes true (d : Int) acc (m : Int) (bodyI (bsL i m)) ∧ tagOk ((i : Int) + 5) r = true ∧ r.cl = (i : Int) + 1 ∧ r.num = (m : Int) ∧ r.bs = bsL i m := by
  obtain ⟨r1, r2, r3, r4⟩ : r.cl = (i : Int) + 1 ∧ r.num = (m : Int) ∧ r.bs = bsL i m ∧ r.tag = tagI ((i : Int) + 5) ((i : Int) + 1) (m : Int) (bodyI (bsL i m)) := by
    unfold rqL Rq.log at hr
    simpa using hr
  have ht : tagOk ((i : Int) + 5) r = true := by
    unfold tagOk
    rw [r4, r1, r2, r3]
    simp
  refine ⟨?_, ht, r1, r2, r3⟩
  unfold acRes
  have hl : r.n = 2 := by rw [hn, r3]; rfl
  rw [if_neg (by rw [r1, r2, hl]; omega), r1, hs]
  dsimp only
  rw [ht, r2, r3]
theorem SesG.more (h : SesG σ i d tx) (hr : r.log = rqL i m) (hi : i < 2) (hn : r.n = r.bs.length) (hm : d + 1 < m) : acRes σ r = (false, [], 3) := by
  obtain ⟨acc, hs, hl, -⟩ := h
  rw [(ac_head hr hi (by omega) hn hs).1]
  unfold accRes
  rw [if_neg (by decide), if_pos (by omega)]
theorem SesG.old (h : SesG σ i d true) (hr : r.log = rqL i m) (hi : i < 2) (hn : r.n = r.bs.length) (h1 : 1 ≤ m) (hm : m ≤ d) : acRes σ r = (false, txL i m, 0) := by
  obtain ⟨acc, hs, hl, ha⟩ := h
  rw [(ac_head hr hi h1 hn hs).1]
  have hp : posL acc.length (d : Int) (m : Int) = ((m - 1 : Nat) : Int) := by unfold posL; omega
  have hml : m - 1 < acc.length := by omega
  obtain ⟨a1, a2, a3⟩ := ha (m - 1) hml
  rw [show m - 1 + 1 = m by omega] at a1 a3
  unfold accRes
  rw [if_neg (by decide), if_neg (by omega), if_neg (by omega), hp, if_neg (by omega), Int.toNat_natCast, List.getElem?_eq_getElem hml]
  dsimp only
  rw [if_neg (by simp [a1]), if_pos a2, a3 rfl]
theorem SesG.oldE (h : SesG σ i d tx) (hr : r.log = rqL i m) (hi : i < 2) (hn : r.n = r.bs.length) (h1 : 1 ≤ m) (hm : m ≤ d) : (acRes σ r).1 = false ∧ (acRes σ r).2.2 = 0 := by
  obtain ⟨acc, hs, hl, ha⟩ := h
  rw [(ac_head hr hi h1 hn hs).1]
  have hp : posL acc.length (d : Int) (m : Int) = ((m - 1 : Nat) : Int) := by unfold posL; omega
  have hml : m - 1 < acc.length := by omega
  obtain ⟨a1, a2, -⟩ := ha (m - 1) hml
  rw [show m - 1 + 1 = m by omega] at a1
  unfold accRes
  rw [if_neg (by decide), if_neg (by omega), if_neg (by omega), hp, if_neg (by omega), Int.toNat_natCast, List.getElem?_eq_getElem hml]
  dsimp only
  rw [if_neg (by simp [a1]), if_pos a2]
  exact ⟨rfl, rfl⟩
theorem acSt_no (h : (acRes σ r).1 = false) : acSt σ r = σ := by unfold acSt; rw [h]; rfl
theorem waits_done {acc : List AL} (h : ∀ k (h : k < acc.length), (acc[k]).2.1 = true) : waitsL acc = false := by
  unfold waitsL
  rcases ha : acc.getLast? with _ | a
  · rfl
  · rw [List.getLast?_eq_getElem?] at ha
    obtain ⟨hk, rfl⟩ := List.getElem?_eq_some_iff.1 ha
    dsimp only
    rw [h _ hk]
    rfl
/-- A request that comes next is accepted; its answer is taken. -/
theorem SesG.new (h : SesG σ i d tx) (hr : r.log = rqL i (d + 1)) (hi : i < 2) (hn : r.n = r.bs.length) (hd : d < 16) : acRes σ r = (true, [], 0) ∧ anErr (acSt σ r) ((i : Int) + 1) ((d : Int) + 1) 3 = 0 ∧ anErr (acSt σ r) ((i : Int) + 1) ((d : Int) + 1) 0 = 0 ∧
    (∀ bs n, anErr (acSt σ r) ((i : Int) + 1) ((d : Int) + 1) n = 0 → (tx = true → bs = txL i (d + 1)) → SesG (anSt (acSt σ r) ((i : Int) + 1) ((d : Int) + 1) n bs) i (d + 1) tx) ∧
    (∀ bs n j, j ≠ i → anSt (acSt σ r) ((i : Int) + 1) ((d : Int) + 1) n bs ((j : Int) + 1) = σ ((j : Int) + 1)) := by
  obtain ⟨acc, hs, hl, ha⟩ := h
  obtain ⟨h1, ht, r1, r2, r3⟩ := ac_head hr hi (by omega) hn hs
  have hw := waits_done (fun k hk => (ha k hk).2.1)
  have hres : acRes σ r = (true, [], 0) := by
    rw [h1]
    unfold accRes
    rw [if_neg (by decide), if_neg (by omega), if_pos (by omega), hw]
    rfl
  have hst : acSt σ r = upd σ ((i : Int) + 1) ((i : Int) + 5, (d : Int) + 1, acc ++ [(bodyI (bsL i (d + 1)), false, [])]) := by
    unfold acSt
    rw [hres, if_pos rfl, r1, hs]
    dsimp only
    rw [ht, r2, r3]
    congr 1
    unfold accNew
    rw [← h1, hres, if_pos rfl]
    unfold cut16
    rw [if_neg (by rw [List.length_append, List.length_singleton]; omega)]
  have hat : acSt σ r ((i : Int) + 1) = some ((i : Int) + 5, (d : Int) + 1, acc ++ [(bodyI (bsL i (d + 1)), false, [])]) := by rw [hst]; unfold upd; rw [if_pos rfl]
  have hw2 : waitsL (acc ++ [(bodyI (bsL i (d + 1)), false, ([] : List UInt8))]) = true := by unfold waitsL; simp
  have he : ∀ n, n ≤ 65536 → anErr (acSt σ r) ((i : Int) + 1) ((d : Int) + 1) n = 0 := fun n hn => by
    unfold anErr
    rw [hat]
    dsimp only
    unfold ansErr
    rw [hw2, if_neg (by simp), if_neg (by omega)]
  refine ⟨hres, he 3 (by decide), he 0 (by decide), fun bs n hen hbs => ?_, fun bs n j hj => ?_⟩
  · refine ⟨acc ++ [(bodyI (bsL i (d + 1)), true, bs)], ?_, by rw [List.length_append, hl]; rfl, fun k hk => ?_⟩
    · unfold anSt
      rw [hat]
      dsimp only
      unfold upd
      rw [if_pos rfl]
      unfold anErr at hen
      rw [hat] at hen
      dsimp only at hen
      unfold ansNew
      rw [if_pos hen, List.length_append, List.length_singleton, Nat.add_sub_cancel, List.getLast?_append]
      simp
    · rw [List.length_append, List.length_singleton] at hk
      rw [List.getElem_append]
      split
      · rename_i hk2
        exact ha k hk2
      · have : k = d := by omega
        subst this
        simp
        exact hbs
  · unfold anSt
    rw [hat]
    dsimp only
    unfold upd
    rw [if_neg (by omega), hst]
    unfold upd
    rw [if_neg (by omega)]
end
end Go.Proofs.Ytompkpleiichaaa
