/- client: the steps of ClientOnce's world. -/
import Derived.Test.YtompkpleiichaaaHG35
import Derived.Test.YtompkpleiichaaaHCliAns
import Derived.Test.YtompkpleiichaaaHCliAgain

namespace Go.Proofs.Ytompkpleiichaaa
open Go.RowKit

theorem slT_ptr : SlT Try.prog 69 27 1 8 := SlT.of Try.underlying69 (by kernel_rfl) (by decide)
theorem Sys.new {W w : World} {gs mb : Nat} {C : Nat → Cll} (hS : SesAt w gs mb []) (hb : Below W.heap.size W w) (hg : W.heap.size ≤ gs) (hm : W.heap.size ≤ mb) : Sys W w 0 gs mb [] C (.slice none 0 0) :=
  ⟨hb, hS, fun _ h => absurd h (by omega), World.ownsRow_nil _ _ _ _, by
    rintro b (e | e | ⟨_, h, _⟩)
    · omega
    · omega
    · simp at h, fun _ h => absurd h (by omega), fun b e => by simp [Value.ownBlock] at e, fun _ _ h => absurd h (by omega)⟩
theorem Sys.push {W w w' : World} {K gs mb g' cap : Nat} {cl : List Cl} {C : Nat → Cll} {vP : Value} {c : Cll} {o : Obj} (h : Sys W w K gs mb cl C vP) (hc : c.At w K) (hge : ∀ b, c.F b → W.heap.size ≤ b) (hap : ∀ i, i < K → ∀ b, (C i).F b → ¬ c.F b)
    (hown : w'.ownsRow 0 27 1 (.slice (some ⟨g', 0, none⟩) (K + 1) cap) (K + 1) (((List.range K).map fun i => Value.pointer (some ⟨(C i).g, 0, none⟩)) ++ [.pointer (some ⟨c.g, 0, none⟩)])) (hg : (w.alloc o).grownBy w' vP.ownBlock) (hat : some g' = vP.ownBlock ∨ w.heap.size ≤ g') : Sys W w' (K + 1) gs mb cl (updN C K c) (.slice (some ⟨g', 0, none⟩) (K + 1) cap) := by
  have m : Mod (fun b => vP.ownBlock = some b) w w' := ((Mod.refl _ w).alloc o).then_grown hg (fun b e => .inl e)
  have hB : ∀ b, vP.ownBlock = some b → ¬ Ty w b 5 := fun b hb ht => absurd (Ty.unique (h.ptrTy hb) ht) (by decide)
  have hcm : ∀ (i : Nat) (d : Cll), d.At w i → d.At w' i := fun i d hd => hd.mod m (fun b hf hb => hd.notF (h.ptrTy hb) (by decide) (by decide) hf) hB
  refine ⟨m.below h.below h.below.size h.gpt, h.ses.mod m (fun b hs hb => h.ses.notF (h.ptrTy hb) (by decide) (by decide) (by decide) hs) hB, ?_, ?_, h.gse, ?_, ?_, ?_⟩
  · intro i hi
    unfold updN
    split
    · rename_i e
      subst e
      exact hcm i c hc
    · exact hcm i _ (h.call i (by omega))
  · have e : ((List.range (K + 1)).map fun j => Value.pointer (some ⟨(updN C K c j).g, 0, none⟩)) = ((List.range K).map fun i => Value.pointer (some ⟨(C i).g, 0, none⟩)) ++ [.pointer (some ⟨c.g, 0, none⟩)] := by
      rw [List.range_succ, List.map_append, List.map_singleton]
      congr 1
      · apply List.map_congr_left
        intro j hj
        have := List.mem_range.1 hj
        unfold updN
        rw [if_neg (by omega)]
      · unfold updN
        rw [if_pos rfl]
    rw [e]
    exact hown
  · intro i hi b hb
    unfold updN at hb
    split at hb
    · exact hge b hb
    · exact h.gca i (by omega) b hb
  · intro b hb
    injection hb with hb
    rcases hat with e | e
    · exact h.gpt b (by rw [← e]; exact congrArg some hb)
    · have := h.below.size
      have hb' : g' = b := hb
      omega
  · intro a d ha hd hne b hb hb'
    unfold updN at hb hb'
    split at hb
    · rename_i e
      subst e
      rw [if_neg (fun e => hne e.symm)] at hb'
      exact hap d (by omega) b hb' hb
    · split at hb'
      · rename_i e1 e2
        exact hap a (by omega) b hb hb'
      · exact h.apart a d (by omega) (by omega) hne b hb hb'
theorem Sys.row {W w : World} {gs mb : Nat} {cl : List Cl} {C : Nat → Cll} {vP : Value} (h : Sys W w 2 gs mb cl C vP) : ∃ gp cap, vP = .slice (some ⟨gp, 0, none⟩) 2 cap ∧ ∀ i, i < 2 → w.cell? ⟨gp, i, none⟩ = some (.pointer (some ⟨(C i).g, 0, none⟩)) := by
  obtain ⟨A, c, rfl⟩ := own_parts h.ptr
  obtain ⟨g, rfl, -, -⟩ := own_some h.ptr (by decide)
  refine ⟨g, c, rfl, fun i hi => ?_⟩
  rw [h.ptr.cellAt i (by omega)]
  rw [List.getElem?_map, List.getElem?_range hi]
  rfl
theorem wpList_appendRows {P : Program} {w : World} {base t e size bytes n : Nat} {v : Value} {xs : List Value} {ops : Array Oper} {rest : List Oper} {o : Oper} {a : Act} {Q : Exit → Act → World → Prop} {s x : Operand} (hT : SlT P t e size bytes) (hgd : o.guard = none)
    (ho : o.op = .call { callee := .builtin .append, args := #[s, x], argTypes := #[t, t] }) (hs : a.eval s = v) {A : Option Addr} {m c : Nat} (hx : a.eval x = .slice A m c)
    (hown : w.ownsRow base e size v n xs) (news : List Value) (hr : RowT w e A news) (hl : news.length = m * size) (h1 : ∀ u ∈ news, u.oneCell' = true) (hn : n + m < 1099511627776) (hby : bytes ≤ 64) (hbase : base ≤ w.heap.size)
    (hK : ∀ A' cap w', w'.ownsRow base e size (.slice A' (n + m) cap) (n + m) (xs ++ news) → w.grownBy w' v.ownBlock → ((Value.slice A' (n + m) cap).ownBlock = v.ownBlock ∨ (Value.slice A' (n + m) cap).ownBlock = some w.heap.size) →
      wpList P ops Q rest (a.put o.dst (.slice A' (n + m) cap)) w') : wpList P ops Q (o :: rest) a w := by
  have hsz : 0 < size := by obtain ⟨_, _, _, _, _, _, _, _, h⟩ := hT; exact h
  obtain ⟨v', w', hrun, h2, h3, h4⟩ := run_append_rows (ty := o.type) hT hown A m c news hl (hr.none_ hl hsz) hr.news h1 hn hby hbase
  obtain ⟨A', cap, rfl⟩ := own_parts h2
  exact wpList_append_run hrun hgd ho hs hx (hK A' cap w' h2 h3 h4)
theorem Bts.lit2 (w : World) (a b : Nat) (ha : a < 256) (hb : b < 256) : Bts (w.alloc (.cells #[.int .u8 (a : Int), .int .u8 (b : Int)] 5)) (some ⟨w.heap.size, 0, none⟩) 2 2 [UInt8.ofNat a, UInt8.ofNat b] := by
  refine ⟨rfl, Nat.le_refl _, by decide, fun _ => ⟨w.heap.size, 0, #[.int .u8 (a : Int), .int .u8 (b : Int)], _, rfl, World.alloc_heap_new w _, fun j hj => ?_⟩⟩
  have e1 : (UInt8.ofNat a).toNat = a := by simp; omega
  have e2 : (UInt8.ofNat b).toNat = b := by simp; omega
  rcases (show j = 0 ∨ j = 1 by omega) with rfl | rfl
  · simp [vByte, e1]
  · simp [vByte, e2]
theorem Bts.lit3 (w : World) (a b c : Nat) (ha : a < 256) (hb : b < 256) (hc : c < 256) : Bts (w.alloc (.cells #[.int .u8 (a : Int), .int .u8 (b : Int), .int .u8 (c : Int)] 5)) (some ⟨w.heap.size, 0, none⟩) 3 3 [UInt8.ofNat a, UInt8.ofNat b, UInt8.ofNat c] := by
  refine ⟨rfl, Nat.le_refl _, by decide, fun _ => ⟨w.heap.size, 0, #[.int .u8 (a : Int), .int .u8 (b : Int), .int .u8 (c : Int)], _, rfl, World.alloc_heap_new w _, fun j hj => ?_⟩⟩
  rcases (show j = 0 ∨ j = 1 ∨ j = 2 by omega) with rfl | rfl | rfl
  · simp [vByte]
    omega
  · simp [vByte]
    omega
  · simp [vByte]
    omega
/-- What is known of the requests under way, the callers and the server. -/
structure OnceI (σ : Int → Option CSt) (C : Nat → Cll) (N : List Rq) (D : Nat → Nat) (nums : Nat → List Nat) (tx : Bool) : Prop where
  good : ∀ i, i < 2 → Good i (C i).last (D i) (nums i) (C i).op
  ses : ∀ i, i < 2 → SesG σ i (D i) tx
  net : ∀ r ∈ N, ∃ i m, i < 2 ∧ 1 ≤ m ∧ m ≤ (C i).last ∧ r.log = rqL i m
theorem Once.addNet {W w w' : World} {gs mb gd : Nat} {cl : List Cl} {C : Nat → Cll} {vP vN v' : Value} {N l : List Rq} {D : Nat → Nat} (h : Once W w gs mb cl C vP vN N gd D) (hl : ∀ r ∈ l, r.ok w) {n : Nat} (hn : N.length + l.length = n) (hown : w'.ownsRow 0 32 4 v' n (N.flatMap Rq.cells ++ l.flatMap Rq.cells)) (hg : w.grownBy w' vN.ownBlock) (hat : v'.ownBlock = vN.ownBlock ∨ v'.ownBlock = some w.heap.size) : Once W w' gs mb cl C vP v' (N ++ l) gd D := by
  have m : Mod (fun b => vN.ownBlock = some b) w w' := Mod.of_grown hg (fun b e => .inl e)
  have hB : ∀ b, vN.ownBlock = some b → ¬ Ty w b 5 := fun b hb ht => absurd (Ty.unique (Ty.of_own h.net hb) ht) (by decide)
  refine h.toNet hg (fun b e => .inl e) (by rw [List.length_append, hn, List.flatMap_append]; exact hown) ?_ (hat.imp (fun e => e) (fun e b hb => by rw [e] at hb; injection hb with hb; omega))
  intro r hr
  rw [List.mem_append] at hr
  rcases hr with hr | hr
  · exact (h.ok r hr).mod m hB
  · exact (hl r hr).mod m hB
section
variable {σ : Int → Option CSt} {C : Nat → Cll} {N : List Rq} {D : Nat → Nat} {nums : Nat → List Nat} {tx : Bool} {i : Nat}
theorem log_mem {l : List Rq} {ms : List Nat} (h : l.map Rq.log = ms.map (rqL i)) : ∀ r ∈ l, ∃ m ∈ ms, r.log = rqL i m := fun r hr => by
  have : r.log ∈ l.map Rq.log := List.mem_map.2 ⟨r, hr, rfl⟩
  rw [h] at this
  obtain ⟨m, hm, e⟩ := List.mem_map.1 this
  exact ⟨m, hm, e.symm⟩
theorem OnceI.addNet {l : List Rq} (h : OnceI σ C N D nums tx) (hi : i < 2) (hl : l.map Rq.log = (C i).op.map Rq.log) : OnceI σ C (N ++ l) D nums tx := by
  refine ⟨h.good, h.ses, fun r hr => ?_⟩
  rw [List.mem_append] at hr
  rcases hr with hr | hr
  · exact h.net r hr
  · obtain ⟨m, hm, e⟩ := log_mem (hl.trans (h.good i hi).log) r hr
    have := (h.good i hi).rng m hm
    exact ⟨i, m, hi, this.1, this.2, e⟩
theorem OnceI.send {c' : Cll} {last : Nat} (h : OnceI σ C N D nums tx) (hi : i < 2) (hlast : (C i).last = last) (hl : last < 16) (hc : c'.last = last + 1) (ho : c'.op.map Rq.log = sendOps ((i : Int) + 1) ((i : Int) + 5) (last : Int) ((C i).op.map Rq.log) (bsL i (last + 1))) : OnceI σ (updN C i c') N D (updN nums i (nums i ++ [last + 1])) tx := by
  refine ⟨fun j hj => ?_, h.ses, fun r hr => ?_⟩
  · unfold updN
    split
    · rename_i e
      subst e
      have := h.good j hi
      rw [hlast] at this
      rw [hc]
      exact this.sent hl ho
    · exact h.good j hj
  · obtain ⟨j, m, hj, h1, h2, e⟩ := h.net r hr
    refine ⟨j, m, hj, h1, ?_, e⟩
    unfold updN
    split
    · rename_i e
      subst e
      omega
    · exact h2
/-- A caller gets an answer to what was performed. -/
theorem OnceI.got {c' : Cll} {m n : Nat} (h : OnceI σ C N D nums tx) (hi : i < 2) (hm : m ≤ D i) (hc : c'.last = (C i).last) (ho : c'.op.map Rq.log = gotNew ((C i).last : Int) ((C i).op.map Rq.log) (m : Int) n) : ∃ nums', OnceI σ (updN C i c') N D nums' tx := by
  obtain ⟨ns, hg⟩ := (h.good i hi).got hm ho
  refine ⟨updN nums i ns, fun j hj => ?_, h.ses, fun r hr => ?_⟩
  · unfold updN
    split
    · rename_i e
      subst e
      rw [hc]
      exact hg
    · exact h.good j hj
  · obtain ⟨j, m, hj, h1, h2, e⟩ := h.net r hr
    refine ⟨j, m, hj, h1, ?_, e⟩
    unfold updN
    split
    · rename_i e
      subst e
      omega
    · exact h2
/-- The server performs a request and answers it. -/
theorem OnceI.perf {σ' : Int → Option CSt} (h : OnceI σ C N D nums tx) (hi : i < 2) (hd : D i + 1 ≤ (C i).last) (hs : SesG σ' i (D i + 1) tx) (ho : ∀ j : Nat, j ≠ i → σ' ((j : Int) + 1) = σ ((j : Int) + 1)) : OnceI σ' C N (updN D i (D i + 1)) nums tx := by
  refine ⟨fun j hj => ?_, fun j hj => ?_, h.net⟩
  · unfold updN
    split
    · rename_i e
      subst e
      exact (h.good j hi).perf hd
    · exact h.good j hj
  · unfold updN
    split
    · rename_i e
      subst e
      exact hs
    · rename_i e
      obtain ⟨acc, h1, h2⟩ := h.ses j hj
      exact ⟨acc, (ho j e).trans h1, h2⟩
theorem OnceI.less {N' : List Rq} (h : OnceI σ C N D nums tx) (hN : ∀ r ∈ N', r ∈ N) : OnceI σ C N' D nums tx := ⟨h.good, h.ses, fun r hr => h.net r (hN r hr)⟩
end
theorem Once.noNet {W w : World} {gs mb gd : Nat} {cl : List Cl} {C : Nat → Cll} {vP vN : Value} {N : List Rq} {D : Nat → Nat} (h : Once W w gs mb cl C vP vN N gd D) : Once W w gs mb cl C vP (.slice none 0 0) [] gd D :=
  ⟨h.sys, World.ownsRow_nil _ _ _ _, by simp, fun b e => by simp [Value.ownBlock] at e, fun _ _ b e => by simp [Value.ownBlock] at e, h.done, h.gdn⟩
/-- Requests are taken out: those that are left lie in a new row. -/
theorem Once.lessNet {W w w' : World} {gs mb gd n : Nat} {cl : List Cl} {C : Nat → Cll} {vP vN v' : Value} {N N' : List Rq} {D : Nat → Nat} (h : Once W w gs mb cl C vP vN N gd D) (hb : Below w.heap.size w w') (hN : ∀ r ∈ N', r ∈ N) (hn : N'.length = n) (hown : w'.ownsRow w.heap.size 32 4 v' n (N'.flatMap Rq.cells)) : Once W w' gs mb cl C vP v' N' gd D := by
  have h' := h.all hb
  have hlt : ∀ b, v'.ownBlock = some b → w.heap.size ≤ b := fun b e => (hown.lt b e).1
  exact ⟨h'.sys, by rw [hn]; exact own_lower hown (Nat.zero_le _), fun r hr => h'.ok r (hN r hr), fun b e => Nat.le_trans h.sys.below.size (hlt b e), fun i hi b e hf => by
    have h1 := hlt b e
    have h2 := (h.sys.call i hi).ltF b hf
    omega, h'.done, h'.gdn⟩
theorem take_drop_mem {N : List Rq} {k : Nat} : ∀ r ∈ N.take k ++ N.drop (k + 1), r ∈ N := fun r hr => by
  rcases List.mem_append.1 hr with h | h
  · exact List.mem_of_mem_take h
  · exact List.mem_of_mem_drop h
theorem net_take {w : World} {base nN c k : Nat} {A : Option Addr} {N : List Rq} (h : w.ownsRow base 32 4 (.slice A nN c) nN (N.flatMap Rq.cells)) : RowT w 32 A ((N.take k).flatMap Rq.cells) := by
  rw [flat_take]
  exact (RowT.of_own h).take _
theorem net_drop {w : World} {base nN c k g : Nat} {N : List Rq} (h : w.ownsRow base 32 4 (.slice (some ⟨g, 0, none⟩) nN c) nN (N.flatMap Rq.cells)) (hl : N.length = nN) (off : Nat) (hoff : k + 1 < nN → off = (k + 1) * 4) : RowT w 32 (some ⟨g, off, none⟩) ((N.drop (k + 1)).flatMap Rq.cells) := by
  rcases Nat.lt_or_ge (k + 1) nN with h1 | h1
  · have hlen : (N.flatMap Rq.cells).length = nN * 4 := by rw [flat_length Rq.cells 4 Rq.cells_length, hl]
    obtain ⟨b, o, e, hr⟩ := (RowT.of_own h).drop ((k + 1) * 4) (by rw [hlen]; omega)
    injection e with e
    injection e with e1 e2
    subst e1 e2
    rw [flat_drop, hoff h1]
    rw [Nat.zero_add] at hr
    exact hr
  · rw [List.drop_eq_nil_of_le (by omega)]
    exact RowT.nil _ _ _
end Go.Proofs.Ytompkpleiichaaa

/- client: what ClientOnce's walk asks of its bytes, and of an answer that arrives. -/
namespace Go.Proofs.Ytompkpleiichaaa
open Go.RowKit

theorem Bts.two {w : World} {A : Option Addr} {n c m i : Nat} (h : Bts w A n c (bsL i m)) (hm : m < 256) (hi : i < 256) : n = 2 ∧ ∃ b off, A = some ⟨b, off, none⟩ ∧ Ty w b 5 ∧ w.cell? ⟨b, off, none⟩ = some (.int .u8 (m : Int)) ∧ w.cell? ⟨b, off + 1, none⟩ = some (.int .u8 (i : Int)) := by
  have hn : n = 2 := by rw [← h.1]; rfl
  subst hn
  obtain ⟨b, off, cs, fr, e, hh, hc⟩ := h.2.2.2 (by decide)
  have e1 : (UInt8.ofNat m).toNat = m := by simp; omega
  have e2 : (UInt8.ofNat i).toNat = i := by simp; omega
  refine ⟨rfl, b, off, e, ⟨_, _, hh⟩, ?_, ?_⟩
  · have := hc 0 (by decide)
    simp [World.cell?, hh, vByte, bsL] at this ⊢
    rw [this]
    simp
    omega
  · have := hc 1 (by decide)
    simp [World.cell?, hh, vByte, bsL] at this ⊢
    rw [this]
    simp
    omega
theorem Bts.three {w : World} {A : Option Addr} {n c m i : Nat} (h : Bts w A n c (txL i m)) (hm : m < 256) (hi : i < 255) : n = 3 ∧ ∃ b off, A = some ⟨b, off, none⟩ ∧ Ty w b 5 ∧ w.cell? ⟨b, off, none⟩ = some (.int .u8 (m : Int)) ∧ w.cell? ⟨b, off + 1, none⟩ = some (.int .u8 ((i : Int) + 1)) := by
  have hn : n = 3 := by rw [← h.1]; rfl
  subst hn
  obtain ⟨b, off, cs, fr, e, hh, hc⟩ := h.2.2.2 (by decide)
  refine ⟨rfl, b, off, e, ⟨_, _, hh⟩, ?_, ?_⟩
  · have := hc 0 (by decide)
    simp [World.cell?, hh, vByte, txL] at this ⊢
    rw [this]
    simp
    omega
  · have := hc 1 (by decide)
    simp [World.cell?, hh, vByte, txL] at this ⊢
    rw [this]
    simp
    omega
theorem Once.doneAt {W w : World} {gs mb gd i : Nat} {cl : List Cl} {C : Nat → Cll} {vP vN : Value} {N : List Rq} {D : Nat → Nat} (h : Once W w gs mb cl C vP vN N gd D) (hi : i < 2) : w.cell? ⟨gd, i, none⟩ = some (.int .i64 (D i : Nat)) ∧ w.frozen? ⟨gd, i, none⟩ = false ∧ gd < w.heap.size := by
  refine ⟨?_, h.done.frozen i, h.done.lt⟩
  have := h.done.cell i
  rw [this]
  rcases (show i = 0 ∨ i = 1 by omega) with rfl | rfl <;> rfl
/-- An answer arrives at a caller. -/
theorem Once.got {W w w' : World} {gs mb gd i m n : Nat} {cl : List Cl} {C : Nat → Cll} {vP vN : Value} {N : List Rq} {D : Nat → Nat} {nums : Nat → List Nat} {tx : Bool} {σ : Int → Option CSt} {e : Ending} (h : Once W w gs mb cl C vP vN N gd D) (hI : OnceI σ C N D nums tx) (hi : i < 2) (hm : m ≤ D i)
    (hp : GotPost 89 32 (C i).g ((i : Int) + 1) ((i : Int) + 5) ((C i).last : Int) (C i).rv (C i).op (m : Int) n w e w') :
    ∃ C' nums', Once W w' gs mb cl C' vP vN N gd D ∧ OnceI σ C' N D nums' tx ∧ (∀ j, (C' j).last = (C j).last) ∧ (∀ j, (C' j).g = (C j).g) := by
  obtain ⟨rv', op', -, hl, hc, m', hat⟩ := hp
  obtain ⟨ns, hI'⟩ := hI.got (c' := ⟨(C i).g, (C i).last, rv', op'⟩) hi hm rfl hl
  refine ⟨updN C i ⟨(C i).g, (C i).last, rv', op'⟩, ns, h.toCall hi hc rfl m' ?_, hI', fun j => ?_, fun j => ?_⟩
  · rintro b (hb | hb)
    · exact .inl (.inl hb)
    · rcases hat with e | e
      · exact .inl (.inr (e ▸ hb))
      · exact .inr (e b hb)
  · unfold updN
    split
    · rename_i e
      rw [e]
    · rfl
  · unfold updN
    split
    · rename_i e
      rw [e]
    · rfl
theorem Once.rowAt {W w : World} {gs mb gd gp capp i : Nat} {cl : List Cl} {C : Nat → Cll} {vN : Value} {N : List Rq} {D : Nat → Nat} (h : Once W w gs mb cl C (.slice (some ⟨gp, 0, none⟩) 2 capp) vN N gd D) (hi : i < 2) : w.cell? ⟨gp, i, none⟩ = some (.pointer (some ⟨(C i).g, 0, none⟩)) := by
  obtain ⟨gp', cap', e, hr⟩ := h.sys.row
  injection e with e
  injection e with e
  injection e with e
  subst e
  exact hr i hi
/-- A block of another type stays when an answer arrives. -/
theorem gotBlk {w w' : World} {i b n : Nat} {num : Int} {C : Nat → Cll} {e : Ending} {t : TypeId} {cs : Array Value} (hb : Blk w b t cs) (hf : ¬ (C i).F b)
    (hp : GotPost 89 32 (C i).g ((i : Int) + 1) ((i : Int) + 5) ((C i).last : Int) (C i).rv (C i).op num n w e w') : Blk w' b t cs := by
  obtain ⟨rv', op', -, -, -, m', -⟩ := hp
  exact m'.blk hb hf
end Go.Proofs.Ytompkpleiichaaa

/- client: Sessions beside a Caller, and requests held in variables. -/
namespace Go.Proofs.Ytompkpleiichaaa
open Go.RowKit

/-- Sessions, a Caller, requests in variables of their own; nothing older than W is changed. -/
structure Both (W w : World) (g mb : Nat) (cl : List Cl) (gc : Nat) (ccl key last : Int) (rv : Value) (op : List Rq) (hs : List (Nat × Rq)) : Prop where
  ses : SesAt w g mb cl
  call : CallAt w 89 32 gc ccl key last rv op
  ne : ∀ b, SesF g mb cl b → ¬ CallF gc rv b
  below : Below W.heap.size W w
  sge : ∀ b, SesF g mb cl b → W.heap.size ≤ b
  cge : ∀ b, CallF gc rv b → W.heap.size ≤ b
  held : ∀ p ∈ hs, Blk w p.1 32 #[.int .i64 p.2.cl, .int .i64 p.2.num, .slice p.2.A p.2.n p.2.c, .int .u64 p.2.tag] ∧ p.2.ok w ∧ ¬ SesF g mb cl p.1 ∧ ¬ CallF gc rv p.1
section
variable {W w w' : World} {g mb gc : Nat} {cl cl' : List Cl} {ccl key last last' : Int} {rv rv' : Value} {op op' : List Rq} {hs : List (Nat × Rq)}
theorem Both.all (h : Both W w g mb cl gc ccl key last rv op hs) (hb : Below w.heap.size w w') : Both W w' g mb cl gc ccl key last rv op hs :=
  ⟨h.ses.all hb, h.call.all hb, h.ne, bt h.below hb, h.sge, h.cge, fun p hp => ⟨(h.held p hp).1.all hb, (h.held p hp).2.1.all hb, (h.held p hp).2.2⟩⟩
theorem Both.toSes (h : Both W w g mb cl gc ccl key last rv op hs) (hS : SesAt w' g mb cl') (m : Mod (SesF g mb cl) w w') (hF : ∀ b, SesF g mb cl' b → SesF g mb cl b ∨ w.heap.size ≤ b) : Both W w' g mb cl' gc ccl key last rv op hs :=
  ⟨hS, h.call.mod m (fun b hb hs => h.ne b hs hb) h.ses.noB, fun b hb hc => (hF b hb).elim (fun hb => h.ne b hb hc) (fun hb => by have := h.call.ltF b hc; omega), m.below h.below h.below.size h.sge,
    fun b hb => (hF b hb).elim (h.sge b) (fun hb => Nat.le_trans h.below.size hb), h.cge,
    fun p hp => ⟨m.blk (h.held p hp).1 (h.held p hp).2.2.1, (h.held p hp).2.1.mod m h.ses.noB, fun hb => (hF _ hb).elim (h.held p hp).2.2.1 (fun hb => by have := (h.held p hp).1.lt; omega), (h.held p hp).2.2.2⟩⟩
theorem CallF.grow {F : Nat} (hrv : rv'.ownBlock = rv.ownBlock ∨ ∀ b, rv'.ownBlock = some b → F ≤ b) : ∀ b, CallF gc rv' b → CallF gc rv b ∨ F ≤ b := by
  rintro b (e | e)
  · exact .inl (.inl e)
  · rcases hrv with h | h
    · exact .inl (.inr (h ▸ e))
    · exact .inr (h b e)
theorem Both.toCall (h : Both W w g mb cl gc ccl key last rv op hs) (hC : CallAt w' 89 32 gc ccl key last' rv' op') (m : Mod (CallF gc rv) w w') (hrv : rv'.ownBlock = rv.ownBlock ∨ ∀ b, rv'.ownBlock = some b → w.heap.size ≤ b) :
    Both W w' g mb cl gc ccl key last' rv' op' hs :=
  have hF := CallF.grow (gc := gc) hrv
  have hnb := h.call.noB (by decide) (by decide)
  ⟨h.ses.mod m (fun b hb hc => h.ne b hb hc) hnb, hC, fun b hb hc => (hF b hc).elim (h.ne b hb) (fun hc => by have := h.ses.ltF b hb; omega), m.below h.below h.below.size h.cge, h.sge,
    fun b hb => (hF b hb).elim (h.cge b) (fun hb => Nat.le_trans h.below.size hb),
    fun p hp => ⟨m.blk (h.held p hp).1 (h.held p hp).2.2.2, (h.held p hp).2.1.mod m hnb, (h.held p hp).2.2.1, fun hb => (hF _ hb).elim (h.held p hp).2.2.2 (fun hb => by have := (h.held p hp).1.lt; omega)⟩⟩
theorem Both.hold (h : Both W w g mb cl gc ccl key last rv op hs) (r : Rq) (hr : r.ok w) : Both W (w.alloc (.cells #[.int .i64 r.cl, .int .i64 r.num, .slice r.A r.n r.c, .int .u64 r.tag] 32)) g mb cl gc ccl key last rv op ((w.heap.size, r) :: hs) := by
  have hb := (Below.refl w.heap.size w).alloc (Nat.le_refl _) (.cells #[.int .i64 r.cl, .int .i64 r.num, .slice r.A r.n r.c, .int .u64 r.tag] 32)
  obtain ⟨x1, x2, x3, x4, x5, x6, x7⟩ := h.all hb
  refine ⟨x1, x2, x3, x4, x5, x6, fun p hp => ?_⟩
  rw [List.mem_cons] at hp
  rcases hp with rfl | hp
  · exact ⟨Blk.new _ _ _, hr.all hb, fun hf => by have := h.ses.ltF _ hf; omega, fun hf => by have := h.call.ltF _ hf; omega⟩
  · exact x7 p hp
theorem Both.sent {bs : List UInt8} {e : Ending} (h : Both W w g mb cl gc ccl key last rv op hs) (hp : SendYes 89 32 gc ccl key last rv op bs w e w') :
    ∃ (r r2 : Rq) (rv' : Value), e = .returned (.tuple #[r2.val, .int .i64 0]) ∧ r2.ok w' ∧ r.log = (ccl, last + 1, bs, tagI key ccl (last + 1) (bodyI bs)) ∧ r2.log = r.log ∧ Both W w' g mb cl gc ccl key (last + 1) rv' (op ++ [r]) hs := by
  obtain ⟨r, r2, rv', he, h2, h3, h4, h5, h6, h7⟩ := hp
  exact ⟨r, r2, rv', he, h2, h3, h4, h.toCall h5 h6 h7⟩
end
theorem Bts.lit (w : World) (l : List UInt8) : Bts (w.alloc (.cells (l.map fun b => Value.int .u8 ((b.toNat : Nat) : Int)).toArray 5)) (some ⟨w.heap.size, 0, none⟩) l.length l.length l ∨ 9223372036854775807 < l.length := by
  by_cases h : l.length ≤ 9223372036854775807
  · refine .inl ⟨rfl, Nat.le_refl _, h, fun _ => ⟨w.heap.size, 0, _, _, rfl, World.alloc_heap_new w _, fun j hj => ?_⟩⟩
    simp [vByte, hj]
  · exact .inr (by omega)
end Go.Proofs.Ytompkpleiichaaa
