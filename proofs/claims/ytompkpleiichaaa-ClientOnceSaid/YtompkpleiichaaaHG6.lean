/- client: clone of bytes, hashes of a body and tags. -/
import Derived.Test.YtompkpleiichaaaHG1
import Derived.Test.YtompkpleiichaaaHG2
import Derived.Test.YtompkpleiichaaaHHashRef
import Derived.Lib.SliceRun
import Derived.Deep.RegionLaw
import Derived.Deep.RegionHeld3

namespace Go.Proofs.Ytompkpleiichaaa
open Go.RowKit

theorem range_vByte {n : Nat} {bs : List UInt8} (h : bs.length = n) : (List.range n).map (vByte bs) = bs.map fun b => Value.int .u8 ((b.toNat : Nat) : Int) := by
  subst h
  apply List.ext_getElem?
  intro j
  by_cases hj : j < bs.length
  · simp [vByte, hj]
  · simp [hj]
theorem oneCell_vByte (bs : List UInt8) (j : Nat) : (vByte bs j).oneCell' = true := rfl

set_option maxRecDepth 100000 in
theorem cloneB_any (A : Option Addr) (n c : Nat) (bs : List UInt8) (w : World) (HL : Hid (bs.length = n)) (hn : n ≤ 35184372088832) (hR : Rd w w.heap.size A n (vByte bs)) :
    Calls Try.prog 48 #[.slice A n c] w fun e w' => ∃ A' c', e = .returned (.slice A' n c') ∧ Bts w' A' n c' bs ∧ Below w.heap.size w w' := by
  rcases A with _ | ad
  · have h0 := hR.none_ rfl
    subst h0
    have hb0 : bs = [] := List.eq_nil_of_length_eq_zero HL.out
    subst hb0
    have hq := Lib.run_eql_slice_nil (P := Try.prog) w 23 5 none 0 c 0 0 Try.underlying23
    go_enter Try.func48, Try.ntmps48
    go_wp2
    go_ret
    exact ⟨none, 0, rfl, Bts.nil _, Below.refl _ _⟩
  · obtain ⟨i0, hi, hz0, hz1, hz2⟩ := info_parts info_few
    have hB := (Below.refl w.heap.size w).alloc (Nat.le_refl _) (.cells #[] 5)
    obtain ⟨v', w', hap, hown, hg, hat⟩ := run_append_rd (P := Try.prog) (w.alloc (.cells #[] 5)) w.heap.size 23 23 5 i0 _ 1 Try.underlying23 hi hz0 hz1 hz2 rfl (.slice (some ⟨w.heap.size, 0, none⟩) 0 0) 0 []
      (World.ownsRow_made w #[] 0 (Nat.le_refl _) (by decide) rfl) _ (some ad) n c (vByte bs) (hR.all hB) (by intro h; cases h) (fun j _ => oneCell_vByte bs j) (by unfold maxLen; omega) (by omega) (by simp)
    have HA := Lib.hid hap
    rw [Nat.zero_add, List.nil_append, range_vByte HL.out] at hown
    have HO := Lib.hid hown
    have HB := Lib.hid (show Below w.heap.size w w' from hB.grown hg (by simp) (fun k e => by simp [Value.ownBlock] at e; omega))
    clear hap hat hown hg hB
    have hq := Lib.run_eql_slice_nil (P := Try.prog) w 23 5 (some ad) n c 0 0 Try.underlying23
    go_enter Try.func48, Try.ntmps48
    go_wp2_with (at_builtin; refine wpList_append_run HA.out rfl rfl rfl rfl ?_)
    go_ret
    obtain ⟨A', c', rfl⟩ := own_slice HO.out
    exact ⟨A', c', rfl, (Bts.of_own HO.out).1, HB.out⟩

def bodyB : List UInt8 := [98, 111, 100, 121]
def tagB : List UInt8 := [116, 97, 103]
def bodyI (bs : List UInt8) : Int := bytesI bodyB bs
def tagI (key cl num body : Int) : Int := sumI tagB [toI key, cl, num, toI body]
set_option maxRecDepth 100000 in
theorem bodyHash_any (A : Option Addr) (n c : Nat) (bs : List UInt8) (w : World) (HL : Hid (bs.length = n)) (hnc : n ≤ c) (hn : n ≤ 35184372088832) (hR : Rd w w.heap.size A n (vByte bs)) :
    Calls Try.prog 52 #[.slice A n c] w fun e w' => e = .returned (.int .u64 (bodyI bs)) ∧ Below w.heap.size w w' := by
  go_enter Try.func52, Try.ntmps52
  go_wp2_with fail
  refine (hbytes_any ⟨#[98, 111, 100, 121]⟩ A n c w.heap.size bs w HL (by decide) hnc hn (Nat.le_refl _) hR).mono ?_
  rintro e w1 ⟨rfl, hb⟩
  go_wp2
  go_ret
  exact ⟨rfl, hb⟩
theorem rd_lit4' (W : World) (t : TypeId) (x y z u : Int) : Rd (W.alloc (.cells #[.int .i64 x, .int .i64 y, .int .i64 z, .int .i64 u] t)) (W.heap.size + 1) (some ⟨W.heap.size, 0, none⟩) 4 (vInt [x, y, z, u]) := fun _ => ⟨_, _, rfl, by omega, fun j hj => by
  rcases (show j = 0 ∨ j = 1 ∨ j = 2 ∨ j = 3 by omega) with rfl | rfl | rfl | rfl <;> simp [vInt]⟩
set_option maxRecDepth 100000 in
theorem tag_any (key cl num body : Int) (w : World) : Calls Try.prog 53 #[.int .u64 key, .int .i64 cl, .int .i64 num, .int .u64 body] w fun e w' => e = .returned (.int .u64 (tagI key cl num body)) ∧ Below w.heap.size w w' := by
  go_enter Try.func53, Try.ntmps53
  go_wp2_with fail
  refine (hsum_any ⟨#[116, 97, 103]⟩ _ 4 4 (w.heap.size + 1) [toI key, cl, num, toI body] _ (Lib.hid rfl) (by decide) (by decide) (by simp) (rd_lit4' w 3 (toI key) cl num (toI body))).mono ?_
  rintro e w1 ⟨rfl, hb⟩
  have hb2 := bt ((Below.refl w.heap.size w).alloc (Nat.le_refl _) _) hb
  go_wp2
  go_ret
  exact ⟨rfl, hb2⟩
set_option maxRecDepth 100000 in
theorem ctag_any (key cl num : Int) (A : Option Addr) (n c : Nat) (bs : List UInt8) (w : World) (HL : Hid (bs.length = n)) (hnc : n ≤ c) (hn : n ≤ 35184372088832) (hR : Rd w w.heap.size A n (vByte bs)) :
    Calls Try.prog 39 #[.int .u64 key, .int .i64 cl, .int .i64 num, .slice A n c] w fun e w' => e = .returned (.int .u64 (tagI key cl num (bodyI bs))) ∧ Below w.heap.size w w' := by
  go_enter Try.func39, Try.ntmps39
  go_wp2_with fail
  refine (bodyHash_any A n c bs w HL hnc hn hR).mono ?_
  rintro e w1 ⟨rfl, hb⟩
  go_wp2_with fail
  refine (tag_any _ _ _ _ _).mono ?_
  rintro e w2 ⟨rfl, hb2⟩
  have hb3 := bt hb hb2
  go_wp2
  go_ret
  exact ⟨rfl, hb3⟩
set_option maxRecDepth 100000 in
theorem rtag_any (key cl num : Int) (A : Option Addr) (n c : Nat) (bs : List UInt8) (w : World) (HL : Hid (bs.length = n)) (hnc : n ≤ c) (hn : n ≤ 35184372088832) (hR : Rd w w.heap.size A n (vByte bs)) :
    Calls Try.prog 30 #[.int .u64 key, .int .i64 cl, .int .i64 num, .slice A n c] w fun e w' => e = .returned (.int .u64 (tagI key cl num (bodyI bs))) ∧ Below w.heap.size w w' := by
  go_enter Try.func30, Try.ntmps30
  go_wp2_with fail
  refine (rbytes_any ⟨#[98, 111, 100, 121]⟩ A n c w.heap.size bs w HL (by decide) hnc hn (Nat.le_refl _) hR).mono ?_
  rintro e w1 ⟨rfl, hb⟩
  go_wp2_with fail
  refine (rsum_any ⟨#[116, 97, 103]⟩ _ 4 4 (w1.heap.size + 1) [toI key, cl, num, toI (bodyI bs)] _ (Lib.hid rfl) (by decide) (by decide) (by simp) (rd_lit4' w1 3 (toI key) cl num (toI (bodyI bs)))).mono ?_
  rintro e w2 ⟨rfl, hb2⟩
  have hb3 := bt hb (bt ((Below.refl w1.heap.size w1).alloc (Nat.le_refl _) _) hb2)
  go_wp2
  go_ret
  exact ⟨rfl, hb3⟩
set_option maxRecDepth 100000 in
theorem isClient_any (n : Int) (w : World) : Calls Try.prog 47 #[.int .i64 n] w fun e w' => e = .returned (.bool (decide (1 ≤ n ∧ n ≤ 1073741824))) ∧ w = w' := by
  by_cases h1 : 1 ≤ n <;> by_cases h2 : n ≤ 1073741824
  all_goals go_enter Try.func47, Try.ntmps47
  all_goals go_wp2
  all_goals go_ret
  all_goals exact ⟨by simp [h1, h2], rfl⟩
end Go.Proofs.Ytompkpleiichaaa

/- append of one element (a struct or not) onto a row of the call's own, at a plain region's list and at a step of a region that draws. -/
namespace Go.Proofs.Ytompkpleiichaaa
open Go.RowKit

/-- t is the type of slices of e: size cells, so many bytes. -/
def SlT (P : Program) (t e : TypeId) (size bytes : Nat) : Prop :=
  ∃ i z, P.underlying t = some (.slice e) ∧ P.info? e = some i ∧ i.zero = some z ∧ i.size = size ∧ i.bytes = bytes ∧ z.cells.size = size ∧ 0 < size
theorem SlT.of {P : Program} {t e : TypeId} {size bytes : Nat} (hu : P.underlying t = some (.slice e)) (h : (P.info? e).bind (fun i => i.zero.map fun z => (i.size, i.bytes, z.cells.size)) = some (size, bytes, size)) (hs : 0 < size) : SlT P t e size bytes := by
  obtain ⟨i, hi, h⟩ := Option.bind_eq_some_iff.1 h
  obtain ⟨z, hz, h⟩ := Option.map_eq_some_iff.1 h
  simp only [Prod.mk.injEq] at h
  exact ⟨i, z, hu, hi, hz, h.1, h.2.1, h.2.2, hs⟩
section
variable {P : Program} {w : World} {base t e size bytes n : Nat} {v : Value} {xs : List Value}
theorem run_append1 {ty : TypeId} (hT : SlT P t e size bytes) (hown : w.ownsRow base e size v n xs) {gb : Nat} {cs : Array Value} (hsrc : Blk w gb e cs) (hcs : cs.size = size) (h1 : ∀ u ∈ cs.toList, u.oneCell' = true)
    (hn : n < 1099511627776) (hby : bytes ≤ 64) (hbase : base ≤ w.heap.size) :
    ∃ g cap w', (Builtin.append_ #[t, t] ty #[v, .slice (some ⟨gb, 0, none⟩) 1 1]).run P w = .ok (.slice (some ⟨g, 0, none⟩) (n + 1) cap) w' ∧ w'.ownsRow base e size (.slice (some ⟨g, 0, none⟩) (n + 1) cap) (n + 1) (xs ++ cs.toList) ∧
      w.grownBy w' v.ownBlock ∧ (some g = v.ownBlock ∨ g = w.heap.size) := by
  obtain ⟨i, z, ht, hi, hz, hs, hb, hzs, hsz⟩ := hT
  have hmul : (n + 1) * bytes ≤ 140737488355328 := Nat.le_trans (Nat.mul_le_mul (show n + 1 ≤ 1099511627776 by omega) hby) (by decide)
  obtain ⟨v', w', hrun, h2, h3, _, h5⟩ := run_append_own_at (P := P) w base t ty e i z size bytes ht hi hz hs hb hzs hsz v n xs hown ⟨gb, 0, none⟩ 1 1 cs.toList (by simpa using hcs)
      (fun j u hu => by
        have ea : (⟨gb, 0, none⟩ : Addr).add j = ⟨gb, j, none⟩ := by unfold Addr.add; split <;> simp_all
        rw [ea, Blk.cell hsrc j]
        simpa using hu)
      h1 (by unfold maxLen; omega) hmul hbase
  obtain ⟨g, cap, rfl⟩ := ownsRow_succ h2
  refine ⟨g, cap, w', hrun, h2, h3, ?_⟩
  rcases h5 with h5 | h5
  · exact .inl (by simpa [Value.ownBlock] using h5)
  · exact .inr (by simpa [Value.ownBlock] using h5)
theorem wpList_append1 {ops : Array Oper} {rest : List Oper} {o : Oper} {a : Act} {Q : Exit → Act → World → Prop} {s x : Operand} (hT : SlT P t e size bytes) (hgd : o.guard = none)
    (ho : o.op = .call { callee := .builtin .append, args := #[s, x], argTypes := #[t, t] }) (hs : a.eval s = v) (gb : Nat) (hx : a.eval x = .slice (some ⟨gb, 0, none⟩) 1 1)
    (hown : w.ownsRow base e size v n xs) (cs : Array Value) (hsrc : Blk w gb e cs) (hcs : cs.size = size) (h1 : ∀ u ∈ cs.toList, u.oneCell' = true) (hn : n < 1099511627776) (hby : bytes ≤ 64) (hbase : base ≤ w.heap.size)
    (hK : ∀ g cap w', w'.ownsRow base e size (.slice (some ⟨g, 0, none⟩) (n + 1) cap) (n + 1) (xs ++ cs.toList) → w.grownBy w' v.ownBlock → (some g = v.ownBlock ∨ g = w.heap.size) →
      wpList P ops Q rest (a.put o.dst (.slice (some ⟨g, 0, none⟩) (n + 1) cap)) w') : wpList P ops Q (o :: rest) a w := by
  obtain ⟨g, cap, w', hrun, h2, h3, h4⟩ := run_append1 (ty := o.type) hT hown hsrc hcs h1 hn hby hbase
  exact wpList_append_run hrun hgd ho hs hx (hK g cap w' h2 h3 h4)
theorem step_append1 {ops : Array Oper} {o : Oper} {a : Act} {K : Act → World → Prop} {Q : Exit → Act → World → Prop} {E : Prop} {s x : Operand} (hT : SlT P t e size bytes) (hgd : o.guard = none)
    (ho : o.op = .call { callee := .builtin .append, args := #[s, x], argTypes := #[t, t] }) (hs : a.eval s = v) (gb : Nat) (hx : a.eval x = .slice (some ⟨gb, 0, none⟩) 1 1)
    (hown : w.ownsRow base e size v n xs) (cs : Array Value) (hsrc : Blk w gb e cs) (hcs : cs.size = size) (h1 : ∀ u ∈ cs.toList, u.oneCell' = true) (hn : n < 1099511627776) (hby : bytes ≤ 64) (hbase : base ≤ w.heap.size)
    (hK : ∀ g cap w', w'.ownsRow base e size (.slice (some ⟨g, 0, none⟩) (n + 1) cap) (n + 1) (xs ++ cs.toList) → w.grownBy w' v.ownBlock → (some g = v.ownBlock ∨ g = w.heap.size) →
      K (a.put o.dst (.slice (some ⟨g, 0, none⟩) (n + 1) cap)) w') : if Region.wanted o (yielded ops a.tmps) = true then Oper.wp P o a w K Q else E := by
  obtain ⟨g, cap, w', hrun, h2, h3, h4⟩ := run_append1 (ty := o.type) hT hown hsrc hcs h1 hn hby hbase
  have hw : Region.wanted o (yielded ops a.tmps) = true := by simp [Region.wanted, hgd]
  rw [if_pos hw]
  unfold Oper.wp
  simp [execOp, ho, resolve, invoke, builtin, hs, hx, hrun, Result.andThen]
  exact hK g cap w' h2 h3 h4
end
end Go.Proofs.Ytompkpleiichaaa

/- client: requests, a Caller: Call, Send, Again. -/
namespace Go.Proofs.Ytompkpleiichaaa
open Go.RowKit

theorem flat_length {α : Type} (f : α → List Value) (size : Nat) (hf : ∀ x, (f x).length = size) (l : List α) : (l.flatMap f).length = l.length * size := by
  induction l with
  | nil => simp
  | cons x l ih => rw [List.flatMap_cons, List.length_append, hf, ih, List.length_cons, Nat.succ_mul, Nat.add_comm]
theorem flat_at {α : Type} (f : α → List Value) (size : Nat) (hf : ∀ x, (f x).length = size) (l : List α) : ∀ (k i : Nat) (hk : k < l.length) (_ : i < size), (l.flatMap f)[k * size + i]? = (f l[k])[i]? := by
  induction l with
  | nil => intro k i hk; simp at hk
  | cons x l ih =>
    intro k i hk hi
    rw [List.flatMap_cons]
    rcases k with _ | k
    · rw [Nat.zero_mul, Nat.zero_add, List.getElem?_append_left (by rw [hf]; exact hi)]
      rfl
    · rw [List.getElem?_append_right (by rw [hf, Nat.succ_mul]; omega), hf, show (k + 1) * size + i - size = k * size + i by rw [Nat.succ_mul]; omega]
      exact ih k i (by simpa using hk) hi
theorem alloc_size (w : World) (o : Obj) : (w.alloc o).heap.size = w.heap.size + 1 := by simp
theorem blk4 {w : World} {g : Nat} {t : TypeId} {a b c d : Value} (h : Blk w g t #[a, b, c, d]) :
    w.cell? ⟨g, 0, none⟩ = some a ∧ w.cell? ⟨g, 1, none⟩ = some b ∧ w.cell? ⟨g, 2, none⟩ = some c ∧ w.cell? ⟨g, 3, none⟩ = some d ∧
    w.frozen? ⟨g, 0, none⟩ = false ∧ w.frozen? ⟨g, 1, none⟩ = false ∧ w.frozen? ⟨g, 2, none⟩ = false ∧ w.frozen? ⟨g, 3, none⟩ = false :=
  ⟨h.cell 0, h.cell 1, h.cell 2, h.cell 3, h.frozen 0, h.frozen 1, h.frozen 2, h.frozen 3⟩

/-- A request: its numbers, its bytes as a slice, its tag. -/
structure Rq where
  cl : Int
  num : Int
  A : Option Addr
  n : Nat
  c : Nat
  bs : List UInt8
  tag : Int
def Rq.cells (r : Rq) : List Value := [.int .i64 r.cl, .int .i64 r.num, .slice r.A r.n r.c, .int .u64 r.tag]
def Rq.val (r : Rq) : Value := .agg #[.int .i64 r.cl, .int .i64 r.num, .slice r.A r.n r.c, .int .u64 r.tag]
def Rq.ok (w : World) (r : Rq) : Prop := Bts w r.A r.n r.c r.bs ∧ r.n ≤ 1048576
def Rq.log (r : Rq) : Int × Int × List UInt8 × Int := (r.cl, r.num, r.bs, r.tag)
theorem Rq.cells_length (r : Rq) : r.cells.length = 4 := rfl
theorem Rq.ok.mod {F : Nat → Prop} {w w' : World} {r : Rq} (h : r.ok w) (m : Mod F w w') (hF : ∀ b, F b → ¬ Ty w b 5) : r.ok w' := ⟨h.1.mod m hF, h.2⟩
theorem Rq.ok.all {w w' : World} {r : Rq} (h : r.ok w) (m : Below w.heap.size w w') : r.ok w' := ⟨h.1.all m, h.2⟩

/-- What a call returns: a request alike to r. -/
def RqPost (L : Int × Int × List UInt8 × Int) (w : World) (e : Ending) (w' : World) : Prop := ∃ r : Rq, e = .returned r.val ∧ r.ok w' ∧ r.log = L ∧ Below w.heap.size w w'
set_option maxRecDepth 100000 in
theorem copyReq_any (r : Rq) (w : World) (hr : r.ok w) : Calls Try.prog 49 #[r.val] w (RqPost r.log w) := by
  obtain ⟨cl, num, A, n, c, bs, tag⟩ := r
  obtain ⟨hB, hn⟩ := hr
  have HL := Lib.hid hB.1
  have hR := hB.rd
  dsimp only at hB hn HL hR
  unfold Rq.val
  dsimp only
  go_enter Try.func49, Try.ntmps49
  go_wp2_with fail
  have b2 := (Blk.new w 32 #[.int .i64 cl, .int .i64 num, .slice A n c, .int .u64 tag]).alloc (.cells #[.int .i64 0, .int .i64 0, .slice none 0 0, .int .u64 0] 32)
  have b3 := Blk.new (w.alloc (.cells #[.int .i64 cl, .int .i64 num, .slice A n c, .int .u64 tag] 32)) 32 #[.int .i64 0, .int .i64 0, .slice none 0 0, .int .u64 0]
  have hb2 := ((Below.refl w.heap.size w).alloc (Nat.le_refl _) (.cells #[.int .i64 cl, .int .i64 num, .slice A n c, .int .u64 tag] 32)).alloc (by simp) (.cells #[.int .i64 0, .int .i64 0, .slice none 0 0, .int .u64 0] 32)
  refine (cloneB_any A n c bs _ HL (by omega) (hR.all hb2)).mono ?_
  rintro e w3 ⟨A', c', rfl, hB3, hb3⟩
  replace b2 := b2.all hb3
  replace b3 := b3.all hb3
  have hb := Lib.hid (bt hb2 hb3)
  rw [alloc_size] at b3
  clear hb2 hb3 hR hB
  obtain ⟨c0, c1, c2, c3, f0, f1, f2, f3⟩ := blk4 b2
  obtain ⟨d0, d1, d2, d3, e0, e1, e2, e3⟩ := blk4 b3
  go_wp2
  refine bodyPost_ret (v := .agg #[.int .i64 cl, .int .i64 num, .slice A' n c', .int .u64 tag]) (by simp [results, Try.results49, go_sem, d0, d1, d2, d3]) rfl ⟨⟨cl, num, A', n, c', bs, tag⟩, rfl, ⟨hB3.mod (F := fun b => b = w.heap.size ∨ b = w.heap.size + 1) (by repeat (first | with_reducible exact Mod.refl _ _ | refine Mod.set ?_ (by simp) _)) ?_, hn⟩, rfl, ?_⟩
  · rintro b (rfl | rfl) h
    · exact absurd (Ty.unique h b2.ty) (by decide)
    · exact absurd (Ty.unique h b3.ty) (by decide)
  · repeat (first | with_reducible exact hb.out | refine Below.setCell ?_ (by simp) _)

/-- A Caller at block g: its open requests lie in a row of its own. (T: the type of the struct; E: of a request: the package's and the reference's are laid alike.) -/
def CallAt (w : World) (T E : TypeId) (g : Nat) (cl key last : Int) (rv : Value) (op : List Rq) : Prop :=
  Blk w g T #[.int .i64 cl, .int .u64 key, .int .i64 last, rv] ∧ w.ownsRow 0 E 4 rv op.length (op.flatMap Rq.cells) ∧ ∀ r ∈ op, r.ok w
def CallF (g : Nat) (rv : Value) (b : Nat) : Prop := b = g ∨ rv.ownBlock = some b
section
variable {w w' : World} {T E : TypeId} {g : Nat} {cl key last : Int} {rv : Value} {op : List Rq} {F : Nat → Prop}
theorem CallAt.noB (h : CallAt w T E g cl key last rv op) (hT : T ≠ 5) (hE : E ≠ 5) : ∀ b, CallF g rv b → ¬ Ty w b 5 := by
  rintro b (rfl | hb) ht
  · exact hT (Ty.unique h.1.ty ht)
  · exact hE (Ty.unique (Ty.of_own h.2.1 hb) ht)
theorem CallAt.mod (h : CallAt w T E g cl key last rv op) (m : Mod F w w') (hF : ∀ b, CallF g rv b → ¬ F b) (hB : ∀ b, F b → ¬ Ty w b 5) : CallAt w' T E g cl key last rv op :=
  ⟨m.blk h.1 (hF g (.inl rfl)), m.own h.2.1 (fun b hb => hF b (.inr hb)), fun r hr => (h.2.2 r hr).mod m hB⟩
theorem CallAt.all (h : CallAt w T E g cl key last rv op) (m : Below w.heap.size w w') : CallAt w' T E g cl key last rv op := h.mod (F := fun _ => False) (Mod.of_below _ m) (fun _ _ hf => hf) (fun _ hf => hf.elim)
theorem CallAt.ltF (h : CallAt w T E g cl key last rv op) : ∀ b, CallF g rv b → b < w.heap.size := by
  rintro b (rfl | hb)
  · exact h.1.lt
  · exact (h.2.1.lt b hb).2
end
theorem slT_req : SlT Try.prog 71 32 4 48 := SlT.of Try.underlying71 (by kernel_rfl) (by decide)
set_option maxRecDepth 100000 in
theorem call_any (cl key : Int) (w : World) : Calls Try.prog 10 #[.int .i64 cl, .int .u64 key] w fun e w' => ∃ g, e = .returned (.pointer (some ⟨g, 0, none⟩)) ∧ w.heap.size ≤ g ∧ CallAt w' 89 32 g cl key 0 (.slice none 0 0) [] ∧ Below w.heap.size w w' := by
  go_enter Try.func10, Try.ntmps10
  go_wp2
  go_ret
  exact ⟨_, rfl, Nat.le_refl _, ⟨Blk.new _ _ _, World.ownsRow_nil _ _ _ _, by simp⟩, (Below.refl _ _).alloc (Nat.le_refl _) _⟩

/-- Send refuses. -/
def SendNo (w : World) (e : Ending) (w' : World) : Prop := e = .returned (.tuple #[.agg #[.int .i64 0, .int .i64 0, .slice none 0 0, .int .u64 0], .int .i64 4]) ∧ Below w.heap.size w w'
/-- Send sends: the request is added to the open ones, and one alike is returned. -/
def SendYes (T E : TypeId) (g : Nat) (cl key last : Int) (rv : Value) (op : List Rq) (bs : List UInt8) (w : World) (e : Ending) (w' : World) : Prop :=
  ∃ (r r2 : Rq) (rv' : Value), e = .returned (.tuple #[r2.val, .int .i64 0]) ∧ r2.ok w' ∧ r.log = (cl, last + 1, bs, tagI key cl (last + 1) (bodyI bs)) ∧ r2.log = r.log ∧ CallAt w' T E g cl key (last + 1) rv' (op ++ [r]) ∧ Mod (CallF g rv) w w' ∧
    (rv'.ownBlock = rv.ownBlock ∨ ∀ b, rv'.ownBlock = some b → w.heap.size ≤ b)
set_option maxRecDepth 100000 in
theorem send_no (g : Nat) (cl key last : Int) (rv : Value) (op : List Rq) (A : Option Addr) (n c : Nat) (w : World) (HC : Hid (CallAt w 89 32 g cl key last rv op)) (hno : 65536 < n ∨ (n ≤ 65536 ∧ 16 ≤ op.length)) :
    Calls Try.prog 12 #[.pointer (some ⟨g, 0, none⟩), .slice A n c] w (SendNo w) := by
  obtain ⟨A1, n1, c1, hrv⟩ : ∃ A1 n1 c1, rv = .slice A1 n1 c1 ∧ n1 = op.length := by
    rcases HC.out.2.1.2 with ⟨h, h0⟩ | ⟨g1, cap, cur, h, _⟩
    · exact ⟨_, _, _, h, h0.symm⟩
    · exact ⟨_, _, _, h, rfl⟩
  obtain ⟨rfl, HN⟩ := hrv
  have hB := Blk.alloc HC.out.1 (.cells #[.int .i64 0, .int .i64 0, .slice none 0 0, .int .u64 0] 32)
  have c3 := (blk4 hB).2.2.2.1
  rcases hno with h | ⟨h, h'⟩
  · have h' : (65536 : Int) < (n : Int) := by omega
    clear HN
    go_enter Try.func12, Try.ntmps12
    go_wp2
    exact bodyPost_ret (v := .tuple #[.agg #[.int .i64 0, .int .i64 0, .slice none 0 0, .int .u64 0], .int .i64 4]) (by simp [results, Try.results12, go_sem]) rfl ⟨rfl, by repeat (first | with_reducible exact (Below.refl _ _).alloc (Nat.le_refl _) _ | refine Below.setCell ?_ (by simp) _)⟩
  · have h'' : ¬ ((65536 : Int) < (n : Int)) := by omega
    have h3 : (16 : Int) ≤ (n1 : Int) := by omega
    clear HN
    go_enter Try.func12, Try.ntmps12
    go_wp2
    exact bodyPost_ret (v := .tuple #[.agg #[.int .i64 0, .int .i64 0, .slice none 0 0, .int .u64 0], .int .i64 4]) (by simp [results, Try.results12, go_sem]) rfl ⟨rfl, by repeat (first | with_reducible exact (Below.refl _ _).alloc (Nat.le_refl _) _ | refine Below.setCell ?_ (by simp) _)⟩
end Go.Proofs.Ytompkpleiichaaa
