/- client: clone of bytes, hashes of a body and tags. -/
import Derived.Test.YtgepbklpobobbaaGreatDoorHG1
import Derived.Test.YtgepbklpobobbaaGreatDoorHG41
import Derived.Lib.SliceRun
import Derived.Deep.RegionHeld3

namespace Go.Proofs.YtgepbklpobobbaaGreatDoor
open Go.RowKit

theorem range_vByte {n : Nat} {bs : List UInt8} (h : bs.length = n) : (List.range n).map (vByte bs) = bs.map fun b => Value.int .u8 ((b.toNat : Nat) : Int) := by
  subst h
  apply List.ext_getElem?
  intro j
  by_cases hj : j < bs.length
  · simp [vByte, hj]
  · simp [hj]
theorem oneCell_vByte (bs : List UInt8) (j : Nat) : (vByte bs j).oneCell' = true := rfl

set_option maxRecDepth 100000 in
theorem cloneB_any (A : Option Addr) (n c : Nat) (bs : List UInt8) (w : World) (HL : Hid (bs.length = n)) (hn : n ≤ 35184372088832) (hR : Rd w w.heap.size A n (vByte bs)) :
    Calls Tryz.prog 37 #[.slice A n c] w fun e w' => ∃ A' c', e = .returned (.slice A' n c') ∧ Bts w' A' n c' bs ∧ Below w.heap.size w w' := by
  rcases A with _ | ad
  · have h0 := hR.none_ rfl
    subst h0
    have hb0 : bs = [] := List.eq_nil_of_length_eq_zero HL.out
    subst hb0
    have hq := Lib.run_eql_slice_nil (P := Tryz.prog) w 44 5 none 0 c 0 0 Tryz.underlying44
    go_enter Tryz.func37, Tryz.ntmps37
    go_wp2
    go_ret
    exact ⟨none, 0, rfl, Bts.nil _, Below.refl _ _⟩
  · obtain ⟨i0, hi, hz0, hz1, hz2⟩ := info_parts info_few
    have hB := (Below.refl w.heap.size w).alloc (Nat.le_refl _) (.cells #[] 5)
    obtain ⟨v', w', hap, hown, hg, hat⟩ := run_append_rd (P := Tryz.prog) (w.alloc (.cells #[] 5)) w.heap.size 44 44 5 i0 _ 1 Tryz.underlying44 hi hz0 hz1 hz2 rfl (.slice (some ⟨w.heap.size, 0, none⟩) 0 0) 0 []
      (World.ownsRow_made w #[] 0 (Nat.le_refl _) (by decide) rfl) _ (some ad) n c (vByte bs) (hR.all hB) (by intro h; cases h) (fun j _ => oneCell_vByte bs j) (by unfold maxLen; omega) (by omega) (by simp)
    have HA := Lib.hid hap
    rw [Nat.zero_add, List.nil_append, range_vByte HL.out] at hown
    have HO := Lib.hid hown
    have HB := Lib.hid (show Below w.heap.size w w' from hB.grown hg (by simp) (fun k e => by simp [Value.ownBlock] at e; omega))
    clear hap hat hown hg hB
    have hq := Lib.run_eql_slice_nil (P := Tryz.prog) w 44 5 (some ad) n c 0 0 Tryz.underlying44
    go_enter Tryz.func37, Tryz.ntmps37
    go_wp2_with (at_builtin; refine wpList_append_run HA.out rfl rfl rfl rfl ?_)
    go_ret
    obtain ⟨A', c', rfl⟩ := own_slice HO.out
    exact ⟨A', c', rfl, (Bts.of_own HO.out).1, HB.out⟩

def bodyB : List UInt8 := [98, 111, 100, 121]
def tagB : List UInt8 := [116, 97, 103]
def bodyI (bs : List UInt8) : Int := bytesI bodyB bs
def tagI (key cl num body : Int) : Int := sumI tagB [toI key, cl, num, toI body]
set_option maxRecDepth 100000 in
theorem bodyHash_any (A : Option Addr) (n c : Nat) (bs : List UInt8) (w : World) (HL : Hid (bs.length = n)) (hnc : n ≤ c) (hn : n ≤ 35184372088832) (hR : Rd w w.heap.size A n (vByte bs)) :
    Calls Tryz.prog 40 #[.slice A n c] w fun e w' => e = .returned (.int .u64 (bodyI bs)) ∧ Below w.heap.size w w' := by
  go_enter Tryz.func40, Tryz.ntmps40
  go_wp2_with fail
  refine (hbytes_any ⟨#[98, 111, 100, 121]⟩ A n c w.heap.size bs w HL (by decide) hnc hn (Nat.le_refl _) hR).mono ?_
  rintro e w1 ⟨rfl, hb⟩
  go_wp2
  go_ret
  exact ⟨rfl, hb⟩
theorem rd_lit4' (W : World) (t : TypeId) (x y z u : Int) : Rd (W.alloc (.cells #[.int .i64 x, .int .i64 y, .int .i64 z, .int .i64 u] t)) (W.heap.size + 1) (some ⟨W.heap.size, 0, none⟩) 4 (vInt [x, y, z, u]) := fun _ => ⟨_, _, rfl, by omega, fun j hj => by
  rcases (show j = 0 ∨ j = 1 ∨ j = 2 ∨ j = 3 by omega) with rfl | rfl | rfl | rfl <;> simp [vInt]⟩
set_option maxRecDepth 100000 in
theorem tag_any (key cl num body : Int) (w : World) : Calls Tryz.prog 41 #[.int .u64 key, .int .i64 cl, .int .i64 num, .int .u64 body] w fun e w' => e = .returned (.int .u64 (tagI key cl num body)) ∧ Below w.heap.size w w' := by
  go_enter Tryz.func41, Tryz.ntmps41
  go_wp2_with fail
  refine (hsum_any ⟨#[116, 97, 103]⟩ _ 4 4 (w.heap.size + 1) [toI key, cl, num, toI body] _ (Lib.hid rfl) (by decide) (by decide) (by simp) (rd_lit4' w 3 (toI key) cl num (toI body))).mono ?_
  rintro e w1 ⟨rfl, hb⟩
  have hb2 := bt ((Below.refl w.heap.size w).alloc (Nat.le_refl _) _) hb
  go_wp2
  go_ret
  exact ⟨rfl, hb2⟩
set_option maxRecDepth 100000 in
theorem ctag_any (key cl num : Int) (A : Option Addr) (n c : Nat) (bs : List UInt8) (w : World) (HL : Hid (bs.length = n)) (hnc : n ≤ c) (hn : n ≤ 35184372088832) (hR : Rd w w.heap.size A n (vByte bs)) :
    Calls Tryz.prog 38 #[.int .u64 key, .int .i64 cl, .int .i64 num, .slice A n c] w fun e w' => e = .returned (.int .u64 (tagI key cl num (bodyI bs))) ∧ Below w.heap.size w w' := by
  go_enter Tryz.func38, Tryz.ntmps38
  go_wp2_with fail
  refine (bodyHash_any A n c bs w HL hnc hn hR).mono ?_
  rintro e w1 ⟨rfl, hb⟩
  go_wp2_with fail
  refine (tag_any _ _ _ _ _).mono ?_
  rintro e w2 ⟨rfl, hb2⟩
  have hb3 := bt hb hb2
  go_wp2
  go_ret
  exact ⟨rfl, hb3⟩
set_option maxRecDepth 100000 in
theorem isClient_any (n : Int) (w : World) : Calls Tryz.prog 34 #[.int .i64 n] w fun e w' => e = .returned (.bool (decide (1 ≤ n ∧ n ≤ 1073741824))) ∧ w = w' := by
  by_cases h1 : 1 ≤ n <;> by_cases h2 : n ≤ 1073741824
  all_goals go_enter Tryz.func34, Tryz.ntmps34
  all_goals go_wp2
  all_goals go_ret
  all_goals exact ⟨by simp [h1, h2], rfl⟩
end Go.Proofs.YtgepbklpobobbaaGreatDoor

/- client: requests, a Caller: Call, Send, Again. -/
namespace Go.Proofs.YtgepbklpobobbaaGreatDoor
open Go.RowKit

theorem flatC_length {α : Type} (f : α → List Value) (size : Nat) (hf : ∀ x, (f x).length = size) (l : List α) : (l.flatMap f).length = l.length * size := by
  induction l with
  | nil => simp
  | cons x l ih => rw [List.flatMap_cons, List.length_append, hf, ih, List.length_cons, Nat.succ_mul, Nat.add_comm]
theorem flatC_at {α : Type} (f : α → List Value) (size : Nat) (hf : ∀ x, (f x).length = size) (l : List α) : ∀ (k i : Nat) (hk : k < l.length) (_ : i < size), (l.flatMap f)[k * size + i]? = (f l[k])[i]? := by
  induction l with
  | nil => intro k i hk; simp at hk
  | cons x l ih =>
    intro k i hk hi
    rw [List.flatMap_cons]
    rcases k with _ | k
    · rw [Nat.zero_mul, Nat.zero_add, List.getElem?_append_left (by rw [hf]; exact hi)]
      rfl
    · rw [List.getElem?_append_right (by rw [hf, Nat.succ_mul]; omega), hf, show (k + 1) * size + i - size = k * size + i by rw [Nat.succ_mul]; omega]
      exact ih k i (by simpa using hk) hi
theorem alloc_size (w : World) (o : Obj) : (w.alloc o).heap.size = w.heap.size + 1 := by simp
theorem blk4 {w : World} {g : Nat} {t : TypeId} {a b c d : Value} (h : Blk w g t #[a, b, c, d]) :
    w.cell? ⟨g, 0, none⟩ = some a ∧ w.cell? ⟨g, 1, none⟩ = some b ∧ w.cell? ⟨g, 2, none⟩ = some c ∧ w.cell? ⟨g, 3, none⟩ = some d ∧
    w.frozen? ⟨g, 0, none⟩ = false ∧ w.frozen? ⟨g, 1, none⟩ = false ∧ w.frozen? ⟨g, 2, none⟩ = false ∧ w.frozen? ⟨g, 3, none⟩ = false :=
  ⟨h.cell 0, h.cell 1, h.cell 2, h.cell 3, h.frozen 0, h.frozen 1, h.frozen 2, h.frozen 3⟩

/-- A request: its numbers, its bytes as a slice, its tag. -/
structure Rq where
  cl : Int
  num : Int
  A : Option Addr
  n : Nat
  c : Nat
  bs : List UInt8
  tag : Int
def Rq.cells (r : Rq) : List Value := [.int .i64 r.cl, .int .i64 r.num, .slice r.A r.n r.c, .int .u64 r.tag]
def Rq.val (r : Rq) : Value := .agg #[.int .i64 r.cl, .int .i64 r.num, .slice r.A r.n r.c, .int .u64 r.tag]
def Rq.ok (w : World) (r : Rq) : Prop := Bts w r.A r.n r.c r.bs ∧ r.n ≤ 1048576
def Rq.log (r : Rq) : Int × Int × List UInt8 × Int := (r.cl, r.num, r.bs, r.tag)
theorem Rq.cells_length (r : Rq) : r.cells.length = 4 := rfl
theorem Rq.ok.mod {F : Nat → Prop} {w w' : World} {r : Rq} (h : r.ok w) (m : Mod F w w') (hF : ∀ b, F b → ¬ Ty w b 5) : r.ok w' := ⟨h.1.mod m hF, h.2⟩
theorem Rq.ok.all {w w' : World} {r : Rq} (h : r.ok w) (m : Below w.heap.size w w') : r.ok w' := ⟨h.1.all m, h.2⟩

/-- What a call returns: a request alike to r. -/
def RqPost (L : Int × Int × List UInt8 × Int) (w : World) (e : Ending) (w' : World) : Prop := ∃ r : Rq, e = .returned r.val ∧ r.ok w' ∧ r.log = L ∧ Below w.heap.size w w'
set_option maxRecDepth 100000 in
theorem copyReq_any (r : Rq) (w : World) (hr : r.ok w) : Calls Tryz.prog 39 #[r.val] w (RqPost r.log w) := by
  obtain ⟨cl, num, A, n, c, bs, tag⟩ := r
  obtain ⟨hB, hn⟩ := hr
  have HL := Lib.hid hB.1
  have hR := hB.rd
  dsimp only at hB hn HL hR
  unfold Rq.val
  dsimp only
  go_enter Tryz.func39, Tryz.ntmps39
  go_wp2_with fail
  have b2 := (Blk.new w 49 #[.int .i64 cl, .int .i64 num, .slice A n c, .int .u64 tag]).alloc (.cells #[.int .i64 0, .int .i64 0, .slice none 0 0, .int .u64 0] 49)
  have b3 := Blk.new (w.alloc (.cells #[.int .i64 cl, .int .i64 num, .slice A n c, .int .u64 tag] 49)) 49 #[.int .i64 0, .int .i64 0, .slice none 0 0, .int .u64 0]
  have hb2 := ((Below.refl w.heap.size w).alloc (Nat.le_refl _) (.cells #[.int .i64 cl, .int .i64 num, .slice A n c, .int .u64 tag] 49)).alloc (by simp) (.cells #[.int .i64 0, .int .i64 0, .slice none 0 0, .int .u64 0] 49)
  refine (cloneB_any A n c bs _ HL (by omega) (hR.all hb2)).mono ?_
  rintro e w3 ⟨A', c', rfl, hB3, hb3⟩
  replace b2 := b2.all hb3
  replace b3 := b3.all hb3
  have hb := Lib.hid (bt hb2 hb3)
  rw [alloc_size] at b3
  clear hb2 hb3 hR hB
  obtain ⟨c0, c1, c2, c3, f0, f1, f2, f3⟩ := blk4 b2
  obtain ⟨d0, d1, d2, d3, e0, e1, e2, e3⟩ := blk4 b3
  go_wp2
  refine bodyPost_ret (v := .agg #[.int .i64 cl, .int .i64 num, .slice A' n c', .int .u64 tag]) (by simp [results, Tryz.results39, go_sem, d0, d1, d2, d3]) rfl ⟨⟨cl, num, A', n, c', bs, tag⟩, rfl, ⟨hB3.mod (F := fun b => b = w.heap.size ∨ b = w.heap.size + 1) (by repeat (first | with_reducible exact Mod.refl _ _ | refine Mod.set ?_ (by simp) _)) ?_, hn⟩, rfl, ?_⟩
  · rintro b (rfl | rfl) h
    · exact absurd (Ty.unique h b2.ty) (by decide)
    · exact absurd (Ty.unique h b3.ty) (by decide)
  · repeat (first | with_reducible exact hb.out | refine Below.setCell ?_ (by simp) _)

/-- A Caller at block g: its open requests lie in a row of its own. (T: the type of the struct; E: of a request: the package's and the reference's are laid alike.) -/
def CallAt (w : World) (T E : TypeId) (g : Nat) (cl key last : Int) (rv : Value) (op : List Rq) : Prop :=
  Blk w g T #[.int .i64 cl, .int .u64 key, .int .i64 last, rv] ∧ w.ownsRow 0 E 4 rv op.length (op.flatMap Rq.cells) ∧ ∀ r ∈ op, r.ok w
def CallF (g : Nat) (rv : Value) (b : Nat) : Prop := b = g ∨ rv.ownBlock = some b
section
variable {w w' : World} {T E : TypeId} {g : Nat} {cl key last : Int} {rv : Value} {op : List Rq} {F : Nat → Prop}
theorem CallAt.noB (h : CallAt w T E g cl key last rv op) (hT : T ≠ 5) (hE : E ≠ 5) : ∀ b, CallF g rv b → ¬ Ty w b 5 := by
  rintro b (rfl | hb) ht
  · exact hT (Ty.unique h.1.ty ht)
  · exact hE (Ty.unique (Ty.of_own h.2.1 hb) ht)
theorem CallAt.mod (h : CallAt w T E g cl key last rv op) (m : Mod F w w') (hF : ∀ b, CallF g rv b → ¬ F b) (hB : ∀ b, F b → ¬ Ty w b 5) : CallAt w' T E g cl key last rv op :=
  ⟨m.blk h.1 (hF g (.inl rfl)), m.own h.2.1 (fun b hb => hF b (.inr hb)), fun r hr => (h.2.2 r hr).mod m hB⟩
theorem CallAt.all (h : CallAt w T E g cl key last rv op) (m : Below w.heap.size w w') : CallAt w' T E g cl key last rv op := h.mod (F := fun _ => False) (Mod.of_below _ m) (fun _ _ hf => hf) (fun _ hf => hf.elim)
theorem CallAt.ltF (h : CallAt w T E g cl key last rv op) : ∀ b, CallF g rv b → b < w.heap.size := by
  rintro b (rfl | hb)
  · exact h.1.lt
  · exact (h.2.1.lt b hb).2
end
theorem slT_req : SlT Tryz.prog 42 49 4 48 := SlT.of Tryz.underlying42 (by kernel_rfl) (by decide)
set_option maxRecDepth 100000 in
theorem call_any (cl key : Int) (w : World) : Calls Tryz.prog 7 #[.int .i64 cl, .int .u64 key] w fun e w' => ∃ g, e = .returned (.pointer (some ⟨g, 0, none⟩)) ∧ w.heap.size ≤ g ∧ CallAt w' 106 49 g cl key 0 (.slice none 0 0) [] ∧ Below w.heap.size w w' := by
  go_enter Tryz.func7, Tryz.ntmps7
  go_wp2
  go_ret
  exact ⟨_, rfl, Nat.le_refl _, ⟨Blk.new _ _ _, World.ownsRow_nil _ _ _ _, by simp⟩, (Below.refl _ _).alloc (Nat.le_refl _) _⟩

/-- Send sends: the request is added to the open ones, and one alike is returned. -/
def SendYes (T E : TypeId) (g : Nat) (cl key last : Int) (rv : Value) (op : List Rq) (bs : List UInt8) (w : World) (e : Ending) (w' : World) : Prop :=
  ∃ (r r2 : Rq) (rv' : Value), e = .returned (.tuple #[r2.val, .int .i64 0]) ∧ r2.ok w' ∧ r.log = (cl, last + 1, bs, tagI key cl (last + 1) (bodyI bs)) ∧ r2.log = r.log ∧ CallAt w' T E g cl key (last + 1) rv' (op ++ [r]) ∧ Mod (CallF g rv) w w' ∧
    (rv'.ownBlock = rv.ownBlock ∨ ∀ b, rv'.ownBlock = some b → w.heap.size ≤ b)
end Go.Proofs.YtgepbklpobobbaaGreatDoor

/- client: Send. -/
namespace Go.Proofs.YtgepbklpobobbaaGreatDoor
open Go.RowKit

theorem own_parts {w : World} {base e size n : Nat} {v : Value} {xs : List Value} (h : w.ownsRow base e size v n xs) : ∃ A c, v = .slice A n c := by
  rcases h.2 with ⟨h, h0⟩ | ⟨g1, cap, cur, h, _⟩
  · exact ⟨none, 0, by rw [h, h0]⟩
  · exact ⟨_, _, h⟩
theorem keep3 {wz w' : World} {g : Nat} {a b c : Value} (h : Below wz.heap.size wz w') (hlt : g < wz.heap.size) (c0 : wz.cell? ⟨g, 0, none⟩ = some a) (c1 : wz.cell? ⟨g, 1, none⟩ = some b) (c2 : wz.cell? ⟨g, 2, none⟩ = some c) :
    Below wz.heap.size wz w' ∧ w'.cell? ⟨g, 0, none⟩ = some a ∧ w'.cell? ⟨g, 1, none⟩ = some b ∧ w'.cell? ⟨g, 2, none⟩ = some c :=
  ⟨h, (h.cell (p := ⟨g, 0, none⟩) hlt).trans c0, (h.cell (p := ⟨g, 1, none⟩) hlt).trans c1, (h.cell (p := ⟨g, 2, none⟩) hlt).trans c2⟩
theorem Blk.drew {w : World} {g : Nat} {t : TypeId} {cs : Array Value} (h : Blk w g t cs) : Blk w.drew g t cs := h
theorem blk_set4 {w : World} {g : Nat} {t : TypeId} {a b c d : Value} (h : Blk w g t #[a, b, c, d]) (a' b' c' d' : Value) :
    Blk ((((w.setCell ⟨g, 0, none⟩ a').setCell ⟨g, 1, none⟩ b').setCell ⟨g, 2, none⟩ c').setCell ⟨g, 3, none⟩ d') g t #[a', b', c', d'] ∧ Mod (fun x => x = g) w ((((w.setCell ⟨g, 0, none⟩ a').setCell ⟨g, 1, none⟩ b').setCell ⟨g, 2, none⟩ c').setCell ⟨g, 3, none⟩ d') := by
  refine ⟨?_, (((((Mod.refl (fun x => x = g) w).set (p := ⟨g, 0, none⟩) (.inl rfl) _).set (p := ⟨g, 1, none⟩) (.inl rfl) _).set (p := ⟨g, 2, none⟩) (.inl rfl) _).set (p := ⟨g, 3, none⟩) (.inl rfl) _)⟩
  have := (((Blk.set_ h 0 a').set_ 1 b').set_ 2 c').set_ 3 d'
  simpa using this
section
variable {w w' : World} {T E : TypeId} {g : Nat} {cl key last : Int} {rv : Value} {op : List Rq} {F : Nat → Prop}
theorem CallAt.row_ne (h : CallAt w T E g cl key last rv op) (hTE : T ≠ E) {b : Nat} (hb : rv.ownBlock = some b) : b ≠ g := by
  rintro rfl
  exact hTE (Ty.unique h.1.ty (Ty.of_own h.2.1 hb))
theorem CallAt.setLast (h : CallAt w T E g cl key last rv op) (hTE : T ≠ E) (hT : T ≠ 5) (x : Int) : CallAt (w.setCell ⟨g, 2, none⟩ (.int .i64 x)) T E g cl key x rv op := by
  have m : Mod (fun b => b = g) w (w.setCell ⟨g, 2, none⟩ (.int .i64 x)) := (Mod.refl (fun b => b = g) w).set (p := ⟨g, 2, none⟩) (.inl rfl) _
  refine ⟨by have := Blk.set_ h.1 2 (.int .i64 x); simpa using this, m.own h.2.1 (fun b hb => h.row_ne hTE hb), fun r hr => (h.2.2 r hr).mod m ?_⟩
  rintro b rfl ht
  exact hT (Ty.unique h.1.ty ht)
theorem CallAt.appended (h : CallAt w T E g cl key last rv op) (hTE : T ≠ E) (hT : T ≠ 5) (hE : E ≠ 5) (r : Rq) (hr : r.ok w) {o : Obj} {w9 : World} {g5 cap5 : Nat}
    (ho9 : w9.ownsRow 0 E 4 (.slice (some ⟨g5, 0, none⟩) (op.length + 1) cap5) (op.length + 1) (op.flatMap Rq.cells ++ r.cells)) (hg9 : (w.alloc o).drew.grownBy w9 rv.ownBlock) :
    CallAt (w9.setCell ⟨g, 3, none⟩ (.slice (some ⟨g5, 0, none⟩) (op.length + 1) cap5)) T E g cl key last (.slice (some ⟨g5, 0, none⟩) (op.length + 1) cap5) (op ++ [r]) ∧ r.ok (w9.setCell ⟨g, 3, none⟩ (.slice (some ⟨g5, 0, none⟩) (op.length + 1) cap5)) ∧
    Mod (CallF g rv) w (w9.setCell ⟨g, 3, none⟩ (.slice (some ⟨g5, 0, none⟩) (op.length + 1) cap5)) := by
  have m9 : Mod (CallF g rv) w w9 := Mod.then_grown (((Mod.refl _ w).alloc o).drew) hg9 (fun b e => .inl (.inr e))
  have m10 : Mod (CallF g rv) w (w9.setCell ⟨g, 3, none⟩ (.slice (some ⟨g5, 0, none⟩) (op.length + 1) cap5)) := m9.set (p := ⟨g, 3, none⟩) (.inl (.inl rfl)) _
  have hb9 : Blk w9 g T #[.int .i64 cl, .int .u64 key, .int .i64 last, rv] := Blk.grown (h.1.alloc o).drew hg9 (fun e => h.row_ne hTE e.symm rfl)
  have hn := h.noB hT hE
  refine ⟨⟨?_, ?_, ?_⟩, hr.mod m10 hn, m10⟩
  · have := Blk.set_ hb9 3 (.slice (some ⟨g5, 0, none⟩) (op.length + 1) cap5)
    simpa using this
  · have hne : g5 ≠ g := by
      rintro rfl
      exact hTE (Ty.unique hb9.ty (Ty.of_own ho9 rfl))
    have := Mod.own ((Mod.refl (fun b => b = g) w9).set (p := ⟨g, 3, none⟩) (.inl rfl) (.slice (some ⟨g5, 0, none⟩) (op.length + 1) cap5)) ho9 (by
      intro b hb e
      cases hb
      exact hne e)
    rw [List.length_append, List.flatMap_append]
    simpa using this
  · intro x hx
    rw [List.mem_append, List.mem_singleton] at hx
    rcases hx with hx | rfl
    · exact (h.2.2 x hx).mod m10 hn
    · exact hr.mod m10 hn
end
set_option maxRecDepth 100000 in
set_option maxHeartbeats 1000000 in
theorem send_yes (g : Nat) (cl key last : Int) (rv : Value) (op : List Rq) (A : Option Addr) (n c : Nat) (bs : List UInt8) (w : World) (HC : Hid (CallAt w 106 49 g cl key last rv op)) (h0 : 0 ≤ last) (h1 : last ≤ 4611686018427387904)
    (hn : n ≤ 65536) (hop : op.length < 16) (HB : Hid (Bts w A n c bs)) :
    Calls Tryz.prog 11 #[.pointer (some ⟨g, 0, none⟩), .slice A n c] w (SendYes 106 49 g cl key last rv op bs w) := by
  obtain ⟨A1, c1, rfl⟩ := own_parts HC.out.2.1
  have hc0 := HC.out.all ((Below.refl w.heap.size w).alloc (Nat.le_refl _) (.cells #[.int .i64 0, .int .i64 0, .slice none 0 0, .int .u64 0] 49))
  have hB0 := HB.out.all ((Below.refl w.heap.size w).alloc (Nat.le_refl _) (.cells #[.int .i64 0, .int .i64 0, .slice none 0 0, .int .u64 0] 49))
  have hZ := Blk.new w 49 #[.int .i64 0, .int .i64 0, .slice none 0 0, .int .u64 0]
  have hgl : g < w.heap.size := HC.out.1.lt
  have hm : Mod (CallF g (.slice A1 op.length c1)) w ((w.alloc (.cells #[.int .i64 0, .int .i64 0, .slice none 0 0, .int .u64 0] 49)).setCell ⟨g, 2, none⟩ (.int .i64 (last + 1))) := ((Mod.refl _ _).alloc _).set (.inl (.inl rfl)) _
  have hC := hc0.setLast (by decide) (by decide) (last + 1)
  have hB := hB0.mod ((Mod.refl (fun b => b = g) _).set (p := ⟨g, 2, none⟩) (.inl rfl) (.int .i64 (last + 1))) (by rintro b rfl ht; exact absurd (Ty.unique hc0.1.ty ht) (by decide))
  replace hZ := hZ.far (p := ⟨g, 2, none⟩) (by simp; omega) (.int .i64 (last + 1))
  have HCZ := Lib.hid hC
  have HBZ := Lib.hid hB
  have HZ := Lib.hid hZ
  have HM := Lib.hid hm
  obtain ⟨c00, c01, c02, c03, f00, f01, f02, f03⟩ := blk4 hc0.1
  have g0 : ¬ ((65536 : Int) < (n : Int)) := by omega
  have g1 : ¬ ((16 : Int) ≤ (op.length : Int)) := by omega
  clear hC hB hZ hm hc0 hB0 hgl
  go_enter Tryz.func11, Tryz.ntmps11
  go_wp2
  clear c00 c01 c02 c03 f00 f01 f02 f03 g0 g1
  generalize (w.alloc (.cells #[.int .i64 0, .int .i64 0, .slice none 0 0, .int .u64 0] 49)).setCell ⟨g, 2, none⟩ (.int .i64 (last + 1)) = wz at *
  obtain ⟨c00, c01, c02, c03, f00, f01, f02, f03⟩ := blk4 HCZ.out.1
  have hlt := HCZ.out.1.lt
  have HL := Lib.hid HB.out.1
  have hnc := HB.out.2.1
  go_region_held3 (fun w' => Below wz.heap.size wz w' ∧ w'.cell? ⟨g, 0, none⟩ = some (.int .i64 cl) ∧ w'.cell? ⟨g, 1, none⟩ = some (.int .u64 key) ∧ w'.cell? ⟨g, 2, none⟩ = some (.int .i64 (last + 1)))
    ((refine keep3 ?_ hlt c00 c01 c02; repeat (first | with_reducible exact Below.refl _ wz | with_reducible exact hS2 | refine Below.setCell ?_ (by first | (simp; done) | (simp; omega)) _ | refine Below.alloc ?_ (by first | (simp; done) | omega | (simp; omega)) _ | refine Below.drew ?_)))
    (first
      | (go_at_call 37; have hS1 := (‹Below wz.heap.size wz _ ∧ _›).1; ((with_reducible refine (cloneB_any _ _ _ bs _ HL (by omega) (HBZ.out.all hS1).rd).mono ?_); rintro e wc ⟨A', c', rfl, hB5, hb3⟩; (first | (have hq := Blk.all (show Blk (wz.alloc (.cells #[.int .i64 0, .int .i64 0, .slice none 0 0, .int .u64 0] 49)).drew wz.heap.size 49 #[.int .i64 0, .int .i64 0, .slice none 0 0, .int .u64 0] from Blk.new wz _ _) hb3; obtain ⟨q0, q1, q2, q3, p0, p1, p2, p3⟩ := blk4 hq) | (have hq : Blk _ wz.heap.size _ _ := Blk.all (Blk.new _ 49 #[.int .i64 0, .int .i64 0, .slice none 0 0, .int .u64 0]) hb3; obtain ⟨q0, q1, q2, q3, p0, p1, p2, p3⟩ := blk4 hq) | (have hq := Blk.all (Blk.new _ 49 #[.int .i64 0, .int .i64 0, .slice none 0 0, .int .u64 0]) hb3; obtain ⟨q0, q1, q2, q3, p0, p1, p2, p3⟩ := blk4 hq) | skip); have hS2 := bt hS1 hb3; have hz1 := hS2.size; clear hS1 hb3))
      | (go_at_call 38; have hS1 := (‹Below wz.heap.size wz _ ∧ _›).1; ((with_reducible refine (ctag_any _ _ _ _ _ _ bs _ HL hnc (by omega) (HBZ.out.all hS1).rd).mono ?_); rintro e wt ⟨rfl, hb3⟩; (first | (have hq' := Blk.all hq hb3; clear q0 q1 q2 q3 p0 p1 p2 p3; obtain ⟨q0, q1, q2, q3, p0, p1, p2, p3⟩ := blk4 hq') | (first | (have hq := Blk.all (show Blk (wz.alloc (.cells #[.int .i64 0, .int .i64 0, .slice none 0 0, .int .u64 0] 49)).drew wz.heap.size 49 #[.int .i64 0, .int .i64 0, .slice none 0 0, .int .u64 0] from Blk.new wz _ _) hb3; obtain ⟨q0, q1, q2, q3, p0, p1, p2, p3⟩ := blk4 hq) | (have hq : Blk _ wz.heap.size _ _ := Blk.all (Blk.new _ 49 #[.int .i64 0, .int .i64 0, .slice none 0 0, .int .u64 0]) hb3; obtain ⟨q0, q1, q2, q3, p0, p1, p2, p3⟩ := blk4 hq) | (have hq := Blk.all (Blk.new _ 49 #[.int .i64 0, .int .i64 0, .slice none 0 0, .int .u64 0]) hb3; obtain ⟨q0, q1, q2, q3, p0, p1, p2, p3⟩ := blk4 hq) | skip)); (first | replace hB5 := hB5.all hb3 | replace hB5 := (hB5.all ((Below.refl _ _).alloc (Nat.le_refl _) _)).all hb3); have hS2 := bt hS1 hb3; have hz1 := hS2.size; clear hS1 hb3)))
  (have hq8 := Blk.new wt 49 #[.int .i64 cl, .int .i64 (last + 1), .slice A' n c', .int .u64 (tagI key cl (last + 1) (bodyI bs))]
   have hb8 := hS2.alloc hS2.size (.cells #[.int .i64 cl, .int .i64 (last + 1), .slice A' n c', .int .u64 (tagI key cl (last + 1) (bodyI bs))] 49)
   have hB8 := hB5.all ((Below.refl wt.heap.size wt).alloc (Nat.le_refl _) (.cells #[.int .i64 cl, .int .i64 (last + 1), .slice A' n c', .int .u64 (tagI key cl (last + 1) (bodyI bs))] 49))
   have hgq : wz.heap.size ≤ wt.heap.size := hS2.size
   clear hB5 hS2
   generalize wt.alloc (.cells #[.int .i64 cl, .int .i64 (last + 1), .slice A' n c', .int .u64 (tagI key cl (last + 1) (bodyI bs))] 49) = w8 at *
   generalize wt.heap.size = gq at *)
  rotate_left
  (obtain ⟨hq8, m8⟩ := blk_set4 hq (.int .i64 cl) (.int .i64 (last + 1)) (.slice A' n c') (.int .u64 (tagI key cl (last + 1) (bodyI bs)))
   have hgq : wz.heap.size ≤ wc.heap.size := by omega
   have hb8 := m8.below hS2 hS2.size (by rintro b rfl; exact hgq)
   have hB8 := hB5.mod m8 (by rintro b rfl ht; exact absurd (Ty.unique hq.ty ht) (by decide))
   clear hB5 hS2 hq m8 q0 q1 q2 q3 p0 p1 p2 p3
   generalize (((wt.setCell ⟨wc.heap.size, 0, none⟩ (.int .i64 cl)).setCell ⟨wc.heap.size, 1, none⟩ (.int .i64 (last + 1))).setCell ⟨wc.heap.size, 2, none⟩ (.slice A' n c')).setCell ⟨wc.heap.size, 3, none⟩ (.int .u64 (tagI key cl (last + 1) (bodyI bs))) = w8 at *
   generalize wc.heap.size = gq at *)
  rotate_left
  (obtain ⟨hq8, m8⟩ := blk_set4 hq' (.int .i64 cl) (.int .i64 (last + 1)) (.slice A' n c') (.int .u64 (tagI key cl (last + 1) (bodyI bs)))
   have hgq : wz.heap.size ≤ wz.heap.size := Nat.le_refl _
   have hb8 := m8.below hS2 hS2.size (by rintro b rfl; exact hgq)
   have hB8 := hB5.mod m8 (by rintro b rfl ht; exact absurd (Ty.unique hq'.ty ht) (by decide))
   clear hB5 hS2 hq hq' m8 q0 q1 q2 q3 p0 p1 p2 p3
   generalize (((wt.setCell ⟨wz.heap.size, 0, none⟩ (.int .i64 cl)).setCell ⟨wz.heap.size, 1, none⟩ (.int .i64 (last + 1))).setCell ⟨wz.heap.size, 2, none⟩ (.slice A' n c')).setCell ⟨wz.heap.size, 3, none⟩ (.int .u64 (tagI key cl (last + 1) (bodyI bs))) = w8 at *
   obtain ⟨gq, hgq2⟩ : ∃ gq, gq = wz.heap.size := ⟨_, rfl⟩
   rw [← hgq2] at hq8
   have hgq : wz.heap.size ≤ gq := by omega
   rw [← hgq2]
   clear hgq2)
  rotate_left
  all_goals
    generalize htg : tagI key cl (last + 1) (bodyI bs) = tg at *
    have HTG := Lib.hid htg
    have hC8 := HCZ.out.all hb8
    have HZ8 := Lib.hid (HZ.out.all hb8)
    have HM8 := Lib.hid (HM.out.then_below hb8)
    have HB8 := Lib.hid hB8
    have HQ8 := Lib.hid hq8
    have hsz : w.heap.size ≤ wz.heap.size := HM.out.size
    have hsz8 : wz.heap.size ≤ w8.heap.size := hb8.size
    have hlt8 : g < w8.heap.size := hC8.1.lt
    have hgq8 : gq < w8.heap.size := hq8.lt
    have hggq : g ≠ gq := by omega
    have hrne : (Value.slice A1 op.length c1).ownBlock ≠ some g := fun e => hC8.row_ne (by decide) e rfl
    have hrnq : (Value.slice A1 op.length c1).ownBlock ≠ some gq := fun e => by
      have := (HC.out.2.1.lt gq e).2
      omega
    have HO8 := Lib.hid hC8.2.1
    have HC8 := Lib.hid hC8
    have HG8 := Lib.hid (show Blk w8 g 106 #[.int .i64 cl, .int .u64 key, .int .i64 (last + 1), .slice A1 op.length c1] from hC8.1)
    have HNE := Lib.hid hrne
    have HNQ := Lib.hid hrnq
    have d3 := (blk4 hC8.1).2.2.2.1
    have e3 := (blk4 hC8.1).2.2.2.2.2.2.2
    obtain ⟨k0, k1, k2, k3, -, -, -, -⟩ := blk4 hq8
    clear htg hC8 hq8 hB8 hb8 c00 c01 c02 c03 f00 f01 f02 f03 hrne hrnq HZ HM HCZ HBZ
    try clear hz1
    go_wp2
    go_region_law (refine step_append1 (v := .slice A1 op.length c1) slT_req (by rfl) (by rfl) (by rfl) w8.heap.size (by rfl) (by first | exact (HO8.out.alloc _).drew | exact HO8.out.alloc _) #[.int .i64 cl, .int .i64 (last + 1), .slice A' n c', .int .u64 tg] (by exact Blk.new w8 49 #[.int .i64 cl, .int .i64 (last + 1), .slice A' n c', .int .u64 tg]) rfl (by simp; exact ⟨rfl, rfl, rfl, rfl⟩) (by omega) (by decide) (by omega) ?_; intro g5 cap5 w9 ho9 hg9 hat9; have hBw := Blk.grown (g := g) (t := 106) (cs := #[.int .i64 cl, .int .u64 key, .int .i64 (last + 1), .slice A1 op.length c1]) (HG8.out.alloc _).drew hg9 (Ne.symm HNE.out); have s3 := (blk4 hBw).2.2.2.1; have z3 := (blk4 hBw).2.2.2.2.2.2.2)
    all_goals
      obtain ⟨hC10, hr10, m10⟩ := HC8.out.appended (by decide) (by decide) (by decide) ⟨cl, last + 1, A', n, c', bs, tg⟩ ⟨HB8.out, show n ≤ 1048576 by omega⟩ ho9 hg9
      have hq10 := m10.blk HQ8.out (by rintro (e | e); exact hggq e.symm; exact HNQ.out e)
      have hz10 := m10.blk HZ8.out (by rintro (e | e); (have := HC.out.1.lt; omega); (have := (HC.out.2.1.lt _ e).2; omega))
      have HM10 := Lib.hid (HM8.out.trans m10 (fun b hb => .inl hb))
      have HAT := Lib.hid (show (Value.slice (some ⟨g5, 0, none⟩) (op.length + 1) cap5).ownBlock = (Value.slice A1 op.length c1).ownBlock ∨ ∀ b, (Value.slice (some ⟨g5, 0, none⟩) (op.length + 1) cap5).ownBlock = some b → w.heap.size < b from by
        rcases hat9 with e | e
        · exact .inl e
        · right
          intro b hb
          cases hb
          rw [e]
          show w.heap.size < (w8.alloc _).heap.size
          rw [alloc_size]
          omega)
      clear ho9 hg9 hat9 hBw s3 z3 m10 k0 k1 k2 k3 d3 e3
      generalize w9.setCell ⟨g, 3, none⟩ (.slice (some ⟨g5, 0, none⟩) (op.length + 1) cap5) = w10 at *
      obtain ⟨k0, k1, k2, k3, -, -, -, -⟩ := blk4 hq10
      go_wp2_with fail
      refine (copyReq_any ⟨cl, last + 1, A', n, c', bs, tg⟩ w10 hr10).mono ?_
      rintro e w11 ⟨⟨cl2, num2, A2, n2, c2, bs2, tag2⟩, rfl, hr2, hl2, hb11⟩
      have hz11 := hz10.all hb11
      have HC11 := Lib.hid (hC10.all hb11)
      have HM11 := Lib.hid (HM10.out.then_below hb11)
      have HL2 := Lib.hid hl2
      have HR2 := Lib.hid hr2
      clear hb11 hC10 hr10 hq10 hz10 hl2 hr2 k0 k1 k2 k3
      unfold Rq.val
      dsimp only
      obtain ⟨y0, y1, y2, y3, v0, v1, v2, v3⟩ := blk4 hz11
      go_wp2
      obtain ⟨-, m12⟩ := blk_set4 hz11 (.int .i64 cl2) (.int .i64 num2) (.slice A2 n2 c2) (.int .u64 tag2)
      have nb : ∀ b, b = w.heap.size → ¬ Ty w11 b 5 := by
        rintro b rfl ht
        exact absurd (Ty.unique hz11.ty ht) (by decide)
      exact bodyPost_ret (v := .tuple #[.agg #[.int .i64 cl2, .int .i64 num2, .slice A2 n2 c2, .int .u64 tag2], .int .i64 0]) (by simp [results, Tryz.results11, go_sem, y0, y1, y2, y3]) rfl
        ⟨⟨cl, last + 1, A', n, c', bs, tg⟩, ⟨cl2, num2, A2, n2, c2, bs2, tag2⟩, _, rfl, HR2.out.mod m12 nb, by rw [HTG.out]; rfl, HL2.out, HC11.out.mod m12 (by
          rintro b (rfl | hb) e
          · have := HC.out.1.lt
            omega
          · rcases HAT.out with h | h
            · rw [h] at hb
              have := (HC.out.2.1.lt b hb).2
              omega
            · have := h b hb
              omega) nb, HM11.out.trans m12 (fun b hb => .inr (by omega)), HAT.out.imp id (fun h b hb => Nat.le_of_lt (h b hb))⟩
end Go.Proofs.YtgepbklpobobbaaGreatDoor
