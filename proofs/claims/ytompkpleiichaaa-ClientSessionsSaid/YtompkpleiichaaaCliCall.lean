/- client: requests, a Caller: Call, Send, Again. -/
import Derived.Test.YtompkpleiichaaaCliTag
import Derived.Test.YtompkpleiichaaaFrame2
import Derived.Deep.RegionHeld3
namespace Go.Proofs.Ytompkpleiichaaa
open Go.RowKit

theorem flat_length {α : Type} (f : α → List Value) (size : Nat) (hf : ∀ x, (f x).length = size) (l : List α) : (l.flatMap f).length = l.length * size := by
  induction l with
  | nil => simp
  | cons x l ih => rw [List.flatMap_cons, List.length_append, hf, ih, List.length_cons, Nat.succ_mul, Nat.add_comm]
theorem flat_at {α : Type} (f : α → List Value) (size : Nat) (hf : ∀ x, (f x).length = size) (l : List α) : ∀ (k i : Nat) (hk : k < l.length) (_ : i < size), (l.flatMap f)[k * size + i]? = (f l[k])[i]? := by
  induction l with
  | nil => intro k i hk; simp at hk
  | cons x l ih =>
    intro k i hk hi
    rw [List.flatMap_cons]
    rcases k with _ | k
    · rw [Nat.zero_mul, Nat.zero_add, List.getElem?_append_left (by rw [hf]; exact hi)]
      rfl
    · rw [List.getElem?_append_right (by rw [hf, Nat.succ_mul]; omega), hf, show (k + 1) * size + i - size = k * size + i by rw [Nat.succ_mul]; omega]
      exact ih k i (by simpa using hk) hi
theorem alloc_size (w : World) (o : Obj) : (w.alloc o).heap.size = w.heap.size + 1 := by simp
theorem blk4 {w : World} {g : Nat} {t : TypeId} {a b c d : Value} (h : Blk w g t #[a, b, c, d]) :
    w.cell? ⟨g, 0, none⟩ = some a ∧ w.cell? ⟨g, 1, none⟩ = some b ∧ w.cell? ⟨g, 2, none⟩ = some c ∧ w.cell? ⟨g, 3, none⟩ = some d ∧
    w.frozen? ⟨g, 0, none⟩ = false ∧ w.frozen? ⟨g, 1, none⟩ = false ∧ w.frozen? ⟨g, 2, none⟩ = false ∧ w.frozen? ⟨g, 3, none⟩ = false :=
  ⟨h.cell 0, h.cell 1, h.cell 2, h.cell 3, h.frozen 0, h.frozen 1, h.frozen 2, h.frozen 3⟩

/-- A request: its numbers, its bytes as a slice, its tag. -/
structure Rq where
  cl : Int
  num : Int
  A : Option Addr
  n : Nat
  c : Nat
  bs : List UInt8
  tag : Int
def Rq.cells (r : Rq) : List Value := [.int .i64 r.cl, .int .i64 r.num, .slice r.A r.n r.c, .int .u64 r.tag]
def Rq.val (r : Rq) : Value := .agg #[.int .i64 r.cl, .int .i64 r.num, .slice r.A r.n r.c, .int .u64 r.tag]
def Rq.ok (w : World) (r : Rq) : Prop := Bts w r.A r.n r.c r.bs ∧ r.n ≤ 1048576
def Rq.log (r : Rq) : Int × Int × List UInt8 × Int := (r.cl, r.num, r.bs, r.tag)
theorem Rq.cells_length (r : Rq) : r.cells.length = 4 := rfl
theorem Rq.ok.mod {F : Nat → Prop} {w w' : World} {r : Rq} (h : r.ok w) (m : Mod F w w') (hF : ∀ b, F b → ¬ Ty w b 5) : r.ok w' := ⟨h.1.mod m hF, h.2⟩
theorem Rq.ok.all {w w' : World} {r : Rq} (h : r.ok w) (m : Below w.heap.size w w') : r.ok w' := ⟨h.1.all m, h.2⟩

/-- What a call returns: a request alike to r. -/
def RqPost (L : Int × Int × List UInt8 × Int) (w : World) (e : Ending) (w' : World) : Prop := ∃ r : Rq, e = .returned r.val ∧ r.ok w' ∧ r.log = L ∧ Below w.heap.size w w'
set_option maxRecDepth 100000 in
theorem copyReq_any (r : Rq) (w : World) (hr : r.ok w) : Calls Try.prog 49 #[r.val] w (RqPost r.log w) := by
  obtain ⟨cl, num, A, n, c, bs, tag⟩ := r
  obtain ⟨hB, hn⟩ := hr
  have HL := Lib.hid hB.1
  have hR := hB.rd
  dsimp only at hB hn HL hR
  unfold Rq.val
  dsimp only
  go_enter Try.func49, Try.ntmps49
  go_wp2_with fail
  have b2 := (Blk.new w 32 #[.int .i64 cl, .int .i64 num, .slice A n c, .int .u64 tag]).alloc (.cells #[.int .i64 0, .int .i64 0, .slice none 0 0, .int .u64 0] 32)
  have b3 := Blk.new (w.alloc (.cells #[.int .i64 cl, .int .i64 num, .slice A n c, .int .u64 tag] 32)) 32 #[.int .i64 0, .int .i64 0, .slice none 0 0, .int .u64 0]
  have hb2 := ((Below.refl w.heap.size w).alloc (Nat.le_refl _) (.cells #[.int .i64 cl, .int .i64 num, .slice A n c, .int .u64 tag] 32)).alloc (by simp) (.cells #[.int .i64 0, .int .i64 0, .slice none 0 0, .int .u64 0] 32)
  refine (cloneB_any A n c bs _ HL (by omega) (hR.all hb2)).mono ?_
  rintro e w3 ⟨A', c', rfl, hB3, hb3⟩
  replace b2 := b2.all hb3
  replace b3 := b3.all hb3
  have hb := Lib.hid (bt hb2 hb3)
  rw [alloc_size] at b3
  clear hb2 hb3 hR hB
  obtain ⟨c0, c1, c2, c3, f0, f1, f2, f3⟩ := blk4 b2
  obtain ⟨d0, d1, d2, d3, e0, e1, e2, e3⟩ := blk4 b3
  go_wp2
  refine bodyPost_ret (v := .agg #[.int .i64 cl, .int .i64 num, .slice A' n c', .int .u64 tag]) (by simp [results, Try.results49, go_sem, d0, d1, d2, d3]) rfl ⟨⟨cl, num, A', n, c', bs, tag⟩, rfl, ⟨hB3.mod (F := fun b => b = w.heap.size ∨ b = w.heap.size + 1) (by repeat (first | with_reducible exact Mod.refl _ _ | refine Mod.set ?_ (by simp) _)) ?_, hn⟩, rfl, ?_⟩
  · rintro b (rfl | rfl) h
    · exact absurd (Ty.unique h b2.ty) (by decide)
    · exact absurd (Ty.unique h b3.ty) (by decide)
  · repeat (first | with_reducible exact hb.out | refine Below.setCell ?_ (by simp) _)

/-- A Caller at block g: its open requests lie in a row of its own. (T: the type of the struct; E: of a request: the package's and the reference's are laid alike.) -/
def CallAt (w : World) (T E : TypeId) (g : Nat) (cl key last : Int) (rv : Value) (op : List Rq) : Prop :=
  Blk w g T #[.int .i64 cl, .int .u64 key, .int .i64 last, rv] ∧ w.ownsRow 0 E 4 rv op.length (op.flatMap Rq.cells) ∧ ∀ r ∈ op, r.ok w
def CallF (g : Nat) (rv : Value) (b : Nat) : Prop := b = g ∨ rv.ownBlock = some b
section
variable {w w' : World} {T E : TypeId} {g : Nat} {cl key last : Int} {rv : Value} {op : List Rq} {F : Nat → Prop}
theorem CallAt.noB (h : CallAt w T E g cl key last rv op) (hT : T ≠ 5) (hE : E ≠ 5) : ∀ b, CallF g rv b → ¬ Ty w b 5 := by
  rintro b (rfl | hb) ht
  · exact hT (Ty.unique h.1.ty ht)
  · exact hE (Ty.unique (Ty.of_own h.2.1 hb) ht)
theorem CallAt.mod (h : CallAt w T E g cl key last rv op) (m : Mod F w w') (hF : ∀ b, CallF g rv b → ¬ F b) (hB : ∀ b, F b → ¬ Ty w b 5) : CallAt w' T E g cl key last rv op :=
  ⟨m.blk h.1 (hF g (.inl rfl)), m.own h.2.1 (fun b hb => hF b (.inr hb)), fun r hr => (h.2.2 r hr).mod m hB⟩
theorem CallAt.all (h : CallAt w T E g cl key last rv op) (m : Below w.heap.size w w') : CallAt w' T E g cl key last rv op := h.mod (F := fun _ => False) (Mod.of_below _ m) (fun _ _ hf => hf) (fun _ hf => hf.elim)
theorem CallAt.ltF (h : CallAt w T E g cl key last rv op) : ∀ b, CallF g rv b → b < w.heap.size := by
  rintro b (rfl | hb)
  · exact h.1.lt
  · exact (h.2.1.lt b hb).2
end
theorem slT_req : SlT Try.prog 71 32 4 48 := SlT.of Try.underlying71 (by kernel_rfl) (by decide)
set_option maxRecDepth 100000 in
theorem call_any (cl key : Int) (w : World) : Calls Try.prog 10 #[.int .i64 cl, .int .u64 key] w fun e w' => ∃ g, e = .returned (.pointer (some ⟨g, 0, none⟩)) ∧ w.heap.size ≤ g ∧ CallAt w' 89 32 g cl key 0 (.slice none 0 0) [] ∧ Below w.heap.size w w' := by
  go_enter Try.func10, Try.ntmps10
  go_wp2
  go_ret
  exact ⟨_, rfl, Nat.le_refl _, ⟨Blk.new _ _ _, World.ownsRow_nil _ _ _ _, by simp⟩, (Below.refl _ _).alloc (Nat.le_refl _) _⟩

/-- Send refuses. -/
def SendNo (w : World) (e : Ending) (w' : World) : Prop := e = .returned (.tuple #[.agg #[.int .i64 0, .int .i64 0, .slice none 0 0, .int .u64 0], .int .i64 4]) ∧ Below w.heap.size w w'
/-- Send sends: the request is added to the open ones, and one alike is returned. -/
def SendYes (T E : TypeId) (g : Nat) (cl key last : Int) (rv : Value) (op : List Rq) (bs : List UInt8) (w : World) (e : Ending) (w' : World) : Prop :=
  ∃ (r r2 : Rq) (rv' : Value), e = .returned (.tuple #[r2.val, .int .i64 0]) ∧ r2.ok w' ∧ r.log = (cl, last + 1, bs, tagI key cl (last + 1) (bodyI bs)) ∧ r2.log = r.log ∧ CallAt w' T E g cl key (last + 1) rv' (op ++ [r]) ∧ Mod (CallF g rv) w w' ∧
    (rv'.ownBlock = rv.ownBlock ∨ ∀ b, rv'.ownBlock = some b → w.heap.size ≤ b)
set_option maxRecDepth 100000 in
theorem send_no (g : Nat) (cl key last : Int) (rv : Value) (op : List Rq) (A : Option Addr) (n c : Nat) (w : World) (HC : Hid (CallAt w 89 32 g cl key last rv op)) (hno : 65536 < n ∨ (n ≤ 65536 ∧ 16 ≤ op.length)) :
    Calls Try.prog 12 #[.pointer (some ⟨g, 0, none⟩), .slice A n c] w (SendNo w) := by
  obtain ⟨A1, n1, c1, hrv⟩ : ∃ A1 n1 c1, rv = .slice A1 n1 c1 ∧ n1 = op.length := by
    rcases HC.out.2.1.2 with ⟨h, h0⟩ | ⟨g1, cap, cur, h, _⟩
    · exact ⟨_, _, _, h, h0.symm⟩
    · exact ⟨_, _, _, h, rfl⟩
  obtain ⟨rfl, HN⟩ := hrv
  have hB := Blk.alloc HC.out.1 (.cells #[.int .i64 0, .int .i64 0, .slice none 0 0, .int .u64 0] 32)
  have c3 := (blk4 hB).2.2.2.1
  rcases hno with h | ⟨h, h'⟩
  · have h' : (65536 : Int) < (n : Int) := by omega
    clear HN
    go_enter Try.func12, Try.ntmps12
    go_wp2
    exact bodyPost_ret (v := .tuple #[.agg #[.int .i64 0, .int .i64 0, .slice none 0 0, .int .u64 0], .int .i64 4]) (by simp [results, Try.results12, go_sem]) rfl ⟨rfl, by repeat (first | with_reducible exact (Below.refl _ _).alloc (Nat.le_refl _) _ | refine Below.setCell ?_ (by simp) _)⟩
  · have h'' : ¬ ((65536 : Int) < (n : Int)) := by omega
    have h3 : (16 : Int) ≤ (n1 : Int) := by omega
    clear HN
    go_enter Try.func12, Try.ntmps12
    go_wp2
    exact bodyPost_ret (v := .tuple #[.agg #[.int .i64 0, .int .i64 0, .slice none 0 0, .int .u64 0], .int .i64 4]) (by simp [results, Try.results12, go_sem]) rfl ⟨rfl, by repeat (first | with_reducible exact (Below.refl _ _).alloc (Nat.le_refl _) _ | refine Below.setCell ?_ (by simp) _)⟩
end Go.Proofs.Ytompkpleiichaaa
