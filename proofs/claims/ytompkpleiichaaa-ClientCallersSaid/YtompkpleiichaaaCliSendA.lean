/- client: Send of the package and of the reference, told alike. -/
import Derived.Test.YtompkpleiichaaaCliTwo
import Derived.Test.YtompkpleiichaaaCliSend
import Derived.Test.YtompkpleiichaaaCliRef
namespace Go.Proofs.Ytompkpleiichaaa
open Go.RowKit

def sendErr (k n : Nat) : Int := if 65536 < n ∨ 16 ≤ k then 4 else 0
def sendLog (cl key last : Int) (k : Nat) (bs : List UInt8) : Int × Int × List UInt8 × Int := if 65536 < bs.length ∨ 16 ≤ k then (0, 0, [], 0) else (cl, last + 1, bs, tagI key cl (last + 1) (bodyI bs))
def sendOps (cl key last : Int) (L : List (Int × Int × List UInt8 × Int)) (bs : List UInt8) : List (Int × Int × List UInt8 × Int) := if 65536 < bs.length ∨ 16 ≤ L.length then L else L ++ [sendLog cl key last L.length bs]
def sendLast (last : Int) (k n : Nat) : Int := if 65536 < n ∨ 16 ≤ k then last else last + 1
def SendPost (T E : TypeId) (g : Nat) (cl key last : Int) (rv : Value) (op : List Rq) (bs : List UInt8) (w : World) (e : Ending) (w' : World) : Prop :=
  ∃ (r2 : Rq) (rv' : Value) (op' : List Rq), e = .returned (.tuple #[.agg #[.int .i64 r2.cl, .int .i64 r2.num, .slice r2.A r2.n r2.c, .int .u64 r2.tag], .int .i64 (sendErr op.length bs.length)]) ∧ r2.ok w' ∧ r2.log = sendLog cl key last op.length bs ∧ op'.map Rq.log = sendOps cl key last (op.map Rq.log) bs ∧
    CallAt w' T E g cl key (sendLast last op.length bs.length) rv' op' ∧ Mod (CallF g rv) w w' ∧ (rv'.ownBlock = rv.ownBlock ∨ ∀ b, rv'.ownBlock = some b → w.heap.size ≤ b)
theorem SendPost.no {T E : TypeId} {g : Nat} {cl key last : Int} {rv : Value} {op : List Rq} {bs : List UInt8} {w w' : World} {e : Ending} (h : CallAt w T E g cl key last rv op) (hno : 65536 < bs.length ∨ 16 ≤ op.length) (hp : SendNo w e w') : SendPost T E g cl key last rv op bs w e w' := by
  obtain ⟨rfl, hb⟩ := hp
  refine ⟨⟨0, 0, none, 0, 0, [], 0⟩, rv, op, ?_, ⟨Bts.nil _, by decide⟩, ?_, ?_, ?_, Mod.of_below _ hb, .inl rfl⟩
  · unfold sendErr
    rw [if_pos hno]
  · unfold sendLog
    rw [if_pos hno]
    rfl
  · unfold sendOps
    rw [List.length_map, if_pos hno]
  · unfold sendLast
    rw [if_pos hno]
    exact h.all hb
theorem SendPost.yes {T E : TypeId} {g : Nat} {cl key last : Int} {rv : Value} {op : List Rq} {bs : List UInt8} {w w' : World} {e : Ending} (hno : ¬ (65536 < bs.length ∨ 16 ≤ op.length)) (hp : SendYes T E g cl key last rv op bs w e w') : SendPost T E g cl key last rv op bs w e w' := by
  obtain ⟨r, r2, rv', rfl, hok, hr, hr2, hC, hm, hrv⟩ := hp
  refine ⟨r2, rv', op ++ [r], ?_, hok, ?_, ?_, ?_, hm, hrv⟩
  · unfold sendErr
    rw [if_neg hno]
    rfl
  · unfold sendLog
    rw [if_neg hno, hr2, hr]
  · unfold sendOps sendLog
    rw [List.length_map, if_neg hno, if_neg hno, List.map_append, List.map_cons, List.map_nil, hr]
  · unfold sendLast
    rw [if_neg hno]
    exact hC
theorem sendP_any (g : Nat) (cl key last : Int) (rv : Value) (op : List Rq) (A : Option Addr) (n c : Nat) (bs : List UInt8) (w : World) (HC : Hid (CallAt w 89 32 g cl key last rv op)) (h0 : 0 ≤ last) (h1 : last ≤ 4611686018427387904) (HB : Hid (Bts w A n c bs)) :
    Calls Try.prog 12 #[.pointer (some ⟨g, 0, none⟩), .slice A n c] w (SendPost 89 32 g cl key last rv op bs w) := by
  have hl := HB.out.1
  by_cases hno : 65536 < bs.length ∨ 16 ≤ op.length
  · exact (send_no g cl key last rv op A n c w HC (by omega)).mono fun e w' hp => SendPost.no HC.out hno hp
  · exact (send_yes g cl key last rv op A n c bs w HC h0 h1 (by omega) (by omega) HB).mono fun e w' hp => SendPost.yes hno hp
theorem sendR_any (g : Nat) (cl key last : Int) (rv : Value) (op : List Rq) (A : Option Addr) (n c : Nat) (bs : List UInt8) (w : World) (HC : Hid (CallAt w 63 37 g cl key last rv op)) (h0 : 0 ≤ last) (h1 : last ≤ 4611686018427387904) (HB : Hid (Bts w A n c bs)) :
    Calls Try.prog 33 #[.pointer (some ⟨g, 0, none⟩), .slice A n c] w (SendPost 63 37 g cl key last rv op bs w) := by
  have hl := HB.out.1
  by_cases hno : 65536 < bs.length ∨ 16 ≤ op.length
  · exact (rsend_no g cl key last rv op A n c w HC (by omega)).mono fun e w' hp => SendPost.no HC.out hno hp
  · exact (rsend_yes g cl key last rv op A n c bs w HC h0 h1 (by omega) (by omega) HB).mono fun e w' hp => SendPost.yes hno hp
theorem sendOps_len (cl key last : Int) (L : List (Int × Int × List UInt8 × Int)) (bs : List UInt8) (h : L.length ≤ 16) : (sendOps cl key last L bs).length ≤ 16 := by
  unfold sendOps
  split
  · exact h
  · rw [List.length_append]
    simp
    omega
theorem gotNew_len (last : Int) (L : List (Int × Int × List UInt8 × Int)) (num : Int) (n : Nat) (h : L.length ≤ 16) : (gotNew last L num n).length ≤ 16 := by
  unfold gotNew
  split
  · exact Nat.le_trans (List.length_eraseP_le ..) h
  · exact h
theorem Two.new {W w : World} {g : Nat} {cl key : Int} (hC : CallAt w 89 32 g cl key 0 (.slice none 0 0) []) (hb : Below W.heap.size W w) (hg : W.heap.size ≤ g) :
    Two W (w.alloc (.cells #[.int .i64 cl, .int .u64 key, .int .i64 0, .slice none 0 0] 63)) g w.heap.size cl key 0 0 (.slice none 0 0) [] (.slice none 0 0) [] := by
  have h1 := (Below.refl w.heap.size w).alloc (Nat.le_refl _) (.cells #[.int .i64 cl, .int .u64 key, .int .i64 0, .slice none 0 0] 63)
  have hs := hb.size
  refine ⟨hC.all h1, ⟨Blk.new _ _ _, World.ownsRow_nil _ _ _ _, by simp⟩, bt hb h1, ?_, ?_⟩
  · rintro b (e | e)
    · omega
    · simp [Value.ownBlock] at e
  · rintro b (e | e)
    · omega
    · simp [Value.ownBlock] at e
end Go.Proofs.Ytompkpleiichaaa
