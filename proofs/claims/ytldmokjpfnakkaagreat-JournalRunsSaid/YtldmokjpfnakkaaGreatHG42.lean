/- journal: a log, its disk of one file, and what else is kept. -/
import Derived.Test.YtldmokjpfnakkaaGreatHG41
import Derived.Test.YtldmokjpfnakkaaGreatHG2
import Derived.Test.YtldmokjpfnakkaaGreatHLaw

namespace Go.Proofs.YtldmokjpfnakkaaGreat
open Go.RowKit

/-- What stays as it is while a log is written: nothing of it lies in the disk's blocks. -/
def Stab (N5 N6 : Nat) (J : World → Prop) : Prop := ∀ (F : Nat → Prop) (w w' : World), Mod F w w' → (∀ b, F b → (b < N5 ∨ N6 ≤ b) ∧ ¬ Ty w b 39) → J w → J w'
structure LogI (W : World) (N5 N6 g mb gl room : Nat) (num : Int) (off : Bool) (plan : Int) (st : List (Int × List UInt8 × Nat)) (len : Nat) (up : Bool) (J : World → Prop) (w : World) : Prop where
  dsk : ∃ fs, DskAt w g mb room off plan fs ∧ fs.map Fl.log = st ∧ (∀ b, DskF g mb fs b → b < N5 ∨ N6 ≤ b) ∧ (∀ b, DskF g mb fs b → W.heap.size ≤ b) ∧ ¬ DskF g mb fs gl
  log : LogAt w gl g num len up
  glo : W.heap.size ≤ gl ∧ (gl < N5 ∨ N6 ≤ gl)
  n6 : N5 ≤ N6 ∧ N6 ≤ w.heap.size
  below : Below W.heap.size W w
  stab : Stab N5 N6 J
  j : J w
section
variable {W : World} {N5 N6 g mb gl room : Nat} {num : Int} {off : Bool} {plan : Int} {st : List (Int × List UInt8 × Nat)} {len : Nat} {up : Bool} {J : World → Prop} {w w' : World}
theorem LogI.all (h : LogI W N5 N6 g mb gl room num off plan st len up J w) (hb : Below w.heap.size w w') : LogI W N5 N6 g mb gl room num off plan st len up J w' := by
  obtain ⟨⟨fs, h1, h2⟩, h3, h4, h5, h6, h7, h8⟩ := h
  exact ⟨⟨fs, h1.all hb, h2⟩, Blk.all h3 hb, h4, ⟨h5.1, Nat.le_trans h5.2 hb.size⟩, bt h6 hb, h7, h7 (fun _ => False) w w' (Mod.of_below _ hb) (fun _ hf => hf.elim) h8⟩
theorem LogI.glT (h : LogI W N5 N6 g mb gl room num off plan st len up J w) : ¬ Ty w gl 39 := fun ht => absurd (Ty.unique (Blk.ty h.log) ht) (by decide)
/-- What a log's call leaves. -/
theorem LogI.next (h : LogI W N5 N6 g mb gl room num off plan st len up J w) : ∃ fs, DskAt w g mb room off plan fs ∧ fs.map Fl.log = st ∧ ¬ DskF g mb fs gl ∧
    (∀ off' plan' len' up' st' w', LogNext gl g mb room num off' plan' len' up' fs st' w w' → LogI W N5 N6 g mb gl room num off' plan' st' len' up' J w') ∧
    (∀ off' plan' st' w', DskNext g mb room off' plan' fs st' w w' → LogI W N5 N6 g mb gl room num off' plan' st' len up J w') ∧
    (∀ w', LogAt w' gl g num len up → Mod (fun b => b = gl) w w' → LogI W N5 N6 g mb gl room num off plan st len up J w') := by
  obtain ⟨⟨fs, h1, h2, h21, h22, h23⟩, h3, h4, h5, h6, h7, h8⟩ := id h
  have hT : ∀ b, (DskF g mb fs b ∨ b = gl) → (b < N5 ∨ N6 ≤ b) ∧ ¬ Ty w b 39 := by
    rintro b (hb | rfl)
    · exact ⟨h21 b hb, h1.noRow b hb⟩
    · exact ⟨h4.2, h.glT⟩
  have hW : ∀ b, (DskF g mb fs b ∨ b = gl) → W.heap.size ≤ b := by
    rintro b (hb | rfl)
    · exact h22 b hb
    · exact h4.1
  have hw := h6.size
  have hlt := Blk.lt h3
  refine ⟨fs, h1, h2, h23, ?_, ?_, ?_⟩
  · rintro off' plan' len' up' st' w' ⟨fs', k1, k2, k3, m, k5⟩
    have hs := m.size
    refine ⟨⟨fs', k2, k1, fun b hb => ?_, fun b hb => ?_, fun hb => ?_⟩, k3, h4, ⟨h5.1, Nat.le_trans h5.2 m.size⟩, m.below h6 hw hW, h7, h7 _ w w' m hT h8⟩
    · rcases k5 b hb with h | h
      · exact h21 b h
      · exact .inr (by omega)
    · rcases k5 b hb with h | h
      · exact h22 b h
      · omega
    · rcases k5 gl hb with h | h
      · exact h23 h
      · omega
  · rintro off' plan' st' w' ⟨fs', k1, k2, m, k5⟩
    have hs := m.size
    have m' : Mod (fun b => DskF g mb fs b ∨ b = gl) w w' := m.mono (fun b hb => .inl (.inl hb))
    refine ⟨⟨fs', k2, k1, fun b hb => ?_, fun b hb => ?_, fun hb => ?_⟩, m.blk h3 h23, h4, ⟨h5.1, Nat.le_trans h5.2 m.size⟩, m'.below h6 hw hW, h7, h7 _ w w' m' hT h8⟩
    · rcases k5 b hb with h | h
      · exact h21 b h
      · exact .inr (by omega)
    · rcases k5 b hb with h | h
      · exact h22 b h
      · omega
    · rcases k5 gl hb with h | h
      · exact h23 h
      · omega
  · rintro w' k3 m
    have m' : Mod (fun b => DskF g mb fs b ∨ b = gl) w w' := m.mono (fun b hb => .inl (.inr hb))
    exact ⟨⟨fs, h1.mod m (fun b hb e => h23 (e ▸ hb)), h2, h21, h22, h23⟩, k3, h4, ⟨h5.1, Nat.le_trans h5.2 m.size⟩, m'.below h6 hw hW, h7, h7 _ w w' m' hT h8⟩
end
/-- Append while the power is on. -/
theorem lappend_ok (W : World) (N5 N6 g mb gl room : Nat) (num : Int) (plan : Int) (ks : List (List UInt8)) (J : World → Prop) (A : Option Addr) (n c : Nat) (bs : List UInt8) (w : World) (HI : Hid (LogI W N5 N6 g mb gl room num false plan (fileSt num (framesB 0 ks) (framesB 0 ks).length) ks.length true J w)) (hn : n ≤ 65536) (HX : Hid (bs.length = n)) (HR : Hid (Rd w w.heap.size A n (vByte bs))) (hlen : ks.length ≤ 1099511627776) (h1 : 0 ≤ num) (h2 : num < 64) (hroom : (framesB 0 ks).length + (frameB (ks.length : Nat) bs).length ≤ room)
    (HO1 : Hid (failOff false plan = false)) (HO2 : Hid (failOff false (failPlan plan) = false)) :
    Calls Tryz.prog 15 #[.pointer (some ⟨gl, 0, none⟩), .slice A n c] w fun e w' => e = .returned (.int .i64 0) ∧ LogI W N5 N6 g mb gl room num false (failPlan (failPlan plan)) (fileSt num (framesB 0 (ks ++ [bs])) (framesB 0 (ks ++ [bs])).length) (ks ++ [bs]).length true J w' := by
  obtain ⟨fs, hD, hst, hgl, hN, -, -⟩ := HI.out.next
  refine (logAppend_ok gl g mb room num ks.length plan fs _ A n c bs w (Lib.hid HI.out.log) (Lib.hid hD) hgl hn HX HR hlen h1 h2 (by rw [fileSt_sum hst]; exact hroom) (Lib.hid (fileSt_app hst _)) HO1 HO2).mono ?_
  rintro e w' ⟨rfl, hn'⟩
  refine ⟨rfl, ?_⟩
  have e1 : framesB 0 (ks ++ [bs]) = framesB 0 ks ++ frameB (ks.length : Nat) bs := by rw [framesB_snoc, Nat.zero_add]
  have e2 : syncLog [(num, framesB 0 ks ++ frameB (ks.length : Nat) bs, (framesB 0 ks).length)] = fileSt num (framesB 0 (ks ++ [bs])) (framesB 0 (ks ++ [bs])).length := by
    unfold fileSt
    rw [e1, if_neg (fun h => by
      have h1 := congrArg List.length h
      rw [List.length_append] at h1
      have := frameB_pos (ks.length : Nat) bs
      rw [List.length_nil] at h1
      omega)]
    rfl
  rw [e2] at hn'
  rw [List.length_append]
  exact hN _ _ _ _ _ _ hn'
/-- Append while the power fails. -/
theorem lappend_fail (W : World) (N5 N6 g mb gl room : Nat) (num : Int) (plan : Int) (ks : List (List UInt8)) (J : World → Prop) (A : Option Addr) (n c : Nat) (bs : List UInt8) (w : World) (HI : Hid (LogI W N5 N6 g mb gl room num false plan (fileSt num (framesB 0 ks) (framesB 0 ks).length) ks.length true J w)) (hn : n ≤ 65536) (HX : Hid (bs.length = n)) (HR : Hid (Rd w w.heap.size A n (vByte bs))) (hlen : ks.length ≤ 1099511627776) (h1 : 0 ≤ num) (h2 : num < 64) (hroom : (framesB 0 ks).length + (frameB (ks.length : Nat) bs).length ≤ room)
    (hp : plan = 0 ∨ plan = 1) :
    Calls Tryz.prog 15 #[.pointer (some ⟨gl, 0, none⟩), .slice A n c] w fun e w' => e = .returned (.int .i64 23) ∧ LogI W N5 N6 g mb gl room num true (-1) (fileSt num (framesB 0 ks ++ frameB (ks.length : Nat) bs) (framesB 0 ks).length) ks.length false J w' := by
  obtain ⟨fs, hD, hst, hgl, hN, -, -⟩ := HI.out.next
  have e2 : [(num, framesB 0 ks ++ frameB (ks.length : Nat) bs, (framesB 0 ks).length)] = fileSt num (framesB 0 ks ++ frameB (ks.length : Nat) bs) (framesB 0 ks).length := by
    unfold fileSt
    rw [if_neg (fun h => by
      have h1 := congrArg List.length h
      rw [List.length_append] at h1
      have := frameB_pos (ks.length : Nat) bs
      rw [List.length_nil] at h1
      omega)]
  have HS := Lib.hid (fileSt_app hst (frameB (ks.length : Nat) bs))
  rw [e2] at HS
  rcases hp with rfl | rfl
  · refine (logAppend_fail1 gl g mb room num ks.length 0 fs _ A n c bs w (Lib.hid HI.out.log) (Lib.hid hD) hgl hn HX HR hlen h1 h2 (by rw [fileSt_sum hst]; exact hroom) HS (Lib.hid rfl)).mono ?_
    rintro e w' ⟨rfl, hn'⟩
    exact ⟨rfl, hN _ _ _ _ _ _ hn'⟩
  · refine (logAppend_fail2 gl g mb room num ks.length 1 fs _ A n c bs w (Lib.hid HI.out.log) (Lib.hid hD) hgl hn HX HR hlen h1 h2 (by rw [fileSt_sum hst]; exact hroom) HS (Lib.hid rfl) (Lib.hid rfl)).mono ?_
    rintro e w' ⟨rfl, hn'⟩
    exact ⟨rfl, hN _ _ _ _ _ _ hn'⟩
/-- Append when the log is down. -/
theorem lappend_down (W : World) (N5 N6 g mb gl room : Nat) (num : Int) (off : Bool) (plan : Int) (st : List (Int × List UInt8 × Nat)) (len : Nat) (J : World → Prop) (A : Option Addr) (n c : Nat) (w : World) (HI : Hid (LogI W N5 N6 g mb gl room num off plan st len false J w)) (hn : n ≤ 65536) :
    Calls Tryz.prog 15 #[.pointer (some ⟨gl, 0, none⟩), .slice A n c] w fun e w' => e = .returned (.int .i64 23) ∧ LogI W N5 N6 g mb gl room num off plan st len false J w' := by
  obtain ⟨fs, hD, hst, hgl, -, -, hL⟩ := HI.out.next
  refine (logAppend_down gl g num len A n c w (Lib.hid HI.out.log) hn).mono ?_
  rintro e w' ⟨rfl, k3, m⟩
  exact ⟨rfl, hL _ k3 m⟩
theorem larm_any (W : World) (N5 N6 g mb gl room : Nat) (num : Int) (plan : Int) (st : List (Int × List UInt8 × Nat)) (len : Nat) (up : Bool) (J : World → Prop) (n : Int) (w : World) (HI : Hid (LogI W N5 N6 g mb gl room num false plan st len up J w)) (hn : n ≤ 4611686018427387904) :
    Calls Tryz.prog 9 #[.pointer (some ⟨g, 0, none⟩), .int .i64 n] w fun e w' => e = .returned (.tuple #[]) ∧ LogI W N5 N6 g mb gl room num false (max n (-1)) st len up J w' := by
  obtain ⟨fs, hD, hst, hgl, -, hN, -⟩ := HI.out.next
  refine (arm_any g mb room plan n fs w (Lib.hid hD) hn).mono ?_
  rintro e w' ⟨rfl, k⟩
  rw [hst] at k
  exact ⟨rfl, hN _ _ _ _ k⟩
theorem lcrash_any (W : World) (N5 N6 g mb gl room : Nat) (num : Int) (off : Bool) (plan : Int) (bs : List UInt8) (dur len : Nat) (up : Bool) (J : World → Prop) (A : Option Addr) (n c : Nat) (K : List Int) (flip : Int) (w : World) (HI : Hid (LogI W N5 N6 g mb gl room num off plan (fileSt num bs dur) len up J w)) (h1 : 0 ≤ num) (h2 : num < 64) (HKL : Hid (K.length = n)) (HR : Hid (Rd w w.heap.size A n (vInt K))) (HW : Hid (∀ k ∈ K, -9223372036854775808 ≤ k ∧ k ≤ 9223372036854775807)) (hnc : n ≤ 1000000) (hf1 : -9223372036854775808 ≤ flip) (hf2 : flip ≤ 9223372036854775807) :
    Calls Tryz.prog 11 #[.pointer (some ⟨g, 0, none⟩), .slice A n c, .int .i64 flip] w fun e w' => e = .returned (.tuple #[]) ∧ LogI W N5 N6 g mb gl room num false (-1) (fileSt num (crashB bs dur K flip) (crashB bs dur K flip).length) len up J w' := by
  obtain ⟨fs, hD, hst, hgl, -, hN, -⟩ := HI.out.next
  obtain ⟨kp, st1, st2, hT, hS⟩ := crash_st hst K flip
  refine (crash_any g mb room off plan fs A n c K flip kp st1 st2 w (Lib.hid hD) (by have := fileSt_len hst; omega) (Lib.hid (fileSt_num hst h1 h2)) HKL HR HW hnc hf1 hf2 (Lib.hid hT)).mono ?_
  rintro e w' ⟨rfl, k⟩
  rw [hS] at k
  exact ⟨rfl, hN _ _ _ _ k⟩
/-- What Open returns. -/
def LOpenPost (W : World) (N5 N6 g mb room : Nat) (num : Int) (rs : List (List UInt8)) (J : World → Prop) (w : World) (e : Ending) (w' : World) : Prop :=
  ∃ gl v L, e = .returned (.tuple #[.pointer (some ⟨gl, 0, none⟩), v, .int .i64 0]) ∧ LsOwn w' w.heap.size v L ∧ bsOf L = rs ∧ (∀ z ∈ L, z.low w.heap.size) ∧ LogI W N5 N6 g mb gl room num false (-1) (fileSt num (framesB 0 rs) (framesB 0 rs).length) rs.length true J w'
theorem lopen_any (W : World) (N5 N6 g mb gl room : Nat) (num : Int) (bs : List UInt8) (dur len : Nat) (up : Bool) (J : World → Prop) (rs : List (List UInt8)) (m : Nat) (w : World) (HI : Hid (LogI W N5 N6 g mb gl room num false (-1) (fileSt num bs dur) len up J w)) (h1 : 0 ≤ num) (h2 : num < 64) (HSC : Hid (ScanIs bs rs m)) :
    Calls Tryz.prog 7 #[.pointer (some ⟨g, 0, none⟩), .int .i64 num] w (LOpenPost W N5 N6 g mb room num rs J w) := by
  obtain ⟨⟨fs, k1, hst, k21, k22, k23⟩, k3, k4, k5, k6, k7, k8⟩ := id HI.out
  refine (open1_any g mb room fs num bs dur m rs w (Lib.hid k1) (Lib.hid hst) h1 h2 HSC).mono ?_
  rintro e w' ⟨gl', v, L, fs', rfl, q1, q2, q3, q4, q5, q6, q7, q8, q9, q10⟩
  have hs := q8.size
  have hw := k6.size
  refine ⟨gl', v, L, rfl, q3, q4, q5, ⟨⟨fs', q7, q6, fun b hb => ?_, fun b hb => ?_, q10⟩, q2, ⟨by omega, .inr (by omega)⟩, ⟨k5.1, by omega⟩, q8.below k6 hw k22, k7, k7 _ w w' q8 (fun b hb => ⟨k21 b hb, k1.noRow b hb⟩) k8⟩⟩
  · rcases q9 b hb with h | h
    · exact k21 b h
    · exact .inr (by omega)
  · rcases q9 b hb with h | h
    · exact k22 b h
    · omega
/-- A row of byte slices and a byte slice may be kept. -/
theorem stab_ls {N5 N6 : Nat} {vX : Value} {X : List Bz} (hx : ∀ z ∈ X, z.inI N5 N6) : Stab N5 N6 (fun w => LsOwn w N5 vX X) :=
  fun _ _ _ m hF h => h.modT hx m (fun b hb => (hF b hb).2) (fun b h1 h2 hb => by
    have := (hF b hb).1
    omega)
theorem stab_bz {N5 N6 : Nat} {z : Bz} (hx : z.inI N5 N6) : Stab N5 N6 (fun w => z.ok w) :=
  fun _ _ _ m hF h => h.modI hx m (fun b h1 h2 hb => by
    have := (hF b hb).1
    omega)
end Go.Proofs.YtldmokjpfnakkaaGreat

/- More helpers of worldmintref01: Bound, Has. -/
namespace Go.Proofs.YtldmokjpfnakkaaGreat
open Go.RowKit

end Go.Proofs.YtldmokjpfnakkaaGreat

/- journal: small calls. -/
namespace Go.Proofs.YtldmokjpfnakkaaGreat
open Go.RowKit

def FreshPost (room : Nat) (w : World) (e : Ending) (w' : World) : Prop := ∃ g mb, e = .returned (.pointer (some ⟨g, 0, none⟩)) ∧ w.heap.size ≤ g ∧ w.heap.size ≤ mb ∧ DskAt w' g mb room false (-1) [] ∧ Below w.heap.size w w'
set_option maxRecDepth 100000 in
theorem fresh_any (room : Nat) (w : World) (hr : room ≤ 16777216) :
    Calls Tryz.prog 5 #[.int .i64 (room : Int)] w (FreshPost room w) := by
  have HN := Lib.hid (newDisk_any room _ rfl w hr)
  clear hr
  go_enter Tryz.func5, Tryz.ntmps5
  go_wp2_with fail
  refine HN.out.mono ?_
  rintro e w1 ⟨g, mb, rfl, h1, h2, h3, h4⟩
  have H3 := Lib.hid h3
  clear h3
  go_wp2
  go_ret
  exact ⟨g, mb, rfl, h1, h2, H3.out, h4⟩
theorem llen_any (gl g : Nat) (num : Int) (len : Nat) (up : Bool) (w : World) (HL : Hid (LogAt w gl g num len up)) : Calls Tryz.prog 17 #[.pointer (some ⟨gl, 0, none⟩)] w fun e w' => e = .returned (.int .i64 (len : Int)) ∧ w = w' := by
  obtain ⟨-, -, h2, -⟩ := HL.out.cells
  go_enter Tryz.func17, Tryz.ntmps17
  go_wp2
  go_ret
  exact ⟨rfl, rfl⟩
theorem lup_any (gl g : Nat) (num : Int) (len : Nat) (up : Bool) (w : World) (HL : Hid (LogAt w gl g num len up)) : Calls Tryz.prog 18 #[.pointer (some ⟨gl, 0, none⟩)] w fun e w' => e = .returned (.bool up) ∧ w = w' := by
  obtain ⟨-, -, -, h3, -⟩ := HL.out.cells
  go_enter Tryz.func18, Tryz.ntmps18
  go_wp2
  go_ret
  exact ⟨rfl, rfl⟩
theorem take_next {X : List Bz} {q : Nat} {z : Bz} (hz : X[q]? = some z) : (bsOf X).take (q + 1) = (bsOf X).take q ++ [z.bs] := by
  obtain ⟨hq, rfl⟩ := List.getElem?_eq_some_iff.1 hz
  rw [← List.take_append_getElem (show q < (bsOf X).length by rw [bsOf_length]; exact hq)]
  simp [bsOf]
theorem take_frames {X : List Bz} (hs : ∀ z ∈ X, z.bs.length ≤ 10) (hn : X.length ≤ 6) (q : Nat) (hq : q ≤ X.length) : (framesB 0 ((bsOf X).take q)).length ≤ 50 * q := by
  have := frames_le X hs hn q hq
  unfold bsOf at this ⊢
  rw [List.map_take] at this
  exact this
theorem scan_some (n : Nat) : ∀ (r : List UInt8) (k : Nat), r.length ≤ n → ∃ (l : List (List UInt8)) (r' : List UInt8), r = framesB k l ++ r' ∧ FirstIs ((k + l.length : Nat) : Int) r' none := by
  induction n with
  | zero =>
    intro r k h
    obtain rfl : r = [] := List.eq_nil_of_length_eq_zero (by omega)
    exact ⟨[], [], rfl, first_nil _⟩
  | succ n ih =>
    intro r k h
    by_cases hx : ∃ x t, r = frameB (k : Nat) x ++ t
    · obtain ⟨x, t, rfl⟩ := hx
      have := frameB_pos (k : Nat) x
      rw [List.length_append] at h
      obtain ⟨l, r', h1, h2⟩ := ih t (k + 1) (by omega)
      refine ⟨x :: l, r', by rw [framesB_cons, List.append_assoc, ← h1], ?_⟩
      have e : k + (x :: l).length = k + 1 + l.length := by rw [List.length_cons]; omega
      rw [e]
      exact h2
    · exact ⟨[], r, rfl, fun x t e => hx ⟨x, t, e⟩⟩
theorem scan_any_bs (bs : List UInt8) : ∃ rs, ScanIs bs rs (framesB 0 rs).length := by
  obtain ⟨l, r', h1, h2⟩ := scan_some bs.length bs 0 (Nat.le_refl _)
  rw [Nat.zero_add] at h2
  exact ⟨l, rfl, r', h1, h2⟩
theorem flip_app (a c : List UInt8) (bit : Nat) : ∃ x, flipAt (a ++ c) a.length bit = a ++ c.set (bit / 8) x := by
  unfold flipAt
  rw [List.set_append_right _ _ (by omega), Nat.add_sub_cancel_left]
  exact ⟨_, rfl⟩
/-- A crash leaves what is durable. -/
theorem crash_keep (a b : List UInt8) (K : List Int) (flip : Int) : ∃ rest, crashB (a ++ b) a.length K flip = a ++ rest ∧ rest.length ≤ b.length := by
  have ht : ∀ k, (a ++ b).take (a.length + k) = a ++ b.take k := fun k => by rw [List.take_length_add_append]
  unfold crashB
  rw [ht]
  split
  · obtain ⟨x, hx⟩ := flip_app a (b.take (keptB K (a ++ b).length a.length)) (flip % (8 * ((keptB K (a ++ b).length a.length : Nat) : Int))).toNat
    exact ⟨_, hx, by rw [List.length_set, List.length_take]; omega⟩
  · exact ⟨_, rfl, by rw [List.length_take]; omega⟩
/-- A crash without a turned bit. -/
theorem crash_cut (a b : List UInt8) (K : List Int) : ∃ k, crashB (a ++ b) a.length K (-1) = a ++ b.take k := by
  refine ⟨keptB K (a ++ b).length a.length, ?_⟩
  unfold crashB
  rw [if_neg (by omega), List.take_length_add_append]
end Go.Proofs.YtldmokjpfnakkaaGreat
