/- Open returns the records for which Append returned OK, possibly followed by the record whose Append returned ErrDown (JournalDurable). -/
import Derived.Test.YtldmokjpfnakkaaGJournalDurable7

/- journal: a log, its disk of one file, and what else is kept. -/
namespace Go.Proofs.Ytldmokjpfnakkaa
open Go.RowKit

/-- What stays as it is while a log is written: nothing of it lies in the disk's blocks. -/
def Stab (N5 N6 : Nat) (J : World → Prop) : Prop := ∀ (F : Nat → Prop) (w w' : World), Mod F w w' → (∀ b, F b → (b < N5 ∨ N6 ≤ b) ∧ ¬ Ty w b 23) → J w → J w'
structure LogI (W : World) (N5 N6 g mb gl room : Nat) (num : Int) (off : Bool) (plan : Int) (st : List (Int × List UInt8 × Nat)) (len : Nat) (up : Bool) (J : World → Prop) (w : World) : Prop where
  dsk : ∃ fs, DskAt w g mb room off plan fs ∧ fs.map Fl.log = st ∧ (∀ b, DskF g mb fs b → b < N5 ∨ N6 ≤ b) ∧ (∀ b, DskF g mb fs b → W.heap.size ≤ b) ∧ ¬ DskF g mb fs gl
  log : LogAt w gl g num len up
  glo : W.heap.size ≤ gl ∧ (gl < N5 ∨ N6 ≤ gl)
  n6 : N5 ≤ N6 ∧ N6 ≤ w.heap.size
  below : Below W.heap.size W w
  stab : Stab N5 N6 J
  j : J w
section
variable {W : World} {N5 N6 g mb gl room : Nat} {num : Int} {off : Bool} {plan : Int} {st : List (Int × List UInt8 × Nat)} {len : Nat} {up : Bool} {J : World → Prop} {w w' : World}
theorem LogI.all (h : LogI W N5 N6 g mb gl room num off plan st len up J w) (hb : Below w.heap.size w w') : LogI W N5 N6 g mb gl room num off plan st len up J w' := by
  obtain ⟨⟨fs, h1, h2⟩, h3, h4, h5, h6, h7, h8⟩ := h
  exact ⟨⟨fs, h1.all hb, h2⟩, Blk.all h3 hb, h4, ⟨h5.1, Nat.le_trans h5.2 hb.size⟩, bt h6 hb, h7, h7 (fun _ => False) w w' (Mod.of_below _ hb) (fun _ hf => hf.elim) h8⟩
theorem LogI.glT (h : LogI W N5 N6 g mb gl room num off plan st len up J w) : ¬ Ty w gl 23 := fun ht => absurd (Ty.unique (Blk.ty h.log) ht) (by decide)
/-- What a log's call leaves. -/
theorem LogI.next (h : LogI W N5 N6 g mb gl room num off plan st len up J w) : ∃ fs, DskAt w g mb room off plan fs ∧ fs.map Fl.log = st ∧ ¬ DskF g mb fs gl ∧
    (∀ off' plan' len' up' st' w', LogNext gl g mb room num off' plan' len' up' fs st' w w' → LogI W N5 N6 g mb gl room num off' plan' st' len' up' J w') ∧
    (∀ off' plan' st' w', DskNext g mb room off' plan' fs st' w w' → LogI W N5 N6 g mb gl room num off' plan' st' len up J w') ∧
    (∀ w', LogAt w' gl g num len up → Mod (fun b => b = gl) w w' → LogI W N5 N6 g mb gl room num off plan st len up J w') := by
  obtain ⟨⟨fs, h1, h2, h21, h22, h23⟩, h3, h4, h5, h6, h7, h8⟩ := id h
  have hT : ∀ b, (DskF g mb fs b ∨ b = gl) → (b < N5 ∨ N6 ≤ b) ∧ ¬ Ty w b 23 := by
    rintro b (hb | rfl)
    · exact ⟨h21 b hb, h1.noRow b hb⟩
    · exact ⟨h4.2, h.glT⟩
  have hW : ∀ b, (DskF g mb fs b ∨ b = gl) → W.heap.size ≤ b := by
    rintro b (hb | rfl)
    · exact h22 b hb
    · exact h4.1
  have hw := h6.size
  have hlt := Blk.lt h3
  refine ⟨fs, h1, h2, h23, ?_, ?_, ?_⟩
  · rintro off' plan' len' up' st' w' ⟨fs', k1, k2, k3, m, k5⟩
    have hs := m.size
    refine ⟨⟨fs', k2, k1, fun b hb => ?_, fun b hb => ?_, fun hb => ?_⟩, k3, h4, ⟨h5.1, Nat.le_trans h5.2 m.size⟩, m.below h6 hw hW, h7, h7 _ w w' m hT h8⟩
    · rcases k5 b hb with h | h
      · exact h21 b h
      · exact .inr (by omega)
    · rcases k5 b hb with h | h
      · exact h22 b h
      · omega
    · rcases k5 gl hb with h | h
      · exact h23 h
      · omega
  · rintro off' plan' st' w' ⟨fs', k1, k2, m, k5⟩
    have hs := m.size
    have m' : Mod (fun b => DskF g mb fs b ∨ b = gl) w w' := m.mono (fun b hb => .inl (.inl hb))
    refine ⟨⟨fs', k2, k1, fun b hb => ?_, fun b hb => ?_, fun hb => ?_⟩, m.blk h3 h23, h4, ⟨h5.1, Nat.le_trans h5.2 m.size⟩, m'.below h6 hw hW, h7, h7 _ w w' m' hT h8⟩
    · rcases k5 b hb with h | h
      · exact h21 b h
      · exact .inr (by omega)
    · rcases k5 b hb with h | h
      · exact h22 b h
      · omega
    · rcases k5 gl hb with h | h
      · exact h23 h
      · omega
  · rintro w' k3 m
    have m' : Mod (fun b => DskF g mb fs b ∨ b = gl) w w' := m.mono (fun b hb => .inl (.inr hb))
    exact ⟨⟨fs, h1.mod m (fun b hb e => h23 (e ▸ hb)), h2, h21, h22, h23⟩, k3, h4, ⟨h5.1, Nat.le_trans h5.2 m.size⟩, m'.below h6 hw hW, h7, h7 _ w w' m' hT h8⟩
end
/-- Append while the power is on. -/
theorem lappend_ok (W : World) (N5 N6 g mb gl room : Nat) (num : Int) (plan : Int) (ks : List (List UInt8)) (J : World → Prop) (A : Option Addr) (n c : Nat) (bs : List UInt8) (w : World) (HI : Hid (LogI W N5 N6 g mb gl room num false plan (fileSt num (framesB 0 ks) (framesB 0 ks).length) ks.length true J w)) (hn : n ≤ 65536) (HX : Hid (bs.length = n)) (HR : Hid (Rd w w.heap.size A n (vByte bs))) (hlen : ks.length ≤ 1099511627776) (h1 : 0 ≤ num) (h2 : num < 64) (hroom : (framesB 0 ks).length + (frameB (ks.length : Nat) bs).length ≤ room)
    (HO1 : Hid (failOff false plan = false)) (HO2 : Hid (failOff false (failPlan plan) = false)) :
    Calls Try.prog 32 #[.pointer (some ⟨gl, 0, none⟩), .slice A n c] w fun e w' => e = .returned (.int .i64 0) ∧ LogI W N5 N6 g mb gl room num false (failPlan (failPlan plan)) (fileSt num (framesB 0 (ks ++ [bs])) (framesB 0 (ks ++ [bs])).length) (ks ++ [bs]).length true J w' := by
  obtain ⟨fs, hD, hst, hgl, hN, -, -⟩ := HI.out.next
  refine (logAppend_ok gl g mb room num ks.length plan fs _ A n c bs w (Lib.hid HI.out.log) (Lib.hid hD) hgl hn HX HR hlen h1 h2 (by rw [fileSt_sum hst]; exact hroom) (Lib.hid (fileSt_app hst _)) HO1 HO2).mono ?_
  rintro e w' ⟨rfl, hn'⟩
  refine ⟨rfl, ?_⟩
  have e1 : framesB 0 (ks ++ [bs]) = framesB 0 ks ++ frameB (ks.length : Nat) bs := by rw [framesB_snoc, Nat.zero_add]
  have e2 : syncLog [(num, framesB 0 ks ++ frameB (ks.length : Nat) bs, (framesB 0 ks).length)] = fileSt num (framesB 0 (ks ++ [bs])) (framesB 0 (ks ++ [bs])).length := by
    unfold fileSt
    rw [e1, if_neg (fun h => by
      have h1 := congrArg List.length h
      rw [List.length_append] at h1
      have := frameB_pos (ks.length : Nat) bs
      rw [List.length_nil] at h1
      omega)]
    rfl
  rw [e2] at hn'
  rw [List.length_append]
  exact hN _ _ _ _ _ _ hn'
/-- Append while the power fails. -/
theorem lappend_fail (W : World) (N5 N6 g mb gl room : Nat) (num : Int) (plan : Int) (ks : List (List UInt8)) (J : World → Prop) (A : Option Addr) (n c : Nat) (bs : List UInt8) (w : World) (HI : Hid (LogI W N5 N6 g mb gl room num false plan (fileSt num (framesB 0 ks) (framesB 0 ks).length) ks.length true J w)) (hn : n ≤ 65536) (HX : Hid (bs.length = n)) (HR : Hid (Rd w w.heap.size A n (vByte bs))) (hlen : ks.length ≤ 1099511627776) (h1 : 0 ≤ num) (h2 : num < 64) (hroom : (framesB 0 ks).length + (frameB (ks.length : Nat) bs).length ≤ room)
    (hp : plan = 0 ∨ plan = 1) :
    Calls Try.prog 32 #[.pointer (some ⟨gl, 0, none⟩), .slice A n c] w fun e w' => e = .returned (.int .i64 23) ∧ LogI W N5 N6 g mb gl room num true (-1) (fileSt num (framesB 0 ks ++ frameB (ks.length : Nat) bs) (framesB 0 ks).length) ks.length false J w' := by
  obtain ⟨fs, hD, hst, hgl, hN, -, -⟩ := HI.out.next
  have e2 : [(num, framesB 0 ks ++ frameB (ks.length : Nat) bs, (framesB 0 ks).length)] = fileSt num (framesB 0 ks ++ frameB (ks.length : Nat) bs) (framesB 0 ks).length := by
    unfold fileSt
    rw [if_neg (fun h => by
      have h1 := congrArg List.length h
      rw [List.length_append] at h1
      have := frameB_pos (ks.length : Nat) bs
      rw [List.length_nil] at h1
      omega)]
  have HS := Lib.hid (fileSt_app hst (frameB (ks.length : Nat) bs))
  rw [e2] at HS
  rcases hp with rfl | rfl
  · refine (logAppend_fail1 gl g mb room num ks.length 0 fs _ A n c bs w (Lib.hid HI.out.log) (Lib.hid hD) hgl hn HX HR hlen h1 h2 (by rw [fileSt_sum hst]; exact hroom) HS (Lib.hid rfl)).mono ?_
    rintro e w' ⟨rfl, hn'⟩
    exact ⟨rfl, hN _ _ _ _ _ _ hn'⟩
  · refine (logAppend_fail2 gl g mb room num ks.length 1 fs _ A n c bs w (Lib.hid HI.out.log) (Lib.hid hD) hgl hn HX HR hlen h1 h2 (by rw [fileSt_sum hst]; exact hroom) HS (Lib.hid rfl) (Lib.hid rfl)).mono ?_
    rintro e w' ⟨rfl, hn'⟩
    exact ⟨rfl, hN _ _ _ _ _ _ hn'⟩
/-- Append when the log is down. -/
theorem lappend_down (W : World) (N5 N6 g mb gl room : Nat) (num : Int) (off : Bool) (plan : Int) (st : List (Int × List UInt8 × Nat)) (len : Nat) (J : World → Prop) (A : Option Addr) (n c : Nat) (w : World) (HI : Hid (LogI W N5 N6 g mb gl room num off plan st len false J w)) (hn : n ≤ 65536) :
    Calls Try.prog 32 #[.pointer (some ⟨gl, 0, none⟩), .slice A n c] w fun e w' => e = .returned (.int .i64 23) ∧ LogI W N5 N6 g mb gl room num off plan st len false J w' := by
  obtain ⟨fs, hD, hst, hgl, -, -, hL⟩ := HI.out.next
  refine (logAppend_down gl g num len A n c w (Lib.hid HI.out.log) hn).mono ?_
  rintro e w' ⟨rfl, k3, m⟩
  exact ⟨rfl, hL _ k3 m⟩
theorem larm_any (W : World) (N5 N6 g mb gl room : Nat) (num : Int) (plan : Int) (st : List (Int × List UInt8 × Nat)) (len : Nat) (up : Bool) (J : World → Prop) (n : Int) (w : World) (HI : Hid (LogI W N5 N6 g mb gl room num false plan st len up J w)) (hn : n ≤ 4611686018427387904) :
    Calls Try.prog 37 #[.pointer (some ⟨g, 0, none⟩), .int .i64 n] w fun e w' => e = .returned (.tuple #[]) ∧ LogI W N5 N6 g mb gl room num false (max n (-1)) st len up J w' := by
  obtain ⟨fs, hD, hst, hgl, -, hN, -⟩ := HI.out.next
  refine (arm_any g mb room plan n fs w (Lib.hid hD) hn).mono ?_
  rintro e w' ⟨rfl, k⟩
  rw [hst] at k
  exact ⟨rfl, hN _ _ _ _ k⟩
theorem lcrash_any (W : World) (N5 N6 g mb gl room : Nat) (num : Int) (off : Bool) (plan : Int) (bs : List UInt8) (dur len : Nat) (up : Bool) (J : World → Prop) (A : Option Addr) (n c : Nat) (K : List Int) (flip : Int) (w : World) (HI : Hid (LogI W N5 N6 g mb gl room num off plan (fileSt num bs dur) len up J w)) (h1 : 0 ≤ num) (h2 : num < 64) (HKL : Hid (K.length = n)) (HR : Hid (Rd w w.heap.size A n (vInt K))) (HW : Hid (∀ k ∈ K, -9223372036854775808 ≤ k ∧ k ≤ 9223372036854775807)) (hnc : n ≤ 1000000) (hf1 : -9223372036854775808 ≤ flip) (hf2 : flip ≤ 9223372036854775807) :
    Calls Try.prog 36 #[.pointer (some ⟨g, 0, none⟩), .slice A n c, .int .i64 flip] w fun e w' => e = .returned (.tuple #[]) ∧ LogI W N5 N6 g mb gl room num false (-1) (fileSt num (crashB bs dur K flip) (crashB bs dur K flip).length) len up J w' := by
  obtain ⟨fs, hD, hst, hgl, -, hN, -⟩ := HI.out.next
  obtain ⟨kp, st1, st2, hT, hS⟩ := crash_st hst K flip
  refine (crash_any g mb room off plan fs A n c K flip kp st1 st2 w (Lib.hid hD) (by have := fileSt_len hst; omega) (Lib.hid (fileSt_num hst h1 h2)) HKL HR HW hnc hf1 hf2 (Lib.hid hT)).mono ?_
  rintro e w' ⟨rfl, k⟩
  rw [hS] at k
  exact ⟨rfl, hN _ _ _ _ k⟩
/-- What Open returns. -/
def LOpenPost (W : World) (N5 N6 g mb room : Nat) (num : Int) (rs : List (List UInt8)) (J : World → Prop) (w : World) (e : Ending) (w' : World) : Prop :=
  ∃ gl v L, e = .returned (.tuple #[.pointer (some ⟨gl, 0, none⟩), v, .int .i64 0]) ∧ LsOwn w' w.heap.size v L ∧ bsOf L = rs ∧ (∀ z ∈ L, z.low w.heap.size) ∧ LogI W N5 N6 g mb gl room num false (-1) (fileSt num (framesB 0 rs) (framesB 0 rs).length) rs.length true J w'
theorem lopen_any (W : World) (N5 N6 g mb gl room : Nat) (num : Int) (bs : List UInt8) (dur len : Nat) (up : Bool) (J : World → Prop) (rs : List (List UInt8)) (m : Nat) (w : World) (HI : Hid (LogI W N5 N6 g mb gl room num false (-1) (fileSt num bs dur) len up J w)) (h1 : 0 ≤ num) (h2 : num < 64) (HSC : Hid (ScanIs bs rs m)) :
    Calls Try.prog 30 #[.pointer (some ⟨g, 0, none⟩), .int .i64 num] w (LOpenPost W N5 N6 g mb room num rs J w) := by
  obtain ⟨⟨fs, k1, hst, k21, k22, k23⟩, k3, k4, k5, k6, k7, k8⟩ := id HI.out
  refine (open1_any g mb room fs num bs dur m rs w (Lib.hid k1) (Lib.hid hst) h1 h2 HSC).mono ?_
  rintro e w' ⟨gl', v, L, fs', rfl, q1, q2, q3, q4, q5, q6, q7, q8, q9, q10⟩
  have hs := q8.size
  have hw := k6.size
  refine ⟨gl', v, L, rfl, q3, q4, q5, ⟨⟨fs', q7, q6, fun b hb => ?_, fun b hb => ?_, q10⟩, q2, ⟨by omega, .inr (by omega)⟩, ⟨k5.1, by omega⟩, q8.below k6 hw k22, k7, k7 _ w w' q8 (fun b hb => ⟨k21 b hb, k1.noRow b hb⟩) k8⟩⟩
  · rcases q9 b hb with h | h
    · exact k21 b h
    · exact .inr (by omega)
  · rcases q9 b hb with h | h
    · exact k22 b h
    · omega
/-- A row of byte slices and a byte slice may be kept. -/
theorem stab_ls {N5 N6 : Nat} {vX : Value} {X : List Bz} (hx : ∀ z ∈ X, z.inI N5 N6) : Stab N5 N6 (fun w => LsOwn w N5 vX X) :=
  fun _ _ _ m hF h => h.modT hx m (fun b hb => (hF b hb).2) (fun b h1 h2 hb => by
    have := (hF b hb).1
    omega)
theorem stab_bz {N5 N6 : Nat} {z : Bz} (hx : z.inI N5 N6) : Stab N5 N6 (fun w => z.ok w) :=
  fun _ _ _ m hF h => h.modI hx m (fun b h1 h2 hb => by
    have := (hF b hb).1
    omega)
end Go.Proofs.Ytldmokjpfnakkaa

/- More helpers of worldmintref01: Bound, Has. -/
namespace Go.Proofs.Ytldmokjpfnakkaa
open Go.RowKit

end Go.Proofs.Ytldmokjpfnakkaa

/- journal: small calls. -/
namespace Go.Proofs.Ytldmokjpfnakkaa
open Go.RowKit

def FreshPost (room : Nat) (w : World) (e : Ending) (w' : World) : Prop := ∃ g mb, e = .returned (.pointer (some ⟨g, 0, none⟩)) ∧ w.heap.size ≤ g ∧ w.heap.size ≤ mb ∧ DskAt w' g mb room false (-1) [] ∧ Below w.heap.size w w'
set_option maxRecDepth 100000 in
theorem fresh_any (room : Nat) (w : World) (hr : room ≤ 16777216) :
    Calls Try.prog 29 #[.int .i64 (room : Int)] w (FreshPost room w) := by
  have HN := Lib.hid (newDisk_any room _ rfl w hr)
  clear hr
  go_enter Try.func29, Try.ntmps29
  go_wp2_with fail
  refine HN.out.mono ?_
  rintro e w1 ⟨g, mb, rfl, h1, h2, h3, h4⟩
  have H3 := Lib.hid h3
  clear h3
  go_wp2
  go_ret
  exact ⟨g, mb, rfl, h1, h2, H3.out, h4⟩
theorem llen_any (gl g : Nat) (num : Int) (len : Nat) (up : Bool) (w : World) (HL : Hid (LogAt w gl g num len up)) : Calls Try.prog 33 #[.pointer (some ⟨gl, 0, none⟩)] w fun e w' => e = .returned (.int .i64 (len : Int)) ∧ w = w' := by
  obtain ⟨-, -, h2, -⟩ := HL.out.cells
  go_enter Try.func33, Try.ntmps33
  go_wp2
  go_ret
  exact ⟨rfl, rfl⟩
theorem lup_any (gl g : Nat) (num : Int) (len : Nat) (up : Bool) (w : World) (HL : Hid (LogAt w gl g num len up)) : Calls Try.prog 34 #[.pointer (some ⟨gl, 0, none⟩)] w fun e w' => e = .returned (.bool up) ∧ w = w' := by
  obtain ⟨-, -, -, h3, -⟩ := HL.out.cells
  go_enter Try.func34, Try.ntmps34
  go_wp2
  go_ret
  exact ⟨rfl, rfl⟩
theorem take_next {X : List Bz} {q : Nat} {z : Bz} (hz : X[q]? = some z) : (bsOf X).take (q + 1) = (bsOf X).take q ++ [z.bs] := by
  obtain ⟨hq, rfl⟩ := List.getElem?_eq_some_iff.1 hz
  rw [← List.take_append_getElem (show q < (bsOf X).length by rw [bsOf_length]; exact hq)]
  simp [bsOf]
theorem take_frames {X : List Bz} (hs : ∀ z ∈ X, z.bs.length ≤ 10) (hn : X.length ≤ 6) (q : Nat) (hq : q ≤ X.length) : (framesB 0 ((bsOf X).take q)).length ≤ 50 * q := by
  have := frames_le X hs hn q hq
  unfold bsOf at this ⊢
  rw [List.map_take] at this
  exact this
theorem scan_some (n : Nat) : ∀ (r : List UInt8) (k : Nat), r.length ≤ n → ∃ (l : List (List UInt8)) (r' : List UInt8), r = framesB k l ++ r' ∧ FirstIs ((k + l.length : Nat) : Int) r' none := by
  induction n with
  | zero =>
    intro r k h
    obtain rfl : r = [] := List.eq_nil_of_length_eq_zero (by omega)
    exact ⟨[], [], rfl, first_nil _⟩
  | succ n ih =>
    intro r k h
    by_cases hx : ∃ x t, r = frameB (k : Nat) x ++ t
    · obtain ⟨x, t, rfl⟩ := hx
      have := frameB_pos (k : Nat) x
      rw [List.length_append] at h
      obtain ⟨l, r', h1, h2⟩ := ih t (k + 1) (by omega)
      refine ⟨x :: l, r', by rw [framesB_cons, List.append_assoc, ← h1], ?_⟩
      have e : k + (x :: l).length = k + 1 + l.length := by rw [List.length_cons]; omega
      rw [e]
      exact h2
    · exact ⟨[], r, rfl, fun x t e => hx ⟨x, t, e⟩⟩
theorem scan_any_bs (bs : List UInt8) : ∃ rs, ScanIs bs rs (framesB 0 rs).length := by
  obtain ⟨l, r', h1, h2⟩ := scan_some bs.length bs 0 (Nat.le_refl _)
  rw [Nat.zero_add] at h2
  exact ⟨l, rfl, r', h1, h2⟩
theorem flip_app (a c : List UInt8) (bit : Nat) : ∃ x, flipAt (a ++ c) a.length bit = a ++ c.set (bit / 8) x := by
  unfold flipAt
  rw [List.set_append_right _ _ (by omega), Nat.add_sub_cancel_left]
  exact ⟨_, rfl⟩
/-- A crash leaves what is durable. -/
theorem crash_keep (a b : List UInt8) (K : List Int) (flip : Int) : ∃ rest, crashB (a ++ b) a.length K flip = a ++ rest ∧ rest.length ≤ b.length := by
  have ht : ∀ k, (a ++ b).take (a.length + k) = a ++ b.take k := fun k => by rw [List.take_length_add_append]
  unfold crashB
  rw [ht]
  split
  · obtain ⟨x, hx⟩ := flip_app a (b.take (keptB K (a ++ b).length a.length)) (flip % (8 * ((keptB K (a ++ b).length a.length : Nat) : Int))).toNat
    exact ⟨_, hx, by rw [List.length_set, List.length_take]; omega⟩
  · exact ⟨_, rfl, by rw [List.length_take]; omega⟩
/-- A crash without a turned bit. -/
theorem crash_cut (a b : List UInt8) (K : List Int) : ∃ k, crashB (a ++ b) a.length K (-1) = a ++ b.take k := by
  refine ⟨keptB K (a ++ b).length a.length, ?_⟩
  unfold crashB
  rw [if_neg (by omega), List.take_length_add_append]
end Go.Proofs.Ytldmokjpfnakkaa

/- The walk of JournalDurable. -/
namespace Go.Proofs.Ytldmokjpfnakkaa
open Go.ChangeShapes Go.WideShapes Go.ChangeAt Go.RowKit Go.ChangeMaps

/-- The log while the power may fail: dn records are appended, q were tried. -/
def DurI (W : World) (N5 N6 g mb gl : Nat) (xs : List (List UInt8)) (J : World → Prop) (ks : List (List UInt8)) (q dn tr : Nat) (w : World) : Prop :=
  (dn = q ∧ tr = q ∧ ∃ pl : Nat, LogI W N5 N6 g mb gl 5000 0 false (pl : Int) (fileSt 0 (framesB 0 ks) (framesB 0 ks).length) ks.length true J w) ∨
  (dn < q ∧ tr = dn + 1 ∧ ∃ y, xs[dn]? = some y ∧ LogI W N5 N6 g mb gl 5000 0 true (-1) (fileSt 0 (framesB 0 ks ++ frameB (ks.length : Nat) y) (framesB 0 ks).length) ks.length false J w)
theorem DurI.all {W : World} {N5 N6 g mb gl : Nat} {xs : List (List UInt8)} {J : World → Prop} {ks : List (List UInt8)} {q dn tr : Nat} {w w' : World} (h : DurI W N5 N6 g mb gl xs J ks q dn tr w) (hb : Below w.heap.size w w') : DurI W N5 N6 g mb gl xs J ks q dn tr w' :=
  h.imp (fun ⟨h1, h2, pl, h3⟩ => ⟨h1, h2, pl, h3.all hb⟩) (fun ⟨h1, h2, y, h3, h4⟩ => ⟨h1, h2, y, h3, h4.all hb⟩)
theorem DurI.below {W : World} {N5 N6 g mb gl : Nat} {xs : List (List UInt8)} {J : World → Prop} {ks : List (List UInt8)} {q dn tr : Nat} {w : World} (h : DurI W N5 N6 g mb gl xs J ks q dn tr w) : Below W.heap.size W w :=
  h.elim (fun ⟨_, _, _, h3⟩ => h3.below) (fun ⟨_, _, _, _, h4⟩ => h4.below)
theorem DurI.j {W : World} {N5 N6 g mb gl : Nat} {xs : List (List UInt8)} {J : World → Prop} {ks : List (List UInt8)} {q dn tr : Nat} {w : World} (h : DurI W N5 N6 g mb gl xs J ks q dn tr w) : J w :=
  h.elim (fun ⟨_, _, _, h3⟩ => h3.j) (fun ⟨_, _, _, _, h4⟩ => h4.j)
theorem dlen_any (W : World) (N5 N6 g mb gl : Nat) (xs : List (List UInt8)) (J : World → Prop) (ks : List (List UInt8)) (q dn tr : Nat) (w : World) (HI : Hid (DurI W N5 N6 g mb gl xs J ks q dn tr w)) (HKL : Hid (ks.length = dn)) : Calls Try.prog 33 #[.pointer (some ⟨gl, 0, none⟩)] w fun e w' => e = .returned (.int .i64 (dn : Int)) ∧ w = w' := by
  rw [← HKL.out]
  rcases HI.out with ⟨-, -, pl, h⟩ | ⟨-, -, y, -, h⟩
  · exact llen_any _ _ _ _ _ _ (Lib.hid h.log)
  · exact llen_any _ _ _ _ _ _ (Lib.hid h.log)
theorem dup_any (W : World) (N5 N6 g mb gl : Nat) (xs : List (List UInt8)) (J : World → Prop) (ks : List (List UInt8)) (q dn tr : Nat) (w : World) (HI : Hid (DurI W N5 N6 g mb gl xs J ks q dn tr w)) : Calls Try.prog 34 #[.pointer (some ⟨gl, 0, none⟩)] w fun e w' => e = .returned (.bool ((dn : Int) == (q : Int))) ∧ w = w' := by
  rcases HI.out with ⟨h1, -, pl, h⟩ | ⟨h1, -, y, -, h⟩
  · have : ((dn : Int) == (q : Int)) = true := by rw [beq_iff_eq]; omega
    rw [this]
    exact lup_any _ _ _ _ _ _ (Lib.hid h.log)
  · have : ((dn : Int) == (q : Int)) = false := by rw [beq_eq_false_iff_ne]; omega
    rw [this]
    exact lup_any _ _ _ _ _ _ (Lib.hid h.log)
/-- The log behind the crash. -/
def DurC (W : World) (N5 N6 g mb gl : Nat) (xs : List (List UInt8)) (J : World → Prop) (dn tr : Nat) (w : World) : Prop :=
  ∃ b2 rs ln up, LogI W N5 N6 g mb gl 5000 0 false (-1) (fileSt 0 b2 b2.length) ln up J w ∧ ScanIs b2 rs (framesB 0 rs).length ∧ rs = xs.take rs.length ∧ dn ≤ rs.length ∧ rs.length ≤ tr
theorem dcrash_any (W : World) (N5 N6 g mb gl : Nat) (xs : List (List UInt8)) (J : World → Prop) (ks : List (List UInt8)) (q dn tr : Nat) (A : Option Addr) (n c : Nat) (K : List Int) (w : World) (HI : Hid (DurI W N5 N6 g mb gl xs J ks q dn tr w)) (HKS : Hid (ks = xs.take dn)) (HKL : Hid (ks.length = dn)) (HX : Hid (∀ x ∈ xs, x.length ≤ 10)) (hxl : xs.length ≤ 6) (HN : Hid (K.length = n)) (HR : Hid (Rd w w.heap.size A n (vInt K))) (HW : Hid (∀ k ∈ K, -9223372036854775808 ≤ k ∧ k ≤ 9223372036854775807)) (hnc : n ≤ 1000000) :
    Calls Try.prog 36 #[.pointer (some ⟨g, 0, none⟩), .slice A n c, .int .i64 (-1)] w fun e w' => e = .returned (.tuple #[]) ∧ DurC W N5 N6 g mb gl xs J dn tr w' := by
  rcases HI.out with ⟨h1, h2, pl, h⟩ | ⟨h1, h2, y, hy, h⟩
  · refine (lcrash_any W N5 N6 g mb gl 5000 0 false _ _ _ _ true _ _ _ _ K (-1) _ (Lib.hid h) (by decide) (by decide) HN HR HW hnc (by decide) (by decide)).mono ?_
    rintro e w' ⟨rfl, k⟩
    obtain ⟨m, hm⟩ := crash_cut (framesB 0 ks) [] K
    rw [List.append_nil, List.take_nil, List.append_nil] at hm
    rw [hm] at k
    exact ⟨rfl, _, ks, _, _, k, scan_frames ks, by rw [HKL.out]; exact HKS.out, by rw [HKL.out]; exact Nat.le_refl _, by rw [HKL.out]; omega⟩
  · refine (lcrash_any W N5 N6 g mb gl 5000 0 true _ _ _ _ false _ _ _ _ K (-1) _ (Lib.hid h) (by decide) (by decide) HN HR HW hnc (by decide) (by decide)).mono ?_
    rintro e w' ⟨rfl, k⟩
    obtain ⟨m, hm⟩ := crash_cut (framesB 0 ks) (frameB (ks.length : Nat) y) K
    rw [hm] at k
    obtain ⟨hlt, hy'⟩ := List.getElem?_eq_some_iff.1 hy
    have hyl := HX.out y (by rw [← hy']; exact List.getElem_mem _)
    have hfl := frameB_len (k := (ks.length : Nat)) (bs := y) (by rw [HKL.out]; exact ⟨by omega, by omega⟩) (by omega)
    obtain ⟨rs, hs, hrs⟩ := scan_part ks y m (by omega)
    refine ⟨rfl, _, rs, _, _, k, hs, ?_⟩
    rcases hrs with rfl | rfl
    · exact ⟨by rw [HKL.out]; exact HKS.out, by rw [HKL.out]; exact Nat.le_refl _, by rw [HKL.out]; omega⟩
    · have e : (ks ++ [y]).length = dn + 1 := by rw [List.length_append, HKL.out]; rfl
      refine ⟨?_, by omega, by omega⟩
      rw [e, ← List.take_append_getElem hlt, ← HKS.out, hy']
/-- A byte slice made behind all else is kept from here on. -/
theorem LogI.fresh {W : World} {N5 N6 g mb gl room : Nat} {num : Int} {off : Bool} {plan : Int} {st : List (Int × List UInt8 × Nat)} {len : Nat} {up : Bool} {J : World → Prop} {w w' : World} (h : LogI W N5 N6 g mb gl room num off plan st len up J w) (hb : Below w.heap.size w w') (z : Bz) (hz : z.ok w') (hl : z.low w.heap.size) : LogI W w.heap.size w'.heap.size g mb gl room num off plan st len up (fun w => z.ok w) w' := by
  obtain ⟨⟨fs, h1, h2, h21, h22, h23⟩, h3, h4, h5, h6, h7, h8⟩ := h
  exact ⟨⟨fs, h1.all hb, h2, fun b hb => .inl (h1.ltF b hb), h22, h23⟩, Blk.all h3 hb, ⟨h4.1, .inl (Blk.lt h3)⟩, ⟨hb.size, Nat.le_refl _⟩, bt h6 hb, stab_bz (hz.inI hl), hz⟩

set_option maxRecDepth 100000 in
set_option maxHeartbeats 100000000 in
theorem JournalDurable_walk (W : World) (A0 : Option Addr) (n0 c0 : Nat) (f0 : Nat → Int) (_hA0 : A0 = none → n0 = 0) (_hn0 : n0 ≤ c0) (_hc0 : c0 ≤ 9223372036854775807) (hR0 : Rd W W.heap.size A0 n0 (fun j => .int .i64 (f0 j))) (hw0 : Hid (∀ j, j < n0 → (Lit.int .i64 (f0 j)).wf = true)) (a1 : Int) (ha1 : Hid ((Lit.int .i64 a1).wf = true)) (a2 : Int) (ha2 : Hid ((Lit.int .i64 a2).wf = true)) (A3 : Option Addr) (n3 c3 : Nat) (f3 : Nat → Int) (_hA3 : A3 = none → n3 = 0) (hn3 : n3 ≤ c3) (hc3 : c3 ≤ 9223372036854775807) (hR3 : Rd W W.heap.size A3 n3 (fun j => .int .u8 (f3 j))) (hw3 : Hid (∀ j, j < n3 → (Lit.int .u8 (f3 j)).wf = true)) :
    Calls Try.prog 8 #[.slice A0 n0 c0, .int .i64 a1, .int .i64 a2, .slice A3 n3 c3] W fun e w' => e = .returned (.bool true) ∧ Below W.heap.size W w' := by
  have hb := Below.refl W.heap.size W
  go_enter Try.func8, Try.ntmps8
  clear hb
  go_wp2_with fail
  refine (fresh_any 5000 _ (by decide)).mono ?_
  rintro e w2 ⟨g, mb, rfl, hg2, hmb2, hD2, hb2⟩
  go_wp2_with fail
  refine (open_clean g mb 5000 (-1) [] 0 [] _ (Lib.hid hD2) (by decide) (by decide) (Lib.hid rfl) (Lib.hid rfl)).mono ?_
  rintro e w3 ⟨gl, v3, L3, fs3, rfl, hgl3, hL3, hv3, hbs3, -, hst3, hD3, m3, hF3, hng3⟩
  replace hst3 : fs3.map Fl.log = [] := hst3
  obtain rfl : fs3 = [] := by simpa using hst3
  replace hD3 : DskAt w3 g mb 5000 false (-1) [] := hD3
  replace hL3 : LogAt w3 gl g 0 0 true := hL3
  have hbl3 : ∀ b, DskF g mb [] b → b = g ∨ b = mb := by
    rintro b (e | e | ⟨f, hf, -⟩)
    · exact .inl e
    · exact .inr e
    · cases hf
  have hB3 : Below W.heap.size W w3 := m3.below hb2 hb2.size (fun b hb => (hbl3 b hb).elim (fun e => e ▸ hg2) (fun e => e ▸ hmb2))
  have hw2 := hb2.size
  obtain ⟨Az, cz, rfl⟩ := hv3.slice
  clear hst3 hv3 hbs3 m3 hF3 hD2 hb2
  obtain ⟨bit1, bit2⟩ := wf_i64 ha1.out
  obtain ⟨bit3, bit4⟩ := wf_i64 ha2.out
  go_wp2_with fail
  refine (around_nat a1 13 _ _ rfl bit1 bit2 (by decide) (by decide)).mono ?_
  rintro e w4 ⟨p, rfl, hp, -, rfl⟩
  go_wp2_with fail
  refine (arm_any g mb 5000 (-1) (p : Int) [] _ (Lib.hid hD3) (by omega)).mono ?_
  rintro e w5 ⟨rfl, fs5, hst5, hD5, m5, hF5⟩
  obtain rfl : fs5 = [] := by simpa using hst5
  replace hD5 : DskAt w5 g mb 5000 false (p : Int) [] := by
    have e : max (p : Int) (-1) = (p : Int) := by omega
    rw [e] at hD5
    exact hD5
  have hL5 : LogAt w5 gl g 0 0 true := m5.blk hL3 hng3
  have hB5 : Below W.heap.size W w5 := m5.below hB3 hB3.size (fun b hb => (hbl3 b hb).elim (fun e => e ▸ hg2) (fun e => e ▸ hmb2))
  have hs5 := m5.size
  clear hst5 m5 hF5 hD3 hL3 hB3
  go_wp2_with fail
  refine (records2_any _ _ _ f0 _ (hR0.all hB5) (by omega) (Lib.hid (fun j hj => wf_i64 (hw0.out j hj)))).mono ?_
  rintro e w6 ⟨v6, X, rfl, hX6, hrs6, hb6, hlow6⟩
  obtain ⟨A10, c10, rfl⟩ := hX6.slice
  have hlx : X.length ≤ 6 := by rw [← bsOf_length, hrs6, recsOf_len]; omega
  have HSM : Hid (∀ z ∈ X, z.bs.length ≤ 10) := Lib.hid (fun z hz => recsOf_small n0 f0 z.bs (by rw [← hrs6]; exact List.mem_map.2 ⟨z, hz, rfl⟩))
  obtain ⟨nx, hnx⟩ : ∃ nx, X.length = nx := ⟨_, rfl⟩
  have hI6 : LogI W w5.heap.size w6.heap.size g mb gl 5000 0 false (p : Int) (fileSt 0 (framesB 0 []) (framesB 0 []).length) 0 true (fun w => LsOwn w w5.heap.size (.slice A10 X.length c10) X) w6 := ⟨⟨[], hD5.all hb6, rfl, fun b hb => .inl (hD5.ltF b hb), fun b hb => (hbl3 b hb).elim (fun e => e ▸ hg2) (fun e => e ▸ hmb2), hng3⟩, Blk.all hL5 hb6, ⟨by omega, .inl (Blk.lt hL5)⟩, ⟨hb6.size, Nat.le_refl _⟩, bt hB5 hb6, stab_ls (fun z hz => (hX6.2 z hz).inI (hlow6 z hz)), hX6⟩
  rw [hnx] at hI6 ⊢ hlx
  have HI6 := Lib.hid (show DurI W w5.heap.size w6.heap.size g mb gl (bsOf X) (fun w => LsOwn w w5.heap.size (.slice A10 nx c10) X) [] 0 0 0 w6 from .inl ⟨rfl, rfl, p, hI6⟩)
  have HNX := Lib.hid hnx
  generalize w5.heap.size = N5 at *
  clear hD5 hL5 hng3 hbl3 hB5 hw2 hs5 hgl3 hX6 hrs6 hlow6 hb6 hI6 hnx hg2 hmb2
  obtain ⟨N6, hN6⟩ : ∃ N6, w6.heap.size = N6 := ⟨_, rfl⟩
  rw [hN6] at HI6
  clear hN6 hp
  go_wp2
  --@1
  go_loopw [14, 15, 16] (fun v14 v15 v16 wr => ∃ (q dn tr : Nat) (ks : List (List UInt8)), q ≤ nx ∧ dn ≤ q ∧ tr ≤ q ∧ v14 = .int .i64 (dn : Int) ∧ v15 = .int .i64 (tr : Int) ∧ v16 = .int .i64 (q : Int) ∧ Hid (ks = (bsOf X).take dn) ∧ Hid (ks.length = dn) ∧ Hid (DurI W N5 N6 g mb gl (bsOf X) (fun w => LsOwn w N5 (.slice A10 nx c10) X) ks q dn tr wr)) (fun _ _ i _ => nx - (intOf i).toNat)
  case atStart => exact ⟨0, 0, 0, [], by omega, by omega, by omega, rfl, rfl, rfl, Lib.hid (by simp), Lib.hid rfl, HI6⟩
  case round =>
    obtain ⟨q, dn, tr, ks, hq, hdn, htr, rfl, rfl, rfl, HKS, HKL, HI⟩ := hrel
    by_cases hlt : q < nx
    · have hXs := HI.out.j
      obtain ⟨b, off, z, hbe, hbl, hcz, hz, hrz⟩ := (LsOwnR.rd (m := nx) hXs.r).cell hlt
      have HZ := Lib.hid hz
      have HZN := Lib.hid hrz.len
      have HZR := Lib.hid hrz.rd
      have hzn : z.n ≤ 10 := by
        have := HSM.out z (List.mem_of_getElem? hz)
        have := hrz.len
        omega
      have hfr1 := take_frames HSM.out (by rw [HNX.out]; exact hlx) dn (by rw [HNX.out]; omega)
      rw [← HKS.out] at hfr1
      have hfr2 := frameB_len (k := (ks.length : Nat)) (bs := z.bs) (by rw [HKL.out]; exact ⟨by omega, by omega⟩) (by rw [HZN.out]; omega)
      rw [HZN.out] at hfr2
      have HY : Hid ((bsOf X)[q]? = some z.bs) := Lib.hid (bsOf_get hz)
      subst hbe
      clear hXs hrz hz
      rcases HI.out with ⟨e1, e2, pl, hI⟩ | ⟨e1, e2, y, hy, hI⟩
      · subst e1 e2
        have HI2 := Lib.hid hI
        clear hI HI
        by_cases hpl : pl ≤ 1
        · go_wp2_with fail
          refine (lappend_fail W N5 N6 g mb gl 5000 0 _ ks _ _ _ _ z.bs _ HI2 (by omega) HZN HZR (by rw [HKL.out]; omega) (by decide) (by decide) (by omega) (by omega)).mono ?_
          rintro e w7 ⟨rfl, hI7⟩
          have HI7 := Lib.hid (show DurI W N5 N6 g mb gl (bsOf X) (fun w => LsOwn w N5 (.slice (some ⟨b, off, none⟩) nx c10) X) ks (tr + 1) tr (tr + 1) w7 from .inr ⟨by omega, rfl, z.bs, HY.out, hI7⟩)
          clear hI7 hcz HI2
          go_wp2
          exact ⟨⟨tr + 1, tr, tr + 1, ks, by omega, by omega, by omega, rfl, by go_num, by go_num, HKS, HKL, HI7⟩, by simp [intOf]; omega⟩
        · have HO1 : Hid (failOff false (pl : Int) = false) := Lib.hid (by unfold failOff; rw [Bool.false_or, beq_eq_false_iff_ne]; omega)
          have HFP : Hid (failPlan (pl : Int) = (pl : Int) - 1) := Lib.hid (by unfold failPlan; rw [if_pos (by omega)])
          have HO2 : Hid (failOff false (failPlan (pl : Int)) = false) := Lib.hid (by rw [HFP.out]; unfold failOff; rw [Bool.false_or, beq_eq_false_iff_ne]; omega)
          have HFP2 : Hid (failPlan (failPlan (pl : Int)) = ((pl - 2 : Nat) : Int)) := Lib.hid (by rw [HFP.out]; unfold failPlan; rw [if_pos (by omega)]; omega)
          go_wp2_with fail
          refine (lappend_ok W N5 N6 g mb gl 5000 0 _ ks _ _ _ _ z.bs _ HI2 (by omega) HZN HZR (by rw [HKL.out]; omega) (by decide) (by decide) (by omega) HO1 HO2).mono ?_
          rintro e w7 ⟨rfl, hI7⟩
          rw [HFP2.out] at hI7
          have HI7 := Lib.hid (show DurI W N5 N6 g mb gl (bsOf X) (fun w => LsOwn w N5 (.slice (some ⟨b, off, none⟩) nx c10) X) (ks ++ [z.bs]) (tr + 1) (tr + 1) (tr + 1) w7 from .inl ⟨rfl, rfl, pl - 2, hI7⟩)
          have HKS7 : Hid (ks ++ [z.bs] = (bsOf X).take (tr + 1)) := Lib.hid (by rw [take_next HZ.out, HKS.out])
          have HKL7 : Hid ((ks ++ [z.bs]).length = tr + 1) := Lib.hid (by rw [List.length_append, HKL.out]; rfl)
          clear hI7 hcz HI2
          go_wp2
          exact ⟨⟨tr + 1, tr + 1, tr + 1, ks ++ [z.bs], by omega, by omega, by omega, by go_num, by go_num, by go_num, HKS7, HKL7, HI7⟩, by simp [intOf]; omega⟩
      · subst e2
        have HY2 := Lib.hid hy
        have HI2 := Lib.hid hI
        have hne : ¬ ((dn : Int) = (q : Int)) := by omega
        clear hI HI hy
        go_wp2_with fail
        refine (lappend_down W N5 N6 g mb gl 5000 0 true (-1) _ _ _ _ _ _ _ HI2 (by omega)).mono ?_
        rintro e w7 ⟨rfl, hI7⟩
        have HI7 := Lib.hid (show DurI W N5 N6 g mb gl (bsOf X) (fun w => LsOwn w N5 (.slice (some ⟨b, off, none⟩) nx c10) X) ks (q + 1) dn (dn + 1) w7 from .inr ⟨by omega, rfl, y, HY2.out, hI7⟩)
        clear hI7 hcz HI2
        go_wp2
        exact ⟨⟨q + 1, dn, dn + 1, ks, by omega, by omega, by omega, rfl, by go_num, by go_num, HKS, HKL, HI7⟩, by simp [intOf]; omega⟩
    · --@2
      obtain rfl : q = nx := by omega
      go_wp2_with fail
      refine (dlen_any W N5 N6 g mb gl _ _ ks _ dn tr _ HI HKL).mono ?_
      rintro e w7 ⟨rfl, rfl⟩
      go_wp2_with fail
      refine (dup_any W N5 N6 g mb gl _ _ ks _ dn tr _ HI).mono ?_
      rintro e w7 ⟨rfl, rfl⟩
      have HI8 := Lib.hid (HI.out.all ((Below.refl wr.heap.size wr).alloc (Nat.le_refl _) (.cells #[.int .i64 a2] 3)))
      have HR8 := Lib.hid (rd_lit1 wr 3 a2)
      clear HI
      have HXS : Hid (∀ x ∈ bsOf X, x.length ≤ 10) := Lib.hid (fun x hx => by
        obtain ⟨z, hz, rfl⟩ := List.mem_map.1 hx
        exact HSM.out z hz)
      go_wp2_with fail
      --@25
      refine (dcrash_any W N5 N6 g mb gl _ _ ks q dn tr _ _ _ [a2] _ HI8 HKS HKL HXS (by rw [bsOf_length, HNX.out]; exact hlx) (Lib.hid rfl) (Lib.hid (by have := HR8.out; rw [← World.size_alloc (w := wr) (o := .cells #[.int .i64 a2] 3)] at this; exact this)) (Lib.hid (by simp; exact ⟨bit3, bit4⟩)) (by simp)).mono ?_
      rintro e w9 ⟨rfl, b2, rs, ln, up, hI9, hsc, hrs, hr1, hr2⟩
      obtain ⟨rl, hrl⟩ : ∃ rl, rs.length = rl := ⟨_, rfl⟩
      rw [hrl] at hr1 hr2 hrs
      have HRL := Lib.hid hrl
      have HRS := Lib.hid hrs
      have HI9 := Lib.hid hI9
      have HSC := Lib.hid hsc
      have hrq : rl ≤ q := by omega
      have hd1 : ¬ ((rl : Int) < (dn : Int)) := by omega
      have hd2 : ¬ ((tr : Int) < (rl : Int)) := by omega
      have hfr1 : (framesB 0 rs).length ≤ 300 := by
        have := take_frames HSM.out (by rw [HNX.out]; exact hlx) rl (by rw [HNX.out]; exact hrq)
        rw [HRS.out]
        omega
      clear hrl hrs hI9 hsc HI8 HR8 HKS HKL
      --@3
      go_wp2_with fail
      refine (lopen_any W N5 N6 g mb gl 5000 0 _ _ _ _ _ rs _ _ HI9 (by decide) (by decide) HSC).mono ?_
      rintro e w10 ⟨gl2, v10, L10, rfl, hL10, hbs10, -, hI10⟩
      obtain ⟨A11, c11, rfl⟩ := hL10.slice
      have hl10 : L10.length = rl := by rw [← bsOf_length, hbs10, HRL.out]
      rw [hl10] at hL10 ⊢
      have hlr := LsOwnR.rd (m := rl) hL10.r
      have hx10 := LsOwnR.rd (m := q) hI10.j.r
      have hcx := hx10.2.1
      have hcc : (rl : Int) ≤ (c10 : Int) := by omega
      have HT := Lib.hid hlr
      have HX10 := Lib.hid (hx10.take hrq)
      have HEQ : Hid (decide (bsOf L10 = bsOf (X.take rl)) = true) := Lib.hid (by
        rw [decide_eq_true_iff, hbs10]
        conv => lhs; rw [HRS.out]
        unfold bsOf
        rw [List.map_take])
      have HI10 := Lib.hid hI10
      clear hL10 hbs10 hl10 hlr hx10 hI10 HI9 HSC
      go_wp2_with fail
      refine (sameLists_any _ _ _ _ _ _ L10 (X.take rl) _ HT HX10 (by omega) (by omega)).mono ?_
      rintro e w11 ⟨rfl, hb11⟩
      rw [HEQ.out]
      have HI11 := Lib.hid (HI10.out.all hb11)
      clear hb11 HI10 HT HX10 HEQ
      --@4
      go_wp2_with fail
      refine (llen_any _ _ _ _ _ _ (Lib.hid HI11.out.log)).mono ?_
      rintro e w12 ⟨rfl, rfl⟩
      rw [HRL.out]
      have hR12 := rd_list (hR3.all HI11.out.below) (fun j hj => wf_u8 (hw3.out j hj))
      go_wp2_with fail
      refine (few_bytes _ _ _ 50 _ rfl ((List.range n3).map fun j => UInt8.ofNat (f3 j).toNat) _ (Lib.hid (by simp)) hR12 hn3 hc3 (by decide)).mono ?_
      rintro e w13 ⟨A13, c13, k13, bs13, rfl, -, -, hk13, -, HL13, -, hown13, hR13, hb13⟩
      have HI13 := Lib.hid (HI11.out.fresh hb13 ⟨A13, k13, c13, bs13⟩ (Bts.of_own hown13).1 (Bz.low_own hown13))
      have hfr2 := frameB_len (k := (rs.length : Nat)) (bs := bs13) (by rw [HRL.out]; exact ⟨by omega, by omega⟩) (by rw [HL13.out]; omega)
      rw [HL13.out] at hfr2
      generalize w11.heap.size = N7 at *
      obtain ⟨N8, hN8⟩ : ∃ N8, w13.heap.size = N8 := ⟨_, rfl⟩
      have HR13 := Lib.hid hR13
      rw [hN8] at HI13
      clear hN8 hb13 hown13 HI11 hR12 hR13
      go_wp2_with fail
      refine (lappend_ok W N7 N8 g mb gl2 5000 0 (-1) rs _ _ _ _ bs13 _ HI13 (by omega) HL13 HR13 (by rw [HRL.out]; omega) (by decide) (by decide) (by omega) (Lib.hid rfl) (Lib.hid rfl)).mono ?_
      rintro e w14 ⟨rfl, hI14⟩
      have HI14 := Lib.hid hI14
      clear hI14 HI13 HR13
      --@5
      go_wp2_with fail
      refine (lopen_any W N7 N8 g mb gl2 5000 0 _ _ _ _ _ (rs ++ [bs13]) _ _ HI14 (by decide) (by decide) (Lib.hid (scan_frames _))).mono ?_
      rintro e w15 ⟨gl3, v15, L15, rfl, hL15, hbs15, -, hI15⟩
      obtain ⟨A15, c15, rfl⟩ := hL15.slice
      have hl15 : L15.length = rl + 1 := by rw [← bsOf_length, hbs15, List.length_append, HRL.out]; rfl
      rw [hl15] at hL15 ⊢
      have hlr := LsOwnR.rd (m := rl + 1) hL15.r
      obtain ⟨b15, o15, z15, rfl, -, hc15, hz15, hzr15⟩ := hlr.cell (k := rl) (by omega)
      have HZB : Hid (z15.bs = bs13) := Lib.hid (by
        have h1 := bsOf_get hz15
        rw [hbs15, ← HRL.out, List.getElem?_concat_length] at h1
        injection h1 with h1
        exact h1.symm)
      have HZ15 := Lib.hid hzr15
      have HB15 := Lib.hid hI15.below
      have HJ15 := Lib.hid (Bts.rd hI15.j)
      have hzn : z15.n ≤ 50 := by
        have := hzr15.len
        rw [HZB.out, HL13.out] at this
        omega
      clear hL15 hbs15 hl15 hlr hz15 hzr15 hI15 HI14
      go_wp2_with fail
      refine (sameBytes_true _ _ _ _ _ _ z15.bs bs13 _ HZB.out (Lib.hid HZ15.out.len) HL13 HZ15.out.rd HJ15.out (by omega) (by omega)).mono ?_
      rintro e w16 ⟨rfl, hb16⟩
      have HB16 := Lib.hid (bt HB15.out hb16)
      clear hb16
      go_wp2_with fail
      refine (jlives_any _).mono ?_
      rintro e w17 ⟨rfl, hb17⟩
      go_wp2
      go_ret
      exact ⟨rfl, bt HB16.out hb17⟩

end Go.Proofs.Ytldmokjpfnakkaa

/- Open returns the records for which Append returned OK, possibly followed by the record whose Append returned ErrDown (JournalDurable). -/
namespace Go.Proofs.Ytldmokjpfnakkaa
open Go.ChangeShapes Go.WideShapes Go.ChangeAt Go.RowKit Go.ChangeMaps

set_option maxRecDepth 100000 in
theorem JournalDurable_lifted (os : Os) (started : os.Started) (H : Type) (enc : TypeId × Value → H) :
    ReturnsInHanded {} Try.checked os 8 .any (Rows.journalDurableSpec.pre6 enc Try.prog Try.f8 Rows.journalDurableRow.domain false) (Rows.journalDurableSpec.post enc Try.prog Try.f8 false true false false) := by
  refine returnsInHanded_of_change (C := Try.checked) Try.own started (by kernel_rfl) Try.func8
    (ChangeSpec.witness6 (enc := enc) (C := Try.checked) false ⟨#[], #[.slice none 0 0, .int .i64 0, .int .i64 0, .slice none 0 0], []⟩ 8 (by kernel_rfl) (by kernel_rfl) (by kernel_rfl) (by kernel_rfl)) ?_
  intro W base args ds gs before hval0 hW _ _
  have hval : ∀ (j : Nat) t v, Try.f8.params[j]? = some t → args[j]? = some v → Value.okWide Try.prog W .any base t v := hval0
  have hW' := hW
  obtain ⟨p, q, hT0, hV, rfl, hfz, hnd⟩ := hW
  have hT : DataW.TrodAll enc Try.prog W 0 (fun _ => true) true Try.f8.params.toList args.toList ds p := hT0
  rw [Try.params8] at hT hval
  obtain ⟨v0, vs0, d0, ds0, p0, q0, hargs0, rfl, rfl, h0, r0⟩ := trodAll_cons hT
  obtain ⟨v1, vs1, d1, ds1, p1, q1, hargs1, rfl, rfl, h1, r1⟩ := trodAll_cons r0
  obtain ⟨v2, vs2, d2, ds2, p2, q2, hargs2, rfl, rfl, h2, r2⟩ := trodAll_cons r1
  obtain ⟨v3, vs3, d3, ds3, p3, q3, hargs3, rfl, rfl, h3, r3⟩ := trodAll_cons r2
  obtain ⟨rfl, rfl, rfl⟩ := trodAll_nil r3
  obtain rfl : args = #[v0, v1, v2, v3] := by cases args; simp_all
  obtain ⟨A0, n0, c0, f0, rfl, hA0, hn0, hc0, hR0, hw0⟩ := open_sl Try.underlying22 Try.underlying3 (by kernel_rfl) (hval 0 22 v0 rfl rfl) h0
  obtain ⟨a1, rfl, -, -, w1⟩ := open_int Try.underlying3 (hval 1 3 v1 rfl rfl) h1
  obtain ⟨a2, rfl, -, -, w2⟩ := open_int Try.underlying3 (hval 2 3 v2 rfl rfl) h2
  obtain ⟨A3, n3, c3, f3, rfl, hA3, hn3, hc3, hR3, hw3⟩ := open_sl Try.underlying23 Try.underlying5 (by kernel_rfl) (hval 3 23 v3 rfl rfl) h3
  refine (JournalDurable_walk W A0 n0 c0 f0 hA0 hn0 hc0 hR0 hw0 a1 w1 a2 w2 A3 n3 c3 f3 hA3 hn3 hc3 hR3 hw3).mono fun e W' ⟨he, hb⟩ => ?_
  subst he
  exact ⟨_, rfl, law_post Try.laidOut (by kernel_rfl) (by kernel_rfl) Try.underlying4 rfl hW' rfl hb⟩

theorem JournalDurable_holds : Rows.JournalDurableSaid :=
  OpenClaim.holds_of_wide 8 Try.f8 rfl rfl rfl rfl rfl rfl rfl ⟨rfl, rfl, rfl, rfl, rfl⟩ rfl rfl rfl rfl rfl (by kernel_rfl) Try.func8 (by kernel_rfl)
    (of_decide_eq_true (by kernel_rfl)) (by unfold Func.isWrapper; first | (rw [if_pos (by decide +kernel)]; kernel_rfl) | (rw [if_neg (by decide +kernel)]; exact ⟨rfl, rfl⟩))
    (fun os started H enc _ => JournalDurable_lifted os started H enc)

end Go.Proofs.Ytldmokjpfnakkaa
