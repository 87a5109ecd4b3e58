/- The records that were appended stand at the beginning of the log after every crash (JournalInverted). -/
import Derived.Test.YtldmokjpfnakkaaGJournalInverted7

/- journal: a log, its disk of one file, and what else is kept. -/
namespace Go.Proofs.Ytldmokjpfnakkaa
open Go.RowKit

/-- What stays as it is while a log is written: nothing of it lies in the disk's blocks. -/
def Stab (N5 N6 : Nat) (J : World → Prop) : Prop := ∀ (F : Nat → Prop) (w w' : World), Mod F w w' → (∀ b, F b → (b < N5 ∨ N6 ≤ b) ∧ ¬ Ty w b 23) → J w → J w'
structure LogI (W : World) (N5 N6 g mb gl room : Nat) (num : Int) (off : Bool) (plan : Int) (st : List (Int × List UInt8 × Nat)) (len : Nat) (up : Bool) (J : World → Prop) (w : World) : Prop where
  dsk : ∃ fs, DskAt w g mb room off plan fs ∧ fs.map Fl.log = st ∧ (∀ b, DskF g mb fs b → b < N5 ∨ N6 ≤ b) ∧ (∀ b, DskF g mb fs b → W.heap.size ≤ b) ∧ ¬ DskF g mb fs gl
  log : LogAt w gl g num len up
  glo : W.heap.size ≤ gl ∧ (gl < N5 ∨ N6 ≤ gl)
  n6 : N5 ≤ N6 ∧ N6 ≤ w.heap.size
  below : Below W.heap.size W w
  stab : Stab N5 N6 J
  j : J w
section
variable {W : World} {N5 N6 g mb gl room : Nat} {num : Int} {off : Bool} {plan : Int} {st : List (Int × List UInt8 × Nat)} {len : Nat} {up : Bool} {J : World → Prop} {w w' : World}
theorem LogI.all (h : LogI W N5 N6 g mb gl room num off plan st len up J w) (hb : Below w.heap.size w w') : LogI W N5 N6 g mb gl room num off plan st len up J w' := by
  obtain ⟨⟨fs, h1, h2⟩, h3, h4, h5, h6, h7, h8⟩ := h
  exact ⟨⟨fs, h1.all hb, h2⟩, Blk.all h3 hb, h4, ⟨h5.1, Nat.le_trans h5.2 hb.size⟩, bt h6 hb, h7, h7 (fun _ => False) w w' (Mod.of_below _ hb) (fun _ hf => hf.elim) h8⟩
theorem LogI.glT (h : LogI W N5 N6 g mb gl room num off plan st len up J w) : ¬ Ty w gl 23 := fun ht => absurd (Ty.unique (Blk.ty h.log) ht) (by decide)
/-- What a log's call leaves. -/
theorem LogI.next (h : LogI W N5 N6 g mb gl room num off plan st len up J w) : ∃ fs, DskAt w g mb room off plan fs ∧ fs.map Fl.log = st ∧ ¬ DskF g mb fs gl ∧
    (∀ off' plan' len' up' st' w', LogNext gl g mb room num off' plan' len' up' fs st' w w' → LogI W N5 N6 g mb gl room num off' plan' st' len' up' J w') ∧
    (∀ off' plan' st' w', DskNext g mb room off' plan' fs st' w w' → LogI W N5 N6 g mb gl room num off' plan' st' len up J w') ∧
    (∀ w', LogAt w' gl g num len up → Mod (fun b => b = gl) w w' → LogI W N5 N6 g mb gl room num off plan st len up J w') := by
  obtain ⟨⟨fs, h1, h2, h21, h22, h23⟩, h3, h4, h5, h6, h7, h8⟩ := id h
  have hT : ∀ b, (DskF g mb fs b ∨ b = gl) → (b < N5 ∨ N6 ≤ b) ∧ ¬ Ty w b 23 := by
    rintro b (hb | rfl)
    · exact ⟨h21 b hb, h1.noRow b hb⟩
    · exact ⟨h4.2, h.glT⟩
  have hW : ∀ b, (DskF g mb fs b ∨ b = gl) → W.heap.size ≤ b := by
    rintro b (hb | rfl)
    · exact h22 b hb
    · exact h4.1
  have hw := h6.size
  have hlt := Blk.lt h3
  refine ⟨fs, h1, h2, h23, ?_, ?_, ?_⟩
  · rintro off' plan' len' up' st' w' ⟨fs', k1, k2, k3, m, k5⟩
    have hs := m.size
    refine ⟨⟨fs', k2, k1, fun b hb => ?_, fun b hb => ?_, fun hb => ?_⟩, k3, h4, ⟨h5.1, Nat.le_trans h5.2 m.size⟩, m.below h6 hw hW, h7, h7 _ w w' m hT h8⟩
    · rcases k5 b hb with h | h
      · exact h21 b h
      · exact .inr (by omega)
    · rcases k5 b hb with h | h
      · exact h22 b h
      · omega
    · rcases k5 gl hb with h | h
      · exact h23 h
      · omega
  · rintro off' plan' st' w' ⟨fs', k1, k2, m, k5⟩
    have hs := m.size
    have m' : Mod (fun b => DskF g mb fs b ∨ b = gl) w w' := m.mono (fun b hb => .inl (.inl hb))
    refine ⟨⟨fs', k2, k1, fun b hb => ?_, fun b hb => ?_, fun hb => ?_⟩, m.blk h3 h23, h4, ⟨h5.1, Nat.le_trans h5.2 m.size⟩, m'.below h6 hw hW, h7, h7 _ w w' m' hT h8⟩
    · rcases k5 b hb with h | h
      · exact h21 b h
      · exact .inr (by omega)
    · rcases k5 b hb with h | h
      · exact h22 b h
      · omega
    · rcases k5 gl hb with h | h
      · exact h23 h
      · omega
  · rintro w' k3 m
    have m' : Mod (fun b => DskF g mb fs b ∨ b = gl) w w' := m.mono (fun b hb => .inl (.inr hb))
    exact ⟨⟨fs, h1.mod m (fun b hb e => h23 (e ▸ hb)), h2, h21, h22, h23⟩, k3, h4, ⟨h5.1, Nat.le_trans h5.2 m.size⟩, m'.below h6 hw hW, h7, h7 _ w w' m' hT h8⟩
end
/-- Append while the power is on. -/
theorem lappend_ok (W : World) (N5 N6 g mb gl room : Nat) (num : Int) (plan : Int) (ks : List (List UInt8)) (J : World → Prop) (A : Option Addr) (n c : Nat) (bs : List UInt8) (w : World) (HI : Hid (LogI W N5 N6 g mb gl room num false plan (fileSt num (framesB 0 ks) (framesB 0 ks).length) ks.length true J w)) (hn : n ≤ 65536) (HX : Hid (bs.length = n)) (HR : Hid (Rd w w.heap.size A n (vByte bs))) (hlen : ks.length ≤ 1099511627776) (h1 : 0 ≤ num) (h2 : num < 64) (hroom : (framesB 0 ks).length + (frameB (ks.length : Nat) bs).length ≤ room)
    (HO1 : Hid (failOff false plan = false)) (HO2 : Hid (failOff false (failPlan plan) = false)) :
    Calls Try.prog 32 #[.pointer (some ⟨gl, 0, none⟩), .slice A n c] w fun e w' => e = .returned (.int .i64 0) ∧ LogI W N5 N6 g mb gl room num false (failPlan (failPlan plan)) (fileSt num (framesB 0 (ks ++ [bs])) (framesB 0 (ks ++ [bs])).length) (ks ++ [bs]).length true J w' := by
  obtain ⟨fs, hD, hst, hgl, hN, -, -⟩ := HI.out.next
  refine (logAppend_ok gl g mb room num ks.length plan fs _ A n c bs w (Lib.hid HI.out.log) (Lib.hid hD) hgl hn HX HR hlen h1 h2 (by rw [fileSt_sum hst]; exact hroom) (Lib.hid (fileSt_app hst _)) HO1 HO2).mono ?_
  rintro e w' ⟨rfl, hn'⟩
  refine ⟨rfl, ?_⟩
  have e1 : framesB 0 (ks ++ [bs]) = framesB 0 ks ++ frameB (ks.length : Nat) bs := by rw [framesB_snoc, Nat.zero_add]
  have e2 : syncLog [(num, framesB 0 ks ++ frameB (ks.length : Nat) bs, (framesB 0 ks).length)] = fileSt num (framesB 0 (ks ++ [bs])) (framesB 0 (ks ++ [bs])).length := by
    unfold fileSt
    rw [e1, if_neg (fun h => by
      have h1 := congrArg List.length h
      rw [List.length_append] at h1
      have := frameB_pos (ks.length : Nat) bs
      rw [List.length_nil] at h1
      omega)]
    rfl
  rw [e2] at hn'
  rw [List.length_append]
  exact hN _ _ _ _ _ _ hn'
/-- Append while the power fails. -/
theorem lappend_fail (W : World) (N5 N6 g mb gl room : Nat) (num : Int) (plan : Int) (ks : List (List UInt8)) (J : World → Prop) (A : Option Addr) (n c : Nat) (bs : List UInt8) (w : World) (HI : Hid (LogI W N5 N6 g mb gl room num false plan (fileSt num (framesB 0 ks) (framesB 0 ks).length) ks.length true J w)) (hn : n ≤ 65536) (HX : Hid (bs.length = n)) (HR : Hid (Rd w w.heap.size A n (vByte bs))) (hlen : ks.length ≤ 1099511627776) (h1 : 0 ≤ num) (h2 : num < 64) (hroom : (framesB 0 ks).length + (frameB (ks.length : Nat) bs).length ≤ room)
    (hp : plan = 0 ∨ plan = 1) :
    Calls Try.prog 32 #[.pointer (some ⟨gl, 0, none⟩), .slice A n c] w fun e w' => e = .returned (.int .i64 23) ∧ LogI W N5 N6 g mb gl room num true (-1) (fileSt num (framesB 0 ks ++ frameB (ks.length : Nat) bs) (framesB 0 ks).length) ks.length false J w' := by
  obtain ⟨fs, hD, hst, hgl, hN, -, -⟩ := HI.out.next
  have e2 : [(num, framesB 0 ks ++ frameB (ks.length : Nat) bs, (framesB 0 ks).length)] = fileSt num (framesB 0 ks ++ frameB (ks.length : Nat) bs) (framesB 0 ks).length := by
    unfold fileSt
    rw [if_neg (fun h => by
      have h1 := congrArg List.length h
      rw [List.length_append] at h1
      have := frameB_pos (ks.length : Nat) bs
      rw [List.length_nil] at h1
      omega)]
  have HS := Lib.hid (fileSt_app hst (frameB (ks.length : Nat) bs))
  rw [e2] at HS
  rcases hp with rfl | rfl
  · refine (logAppend_fail1 gl g mb room num ks.length 0 fs _ A n c bs w (Lib.hid HI.out.log) (Lib.hid hD) hgl hn HX HR hlen h1 h2 (by rw [fileSt_sum hst]; exact hroom) HS (Lib.hid rfl)).mono ?_
    rintro e w' ⟨rfl, hn'⟩
    exact ⟨rfl, hN _ _ _ _ _ _ hn'⟩
  · refine (logAppend_fail2 gl g mb room num ks.length 1 fs _ A n c bs w (Lib.hid HI.out.log) (Lib.hid hD) hgl hn HX HR hlen h1 h2 (by rw [fileSt_sum hst]; exact hroom) HS (Lib.hid rfl) (Lib.hid rfl)).mono ?_
    rintro e w' ⟨rfl, hn'⟩
    exact ⟨rfl, hN _ _ _ _ _ _ hn'⟩
/-- Append when the log is down. -/
theorem lappend_down (W : World) (N5 N6 g mb gl room : Nat) (num : Int) (off : Bool) (plan : Int) (st : List (Int × List UInt8 × Nat)) (len : Nat) (J : World → Prop) (A : Option Addr) (n c : Nat) (w : World) (HI : Hid (LogI W N5 N6 g mb gl room num off plan st len false J w)) (hn : n ≤ 65536) :
    Calls Try.prog 32 #[.pointer (some ⟨gl, 0, none⟩), .slice A n c] w fun e w' => e = .returned (.int .i64 23) ∧ LogI W N5 N6 g mb gl room num off plan st len false J w' := by
  obtain ⟨fs, hD, hst, hgl, -, -, hL⟩ := HI.out.next
  refine (logAppend_down gl g num len A n c w (Lib.hid HI.out.log) hn).mono ?_
  rintro e w' ⟨rfl, k3, m⟩
  exact ⟨rfl, hL _ k3 m⟩
theorem larm_any (W : World) (N5 N6 g mb gl room : Nat) (num : Int) (plan : Int) (st : List (Int × List UInt8 × Nat)) (len : Nat) (up : Bool) (J : World → Prop) (n : Int) (w : World) (HI : Hid (LogI W N5 N6 g mb gl room num false plan st len up J w)) (hn : n ≤ 4611686018427387904) :
    Calls Try.prog 37 #[.pointer (some ⟨g, 0, none⟩), .int .i64 n] w fun e w' => e = .returned (.tuple #[]) ∧ LogI W N5 N6 g mb gl room num false (max n (-1)) st len up J w' := by
  obtain ⟨fs, hD, hst, hgl, -, hN, -⟩ := HI.out.next
  refine (arm_any g mb room plan n fs w (Lib.hid hD) hn).mono ?_
  rintro e w' ⟨rfl, k⟩
  rw [hst] at k
  exact ⟨rfl, hN _ _ _ _ k⟩
theorem lcrash_any (W : World) (N5 N6 g mb gl room : Nat) (num : Int) (off : Bool) (plan : Int) (bs : List UInt8) (dur len : Nat) (up : Bool) (J : World → Prop) (A : Option Addr) (n c : Nat) (K : List Int) (flip : Int) (w : World) (HI : Hid (LogI W N5 N6 g mb gl room num off plan (fileSt num bs dur) len up J w)) (h1 : 0 ≤ num) (h2 : num < 64) (HKL : Hid (K.length = n)) (HR : Hid (Rd w w.heap.size A n (vInt K))) (HW : Hid (∀ k ∈ K, -9223372036854775808 ≤ k ∧ k ≤ 9223372036854775807)) (hnc : n ≤ 1000000) (hf1 : -9223372036854775808 ≤ flip) (hf2 : flip ≤ 9223372036854775807) :
    Calls Try.prog 36 #[.pointer (some ⟨g, 0, none⟩), .slice A n c, .int .i64 flip] w fun e w' => e = .returned (.tuple #[]) ∧ LogI W N5 N6 g mb gl room num false (-1) (fileSt num (crashB bs dur K flip) (crashB bs dur K flip).length) len up J w' := by
  obtain ⟨fs, hD, hst, hgl, -, hN, -⟩ := HI.out.next
  obtain ⟨kp, st1, st2, hT, hS⟩ := crash_st hst K flip
  refine (crash_any g mb room off plan fs A n c K flip kp st1 st2 w (Lib.hid hD) (by have := fileSt_len hst; omega) (Lib.hid (fileSt_num hst h1 h2)) HKL HR HW hnc hf1 hf2 (Lib.hid hT)).mono ?_
  rintro e w' ⟨rfl, k⟩
  rw [hS] at k
  exact ⟨rfl, hN _ _ _ _ k⟩
/-- What Open returns. -/
def LOpenPost (W : World) (N5 N6 g mb room : Nat) (num : Int) (rs : List (List UInt8)) (J : World → Prop) (w : World) (e : Ending) (w' : World) : Prop :=
  ∃ gl v L, e = .returned (.tuple #[.pointer (some ⟨gl, 0, none⟩), v, .int .i64 0]) ∧ LsOwn w' w.heap.size v L ∧ bsOf L = rs ∧ (∀ z ∈ L, z.low w.heap.size) ∧ LogI W N5 N6 g mb gl room num false (-1) (fileSt num (framesB 0 rs) (framesB 0 rs).length) rs.length true J w'
theorem lopen_any (W : World) (N5 N6 g mb gl room : Nat) (num : Int) (bs : List UInt8) (dur len : Nat) (up : Bool) (J : World → Prop) (rs : List (List UInt8)) (m : Nat) (w : World) (HI : Hid (LogI W N5 N6 g mb gl room num false (-1) (fileSt num bs dur) len up J w)) (h1 : 0 ≤ num) (h2 : num < 64) (HSC : Hid (ScanIs bs rs m)) :
    Calls Try.prog 30 #[.pointer (some ⟨g, 0, none⟩), .int .i64 num] w (LOpenPost W N5 N6 g mb room num rs J w) := by
  obtain ⟨⟨fs, k1, hst, k21, k22, k23⟩, k3, k4, k5, k6, k7, k8⟩ := id HI.out
  refine (open1_any g mb room fs num bs dur m rs w (Lib.hid k1) (Lib.hid hst) h1 h2 HSC).mono ?_
  rintro e w' ⟨gl', v, L, fs', rfl, q1, q2, q3, q4, q5, q6, q7, q8, q9, q10⟩
  have hs := q8.size
  have hw := k6.size
  refine ⟨gl', v, L, rfl, q3, q4, q5, ⟨⟨fs', q7, q6, fun b hb => ?_, fun b hb => ?_, q10⟩, q2, ⟨by omega, .inr (by omega)⟩, ⟨k5.1, by omega⟩, q8.below k6 hw k22, k7, k7 _ w w' q8 (fun b hb => ⟨k21 b hb, k1.noRow b hb⟩) k8⟩⟩
  · rcases q9 b hb with h | h
    · exact k21 b h
    · exact .inr (by omega)
  · rcases q9 b hb with h | h
    · exact k22 b h
    · omega
/-- A row of byte slices and a byte slice may be kept. -/
theorem stab_ls {N5 N6 : Nat} {vX : Value} {X : List Bz} (hx : ∀ z ∈ X, z.inI N5 N6) : Stab N5 N6 (fun w => LsOwn w N5 vX X) :=
  fun _ _ _ m hF h => h.modT hx m (fun b hb => (hF b hb).2) (fun b h1 h2 hb => by
    have := (hF b hb).1
    omega)
theorem stab_bz {N5 N6 : Nat} {z : Bz} (hx : z.inI N5 N6) : Stab N5 N6 (fun w => z.ok w) :=
  fun _ _ _ m hF h => h.modI hx m (fun b h1 h2 hb => by
    have := (hF b hb).1
    omega)
end Go.Proofs.Ytldmokjpfnakkaa

/- More helpers of worldmintref01: Bound, Has. -/
namespace Go.Proofs.Ytldmokjpfnakkaa
open Go.RowKit

end Go.Proofs.Ytldmokjpfnakkaa

/- journal: small calls. -/
namespace Go.Proofs.Ytldmokjpfnakkaa
open Go.RowKit

def FreshPost (room : Nat) (w : World) (e : Ending) (w' : World) : Prop := ∃ g mb, e = .returned (.pointer (some ⟨g, 0, none⟩)) ∧ w.heap.size ≤ g ∧ w.heap.size ≤ mb ∧ DskAt w' g mb room false (-1) [] ∧ Below w.heap.size w w'
set_option maxRecDepth 100000 in
theorem fresh_any (room : Nat) (w : World) (hr : room ≤ 16777216) :
    Calls Try.prog 29 #[.int .i64 (room : Int)] w (FreshPost room w) := by
  have HN := Lib.hid (newDisk_any room _ rfl w hr)
  clear hr
  go_enter Try.func29, Try.ntmps29
  go_wp2_with fail
  refine HN.out.mono ?_
  rintro e w1 ⟨g, mb, rfl, h1, h2, h3, h4⟩
  have H3 := Lib.hid h3
  clear h3
  go_wp2
  go_ret
  exact ⟨g, mb, rfl, h1, h2, H3.out, h4⟩
theorem llen_any (gl g : Nat) (num : Int) (len : Nat) (up : Bool) (w : World) (HL : Hid (LogAt w gl g num len up)) : Calls Try.prog 33 #[.pointer (some ⟨gl, 0, none⟩)] w fun e w' => e = .returned (.int .i64 (len : Int)) ∧ w = w' := by
  obtain ⟨-, -, h2, -⟩ := HL.out.cells
  go_enter Try.func33, Try.ntmps33
  go_wp2
  go_ret
  exact ⟨rfl, rfl⟩
theorem lup_any (gl g : Nat) (num : Int) (len : Nat) (up : Bool) (w : World) (HL : Hid (LogAt w gl g num len up)) : Calls Try.prog 34 #[.pointer (some ⟨gl, 0, none⟩)] w fun e w' => e = .returned (.bool up) ∧ w = w' := by
  obtain ⟨-, -, -, h3, -⟩ := HL.out.cells
  go_enter Try.func34, Try.ntmps34
  go_wp2
  go_ret
  exact ⟨rfl, rfl⟩
theorem take_next {X : List Bz} {q : Nat} {z : Bz} (hz : X[q]? = some z) : (bsOf X).take (q + 1) = (bsOf X).take q ++ [z.bs] := by
  obtain ⟨hq, rfl⟩ := List.getElem?_eq_some_iff.1 hz
  rw [← List.take_append_getElem (show q < (bsOf X).length by rw [bsOf_length]; exact hq)]
  simp [bsOf]
theorem take_frames {X : List Bz} (hs : ∀ z ∈ X, z.bs.length ≤ 10) (hn : X.length ≤ 6) (q : Nat) (hq : q ≤ X.length) : (framesB 0 ((bsOf X).take q)).length ≤ 50 * q := by
  have := frames_le X hs hn q hq
  unfold bsOf at this ⊢
  rw [List.map_take] at this
  exact this
theorem scan_some (n : Nat) : ∀ (r : List UInt8) (k : Nat), r.length ≤ n → ∃ (l : List (List UInt8)) (r' : List UInt8), r = framesB k l ++ r' ∧ FirstIs ((k + l.length : Nat) : Int) r' none := by
  induction n with
  | zero =>
    intro r k h
    obtain rfl : r = [] := List.eq_nil_of_length_eq_zero (by omega)
    exact ⟨[], [], rfl, first_nil _⟩
  | succ n ih =>
    intro r k h
    by_cases hx : ∃ x t, r = frameB (k : Nat) x ++ t
    · obtain ⟨x, t, rfl⟩ := hx
      have := frameB_pos (k : Nat) x
      rw [List.length_append] at h
      obtain ⟨l, r', h1, h2⟩ := ih t (k + 1) (by omega)
      refine ⟨x :: l, r', by rw [framesB_cons, List.append_assoc, ← h1], ?_⟩
      have e : k + (x :: l).length = k + 1 + l.length := by rw [List.length_cons]; omega
      rw [e]
      exact h2
    · exact ⟨[], r, rfl, fun x t e => hx ⟨x, t, e⟩⟩
theorem scan_any_bs (bs : List UInt8) : ∃ rs, ScanIs bs rs (framesB 0 rs).length := by
  obtain ⟨l, r', h1, h2⟩ := scan_some bs.length bs 0 (Nat.le_refl _)
  rw [Nat.zero_add] at h2
  exact ⟨l, rfl, r', h1, h2⟩
theorem flip_app (a c : List UInt8) (bit : Nat) : ∃ x, flipAt (a ++ c) a.length bit = a ++ c.set (bit / 8) x := by
  unfold flipAt
  rw [List.set_append_right _ _ (by omega), Nat.add_sub_cancel_left]
  exact ⟨_, rfl⟩
/-- A crash leaves what is durable. -/
theorem crash_keep (a b : List UInt8) (K : List Int) (flip : Int) : ∃ rest, crashB (a ++ b) a.length K flip = a ++ rest ∧ rest.length ≤ b.length := by
  have ht : ∀ k, (a ++ b).take (a.length + k) = a ++ b.take k := fun k => by rw [List.take_length_add_append]
  unfold crashB
  rw [ht]
  split
  · obtain ⟨x, hx⟩ := flip_app a (b.take (keptB K (a ++ b).length a.length)) (flip % (8 * ((keptB K (a ++ b).length a.length : Nat) : Int))).toNat
    exact ⟨_, hx, by rw [List.length_set, List.length_take]; omega⟩
  · exact ⟨_, rfl, by rw [List.length_take]; omega⟩
/-- A crash without a turned bit. -/
theorem crash_cut (a b : List UInt8) (K : List Int) : ∃ k, crashB (a ++ b) a.length K (-1) = a ++ b.take k := by
  refine ⟨keptB K (a ++ b).length a.length, ?_⟩
  unfold crashB
  rw [if_neg (by omega), List.take_length_add_append]
end Go.Proofs.Ytldmokjpfnakkaa

/- The walk of JournalInverted. -/
namespace Go.Proofs.Ytldmokjpfnakkaa
open Go.ChangeShapes Go.WideShapes Go.ChangeAt Go.RowKit Go.ChangeMaps


set_option maxRecDepth 100000 in
set_option maxHeartbeats 100000000 in
theorem JournalInverted_walk (W : World) (A0 : Option Addr) (n0 c0 : Nat) (f0 : Nat → Int) (_hA0 : A0 = none → n0 = 0) (_hn0 : n0 ≤ c0) (_hc0 : c0 ≤ 9223372036854775807) (hR0 : Rd W W.heap.size A0 n0 (fun j => .int .i64 (f0 j))) (hw0 : Hid (∀ j, j < n0 → (Lit.int .i64 (f0 j)).wf = true)) (A1 : Option Addr) (n1 c1 : Nat) (f1 : Nat → Int) (_hA1 : A1 = none → n1 = 0) (hn1 : n1 ≤ c1) (hc1 : c1 ≤ 9223372036854775807) (hR1 : Rd W W.heap.size A1 n1 (fun j => .int .u8 (f1 j))) (hw1 : Hid (∀ j, j < n1 → (Lit.int .u8 (f1 j)).wf = true)) (a2 : Int) (ha2 : Hid ((Lit.int .i64 a2).wf = true)) (a3 : Int) (ha3 : Hid ((Lit.int .i64 a3).wf = true)) :
    Calls Try.prog 9 #[.slice A0 n0 c0, .slice A1 n1 c1, .int .i64 a2, .int .i64 a3] W fun e w' => e = .returned (.bool true) ∧ Below W.heap.size W w' := by
  have hb := Below.refl W.heap.size W
  go_enter Try.func9, Try.ntmps9
  clear hb
  go_wp2_with fail
  refine (fresh_any 5000 _ (by decide)).mono ?_
  rintro e w2 ⟨g, mb, rfl, hg2, hmb2, hD2, hb2⟩
  go_wp2_with fail
  refine (open_clean g mb 5000 (-1) [] 0 [] _ (Lib.hid hD2) (by decide) (by decide) (Lib.hid rfl) (Lib.hid rfl)).mono ?_
  rintro e w3 ⟨gl, v3, L3, fs3, rfl, hgl3, hL3, hv3, hbs3, -, hst3, hD3, m3, hF3, hng3⟩
  replace hst3 : fs3.map Fl.log = [] := hst3
  obtain rfl : fs3 = [] := by simpa using hst3
  replace hD3 : DskAt w3 g mb 5000 false (-1) [] := hD3
  replace hL3 : LogAt w3 gl g 0 0 true := hL3
  have hbl3 : ∀ b, DskF g mb [] b → b = g ∨ b = mb := by
    rintro b (e | e | ⟨f, hf, -⟩)
    · exact .inl e
    · exact .inr e
    · cases hf
  have hB3 : Below W.heap.size W w3 := m3.below hb2 hb2.size (fun b hb => (hbl3 b hb).elim (fun e => e ▸ hg2) (fun e => e ▸ hmb2))
  have hw2 := hb2.size
  obtain ⟨A3, c3, rfl⟩ := hv3.slice
  clear hst3 hv3 hbs3 m3 hF3 hD2 hb2
  go_wp2_with fail
  refine (records2_any _ _ _ f0 _ (hR0.all hB3) (by omega) (Lib.hid (fun j hj => wf_i64 (hw0.out j hj)))).mono ?_
  rintro e w4 ⟨v4, X, rfl, hX4, hrs4, hb4, hlow4⟩
  obtain ⟨A10, c10, rfl⟩ := hX4.slice
  have hlx : X.length ≤ 6 := by rw [← bsOf_length, hrs4, recsOf_len]; omega
  have HSM : Hid (∀ z ∈ X, z.bs.length ≤ 10) := Lib.hid (fun z hz => recsOf_small n0 f0 z.bs (by rw [← hrs4]; exact List.mem_map.2 ⟨z, hz, rfl⟩))
  obtain ⟨nx, hnx⟩ : ∃ nx, X.length = nx := ⟨_, rfl⟩
  have hI4 : LogI W w3.heap.size w4.heap.size g mb gl 5000 0 false (-1) (fileSt 0 (framesB 0 []) (framesB 0 []).length) 0 true (fun w => LsOwn w w3.heap.size (.slice A10 X.length c10) X) w4 := ⟨⟨[], hD3.all hb4, rfl, fun b hb => .inl (hD3.ltF b hb), fun b hb => (hbl3 b hb).elim (fun e => e ▸ hg2) (fun e => e ▸ hmb2), hng3⟩, Blk.all hL3 hb4, ⟨by omega, .inl (Blk.lt hL3)⟩, ⟨hb4.size, Nat.le_refl _⟩, bt hB3 hb4, stab_ls (fun z hz => (hX4.2 z hz).inI (hlow4 z hz)), hX4⟩
  rw [hnx] at hI4 ⊢ hlx
  have HI4 := Lib.hid hI4
  have HNX := Lib.hid hnx
  generalize w3.heap.size = N5 at *
  clear hD3 hL3 hng3 hbl3 hB3 hw2 hgl3 hX4 hrs4 hlow4 hb4 hI4 hnx hg2 hmb2
  obtain ⟨N6, hN6⟩ : ∃ N6, w4.heap.size = N6 := ⟨_, rfl⟩
  rw [hN6] at HI4
  clear hN6
  go_wp2
  --@1
  go_loopw [14] (fun i wr => ∃ (q : Nat) (ks : List (List UInt8)), q ≤ nx ∧ i = .int .i64 (q : Int) ∧ Hid (ks = (bsOf X).take q) ∧ Hid (ks.length = q) ∧ Hid (LogI W N5 N6 g mb gl 5000 0 false (-1) (fileSt 0 (framesB 0 ks) (framesB 0 ks).length) ks.length true (fun w => LsOwn w N5 (.slice A10 nx c10) X) wr)) (fun i _ => nx - (intOf i).toNat)
  case atStart => exact ⟨0, [], by omega, rfl, Lib.hid (by simp), Lib.hid rfl, HI4⟩
  case round =>
    obtain ⟨q, ks, hq, rfl, HKS, HKL, HI⟩ := hrel
    by_cases hlt : q < nx
    · have hXs := HI.out.j
      have HXL : Hid ((.slice A10 nx c10 : Value) = .slice A10 X.length c10) := Lib.hid (by rw [HNX.out])
      obtain ⟨b, off, z, hbe, hbl, hcz, hz, hrz⟩ := (LsOwnR.rd (m := nx) hXs.r).cell hlt
      have HZ := Lib.hid hz
      have HZN := Lib.hid hrz.len
      have HZR := Lib.hid hrz.rd
      have hzn : z.n ≤ 10 := by
        have := HSM.out z (List.mem_of_getElem? hz)
        have := hrz.len
        omega
      have hfr1 := take_frames HSM.out (by rw [HNX.out]; exact hlx) q (by rw [HNX.out]; exact hq)
      rw [← HKS.out] at hfr1
      have hfr2 := frameB_len (k := (ks.length : Nat)) (bs := z.bs) (by rw [HKL.out]; exact ⟨by omega, by omega⟩) (by rw [HZN.out]; omega)
      rw [HZN.out] at hfr2
      subst hbe
      clear hXs hrz hz HXL
      go_wp2_with fail
      refine (lappend_ok W N5 N6 g mb gl 5000 0 (-1) ks _ _ _ _ z.bs _ HI (by omega) HZN HZR (by rw [HKL.out]; omega) (by decide) (by decide) (by omega) (Lib.hid rfl) (Lib.hid rfl)).mono ?_
      rintro e w6 ⟨rfl, hI6⟩
      replace hI6 : LogI W N5 N6 g mb gl 5000 0 false (-1) (fileSt 0 (framesB 0 (ks ++ [z.bs])) (framesB 0 (ks ++ [z.bs])).length) (ks ++ [z.bs]).length true (fun w => LsOwn w N5 (.slice (some ⟨b, off, none⟩) nx c10) X) w6 := hI6
      have HI6 := Lib.hid hI6
      have HKS6 : Hid (ks ++ [z.bs] = (bsOf X).take (q + 1)) := Lib.hid (by rw [take_next HZ.out, HKS.out])
      have HKL6 : Hid ((ks ++ [z.bs]).length = q + 1) := Lib.hid (by rw [List.length_append, HKL.out]; rfl)
      clear hI6 hcz
      go_wp2
      exact ⟨⟨q + 1, ks ++ [z.bs], by omega, by go_num, HKS6, HKL6, HI6⟩, by simp [intOf]; omega⟩
    · --@2
      obtain rfl : q = nx := by omega
      have HKX : Hid (ks = bsOf X) := Lib.hid (by rw [HKS.out]; exact List.take_of_length_le (by rw [bsOf_length, HNX.out]; exact Nat.le_refl _))
      have hfr1 : (framesB 0 ks).length ≤ 300 := by
        have := take_frames HSM.out (by rw [HNX.out]; exact hlx) q (by rw [HNX.out]; exact Nat.le_refl _)
        rw [HKS.out]
        omega
      obtain ⟨bit1, bit2⟩ := wf_i64 ha2.out
      obtain ⟨bit3, bit4⟩ := wf_i64 ha3.out
      clear HKS
      go_wp2_with fail
      refine (larm_any W N5 N6 g mb gl 5000 0 (-1) _ _ true _ 0 _ HI (by decide)).mono ?_
      rintro e w5 ⟨rfl, hI5⟩
      replace hI5 : LogI W N5 N6 g mb gl 5000 0 false 0 (fileSt 0 (framesB 0 ks) (framesB 0 ks).length) ks.length true (fun w => LsOwn w N5 (.slice A10 q c10) X) w5 := hI5
      have hR5 := rd_list (hR1.all hI5.below) (fun j hj => wf_u8 (hw1.out j hj))
      have HI5 := Lib.hid hI5
      clear hI5 HI
      --@3
      go_wp2_with fail
      refine (few_bytes _ _ _ 60 _ rfl ((List.range n1).map fun j => UInt8.ofNat (f1 j).toNat) _ (Lib.hid (by simp)) hR5 hn1 hc1 (by decide)).mono ?_
      rintro e w6 ⟨A6, c6, k6, bs6, rfl, -, -, hk6, -, HL6, -, -, hR6, hb6⟩
      have HI6 := Lib.hid (HI5.out.all hb6)
      have hfr2 := frameB_len (k := (ks.length : Nat)) (bs := bs6) (by rw [HKL.out]; exact ⟨by omega, by omega⟩) (by rw [HL6.out]; omega)
      rw [HL6.out] at hfr2
      clear hb6 HI5 hR5
      go_wp2_with fail
      refine (lappend_fail W N5 N6 g mb gl 5000 0 0 ks _ _ _ _ bs6 _ HI6 (by omega) HL6 (Lib.hid hR6) (by rw [HKL.out]; omega) (by decide) (by decide) (by omega) (.inl rfl)).mono ?_
      rintro e w7 ⟨rfl, hI7⟩
      have HI7 := Lib.hid hI7
      clear hI7 HI6 hR6
      go_wp2_with fail
      refine (lup_any _ _ _ _ _ _ (Lib.hid HI7.out.log)).mono ?_
      rintro e w8 ⟨rfl, rfl⟩
      go_wp2_with fail
      refine (lappend_down W N5 N6 g mb gl 5000 0 true (-1) _ _ _ none 0 0 _ HI7 (by decide)).mono ?_
      rintro e w8 ⟨rfl, hI8⟩
      have HI8 := Lib.hid hI8
      clear hI8 HI7
      go_wp2_with fail
      refine (llen_any _ _ _ _ _ _ (Lib.hid HI8.out.log)).mono ?_
      rintro e w9 ⟨rfl, rfl⟩
      rw [HKL.out]
      --@4
      have HI9 := Lib.hid (HI8.out.all ((Below.refl w8.heap.size w8).alloc (Nat.le_refl _) (.cells #[.int .i64 a2] 3)))
      have HR9 := Lib.hid (rd_lit1 w8 3 a2)
      clear HI8
      go_wp2_with fail
      refine (lcrash_any W N5 N6 g mb gl 5000 0 true (-1) _ _ _ false _ _ _ _ [a2] a3 _ HI9 (by decide) (by decide) (Lib.hid rfl) (Lib.hid (by have := HR9.out; rw [← World.size_alloc (w := w8) (o := .cells #[.int .i64 a2] 3)] at this; exact this)) (Lib.hid (by simp; exact ⟨bit1, bit2⟩)) (by simp) bit3 bit4).mono ?_
      rintro e w10 ⟨rfl, hI10⟩
      obtain ⟨rest, hrest, -⟩ := crash_keep (framesB 0 ks) (frameB (ks.length : Nat) bs6) [a2] a3
      rw [hrest] at hI10
      have HI10 := Lib.hid hI10
      clear hI10 hrest HI9 HR9
      --@5
      go_wp2_with fail
      refine (lappend_down W N5 N6 g mb gl 5000 0 false (-1) _ _ _ none 0 0 _ HI10 (by decide)).mono ?_
      rintro e w11 ⟨rfl, hI11⟩
      have HI11 := Lib.hid hI11
      clear hI11 HI10
      obtain ⟨rs, hsc⟩ := scan_any_bs (framesB 0 ks ++ rest)
      have hbl11 : (framesB 0 ks ++ rest).length ≤ 5000 := by
        obtain ⟨fs, k1, k2, -⟩ := HI11.out.dsk
        have h1 := k1.used_le
        rw [fileSt_sum k2] at h1
        exact h1
      obtain ⟨hpre, -⟩ := hsc.ahead (by omega) rfl
      have HPRE := Lib.hid hpre
      have HSC := Lib.hid hsc
      have hrl : rs.length ≤ 5000 := by
        obtain ⟨-, r, hr, -⟩ := hsc
        have h1 := hbl11
        rw [hr, List.length_append] at h1
        have h2 := framesB_len rs 0
        omega
      have hql : q ≤ rs.length := by
        have := hpre.length_le
        rw [HKL.out] at this
        exact this
      clear hpre hsc hbl11
      go_wp2_with fail
      refine (lopen_any W N5 N6 g mb gl 5000 0 _ _ _ _ _ rs _ _ HI11 (by decide) (by decide) HSC).mono ?_
      rintro e w12 ⟨gl2, v12, L12, rfl, hL12, hbs12, -, hI12⟩
      obtain ⟨A12, c12, rfl⟩ := hL12.slice
      have hl12 : L12.length = rs.length := by rw [← bsOf_length, hbs12]
      rw [hl12] at hL12 ⊢
      have hlr := LsOwnR.rd (m := rs.length) hL12.r
      have hcap := hlr.2.1
      have hcm := hlr.2.2.1
      have hx12 := LsOwnR.rd (m := q) hI12.j.r
      have HT := Lib.hid (hlr.take hql)
      have HX12 := Lib.hid hx12
      have HEQ : Hid (decide (bsOf (L12.take q) = bsOf X) = true) := Lib.hid (by
        rw [decide_eq_true_iff]
        have e1 : bsOf (L12.take q) = rs.take q := by
          rw [← hbs12]
          unfold bsOf
          rw [List.map_take]
        rw [e1, ← HKX.out, ← HKL.out]
        exact (List.prefix_iff_eq_take.1 HPRE.out).symm)
      have HB12 := Lib.hid hI12.below
      clear hL12 hbs12 hI12 hl12 hlr hx12 HI11
      --@6
      go_wp2_with fail
      refine (sameLists_any _ _ _ _ _ _ (L12.take q) X _ HT HX12 (by omega) (by omega)).mono ?_
      rintro e w13 ⟨rfl, hb13⟩
      rw [HEQ.out]
      have HB13 := Lib.hid (bt HB12.out hb13)
      clear hb13
      go_wp2_with fail
      refine (jlives_any _).mono ?_
      rintro e w14 ⟨rfl, hb14⟩
      go_wp2
      go_ret
      exact ⟨rfl, bt HB13.out hb14⟩

end Go.Proofs.Ytldmokjpfnakkaa

/- The records that were appended stand at the beginning of the log after every crash (JournalInverted). -/
namespace Go.Proofs.Ytldmokjpfnakkaa
open Go.ChangeShapes Go.WideShapes Go.ChangeAt Go.RowKit Go.ChangeMaps

set_option maxRecDepth 100000 in
theorem JournalInverted_lifted (os : Os) (started : os.Started) (H : Type) (enc : TypeId × Value → H) :
    ReturnsInHanded {} Try.checked os 9 .any (Rows.journalInvertedSpec.pre6 enc Try.prog Try.f9 Rows.journalInvertedRow.domain false) (Rows.journalInvertedSpec.post enc Try.prog Try.f9 false true false false) := by
  refine returnsInHanded_of_change (C := Try.checked) Try.own started (by kernel_rfl) Try.func9
    (ChangeSpec.witness6 (enc := enc) (C := Try.checked) false ⟨#[], #[.slice none 0 0, .slice none 0 0, .int .i64 0, .int .i64 0], []⟩ 8 (by kernel_rfl) (by kernel_rfl) (by kernel_rfl) (by kernel_rfl)) ?_
  intro W base args ds gs before hval0 hW _ _
  have hval : ∀ (j : Nat) t v, Try.f9.params[j]? = some t → args[j]? = some v → Value.okWide Try.prog W .any base t v := hval0
  have hW' := hW
  obtain ⟨p, q, hT0, hV, rfl, hfz, hnd⟩ := hW
  have hT : DataW.TrodAll enc Try.prog W 0 (fun _ => true) true Try.f9.params.toList args.toList ds p := hT0
  rw [Try.params9] at hT hval
  obtain ⟨v0, vs0, d0, ds0, p0, q0, hargs0, rfl, rfl, h0, r0⟩ := trodAll_cons hT
  obtain ⟨v1, vs1, d1, ds1, p1, q1, hargs1, rfl, rfl, h1, r1⟩ := trodAll_cons r0
  obtain ⟨v2, vs2, d2, ds2, p2, q2, hargs2, rfl, rfl, h2, r2⟩ := trodAll_cons r1
  obtain ⟨v3, vs3, d3, ds3, p3, q3, hargs3, rfl, rfl, h3, r3⟩ := trodAll_cons r2
  obtain ⟨rfl, rfl, rfl⟩ := trodAll_nil r3
  obtain rfl : args = #[v0, v1, v2, v3] := by cases args; simp_all
  obtain ⟨A0, n0, c0, f0, rfl, hA0, hn0, hc0, hR0, hw0⟩ := open_sl Try.underlying22 Try.underlying3 (by kernel_rfl) (hval 0 22 v0 rfl rfl) h0
  obtain ⟨A1, n1, c1, f1, rfl, hA1, hn1, hc1, hR1, hw1⟩ := open_sl Try.underlying23 Try.underlying5 (by kernel_rfl) (hval 1 23 v1 rfl rfl) h1
  obtain ⟨a2, rfl, -, -, w2⟩ := open_int Try.underlying3 (hval 2 3 v2 rfl rfl) h2
  obtain ⟨a3, rfl, -, -, w3⟩ := open_int Try.underlying3 (hval 3 3 v3 rfl rfl) h3
  refine (JournalInverted_walk W A0 n0 c0 f0 hA0 hn0 hc0 hR0 hw0 A1 n1 c1 f1 hA1 hn1 hc1 hR1 hw1 a2 w2 a3 w3).mono fun e W' ⟨he, hb⟩ => ?_
  subst he
  exact ⟨_, rfl, law_post Try.laidOut (by kernel_rfl) (by kernel_rfl) Try.underlying4 rfl hW' rfl hb⟩

theorem JournalInverted_holds : Rows.JournalInvertedSaid :=
  OpenClaim.holds_of_wide 9 Try.f9 rfl rfl rfl rfl rfl rfl rfl ⟨rfl, rfl, rfl, rfl, rfl⟩ rfl rfl rfl rfl rfl (by kernel_rfl) Try.func9 (by kernel_rfl)
    (of_decide_eq_true (by kernel_rfl)) (by unfold Func.isWrapper; first | (rw [if_pos (by decide +kernel)]; kernel_rfl) | (rw [if_neg (by decide +kernel)]; exact ⟨rfl, rfl⟩))
    (fun os started H enc _ => JournalInverted_lifted os started H enc)

end Go.Proofs.Ytldmokjpfnakkaa
