/- Two logs on a disk each have their own records, and Open after Open returns the same (JournalApart). -/
import Derived.Test.YtldmokjpfnakkaaGJournalApart7

/- journal: a log, its disk of one file, and what else is kept. -/
namespace Go.Proofs.Ytldmokjpfnakkaa
open Go.RowKit

/-- What stays as it is while a log is written: nothing of it lies in the disk's blocks. -/
def Stab (N5 N6 : Nat) (J : World → Prop) : Prop := ∀ (F : Nat → Prop) (w w' : World), Mod F w w' → (∀ b, F b → (b < N5 ∨ N6 ≤ b) ∧ ¬ Ty w b 23) → J w → J w'
structure LogI (W : World) (N5 N6 g mb gl room : Nat) (num : Int) (off : Bool) (plan : Int) (st : List (Int × List UInt8 × Nat)) (len : Nat) (up : Bool) (J : World → Prop) (w : World) : Prop where
  dsk : ∃ fs, DskAt w g mb room off plan fs ∧ fs.map Fl.log = st ∧ (∀ b, DskF g mb fs b → b < N5 ∨ N6 ≤ b) ∧ (∀ b, DskF g mb fs b → W.heap.size ≤ b) ∧ ¬ DskF g mb fs gl
  log : LogAt w gl g num len up
  glo : W.heap.size ≤ gl ∧ (gl < N5 ∨ N6 ≤ gl)
  n6 : N5 ≤ N6 ∧ N6 ≤ w.heap.size
  below : Below W.heap.size W w
  stab : Stab N5 N6 J
  j : J w
section
variable {W : World} {N5 N6 g mb gl room : Nat} {num : Int} {off : Bool} {plan : Int} {st : List (Int × List UInt8 × Nat)} {len : Nat} {up : Bool} {J : World → Prop} {w w' : World}
theorem LogI.all (h : LogI W N5 N6 g mb gl room num off plan st len up J w) (hb : Below w.heap.size w w') : LogI W N5 N6 g mb gl room num off plan st len up J w' := by
  obtain ⟨⟨fs, h1, h2⟩, h3, h4, h5, h6, h7, h8⟩ := h
  exact ⟨⟨fs, h1.all hb, h2⟩, Blk.all h3 hb, h4, ⟨h5.1, Nat.le_trans h5.2 hb.size⟩, bt h6 hb, h7, h7 (fun _ => False) w w' (Mod.of_below _ hb) (fun _ hf => hf.elim) h8⟩
theorem LogI.glT (h : LogI W N5 N6 g mb gl room num off plan st len up J w) : ¬ Ty w gl 23 := fun ht => absurd (Ty.unique (Blk.ty h.log) ht) (by decide)
/-- What a log's call leaves. -/
theorem LogI.next (h : LogI W N5 N6 g mb gl room num off plan st len up J w) : ∃ fs, DskAt w g mb room off plan fs ∧ fs.map Fl.log = st ∧ ¬ DskF g mb fs gl ∧
    (∀ off' plan' len' up' st' w', LogNext gl g mb room num off' plan' len' up' fs st' w w' → LogI W N5 N6 g mb gl room num off' plan' st' len' up' J w') ∧
    (∀ off' plan' st' w', DskNext g mb room off' plan' fs st' w w' → LogI W N5 N6 g mb gl room num off' plan' st' len up J w') ∧
    (∀ w', LogAt w' gl g num len up → Mod (fun b => b = gl) w w' → LogI W N5 N6 g mb gl room num off plan st len up J w') := by
  obtain ⟨⟨fs, h1, h2, h21, h22, h23⟩, h3, h4, h5, h6, h7, h8⟩ := id h
  have hT : ∀ b, (DskF g mb fs b ∨ b = gl) → (b < N5 ∨ N6 ≤ b) ∧ ¬ Ty w b 23 := by
    rintro b (hb | rfl)
    · exact ⟨h21 b hb, h1.noRow b hb⟩
    · exact ⟨h4.2, h.glT⟩
  have hW : ∀ b, (DskF g mb fs b ∨ b = gl) → W.heap.size ≤ b := by
    rintro b (hb | rfl)
    · exact h22 b hb
    · exact h4.1
  have hw := h6.size
  have hlt := Blk.lt h3
  refine ⟨fs, h1, h2, h23, ?_, ?_, ?_⟩
  · rintro off' plan' len' up' st' w' ⟨fs', k1, k2, k3, m, k5⟩
    have hs := m.size
    refine ⟨⟨fs', k2, k1, fun b hb => ?_, fun b hb => ?_, fun hb => ?_⟩, k3, h4, ⟨h5.1, Nat.le_trans h5.2 m.size⟩, m.below h6 hw hW, h7, h7 _ w w' m hT h8⟩
    · rcases k5 b hb with h | h
      · exact h21 b h
      · exact .inr (by omega)
    · rcases k5 b hb with h | h
      · exact h22 b h
      · omega
    · rcases k5 gl hb with h | h
      · exact h23 h
      · omega
  · rintro off' plan' st' w' ⟨fs', k1, k2, m, k5⟩
    have hs := m.size
    have m' : Mod (fun b => DskF g mb fs b ∨ b = gl) w w' := m.mono (fun b hb => .inl (.inl hb))
    refine ⟨⟨fs', k2, k1, fun b hb => ?_, fun b hb => ?_, fun hb => ?_⟩, m.blk h3 h23, h4, ⟨h5.1, Nat.le_trans h5.2 m.size⟩, m'.below h6 hw hW, h7, h7 _ w w' m' hT h8⟩
    · rcases k5 b hb with h | h
      · exact h21 b h
      · exact .inr (by omega)
    · rcases k5 b hb with h | h
      · exact h22 b h
      · omega
    · rcases k5 gl hb with h | h
      · exact h23 h
      · omega
  · rintro w' k3 m
    have m' : Mod (fun b => DskF g mb fs b ∨ b = gl) w w' := m.mono (fun b hb => .inl (.inr hb))
    exact ⟨⟨fs, h1.mod m (fun b hb e => h23 (e ▸ hb)), h2, h21, h22, h23⟩, k3, h4, ⟨h5.1, Nat.le_trans h5.2 m.size⟩, m'.below h6 hw hW, h7, h7 _ w w' m' hT h8⟩
end
/-- Append while the power is on. -/
theorem lappend_ok (W : World) (N5 N6 g mb gl room : Nat) (num : Int) (plan : Int) (ks : List (List UInt8)) (J : World → Prop) (A : Option Addr) (n c : Nat) (bs : List UInt8) (w : World) (HI : Hid (LogI W N5 N6 g mb gl room num false plan (fileSt num (framesB 0 ks) (framesB 0 ks).length) ks.length true J w)) (hn : n ≤ 65536) (HX : Hid (bs.length = n)) (HR : Hid (Rd w w.heap.size A n (vByte bs))) (hlen : ks.length ≤ 1099511627776) (h1 : 0 ≤ num) (h2 : num < 64) (hroom : (framesB 0 ks).length + (frameB (ks.length : Nat) bs).length ≤ room)
    (HO1 : Hid (failOff false plan = false)) (HO2 : Hid (failOff false (failPlan plan) = false)) :
    Calls Try.prog 32 #[.pointer (some ⟨gl, 0, none⟩), .slice A n c] w fun e w' => e = .returned (.int .i64 0) ∧ LogI W N5 N6 g mb gl room num false (failPlan (failPlan plan)) (fileSt num (framesB 0 (ks ++ [bs])) (framesB 0 (ks ++ [bs])).length) (ks ++ [bs]).length true J w' := by
  obtain ⟨fs, hD, hst, hgl, hN, -, -⟩ := HI.out.next
  refine (logAppend_ok gl g mb room num ks.length plan fs _ A n c bs w (Lib.hid HI.out.log) (Lib.hid hD) hgl hn HX HR hlen h1 h2 (by rw [fileSt_sum hst]; exact hroom) (Lib.hid (fileSt_app hst _)) HO1 HO2).mono ?_
  rintro e w' ⟨rfl, hn'⟩
  refine ⟨rfl, ?_⟩
  have e1 : framesB 0 (ks ++ [bs]) = framesB 0 ks ++ frameB (ks.length : Nat) bs := by rw [framesB_snoc, Nat.zero_add]
  have e2 : syncLog [(num, framesB 0 ks ++ frameB (ks.length : Nat) bs, (framesB 0 ks).length)] = fileSt num (framesB 0 (ks ++ [bs])) (framesB 0 (ks ++ [bs])).length := by
    unfold fileSt
    rw [e1, if_neg (fun h => by
      have h1 := congrArg List.length h
      rw [List.length_append] at h1
      have := frameB_pos (ks.length : Nat) bs
      rw [List.length_nil] at h1
      omega)]
    rfl
  rw [e2] at hn'
  rw [List.length_append]
  exact hN _ _ _ _ _ _ hn'
/-- Append while the power fails. -/
theorem lappend_fail (W : World) (N5 N6 g mb gl room : Nat) (num : Int) (plan : Int) (ks : List (List UInt8)) (J : World → Prop) (A : Option Addr) (n c : Nat) (bs : List UInt8) (w : World) (HI : Hid (LogI W N5 N6 g mb gl room num false plan (fileSt num (framesB 0 ks) (framesB 0 ks).length) ks.length true J w)) (hn : n ≤ 65536) (HX : Hid (bs.length = n)) (HR : Hid (Rd w w.heap.size A n (vByte bs))) (hlen : ks.length ≤ 1099511627776) (h1 : 0 ≤ num) (h2 : num < 64) (hroom : (framesB 0 ks).length + (frameB (ks.length : Nat) bs).length ≤ room)
    (hp : plan = 0 ∨ plan = 1) :
    Calls Try.prog 32 #[.pointer (some ⟨gl, 0, none⟩), .slice A n c] w fun e w' => e = .returned (.int .i64 23) ∧ LogI W N5 N6 g mb gl room num true (-1) (fileSt num (framesB 0 ks ++ frameB (ks.length : Nat) bs) (framesB 0 ks).length) ks.length false J w' := by
  obtain ⟨fs, hD, hst, hgl, hN, -, -⟩ := HI.out.next
  have e2 : [(num, framesB 0 ks ++ frameB (ks.length : Nat) bs, (framesB 0 ks).length)] = fileSt num (framesB 0 ks ++ frameB (ks.length : Nat) bs) (framesB 0 ks).length := by
    unfold fileSt
    rw [if_neg (fun h => by
      have h1 := congrArg List.length h
      rw [List.length_append] at h1
      have := frameB_pos (ks.length : Nat) bs
      rw [List.length_nil] at h1
      omega)]
  have HS := Lib.hid (fileSt_app hst (frameB (ks.length : Nat) bs))
  rw [e2] at HS
  rcases hp with rfl | rfl
  · refine (logAppend_fail1 gl g mb room num ks.length 0 fs _ A n c bs w (Lib.hid HI.out.log) (Lib.hid hD) hgl hn HX HR hlen h1 h2 (by rw [fileSt_sum hst]; exact hroom) HS (Lib.hid rfl)).mono ?_
    rintro e w' ⟨rfl, hn'⟩
    exact ⟨rfl, hN _ _ _ _ _ _ hn'⟩
  · refine (logAppend_fail2 gl g mb room num ks.length 1 fs _ A n c bs w (Lib.hid HI.out.log) (Lib.hid hD) hgl hn HX HR hlen h1 h2 (by rw [fileSt_sum hst]; exact hroom) HS (Lib.hid rfl) (Lib.hid rfl)).mono ?_
    rintro e w' ⟨rfl, hn'⟩
    exact ⟨rfl, hN _ _ _ _ _ _ hn'⟩
/-- Append when the log is down. -/
theorem lappend_down (W : World) (N5 N6 g mb gl room : Nat) (num : Int) (off : Bool) (plan : Int) (st : List (Int × List UInt8 × Nat)) (len : Nat) (J : World → Prop) (A : Option Addr) (n c : Nat) (w : World) (HI : Hid (LogI W N5 N6 g mb gl room num off plan st len false J w)) (hn : n ≤ 65536) :
    Calls Try.prog 32 #[.pointer (some ⟨gl, 0, none⟩), .slice A n c] w fun e w' => e = .returned (.int .i64 23) ∧ LogI W N5 N6 g mb gl room num off plan st len false J w' := by
  obtain ⟨fs, hD, hst, hgl, -, -, hL⟩ := HI.out.next
  refine (logAppend_down gl g num len A n c w (Lib.hid HI.out.log) hn).mono ?_
  rintro e w' ⟨rfl, k3, m⟩
  exact ⟨rfl, hL _ k3 m⟩
theorem larm_any (W : World) (N5 N6 g mb gl room : Nat) (num : Int) (plan : Int) (st : List (Int × List UInt8 × Nat)) (len : Nat) (up : Bool) (J : World → Prop) (n : Int) (w : World) (HI : Hid (LogI W N5 N6 g mb gl room num false plan st len up J w)) (hn : n ≤ 4611686018427387904) :
    Calls Try.prog 37 #[.pointer (some ⟨g, 0, none⟩), .int .i64 n] w fun e w' => e = .returned (.tuple #[]) ∧ LogI W N5 N6 g mb gl room num false (max n (-1)) st len up J w' := by
  obtain ⟨fs, hD, hst, hgl, -, hN, -⟩ := HI.out.next
  refine (arm_any g mb room plan n fs w (Lib.hid hD) hn).mono ?_
  rintro e w' ⟨rfl, k⟩
  rw [hst] at k
  exact ⟨rfl, hN _ _ _ _ k⟩
theorem lcrash_any (W : World) (N5 N6 g mb gl room : Nat) (num : Int) (off : Bool) (plan : Int) (bs : List UInt8) (dur len : Nat) (up : Bool) (J : World → Prop) (A : Option Addr) (n c : Nat) (K : List Int) (flip : Int) (w : World) (HI : Hid (LogI W N5 N6 g mb gl room num off plan (fileSt num bs dur) len up J w)) (h1 : 0 ≤ num) (h2 : num < 64) (HKL : Hid (K.length = n)) (HR : Hid (Rd w w.heap.size A n (vInt K))) (HW : Hid (∀ k ∈ K, -9223372036854775808 ≤ k ∧ k ≤ 9223372036854775807)) (hnc : n ≤ 1000000) (hf1 : -9223372036854775808 ≤ flip) (hf2 : flip ≤ 9223372036854775807) :
    Calls Try.prog 36 #[.pointer (some ⟨g, 0, none⟩), .slice A n c, .int .i64 flip] w fun e w' => e = .returned (.tuple #[]) ∧ LogI W N5 N6 g mb gl room num false (-1) (fileSt num (crashB bs dur K flip) (crashB bs dur K flip).length) len up J w' := by
  obtain ⟨fs, hD, hst, hgl, -, hN, -⟩ := HI.out.next
  obtain ⟨kp, st1, st2, hT, hS⟩ := crash_st hst K flip
  refine (crash_any g mb room off plan fs A n c K flip kp st1 st2 w (Lib.hid hD) (by have := fileSt_len hst; omega) (Lib.hid (fileSt_num hst h1 h2)) HKL HR HW hnc hf1 hf2 (Lib.hid hT)).mono ?_
  rintro e w' ⟨rfl, k⟩
  rw [hS] at k
  exact ⟨rfl, hN _ _ _ _ k⟩
/-- What Open returns. -/
def LOpenPost (W : World) (N5 N6 g mb room : Nat) (num : Int) (rs : List (List UInt8)) (J : World → Prop) (w : World) (e : Ending) (w' : World) : Prop :=
  ∃ gl v L, e = .returned (.tuple #[.pointer (some ⟨gl, 0, none⟩), v, .int .i64 0]) ∧ LsOwn w' w.heap.size v L ∧ bsOf L = rs ∧ (∀ z ∈ L, z.low w.heap.size) ∧ LogI W N5 N6 g mb gl room num false (-1) (fileSt num (framesB 0 rs) (framesB 0 rs).length) rs.length true J w'
theorem lopen_any (W : World) (N5 N6 g mb gl room : Nat) (num : Int) (bs : List UInt8) (dur len : Nat) (up : Bool) (J : World → Prop) (rs : List (List UInt8)) (m : Nat) (w : World) (HI : Hid (LogI W N5 N6 g mb gl room num false (-1) (fileSt num bs dur) len up J w)) (h1 : 0 ≤ num) (h2 : num < 64) (HSC : Hid (ScanIs bs rs m)) :
    Calls Try.prog 30 #[.pointer (some ⟨g, 0, none⟩), .int .i64 num] w (LOpenPost W N5 N6 g mb room num rs J w) := by
  obtain ⟨⟨fs, k1, hst, k21, k22, k23⟩, k3, k4, k5, k6, k7, k8⟩ := id HI.out
  refine (open1_any g mb room fs num bs dur m rs w (Lib.hid k1) (Lib.hid hst) h1 h2 HSC).mono ?_
  rintro e w' ⟨gl', v, L, fs', rfl, q1, q2, q3, q4, q5, q6, q7, q8, q9, q10⟩
  have hs := q8.size
  have hw := k6.size
  refine ⟨gl', v, L, rfl, q3, q4, q5, ⟨⟨fs', q7, q6, fun b hb => ?_, fun b hb => ?_, q10⟩, q2, ⟨by omega, .inr (by omega)⟩, ⟨k5.1, by omega⟩, q8.below k6 hw k22, k7, k7 _ w w' q8 (fun b hb => ⟨k21 b hb, k1.noRow b hb⟩) k8⟩⟩
  · rcases q9 b hb with h | h
    · exact k21 b h
    · exact .inr (by omega)
  · rcases q9 b hb with h | h
    · exact k22 b h
    · omega
/-- A row of byte slices and a byte slice may be kept. -/
theorem stab_ls {N5 N6 : Nat} {vX : Value} {X : List Bz} (hx : ∀ z ∈ X, z.inI N5 N6) : Stab N5 N6 (fun w => LsOwn w N5 vX X) :=
  fun _ _ _ m hF h => h.modT hx m (fun b hb => (hF b hb).2) (fun b h1 h2 hb => by
    have := (hF b hb).1
    omega)
theorem stab_bz {N5 N6 : Nat} {z : Bz} (hx : z.inI N5 N6) : Stab N5 N6 (fun w => z.ok w) :=
  fun _ _ _ m hF h => h.modI hx m (fun b h1 h2 hb => by
    have := (hF b hb).1
    omega)
end Go.Proofs.Ytldmokjpfnakkaa

/- More helpers of worldmintref01: Bound, Has. -/
namespace Go.Proofs.Ytldmokjpfnakkaa
open Go.RowKit

end Go.Proofs.Ytldmokjpfnakkaa

/- journal: small calls. -/
namespace Go.Proofs.Ytldmokjpfnakkaa
open Go.RowKit

def FreshPost (room : Nat) (w : World) (e : Ending) (w' : World) : Prop := ∃ g mb, e = .returned (.pointer (some ⟨g, 0, none⟩)) ∧ w.heap.size ≤ g ∧ w.heap.size ≤ mb ∧ DskAt w' g mb room false (-1) [] ∧ Below w.heap.size w w'
set_option maxRecDepth 100000 in
theorem fresh_any (room : Nat) (w : World) (hr : room ≤ 16777216) :
    Calls Try.prog 29 #[.int .i64 (room : Int)] w (FreshPost room w) := by
  have HN := Lib.hid (newDisk_any room _ rfl w hr)
  clear hr
  go_enter Try.func29, Try.ntmps29
  go_wp2_with fail
  refine HN.out.mono ?_
  rintro e w1 ⟨g, mb, rfl, h1, h2, h3, h4⟩
  have H3 := Lib.hid h3
  clear h3
  go_wp2
  go_ret
  exact ⟨g, mb, rfl, h1, h2, H3.out, h4⟩
theorem llen_any (gl g : Nat) (num : Int) (len : Nat) (up : Bool) (w : World) (HL : Hid (LogAt w gl g num len up)) : Calls Try.prog 33 #[.pointer (some ⟨gl, 0, none⟩)] w fun e w' => e = .returned (.int .i64 (len : Int)) ∧ w = w' := by
  obtain ⟨-, -, h2, -⟩ := HL.out.cells
  go_enter Try.func33, Try.ntmps33
  go_wp2
  go_ret
  exact ⟨rfl, rfl⟩
theorem lup_any (gl g : Nat) (num : Int) (len : Nat) (up : Bool) (w : World) (HL : Hid (LogAt w gl g num len up)) : Calls Try.prog 34 #[.pointer (some ⟨gl, 0, none⟩)] w fun e w' => e = .returned (.bool up) ∧ w = w' := by
  obtain ⟨-, -, -, h3, -⟩ := HL.out.cells
  go_enter Try.func34, Try.ntmps34
  go_wp2
  go_ret
  exact ⟨rfl, rfl⟩
theorem take_next {X : List Bz} {q : Nat} {z : Bz} (hz : X[q]? = some z) : (bsOf X).take (q + 1) = (bsOf X).take q ++ [z.bs] := by
  obtain ⟨hq, rfl⟩ := List.getElem?_eq_some_iff.1 hz
  rw [← List.take_append_getElem (show q < (bsOf X).length by rw [bsOf_length]; exact hq)]
  simp [bsOf]
theorem take_frames {X : List Bz} (hs : ∀ z ∈ X, z.bs.length ≤ 10) (hn : X.length ≤ 6) (q : Nat) (hq : q ≤ X.length) : (framesB 0 ((bsOf X).take q)).length ≤ 50 * q := by
  have := frames_le X hs hn q hq
  unfold bsOf at this ⊢
  rw [List.map_take] at this
  exact this
theorem scan_some (n : Nat) : ∀ (r : List UInt8) (k : Nat), r.length ≤ n → ∃ (l : List (List UInt8)) (r' : List UInt8), r = framesB k l ++ r' ∧ FirstIs ((k + l.length : Nat) : Int) r' none := by
  induction n with
  | zero =>
    intro r k h
    obtain rfl : r = [] := List.eq_nil_of_length_eq_zero (by omega)
    exact ⟨[], [], rfl, first_nil _⟩
  | succ n ih =>
    intro r k h
    by_cases hx : ∃ x t, r = frameB (k : Nat) x ++ t
    · obtain ⟨x, t, rfl⟩ := hx
      have := frameB_pos (k : Nat) x
      rw [List.length_append] at h
      obtain ⟨l, r', h1, h2⟩ := ih t (k + 1) (by omega)
      refine ⟨x :: l, r', by rw [framesB_cons, List.append_assoc, ← h1], ?_⟩
      have e : k + (x :: l).length = k + 1 + l.length := by rw [List.length_cons]; omega
      rw [e]
      exact h2
    · exact ⟨[], r, rfl, fun x t e => hx ⟨x, t, e⟩⟩
theorem scan_any_bs (bs : List UInt8) : ∃ rs, ScanIs bs rs (framesB 0 rs).length := by
  obtain ⟨l, r', h1, h2⟩ := scan_some bs.length bs 0 (Nat.le_refl _)
  rw [Nat.zero_add] at h2
  exact ⟨l, rfl, r', h1, h2⟩
theorem flip_app (a c : List UInt8) (bit : Nat) : ∃ x, flipAt (a ++ c) a.length bit = a ++ c.set (bit / 8) x := by
  unfold flipAt
  rw [List.set_append_right _ _ (by omega), Nat.add_sub_cancel_left]
  exact ⟨_, rfl⟩
/-- A crash leaves what is durable. -/
theorem crash_keep (a b : List UInt8) (K : List Int) (flip : Int) : ∃ rest, crashB (a ++ b) a.length K flip = a ++ rest ∧ rest.length ≤ b.length := by
  have ht : ∀ k, (a ++ b).take (a.length + k) = a ++ b.take k := fun k => by rw [List.take_length_add_append]
  unfold crashB
  rw [ht]
  split
  · obtain ⟨x, hx⟩ := flip_app a (b.take (keptB K (a ++ b).length a.length)) (flip % (8 * ((keptB K (a ++ b).length a.length : Nat) : Int))).toNat
    exact ⟨_, hx, by rw [List.length_set, List.length_take]; omega⟩
  · exact ⟨_, rfl, by rw [List.length_take]; omega⟩
/-- A crash without a turned bit. -/
theorem crash_cut (a b : List UInt8) (K : List Int) : ∃ k, crashB (a ++ b) a.length K (-1) = a ++ b.take k := by
  refine ⟨keptB K (a ++ b).length a.length, ?_⟩
  unfold crashB
  rw [if_neg (by omega), List.take_length_add_append]
end Go.Proofs.Ytldmokjpfnakkaa

/- journal: two logs on a disk. -/
namespace Go.Proofs.Ytldmokjpfnakkaa
open Go.RowKit

/-- What Open returns; the records lie below M, what the disk has new lies from there on. -/
def OpenPost2 (g mb room : Nat) (num : Int) (plan' : Int) (fs : List Fl) (rs : List (List UInt8)) (st : List (Int × List UInt8 × Nat)) (w : World) (e : Ending) (w' : World) : Prop :=
  ∃ gl v L fs' M, e = .returned (.tuple #[.pointer (some ⟨gl, 0, none⟩), v, .int .i64 0]) ∧ w.heap.size ≤ gl ∧ LogAt w' gl g num rs.length true ∧ LsOwn w' w.heap.size v L ∧ bsOf L = rs ∧ (∀ z ∈ L, z.inI w.heap.size M) ∧ w.heap.size ≤ M ∧ fs'.map Fl.log = st ∧ DskAt w' g mb room false plan' fs' ∧ Mod (DskF g mb fs) w w' ∧ (∀ b, DskF g mb fs' b → DskF g mb fs b ∨ M ≤ b) ∧ ¬ DskF g mb fs' gl
set_option maxRecDepth 100000 in
set_option maxHeartbeats 2000000 in
theorem open_clean2 (g mb room : Nat) (plan : Int) (fs : List Fl) (num : Int) (rs : List (List UInt8)) (w : World) (HD : Hid (DskAt w g mb room false plan fs)) (h1 : 0 ≤ num) (h2 : num < 64) (HB : Hid (fileBs fs num = framesB 0 rs)) (HO : Hid (failOff false plan = false)) :
    Calls Try.prog 30 #[.pointer (some ⟨g, 0, none⟩), .int .i64 num] w (OpenPost2 g mb room num (failPlan plan) fs rs (syncLog (fs.map Fl.log)) w) := by
  have hlen : (framesB 0 rs).length ≤ 16777216 := by
    rw [← HB.out]
    unfold fileBs
    cases hf : findF fs num with
    | none => simp
    | some f =>
      obtain ⟨l1, l2, hfs, -⟩ := findF_split hf
      have h1 := HD.out.room_le
      have h2 := HD.out.used_le
      rw [hfs, sumL_append, sumL_cons] at h2
      simp only [Option.map_some, Option.getD_some]
      omega
  have HF := Lib.hid HD.out.ltF
  have HSC : Hid (ScanIs (framesB 0 rs) rs (framesB 0 rs).length) := Lib.hid ⟨rfl, [], (List.append_nil _).symm, fun x r h => by
    have h1 := congrArg List.length h
    rw [List.length_append] at h1
    have h2 := frameB_pos ((rs.length : Nat) : Int) x
    simp only [List.length_nil] at h1
    omega⟩
  go_enter Try.func30, Try.ntmps30
  go_wp2_with fail
  refine (readD_any _ _ _ _ _ _ _ HD h1 h2).mono ?_
  rintro e w1 ⟨A1, n1, c1, rfl, hown1, hb1⟩
  rw [HB.out] at hown1
  have hS1 := Sb.own hown1
  have hD1 := HD.out.all hb1
  have HN1 := Lib.hid hS1.1
  have hn1 : n1 ≤ 16777216 := by rw [← HN1.out]; exact hlen
  clear hown1
  go_wp2_with fail
  refine (scan2_any _ _ _ _ _ (Lib.hid hS1) (by omega)).mono ?_
  rintro e w2 ⟨v2, L2, m2, rfl, hL2, hs2, hb2, hlow2⟩
  obtain ⟨e1, e2⟩ := ScanIs.unique (by omega) hs2 HSC.out
  rw [HN1.out] at e2
  subst e2
  obtain ⟨A2, c2, rfl⟩ := hL2.slice
  have HE1 := Lib.hid e1
  have hD2 := hD1.all hb2
  have hB2 := bt hb1 hb2
  have hll : L2.length = rs.length := by rw [← bsOf_length, e1]
  rw [hll] at hL2 ⊢
  have hrl : rs.length ≤ 16777216 := by
    have := framesB_len rs 0
    omega
  have hz1 := hb1.size
  have HLW : Hid (∀ z ∈ L2, z.low w.heap.size) := Lib.hid (fun z hz => (hlow2 z hz).mono hz1)
  have HL2 := Lib.hid (hL2.lower hz1)
  have HIN : Hid (∀ z ∈ L2, z.inI w.heap.size w2.heap.size) := Lib.hid (fun z hz => (hL2.2 z hz).inI (HLW.out z hz))
  have hM2 : w.heap.size ≤ w2.heap.size := Nat.le_trans hz1 hb2.size
  clear hs2 e1 hll hL2 hlow2 hb1 hb2 hD1 hS1 hz1
  go_wp2_with fail
  refine (sync_any _ _ _ _ _ _ (Lib.hid hD2)).mono ?_
  rintro e w3 ⟨rfl, fs3, hst3, hD3, m3, hF3⟩
  rw [HO.out] at hst3 hD3 ⊢
  have hL3 : LsOwn w3 w.heap.size (.slice A2 rs.length c2) L2 := HL2.out.modL HLW.out m3 (fun b hb hf => by have := HF.out b hf; omega) (Nat.le_refl _)
  have M3 : Mod (DskF g mb fs) w w3 := (Mod.of_below (DskF g mb fs) hB2).trans m3 (fun b hb => .inl hb)
  have hz2 := hB2.size
  have HF3 : Hid (∀ b, DskF g mb fs3 b → DskF g mb fs b ∨ w.heap.size ≤ b) := Lib.hid (fun b hb => (hF3 b hb).imp id (fun h => by omega))
  have hb4 := (Below.refl w3.heap.size w3).alloc (Nat.le_refl _) (.cells #[.pointer (some ⟨g, 0, none⟩), .int .i64 num, .int .i64 ((rs.length : Nat) : Int), .bool true] 87)
  have HLG : Hid (LogAt (w3.alloc (.cells #[.pointer (some ⟨g, 0, none⟩), .int .i64 num, .int .i64 ((rs.length : Nat) : Int), .bool true] 87)) w3.heap.size g num rs.length true) := Lib.hid (Blk.new w3 87 _)
  have HM3 : Hid (∀ b, DskF g mb fs3 b → DskF g mb fs b ∨ w2.heap.size ≤ b) := Lib.hid hF3
  have HFIN : Hid (OpenPost2 g mb room num (failPlan plan) fs rs (syncLog (fs.map Fl.log)) w (.returned (.tuple #[.pointer (some ⟨w3.heap.size, 0, none⟩), .slice A2 rs.length c2, .int .i64 0])) (w3.alloc (.cells #[.pointer (some ⟨g, 0, none⟩), .int .i64 num, .int .i64 ((rs.length : Nat) : Int), .bool true] 87))) := Lib.hid
    ⟨w3.heap.size, _, L2, fs3, w2.heap.size, rfl, M3.size, HLG.out, hL3.all hb4, HE1.out, HIN.out, hM2, hst3, hD3.all hb4, M3.then_below hb4, HM3.out, fun h => by have := hD3.ltF _ h; omega⟩
  clear hL3 M3 hb4 hD3 hst3 m3 hF3 hD2 hB2 HL2 HLG
  go_wp2
  go_ret3
  exact HFIN.out
set_option maxRecDepth 100000 in
set_option maxHeartbeats 1000000 in
/-- Nothing is appended. -/
theorem appendD_zero (g mb room : Nat) (plan : Int) (fs : List Fl) (num : Int) (A : Option Addr) (c : Nat) (w : World) (HD : Hid (DskAt w g mb room false plan fs)) (h1 : 0 ≤ num) (h2 : num < 64) :
    Calls Try.prog 35 #[.pointer (some ⟨g, 0, none⟩), .int .i64 num, .slice A 0 c] w fun e w' => e = .returned (.int .i64 (if failOff false plan then 23 else 0)) ∧ DskNext g mb room (failOff false plan) (failPlan plan) fs (fs.map Fl.log) w w' := by
  obtain ⟨c0, c1, c2, c3, c4, hf⟩ := HD.out.dcells
  have hrm := HD.out.room_le
  have hul := HD.out.used_le
  obtain ⟨u, hu⟩ : ∃ u, sumL fs = u := ⟨_, rfl⟩
  rw [hu] at c1 hul
  obtain ⟨o, ho⟩ : ∃ o, failOff false plan = o := ⟨_, rfl⟩
  rw [ho]
  have HO := Lib.hid ho
  clear hf hu ho
  go_enter Try.func35, Try.ntmps35
  go_wp2_with (go_at_call 55; ((with_reducible refine (isFile_yes _ _ h1 h2).mono ?_); rintro e w1 ⟨rfl, rfl⟩))
  have i1 : IntKind.i64.wrap ((room : Int) - (u : Int)) = (room : Int) - (u : Int) := IntWalk.i64_in _ (by omega)
  have i2 : decide ((room : Int) - (u : Int) < 0) = false := by rw [decide_eq_false_iff_not]; omega
  go_quiet (fail)
  clear i1 i2
  have HD1 := Lib.hid (HD.out.all (below_drewN (Below.refl _ w) nq))
  go_wp2_with fail
  refine (fails_any _ _ _ _ _ _ _ HD1).mono ?_
  rintro e w2 ⟨rfl, hD2, m2⟩
  rw [HO.out] at hD2 ⊢
  have HN : Hid (DskNext g mb room o (failPlan plan) fs (fs.map Fl.log) w w2) := Lib.hid (DskNext.from (F := fun _ => False) ⟨fs, rfl, hD2, m2.mono (fun b hb => .inl (.inl hb)), fun b hb => .inl hb⟩ (Mod.of_below _ (below_drewN (Below.refl _ w) nq)) (fun _ hf => hf.elim))
  clear hD2 m2 c0 c1 c2 c3 c4
  cases o with
  | true =>
    go_wp2
    go_ret
    exact ⟨rfl, HN.out⟩
  | false =>
    go_wp2
    go_ret
    exact ⟨rfl, HN.out⟩
theorem frameB_four (k : Int) (x : List UInt8) : 4 ≤ (frameB k x).length := by
  have h1 : 2 ≤ (coreB k x).length := by
    unfold coreB
    rw [List.length_append]
    have := encInt_pos k
    have := encRaw_lt x
    omega
  have := frameB_gt k x
  omega
/-- Two files, or fewer. -/
def twoSt (a b : Int) (A B : List UInt8) : List (Int × List UInt8 × Nat) := fileSt a A A.length ++ fileSt b B B.length
theorem fileSt_mem {a : Int} {A : List UInt8} {d : Nat} {p : Int × List UInt8 × Nat} (h : p ∈ fileSt a A d) : p = (a, A, d) ∧ A ≠ [] := by
  unfold fileSt at h
  by_cases hA : A = []
  · rw [if_pos hA] at h; cases h
  · rw [if_neg hA] at h
    simp at h
    exact ⟨h, hA⟩
theorem twoSt_mem {a b : Int} {A B : List UInt8} {p : Int × List UInt8 × Nat} (h : p ∈ twoSt a b A B) : (p = (a, A, A.length) ∧ A ≠ []) ∨ (p = (b, B, B.length) ∧ B ≠ []) :=
  (List.mem_append.1 h).imp fileSt_mem fileSt_mem
theorem twoSt_swap (a b : Int) (A B : List UInt8) : (twoSt a b A B).Perm (twoSt b a B A) := List.perm_append_comm
theorem syncLog_perm {s t : List (Int × List UInt8 × Nat)} (h : s.Perm t) : (syncLog s).Perm (syncLog t) := h.map _
theorem syncLog_file (a : Int) (A : List UInt8) : syncLog (fileSt a A A.length) = fileSt a A A.length := by
  unfold fileSt
  split <;> rfl
theorem syncLog_two (a b : Int) (A B : List UInt8) : syncLog (twoSt a b A B) = twoSt a b A B := by
  unfold twoSt
  rw [show syncLog (fileSt a A A.length ++ fileSt b B B.length) = syncLog (fileSt a A A.length) ++ syncLog (fileSt b B B.length) from List.map_append, syncLog_file, syncLog_file]
theorem sumL_log (fs : List Fl) : sumL fs = ((fs.map Fl.log).map fun p => p.2.1.length).sum := by
  unfold sumL
  rw [List.map_map]
  rfl
theorem two_sum {fs : List Fl} {a b : Int} {A B : List UInt8} (h : (fs.map Fl.log).Perm (twoSt a b A B)) : sumL fs = A.length + B.length := by
  rw [sumL_log, (h.map _).sum_nat]
  unfold twoSt fileSt
  by_cases hA : A = [] <;> by_cases hB : B = [] <;> simp [hA, hB]
theorem two_find {fs : List Fl} {a b : Int} {A B : List UInt8} (hab : a ≠ b) (h : (fs.map Fl.log).Perm (twoSt a b A B)) (hA : A ≠ []) : ∃ l1 f l2, fs = l1 ++ f :: l2 ∧ findF fs a = some f ∧ f.log = (a, A, A.length) := by
  have hm : (a, A, A.length) ∈ fs.map Fl.log := h.symm.subset (by unfold twoSt fileSt; rw [if_neg hA]; simp)
  obtain ⟨d, hd, he⟩ := List.mem_map.1 hm
  have hdn : d.num = a := by
    unfold Fl.log at he
    injection he
  obtain ⟨f, hf⟩ : ∃ f, findF fs a = some f := by
    cases hq : findF fs a with
    | some f => exact ⟨f, rfl⟩
    | none =>
      unfold findF at hq
      rw [List.find?_eq_none] at hq
      exact absurd (hq d hd) (by simp [hdn])
  obtain ⟨l1, l2, hfs, hfn⟩ := findF_split hf
  refine ⟨l1, f, l2, hfs, hf, ?_⟩
  have hfm : f.log ∈ twoSt a b A B := h.subset (List.mem_map.2 ⟨f, by rw [hfs]; simp, rfl⟩)
  rcases twoSt_mem hfm with ⟨e, -⟩ | ⟨e, -⟩
  · exact e
  · exfalso
    have : f.log.1 = b := by rw [e]
    exact hab (hfn.symm.trans this)
theorem two_none {fs : List Fl} {a b : Int} {B : List UInt8} (hab : a ≠ b) (h : (fs.map Fl.log).Perm (twoSt a b [] B)) : findF fs a = none := by
  unfold findF
  rw [List.find?_eq_none]
  intro f hf he
  have hfm : f.log ∈ twoSt a b [] B := h.subset (List.mem_map.2 ⟨f, hf, rfl⟩)
  rcases twoSt_mem hfm with ⟨-, e⟩ | ⟨e, -⟩
  · exact e rfl
  · have h1 : f.log.1 = b := by rw [e]
    have h2 : f.num = a := by simpa using he
    exact hab (h2.symm.trans h1)
theorem two_file {fs : List Fl} {a b : Int} {A B : List UInt8} (hab : a ≠ b) (h : (fs.map Fl.log).Perm (twoSt a b A B)) : fileBs fs a = A := by
  unfold fileBs
  by_cases hA : A = []
  · subst hA
    rw [two_none hab h]
    rfl
  · obtain ⟨l1, f, l2, -, hf, he⟩ := two_find hab h hA
    rw [hf]
    unfold Fl.log at he
    injection he with _ he
    injection he
theorem two_app {fs : List Fl} {a b : Int} {A B xs : List UInt8} (hab : a ≠ b) (h : (fs.map Fl.log).Perm (twoSt a b A B)) (hx : xs ≠ []) : ∃ st, AppSt fs a xs st ∧ (syncLog st).Perm (twoSt a b (A ++ xs) B) := by
  have hne : A ++ xs ≠ [] := by
    intro e
    exact hx (List.append_eq_nil_iff.1 e).2
  by_cases hA : A = []
  · subst hA
    refine ⟨_, .inl ⟨two_none hab h, rfl⟩, ?_⟩
    have h1 := syncLog_perm h
    rw [syncLog_two] at h1
    rw [show syncLog (fs.map Fl.log ++ [(a, xs, 0)]) = syncLog (fs.map Fl.log) ++ [(a, xs, xs.length)] from List.map_append]
    refine (h1.append_right _).trans ?_
    unfold twoSt
    rw [List.nil_append]
    have e1 : fileSt a [] ([] : List UInt8).length = [] := rfl
    have e2 : fileSt a xs xs.length = [(a, xs, xs.length)] := by unfold fileSt; rw [if_neg hx]
    rw [e1, e2, List.nil_append]
    exact List.perm_append_comm
  · obtain ⟨l1, f, l2, rfl, hf, he⟩ := two_find hab h hA
    refine ⟨_, .inr ⟨l1, f, l2, rfl, hf, rfl⟩, ?_⟩
    have e1 : fileSt a A A.length = [(a, A, A.length)] := by unfold fileSt; rw [if_neg hA]
    have e2 : fileSt a (A ++ xs) (A ++ xs).length = [(a, A ++ xs, (A ++ xs).length)] := by unfold fileSt; rw [if_neg hne]
    unfold twoSt at h ⊢
    rw [e1, List.map_append, List.map_cons, he] at h
    have h2 : (l1.map Fl.log ++ l2.map Fl.log).Perm (fileSt b B B.length) := (List.perm_cons _).1 (List.perm_middle.symm.trans h)
    have h3 := syncLog_perm h2
    rw [syncLog_file] at h3
    rw [e2]
    unfold Fl.log at he
    injection he with h4 he
    injection he with h5 h6
    rw [h4, h5]
    rw [show syncLog (l1.map Fl.log ++ (a, A ++ xs, f.dur) :: l2.map Fl.log) = syncLog (l1.map Fl.log) ++ (a, A ++ xs, (A ++ xs).length) :: syncLog (l2.map Fl.log) by simp [syncLog]]
    refine List.perm_middle.trans ?_
    refine List.Perm.cons _ ?_
    rw [show syncLog (l1.map Fl.log) ++ syncLog (l2.map Fl.log) = syncLog (l1.map Fl.log ++ l2.map Fl.log) by simp [syncLog]]
    exact h3
theorem two_clean {fs : List Fl} {a b : Int} {A B : List UInt8} (h : (fs.map Fl.log).Perm (twoSt a b A B)) : ∀ f ∈ fs, f.dur = f.bs.length ∧ 0 < f.bs.length ∧ (f.num = a ∨ f.num = b) := by
  intro f hf
  rcases twoSt_mem (h.subset (List.mem_map.2 ⟨f, hf, rfl⟩)) with ⟨e, hne⟩ | ⟨e, hne⟩
  · unfold Fl.log at e
    injection e with e1 e
    injection e with e2 e3
    rw [e2, e3]
    exact ⟨rfl, List.length_pos_iff.2 hne, .inl e1⟩
  · unfold Fl.log at e
    injection e with e1 e
    injection e with e2 e3
    rw [e2, e3]
    exact ⟨rfl, List.length_pos_iff.2 hne, .inr e1⟩
theorem two_len {fs : List Fl} {a b : Int} {A B : List UInt8} (h : (fs.map Fl.log).Perm (twoSt a b A B)) : fs.length ≤ 2 := by
  have := h.length_eq
  rw [List.length_map] at this
  rw [this]
  unfold twoSt fileSt
  by_cases hA : A = [] <;> by_cases hB : B = [] <;> simp [hA, hB]
end Go.Proofs.Ytldmokjpfnakkaa

/- journal: two logs on a disk, and what else is kept. -/
namespace Go.Proofs.Ytldmokjpfnakkaa
open Go.RowKit

def StabZ (Z : Nat → Prop) (J : World → Prop) : Prop := ∀ (F : Nat → Prop) (w w' : World), Mod F w w' → (∀ b, F b → ¬ Z b ∧ ¬ Ty w b 23) → J w → J w'
theorem stabz_ls {Z : Nat → Prop} {base p q : Nat} {vX : Value} {X : List Bz} (hx : ∀ z ∈ X, z.inI p q) (hZ : ∀ k, p ≤ k → k < q → Z k) : StabZ Z (fun w => LsOwn w base vX X) :=
  fun _ _ _ m hF h => h.modT hx m (fun b hb => (hF b hb).2) (fun b h1 h2 hb => (hF b hb).1 (hZ b h1 h2))
theorem StabZ.and {Z Z' : Nat → Prop} {J J' : World → Prop} (h : StabZ Z J) (h' : StabZ Z' J') : StabZ (fun b => Z b ∨ Z' b) (fun w => J w ∧ J' w) :=
  fun F w w' m hF hj => ⟨h F w w' m (fun b hb => ⟨fun hz => (hF b hb).1 (.inl hz), (hF b hb).2⟩) hj.1, h' F w w' m (fun b hb => ⟨fun hz => (hF b hb).1 (.inr hz), (hF b hb).2⟩) hj.2⟩
structure Log2I (W : World) (Z : Nat → Prop) (g mb ga gb : Nat) (a b : Int) (A B : List (List UInt8)) (J : World → Prop) (w : World) : Prop where
  dsk : ∃ fs, DskAt w g mb 5000 false (-1) fs ∧ (fs.map Fl.log).Perm (twoSt a b (framesB 0 A) (framesB 0 B)) ∧ (∀ k, DskF g mb fs k → ¬ Z k) ∧ (∀ k, DskF g mb fs k → W.heap.size ≤ k) ∧ ¬ DskF g mb fs ga ∧ ¬ DskF g mb fs gb
  la : LogAt w ga g a A.length true
  lb : LogAt w gb g b B.length true
  ne : ga ≠ gb
  glo : W.heap.size ≤ ga ∧ ¬ Z ga ∧ W.heap.size ≤ gb ∧ ¬ Z gb
  n6 : ∀ k, Z k → k < w.heap.size
  below : Below W.heap.size W w
  stab : StabZ Z J
  j : J w
section
variable {W : World} {Z : Nat → Prop} {g mb ga gb : Nat} {a b : Int} {A B : List (List UInt8)} {J : World → Prop} {w w' : World}
theorem Log2I.swap (h : Log2I W Z g mb ga gb a b A B J w) : Log2I W Z g mb gb ga b a B A J w := by
  obtain ⟨⟨fs, h1, h2, h3, h4, h5, h6⟩, h7, h8, h9, h10, h11, h12, h13, h14⟩ := h
  exact ⟨⟨fs, h1, h2.trans (twoSt_swap _ _ _ _), h3, h4, h6, h5⟩, h8, h7, h9.symm, ⟨h10.2.2.1, h10.2.2.2, h10.1, h10.2.1⟩, h11, h12, h13, h14⟩
theorem Log2I.all (h : Log2I W Z g mb ga gb a b A B J w) (hb : Below w.heap.size w w') : Log2I W Z g mb ga gb a b A B J w' := by
  obtain ⟨⟨fs, h1, h2⟩, h7, h8, h9, h10, h11, h12, h13, h14⟩ := h
  exact ⟨⟨fs, h1.all hb, h2⟩, Blk.all h7 hb, Blk.all h8 hb, h9, h10, fun k hk => Nat.lt_of_lt_of_le (h11 k hk) hb.size, bt h12 hb, h13, h13 (fun _ => False) w w' (Mod.of_below _ hb) (fun _ hf => hf.elim) h14⟩
theorem Log2I.weaken {Z' : Nat → Prop} {J' : World → Prop} (h : Log2I W Z' g mb ga gb a b A B J' w) (hZ : ∀ k, Z k → Z' k) (hJ : J' w → J w) (hs : StabZ Z J) : Log2I W Z g mb ga gb a b A B J w := by
  obtain ⟨⟨fs, h1, h2, h3, h4⟩, h7, h8, h9, h10, h11, h12, h13, h14⟩ := h
  exact ⟨⟨fs, h1, h2, fun k hk hz => h3 k hk (hZ k hz), h4⟩, h7, h8, h9, ⟨h10.1, fun hz => h10.2.1 (hZ _ hz), h10.2.2.1, fun hz => h10.2.2.2 (hZ _ hz)⟩, fun k hk => h11 k (hZ k hk), h12, hs, hJ h14⟩
end
theorem l2append (W : World) (Z : Nat → Prop) (g mb ga gb : Nat) (a b : Int) (A B : List (List UInt8)) (J : World → Prop) (A0 : Option Addr) (n c : Nat) (bs : List UInt8) (w : World) (HI : Hid (Log2I W Z g mb ga gb a b A B J w)) (hab : a ≠ b) (hn : n ≤ 65536) (HX : Hid (bs.length = n)) (HR : Hid (Rd w w.heap.size A0 n (vByte bs))) (hlen : A.length ≤ 1099511627776) (h1 : 0 ≤ a) (h2 : a < 64) (hroom : (framesB 0 A).length + (framesB 0 B).length + (frameB (A.length : Nat) bs).length ≤ 5000) :
    Calls Try.prog 32 #[.pointer (some ⟨ga, 0, none⟩), .slice A0 n c] w fun e w' => e = .returned (.int .i64 0) ∧ Log2I W Z g mb ga gb a b (A ++ [bs]) B J w' := by
  obtain ⟨⟨fs, hD, hp, hsep, hW, hga, hgb⟩, hla, hlb, hne, hglo, hz6, hbel, hst, hj⟩ := HI.out
  have hfne : frameB (A.length : Nat) bs ≠ [] := fun e => by
    have := frameB_pos (A.length : Nat) bs
    rw [e] at this
    simp at this
  obtain ⟨st, hs1, hs2⟩ := two_app hab hp hfne
  have e1 : framesB 0 (A ++ [bs]) = framesB 0 A ++ frameB (A.length : Nat) bs := by rw [framesB_snoc, Nat.zero_add]
  refine (logAppend_ok ga g mb 5000 a A.length (-1) fs st A0 n c bs w (Lib.hid hla) (Lib.hid hD) hga hn HX HR hlen h1 h2 (by rw [two_sum hp]; exact hroom) (Lib.hid hs1) (Lib.hid rfl) (Lib.hid rfl)).mono ?_
  rintro e w' ⟨rfl, fs', k1, k2, k3, m, k5⟩
  have hT : ∀ k, (DskF g mb fs k ∨ k = ga) → ¬ Z k ∧ ¬ Ty w k 23 := by
    rintro k (hk | rfl)
    · exact ⟨hsep k hk, hD.noRow k hk⟩
    · exact ⟨hglo.2.1, fun ht => absurd (Ty.unique (Blk.ty hla) ht) (by decide)⟩
  have hWW : ∀ k, (DskF g mb fs k ∨ k = ga) → W.heap.size ≤ k := by
    rintro k (hk | rfl)
    · exact hW k hk
    · exact hglo.1
  have hsz := m.size
  have hwz := hbel.size
  have hla' := Blk.lt hla
  have hlb' := Blk.lt hlb
  refine ⟨rfl, ⟨⟨fs', k2, by rw [k1, e1]; exact hs2, fun k hk hz => ?_, fun k hk => ?_, fun hk => ?_, fun hk => ?_⟩, by rw [List.length_append]; exact k3, m.blk hlb (fun h => h.elim hgb (fun e => hne e.symm)), hne, hglo, fun k hk => Nat.lt_of_lt_of_le (hz6 k hk) hsz, m.below hbel hwz hWW, hst, hst _ w w' m hT hj⟩⟩
  · rcases k5 k hk with h | h
    · exact hsep k h hz
    · have := hz6 k hz
      omega
  · rcases k5 k hk with h | h
    · exact hW k h
    · omega
  · rcases k5 ga hk with h | h
    · exact hga h
    · omega
  · rcases k5 gb hk with h | h
    · exact hgb h
    · omega
theorem l2append_b (W : World) (Z : Nat → Prop) (g mb ga gb : Nat) (a b : Int) (A B : List (List UInt8)) (J : World → Prop) (A0 : Option Addr) (n c : Nat) (bs : List UInt8) (w : World) (HI : Hid (Log2I W Z g mb ga gb a b A B J w)) (hab : a ≠ b) (hn : n ≤ 65536) (HX : Hid (bs.length = n)) (HR : Hid (Rd w w.heap.size A0 n (vByte bs))) (hlen : B.length ≤ 1099511627776) (h1 : 0 ≤ b) (h2 : b < 64) (hroom : (framesB 0 A).length + (framesB 0 B).length + (frameB (B.length : Nat) bs).length ≤ 5000) :
    Calls Try.prog 32 #[.pointer (some ⟨gb, 0, none⟩), .slice A0 n c] w fun e w' => e = .returned (.int .i64 0) ∧ Log2I W Z g mb ga gb a b A (B ++ [bs]) J w' := by
  refine (l2append W Z g mb gb ga b a B A J A0 n c bs w (Lib.hid HI.out.swap) hab.symm hn HX HR hlen h1 h2 (by omega)).mono ?_
  rintro e w' ⟨rfl, h⟩
  exact ⟨rfl, h.swap⟩
/-- A call that changes the disk alone. -/
theorem Log2I.disk {W : World} {Z : Nat → Prop} {g mb ga gb : Nat} {a b : Int} {A B : List (List UInt8)} {J : World → Prop} {w w' : World} {fs fs' : List Fl} (h : Log2I W Z g mb ga gb a b A B J w) (hD : DskAt w g mb 5000 false (-1) fs) (hsep : ∀ k, DskF g mb fs k → ¬ Z k) (hW : ∀ k, DskF g mb fs k → W.heap.size ≤ k) (hga : ¬ DskF g mb fs ga) (hgb : ¬ DskF g mb fs gb)
    (k2 : DskAt w' g mb 5000 false (-1) fs') (k1 : (fs'.map Fl.log).Perm (twoSt a b (framesB 0 A) (framesB 0 B))) (m : Mod (DskF g mb fs) w w') (k5 : ∀ k, DskF g mb fs' k → DskF g mb fs k ∨ w.heap.size ≤ k) : Log2I W Z g mb ga gb a b A B J w' := by
  obtain ⟨-, hla, hlb, hne, hglo, hz6, hbel, hst, hj⟩ := h
  have hsz := m.size
  have hwz := hbel.size
  have hla' := Blk.lt hla
  have hlb' := Blk.lt hlb
  refine ⟨⟨fs', k2, k1, fun k hk hz => ?_, fun k hk => ?_, fun hk => ?_, fun hk => ?_⟩, m.blk hla hga, m.blk hlb hgb, hne, hglo, fun k hk => Nat.lt_of_lt_of_le (hz6 k hk) hsz, m.below hbel hwz hW, hst, hst _ w w' m (fun k hk => ⟨hsep k hk, hD.noRow k hk⟩) hj⟩
  · rcases k5 k hk with h | h
    · exact hsep k h hz
    · have := hz6 k hz
      omega
  · rcases k5 k hk with h | h
    · exact hW k h
    · omega
  · rcases k5 ga hk with h | h
    · exact hga h
    · omega
  · rcases k5 gb hk with h | h
    · exact hgb h
    · omega
theorem l2crash (W : World) (Z : Nat → Prop) (g mb ga gb : Nat) (a b : Int) (A B : List (List UInt8)) (J : World → Prop) (w : World) (HI : Hid (Log2I W Z g mb ga gb a b A B J w)) (ha1 : 0 ≤ a) (ha2 : a < 64) (hb1 : 0 ≤ b) (hb2 : b < 64) :
    Calls Try.prog 36 #[.pointer (some ⟨g, 0, none⟩), .slice none 0 0, .int .i64 (-1)] w fun e w' => e = .returned (.tuple #[]) ∧ Log2I W Z g mb ga gb a b A B J w' := by
  obtain ⟨fs, hD, hp, hsep, hW, hga, hgb⟩ := HI.out.dsk
  have hc := two_clean hp
  refine (crash_any g mb 5000 false (-1) fs none 0 0 [] (-1) 0 (fs.map Fl.log) (fs.map Fl.log) w (Lib.hid hD) (by have := two_len hp; omega) (Lib.hid (fun f hf => by rcases (hc f hf).2.2 with e | e <;> omega)) (Lib.hid rfl) (Lib.hid Rd.nil) (Lib.hid (fun _ h => by cases h)) (by decide) (by decide) (by decide) (Lib.hid (.inr (.inr ⟨fun f hf => (hc f hf).1, fun f hf => (hc f hf).2.1, rfl, by decide, rfl, rfl, rfl⟩)))).mono ?_
  rintro e w' ⟨rfl, fs', k1, k2, m, k5⟩
  refine ⟨rfl, HI.out.disk hD hsep hW hga hgb k2 ?_ m k5⟩
  rw [k1]
  have := syncLog_perm hp
  rw [syncLog_two] at this
  exact this
/-- What Open returns. -/
def L2OpenPost (W : World) (Z : Nat → Prop) (g mb ga gb : Nat) (a b : Int) (A B : List (List UInt8)) (rs : List (List UInt8)) (J : World → Prop) (w : World) (e : Ending) (w' : World) : Prop :=
  ∃ gl v L M, e = .returned (.tuple #[.pointer (some ⟨gl, 0, none⟩), v, .int .i64 0]) ∧ bsOf L = rs ∧ Log2I W (fun k => Z k ∨ (w.heap.size ≤ k ∧ k < M)) g mb ga gb a b A B (fun u => J u ∧ LsOwn u w.heap.size v L) w'
theorem l2open (W : World) (Z : Nat → Prop) (g mb ga gb : Nat) (a b : Int) (A B : List (List UInt8)) (J : World → Prop) (w : World) (HI : Hid (Log2I W Z g mb ga gb a b A B J w)) (hab : a ≠ b) (ha1 : 0 ≤ a) (ha2 : a < 64) :
    Calls Try.prog 30 #[.pointer (some ⟨g, 0, none⟩), .int .i64 a] w (L2OpenPost W Z g mb ga gb a b A B A J w) := by
  obtain ⟨fs, hD, hp, hsep, hW, hga, hgb⟩ := HI.out.dsk
  refine (open_clean2 g mb 5000 (-1) fs a A w (Lib.hid hD) ha1 ha2 (Lib.hid (two_file hab hp)) (Lib.hid rfl)).mono ?_
  rintro e w' ⟨gl, v, L, fs', M, rfl, -, -, q4, q5, q6, q7, q8, q9, q10, q11, -⟩
  have hsz := q10.size
  have hM : M ≤ w'.heap.size ∨ w'.heap.size < M := by omega
  have h2 : Log2I W Z g mb ga gb a b A B J w' := HI.out.disk hD hsep hW hga hgb q9 (by
    rw [q8]
    have := syncLog_perm hp
    rw [syncLog_two] at this
    exact this) q10 (fun k hk => (q11 k hk).imp id (fun h => Nat.le_trans q7 h))
  have hF' : ∀ k, DskF g mb fs' k → ¬ (Z k ∨ (w.heap.size ≤ k ∧ k < min M w'.heap.size)) := by
    intro k hk hz
    rcases hz with hz | hz
    · rcases q11 k hk with h | h
      · exact hsep k h hz
      · have := HI.out.n6 k hz
        omega
    · rcases q11 k hk with h | h
      · have := hD.ltF k h
        omega
      · omega
  obtain ⟨⟨fs2, -⟩, hla, hlb, hne, hglo, hz6, hbel, hst, hj⟩ := h2
  have hla' := Blk.lt HI.out.la
  have hlb' := Blk.lt HI.out.lb
  refine ⟨gl, v, L, min M w'.heap.size, rfl, q5, ⟨⟨fs', q9, by rw [q8]; have := syncLog_perm hp; rw [syncLog_two] at this; exact this, hF', fun k hk => ?_, fun hk => ?_, fun hk => ?_⟩, hla, hlb, hne, ⟨hglo.1, ?_, hglo.2.2.1, ?_⟩, ?_, hbel, HI.out.stab.and (stabz_ls (p := w.heap.size) (q := min M w'.heap.size) (fun z hz => ?_) (fun k h1 h2 => ⟨h1, h2⟩)), hj, q4⟩⟩
  · have := HI.out.below.size
    rcases q11 k hk with h | h
    · exact hW k h
    · omega
  · rcases q11 ga hk with h | h
    · exact hga h
    · omega
  · rcases q11 gb hk with h | h
    · exact hgb h
    · omega
  · rintro (h | h)
    · exact hglo.2.1 h
    · omega
  · rintro (h | h)
    · exact hglo.2.2.2 h
    · omega
  · rintro k (h | h)
    · exact hz6 k h
    · omega
  · intro g0 off e hn
    obtain ⟨h1, h2⟩ := q6 z hz g0 off e hn
    obtain ⟨b', o', cs, fr, e', hh, -⟩ := (q4.2 z hz).2.2.2 hn
    rw [e] at e'
    injection e' with e'
    injection e' with e' _ _
    have hlt := (Array.getElem?_eq_some_iff.1 hh).1
    rw [← e'] at hlt
    omega
theorem l2open_b (W : World) (Z : Nat → Prop) (g mb ga gb : Nat) (a b : Int) (A B : List (List UInt8)) (J : World → Prop) (w : World) (HI : Hid (Log2I W Z g mb ga gb a b A B J w)) (hab : a ≠ b) (hb1 : 0 ≤ b) (hb2 : b < 64) :
    Calls Try.prog 30 #[.pointer (some ⟨g, 0, none⟩), .int .i64 b] w (L2OpenPost W Z g mb ga gb a b A B B J w) := by
  refine (l2open W Z g mb gb ga b a B A J w (Lib.hid HI.out.swap) hab.symm hb1 hb2).mono ?_
  rintro e w' ⟨gl, v, L, M, rfl, h1, h2⟩
  exact ⟨gl, v, L, M, rfl, h1, h2.swap⟩
end Go.Proofs.Ytldmokjpfnakkaa

/- The walk of JournalApart. -/
namespace Go.Proofs.Ytldmokjpfnakkaa
open Go.ChangeShapes Go.WideShapes Go.ChangeAt Go.RowKit Go.ChangeMaps

theorem take_frames_all {X : List Bz} (hs : ∀ z ∈ X, z.bs.length ≤ 10) (hn : X.length ≤ 6) (q : Nat) : (framesB 0 ((bsOf X).take q)).length ≤ 300 := by
  by_cases h : q ≤ X.length
  · have := take_frames hs hn q h
    omega
  · have := take_frames hs hn X.length (Nat.le_refl _)
    rw [List.take_of_length_le (by rw [bsOf_length]; exact Nat.le_refl _)] at this
    rw [List.take_of_length_le (by rw [bsOf_length]; omega)]
    omega
theorem firstApp_any (g mb : Nat) (A : Option Addr) (n c : Nat) (r : List UInt8) (w : World) (HD : Hid (DskAt w g mb 5000 false (-1) [])) (HX : Hid (r.length = n)) (hn : n ≤ 3) (HR : Hid (Rd w w.heap.size A n (vByte r))) (HA : Hid (∀ b off, 0 < n → A = some ⟨b, off, none⟩ → ¬ DskF g mb [] b)) :
    Calls Try.prog 35 #[.pointer (some ⟨g, 0, none⟩), .int .i64 4, .slice A n c] w fun e w' => e = .returned (.int .i64 0) ∧ DskNext g mb 5000 false (-1) [] (fileSt 4 r 0) w w' := by
  rcases Nat.eq_zero_or_pos n with h | h
  · subst h
    obtain rfl : r = [] := List.eq_nil_of_length_eq_zero HX.out
    exact appendD_zero g mb 5000 (-1) [] 4 A c w HD (by decide) (by decide)
  · have := appendD_new g mb 5000 (-1) [] 4 A n c r w HD (Lib.hid rfl) (by decide) (by decide) HX h (by simp [sumL]; omega) HR (Lib.hid (fun b off e => HA.out b off h e))
    have e : ([].map Fl.log ++ [(4, r, 0)] : List (Int × List UInt8 × Nat)) = fileSt 4 r 0 := by
      unfold fileSt
      rw [if_neg (fun e => by have := HX.out; rw [e] at this; simp at this; omega)]
      rfl
    rw [e] at this
    exact this
theorem scan_small {r : List UInt8} (h : r.length ≤ 3) : ScanIs r [] 0 := ⟨rfl, r, rfl, fun x t e => by
  have h1 := congrArg List.length e
  rw [List.length_append] at h1
  have h2 := frameB_four ((([] : List (List UInt8)).length : Nat) : Int) x
  omega⟩
theorem fileSt_sync (a : Int) (r : List UInt8) (d : Nat) : syncLog (fileSt a r d) = fileSt a r r.length := by
  unfold fileSt
  split <;> rfl

set_option maxRecDepth 100000 in
set_option maxHeartbeats 100000000 in
theorem JournalApart_walk (W : World) (A0 : Option Addr) (n0 c0 : Nat) (f0 : Nat → Int) (_hA0 : A0 = none → n0 = 0) (_hn0 : n0 ≤ c0) (_hc0 : c0 ≤ 9223372036854775807) (hR0 : Rd W W.heap.size A0 n0 (fun j => .int .i64 (f0 j))) (hw0 : Hid (∀ j, j < n0 → (Lit.int .i64 (f0 j)).wf = true)) (A1 : Option Addr) (n1 c1 : Nat) (f1 : Nat → Int) (_hA1 : A1 = none → n1 = 0) (_hn1 : n1 ≤ c1) (_hc1 : c1 ≤ 9223372036854775807) (hR1 : Rd W W.heap.size A1 n1 (fun j => .int .i64 (f1 j))) (hw1 : Hid (∀ j, j < n1 → (Lit.int .i64 (f1 j)).wf = true)) (A2 : Option Addr) (n2 c2 : Nat) (f2 : Nat → Int) (_hA2 : A2 = none → n2 = 0) (hn2 : n2 ≤ c2) (hc2 : c2 ≤ 9223372036854775807) (hR2 : Rd W W.heap.size A2 n2 (fun j => .int .u8 (f2 j))) (hw2 : Hid (∀ j, j < n2 → (Lit.int .u8 (f2 j)).wf = true)) :
    Calls Try.prog 7 #[.slice A0 n0 c0, .slice A1 n1 c1, .slice A2 n2 c2] W fun e w' => e = .returned (.bool true) ∧ Below W.heap.size W w' := by
  have hb := Below.refl W.heap.size W
  go_enter Try.func7, Try.ntmps7
  clear hb
  go_wp2_with fail
  refine (fresh_any 5000 _ (by decide)).mono ?_
  rintro e w2 ⟨g, mb, rfl, hg2, hmb2, hD2, hb2⟩
  have hbl2 : ∀ b, DskF g mb [] b → b = g ∨ b = mb := by
    rintro b (e | e | ⟨f, hf, -⟩)
    · exact .inl e
    · exact .inr e
    · cases hf
  have hR2 := rd_list (hR2.all hb2) (fun j hj => wf_u8 (hw2.out j hj))
  go_wp2_with fail
  refine (few_bytes _ _ _ 3 _ rfl ((List.range n2).map fun j => UInt8.ofNat (f2 j).toNat) _ (Lib.hid (by simp)) hR2 hn2 hc2 (by decide)).mono ?_
  rintro e w3 ⟨Ar, cr, nr, r, rfl, -, -, hnr, -, HLr, -, hownr, hRr, hb3⟩
  have hD3 := hD2.all hb3
  have HAr : Hid (∀ b off, 0 < nr → Ar = some ⟨b, off, none⟩ → ¬ DskF g mb [] b) := Lib.hid (fun b off hn e hf => by
    obtain ⟨gq, eg, hgq, -⟩ := own_some hownr hn
    rw [e] at eg
    injection eg with eg
    injection eg with eg _ _
    have := hD2.ltF b hf
    omega)
  have hB3 := bt hb2 hb3
  clear hb2 hb3 hD2 hownr hR2
  go_wp2_with fail
  refine (firstApp_any g mb Ar nr cr r _ (Lib.hid hD3) HLr hnr (Lib.hid hRr) HAr).mono ?_
  rintro e w4 ⟨rfl, fs4, hst4, hD4, m4, hF4⟩
  have hs3 := hB3.size
  have hB4 : Below W.heap.size W w4 := m4.below hB3 hB3.size (fun b hb => (hbl2 b hb).elim (fun e => e ▸ hg2) (fun e => e ▸ hmb2))
  have hW4 : ∀ k, DskF g mb fs4 k → W.heap.size ≤ k := fun k hk => (hF4 k hk).elim (fun h => (hbl2 k h).elim (fun e => e ▸ hg2) (fun e => e ▸ hmb2)) (fun h => by omega)
  clear m4 hF4 hD3 hRr HAr hB3
  --@1
  go_wp2_with fail
  refine (open_clean g mb 5000 (-1) fs4 3 [] _ (Lib.hid hD4) (by decide) (by decide) (Lib.hid (by
    unfold fileBs
    rcases fileSt_cases hst4 with ⟨rfl, -⟩ | ⟨f, rfl, hf, -⟩
    · rfl
    · simp [findF, hf, framesB])) (Lib.hid rfl)).mono ?_
  rintro e w5 ⟨ga, v5, L5, fs5, rfl, hga5, hLa5, hv5, hbs5, -, hst5, hD5, m5, hF5, hnga5⟩
  rw [hst4, fileSt_sync] at hst5
  replace hD5 : DskAt w5 g mb 5000 false (-1) fs5 := hD5
  replace hLa5 : LogAt w5 ga g 3 0 true := hLa5
  have hs4 := hB4.size
  have hB5 : Below W.heap.size W w5 := m5.below hB4 hB4.size hW4
  have hW5 : ∀ k, DskF g mb fs5 k → W.heap.size ≤ k := fun k hk => (hF5 k hk).elim (hW4 k) (fun h => by omega)
  obtain ⟨A5, c5, rfl⟩ := hv5.slice
  have hl5 : L5.length = 0 := by rw [← bsOf_length, hbs5]; rfl
  rw [hl5]
  clear m5 hF5 hD4 hst4 hv5 hbs5 hl5
  go_wp2_with fail
  refine (open1_any g mb 5000 fs5 4 r r.length 0 [] _ (Lib.hid hD5) (Lib.hid hst5) (by decide) (by decide) (Lib.hid (scan_small (by rw [HLr.out]; exact hnr)))).mono ?_
  rintro e w6 ⟨gb, v6, L6, fs6, rfl, hgb6, hLb6, hv6, hbs6, -, hst6, hD6, m6, hF6, hngb6⟩
  replace hst6 : fs6.map Fl.log = [] := hst6
  obtain rfl : fs6 = [] := by simpa using hst6
  replace hLb6 : LogAt w6 gb g 4 0 true := hLb6
  have hLa6 : LogAt w6 ga g 3 0 true := m6.blk hLa5 hnga5
  have hs5 := hB5.size
  have hlga := Blk.lt hLa5
  have hB6 : Below W.heap.size W w6 := m6.below hB5 hB5.size hW5
  have hnga6 : ¬ DskF g mb [] ga := fun h => (hF6 ga h).elim hnga5 (fun h => by omega)
  obtain ⟨A6, c6, rfl⟩ := hv6.slice
  have hl6 : L6.length = 0 := by rw [← bsOf_length, hbs6]; rfl
  rw [hl6]
  clear m6 hF6 hD5 hst5 hv6 hbs6 hl6 hst6 hW4 hW5 hnga5 hLa5
  --@2
  go_wp2_with fail
  refine (records2_any _ _ _ f0 _ (hR0.all hB6) (by omega) (Lib.hid (fun j hj => wf_i64 (hw0.out j hj)))).mono ?_
  rintro e w7 ⟨v7, X, rfl, hX7, hrs7, hb7, hlow7⟩
  obtain ⟨AX, cX, rfl⟩ := hX7.slice
  have HSX : Hid (∀ z ∈ X, z.bs.length ≤ 10) := Lib.hid (fun z hz => recsOf_small n0 f0 z.bs (by rw [← hrs7]; exact List.mem_map.2 ⟨z, hz, rfl⟩))
  have hlx : X.length ≤ 6 := by rw [← bsOf_length, hrs7, recsOf_len]; omega
  have hB7 := bt hB6 hb7
  go_wp2_with fail
  refine (records2_any _ _ _ f1 _ (hR1.all hB7) (by omega) (Lib.hid (fun j hj => wf_i64 (hw1.out j hj)))).mono ?_
  rintro e w8 ⟨v8, Y, rfl, hY8, hrs8, hb8, hlow8⟩
  obtain ⟨AY, cY, rfl⟩ := hY8.slice
  have HSY : Hid (∀ z ∈ Y, z.bs.length ≤ 10) := Lib.hid (fun z hz => recsOf_small n1 f1 z.bs (by rw [← hrs8]; exact List.mem_map.2 ⟨z, hz, rfl⟩))
  have hly : Y.length ≤ 6 := by rw [← bsOf_length, hrs8, recsOf_len]; omega
  obtain ⟨nx, hnx⟩ : ∃ nx, X.length = nx := ⟨_, rfl⟩
  obtain ⟨ny, hny⟩ : ∃ ny, Y.length = ny := ⟨_, rfl⟩
  have hs7 := hb7.size
  have hs8 := hb8.size
  have hlgb := Blk.lt hLb6
  have hI8 : Log2I W (fun k => (w6.heap.size ≤ k ∧ k < w7.heap.size) ∨ (w7.heap.size ≤ k ∧ k < w8.heap.size)) g mb ga gb 3 4 [] [] (fun w => LsOwn w w6.heap.size (.slice AX X.length cX) X ∧ LsOwn w w7.heap.size (.slice AY Y.length cY) Y) w8 :=
    ⟨⟨[], (hD6.all hb7).all hb8, List.Perm.refl _, fun k hk => by have := hD6.ltF k hk; omega, fun k hk => (hbl2 k hk).elim (fun e => e ▸ hg2) (fun e => e ▸ hmb2), hnga6, hngb6⟩, Blk.all (Blk.all hLa6 hb7) hb8, Blk.all (Blk.all hLb6 hb7) hb8, by omega, ⟨by omega, by omega, by omega, by omega⟩, fun k hk => by omega, bt hB7 hb8,
      (stabz_ls (p := w6.heap.size) (q := w7.heap.size) (fun z hz => (hX7.2 z hz).inI (hlow7 z hz)) (fun k h1 h2 => ⟨h1, h2⟩)).and (stabz_ls (p := w7.heap.size) (q := w8.heap.size) (fun z hz => (hY8.2 z hz).inI (hlow8 z hz)) (fun k h1 h2 => ⟨h1, h2⟩)), hX7.all hb8, hY8⟩
  rw [hnx] at hI8 ⊢ hlx
  rw [hny] at hI8 ⊢ hly
  have HI8 := Lib.hid hI8
  have HNX := Lib.hid hnx
  have HNY := Lib.hid hny
  obtain ⟨Z, hZ⟩ : ∃ Z : Nat → Prop, (fun k => (w6.heap.size ≤ k ∧ k < w7.heap.size) ∨ (w7.heap.size ≤ k ∧ k < w8.heap.size)) = Z := ⟨_, rfl⟩
  rw [hZ] at HI8
  obtain ⟨J, hJ⟩ : ∃ J : World → Prop, (fun w => LsOwn w w6.heap.size (.slice AX nx cX) X ∧ LsOwn w w7.heap.size (.slice AY ny cY) Y) = J := ⟨_, rfl⟩
  rw [hJ] at HI8
  have HJ : Hid (∀ w, J w → LsRd w AX nx cX X ∧ LsRd w AY ny cY Y) := Lib.hid (fun w h => by
    rw [← hJ] at h
    exact ⟨LsOwnR.rd h.1.r, LsOwnR.rd h.2.r⟩)
  have HST := Lib.hid HI8.out.stab
  clear hD6 hLa6 hLb6 hnga6 hngb6 hbl2 hB6 hB7 hs3 hs4 hs5 hlga hlgb hga5 hgb6 hX7 hY8 hrs7 hrs8 hlow7 hlow8 hb7 hb8 hI8 hnx hny hg2 hmb2 hZ hJ hs7 hs8 hB4 hB5
  go_wp2
  --@3
  go_loopw [16] (fun v wr => ∃ (i : Nat) (A B : List (List UInt8)), i ≤ 6 ∧ v = .int .i64 (i : Int) ∧ Hid (A = (bsOf X).take i) ∧ Hid (A.length = min i nx) ∧ Hid (B = (bsOf Y).take i) ∧ Hid (B.length = min i ny) ∧ Hid (Log2I W Z g mb ga gb 3 4 A B J wr)) (fun v _ => 6 - (intOf v).toNat)
  case atStart => exact ⟨0, [], [], by omega, rfl, Lib.hid (by simp), Lib.hid (by simp), Lib.hid (by simp), Lib.hid (by simp), HI8⟩
  case round =>
    obtain ⟨i, A, B, hi, rfl, HA, HAL, HB, HBL, HI⟩ := hrel
    by_cases hlt : i < 6
    · have hfr1 := take_frames_all HSX.out (by rw [HNX.out]; exact hlx) i
      have hfr2 := take_frames_all HSY.out (by rw [HNY.out]; exact hly) i
      rw [← HA.out] at hfr1
      rw [← HB.out] at hfr2
      by_cases hA : i < nx
      · obtain ⟨bA, oA, zA, hbeA, -, hcA, hzA, hrA⟩ := (HJ.out _ HI.out.j).1.cell hA
        have HZA := Lib.hid hzA
        have HZNA := Lib.hid hrA.len
        have HZRA := Lib.hid hrA.rd
        have hznA : zA.n ≤ 10 := by
          have := HSX.out zA (List.mem_of_getElem? hzA)
          have := hrA.len
          omega
        have hfA := frameB_len (k := (A.length : Nat)) (bs := zA.bs) (by rw [HAL.out]; exact ⟨by omega, by omega⟩) (by rw [HZNA.out]; omega)
        rw [HZNA.out] at hfA
        subst hbeA
        clear hzA hrA
        go_wp2_with fail
        refine (l2append W Z g mb ga gb 3 4 A B J _ _ _ zA.bs _ HI (by decide) (by omega) HZNA HZRA (by rw [HAL.out]; omega) (by decide) (by decide) (by omega)).mono ?_
        rintro e wA ⟨rfl, hIA⟩
        have HIA := Lib.hid hIA
        have HA2 : Hid (A ++ [zA.bs] = (bsOf X).take (i + 1)) := Lib.hid (by rw [take_next HZA.out, HA.out])
        have HAL2 : Hid ((A ++ [zA.bs]).length = min (i + 1) nx) := Lib.hid (by rw [List.length_append, HAL.out, List.length_singleton]; omega)
        clear hIA hcA HI
        by_cases hB : i < ny
        · have hfr3 := take_frames_all HSX.out (by rw [HNX.out]; exact hlx) (i + 1)
          rw [← HA2.out] at hfr3
          obtain ⟨bB, oB, zB, hbeB, -, hcB, hzB, hrB⟩ := (HJ.out _ HIA.out.j).2.cell hB
          have HZB := Lib.hid hzB
          have HZNB := Lib.hid hrB.len
          have HZRB := Lib.hid hrB.rd
          have hznB : zB.n ≤ 10 := by
            have := HSY.out zB (List.mem_of_getElem? hzB)
            have := hrB.len
            omega
          have hfB := frameB_len (k := (B.length : Nat)) (bs := zB.bs) (by rw [HBL.out]; exact ⟨by omega, by omega⟩) (by rw [HZNB.out]; omega)
          rw [HZNB.out] at hfB
          subst hbeB
          clear hzB hrB
          go_wp2_with fail
          refine (l2append_b W Z g mb ga gb 3 4 (A ++ [zA.bs]) B J _ _ _ zB.bs _ HIA (by decide) (by omega) HZNB HZRB (by rw [HBL.out]; omega) (by decide) (by decide) (by omega)).mono ?_
          rintro e wB ⟨rfl, hIB⟩
          have HIB := Lib.hid hIB
          have HB2 : Hid (B ++ [zB.bs] = (bsOf Y).take (i + 1)) := Lib.hid (by rw [take_next HZB.out, HB.out])
          have HBL2 : Hid ((B ++ [zB.bs]).length = min (i + 1) ny) := Lib.hid (by rw [List.length_append, HBL.out, List.length_singleton]; omega)
          clear hIB hcB HIA
          go_wp2
          exact ⟨⟨i + 1, A ++ [zA.bs], B ++ [zB.bs], by omega, by go_num, HA2, HAL2, HB2, HBL2, HIB⟩, by simp [intOf]; omega⟩
        · have hdB : decide (i < ny) = false := by simpa using hB
          have HB2 : Hid (B = (bsOf Y).take (i + 1)) := Lib.hid (by rw [HB.out, List.take_of_length_le (by rw [bsOf_length, HNY.out]; omega), List.take_of_length_le (by rw [bsOf_length, HNY.out]; omega)])
          have HBL2 : Hid (B.length = min (i + 1) ny) := Lib.hid (by rw [HBL.out]; omega)
          go_wp2
          exact ⟨⟨i + 1, A ++ [zA.bs], B, by omega, by go_num, HA2, HAL2, HB2, HBL2, HIA⟩, by simp [intOf]; omega⟩
      · have hdA : decide (i < nx) = false := by simpa using hA
        have HA2 : Hid (A = (bsOf X).take (i + 1)) := Lib.hid (by rw [HA.out, List.take_of_length_le (by rw [bsOf_length, HNX.out]; omega), List.take_of_length_le (by rw [bsOf_length, HNX.out]; omega)])
        have HAL2 : Hid (A.length = min (i + 1) nx) := Lib.hid (by rw [HAL.out]; omega)
        by_cases hB : i < ny
        · obtain ⟨bB, oB, zB, hbeB, -, hcB, hzB, hrB⟩ := (HJ.out _ HI.out.j).2.cell hB
          have HZB := Lib.hid hzB
          have HZNB := Lib.hid hrB.len
          have HZRB := Lib.hid hrB.rd
          have hznB : zB.n ≤ 10 := by
            have := HSY.out zB (List.mem_of_getElem? hzB)
            have := hrB.len
            omega
          have hfB := frameB_len (k := (B.length : Nat)) (bs := zB.bs) (by rw [HBL.out]; exact ⟨by omega, by omega⟩) (by rw [HZNB.out]; omega)
          rw [HZNB.out] at hfB
          subst hbeB
          clear hzB hrB
          go_wp2_with fail
          refine (l2append_b W Z g mb ga gb 3 4 A B J _ _ _ zB.bs _ HI (by decide) (by omega) HZNB HZRB (by rw [HBL.out]; omega) (by decide) (by decide) (by omega)).mono ?_
          rintro e wB ⟨rfl, hIB⟩
          have HIB := Lib.hid hIB
          have HB2 : Hid (B ++ [zB.bs] = (bsOf Y).take (i + 1)) := Lib.hid (by rw [take_next HZB.out, HB.out])
          have HBL2 : Hid ((B ++ [zB.bs]).length = min (i + 1) ny) := Lib.hid (by rw [List.length_append, HBL.out, List.length_singleton]; omega)
          clear hIB hcB HI
          go_wp2
          exact ⟨⟨i + 1, A, B ++ [zB.bs], by omega, by go_num, HA2, HAL2, HB2, HBL2, HIB⟩, by simp [intOf]; omega⟩
        · have hdB : decide (i < ny) = false := by simpa using hB
          have HB2 : Hid (B = (bsOf Y).take (i + 1)) := Lib.hid (by rw [HB.out, List.take_of_length_le (by rw [bsOf_length, HNY.out]; omega), List.take_of_length_le (by rw [bsOf_length, HNY.out]; omega)])
          have HBL2 : Hid (B.length = min (i + 1) ny) := Lib.hid (by rw [HBL.out]; omega)
          go_wp2
          exact ⟨⟨i + 1, A, B, by omega, by go_num, HA2, HAL2, HB2, HBL2, HI⟩, by simp [intOf]; omega⟩
    · --@4
      obtain rfl : i = 6 := by omega
      have HAX : Hid (A = bsOf X) := Lib.hid (by rw [HA.out]; exact List.take_of_length_le (by rw [bsOf_length, HNX.out]; exact hlx))
      have HBY : Hid (B = bsOf Y) := Lib.hid (by rw [HB.out]; exact List.take_of_length_le (by rw [bsOf_length, HNY.out]; exact hly))
      clear HA HAL HB HBL
      go_wp2_with fail
      refine (l2crash W Z g mb ga gb 3 4 A B J _ HI (by decide) (by decide) (by decide) (by decide)).mono ?_
      rintro e w9 ⟨rfl, hI9⟩
      have HI9 := Lib.hid hI9
      clear hI9 HI
      go_wp2
      --@5
      go_loopw [17] (fun v wq => ∃ i : Nat, i ≤ 2 ∧ v = .int .i64 (i : Int) ∧ Hid (Log2I W Z g mb ga gb 3 4 A B J wq)) (fun v _ => 2 - (intOf v).toNat)
      case atStart => exact ⟨0, by omega, rfl, HI9⟩
      case round =>
        obtain ⟨i, hi, rfl, HI⟩ := hrel
        by_cases hlt : i < 2
        · go_wp2_with fail
          refine (l2open W Z g mb ga gb 3 4 A B J _ HI (by decide) (by decide) (by decide)).mono ?_
          rintro e w10 ⟨g10, v10, L10, M10, rfl, hbs10, hI10⟩
          obtain ⟨A10, c10, rfl⟩ := hI10.j.2.slice
          obtain ⟨n10, hn10⟩ : ∃ n10, L10.length = n10 := ⟨_, rfl⟩
          have hl10 : n10 ≤ 6 := by rw [← hn10, ← bsOf_length, hbs10, HAX.out, bsOf_length, HNX.out]; exact hlx
          rw [hn10] at hI10 ⊢
          have HBS10 := Lib.hid hbs10
          have HI10 := Lib.hid hI10
          clear hI10 hbs10 hn10
          go_wp2_with fail
          refine (l2open_b W _ g mb ga gb 3 4 A B _ _ HI10 (by decide) (by decide) (by decide)).mono ?_
          rintro e w11 ⟨g11, v11, L11, M11, rfl, hbs11, hI11⟩
          obtain ⟨A11, c11, rfl⟩ := hI11.j.2.slice
          obtain ⟨n11, hn11⟩ : ∃ n11, L11.length = n11 := ⟨_, rfl⟩
          have hl11 : n11 ≤ 6 := by rw [← hn11, ← bsOf_length, hbs11, HBY.out, bsOf_length, HNY.out]; exact hly
          rw [hn11] at hI11 ⊢
          have HBS11 := Lib.hid hbs11
          have hj := hI11.j
          have HL10 := Lib.hid (LsOwnR.rd (m := n10) hj.1.2.r)
          have HL11 := Lib.hid (LsOwnR.rd (m := n11) hj.2.r)
          have HXY := Lib.hid (HJ.out _ hj.1.1)
          have HI11 := Lib.hid (hI11.weaken (Z := Z) (J := J) (fun k hk => .inl (.inl hk)) (fun h => h.1.1) HST.out)
          clear hI11 hbs11 hn11 hj HI10 HI
          go_wp2_with fail
          refine (sameLists_any _ _ _ _ _ _ L10 X _ HL10 (Lib.hid HXY.out.1) (by omega) (by omega)).mono ?_
          rintro e w12 ⟨rfl, hb12⟩
          have hd1 : decide (bsOf L10 = bsOf X) = true := by rw [decide_eq_true_iff, HBS10.out, HAX.out]
          rw [hd1]
          have HL12 := Lib.hid (HL11.out.all hb12)
          have HY12 := Lib.hid (HXY.out.2.all hb12)
          have HI12 := Lib.hid (HI11.out.all hb12)
          clear hb12 hd1 HL10 HL11 HXY HI11
          go_wp2_with fail
          refine (sameLists_any _ _ _ _ _ _ L11 Y _ HL12 HY12 (by omega) (by omega)).mono ?_
          rintro e w13 ⟨rfl, hb13⟩
          have hd2 : decide (bsOf L11 = bsOf Y) = true := by rw [decide_eq_true_iff, HBS11.out, HBY.out]
          rw [hd2]
          have HI13 := Lib.hid (HI12.out.all hb13)
          clear hb13 hd2 HL12 HY12 HI12
          go_wp2
          exact ⟨⟨i + 1, by omega, by go_num, HI13⟩, by simp [intOf]; omega⟩
        · have HB := Lib.hid HI.out.below
          clear HI
          go_wp2_with fail
          refine (jlives_any _).mono ?_
          rintro e w14 ⟨rfl, hb14⟩
          go_wp2
          go_ret
          exact ⟨rfl, bt HB.out hb14⟩

end Go.Proofs.Ytldmokjpfnakkaa

/- Two logs on a disk each have their own records, and Open after Open returns the same (JournalApart). -/
namespace Go.Proofs.Ytldmokjpfnakkaa
open Go.ChangeShapes Go.WideShapes Go.ChangeAt Go.RowKit Go.ChangeMaps

set_option maxRecDepth 100000 in
theorem JournalApart_lifted (os : Os) (started : os.Started) (H : Type) (enc : TypeId × Value → H) :
    ReturnsInHanded {} Try.checked os 7 .any (Rows.journalApartSpec.pre6 enc Try.prog Try.f7 Rows.journalApartRow.domain false) (Rows.journalApartSpec.post enc Try.prog Try.f7 false true false false) := by
  refine returnsInHanded_of_change (C := Try.checked) Try.own started (by kernel_rfl) Try.func7
    (ChangeSpec.witness6 (enc := enc) (C := Try.checked) false ⟨#[], #[.slice none 0 0, .slice none 0 0, .slice none 0 0], []⟩ 8 (by kernel_rfl) (by kernel_rfl) (by kernel_rfl) (by kernel_rfl)) ?_
  intro W base args ds gs before hval0 hW _ _
  have hval : ∀ (j : Nat) t v, Try.f7.params[j]? = some t → args[j]? = some v → Value.okWide Try.prog W .any base t v := hval0
  have hW' := hW
  obtain ⟨p, q, hT0, hV, rfl, hfz, hnd⟩ := hW
  have hT : DataW.TrodAll enc Try.prog W 0 (fun _ => true) true Try.f7.params.toList args.toList ds p := hT0
  rw [Try.params7] at hT hval
  obtain ⟨v0, vs0, d0, ds0, p0, q0, hargs0, rfl, rfl, h0, r0⟩ := trodAll_cons hT
  obtain ⟨v1, vs1, d1, ds1, p1, q1, hargs1, rfl, rfl, h1, r1⟩ := trodAll_cons r0
  obtain ⟨v2, vs2, d2, ds2, p2, q2, hargs2, rfl, rfl, h2, r2⟩ := trodAll_cons r1
  obtain ⟨rfl, rfl, rfl⟩ := trodAll_nil r2
  obtain rfl : args = #[v0, v1, v2] := by cases args; simp_all
  obtain ⟨A0, n0, c0, f0, rfl, hA0, hn0, hc0, hR0, hw0⟩ := open_sl Try.underlying22 Try.underlying3 (by kernel_rfl) (hval 0 22 v0 rfl rfl) h0
  obtain ⟨A1, n1, c1, f1, rfl, hA1, hn1, hc1, hR1, hw1⟩ := open_sl Try.underlying22 Try.underlying3 (by kernel_rfl) (hval 1 22 v1 rfl rfl) h1
  obtain ⟨A2, n2, c2, f2, rfl, hA2, hn2, hc2, hR2, hw2⟩ := open_sl Try.underlying23 Try.underlying5 (by kernel_rfl) (hval 2 23 v2 rfl rfl) h2
  refine (JournalApart_walk W A0 n0 c0 f0 hA0 hn0 hc0 hR0 hw0 A1 n1 c1 f1 hA1 hn1 hc1 hR1 hw1 A2 n2 c2 f2 hA2 hn2 hc2 hR2 hw2).mono fun e W' ⟨he, hb⟩ => ?_
  subst he
  exact ⟨_, rfl, law_post Try.laidOut (by kernel_rfl) (by kernel_rfl) Try.underlying4 rfl hW' rfl hb⟩

theorem JournalApart_holds : Rows.JournalApartSaid :=
  OpenClaim.holds_of_wide 7 Try.f7 rfl rfl rfl rfl rfl rfl rfl ⟨rfl, rfl, rfl, rfl, rfl⟩ rfl rfl rfl rfl rfl (by kernel_rfl) Try.func7 (by kernel_rfl)
    (of_decide_eq_true (by kernel_rfl)) (by unfold Func.isWrapper; first | (rw [if_pos (by decide +kernel)]; kernel_rfl) | (rw [if_neg (by decide +kernel)]; exact ⟨rfl, rfl⟩))
    (fun os started H enc _ => JournalApart_lifted os started H enc)

end Go.Proofs.Ytldmokjpfnakkaa
