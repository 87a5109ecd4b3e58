/- worldmintref25: Open on a disk of one file. -/
import Derived.Test.YtldmokjpfnakkaaGreatHG33
import Derived.Test.YtldmokjpfnakkaaGreatHJrnRefS
import Derived.Test.YtldmokjpfnakkaaGreatHG19

namespace Go.Proofs.YtldmokjpfnakkaaGreat
open Go.RowKit

theorem own_whole {w : World} {e g : Nat} {xs : List Value} (h : w.ownsRow 0 e 1 (.slice (some ⟨g, 0, none⟩) 64 64) 64 xs) (i : Nat) : w.cell? ⟨g, i, none⟩ = xs[i]? := by
  rcases h.2 with ⟨h1, _⟩ | ⟨g1, cap, cur, h1, _, hh, _, _, hs, ht⟩
  · cases h1
  · injection h1 with h1 _ hc
    injection h1 with h1
    injection h1 with h1 _ _
    subst h1 hc
    have e2 : cur.toList = xs := by
      rw [← ht, List.take_of_length_le]
      simp [hs]
    simp [World.cell?, hh, ← e2]
theorem RDk.not3 {w : World} {g gB gF room dur b off : Nat} {x : Int} {o : Bool} {plan : Int} {v : Value} {bs : List UInt8} (h : RDk w g gB gF room o plan v bs dur) (hc : w.cell? ⟨b, off, none⟩ = some (.int .u8 x)) : ¬ D3 g gB gF b := by
  rintro (rfl | rfl | rfl)
  · rw [h.blk.cell off] at hc
    rcases off with _ | _ | _ | _ | _ | n
    all_goals simp at hc
  · rw [own_whole h.rows off] at hc
    by_cases hl : off < 64
    · rw [row2_at _ _ hl] at hc
      obtain ⟨A, c, rfl⟩ := h.slice
      unfold nilV at hc
      split at hc <;> simp at hc
    · rw [List.getElem?_eq_none (by rw [row2_len]; omega)] at hc
      cases hc
  · rw [own_whole h.firm off] at hc
    by_cases hl : off < 64
    · rw [row2_at _ _ hl] at hc
      unfold fV at hc
      split at hc <;> simp at hc
    · rw [List.getElem?_eq_none (by rw [row2_len]; omega)] at hc
      cases hc
theorem modCell3 {F : Nat → Prop} {w w' : World} {b o : Nat} (m : Mod F w w') (hb : b < w.heap.size) (hf : ¬ F b) : w'.cell? ⟨b, o, none⟩ = w.cell? ⟨b, o, none⟩ := by
  have := m.block b hb hf
  simp [World.cell?, this]
theorem Bz.rd.mod3 {w w' : World} {g gB gF room dur : Nat} {o : Bool} {plan : Int} {v : Value} {bs : List UInt8} {z : Bz} (hz : z.rd w) (h : RDk w g gB gF room o plan v bs dur) (m : Mod (D3 g gB gF) w w') : z.rd w' := by
  refine ⟨hz.len, hz.cap, hz.max, fun hn => ?_⟩
  obtain ⟨b, off, e, hlt, hc⟩ := hz.rd hn
  have hs := m.size
  refine ⟨b, off, e, by omega, fun j hj => ?_⟩
  have h0 := hc 0 hn
  have hn3 := h.not3 (by rw [h0]; rfl)
  rw [modCell3 m hlt hn3]
  exact hc j hj
theorem LsOwnR.mod3 {w w' : World} {g gB gF room dur base : Nat} {o : Bool} {plan : Int} {v v2 : Value} {bs : List UInt8} {L : List Bz} (hL : LsOwnR w base v2 L) (h : RDk w g gB gF room o plan v bs dur) (m : Mod (D3 g gB gF) w w') (hb : ∀ b, D3 g gB gF b → b < base) : LsOwnR w' base v2 L :=
  ⟨m.own hL.1 (fun b hq hf => by
    have h1 := (hL.1.lt b hq).1
    have h2 := hb b hf
    omega), fun z hz => (hL.2 z hz).mod3 h m⟩
/-- What Open makes of a file whose records end at m. -/
def opn (plan : Int) (bs : List UInt8) (dur m : Nat) : Int × Bool × Int × List UInt8 × Nat :=
  if m < bs.length then
    if failOff false plan then (23, true, failPlan plan, bs, dur)
    else if failOff false (failPlan plan) then (23, true, failPlan (failPlan plan), bs.take m, min dur m)
    else (0, false, failPlan (failPlan plan), bs.take m, (bs.take m).length)
  else if failOff false plan then (23, true, failPlan plan, bs, dur)
  else (0, false, failPlan plan, bs, bs.length)
def RLogAt (w : World) (gl g n : Nat) (down : Bool) : Prop := Blk w gl 44 #[.pointer (some ⟨g, 0, none⟩), .int .i64 2, .int .i64 (n : Int), .bool down]
def ROpenPost (g gB gF room : Nat) (v : Value) (R : Int × Bool × Int × List UInt8 × Nat) (rs : List (List UInt8)) (w : World) (e : Ending) (w' : World) : Prop :=
  RNext3 g gB gF room v R.2.1 R.2.2.1 R.2.2.2.1 R.2.2.2.2 w w' ∧
  ((R.1 = 0 ∧ ∃ gl v2 L, e = .returned (.tuple #[.pointer (some ⟨gl, 0, none⟩), v2, .int .i64 0]) ∧ w.heap.size ≤ gl ∧ RLogAt w' gl g rs.length false ∧ LsOwnR w' w.heap.size v2 L ∧ bsOf L = rs) ∨
   (R.1 = 23 ∧ e = .returned (.tuple #[.pointer none, .slice none 0 0, .int .i64 23])))
theorem RNext3.first {w w1 w2 : World} {g gB gF room : Nat} {v : Value} {o : Bool} {plan : Int} {bs : List UInt8} {dur : Nat} (hb : Below w.heap.size w w1) (h : RNext3 g gB gF room v o plan bs dur w1 w2) : RNext3 g gB gF room v o plan bs dur w w2 := by
  obtain ⟨v', h1, m, h2⟩ := h
  exact ⟨v', h1, (Mod.of_below _ hb).trans m (fun b hb => .inl hb), h2⟩
theorem RNext3.also {w w1 w2 : World} {g gB gF room : Nat} {v v1 : Value} {o : Bool} {plan : Int} {bs : List UInt8} {dur : Nat} (m : Mod (D3 g gB gF) w w1) (he : v1.ownBlock = v.ownBlock) (h : RNext3 g gB gF room v1 o plan bs dur w1 w2) : RNext3 g gB gF room v o plan bs dur w w2 := by
  obtain ⟨v', h1, m2, h2⟩ := h
  exact ⟨v', h1, m.trans m2 (fun b hb => .inl hb), h2.trans he⟩
theorem RNext3.then_ {w w1 w2 : World} {g gB gF room : Nat} {v : Value} {o : Bool} {plan : Int} {bs : List UInt8} {dur : Nat} (h : RNext3 g gB gF room v o plan bs dur w w1) (hb : Below w1.heap.size w1 w2) : RNext3 g gB gF room v o plan bs dur w w2 := by
  obtain ⟨v', h1, m, h2⟩ := h
  exact ⟨v', h1.all hb, m.then_below hb, h2⟩
set_option maxRecDepth 100000 in
set_option maxHeartbeats 4000000 in
theorem ropen_any (g gB gF room dur m : Nat) (plan : Int) (v : Value) (bs : List UInt8) (rs : List (List UInt8)) (w : World) (HD : Hid (RDk w g gB gF room false plan v bs dur)) (HSC : Hid (ScanIs bs rs m)) :
    Calls Tryz.prog 8 #[.pointer (some ⟨g, 0, none⟩), .int .i64 2] w (ROpenPost g gB gF room v (opn plan bs dur m) rs w) := by
  obtain ⟨A, c, hv⟩ := HD.out.slice
  obtain ⟨n, hn⟩ : ∃ n, bs.length = n := ⟨_, rfl⟩
  rw [hn] at hv
  subst hv
  have hn24 : n ≤ 16777216 := by have := HD.out.room_le; omega
  have HN := Lib.hid hn
  obtain ⟨c0, c1, c2, c3, c4, f3, f4⟩ := HD.out.cells
  have b2 := HD.out.bAt (i := 2) (by omega)
  rw [if_pos rfl] at b2
  have HSB : Hid (Sb w A n c bs) := Lib.hid (by have h0 := HD.out.own; rw [hn] at h0; exact Sb.own h0)
  have H3 : Hid (∀ b, D3 g gB gF b → b < w.heap.size) := Lib.hid (fun b hb => HD.out.ltF b hb.sub)
  clear hn
  go_enter Tryz.func8, Tryz.ntmps8
  go_wp2_with fail
  refine (rscan_any A n c bs _ HSB (by omega)).mono ?_
  rintro e w1 ⟨v2, L, m2, rfl, hL, hsc, hb1⟩
  obtain ⟨e1, e2⟩ := ScanIs.unique (by rw [HN.out]; omega) hsc HSC.out
  subst e2
  obtain ⟨A2, k2, rfl⟩ := hL.slice
  have hll : L.length = rs.length := by rw [← bsOf_length, e1]
  rw [hll] at hL ⊢
  obtain ⟨hmn, hrl⟩ : m2 ≤ n ∧ rs.length ≤ 16777216 := by
    have h3 := framesB_len rs 0
    obtain ⟨h4, rest, h5, -⟩ := HSC.out
    have h6 := congrArg List.length h5
    rw [List.length_append, HN.out] at h6
    omega
  have HD1 := Lib.hid (HD.out.all hb1)
  have HL := Lib.hid hL
  have HE1 := Lib.hid e1
  have HB1 := Lib.hid hb1
  have b1 := HD1.out.bAt (i := 2) (by omega)
  rw [if_pos rfl] at b1
  obtain ⟨d0, d1, d2, d3, d4, -, -⟩ := HD1.out.cells
  clear hL hb1 e1 hsc hll c0 c1 c2 c3 c4 f3 f4 b2 HSB
  rcases Nat.lt_or_ge m2 n with hlt | hge
  · have hltI : (m2 : Int) < (n : Int) := by omega
    obtain ⟨o, ho⟩ : ∃ o, failOff false plan = o := ⟨_, rfl⟩
    have HO := Lib.hid ho
    clear ho
    go_wp2_with fail
    refine (rtrunc_any g gB gF room dur plan A n c m2 bs o w1 HD1 (by omega) HO).mono ?_
    rintro e w3 ⟨rfl, hN3⟩
    have HN3 := Lib.hid hN3
    clear hN3
    cases o
    · obtain ⟨v3, hD3, m3, he3⟩ := HN3.out
      have HD3 := Lib.hid hD3
      have HM3 := Lib.hid m3
      have HE3 := Lib.hid he3
      clear hD3 m3 he3
      obtain ⟨o2, ho2⟩ : ∃ o2, failOff false (failPlan plan) = o2 := ⟨_, rfl⟩
      have HO2 := Lib.hid ho2
      clear ho2
      go_wp2_with fail
      refine (rsync_any g gB gF room (min dur m2) (failPlan plan) v3 (bs.take m2) w3 HD3).mono ?_
      rintro e w4 ⟨rfl, hN4⟩
      rw [HO2.out] at hN4 ⊢
      have HN4 := Lib.hid (RNext3.first HB1.out (hN4.also HM3.out HE3.out))
      have hM4 : Mod (D3 g gB gF) w3 w4 := by obtain ⟨_, _, m4, _⟩ := hN4; exact m4
      have HL4 := Lib.hid ((HL.out.mod3 HD1.out HM3.out H3.out).mod3 HD3.out hM4 H3.out)
      have HS4 := Lib.hid (show w.heap.size ≤ w4.heap.size by have h1 := HB1.out.size; have h2 := HM3.out.size; have h3 := hM4.size; omega)
      clear hN4 hM4
      cases o2
      · have hR : opn plan bs dur m2 = (0, false, failPlan (failPlan plan), bs.take m2, (bs.take m2).length) := by unfold opn; rw [if_pos (by rw [HN.out]; exact hlt), if_neg (by rw [HO.out]; decide), if_neg (by rw [HO2.out]; decide)]
        have HRR := Lib.hid hR
        clear hR
        have hb5 := (Below.refl w4.heap.size w4).alloc (Nat.le_refl _) (.cells #[.pointer (some ⟨g, 0, none⟩), .int .i64 2, .int .i64 ((rs.length : Nat) : Int), .bool false] 44)
        have HP : Hid (ROpenPost g gB gF room (.slice A n c) (0, false, failPlan (failPlan plan), bs.take m2, (bs.take m2).length) rs w (.returned (.tuple #[.pointer (some ⟨w4.heap.size, 0, none⟩), .slice A2 rs.length k2, .int .i64 0])) (w4.alloc (.cells #[.pointer (some ⟨g, 0, none⟩), .int .i64 2, .int .i64 ((rs.length : Nat) : Int), .bool false] 44))) := Lib.hid
          ⟨HN4.out.then_ hb5, .inl ⟨rfl, w4.heap.size, _, L, rfl, HS4.out, Blk.new w4 44 _, HL4.out.all hb5, HE1.out⟩⟩
        clear hb5
        go_wp2
        go_ret3
        rw [HRR.out]
        exact HP.out
      · have hR : opn plan bs dur m2 = (23, true, failPlan (failPlan plan), bs.take m2, min dur m2) := by unfold opn; rw [if_pos (by rw [HN.out]; exact hlt), if_neg (by rw [HO.out]; decide), if_pos (by rw [HO2.out])]
        have HRR := Lib.hid hR
        clear hR
        go_wp2
        go_ret3
        rw [HRR.out]
        exact ⟨HN4.out, .inr ⟨rfl, rfl⟩⟩
    · have hR : opn plan bs dur m2 = (23, true, failPlan plan, bs, dur) := by unfold opn; rw [if_pos (by rw [HN.out]; exact hlt), if_pos (by rw [HO.out])]
      have HRR := Lib.hid hR
      have HN4 := Lib.hid (RNext3.first HB1.out HN3.out)
      clear hR HN3
      go_wp2
      go_ret3
      rw [HRR.out]
      exact ⟨HN4.out, .inr ⟨rfl, rfl⟩⟩
  · have hgeI : ¬ ((m2 : Int) < (n : Int)) := by omega
    obtain ⟨o2, ho2⟩ : ∃ o2, failOff false plan = o2 := ⟨_, rfl⟩
    have HO2 := Lib.hid ho2
    clear ho2
    go_wp2_with fail
    refine (rsync_any g gB gF room dur plan _ bs w1 HD1).mono ?_
    rintro e w4 ⟨rfl, hN4⟩
    rw [HO2.out] at hN4 ⊢
    have HN4 := Lib.hid (RNext3.first HB1.out hN4)
    have hM4 : Mod (D3 g gB gF) w1 w4 := by obtain ⟨_, _, m4, _⟩ := hN4; exact m4
    have HL4 := Lib.hid (HL.out.mod3 HD1.out hM4 H3.out)
    have HS4 := Lib.hid (show w.heap.size ≤ w4.heap.size by have h1 := HB1.out.size; have h3 := hM4.size; omega)
    clear hN4 hM4
    cases o2
    · have hR : opn plan bs dur m2 = (0, false, failPlan plan, bs, bs.length) := by unfold opn; rw [if_neg (by rw [HN.out]; omega), if_neg (by rw [HO2.out]; decide)]
      have HRR := Lib.hid hR
      clear hR
      have hb5 := (Below.refl w4.heap.size w4).alloc (Nat.le_refl _) (.cells #[.pointer (some ⟨g, 0, none⟩), .int .i64 2, .int .i64 ((rs.length : Nat) : Int), .bool false] 44)
      have HP : Hid (ROpenPost g gB gF room (.slice A n c) (0, false, failPlan plan, bs, bs.length) rs w (.returned (.tuple #[.pointer (some ⟨w4.heap.size, 0, none⟩), .slice A2 rs.length k2, .int .i64 0])) (w4.alloc (.cells #[.pointer (some ⟨g, 0, none⟩), .int .i64 2, .int .i64 ((rs.length : Nat) : Int), .bool false] 44))) := Lib.hid
        ⟨HN4.out.then_ hb5, .inl ⟨rfl, w4.heap.size, _, L, rfl, HS4.out, Blk.new w4 44 _, HL4.out.all hb5, HE1.out⟩⟩
      clear hb5
      go_wp2
      go_ret3
      rw [HRR.out]
      exact HP.out
    · have hR : opn plan bs dur m2 = (23, true, failPlan plan, bs, dur) := by unfold opn; rw [if_neg (by rw [HN.out]; omega), if_pos (by rw [HO2.out])]
      have HRR := Lib.hid hR
      clear hR
      go_wp2
      go_ret3
      rw [HRR.out]
      exact ⟨HN4.out, .inr ⟨rfl, rfl⟩⟩
end Go.Proofs.YtldmokjpfnakkaaGreat
