/- The walk of (*dice.Dice).Roll. -/
import Derived.Test.YtklkppmmnlachaaDiceRoll
namespace Go.Proofs.Ytklkppmmnlachaa
open Go.RowKit Go.Shelf
attribute [local go_sem] Oper.semAt_some

/-- The first of the 128 words that is accepted. -/
def rollHit (key at_ n : Int) : Option Nat := (List.range 128).find? fun i => redOk (streamI key (atAdd at_ i)) n
def rollVal (key at_ n : Int) : Int := match rollHit key at_ n with | some i => redVal (streamI key (atAdd at_ i)) n | none => 0
def rollErr (key at_ n : Int) : Int := if n < 1 then 1 else match rollHit key at_ n with | some _ => 0 | none => 4
def rollAt (key at_ n : Int) : Int := if n < 1 then at_ else match rollHit key at_ n with | some i => atAdd at_ (i + 1) | none => atAdd at_ 128
/-- None of the first i words is accepted. -/
def NoHit (key at_ n : Int) (i : Nat) : Prop := ∀ j, j < i → redOk (streamI key (atAdd at_ j)) n = false
theorem rollHit_some {key at_ n : Int} {i : Nat} (h : NoHit key at_ n i) (hi : i < 128) (ho : redOk (streamI key (atAdd at_ i)) n = true) : rollHit key at_ n = some i := by
  unfold rollHit
  rw [List.find?_range_eq_some]
  exact ⟨ho, List.mem_range.2 hi, fun j hj => by simpa using h j hj⟩
theorem rollHit_none {key at_ n : Int} (h : NoHit key at_ n 128) : rollHit key at_ n = none := by
  unfold rollHit
  rw [List.find?_range_eq_none]
  exact fun j hj => by simpa using h j hj
theorem roll_some {key at_ n : Int} {i : Nat} (hn : 1 ≤ n) (h : NoHit key at_ n i) (hi : i < 128) (ho : redOk (streamI key (atAdd at_ i)) n = true) :
    rollVal key at_ n = redVal (streamI key (atAdd at_ i)) n ∧ rollErr key at_ n = 0 ∧ rollAt key at_ n = atAdd at_ (i + 1) := by
  unfold rollVal rollErr rollAt
  rw [rollHit_some h hi ho, if_neg (by omega), if_neg (by omega)]
  exact ⟨rfl, rfl, rfl⟩
theorem roll_none {key at_ n : Int} (hn : 1 ≤ n) (h : NoHit key at_ n 128) : rollVal key at_ n = 0 ∧ rollErr key at_ n = 4 ∧ rollAt key at_ n = atAdd at_ 128 := by
  unfold rollVal rollErr rollAt
  rw [rollHit_none h, if_neg (by omega), if_neg (by omega)]
  exact ⟨rfl, rfl, rfl⟩
theorem roll_arg {key at_ n : Int} (hn : n < 1) : rollVal key at_ n = 0 ∧ rollErr key at_ n = 1 ∧ rollAt key at_ n = at_ := by
  refine ⟨?_, if_pos hn, if_pos hn⟩
  unfold rollVal
  split
  · rename_i i h
    have := List.find?_some h
    rw [redOk_small hn] at this
    cases this
  · rfl

/-- The die at block gd. -/
def Die (w : World) (gd : Nat) (key at_ : Int) : Prop := Blk w gd 75 #[.int .u64 key, .int .i64 at_]

structure RollI (w : World) (gd : Nat) (key at_ n r e : Int) (i : Nat) (W : World) : Prop where
  b0 : Boxed W w.heap.size 3 (.int .i64 n)
  b1 : Boxed W (w.heap.size + 1) 3 (.int .i64 r)
  b2 : Boxed W (w.heap.size + 2) 34 (.int .i64 e)
  b3 : Boxed W (w.heap.size + 3) 31 (.pointer (some ⟨gd, 0, none⟩))
  die : Die W gd key (atAdd at_ i)
  only : w.grownBy W (some gd)

theorem blk_own {W W' : World} {g : Nat} {t : TypeId} {cs : Array Value} {row : Option Nat} (h : Blk W g t cs) (hg : W.grownBy W' row) (hr : ∀ r, row = some r → ∃ o : Obj, W.heap[r]? = some o ∧ o.isCells = false) : Blk W' g t cs :=
  h.grown hg (fun e => by
    obtain ⟨o, ho, hc⟩ := hr g e.symm
    unfold Blk at h
    rw [h] at ho; cases ho; cases hc)
theorem RollI.own {w : World} {gd : Nat} {key at_ n r e : Int} {i B : Nat} (hB : w.heap.size ≤ B) {W W' : World} {row : Option Nat} (h : RollI w gd key at_ n r e i W) (hg : W.grownBy W' row)
    (hr : ∀ r, row = some r → B ≤ r ∧ ∃ o : Obj, W.heap[r]? = some o ∧ o.isCells = false) : RollI w gd key at_ n r e i W' :=
  have hr' : ∀ r, row = some r → ∃ o : Obj, W.heap[r]? = some o ∧ o.isCells = false := fun r er => (hr r er).2
  ⟨blk_own h.b0 hg hr', blk_own h.b1 hg hr', blk_own h.b2 hg hr', blk_own h.b3 hg hr', blk_own h.die hg hr',
    ⟨hg.os.trans h.only.os, hg.tape.trans h.only.tape, hg.output.trans h.only.output, Nat.le_trans h.only.size hg.size, fun k hk hne =>
      (hg.block k (Nat.lt_of_lt_of_le hk h.only.size) (fun er => by have := (hr k er.symm).1; omega)).trans (h.only.block k hk hne)⟩⟩
theorem RollI.all {w : World} {gd : Nat} {key at_ n r e : Int} {i : Nat} {W W' : World} (h : RollI w gd key at_ n r e i W) (hb : Below W.heap.size W W') : RollI w gd key at_ n r e i W' :=
  ⟨Blk.all h.b0 hb, Blk.all h.b1 hb, Blk.all h.b2 hb, Blk.all h.b3 hb, Blk.all h.die hb, only_below h.only hb⟩
theorem keepsFrom_below {B : Nat} {W W' : World} (hb : Below W.heap.size W W') : KeepsFrom B W W' :=
  ⟨hb.size, fun k _ _ hk _ => (hb.block k (Array.getElem?_eq_some_iff.1 hk).1).trans hk⟩
/-- The position is moved on. -/
theorem RollI.step {w : World} {gd : Nat} {key at_ n r e : Int} {i : Nat} {W : World} (hgd : gd < w.heap.size) (h : RollI w gd key at_ n r e i W) : RollI w gd key at_ n r e (i + 1) (W.setCell ⟨gd, 1, none⟩ (.int .i64 (atAdd at_ (i + 1)))) :=
  ⟨Blk.far h.b0 (by simp; omega) _, Blk.far h.b1 (by simp; omega) _, Blk.far h.b2 (by simp; omega) _, Blk.far h.b3 (by simp; omega) _, Blk.set_ h.die 1 _, only_set h.only (.inl rfl) _⟩

theorem dwords_state (w : World) (gd : Nat) (key at_ n : Int) (B : Nat) (hgd : gd < w.heap.size) (Ix : Code → Nat → World → Prop) :
    SeqState Fence.wide 5 Try.prog 68 #[.pointer (some ⟨w.heap.size + 3, 0, none⟩)] (fun x : Int => #[Value.int .u64 x]) B
      (fun i W => RollI w gd key at_ n 0 0 i W ∧ i ≤ 128 ∧ NoHit key at_ n i) (fun i x W => RollI w gd key at_ n 0 0 (i + 1) W ∧ i < 128 ∧ NoHit key at_ n i ∧ x = streamI key (atAdd at_ i)) (fun i _ => i + 1) Ix 0 (fun i => i = 128) := by
  intro l R Rx hR hY W h0 hR0
  refine (dwords1_in l (w.heap.size + 3) gd key at_ (fun i W => (RollI w gd key at_ n 0 0 i W ∧ i ≤ 128 ∧ NoHit key at_ n i) ∧ R W) (fun i W => ∃ c, Ix c i W ∧ Rx c W) ?_ ?_ ?_ W ⟨h0, hR0⟩).mono ?_
  · rintro i W ⟨⟨h, _⟩, _⟩
    exact ⟨by simpa using Blk.cell h.b3 0, by simpa using Blk.cell h.die 0, by simpa using Blk.cell h.die 1, Blk.frozen h.die 1⟩
  · rintro i W W' ⟨⟨h, hh⟩, hr⟩ hb
    exact ⟨⟨h.all hb, hh⟩, hR _ _ hr (keepsFrom_below hb)⟩
  · rintro i W ⟨⟨h, _, hh⟩, hr⟩ hi
    obtain ⟨fn, tmps, assign, body, hy, hr3⟩ := hY i (streamI key (atAdd at_ i)) _ ⟨h.step hgd, hi, hh, rfl⟩ (hR _ _ hr ((KeepsOthers.setCell _ _ _).from _))
    exact ⟨fn, tmps, assign, body, hy, hr3.mono fun e W' hh => hh.imp (fun ⟨a, b, c⟩ => ⟨a, b, c⟩) (fun ⟨a, b⟩ => ⟨a, b⟩)⟩
  · rintro e W' ⟨he, (⟨h, hr⟩ | ⟨i, hi, c, hx, hrx⟩)⟩
    · exact ⟨he, .inl ⟨128, rfl, h, hr⟩⟩
    · exact ⟨he, .inr ⟨c, _, hx, hrx⟩⟩

theorem stream_in (key at_ : Int) : InU (streamI key at_) := mixI_in _ _

set_option maxRecDepth 100000 in
set_option maxHeartbeats 400000 in
theorem dwords_in (gd n : Nat) (w : World) :
    CallsIn Fence.wide n Try.prog 50 #[.pointer (some ⟨gd, 0, none⟩)] w fun e w' => e = .returned (.func (.func 68) #[] #[.pointer (some ⟨w.heap.size, 0, none⟩)]) ∧ w.alloc (.cells #[.pointer (some ⟨gd, 0, none⟩)] 31) = w' := by
  refine callsIn_of_wp Try.func50 rfl trivial ?_ rfl
  simp only [Try.ntmps50, List.size_toArray, List.length_cons, List.length_nil, Nat.reduceAdd, Nat.reduceSub, Array.replicate_succ, Array.replicate_zero, List.push_toArray, List.append_toArray, List.nil_append, List.cons_append]
  gi_wp2
  go_ret
  exact ⟨rfl, rfl⟩

set_option maxRecDepth 100000 in
set_option maxHeartbeats 1000000 in
theorem roll_any (gd : Nat) (key at_ n : Int) (w : World) (HD : Hid (Die w gd key at_)) (hat : Hid (-9223372036854775808 ≤ at_ ∧ at_ ≤ 9223372036854775807)) (hn1 : n ≤ 9223372036854775807) :
    Calls Try.prog 17 #[.pointer (some ⟨gd, 0, none⟩), .int .i64 n] w fun e w' => e = .returned (.tuple #[.int .i64 (rollVal key at_ n), .int .i64 (rollErr key at_ n)]) ∧ Die w' gd key (rollAt key at_ n) ∧ w.grownBy w' (some gd) := by
  refine (callsIn_wide (n := 6)).1 ?_
  refine callsIn_of_wp_marks Try.func17 rfl trivial ?_ rfl
  simp only [Try.ntmps17, List.size_toArray, List.length_cons, List.length_nil, Nat.reduceAdd, Nat.reduceSub, Array.replicate_succ, Array.replicate_zero, List.push_toArray, List.append_toArray, List.nil_append, List.cons_append]
  have hgd : gd < w.heap.size := Blk.lt HD.out
  by_cases hn : n < 1
  · obtain ⟨q1, q2, q3⟩ := roll_arg (key := key) (at_ := at_) hn
    have Q1 := Lib.hid q1
    have Q2 := Lib.hid q2
    have Q3 := Lib.hid q3
    clear q1 q2 q3
    gi_wp2
    rw [Q1.out, Q2.out, Q3.out]
    refine ⟨.tuple #[.int .i64 0, .int .i64 1], by simp [results, Try.f17, go_sem], rfl, ((HD.out.alloc _).alloc _).alloc _, only_new (only_new (only_new (only_refl _ _) _) _) _⟩
  · gi_wp2_with (refine ⟨trivial, ?_⟩; gi_at_call 50; refine (dwords_in _ _ _).mono ?_; rintro e w' ⟨rfl, rfl⟩)
    obtain ⟨W0, hW0⟩ : ∃ W0, (((w.alloc (.cells #[.int .i64 n] 3)).alloc (.cells #[.int .i64 0] 3)).alloc (.cells #[.int .i64 0] 34)).alloc (.cells #[.pointer (some ⟨gd, 0, none⟩)] 31) = W0 := ⟨_, rfl⟩
    have hsz : W0.heap.size = w.heap.size + 4 := by rw [← hW0]; simp
    have hI0 : RollI w gd key at_ n 0 0 0 W0 := by
      rw [← hW0]
      refine ⟨Blk.alloc (Blk.alloc (Blk.alloc (Blk.new _ _ _) _) _) _, ?_, ?_, ?_, ?_, only_new (only_new (only_new (only_new (only_refl _ _) _) _) _) _⟩
      · have := Blk.alloc (Blk.alloc (Blk.new (w.alloc (.cells #[.int .i64 n] 3)) 3 #[.int .i64 0]) (.cells #[.int .i64 0] 34)) (.cells #[.pointer (some ⟨gd, 0, none⟩)] 31)
        rw [World.size_alloc] at this
        exact this
      · have := Blk.alloc (Blk.new ((w.alloc (.cells #[.int .i64 n] 3)).alloc (.cells #[.int .i64 0] 3)) 34 #[.int .i64 0]) (.cells #[.pointer (some ⟨gd, 0, none⟩)] 31)
        rw [World.size_alloc, World.size_alloc] at this
        exact this
      · have := Blk.new (((w.alloc (.cells #[.int .i64 n] 3)).alloc (.cells #[.int .i64 0] 3)).alloc (.cells #[.int .i64 0] 34)) 31 #[.pointer (some ⟨gd, 0, none⟩)]
        rw [World.size_alloc, World.size_alloc, World.size_alloc] at this
        exact this
      · rw [atAdd_zero hat.out]
        exact (((HD.out.alloc _).alloc _).alloc _).alloc _
    rw [hW0]
    have HSZ := Lib.hid hsz
    clear hsz hW0
    refine range_state (β := Nat) (α := Int) rfl (by decide) (gf := 68) (lb := #[.pointer (some ⟨w.heap.size + 3, 0, none⟩)]) rfl trivial (enters_of Try.func68 (by kernel_rfl) rfl)
      (encs := fun x : Int => #[Value.int .u64 x]) (fun _ => rfl)
      (fun i W => RollI w gd key at_ n 0 0 i W ∧ i ≤ 128 ∧ NoHit key at_ n i) (fun i x W => RollI w gd key at_ n 0 0 (i + 1) W ∧ i < 128 ∧ NoHit key at_ n i ∧ x = streamI key (atAdd at_ i)) (fun i _ => i + 1)
      (fun c i W => c = .ret ∧ ∃ j, i = j + 1 ∧ RollI w gd key at_ n (redVal (streamI key (atAdd at_ j)) n) 0 (j + 1) W ∧ j < 128 ∧ NoHit key at_ n j ∧ redOk (streamI key (atAdd at_ j)) n = true) 0 (fun i => i = 128)
      (dwords_state w gd key at_ n _ hgd _)
      (fun s A B row hs hg hr => ⟨hs.1.own (by have := HSZ.out; omega) hg hr, hs.2⟩) (fun x s A B row hs hg hr => ⟨hs.1.own (by have := HSZ.out; omega) hg hr, hs.2⟩)
      (fun c s A B row hs hg hr => by obtain ⟨h1, j, h2, h3, h4⟩ := hs; exact ⟨h1, j, h2, h3.own (by have := HSZ.out; omega) hg hr, h4⟩)
      ⟨hI0, by omega, fun j hj => absurd hj (by omega)⟩
      (fun x => { tmps := #[.pointer (some ⟨gd, 0, none⟩), .int .i64 n, undef, .pointer (some ⟨w.heap.size, 0, none⟩), .pointer (some ⟨w.heap.size + 1, 0, none⟩), .pointer (some ⟨w.heap.size + 1 + 1, 0, none⟩), .int .u64 x, undef, undef, .int .i64 n, .bool false, .pointer (some ⟨gd, 0, none⟩), .func (.func 68) #[] #[.pointer (some ⟨w.heap.size + 3, 0, none⟩)], .int .u64 x, undef, undef, undef, undef, undef, undef, undef, undef], defers := [] }) ?assign ?body ?done ?stop
    case assign =>
      intro l x W K hK
      gi_wp2
      exact hK
    case body =>
      rintro l i x W ⟨hI, hi, hno, rfl⟩
      obtain ⟨hs0, hs1'⟩ := stream_in key (atAdd at_ i)
      have hs1 : streamI key (atAdd at_ i) ≤ 18446744073709551615 := by omega
      have hc0 : W.cell? ⟨w.heap.size, 0, none⟩ = some (.int .i64 n) := by simpa using Blk.cell hI.b0 0
      have hc1 : W.cell? ⟨w.heap.size + 1, 0, none⟩ = some (.int .i64 0) := by simpa using Blk.cell hI.b1 0
      have hc2 : W.cell? ⟨w.heap.size + 1 + 1, 0, none⟩ = some (.int .i64 0) := by simpa using Blk.cell hI.b2 0
      have hf1 : W.frozen? ⟨w.heap.size + 1, 0, none⟩ = false := Blk.frozen hI.b1 0
      have hf2 : W.frozen? ⟨w.heap.size + 1 + 1, 0, none⟩ = false := Blk.frozen hI.b2 0
      cases hok : redOk (streamI key (atAdd at_ i)) n with
      | true =>
        gi_wp2_with (refine ⟨trivial, ?_⟩; gi_at_call 12; refine (CallsIn.inRound l (callsIn_wide.2 (reduce_any _ _ _ hs0 hs1 hn1))).mono ?_; rintro e w' ⟨rfl, rfl⟩)
        refine ⟨((KeepsOthers.setCell _ _ _).trans (KeepsOthers.setCell _ _ _)).from _, rfl, i, rfl, ⟨?_, ?_, ?_, ?_, ?_, ?_⟩, hi, hno, hok⟩
        · exact Blk.far (Blk.far hI.b0 (by simp) _) (by simp; omega) _
        · exact Blk.far (Blk.set_ hI.b1 0 _) (by simp) _
        · exact Blk.set_ (Blk.far hI.b2 (by simp) _) 0 _
        · exact Blk.far (Blk.far hI.b3 (by simp) _) (by simp) _
        · exact Blk.far (Blk.far hI.die (by simp; omega) _) (by simp; omega) _
        · exact only_set (only_set hI.only (.inr (by simp)) _) (.inr (by simp; omega)) _
      | false =>
        gi_wp2_with (refine ⟨trivial, ?_⟩; gi_at_call 12; refine (CallsIn.inRound l (callsIn_wide.2 (reduce_any _ _ _ hs0 hs1 hn1))).mono ?_; rintro e w' ⟨rfl, rfl⟩)
        refine ⟨KeepsFrom.refl _ _, hI, by omega, fun j hj => ?_⟩
        rcases (show j < i ∨ j = i by omega) with h | rfl
        · exact hno j h
        · exact hok
    case done =>
      rintro D i W hD rfl ⟨hI, _, hno⟩ hK
      obtain ⟨q1, q2, q3⟩ := roll_none (by omega) hno
      have Q1 := Lib.hid q1
      have Q2 := Lib.hid q2
      have Q3 := Lib.hid q3
      clear q1 q2 q3
      have hc1 : W.cell? ⟨w.heap.size + 1, 0, none⟩ = some (.int .i64 0) := by simpa using Blk.cell hI.b1 0
      have hc2 : W.cell? ⟨w.heap.size + 1 + 1, 0, none⟩ = some (.int .i64 0) := by simpa using Blk.cell hI.b2 0
      have hf1 : W.frozen? ⟨w.heap.size + 1, 0, none⟩ = false := Blk.frozen hI.b1 0
      have hf2 : W.frozen? ⟨w.heap.size + 1 + 1, 0, none⟩ = false := Blk.frozen hI.b2 0
      have hb1 := Blk.far (p := ⟨w.heap.size + 1 + 1, 0, none⟩) (Blk.set_ hI.b1 0 (.int .i64 0)) (by simp) (.int .i64 4)
      have hb2 := Blk.set_ (Blk.far (p := ⟨w.heap.size + 1, 0, none⟩) hI.b2 (by simp) (.int .i64 0)) 0 (.int .i64 4)
      have hbd := Blk.far (p := ⟨w.heap.size + 1 + 1, 0, none⟩) (Blk.far (p := ⟨w.heap.size + 1, 0, none⟩) hI.die (by simp; omega) (.int .i64 0)) (by simp; omega) (.int .i64 4)
      have hon := only_set (p := ⟨w.heap.size + 1 + 1, 0, none⟩) (only_set (p := ⟨w.heap.size + 1, 0, none⟩) hI.only (.inr (by simp)) (.int .i64 0)) (.inr (by simp; omega)) (.int .i64 4)
      have hK2 := ((KeepsOthers.setCell W ⟨w.heap.size + 1, 0, none⟩ (.int .i64 0)).trans (KeepsOthers.setCell _ ⟨w.heap.size + 1 + 1, 0, none⟩ (.int .i64 4))).same D _ hK rfl
      have HB1 := Lib.hid hb1
      have HB2 := Lib.hid hb2
      have HBD := Lib.hid hbd
      have HK2 := Lib.hid hK2
      clear hb1 hb2 hbd hK2 hK
      gi_wp2
      rw [Q1.out, Q2.out, Q3.out]
      refine ⟨by simp, .inl ⟨_, _, rfl, run_takeDeferred HK2.out, ?_⟩⟩
      have hr := blk_own HB1.out (grownBy_putObj' _ D (.deferred none)) (fun r e => by cases e; exact ⟨_, HK2.out, rfl⟩)
      have he := blk_own HB2.out (grownBy_putObj' _ D (.deferred none)) (fun r e => by cases e; exact ⟨_, HK2.out, rfl⟩)
      have hd := blk_own HBD.out (grownBy_putObj' _ D (.deferred none)) (fun r e => by cases e; exact ⟨_, HK2.out, rfl⟩)
      have hcr := Blk.cell hr 0
      have hce := Blk.cell he 0
      refine ⟨.tuple #[.int .i64 0, .int .i64 4], ?_, rfl, hd, ?_⟩
      · simp only [Nat.add_assoc, Nat.reduceAdd] at hcr hce ⊢
        simp [results, Try.f17, go_sem, hcr, hce]
      · exact ⟨hon.os, hon.tape, hon.output, by simpa using hon.size, fun k hk hne => (World.putObj_heap_other (by have := HSZ.out; omega)).trans (hon.block k hk hne)⟩
    case stop =>
      rintro D c i W hD ⟨rfl, j, rfl, hI, hj, hno, hok⟩ hK
      obtain ⟨q1, q2, q3⟩ := roll_some (by omega) hno hj hok
      have Q1 := Lib.hid q1
      have Q2 := Lib.hid q2
      have Q3 := Lib.hid q3
      clear q1 q2 q3
      gi_wp2
      rw [Q1.out, Q2.out, Q3.out]
      refine ⟨by simp, .inl ⟨_, _, rfl, run_takeDeferred hK, ?_⟩⟩
      have hr := blk_own hI.b1 (grownBy_putObj' _ D (.deferred none)) (fun r e => by cases e; exact ⟨_, hK, rfl⟩)
      have he := blk_own hI.b2 (grownBy_putObj' _ D (.deferred none)) (fun r e => by cases e; exact ⟨_, hK, rfl⟩)
      have hd := blk_own hI.die (grownBy_putObj' _ D (.deferred none)) (fun r e => by cases e; exact ⟨_, hK, rfl⟩)
      have hcr := Blk.cell hr 0
      have hce := Blk.cell he 0
      refine ⟨.tuple #[.int .i64 (redVal (streamI key (atAdd at_ j)) n), .int .i64 0], ?_, rfl, hd, ?_⟩
      · simp only [Nat.add_assoc, Nat.reduceAdd] at hcr hce ⊢
        simp [results, Try.f17, go_sem, hcr, hce]
      · exact ⟨hI.only.os, hI.only.tape, hI.only.output, by simpa using hI.only.size, fun k hk hne => (World.putObj_heap_other (by have := HSZ.out; omega)).trans (hI.only.block k hk hne)⟩

end Go.Proofs.Ytklkppmmnlachaa
