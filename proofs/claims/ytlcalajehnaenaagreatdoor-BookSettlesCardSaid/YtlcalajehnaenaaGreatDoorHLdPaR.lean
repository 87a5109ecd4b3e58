/- package parser: Parse, at texts of items: the walk. -/
import Derived.Test.YtlcalajehnaenaaGreatDoorHLdPaQ
import Derived.Test.YtlcalajehnaenaaGreatDoorHG1
namespace Go.Proofs.YtlcalajehnaenaaGreatDoor
open Go.RowKit
theorem TkIs.of_own {w : World} {B n c : Nat} {A : Option Addr} {ts : List Tk} (h : w.ownsRow B 170 4 (.slice A n c) ts.length (ts.flatMap tkV)) : TkIs w A n c ts := by
 refine ⟨?_, ?_, ?_, RowT.of_own h⟩
 all_goals
  rcases h.2 with ⟨h2, hn⟩ | ⟨g, cap, cur, h2, _, hh, hnc, hm, hcs, htk⟩
  ·injection h2 with _ e1 e2
   omega
  ·injection h2 with _ e1 e2
   first | omega | (have := hm; omega) | (unfold maxLen at *; omega)
theorem leaves_same {P : Program} {fn : Func} {R : Ending → World → Prop} {t t' : Array Value} (h : results fn t = results fn t') : ∀ (ds : List Deferred) (u : FrameMode) (w : World), Leaves P fn t R ds u w → Leaves P fn t' R ds u w
 | [], .returning, w, ⟨v, h1, h2⟩ => ⟨v, by rw [← h]; exact h1, h2⟩
 | [], .panicking chain, w, h1 => h1
 | [], .run, _, h1 => h1
 | d :: ds, u, w, ⟨hu, fv, cap, f, args, h1, h2, h3⟩ => ⟨hu, fv, cap, f, args, h1, h2, h3.mono (fun e u' w' h4 => by
  cases e with
  | returned _ => exact leaves_same h ds _ _ h4
  | panicked chain => exact leaves_same h ds _ _ h4
  | outgrown => exact h4)⟩
theorem parse_res (t : Array Value) (d : Nat) (v : Value) (hd : 5 ≤ d) : results Tryz.f14 (t.setIfInBounds d v) = results Tryz.f14 t := by
 have e : ∀ i, i < 5 → (t.setIfInBounds d v).getD i undef = t.getD i undef := fun i hi => by
  rw [Array.getD_eq_getD_getElem?, Array.getD_eq_getD_getElem?, Array.getElem?_setIfInBounds_ne (by omega)]
 simp only [results, Tryz.results14, List.mapM_toArray, List.mapM_cons, List.mapM_nil, e 2 (by decide), e 3 (by decide), e 4 (by decide)]
theorem parse_pan {R : Ending → World → Prop} (d : Nat) (hd : 5 ≤ d) (c : List PanicEntry) (a : Act) (v : Value) (w : World) (h : Leaves Tryz.prog Tryz.f14 (a.put (some d) v).tmps R (a.put (some d) v).defers (.panicking c) w) : Leaves Tryz.prog Tryz.f14 a.tmps R a.defers (.panicking c) w :=
 leaves_same (parse_res a.tmps d v hd) _ _ _ h
def PaS (b2 r : Nat) (V : Sl) (d : Dcl) (y : World) : Prop := y.cell? ⟨b2, 0, none⟩ = some (.slice V.1 V.2.1 V.2.2) ∧ y.cell? ⟨r, 2, none⟩ = some (.int .i64 0) ∧ y.cell? ⟨r, 3, none⟩ = some (.string d.nm) ∧ y.cell? ⟨r, 4, none⟩ = some (.int .i64 d.at_) ∧ y.cell? ⟨r, 5, none⟩ = some (.bool false) ∧ y.cell? ⟨r, 6, none⟩ = some (.bool false) ∧ y.cell? ⟨r, 7, none⟩ = some (.bool d.co) ∧ y.cell? ⟨r, 8, none⟩ = some (.int .i64 0) ∧ y.cell? ⟨r, 9, none⟩ = some (.int .i64 0) ∧ y.cell? ⟨r, 10, none⟩ = some (.int .i64 0) ∧ y.cell? ⟨r, 11, none⟩ = some (.int .i64 0) ∧ y.cell? ⟨r, 12, none⟩ = some (.int .i64 0) ∧ y.cell? ⟨r, 13, none⟩ = some (.int .i64 0) ∧ y.cell? ⟨r, 14, none⟩ = some (.slice none 0 0) ∧ y.cell? ⟨r, 15, none⟩ = some (.slice none 0 0) ∧ y.cell? ⟨r, 16, none⟩ = some (.slice none 0 0) ∧ y.cell? ⟨r, 17, none⟩ = some (.slice none 0 0) ∧ y.cell? ⟨r, 18, none⟩ = some (.slice none 0 0)
theorem PaS.of {b2 r n c : Nat} {V : Sl} {d : Dcl} {y : World} {A : Option Addr} {e : Int} (h : y.cell? ⟨b2, 0, none⟩ = some (slV V)) (hb : Blk y r 126 (rdC A n c e (dclV d))) : PaS b2 r V d y := ⟨h, hb.cell 2, hb.cell 3, hb.cell 4, hb.cell 5, hb.cell 6, hb.cell 7, hb.cell 8, hb.cell 9, hb.cell 10, hb.cell 11, hb.cell 12, hb.cell 13, hb.cell 14, hb.cell 15, hb.cell 16, hb.cell 17, hb.cell 18⟩
def flagsE (r : Nat) : List (SK × Value) := (gput (gput (gput (gput (gput (gput [] (nmK ⟨#[111, 98, 106, 101, 99, 116]⟩) (.func (.func 40) #[.pointer (some ⟨r, 0, none⟩)] #[])) (nmK ⟨#[109, 105, 120, 101, 100]⟩) (.func (.func 41) #[.pointer (some ⟨r, 0, none⟩)] #[])) (nmK ⟨#[99, 111, 105, 110]⟩) (.func (.func 42) #[.pointer (some ⟨r, 0, none⟩)] #[])) (nmK ⟨#[119, 101, 97, 114]⟩) (.func (.func 43) #[.pointer (some ⟨r, 0, none⟩)] #[])) (nmK ⟨#[98, 105, 110, 100]⟩) (.func (.func 44) #[.pointer (some ⟨r, 0, none⟩)] #[])) (nmK ⟨#[108, 101, 118, 101, 108]⟩) (.func (.func 45) #[.pointer (some ⟨r, 0, none⟩)] #[]))
theorem flags_coin (r : Nat) : glk (flagsE r) (nmK coinS) = some (.func (.func 42) #[.pointer (some ⟨r, 0, none⟩)] #[]) := by kernel_rfl
def ParsePost (ds : List Dcl) (w : World) (x : Ending) (w' : World) : Prop := ∃ (A : Option Addr) (c : Nat), x = .returned (.tuple #[.slice A ds.length c, .int .i64 0, .int .i64 0]) ∧ w'.ownsRow w.heap.size 78 17 (.slice A ds.length c) ds.length (ds.flatMap dclV) ∧ Below w.heap.size w w'
set_option maxRecDepth 100000 in
set_option maxHeartbeats 4000000 in
theorem parse_any (s : ByteArray) (ds : List Dcl) (toks : List Tk) (p0 : Int) (w : World) (HK : Hid (KL w)) (HS : Hid (LxS s 0 p0)) (HP : Hid (LxP s p0 toks)) (hsz : s.size ≤ 8192) (hlen : toks.length < 10000) (HDT : Hid (DTk ds toks)) (hdl : ds.length ≤ 1000) :
 Calls Tryz.prog 14 #[.string s] w (ParsePost ds w) := by
 have hmf : ∀ (fn : Fn) (first cap : Array Value) (w : World), (Instr.makeFunc fn first cap).run Tryz.prog w = .ok (.func fn first cap) w := fun _ _ _ _ => rfl
 have hmm : ∀ (w : World), (Instr.makeMap 127 none).run Tryz.prog w = .ok (.map (some w.heap.size)) (w.alloc (.map #[] 0)) := fun _ => rfl
 have HB0 := Lib.hid ((((Below.refl w.heap.size w).alloc (Nat.le_refl _) (.cells #[.slice none 0 0] 64)).alloc (by simp) (.cells #[.int .i64 0] 3)).alloc (by simp; omega) (.cells #[.int .i64 0] 33))
 have k2 := Blk.alloc (Blk.alloc (Blk.new w 64 #[.slice none 0 0]) (.cells #[.int .i64 0] 3)) (.cells #[.int .i64 0] 33)
 have k3 := Blk.alloc (Blk.new (w.alloc (.cells #[.slice none 0 0] 64)) 3 #[.int .i64 0]) (.cells #[.int .i64 0] 33)
 have k4 := Blk.new ((w.alloc (.cells #[.slice none 0 0] 64)).alloc (.cells #[.int .i64 0] 3)) 33 #[.int .i64 0]
 rw [World.size_alloc] at k3
 rw [World.size_alloc, World.size_alloc] at k4
 have hst : ∀ (b : Nat) (x : World) (c : Array Value) (t : TypeId), Blk x b t c → b < x.heap.size := fun b x c t h => h.lt
 go_enter_defers Tryz.func14, Tryz.ntmps14
 go_wp2_with fail
 obtain ⟨w0, hw0⟩ : ∃ w0, ((w.alloc (.cells #[.slice none 0 0] 64)).alloc (.cells #[.int .i64 0] 3)).alloc (.cells #[.int .i64 0] 33) = w0 := ⟨_, rfl⟩
 obtain ⟨b2, hb2⟩ : ∃ b2, w.heap.size = b2 := ⟨_, rfl⟩
 have hs0 : w0.heap.size = b2 + 3 := by rw [← hw0, ← hb2]; simp
 rw [hw0] at HB0 k2 k3 k4 ⊢
 rw [hb2] at k2 k3 k4
 have HBB := Lib.hid hb2
 refine (tokens_any s toks p0 w0 (Lib.hid (HK.out.all HB0.out)) HS HP hsz hlen).mono ?_
 rintro x9 w1 ⟨V, rfl, hV, hb1⟩
 have k2 := k2.all hb1
 have k3 := k3.all hb1
 have k4 := k4.all hb1
 have e3 : w1.cell? ⟨b2 + 1, 0, none⟩ = some (.int .i64 0) := k3.cell 0
 have f3 := k3.frozen 0
 have e4 : w1.cell? ⟨b2 + 1 + 1, 0, none⟩ = some (.int .i64 0) := k4.cell 0
 have f4 := k4.frozen 0
 obtain ⟨AV, nV, cV⟩ := V
 have hV1 : TkIs w1 AV nV cV toks := TkIs.of_own hV
 have hm2 : Mod (fun b => b = b2 + 1 ∨ b = b2 + 1 + 1) w1 ((w1.setCell ⟨b2 + 1, 0, none⟩ (.int .i64 0)).setCell ⟨b2 + 1 + 1, 0, none⟩ (.int .i64 0)) := ((Mod.refl _ w1).set (p := ⟨b2 + 1, 0, none⟩) (.inl (.inl rfl)) _).set (p := ⟨b2 + 1 + 1, 0, none⟩) (.inl (.inr rfl)) _
 have kk2 := (k2.far (p := ⟨b2 + 1, 0, none⟩) (by show b2 ≠ b2 + 1; omega) (.int .i64 0)).far (p := ⟨b2 + 1 + 1, 0, none⟩) (by show b2 ≠ b2 + 1 + 1; omega) (.int .i64 0)
 have kk3 := (k3.set_ 0 (.int .i64 0)).far (p := ⟨b2 + 1 + 1, 0, none⟩) (by show b2 + 1 ≠ b2 + 1 + 1; omega) (.int .i64 0)
 have kk4 := (k4.far (p := ⟨b2 + 1, 0, none⟩) (by show b2 + 1 + 1 ≠ b2 + 1; omega) (.int .i64 0)).set_ 0 (.int .i64 0)
 simp only [List.setIfInBounds_toArray, List.set_cons_zero] at kk3 kk4
 obtain ⟨w2, hw2⟩ : ∃ w2, (w1.setCell ⟨b2 + 1, 0, none⟩ (.int .i64 0)).setCell ⟨b2 + 1 + 1, 0, none⟩ (.int .i64 0) = w2 := ⟨_, rfl⟩
 rw [hw2] at hm2 kk2 kk3 kk4
 have hT2 : TkIs w2 AV nV cV toks := hV1.mod hm2 (fun x hx hy => by
  rcases hx with hx | hx <;> subst hx
  ·exact absurd (hy.unique k3.ty) (by decide)
  ·exact absurd (hy.unique k4.ty) (by decide))
 have hB2 : Below w.heap.size w w2 := hm2.below (HB0.out.trans (hb1.mono HB0.out.size)) (by have := hb1.size; omega) (fun b hb => by rcases hb with rfl | rfl <;> omega)
 have e4' : w2.cell? ⟨b2 + 1 + 1, 0, none⟩ = some (.int .i64 0) := kk4.cell 0
 obtain ⟨r, hr⟩ : ∃ r, w2.heap.size = r := ⟨_, rfl⟩
 have rB := Blk.new w2 126 #[.slice AV nV cV, .int .i64 (s.size : Int), .int .i64 0, .string ⟨#[]⟩, .int .i64 0, .bool false, .bool false, .bool false, .int .i64 0, .int .i64 0, .int .i64 0, .int .i64 0, .int .i64 0, .int .i64 0, .slice none 0 0, .slice none 0 0, .slice none 0 0, .slice none 0 0, .slice none 0 0]
 have h23 := (Below.refl w2.heap.size w2).alloc (Nat.le_refl _) (.cells #[.slice AV nV cV, .int .i64 (s.size : Int), .int .i64 0, .string ⟨#[]⟩, .int .i64 0, .bool false, .bool false, .bool false, .int .i64 0, .int .i64 0, .int .i64 0, .int .i64 0, .int .i64 0, .int .i64 0, .slice none 0 0, .slice none 0 0, .slice none 0 0, .slice none 0 0, .slice none 0 0] 126)
 obtain ⟨w3, hw3⟩ : ∃ w3, w2.alloc (.cells #[.slice AV nV cV, .int .i64 (s.size : Int), .int .i64 0, .string ⟨#[]⟩, .int .i64 0, .bool false, .bool false, .bool false, .int .i64 0, .int .i64 0, .int .i64 0, .int .i64 0, .int .i64 0, .int .i64 0, .slice none 0 0, .slice none 0 0, .slice none 0 0, .slice none 0 0, .slice none 0 0] 126) = w3 := ⟨_, rfl⟩
 rw [hw3] at rB h23
 rw [hr] at rB
 obtain ⟨mk, hmk⟩ : ∃ mk, w3.heap.size = mk := ⟨_, rfl⟩
 have mx0 := GMap.new sEnc w3
 have Bx0 := (Below.refl w3.heap.size w3).alloc (Nat.le_refl _) (.map #[] 0)
 obtain ⟨x0, hx0⟩ : ∃ x0, w3.alloc (.map #[] 0) = x0 := ⟨_, rfl⟩
 rw [hx0] at mx0 Bx0
 rw [hmk] at mx0
 obtain ⟨x1, qx1, mx1, gx1, sx1⟩ := GMap.store mx0 sEncOk Tryz.underlying127 (nmK ⟨#[111, 98, 106, 101, 99, 116]⟩) (.func (.func 40) #[.pointer (some ⟨r, 0, none⟩)] #[])
 rw [nmK_enc (show (⟨#[111, 98, 106, 101, 99, 116]⟩ : ByteArray).size ≤ 16 by decide)] at qx1
 obtain ⟨x2, qx2, mx2, gx2, sx2⟩ := GMap.store mx1 sEncOk Tryz.underlying127 (nmK ⟨#[109, 105, 120, 101, 100]⟩) (.func (.func 41) #[.pointer (some ⟨r, 0, none⟩)] #[])
 rw [nmK_enc (show (⟨#[109, 105, 120, 101, 100]⟩ : ByteArray).size ≤ 16 by decide)] at qx2
 obtain ⟨x3, qx3, mx3, gx3, sx3⟩ := GMap.store mx2 sEncOk Tryz.underlying127 (nmK ⟨#[99, 111, 105, 110]⟩) (.func (.func 42) #[.pointer (some ⟨r, 0, none⟩)] #[])
 rw [nmK_enc (show (⟨#[99, 111, 105, 110]⟩ : ByteArray).size ≤ 16 by decide)] at qx3
 obtain ⟨x4, qx4, mx4, gx4, sx4⟩ := GMap.store mx3 sEncOk Tryz.underlying127 (nmK ⟨#[119, 101, 97, 114]⟩) (.func (.func 43) #[.pointer (some ⟨r, 0, none⟩)] #[])
 rw [nmK_enc (show (⟨#[119, 101, 97, 114]⟩ : ByteArray).size ≤ 16 by decide)] at qx4
 obtain ⟨x5, qx5, mx5, gx5, sx5⟩ := GMap.store mx4 sEncOk Tryz.underlying127 (nmK ⟨#[98, 105, 110, 100]⟩) (.func (.func 44) #[.pointer (some ⟨r, 0, none⟩)] #[])
 rw [nmK_enc (show (⟨#[98, 105, 110, 100]⟩ : ByteArray).size ≤ 16 by decide)] at qx5
 obtain ⟨x6, qx6, mx6, gx6, sx6⟩ := GMap.store mx5 sEncOk Tryz.underlying127 (nmK ⟨#[108, 101, 118, 101, 108]⟩) (.func (.func 45) #[.pointer (some ⟨r, 0, none⟩)] #[])
 rw [nmK_enc (show (⟨#[108, 101, 118, 101, 108]⟩ : ByteArray).size ≤ 16 by decide)] at qx6
 have Bx1 := Bx0.grown gx1 Bx0.size (fun k e => by injection e with e; omega)
 have Bx2 := Bx1.grown gx2 Bx1.size (fun k e => by injection e with e; omega)
 have Bx3 := Bx2.grown gx3 Bx2.size (fun k e => by injection e with e; omega)
 have Bx4 := Bx3.grown gx4 Bx3.size (fun k e => by injection e with e; omega)
 have Bx5 := Bx4.grown gx5 Bx4.size (fun k e => by injection e with e; omega)
 have Bx6 := Bx5.grown gx6 Bx5.size (fun k e => by injection e with e; omega)
 have hfl : GMap sEnc x6 mk (flagsE r) := mx6
 obtain ⟨mp, hmp⟩ : ∃ mp, x6.heap.size = mp := ⟨_, rfl⟩
 have my0 := GMap.new sEnc x6
 have hz0 := (Below.refl x6.heap.size x6).alloc (Nat.le_refl _) (.map #[] 0)
 have By0 := Bx6.alloc Bx6.size (.map #[] 0)
 have hsy : mk < mp := by have := hfl.lt; omega
 obtain ⟨y0, hy0⟩ : ∃ y0, x6.alloc (.map #[] 0) = y0 := ⟨_, rfl⟩
 rw [hy0] at my0 hz0 By0
 rw [hmp] at my0
 obtain ⟨y1, qy1, my1, gy1, sy1⟩ := GMap.store my0 sEncOk Tryz.underlying127 (nmK ⟨#[108, 101, 118, 101, 108]⟩) (.func (.func 45) #[.pointer (some ⟨r, 0, none⟩)] #[])
 rw [nmK_enc (show (⟨#[108, 101, 118, 101, 108]⟩ : ByteArray).size ≤ 16 by decide)] at qy1
 obtain ⟨y2, qy2, my2, gy2, sy2⟩ := GMap.store my1 sEncOk Tryz.underlying127 (nmK ⟨#[116, 105, 109, 101]⟩) (.func (.func 46) #[.pointer (some ⟨r, 0, none⟩)] #[])
 rw [nmK_enc (show (⟨#[116, 105, 109, 101]⟩ : ByteArray).size ≤ 16 by decide)] at qy2
 obtain ⟨y3, qy3, my3, gy3, sy3⟩ := GMap.store my2 sEncOk Tryz.underlying127 (nmK ⟨#[99, 104, 97, 110, 99, 101]⟩) (.func (.func 47) #[.pointer (some ⟨r, 0, none⟩)] #[])
 rw [nmK_enc (show (⟨#[99, 104, 97, 110, 99, 101]⟩ : ByteArray).size ≤ 16 by decide)] at qy3
 obtain ⟨y4, qy4, my4, gy4, sy4⟩ := GMap.store my3 sEncOk Tryz.underlying127 (nmK ⟨#[116, 97, 107, 101]⟩) (.func (.func 48) #[.pointer (some ⟨r, 0, none⟩)] #[])
 rw [nmK_enc (show (⟨#[116, 97, 107, 101]⟩ : ByteArray).size ≤ 16 by decide)] at qy4
 obtain ⟨y5, qy5, my5, gy5, sy5⟩ := GMap.store my4 sEncOk Tryz.underlying127 (nmK ⟨#[103, 105, 118, 101]⟩) (.func (.func 49) #[.pointer (some ⟨r, 0, none⟩)] #[])
 rw [nmK_enc (show (⟨#[103, 105, 118, 101]⟩ : ByteArray).size ≤ 16 by decide)] at qy5
 obtain ⟨y6, qy6, my6, gy6, sy6⟩ := GMap.store my5 sEncOk Tryz.underlying127 (nmK ⟨#[98, 97, 99, 107]⟩) (.func (.func 50) #[.pointer (some ⟨r, 0, none⟩)] #[])
 rw [nmK_enc (show (⟨#[98, 97, 99, 107]⟩ : ByteArray).size ≤ 16 by decide)] at qy6
 have By1 := By0.grown gy1 By0.size (fun k e => by injection e with e; omega)
 have By2 := By1.grown gy2 By1.size (fun k e => by injection e with e; omega)
 have By3 := By2.grown gy3 By2.size (fun k e => by injection e with e; omega)
 have By4 := By3.grown gy4 By3.size (fun k e => by injection e with e; omega)
 have By5 := By4.grown gy5 By4.size (fun k e => by injection e with e; omega)
 have By6 := By5.grown gy6 By5.size (fun k e => by injection e with e; omega)
 have Cy0 := hz0
 have Cy1 := Cy0.grown gy1 Cy0.size (fun k e => by injection e with e; omega)
 have Cy2 := Cy1.grown gy2 Cy1.size (fun k e => by injection e with e; omega)
 have Cy3 := Cy2.grown gy3 Cy2.size (fun k e => by injection e with e; omega)
 have Cy4 := Cy3.grown gy4 Cy3.size (fun k e => by injection e with e; omega)
 have Cy5 := Cy4.grown gy5 Cy4.size (fun k e => by injection e with e; omega)
 have Cy6 := Cy5.grown gy6 Cy5.size (fun k e => by injection e with e; omega)
 have h26 := h23.trans (By6.mono h23.size)
 have HPA : Hid (PaV w.heap.size b2 (b2 + 1) (b2 + 1 + 1) r mk (s.size : Int) (flagsE r) [] (declV ⟨#[]⟩ false 0) toks y6) := Lib.hid ⟨⟨(none, 0, 0), kk2.all h26, World.ownsRow_nil _ _ _ _⟩, kk3.all h26, kk4.all h26, ⟨AV, nV, cV, rB.all By6, hT2.all h26⟩, hfl.all Cy6, ⟨by omega, by omega, by omega, by have := hB2.size; omega, by have := hB2.size; have := h26.size; omega⟩⟩
 have HBY := Lib.hid (hB2.trans (h26.mono hB2.size))
 clear HB0 k2 k3 k4 kk2 kk3 kk4 hV hV1 hb1 hm2 hT2 hB2 rB h23 mx0 Bx0 mx1 mx2 mx3 mx4 mx5 mx6 gx1 gx2 gx3 gx4 gx5 gx6 Bx1 Bx2 Bx3 Bx4 Bx5 Bx6 hfl my0 hz0 By0 hsy my1 my2 my3 my4 my5 my6 gy1 gy2 gy3 gy4 gy5 gy6 By1 By2 By3 By4 By5 By6 Cy0 Cy1 Cy2 Cy3 Cy4 Cy5 Cy6 h26 hst hs0 sx1 sx2 sx3 sx4 sx5 sx6 sy1 sy2 sy3 sy4 sy5 sy6
 unfold slV
 go_wp2
 clear qx1 qx2 qx3 qx4 qx5 qx6 qy1 qy2 qy3 qy4 qy5 qy6 hx0 hy0 hw2 hw3 hmf hmm e3 f3 e4 f4 e4' hw0
 go_loopg [] ds.length (fun gk wr => ∃ (k : Nat) (D : List Value) (ts' : List Tk), k + gk = ds.length ∧ Hid (DTk (ds.drop k) ts') ∧ Hid (∃ nm co at_, D = declV nm co at_) ∧ Hid (PaV w.heap.size b2 (b2 + 1) (b2 + 1 + 1) r mk (s.size : Int) (flagsE r) (ds.take k) D ts' wr) ∧ Hid (Below w.heap.size w wr))
 case atStart => exact ⟨0, _, toks, by omega, HDT, Lib.hid ⟨_, _, _, rfl⟩, HPA, HBY⟩
 case round =>
  clear HPA HBY
  obtain ⟨k, D, ts', hk, HD, HDD, HP, HB⟩ := hrel
  have HHK := Lib.hid hk
  rcases Nat.lt_or_ge k ds.length with hlt | hge
  ·have hdr : ds.drop k = ds[k] :: ds.drop (k + 1) := (List.getElem_cons_drop hlt).symm
   have hd := HD.out
   rw [hdr] at hd
   obtain ⟨tI, tN, tC, tS, ts2, rfl, i1, i2, n1, n2, n3, c1, c2, s1, s2, hd2⟩ := hd
   obtain ⟨nm0, co0, at0, rfl⟩ := HDD.out
   obtain ⟨A', n', c', hB, hT⟩ := HP.out.rd
   have hn := hT.1
   rw [List.length_cons] at hn
   have hn0 : (0 : Int) < (n' : Int) := by omega
   have c0 : wr.cell? ⟨r, 0, none⟩ = some (.slice A' n' c') := hB.cell 0
   obtain ⟨d, hd⟩ : ∃ d, ds[k] = d := ⟨_, rfl⟩
   rw [hd] at n2 n3
   have HD2 := Lib.hid hd2
   have HB1 := Lib.hid hB
   have HT1 := Lib.hid hT
   rw [hd] at HT1 HP
   have HMP := Lib.hid HP.out.mp
   have HDE : Hid (ds[k]? = some d) := Lib.hid (by rw [List.getElem?_eq_getElem hlt, hd])
   have hdec := declaration_any r A' n' c' mk mp (s.size : Int) nm0 co0 at0 d.co tI tN tC tS ts2 (flagsE r) wr HB1 HT1 i1 i2 n1 c1 c2 s1 s2 HMP (Lib.hid (flags_coin r))
   rw [n2, n3] at hdec
   have HDEC := Lib.hid hdec
   have HLT := Lib.hid hlt
   clear hk hdr hd2 hB hT hn hd i1 i2 n1 n2 n3 c1 c2 s1 s2 hdec HDD HD
   go_wp2_with fail
   clear c0
   refine HDEC.out.mono ?_
   rintro x8 w5 ⟨rfl, A5, c5, hB5, hT5, hm5⟩
   have hP5 := HP.out.decl (D' := dclV d) (ts' := ts2) ⟨A5, _, c5, hB5, hT5⟩ hm5
   have HB5 : Hid (Below w.heap.size w w5) := Lib.hid (hm5.below HB.out HB.out.size (fun x hx => by subst hx; exact HP.out.lo.2.2.2.1))
   clear HDEC HB1 HT1 HMP hT5 hm5
   obtain ⟨V, g6, cp6, w6, v0, hrun, v1, v2, hK6, hP6, hb6⟩ := hP5.drew.push (by rw [List.length_take]; omega) 64
   have hba := ((Below.refl w5.heap.size w5).alloc (Nat.le_refl _) (.cells (dclV d).toArray 78)).drew
   have HS0 : Hid (PaS b2 r V d w5.drew) := Lib.hid (PaS.of (y := w5.drew) v0 hB5)
   have HS1 : Hid (PaS b2 r V d (w5.alloc (.cells (dclV d).toArray 78)).drew) := Lib.hid (PaS.of ((hba.cell (p := ⟨b2, 0, none⟩) (by obtain ⟨V', h, -⟩ := hP5.c2; exact h.lt)).trans v0) (hB5.all hba))
   have HS6 : Hid (PaS b2 r V d w6) := Lib.hid (PaS.of v1 (hK6 _ hB5))
   have hrun : (Builtin.append_ #[64, 64] 64 #[.slice V.1 V.2.1 V.2.2, .slice (some ⟨w5.heap.size, 0, none⟩) 1 1]).run Tryz.prog (w5.alloc (.cells #[.int .i64 0, .string d.nm, .int .i64 d.at_, .bool false, .bool false, .bool d.co, .int .i64 0, .int .i64 0, .int .i64 0, .int .i64 0, .int .i64 0, .int .i64 0, .slice none 0 0, .slice none 0 0, .slice none 0 0, .slice none 0 0, .slice none 0 0] 78)).drew = .ok (.slice (some ⟨g6, 0, none⟩) ((ds.take k).length + 1) cp6) w6 := hrun
   have hlk : (ds.take k).length = k := by rw [List.length_take]; omega
   have HRUN := Lib.hid hrun
   have HP6 := Lib.hid hP6
   have HB6 : Hid (Below w.heap.size w (w6.setCell ⟨b2, 0, none⟩ (.slice (some ⟨g6, 0, none⟩) ((ds.take k).length + 1) cp6))) := Lib.hid (HB5.out.drew.trans hb6)
   rw [hlk] at HRUN HP6 HB6
   obtain ⟨w7, hw7⟩ : ∃ w7, w6.setCell ⟨b2, 0, none⟩ (.slice (some ⟨g6, 0, none⟩) (k + 1) cp6) = w7 := ⟨_, rfl⟩
   rw [hw7] at HP6 HB6
   clear hrun hP6 hb6 hP5 hB5 hlk hba hK6 v0
   unfold slV at v1
   go_wp2_with fail
   refine beginG (S := (PaS b2 r V d)) 7 (by kernel_rfl) HS0.out (fun hHeld => ?_)
   refine takeG 0 (some 63) (v := ?_) (by rfl) (by rfl) (by kernel_rfl) (by kernel_rfl) (by decide) (by kernel_rfl) (by kernel_rfl) (fun _ _ _ h => parse_pan _ (by decide) _ _ _ _ h) ?_ (by assumption) ?_
   rotate_left
   ·(intro o ho w hSw; obtain ⟨z0, z2, z3, z4, z5, z6, z7, z8, z9, z10, z11, z12, z13, z14, z15, z16, z17, z18⟩ := hSw; cases ho; go_simp; try with_reducible rfl)
   try simp only [Act.put, pB, pC, pD]
   refine takeG 1 (some 64) (v := ?_) (by rfl) (by rfl) (by kernel_rfl) (by kernel_rfl) (by decide) (by kernel_rfl) (by kernel_rfl) (fun _ _ _ h => parse_pan _ (by decide) _ _ _ _ h) ?_ (by assumption) ?_
   rotate_left
   ·(intro o ho w hSw; obtain ⟨z0, z2, z3, z4, z5, z6, z7, z8, z9, z10, z11, z12, z13, z14, z15, z16, z17, z18⟩ := hSw; cases ho; go_simp; try with_reducible rfl)
   try simp only [Act.put, pB, pC, pD]
   refine takeG 2 (some 65) (v := ?_) (by rfl) (by rfl) (by kernel_rfl) (by kernel_rfl) (by decide) (by kernel_rfl) (by kernel_rfl) (fun _ _ _ h => parse_pan _ (by decide) _ _ _ _ h) ?_ (by assumption) ?_
   rotate_left
   ·(intro o ho w hSw; obtain ⟨z0, z2, z3, z4, z5, z6, z7, z8, z9, z10, z11, z12, z13, z14, z15, z16, z17, z18⟩ := hSw; cases ho; go_simp; try with_reducible rfl)
   try simp only [Act.put, pB, pC, pD]
   refine takeG 3 (some 66) (v := ?_) (by rfl) (by rfl) (by kernel_rfl) (by kernel_rfl) (by decide) (by kernel_rfl) (by kernel_rfl) (fun _ _ _ h => parse_pan _ (by decide) _ _ _ _ h) ?_ (by assumption) ?_
   rotate_left
   ·(intro o ho w hSw; obtain ⟨z0, z2, z3, z4, z5, z6, z7, z8, z9, z10, z11, z12, z13, z14, z15, z16, z17, z18⟩ := hSw; cases ho; go_simp; try with_reducible rfl)
   try simp only [Act.put, pB, pC, pD]
   refine takeG 4 (some 67) (v := ?_) (by rfl) (by rfl) (by kernel_rfl) (by kernel_rfl) (by decide) (by kernel_rfl) (by kernel_rfl) (fun _ _ _ h => parse_pan _ (by decide) _ _ _ _ h) ?_ (by assumption) ?_
   rotate_left
   ·(intro o ho w hSw; obtain ⟨z0, z2, z3, z4, z5, z6, z7, z8, z9, z10, z11, z12, z13, z14, z15, z16, z17, z18⟩ := hSw; cases ho; go_simp; try with_reducible rfl)
   try simp only [Act.put, pB, pC, pD]
   refine readyG (i := 5) (by kernel_rfl) rfl (fun K hK => ?_)
   go_simp
   refine hK.out _ _ ?_ (fun hHa => ?_)
   ·exact HS1.out
   clear hK K
   try simp only [Act.put, pB, pC, pD]
   refine readyG (i := 6) (by kernel_rfl) rfl (fun K hK => ?_)
   refine step_app (t := 64) HRUN.out (by kernel_rfl) (by rfl) (by rfl) (by rfl) ?_
   refine hK.out _ _ ?_ (fun hHb => ?_)
   ·exact HS6.out
   clear hK K
   (try simp only [Act.put]); (try simp only [pB]); (try simp only [pD]); (try simp only [pC])
   refine lastG (by kernel_rfl) rfl (fun K hK => ?_)
   go_simp
   refine hK.out _ _ ?_
   clear hK K
   (try simp only [Act.put]); (try simp only [pB]); (try simp only [pD]); (try simp only [pC])
   refine doneG (by kernel_rfl) ?_ _
   go_wp2
   clear hHeld hHa hHb HS0 HS1 HS6 v1 v2 HRUN hrun
   go_roundg (ds.length - (k + 1))
   case measure => have := HHK.out; omega
   case rel => exact ⟨k + 1, dclV d, ts2, by have := HHK.out; omega, HD2, Lib.hid ⟨_, _, _, rfl⟩, Lib.hid (by rw [List.take_add_one, HDE.out]; exact HP6.out), HB6⟩
  ·obtain rfl : k = ds.length := by omega
   have hd := HD.out
   rw [List.drop_length] at hd
   obtain rfl : ts' = [] := hd
   obtain ⟨A', n', c', hB, hT⟩ := HP.out.rd
   obtain rfl : n' = 0 := hT.1.symm
   have c0 : wr.cell? ⟨r, 0, none⟩ = some (.slice A' 0 c') := hB.cell 0
   obtain ⟨V, v2, hV⟩ := HP.out.c2
   rw [List.take_length] at hV
   obtain ⟨AV, cV, eV⟩ := own_split hV
   rw [eV] at v2 hV
   have v3 := HP.out.c3
   have v4 := HP.out.c4
   obtain ⟨l1, l2, l3, -, l5⟩ := HP.out.lo
   have u2 : wr.cell? ⟨b2, 0, none⟩ = some (.slice AV ds.length cV) := v2.cell 0
   have f2 := v2.frozen 0
   have u3 : wr.cell? ⟨b2 + 1, 0, none⟩ = some (.int .i64 0) := v3.cell 0
   have f3 := v3.frozen 0
   have u4 : wr.cell? ⟨b2 + 1 + 1, 0, none⟩ = some (.int .i64 0) := v4.cell 0
   have f4 := v4.frozen 0
   have m := ((((Mod.refl (fun b => b = b2 ∨ b = b2 + 1 ∨ b = b2 + 1 + 1) wr).set (p := ⟨b2, 0, none⟩) (.inl (.inl rfl)) (.slice AV ds.length cV)).set (p := ⟨b2 + 1, 0, none⟩) (.inl (.inr (.inl rfl))) (.int .i64 0)).set (p := ⟨b2 + 1 + 1, 0, none⟩) (.inl (.inr (.inr rfl))) (.int .i64 0))
   have g2 := (((v2.set_ 0 (.slice AV ds.length cV)).far (p := ⟨b2 + 1, 0, none⟩) (by show b2 ≠ b2 + 1; omega) (.int .i64 0)).far (p := ⟨b2 + 1 + 1, 0, none⟩) (by show b2 ≠ b2 + 1 + 1; omega) (.int .i64 0))
   have g3 := (((v3.far (p := ⟨b2, 0, none⟩) (by show b2 + 1 ≠ b2; omega) (.slice AV ds.length cV)).set_ 0 (.int .i64 0)).far (p := ⟨b2 + 1 + 1, 0, none⟩) (by show b2 + 1 ≠ b2 + 1 + 1; omega) (.int .i64 0))
   have g4 := (((v4.far (p := ⟨b2, 0, none⟩) (by show b2 + 1 + 1 ≠ b2; omega) (.slice AV ds.length cV)).far (p := ⟨b2 + 1, 0, none⟩) (by show b2 + 1 + 1 ≠ b2 + 1; omega) (.int .i64 0)).set_ 0 (.int .i64 0))
   simp only [List.setIfInBounds_toArray, List.set_cons_zero] at g2 g3 g4
   obtain ⟨wF, hwF⟩ : ∃ wF, ((wr.setCell ⟨b2, 0, none⟩ (.slice AV ds.length cV)).setCell ⟨b2 + 1, 0, none⟩ (.int .i64 0)).setCell ⟨b2 + 1 + 1, 0, none⟩ (.int .i64 0) = wF := ⟨_, rfl⟩
   rw [hwF] at m g2 g3 g4
   have hne : ∀ g, (Value.slice AV ds.length cV).ownBlock = some g → ¬ (g = b2 ∨ g = b2 + 1 ∨ g = b2 + 1 + 1) := fun g hg hh => by
    have ht := Ty.of_own hV hg
    rcases hh with hh | hh | hh <;> subst hh
    ·exact absurd (ht.unique v2.ty) (by decide)
    ·exact absurd (ht.unique v3.ty) (by decide)
    ·exact absurd (ht.unique v4.ty) (by decide)
   have HOF := Lib.hid (m.own hV hne)
   have HBF := Lib.hid (m.below HB.out l5 (fun x hx => by rcases hx with rfl | rfl | rfl <;> assumption))
   have HG2 := Lib.hid g2
   have HG3 := Lib.hid g3
   have HG4 := Lib.hid g4
   have HWF := Lib.hid hwF
   clear hk HHK hB hT hV v2 v3 v4 l1 l2 l3 l5 m g2 g3 g4 hne hwF HD HDD
   go_wp2
   try rw [HWF.out]
   refine leaves_cons (f := 39) (args := #[.pointer (some ⟨b2, 0, none⟩), .pointer (some ⟨b2 + 1, 0, none⟩), .pointer (some ⟨b2 + 1 + 1, 0, none⟩)]) (by simp) (by simp [go_sem]) ?_
   refine (pdoor b2 (b2 + 1) (b2 + 1 + 1) wF).mono ?_
   rintro x8 u8 w8 ⟨rfl, rfl, hz⟩
   have p2 := (HG2.out.all hz).cell 0
   have p3 := (HG3.out.all hz).cell 0
   have p4 := (HG4.out.all hz).cell 0
   simp at p2 p3 p4
   refine ⟨.tuple #[.slice AV ds.length cV, .int .i64 0, .int .i64 0], ?_, ?_⟩
   ·simp [results, Tryz.results14, go_sem, p2, p3, p4]
   ·exact ⟨AV, cV, rfl, own_keep HOF.out hz, HBF.out.trans (hz.mono HBF.out.size)⟩
end Go.Proofs.YtlcalajehnaenaaGreatDoor
