/- maps.Copy, at the ledger's maps. -/
import Derived.Test.YtlcalajehnaenaaGreatDoorHG11
import Derived.Test.YtlcalajehnaenaaGreatDoorHLdTry
namespace Go.Proofs.YtlcalajehnaenaaGreatDoor
open Go.RowKit
theorem lookup_mem {ts : List (Int × Value)} (hn : (ts.map Prod.fst).Nodup) {k : Int} {v : Value} (h : (k, v) ∈ ts) : ts.lookup k = some v := by
 induction ts with
 | nil => cases h
 | cons p ts ih =>
   rw [List.map_cons, List.nodup_cons] at hn
   rcases List.mem_cons.1 h with rfl | h
   ·simp [List.lookup]
   ·have hne : ¬ k = p.1 := fun e => hn.1 (by rw [← e]; exact List.mem_map.2 ⟨(k, v), h, rfl⟩)
    simp only [List.lookup, beq_false_of_ne hne]
    exact ih hn.2 h
theorem lookup_some_mem {ts : List (Int × Value)} {k : Int} {v : Value} (h : ts.lookup k = some v) : (k, v) ∈ ts := by
 induction ts with
 | nil => cases h
 | cons p ts ih =>
   by_cases hk : k = p.1
   ·subst hk
    simp [List.lookup] at h
    subst h
    simp
   ·simp only [List.lookup, beq_false_of_ne hk] at h
    exact List.mem_cons_of_mem _ (ih h)
theorem IMap.nodupL {w : World} {b : Nat} {es : List (Int × Value)} (h : IMap w b es) : (es.map Prod.fst).Nodup := by
 obtain ⟨l, c, _, _, h, _⟩ := h
 exact h
set_option maxRecDepth 100000 in
theorem copyE_any (d s : Nat) (w : World) (HS : Hid (IMap w s [])) :
 Calls Tryz.prog 30 #[.map (some d), .map (some s)] w fun e w' => e = .returned (.tuple #[]) ∧ Below w.heap.size w w' := by
 obtain ⟨w3, hrg, hi3, hb3⟩ := IMap.iter (P := Tryz.prog) HS.out Tryz.underlying90
 obtain ⟨r, hr⟩ : ∃ r, w.heap.size = r := ⟨_, rfl⟩
 rw [hr] at hrg hi3
 have HB3 := Lib.hid hb3
 have HI3 := Lib.hid hi3
 clear hb3 hi3 hr
 go_enter Tryz.func30, Tryz.ntmps30
 go_wp2
 go_loopw [4] (fun _ wr => wr = w3) (fun _ wr => iterLeft wr s r)
 case atStart => rfl
 case round =>
  subst hrel
  rcases HI3.out.next (P := Tryz.prog) with ⟨hno, hnx⟩ | ⟨k, v, w', hkv, hlk, hnx, hen, hI', hg', -, hlt⟩
  ·clear hno
   go_wp2
   go_end0
   exact ⟨rfl, HB3.out⟩
  ·cases hkv
set_option maxRecDepth 100000 in
theorem copyT_any (d s : Nat) (tsL ts : List (Int × Value)) (w : World) (HD : Hid (IMap w d tsL)) (HS : Hid (IMap w s ts)) (hne : d ≠ s) :
 Calls Tryz.prog 29 #[.map (some d), .map (some s)] w fun e w' => e = .returned (.tuple #[]) ∧ (∃ ts', IMap w' d ts' ∧ ∀ i, ts'.lookup i = (ts.lookup i).or (tsL.lookup i)) ∧ Mod (fun b => b = d) w w' := by
 obtain ⟨w3, hrg, hi3, hb3⟩ := IMap.iter (P := Tryz.prog) HS.out Tryz.underlying89
 obtain ⟨r, hr⟩ : ∃ r, w.heap.size = r := ⟨_, rfl⟩
 have hdl := HD.out.lt
 rw [hr] at hrg hi3 hdl
 have HR := Lib.hid (show w.heap.size ≤ r by omega)
 have HN := Lib.hid HS.out.nodupL
 have hdr : d ≠ r := by omega
 have HI3 := Lib.hid hi3
 have HD3 := Lib.hid (HD.out.all hb3)
 have HM3 : Hid (Mod (fun b => b = d) w w3) := Lib.hid (Mod.of_below _ hb3)
 clear hb3 hi3 hr
 go_enter Tryz.func29, Tryz.ntmps29
 go_wp2
 go_loopw [4] (fun _ wr => ∃ left ts', Hid (IIter wr s r ts left) ∧ Hid (IMap wr d ts') ∧ Hid (∀ i, ts'.lookup i = if left i = true then tsL.lookup i else (ts.lookup i).or (tsL.lookup i)) ∧ Hid (Mod (fun b => b = d) w wr)) (fun _ wr => iterLeft wr s r)
 case atStart => exact ⟨_, tsL, HI3, HD3, Lib.hid (fun i => by simp), HM3⟩
 case round =>
  obtain ⟨left, ts', HI, HDr, HL, HMr⟩ := hrel
  rcases HI.out.next (P := Tryz.prog) with ⟨hno, hnx⟩ | ⟨k, v, w', hkv, hlk, hnx, hen, hI', hg', -, hlt⟩
  ·have HF : Hid (∀ i, ts'.lookup i = (ts.lookup i).or (tsL.lookup i)) := Lib.hid (fun i => by
    rw [HL.out i]
    split
    ·rename_i h
     cases hx : ts.lookup i with
     | none => rfl
     | some v => rw [hno _ (lookup_some_mem hx)] at h; cases h
    ·rfl)
   clear hno
   go_wp2
   go_end0
   exact ⟨rfl, ⟨ts', HDr.out, HF.out⟩, HMr.out⟩
  ·have m1 : Mod (fun b => b = r) wr w' := Mod.of_grown hg' (fun b e => .inl (by injection e with e; exact e.symm))
   obtain ⟨w2, hup, hd2, hg2, -⟩ := (HDr.out.mod m1 hdr).store Tryz.underlying89 Tryz.underlying3 k v
   have m2 : Mod (fun b => b = d) w' w2 := Mod.of_grown hg2 (fun b e => .inl (by injection e with e; exact e.symm))
   have HI2 := Lib.hid (hI'.mod m2 (fun e => hne e.symm) (fun e => hdr e.symm))
   have HD2 := Lib.hid hd2
   have HM2 : Hid (Mod (fun b => b = d) w w2) := Lib.hid ((HMr.out.trans m1 (fun b hb => .inr (by rw [hb]; exact HR.out))).trans m2 (fun b hb => .inl hb))
   have HL2 : Hid (∀ i, (put ts' k v).lookup i = if (left i && !(i == k)) = true then tsL.lookup i else (ts.lookup i).or (tsL.lookup i)) := Lib.hid (fun i => by
    rw [lookup_put]
    by_cases hi : i = k
    ·subst hi
     rw [if_pos rfl, lookup_mem HN.out hkv]
     simp
    ·rw [if_neg hi, HL.out i]
     simp [hi])
   have HLT : Hid (iterLeft w2 s r < iterLeft wr s r) := Lib.hid (by
    have e : iterLeft w2 s r = iterLeft w' s r := by
     have h1 := m2.block s hI'.lt.1 (fun e => hne e.symm)
     have h2 := m2.block r hI'.lt.2 (fun e => hdr e.symm)
     unfold iterLeft
     rw [h1, h2]
    rw [e]
    exact hlt)
   clear hkv hlk hI' hg' hlt m1 m2 hd2 hg2
   go_wp2
   exact ⟨⟨_, _, HI2, HD2, HL2, HM2⟩, HLT.out⟩
end Go.Proofs.YtlcalajehnaenaaGreatDoor
namespace Go.Proofs.YtlcalajehnaenaaGreatDoor
open Go.RowKit
theorem slV_inj {V V' : Sl} (h : slV V = slV V') : V = V' := by
 obtain ⟨a, b, c⟩ := V
 obtain ⟨a', b', c'⟩ := V'
 simp only [slV, Value.slice.injEq] at h
 obtain ⟨rfl, rfl, rfl⟩ := h
 rfl
theorem LotsAt.inj {w : World} {A : Option Addr} {n c : Nat} {ls ls' : List Lot} (h : LotsAt w A n c ls) (h' : LotsAt w A n c ls') : ls = ls' := by
 apply List.ext_getElem
 ·rw [h.1, h'.1]
 ·intro k hk hk'
  have hkn : k < n := by rw [← h.1]; exact hk
  obtain ⟨b, off, e, -, -, l, hl, c0, c1, c2⟩ := h.at_ hkn
  obtain ⟨b', off', e', -, -, l', hl', c0', c1', c2'⟩ := h'.at_ hkn
  rw [e] at e'
  injection e' with e'
  injection e' with e1 e2 _
  subst e1 e2
  rw [c0] at c0'
  rw [c1] at c1'
  rw [c2] at c2'
  injection c0' with c0'
  injection c0' with _ c0'
  injection c1' with c1'
  injection c1' with _ c1'
  injection c2' with c2'
  injection c2' with _ c2'
  have h1 := (List.getElem?_eq_some_iff.1 hl).2
  have h2 := (List.getElem?_eq_some_iff.1 hl').2
  rw [h1, h2]
  obtain ⟨x, y, z⟩ := l
  obtain ⟨x', y', z'⟩ := l'
  dsimp only at c0' c1' c2'
  subst c0' c1' c2'
  rfl
section
variable {mx : Int → Bool} {w : World} {L : Led} {S : LSt}
theorem LedAt.mapMod {w' : World} (h : LedAt mx w L S) (m : Mod (fun b => b = L.lS) w w') (es' : List (LK × Value)) (k : LK) (ls : List Lot) (hs : GMap kEnc w' L.lS es')
 (hst : ∀ k', StackAt w' (glk es' k') ((S.put k ls).st k')) (hne : ∀ k', (S.put k ls).st k' = [] → glk es' k' = none) : LedAt mx w' { L with es := es' } (S.put k ls) := by
 have hty : ∀ (b : Nat) (t : TypeId), b = L.lS → ¬ Ty w b t := fun b t e => by rw [e]; exact h.s.not_ty
 obtain ⟨d1, d2, d3, d4, d5, d6⟩ := h.dm
 obtain ⟨xs, hx⟩ := h.fl
 obtain ⟨ys, hy, hy0, hy1⟩ := h.sp
 exact ⟨m.blk h.c (fun e => hty _ _ e h.c.ty), hs, h.t.mod m (fun e => d1 e.symm), h.i.mod m (fun e => d2 e.symm), h.r.mod m (fun e => d3 e.symm), h.it.mod m (fun b e => hty b _ e), hst, hne, h.tt,
  ⟨xs, m.own hx (fun g hg e => hty _ _ e (Ty.of_own hx hg))⟩, ⟨ys, m.own hy (fun g hg e => hty _ _ e (Ty.of_own hy hg)), hy0, hy1⟩, h.dm⟩
theorem LedAt.putS (h : LedAt mx w L S) (k : LK) (V : Sl) (ls : List Lot) (hV : LotsAt w V.1 V.2.1 V.2.2 ls) (hls : ls ≠ []) :
 ∃ w', (Instr.mapUpdate 88 (.map (some L.lS)) (kEnc k) (slV V)).run Tryz.prog w = .ok () w' ∧ LedAt mx w' { L with es := gput L.es k (slV V) } (S.put k ls) ∧ Mod (fun b => b = L.lS) w w' := by
 obtain ⟨w', hrun, hs, hg, -⟩ := h.s.store kEncOk Tryz.underlying88 k (slV V)
 have m : Mod (fun b => b = L.lS) w w' := Mod.of_grown hg (fun g e => .inl (Option.some.inj e).symm)
 have hty : ∀ (b : Nat) (t : TypeId), b = L.lS → ¬ Ty w b t := fun b t e => by rw [e]; exact h.s.not_ty
 refine ⟨w', hrun, h.mapMod m _ k ls hs (fun k' => ?_) (fun k' => ?_), m⟩
 ·rw [glk_put]
  by_cases hk : k' = k
  ·rw [if_pos hk]
   have : (S.put k ls).st k' = ls := if_pos hk
   rw [this]
   exact ⟨V, rfl, hV.mod m (fun b e => hty b _ e)⟩
  ·rw [if_neg hk]
   have : (S.put k ls).st k' = S.st k' := if_neg hk
   rw [this]
   exact (h.st k').mod m (fun b e => hty b _ e)
 ·rw [glk_put]
  by_cases hk : k' = k
  ·have : (S.put k ls).st k' = ls := if_pos hk
   rw [this]
   exact fun e => absurd e hls
  ·rw [if_neg hk]
   have : (S.put k ls).st k' = S.st k' := if_neg hk
   rw [this]
   exact h.ne k'
theorem LedAt.delS (h : LedAt mx w L S) (k : LK) (ty : TypeId) :
 ∃ w', (Builtin.delete_ #[88, 108] ty #[.map (some L.lS), kEnc k]).run Tryz.prog w = .ok (.tuple #[]) w' ∧ LedAt mx w' { L with es := gdel L.es k } (S.put k []) ∧ Mod (fun b => b = L.lS) w w' := by
 obtain ⟨w', hrun, hs, hg, -⟩ := h.s.del (ty := ty) kEncOk Tryz.underlying88 k
 have m : Mod (fun b => b = L.lS) w w' := Mod.of_grown hg (fun g e => .inl (Option.some.inj e).symm)
 have hty : ∀ (b : Nat) (t : TypeId), b = L.lS → ¬ Ty w b t := fun b t e => by rw [e]; exact h.s.not_ty
 refine ⟨w', hrun, h.mapMod m _ k [] hs (fun k' => ?_) (fun k' => ?_), m⟩
 ·rw [glk_del]
  by_cases hk : k' = k
  ·rw [if_pos hk]
   have : (S.put k []).st k' = [] := if_pos hk
   rw [this]
   exact ⟨(none, 0, 0), rfl, LotsAt.nil _⟩
  ·rw [if_neg hk]
   have : (S.put k []).st k' = S.st k' := if_neg hk
   rw [this]
   exact (h.st k').mod m (fun b e => hty b _ e)
 ·rw [glk_del]
  by_cases hk : k' = k
  ·rw [if_pos hk]
   exact fun _ => rfl
  ·rw [if_neg hk]
   have : (S.put k []).st k' = S.st k' := if_neg hk
   rw [this]
   exact h.ne k'
theorem LedAt.setT {w' : World} (h : LedAt mx w L S) (m : Mod (fun b => b = L.lT) w w') (ts' : List (Int × Value)) (ht : IMap w' L.lT ts') (tot' : Int → Int) (hl : ∀ i, (ts'.lookup i).getD (.int .i64 0) = .int .i64 (tot' i)) :
 LedAt mx w' { L with ts := ts' } { S with tot := tot' } := by
 have hty : ∀ (b : Nat) (t : TypeId), b = L.lT → ¬ Ty w b t := fun b t e => by rw [e]; exact h.t.not_ty
 obtain ⟨d1, d2, d3, d4, d5, d6⟩ := h.dm
 obtain ⟨xs, hx⟩ := h.fl
 obtain ⟨ys, hy, hy0, hy1⟩ := h.sp
 exact ⟨m.blk h.c (fun e => hty _ _ e h.c.ty), h.s.mod m d1, ht, h.i.mod m (fun e => d4 e.symm), h.r.mod m (fun e => d5 e.symm), h.it.mod m (fun b e => hty b _ e), fun k => (h.st k).mod m (fun b e => hty b _ e), h.ne, hl,
  ⟨xs, m.own hx (fun g hg e => hty _ _ e (Ty.of_own hx hg))⟩, ⟨ys, m.own hy (fun g hg e => hty _ _ e (Ty.of_own hy hg)), hy0, hy1⟩, h.dm⟩
theorem LedAt.addF (h : LedAt mx w L S) (V : Sl) (m : Nat) (B : Nat) (xs : List Value) (hx : w.ownsRow B 236 11 (slV V) m xs) (h1 : ∀ u ∈ xs, u.oneCell' = true) (hn : S.nf + m < 1000000000) (ty : TypeId) :
 ∃ (V' : Sl) (w' : World), (Builtin.append_ #[92, 92] ty #[slV L.fl, slV V]).run Tryz.prog w = .ok (slV V') w' ∧ w'.cell? ⟨L.gl, 8, none⟩ = some (slV L.fl) ∧ w'.frozen? ⟨L.gl, 8, none⟩ = false ∧
  LedAt mx (w'.setCell ⟨L.gl, 8, none⟩ (slV V')) { L with fl := V' } { S with nf := S.nf + m } ∧ Mod (fun b => (slV L.fl).ownBlock = some b) w w' ∧ Mod (fun b => (slV L.fl).ownBlock = some b ∨ b = L.gl) w (w'.setCell ⟨L.gl, 8, none⟩ (slV V')) ∧ ∀ b, (slV V').ownBlock = some b → LedF L b ∨ w.heap.size ≤ b := by
 obtain ⟨fs, hf⟩ := h.fl
 obtain ⟨ys, hy, hy0, hy1⟩ := h.sp
 obtain ⟨A, n, c, hV⟩ : ∃ A n c, V = (A, n, c) := ⟨_, _, _, rfl⟩
 subst hV
 obtain ⟨A2, c2, he⟩ := own_split hx
 simp only [slV, Value.slice.injEq] at he
 obtain ⟨rfl, rfl, rfl⟩ := he
 have hrow : RowT w 236 A xs := RowT.of_own hx
 have hxl : xs.length = n * 11 := hx.1
 have hA : A = none → n = 0 := fun e => by
  rcases Nat.eq_zero_or_pos n with h0 | h0
  ·exact h0
  ·obtain ⟨b, off, e2, -⟩ := hrow.cells (by omega)
   rw [e] at e2
   cases e2
 have hnews : ∀ ad, A = some ad → ∀ j u, xs[j]? = some u → w.cell? (ad.add j) = some u := fun ad ha j u hu => by
  have hj := (List.getElem?_eq_some_iff.1 hu).1
  obtain ⟨b, off, e2, -, -, hc⟩ := hrow.cells (by omega)
  rw [ha] at e2
  injection e2 with e2
  subst e2
  have ea : (⟨b, off, none⟩ : Addr).add j = ⟨b, off + j, none⟩ := by unfold Addr.add; split <;> simp_all
  rw [ea, hc j hj, hu]
 obtain ⟨A', c', w', hrun, hown, hg, hnew⟩ := run_appendN (ty := ty) slT_flow hf A n c xs hxl hA hnews h1 hn (by decide) (Nat.zero_le _)
 have m1 : Mod (fun b => (slV L.fl).ownBlock = some b) w w' := Mod.of_grown hg (fun g e => .inl e)
 have hty : ∀ b t, (slV L.fl).ownBlock = some b → Ty w b t → t = 236 := fun b t hb ht => ht.unique (Ty.of_own hf hb)
 have hc' : Blk w' L.gl 94 (L.cells S.sh) := m1.blk h.c (fun e => absurd (hty _ _ e h.c.ty) (by decide))
 have m2 : Mod (fun b => b = L.gl) w' (w'.setCell ⟨L.gl, 8, none⟩ (.slice A' (S.nf + n) c')) := (Mod.refl (fun b => b = L.gl) w').set (.inl rfl) _
 have m : Mod (fun b => (slV L.fl).ownBlock = some b ∨ b = L.gl) w (w'.setCell ⟨L.gl, 8, none⟩ (.slice A' (S.nf + n) c')) := (m1.mono (fun b hb => .inl (.inl hb))).trans m2 (fun b hb => .inl (.inr hb))
 have hmap : ∀ {b : Nat}, (∀ t, ¬ Ty w b t) → ¬ ((slV L.fl).ownBlock = some b ∨ b = L.gl) := by
  rintro b hb (e | e)
  ·exact hb _ (Ty.of_own hf e)
  ·exact hb _ (e ▸ h.c.ty)
 have hoth : ∀ b t, ((slV L.fl).ownBlock = some b ∨ b = L.gl) → Ty w b t → t = 236 ∨ t = 94 := by
  rintro b t (e | e) ht
  ·exact .inl (hty _ _ e ht)
  ·rw [e] at ht
   exact .inr (ht.unique h.c.ty)
 have hcells : ({ L with fl := (A', S.nf + n, c') } : Led).cells S.sh = (L.cells S.sh).setIfInBounds 8 (.slice A' (S.nf + n) c') := by simp [Led.cells, slV]
 refine ⟨(A', S.nf + n, c'), w', hrun, hc'.cell 8, hc'.frozen 8, ⟨?_, h.s.mod m (hmap (fun t => h.s.not_ty)), h.t.mod m (hmap (fun t => h.t.not_ty)), h.i.mod m (hmap (fun t => h.i.not_ty)), h.r.mod m (hmap (fun t => h.r.not_ty)),
  h.it.mod m (fun b hb ht => by rcases hoth _ _ hb ht with e | e <;> exact absurd e (by decide)), fun k => (h.st k).mod m (fun b hb ht => by rcases hoth _ _ hb ht with e | e <;> exact absurd e (by decide)), h.ne, h.tt,
  ⟨fs ++ xs, ?_⟩, ⟨ys, m.own hy (fun g hg' hb => by rcases hoth _ _ hb (Ty.of_own hy hg') with e | e <;> exact absurd e (by decide)), hy0, hy1⟩, h.dm⟩, m1, m, fun b hb => ?_⟩
 ·rw [hcells]
  exact hc'.set_ 8 _
 ·exact m2.own hown (fun g' hg' e' => by
   have ht := Ty.of_own hown hg'
   rw [e'] at ht
   exact absurd (ht.unique hc'.ty) (by decide))
 ·rcases hnew b hb with e | e
  ·exact .inl (.inr (.inr (.inr (.inr (.inr (.inr e))))))
  ·exact .inr e
theorem slT_step : SlT Tryz.prog 91 43 7 72 := SlT.of Tryz.underlying91 (by kernel_rfl) (by decide)
theorem LedAt.addS (h : LedAt mx w L S) (gb : Nat) (cs : Array Value) (hsrc : Blk w gb 43 cs) (hcs : cs.size = 7) (h1 : ∀ u ∈ cs.toList, u.oneCell' = true) (tick : Int) (ht : cs[3]? = some (.int .i64 tick)) (hn : S.ns < 1000000) (ty : TypeId) :
 ∃ (V' : Sl) (w' : World), (Builtin.append_ #[91, 91] ty #[slV L.sp, .slice (some ⟨gb, 0, none⟩) 1 1]).run Tryz.prog w = .ok (slV V') w' ∧ w'.cell? ⟨L.gl, 7, none⟩ = some (slV L.sp) ∧ w'.frozen? ⟨L.gl, 7, none⟩ = false ∧
  LedAt mx (w'.setCell ⟨L.gl, 7, none⟩ (slV V')) { L with sp := V' } { S with ns := S.ns + 1, now := tick } ∧ Mod (fun b => (slV L.sp).ownBlock = some b) w w' ∧ Mod (fun b => (slV L.sp).ownBlock = some b ∨ b = L.gl) w (w'.setCell ⟨L.gl, 7, none⟩ (slV V')) ∧ ∀ b, (slV V').ownBlock = some b → LedF L b ∨ w.heap.size ≤ b := by
 obtain ⟨fs, hf⟩ := h.fl
 obtain ⟨ys, hy, hy0, hy1⟩ := h.sp
 obtain ⟨g, c', w', hrun, hown, hg, hnew⟩ := run_append1b (ty := ty) slT_step hy hsrc hcs h1 (by omega) (by decide) (Nat.zero_le _)
 have m1 : Mod (fun b => (slV L.sp).ownBlock = some b) w w' := Mod.of_grown hg (fun g e => .inl e)
 have hty : ∀ b t, (slV L.sp).ownBlock = some b → Ty w b t → t = 43 := fun b t hb ht => ht.unique (Ty.of_own hy hb)
 have hc' : Blk w' L.gl 94 (L.cells S.sh) := m1.blk h.c (fun e => absurd (hty _ _ e h.c.ty) (by decide))
 have m2 : Mod (fun b => b = L.gl) w' (w'.setCell ⟨L.gl, 7, none⟩ (.slice (some ⟨g, 0, none⟩) (S.ns + 1) c')) := (Mod.refl (fun b => b = L.gl) w').set (.inl rfl) _
 have m : Mod (fun b => (slV L.sp).ownBlock = some b ∨ b = L.gl) w (w'.setCell ⟨L.gl, 7, none⟩ (.slice (some ⟨g, 0, none⟩) (S.ns + 1) c')) := (m1.mono (fun b hb => .inl (.inl hb))).trans m2 (fun b hb => .inl (.inr hb))
 have hmap : ∀ {b : Nat}, (∀ t, ¬ Ty w b t) → ¬ ((slV L.sp).ownBlock = some b ∨ b = L.gl) := by
  rintro b hb (e | e)
  ·exact hb _ (Ty.of_own hy e)
  ·exact hb _ (e ▸ h.c.ty)
 have hoth : ∀ b t, ((slV L.sp).ownBlock = some b ∨ b = L.gl) → Ty w b t → t = 43 ∨ t = 94 := by
  rintro b t (e | e) ht
  ·exact .inl (hty _ _ e ht)
  ·rw [e] at ht
   exact .inr (ht.unique h.c.ty)
 have hcells : ({ L with sp := (some ⟨g, 0, none⟩, S.ns + 1, c') } : Led).cells S.sh = (L.cells S.sh).setIfInBounds 7 (.slice (some ⟨g, 0, none⟩) (S.ns + 1) c') := by simp [Led.cells, slV]
 have hyl : ys.length = S.ns * 7 := hy.1
 refine ⟨(some ⟨g, 0, none⟩, S.ns + 1, c'), w', hrun, hc'.cell 7, hc'.frozen 7, ⟨?_, h.s.mod m (hmap (fun t => h.s.not_ty)), h.t.mod m (hmap (fun t => h.t.not_ty)), h.i.mod m (hmap (fun t => h.i.not_ty)), h.r.mod m (hmap (fun t => h.r.not_ty)),
  h.it.mod m (fun b hb ht => by rcases hoth _ _ hb ht with e | e <;> exact absurd e (by decide)), fun k => (h.st k).mod m (fun b hb ht => by rcases hoth _ _ hb ht with e | e <;> exact absurd e (by decide)), h.ne, h.tt,
  ⟨fs, m.own hf (fun g hg' hb => by rcases hoth _ _ hb (Ty.of_own hf hg') with e | e <;> exact absurd e (by decide))⟩, ⟨ys ++ cs.toList, ?_, fun e => absurd e (by show ¬ S.ns + 1 = 0; omega), fun k hk => ?_⟩, h.dm⟩, m1, m, fun b hb => ?_⟩
 ·rw [hcells]
  exact hc'.set_ 7 _
 ·exact m2.own hown (fun g' hg' e' => by
   have ht := Ty.of_own hown hg'
   rw [e'] at ht
   exact absurd (ht.unique hc'.ty) (by decide))
 ·have hk' : k = S.ns := by
   have : S.ns + 1 = k + 1 := hk
   omega
  subst hk'
  rw [List.getElem?_append_right (by omega), hyl]
  have e : S.ns * 7 + 3 - S.ns * 7 = 3 := by omega
  rw [e, Array.getElem?_toList]
  exact ht
 ·have hb' : g = b := by injection hb
  subst hb'
  rcases hnew with e | e
  ·exact .inl (.inr (.inr (.inr (.inr (.inr (.inl e.symm))))))
  ·exact .inr (by omega)
end
end Go.Proofs.YtlcalajehnaenaaGreatDoor
