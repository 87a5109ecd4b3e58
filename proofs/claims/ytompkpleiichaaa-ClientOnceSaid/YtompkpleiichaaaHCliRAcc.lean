/- client: Accept of the reference. -/
import Derived.Test.YtompkpleiichaaaHCliRSes

namespace Go.Proofs.Ytompkpleiichaaa
open Go.RowKit

theorem RowT.news {w : World} {t : TypeId} {A : Option Addr} {xs : List Value} (h : RowT w t A xs) : ∀ ad, A = some ad → ∀ j u, xs[j]? = some u → w.cell? (ad.add j) = some u := by
  intro ad e j u hu
  have hj := (List.getElem?_eq_some_iff.1 hu).1
  obtain ⟨b, off, e2, -, -, hc⟩ := h.cells (by omega)
  rw [e] at e2
  injection e2 with e2
  subst e2
  have ea : (⟨b, off, none⟩ : Addr).add j = ⟨b, off + j, none⟩ := by unfold Addr.add; split <;> simp_all
  rw [ea, hc j hj]
  exact hu
theorem RowT.none_ {w : World} {t : TypeId} {A : Option Addr} {xs : List Value} {m size : Nat} (h : RowT w t A xs) (hl : xs.length = m * size) (hs : 0 < size) : A = none → m = 0 := by
  rintro rfl
  rcases Nat.eq_zero_or_pos m with h0 | h0
  · exact h0
  · obtain ⟨_, _, e, _⟩ := h.cells (by rw [hl]; exact Nat.mul_pos h0 hs)
    cases e
theorem step_appendRows {P : Program} {w : World} {base t e size bytes n : Nat} {v : Value} {xs : List Value} {ops : Array Oper} {o : Oper} {a : Act} {K : Act → World → Prop} {Q : Exit → Act → World → Prop} {E : Prop} {s x : Operand} (hT : SlT P t e size bytes) (hgd : o.guard = none)
    (ho : o.op = .call { callee := .builtin .append, args := #[s, x], argTypes := #[t, t] }) (hs : a.eval s = v) {A : Option Addr} {m c : Nat} (hx : a.eval x = .slice A m c)
    (hown : w.ownsRow base e size v n xs) (news : List Value) (hr : RowT w e A news) (hl : news.length = m * size) (h1 : ∀ u ∈ news, u.oneCell' = true) (hn : n + m < 1099511627776) (hby : bytes ≤ 64) (hbase : base ≤ w.heap.size)
    (hK : ∀ A' cap w', w'.ownsRow base e size (.slice A' (n + m) cap) (n + m) (xs ++ news) → w.grownBy w' v.ownBlock → ((Value.slice A' (n + m) cap).ownBlock = v.ownBlock ∨ (Value.slice A' (n + m) cap).ownBlock = some w.heap.size) →
      K (a.put o.dst (.slice A' (n + m) cap)) w') : if Region.wanted o (yielded ops a.tmps) = true then Oper.wp P o a w K Q else E := by
  have hsz : 0 < size := by obtain ⟨_, _, _, _, _, _, _, _, h⟩ := hT; exact h
  obtain ⟨v', w', hrun, h2, h3, h4⟩ := run_append_rows (ty := o.type) hT hown A m c news hl (hr.none_ hl hsz) hr.news h1 hn hby hbase
  obtain ⟨A', cap, rfl⟩ := own_parts h2
  have hw : Region.wanted o (yielded ops a.tmps) = true := by simp [Region.wanted, hgd]
  rw [if_pos hw]
  unfold Oper.wp
  simp [execOp, ho, resolve, invoke, builtin, hs, hx, hrun, Result.andThen]
  exact hK A' cap w' h2 h3 h4
theorem step_appendNil {P : Program} {w : World} {t e size bytes : Nat} {ops : Array Oper} {o : Oper} {a : Act} {K : Act → World → Prop} {Q : Exit → Act → World → Prop} {E : Prop} {s x : Operand} (hT : SlT P t e size bytes) (hgd : o.guard = none)
    (ho : o.op = .call { callee := .builtin .append, args := #[s, x], argTypes := #[t, t] }) (hs : a.eval s = .slice none 0 0) {A : Option Addr} {m c : Nat} (hx : a.eval x = .slice A m c)
    (base : Nat) (news : List Value) (hr : RowT w e A news) (hl : news.length = m * size) (h1 : ∀ u ∈ news, u.oneCell' = true) (hn : m < 1099511627776) (hby : bytes ≤ 64) (hbase : base ≤ w.heap.size)
    (hK : ∀ A' cap w', w'.ownsRow base e size (.slice A' m cap) m news → Below w.heap.size w w' →
      K (a.put o.dst (.slice A' m cap)) w') : if Region.wanted o (yielded ops a.tmps) = true then Oper.wp P o a w K Q else E := by
  refine step_appendRows hT hgd ho hs hx (World.ownsRow_nil w base e size) news hr hl h1 (by omega) hby hbase ?_
  intro A' cap w' h2 h3 _
  rw [Nat.zero_add, List.nil_append] at h2
  rw [Nat.zero_add]
  exact hK A' cap w' h2 ((Below.refl _ _).grown h3 (Nat.le_refl _) (fun k e => by simp [Value.ownBlock] at e))
def acRes (σ : Int → Option CSt) (r : Rq) : Bool × List UInt8 × Int :=
  if (r.cl < 1 ∨ 1073741824 < r.cl) ∨ r.num < 1 ∨ 65536 < r.n then (false, [], 1)
  else match σ r.cl with
    | none => (false, [], 7)
    | some s => accRes (tagOk s.1 r) s.2.1 s.2.2 r.num (bodyI r.bs)
def acSt (σ : Int → Option CSt) (r : Rq) : Int → Option CSt :=
  if (acRes σ r).1 then (match σ r.cl with
    | none => σ
    | some s => upd σ r.cl (s.1, accNew (tagOk s.1 r) s.2.1 s.2.2 r.num (bodyI r.bs))) else σ
def RAccPost (g : Nat) (rv : Value) (n0 : Nat) (σ : Int → Option CSt) (r : Rq) (w : World) (e : Ending) (w' : World) : Prop :=
  ∃ A n cap, e = .returned (.tuple #[.bool (acRes σ r).1, .slice A n cap, .int .i64 (acRes σ r).2.2]) ∧ Bts w' A n cap (acRes σ r).2.1 ∧ RNext g rv n0 (acSt σ r) w w'
theorem RAccPost.same {g : Nat} {rv : Value} {rl : List RCl} {r : Rq} {w w' : World} {x : Bool × List UInt8 × Int} {A : Option Addr} {n cap : Nat} (h : RSes w g rv rl) (hb : Below w.heap.size w w') (hx : acRes (sigR rl) r = x) (h1 : x.1 = false) (hB : Bts w' A n cap x.2.1) : RAccPost g rv rl.length (sigR rl) r w (.returned (.tuple #[.bool x.1, .slice A n cap, .int .i64 x.2.2])) w' :=
  ⟨A, n, cap, by rw [hx], by rw [hx]; exact hB, by unfold acSt; rw [hx, h1]; exact RNext.same h hb⟩
set_option maxRecDepth 100000 in
set_option maxHeartbeats 1000000 in
theorem rwaits_any (r : RCl) (w : World) (HR : Hid (r.ok w)) : Calls Try.prog 57 #[.agg #[.int .i64 r.id, .int .u64 r.key, .int .i64 r.last, .slice r.A r.n r.c]] w fun e w' => e = .returned (.bool (waitsL (r.olds.map Old.log))) ∧ Below w.heap.size w w' := by
  obtain ⟨id, key, last, A, n, c, olds⟩ := r
  have hlen := HR.out.len
  have hfew := HR.out.few
  dsimp only at hlen hfew ⊢
  have hb1 := (Below.refl w.heap.size w).alloc (Nat.le_refl _) (.cells #[.int .i64 id, .int .u64 key, .int .i64 last, .slice A n c] 108)
  rcases Nat.eq_zero_or_pos n with h0 | h0
  · have HE := Lib.hid (show waitsL (olds.map Old.log) = false by
      have : olds = [] := List.eq_nil_of_length_eq_zero (by omega)
      rw [this]; rfl)
    subst h0
    clear hlen hfew
    go_enter Try.func57, Try.ntmps57
    go_wp2
    go_ret
    exact ⟨by rw [HE.out]; rfl, hb1⟩
  · obtain ⟨k, rfl⟩ : ∃ k, n = k + 1 := ⟨n - 1, by omega⟩
    have hkl : k < olds.length := by omega
    obtain ⟨b, off, hA, hbl, -, hc⟩ := HR.out.row.at_ Old.cells 4 Old.cells_length (by decide) (k := k) hkl
    dsimp only at hA hbl hc
    have h2 := hc 2 (by decide)
    have HE := Lib.hid (show waitsL (olds.map Old.log) = !(olds[k]).done by
      have hlast : olds[olds.length - 1]? = some olds[k] := by
        rw [show olds.length - 1 = k by omega]
        exact List.getElem?_eq_getElem hkl
      unfold waitsL
      rw [List.getLast?_map, List.getLast?_eq_getElem?, hlast]
      rfl)
    generalize hd : olds[k] = o at *
    obtain ⟨dn, hdn⟩ : ∃ dn, o.done = dn := ⟨_, rfl⟩
    rw [hdn] at HE
    replace h2 : w.cell? ⟨b, off + k * 4 + 2, none⟩ = some (.bool dn) := by rw [Nat.add_assoc, ← hdn]; exact h2
    have h2' := (hb1.cell (p := ⟨b, off + k * 4 + 2, none⟩) hbl).trans h2
    subst hA
    have hk0 : (0 : Int) ≤ (k : Int) := by omega
    clear hd hdn h2 hc hlen
    go_enter Try.func57, Try.ntmps57
    go_wp2
    go_ret
    exact ⟨by rw [HE.out]; rfl, hb1⟩
def RqBlk (w : World) (g : Nat) (r : Rq) : Prop := Blk w g 37 #[.int .i64 r.cl, .int .i64 r.num, .slice r.A r.n r.c, .int .u64 r.tag]
set_option maxRecDepth 100000 in
set_option maxHeartbeats 1000000 in
theorem raccept_arg (g : Nat) (rv : Value) (rl : List RCl) (r : Rq) (w : World) (HS : Hid (RSes w g rv rl)) (h : (r.cl < 1 ∨ 1073741824 < r.cl) ∨ r.num < 1 ∨ 65536 < r.n) :
    Calls Try.prog 31 #[.pointer (some ⟨g, 0, none⟩), .agg #[.int .i64 r.cl, .int .i64 r.num, .slice r.A r.n r.c, .int .u64 r.tag]] w (RAccPost g rv rl.length (sigR rl) r w) := by
  have HE := Lib.hid (show acRes (sigR rl) r = (false, [], 1) by unfold acRes; rw [if_pos h])
  have HP := Lib.hid (RAccPost.same (r := r) HS.out ((Below.refl w.heap.size w).alloc (Nat.le_refl _) (.cells #[.int .i64 r.cl, .int .i64 r.num, .slice r.A r.n r.c, .int .u64 r.tag] 37)) HE.out rfl (Bts.nil _))
  obtain ⟨cl, num, A, n, c, bs, tag⟩ := r
  dsimp only at h HP ⊢
  clear HE HS
  by_cases h1 : cl < 1
  · clear h
    go_enter Try.func31, Try.ntmps31
    go_wp2
    go_ret3
    exact HP.out
  by_cases h2 : 1073741824 < cl
  · clear h
    go_enter Try.func31, Try.ntmps31
    go_wp2
    go_ret3
    exact HP.out
  by_cases h3 : num < 1
  · clear h
    go_enter Try.func31, Try.ntmps31
    go_wp2
    go_ret3
    exact HP.out
  · have h4 : (65536 : Int) < (n : Int) := by omega
    clear h
    go_enter Try.func31, Try.ntmps31
    go_wp2
    go_ret3
    exact HP.out
set_option maxRecDepth 100000 in
set_option maxHeartbeats 1000000 in
theorem raccept_none (g : Nat) (rv : Value) (rl : List RCl) (r : Rq) (w : World) (HS : Hid (RSes w g rv rl)) (hl : rl.length ≤ 1000000) (h1 : 1 ≤ r.cl) (h2 : r.cl ≤ 1073741824) (h3 : 1 ≤ r.num) (h4 : r.n ≤ 65536) (HN : Hid (idxR rl r.cl = -1)) (HF : Hid (findR rl r.cl = none)) :
    Calls Try.prog 31 #[.pointer (some ⟨g, 0, none⟩), .agg #[.int .i64 r.cl, .int .i64 r.num, .slice r.A r.n r.c, .int .u64 r.tag]] w (RAccPost g rv rl.length (sigR rl) r w) := by
  have hb1 := (Below.refl w.heap.size w).alloc (Nat.le_refl _) (.cells #[.int .i64 r.cl, .int .i64 r.num, .slice r.A r.n r.c, .int .u64 r.tag] 37)
  have HE := Lib.hid (show acRes (sigR rl) r = (false, [], 7) by unfold acRes sigR; rw [if_neg (by omega), HF.out]; rfl)
  have HP := Lib.hid (RAccPost.same (r := r) HS.out hb1 HE.out rfl (Bts.nil _))
  have HC := Lib.hid (rfind_any g rv rl r.cl _ (Lib.hid (HS.out.all hb1)) hl)
  rw [HN.out] at HC
  obtain ⟨cl, num, A, n, c, bs, tag⟩ := r
  dsimp only at h1 h2 h3 h4 HP HC ⊢
  have h4' : ¬ ((65536 : Int) < (n : Int)) := by omega
  clear HE HS HN HF hb1
  go_enter Try.func31, Try.ntmps31
  go_wp2_with fail
  refine HC.out.mono ?_
  rintro e w1 ⟨rfl, rfl⟩
  go_wp2
  go_ret3
  exact HP.out
theorem keepA8 {wz w' : World} {g s : Nat} {t t' : TypeId} {a b c d a' b' c' d' : Value} (h : Below wz.heap.size wz w') (h1 : Blk wz g t #[a, b, c, d]) (h2 : Blk wz s t' #[a', b', c', d']) :
    Below wz.heap.size wz w' ∧ w'.cell? ⟨g, 0, none⟩ = some a ∧ w'.cell? ⟨g, 1, none⟩ = some b ∧ w'.cell? ⟨g, 2, none⟩ = some c ∧ w'.cell? ⟨g, 3, none⟩ = some d ∧ w'.cell? ⟨s, 0, none⟩ = some a' ∧ w'.cell? ⟨s, 1, none⟩ = some b' ∧ w'.cell? ⟨s, 2, none⟩ = some c' ∧ w'.cell? ⟨s, 3, none⟩ = some d' :=
  ⟨h, (h1.all h).cell 0, (h1.all h).cell 1, (h1.all h).cell 2, (h1.all h).cell 3, (h2.all h).cell 0, (h2.all h).cell 1, (h2.all h).cell 2, (h2.all h).cell 3⟩
def oldRes (acc : List AL) (last num bd : Int) : Bool × List UInt8 × Int :=
  if posL acc.length last num < 0 then (false, [], 14) else match acc[(posL acc.length last num).toNat]? with
    | none => (false, [], 14)
    | some a => if a.1 ≠ bd then (false, [], 8) else if a.2.1 then (false, a.2.2, 0) else (false, [], 13)
theorem accRes_old {acc : List AL} {last num bd : Int} (h1 : ¬ last + 1 < num) (h2 : num ≤ last) : accRes true last acc num bd = oldRes acc last num bd := by
  unfold accRes oldRes
  rw [if_neg (by decide), if_neg h1, if_neg (by omega)]
  split
  · rfl
  · cases acc[(posL acc.length last num).toNat]? <;> rfl
theorem oldRes_at {olds : List Old} {last num bd : Int} {j : Nat} (hnum : ∀ k (h : k < olds.length), (olds[k]).num = last - (olds.length - 1 - k : Int)) (hj : j < olds.length) (he : (olds[j]).num = num) :
    oldRes (olds.map Old.log) last num bd = if (olds[j]).hash ≠ bd then (false, [], 8) else if (olds[j]).done then (false, (olds[j]).bs, 0) else (false, [], 13) := by
  have hp : posL (olds.map Old.log).length last num = (j : Int) := by
    have := hnum j hj
    unfold posL
    rw [List.length_map]
    omega
  unfold oldRes
  rw [hp, if_neg (by omega), Int.toNat_natCast, List.getElem?_map, List.getElem?_eq_getElem hj]
  rfl
theorem RSes.upd {w : World} {g g1 cap k : Nat} {rv : Value} {rl : List RCl} {r' : RCl} (h : RSes w g rv rl) (hk : k < rl.length) (hv : rv = .slice (some ⟨g1, 0, none⟩) rl.length cap) (hid : r'.id = (rl[k]).id) (hkey : r'.key = (rl[k]).key) (hok : r'.ok w) :
    RSes ((w.setCell ⟨g1, k * 4 + 3, none⟩ (.slice r'.A r'.n r'.c)).setCell ⟨g1, k * 4 + 2, none⟩ (.int .i64 r'.last)) g rv (rl.set k r') ∧ Mod (RSesF g rv) w ((w.setCell ⟨g1, k * 4 + 3, none⟩ (.slice r'.A r'.n r'.c)).setCell ⟨g1, k * 4 + 2, none⟩ (.int .i64 r'.last)) := by
  have hne : g1 ≠ g := h.ne (by rw [hv]; rfl)
  have hm : Mod (fun b => b = g1) w ((w.setCell ⟨g1, k * 4 + 3, none⟩ (.slice r'.A r'.n r'.c)).setCell ⟨g1, k * 4 + 2, none⟩ (.int .i64 r'.last)) := ((Mod.refl (fun b => b = g1) w).set (p := ⟨g1, k * 4 + 3, none⟩) (.inl rfl) _).set (p := ⟨g1, k * 4 + 2, none⟩) (.inl rfl) _
  have hF : ∀ b, b = g1 → RSesF g rv b := fun b e => .inr (by rw [hv, e]; rfl)
  have ho := h.own
  rw [hv] at ho
  have ho2 := ((ho.stored (k * 4 + 3) (.slice r'.A r'.n r'.c)).1.stored (k * 4 + 2) (.int .i64 r'.last)).1
  have e1 : (rl.flatMap RCl.cells).set (k * 4 + 3) (.slice r'.A r'.n r'.c) = (rl.set k ⟨(rl[k]).id, (rl[k]).key, (rl[k]).last, r'.A, r'.n, r'.c, r'.olds⟩).flatMap RCl.cells := flatT_set RCl.cells 4 RCl.cells_length _ 3 (by decide) _ rl k hk rfl
  have e2 : ((rl.set k ⟨(rl[k]).id, (rl[k]).key, (rl[k]).last, r'.A, r'.n, r'.c, r'.olds⟩).flatMap RCl.cells).set (k * 4 + 2) (.int .i64 r'.last) = ((rl.set k ⟨(rl[k]).id, (rl[k]).key, (rl[k]).last, r'.A, r'.n, r'.c, r'.olds⟩).set k r').flatMap RCl.cells :=
    flatT_set RCl.cells 4 RCl.cells_length _ 2 (by decide) _ _ k (by rw [List.length_set]; exact hk) (by
      rw [List.getElem_set_self]
      unfold RCl.cells
      rw [hid, hkey]
      rfl)
  rw [e1, e2, List.set_set] at ho2
  refine ⟨⟨hm.blk h.blk (fun e => hne e.symm), ?_, ?_⟩, hm.mono (fun b e => .inl (hF b e))⟩
  · rw [hv, List.length_set]
    exact ho2
  · intro r hr
    have nb : ∀ b, b = g1 → ¬ Ty w b 5 := fun b e => h.noB b (hF b e)
    have no : ∀ b, b = g1 → ¬ Ty w b 112 := fun b e => h.noO b (hF b e)
    rcases List.mem_or_eq_of_mem_set hr with hr | rfl
    · exact (h.ok r hr).mod hm nb no
    · exact hok.mod hm nb no
theorem RSes.upd3 {w : World} {g g1 cap k : Nat} {rv : Value} {rl : List RCl} {r' : RCl} (h : RSes w g rv rl) (hk : k < rl.length) (hv : rv = .slice (some ⟨g1, 0, none⟩) rl.length cap) (hid : r'.id = (rl[k]).id) (hkey : r'.key = (rl[k]).key) (hlast : r'.last = (rl[k]).last) (hok : r'.ok w) :
    RSes (w.setCell ⟨g1, k * 4 + 3, none⟩ (.slice r'.A r'.n r'.c)) g rv (rl.set k r') ∧ Mod (RSesF g rv) w (w.setCell ⟨g1, k * 4 + 3, none⟩ (.slice r'.A r'.n r'.c)) := by
  have hne : g1 ≠ g := h.ne (by rw [hv]; rfl)
  have hm : Mod (fun b => b = g1) w (w.setCell ⟨g1, k * 4 + 3, none⟩ (.slice r'.A r'.n r'.c)) := (Mod.refl (fun b => b = g1) w).set (p := ⟨g1, k * 4 + 3, none⟩) (.inl rfl) _
  have hF : ∀ b, b = g1 → RSesF g rv b := fun b e => .inr (by rw [hv, e]; rfl)
  have ho := h.own
  rw [hv] at ho
  have ho2 := (ho.stored (k * 4 + 3) (.slice r'.A r'.n r'.c)).1
  have e1 : (rl.flatMap RCl.cells).set (k * 4 + 3) (.slice r'.A r'.n r'.c) = (rl.set k r').flatMap RCl.cells := flatT_set RCl.cells 4 RCl.cells_length _ 3 (by decide) _ rl k hk (by
    unfold RCl.cells
    rw [hid, hkey, hlast]
    rfl)
  rw [e1] at ho2
  refine ⟨⟨hm.blk h.blk (fun e => hne e.symm), ?_, ?_⟩, hm.mono (fun b e => .inl (hF b e))⟩
  · rw [hv, List.length_set]
    exact ho2
  · intro r hr
    have nb : ∀ b, b = g1 → ¬ Ty w b 5 := fun b e => h.noB b (hF b e)
    have no : ∀ b, b = g1 → ¬ Ty w b 112 := fun b e => h.noO b (hF b e)
    rcases List.mem_or_eq_of_mem_set hr with hr | rfl
    · exact (h.ok r hr).mod hm nb no
    · exact hok.mod hm nb no
/-- The client after a request was accepted. -/
theorem RCl.ok.pushed {w w7 : World} {c0 : RCl} {num bd : Int} {g7 cap7 base : Nat} (h : c0.ok w) (hb : Below w.heap.size w w7) (hnum : num = c0.last + 1) (hlt : c0.last < 4611686018427387904)
    (ho : w7.ownsRow base 112 4 (.slice (some ⟨g7, 0, none⟩) (c0.n + 1) cap7) (c0.n + 1) (c0.olds.flatMap Old.cells ++ (⟨num, bd, false, none, 0, 0, []⟩ : Old).cells)) :
    (c0.n < 16 → RCl.ok w7 ⟨c0.id, c0.key, num, some ⟨g7, 0, none⟩, c0.n + 1, cap7, c0.olds ++ [⟨num, bd, false, none, 0, 0, []⟩]⟩) ∧
    (c0.n = 16 → RCl.ok w7 ⟨c0.id, c0.key, num, some ⟨g7, 4, none⟩, c0.n, cap7 - 1, (c0.olds ++ [(⟨num, bd, false, none, 0, 0, []⟩ : Old)]).tail⟩) := by
  have hl := h.len
  have hln := h.last
  have hcap := own_len_capR ho
  have hrow : RowT w7 112 (some ⟨g7, 0, none⟩) ((c0.olds ++ [(⟨num, bd, false, none, 0, 0, []⟩ : Old)]).flatMap Old.cells) := by
    rw [List.flatMap_append, List.flatMap_singleton]
    exact RowT.of_own ho
  have hold : ∀ o ∈ c0.olds ++ [(⟨num, bd, false, none, 0, 0, []⟩ : Old)], o.ok w7 := by
    intro o ho
    rw [List.mem_append, List.mem_singleton] at ho
    rcases ho with ho | rfl
    · exact ⟨(h.old o ho).1.all hb, (h.old o ho).2⟩
    · exact ⟨Bts.nil _, Nat.zero_le _⟩
  have hnums : ∀ k (hk : k < (c0.olds ++ [(⟨num, bd, false, none, 0, 0, []⟩ : Old)]).length), ((c0.olds ++ [(⟨num, bd, false, none, 0, 0, []⟩ : Old)])[k]).num = num - (c0.n - k : Int) := by
    intro k hk
    rw [List.length_append, List.length_singleton] at hk
    rw [List.getElem_append]
    split
    · rename_i hk2
      have := h.num k hk2
      rw [this, hnum, hl]
      omega
    · have : k = c0.olds.length := by omega
      subst this
      simp
      omega
  constructor
  · intro h16
    refine ⟨by simp [hl], hcap.1, hcap.2, hrow, hold, ⟨?_, ?_⟩, ?_, ?_⟩
    · dsimp only; omega
    · dsimp only; omega
    · dsimp only; omega
    · intro k hk
      have := hnums k hk
      dsimp only at this ⊢
      rw [this, List.length_append, List.length_singleton, hl]
      omega
  · intro h16
    have hne : c0.olds ++ [(⟨num, bd, false, none, 0, 0, []⟩ : Old)] ≠ [] := by simp
    refine ⟨by simp [hl], ?_, ?_, ?_, ?_, ⟨?_, ?_⟩, ?_, ?_⟩
    · dsimp only; omega
    · dsimp only; omega
    · obtain ⟨b, off, e, hr⟩ := hrow.drop 4 (by rw [flatT_length Old.cells 4 Old.cells_length]; simp; omega)
      injection e with e
      injection e with e1 e2
      subst e1 e2
      dsimp only
      rw [show (c0.olds ++ [(⟨num, bd, false, none, 0, 0, []⟩ : Old)]).tail.flatMap Old.cells = ((c0.olds ++ [(⟨num, bd, false, none, 0, 0, []⟩ : Old)]).flatMap Old.cells).drop 4 by
        rcases hc : c0.olds ++ [(⟨num, bd, false, none, 0, 0, []⟩ : Old)] with _ | ⟨x, l⟩
        · exact absurd hc hne
        · rfl]
      exact hr
    · intro o ho
      exact hold o (List.mem_of_mem_tail ho)
    · dsimp only; omega
    · dsimp only; omega
    · dsimp only; omega
    · intro k hk
      rw [List.length_tail] at hk
      have := hnums (k + 1) (by omega)
      rw [List.getElem_tail]
      dsimp only at this ⊢
      rw [this, List.length_tail, List.length_append, List.length_singleton, hl]
      omega
structure RAccI (w0 : World) (g : Nat) (rv : Value) (rl : List RCl) (gr gc : Nat) (r : Rq) (c0 : RCl) (w : World) : Prop where
  ses : RSes w g rv rl
  req : Blk w gr 37 #[.int .i64 r.cl, .int .i64 r.num, .slice r.A r.n r.c, .int .u64 r.tag]
  cli : Blk w gc 108 #[.int .i64 c0.id, .int .u64 c0.key, .int .i64 c0.last, .slice c0.A c0.n c0.c]
  rok : r.ok w
  cok : c0.ok w
  below : Below w0.heap.size w0 w
theorem RAccI.all {w0 w w' : World} {g gr gc : Nat} {rv : Value} {rl : List RCl} {r : Rq} {c0 : RCl} (h : RAccI w0 g rv rl gr gc r c0 w) (hb : Below w.heap.size w w') : RAccI w0 g rv rl gr gc r c0 w' :=
  ⟨h.ses.all hb, h.req.all hb, h.cli.all hb, h.rok.all hb, h.cok.mod (Mod.of_below (fun _ => False) hb) (fun _ h => h.elim) (fun _ h => h.elim), bt h.below hb⟩
theorem RAccI.drewN {w0 w : World} {g gr gc : Nat} {rv : Value} {rl : List RCl} {r : Rq} {c0 : RCl} (h : RAccI w0 g rv rl gr gc r c0 w) (n : Nat) : RAccI w0 g rv rl gr gc r c0 (w.drewN n) := h.all ⟨rfl, rfl, rfl, Nat.le_refl _, fun _ _ => rfl⟩
theorem posL_at {olds : List Old} {last num : Int} {j : Nat} (hnum : ∀ k (h : k < olds.length), (olds[k]).num = last - (olds.length - 1 - k : Int)) (hj : j < olds.length) (he : (olds[j]).num = num) : posL (olds.map Old.log).length last num = (j : Int) := by
  have := hnum j hj
  unfold posL
  rw [List.length_map]
  omega
theorem posL_none {olds : List Old} {last num : Int} (hnum : ∀ k (h : k < olds.length), (olds[k]).num = last - (olds.length - 1 - k : Int)) (hle : num ≤ last) (hno : ∀ k (h : k < olds.length), (olds[k]).num ≠ num) : posL (olds.map Old.log).length last num < 0 := by
  unfold posL
  rw [List.length_map]
  rcases Int.lt_or_le ((olds.length : Int) - 1 - (last - num)) 0 with h | h
  · exact h
  · exfalso
    obtain ⟨k, hk⟩ : ∃ k : Nat, (olds.length : Int) - 1 - (last - num) = (k : Int) := ⟨((olds.length : Int) - 1 - (last - num)).toNat, by omega⟩
    exact hno k (by omega) (by rw [hnum k (by omega)]; omega)
end Go.Proofs.Ytompkpleiichaaa
