/- ClientOnce: loop 6: what a caller has open is handed in. -/
import Derived.Test.YtompkpleiichaaaHCliOnce4
import Derived.Test.YtompkpleiichaaaHG38
import Derived.Deep.DeepCutAuto
import Derived.Deep.QuietTactic
import Derived.BigQuiet

namespace Go.Proofs.Ytompkpleiichaaa
open Go.ChangeShapes Go.WideShapes Go.ChangeAt Go.RowKit Go.ChangeMaps

set_option maxRecDepth 1000000 in
set_option maxHeartbeats 100000000 in
theorem once_loop6 {W : World} {gs mb gp capp gd n i len cap : Nat} {A : Option Addr} {L : List Rq} {ms : List Nat}
    {c0 c1 c2 c3 c7 c8 c11 c12 c13 c14 c15 c16 c17 c18 c19 c20 c21 c22 c29 c30 c31 c32 c33 c34 c35 c36 c37 c38 c39 c40 c41 c42 c43 c44 c45 c46 c47 c48 c49 c50 c51 c52 c53 c54 c55 c56 c57 c58 c59 c60 c61 c62 c63 c64 c65 c66 c67 c68 c69 c70 c71 c72 c73 c74 c75 c76 c77 c78 c79 c80 c81 c82 c83 c84 c85 c86 c87 c88 c89 c90 c91 c92 c93 c94 c95 c96 c97 c98 c99 c100 c101 c102 c103 c104 c105 c106 c107 c108 c109 c110 c111 c112 c113 c114 c115 c116 c117 c118 c119 c120 c121 c122 c123 c124 c125 c126 c127 c128 c129 c130 c131 c132 c133 c134 c135 c136 c137 c138 c139 c140 c141 c142 c143 c144 c145 c146 c147 c148 c149 c150 c151 c152 c153 c154 c155 c156 c157 c158 c159 c160 c161 c162 c163 c164 c165 c166 c167 c168 c169 c170 c171 c172 c173 c174 c175 c176 c177 c178 c179 c180 c181 c182 c183 c184 c185 c186 c187 c188 c189 c190 c191 c192 c193 c194 c195 c196 c197 c198 c199 c200 c201 c202 c203 c204 c205 c206 c207 c208 c209 c210 c211 c212 c213 c214 c215 c216 c217 c218 c219 c220 c221 c222 c223 c224 c225 c226 c227 c228 c229 c230 c231 c232 c233 c234 c235 c236 c237 c238 c239 c240 c241 c242 c243 c244 c245 c246 c247 c248 c249 c250 c251 c252 c253 c254 c255 c256 c257 c258 c259 c260 c261 c262 c263 c264 c265 c266 c267 c268 c269 c270 c271 c272 c273 c274 c275 c276 c277 c278 c279 c280 c281 c282 c341 c342 c343 c344 c345 c346 c347 c348 c349 c350 c351 c352 c353 c354 c355 c356 c357 c358 c359 c360 c361 c362 c363 c364 c365 c366 c367 c368 c369 u4 u25 u26 u27 u28 u283 u284 u285 u286 u287 u288 u289 u290 u291 u292 u293 u294 u295 u296 u297 u298 u299 u300 u301 u302 u303 u304 u305 u306 u307 u308 u309 u310 u311 u312 u313 u314 u315 u316 u317 u318 u319 u320 u321 u322 u323 u324 u325 u326 u327 u328 u329 u330 u331 u332 u333 u334 u335 u336 u337 u338 u339 u340 : Value} {Q : Exit → Act → World → Prop} {w : World}
    (hn10 : n ≤ 10) (hi2 : i < 2) (hlen : len ≤ 1000000) (HLE : Hid (L.length = len)) (HLG : Hid (L.map Rq.log = ms.map (rqL i))) (hrel : OR9 W gs mb gd n i len (.slice (some ⟨gp, 0, none⟩) 2 capp) (.slice A len cap) L ms u25 w)
    (hexit : ∀ (x4 x25 x26 x27 x28 x283 x284 x285 x286 x287 x288 x289 x290 x291 x292 x293 x294 x295 x296 x297 x298 x299 x300 x301 x302 x303 x304 x305 x306 x307 x308 x309 x310 x311 x312 x313 x314 x315 x316 x317 x318 x319 x320 x321 x322 x323 x324 x325 x326 x327 x328 x329 x330 x331 x332 x333 x334 x335 x336 x337 x338 x339 x340 : Value) (w' : World), OR9 W gs mb gd n i len (.slice (some ⟨gp, 0, none⟩) 2 capp) (.slice A len cap) L ms (.int .i64 (len : Int)) w' → Q (.exit 10) ⟨List.toArray (c0 :: c1 :: c2 :: c3 :: x4 :: .pointer (some ⟨gs, 0, none⟩) :: .slice (some ⟨gp, 0, none⟩) 2 capp :: c7 :: c8 :: .int .i64 (n : Int) :: .pointer (some ⟨gd, 0, none⟩) :: c11 :: c12 :: c13 :: c14 :: c15 :: c16 :: c17 :: c18 :: c19 :: c20 :: c21 :: c22 :: .int .i64 (i : Int) :: .slice A len cap :: x25 :: x26 :: x27 :: x28 :: c29 :: c30 :: c31 :: c32 :: c33 :: c34 :: c35 :: c36 :: c37 :: c38 :: c39 :: c40 :: c41 :: c42 :: c43 :: c44 :: c45 :: c46 :: c47 :: c48 :: c49 :: c50 :: c51 :: c52 :: c53 :: c54 :: c55 :: c56 :: c57 :: c58 :: c59 :: c60 :: c61 :: c62 :: c63 :: c64 :: c65 :: c66 :: c67 :: c68 :: c69 :: c70 :: c71 :: c72 :: c73 :: c74 :: c75 :: c76 :: c77 :: c78 :: c79 :: c80 :: c81 :: c82 :: c83 :: c84 :: c85 :: c86 :: c87 :: c88 :: c89 :: c90 :: c91 :: c92 :: c93 :: c94 :: c95 :: c96 :: c97 :: c98 :: c99 :: c100 :: c101 :: c102 :: c103 :: c104 :: c105 :: c106 :: c107 :: c108 :: c109 :: c110 :: c111 :: c112 :: c113 :: c114 :: c115 :: c116 :: c117 :: c118 :: c119 :: c120 :: c121 :: c122 :: c123 :: c124 :: c125 :: c126 :: c127 :: c128 :: c129 :: c130 :: c131 :: c132 :: c133 :: c134 :: c135 :: c136 :: c137 :: c138 :: c139 :: c140 :: c141 :: c142 :: c143 :: c144 :: c145 :: c146 :: c147 :: c148 :: c149 :: c150 :: c151 :: c152 :: c153 :: c154 :: c155 :: c156 :: c157 :: c158 :: c159 :: c160 :: c161 :: c162 :: c163 :: c164 :: c165 :: c166 :: c167 :: c168 :: c169 :: c170 :: c171 :: c172 :: c173 :: c174 :: c175 :: c176 :: c177 :: c178 :: c179 :: c180 :: c181 :: c182 :: c183 :: c184 :: c185 :: c186 :: c187 :: c188 :: c189 :: c190 :: c191 :: c192 :: c193 :: c194 :: c195 :: c196 :: c197 :: c198 :: c199 :: c200 :: c201 :: c202 :: c203 :: c204 :: c205 :: c206 :: c207 :: c208 :: c209 :: c210 :: c211 :: c212 :: c213 :: c214 :: c215 :: c216 :: c217 :: c218 :: c219 :: c220 :: c221 :: c222 :: c223 :: c224 :: c225 :: c226 :: c227 :: c228 :: c229 :: c230 :: c231 :: c232 :: c233 :: c234 :: c235 :: c236 :: c237 :: c238 :: c239 :: c240 :: c241 :: c242 :: c243 :: c244 :: c245 :: c246 :: c247 :: c248 :: c249 :: c250 :: c251 :: c252 :: c253 :: c254 :: c255 :: c256 :: c257 :: c258 :: c259 :: c260 :: c261 :: c262 :: c263 :: c264 :: c265 :: c266 :: c267 :: c268 :: c269 :: c270 :: c271 :: c272 :: c273 :: c274 :: c275 :: c276 :: c277 :: c278 :: c279 :: c280 :: c281 :: c282 :: x283 :: x284 :: x285 :: x286 :: x287 :: x288 :: x289 :: x290 :: x291 :: x292 :: x293 :: x294 :: x295 :: x296 :: x297 :: x298 :: x299 :: x300 :: x301 :: x302 :: x303 :: x304 :: x305 :: x306 :: x307 :: x308 :: x309 :: x310 :: x311 :: x312 :: x313 :: x314 :: x315 :: x316 :: x317 :: x318 :: x319 :: x320 :: x321 :: x322 :: x323 :: x324 :: x325 :: x326 :: x327 :: x328 :: x329 :: x330 :: x331 :: x332 :: x333 :: x334 :: x335 :: x336 :: x337 :: x338 :: x339 :: x340 :: c341 :: c342 :: c343 :: c344 :: c345 :: c346 :: c347 :: c348 :: c349 :: c350 :: c351 :: c352 :: c353 :: c354 :: c355 :: c356 :: c357 :: c358 :: c359 :: c360 :: c361 :: c362 :: c363 :: c364 :: c365 :: c366 :: c367 :: c368 :: c369 :: []), []⟩ w') :
    Code.wp Try.prog (Code.loop (nthLoop Try.f6 5)) Q ⟨List.toArray (c0 :: c1 :: c2 :: c3 :: u4 :: .pointer (some ⟨gs, 0, none⟩) :: .slice (some ⟨gp, 0, none⟩) 2 capp :: c7 :: c8 :: .int .i64 (n : Int) :: .pointer (some ⟨gd, 0, none⟩) :: c11 :: c12 :: c13 :: c14 :: c15 :: c16 :: c17 :: c18 :: c19 :: c20 :: c21 :: c22 :: .int .i64 (i : Int) :: .slice A len cap :: u25 :: u26 :: u27 :: u28 :: c29 :: c30 :: c31 :: c32 :: c33 :: c34 :: c35 :: c36 :: c37 :: c38 :: c39 :: c40 :: c41 :: c42 :: c43 :: c44 :: c45 :: c46 :: c47 :: c48 :: c49 :: c50 :: c51 :: c52 :: c53 :: c54 :: c55 :: c56 :: c57 :: c58 :: c59 :: c60 :: c61 :: c62 :: c63 :: c64 :: c65 :: c66 :: c67 :: c68 :: c69 :: c70 :: c71 :: c72 :: c73 :: c74 :: c75 :: c76 :: c77 :: c78 :: c79 :: c80 :: c81 :: c82 :: c83 :: c84 :: c85 :: c86 :: c87 :: c88 :: c89 :: c90 :: c91 :: c92 :: c93 :: c94 :: c95 :: c96 :: c97 :: c98 :: c99 :: c100 :: c101 :: c102 :: c103 :: c104 :: c105 :: c106 :: c107 :: c108 :: c109 :: c110 :: c111 :: c112 :: c113 :: c114 :: c115 :: c116 :: c117 :: c118 :: c119 :: c120 :: c121 :: c122 :: c123 :: c124 :: c125 :: c126 :: c127 :: c128 :: c129 :: c130 :: c131 :: c132 :: c133 :: c134 :: c135 :: c136 :: c137 :: c138 :: c139 :: c140 :: c141 :: c142 :: c143 :: c144 :: c145 :: c146 :: c147 :: c148 :: c149 :: c150 :: c151 :: c152 :: c153 :: c154 :: c155 :: c156 :: c157 :: c158 :: c159 :: c160 :: c161 :: c162 :: c163 :: c164 :: c165 :: c166 :: c167 :: c168 :: c169 :: c170 :: c171 :: c172 :: c173 :: c174 :: c175 :: c176 :: c177 :: c178 :: c179 :: c180 :: c181 :: c182 :: c183 :: c184 :: c185 :: c186 :: c187 :: c188 :: c189 :: c190 :: c191 :: c192 :: c193 :: c194 :: c195 :: c196 :: c197 :: c198 :: c199 :: c200 :: c201 :: c202 :: c203 :: c204 :: c205 :: c206 :: c207 :: c208 :: c209 :: c210 :: c211 :: c212 :: c213 :: c214 :: c215 :: c216 :: c217 :: c218 :: c219 :: c220 :: c221 :: c222 :: c223 :: c224 :: c225 :: c226 :: c227 :: c228 :: c229 :: c230 :: c231 :: c232 :: c233 :: c234 :: c235 :: c236 :: c237 :: c238 :: c239 :: c240 :: c241 :: c242 :: c243 :: c244 :: c245 :: c246 :: c247 :: c248 :: c249 :: c250 :: c251 :: c252 :: c253 :: c254 :: c255 :: c256 :: c257 :: c258 :: c259 :: c260 :: c261 :: c262 :: c263 :: c264 :: c265 :: c266 :: c267 :: c268 :: c269 :: c270 :: c271 :: c272 :: c273 :: c274 :: c275 :: c276 :: c277 :: c278 :: c279 :: c280 :: c281 :: c282 :: u283 :: u284 :: u285 :: u286 :: u287 :: u288 :: u289 :: u290 :: u291 :: u292 :: u293 :: u294 :: u295 :: u296 :: u297 :: u298 :: u299 :: u300 :: u301 :: u302 :: u303 :: u304 :: u305 :: u306 :: u307 :: u308 :: u309 :: u310 :: u311 :: u312 :: u313 :: u314 :: u315 :: u316 :: u317 :: u318 :: u319 :: u320 :: u321 :: u322 :: u323 :: u324 :: u325 :: u326 :: u327 :: u328 :: u329 :: u330 :: u331 :: u332 :: u333 :: u334 :: u335 :: u336 :: u337 :: u338 :: u339 :: u340 :: c341 :: c342 :: c343 :: c344 :: c345 :: c346 :: c347 :: c348 :: c349 :: c350 :: c351 :: c352 :: c353 :: c354 :: c355 :: c356 :: c357 :: c358 :: c359 :: c360 :: c361 :: c362 :: c363 :: c364 :: c365 :: c366 :: c367 :: c368 :: c369 :: []), []⟩ w := by
  conv => arg 2; arg 1; whnf
  go_loopw [25] (fun kv ws => OR9 W gs mb gd n i len (.slice (some ⟨gp, 0, none⟩) 2 capp) (.slice A len cap) L ms kv ws) (fun kv _ => len - (intOf kv).toNat)
  case atStart => exact hrel
  case round =>
    unfold OR9 at hrel
    obtain ⟨k, cl, C, D, nums, hk, rfl, HO, HI, HNU, HL, HPR⟩ := hrel
    by_cases hlt : k < len
    · have hkI : (k : Int) < (len : Int) := by omega
      have hk0 : (0 : Int) ≤ (k : Int) := by omega
      have hnet := HO.out.net
      rw [HLE.out] at hnet
      obtain ⟨g1, hA1, hg1, q0, q1, q2, q3⟩ := rows_cells hnet HLE.out (k := k) (by rw [HLE.out]; exact hlt)
      subst hA1
      have hok := HO.out.ok _ (List.getElem_mem (by rw [HLE.out]; exact hlt : k < L.length))
      obtain ⟨m, hd1, hlog⟩ := log_at HLG.out (k := k) (by rw [HLE.out]; exact hlt)
      have hnu := HNU.out.trans hd1
      have hgood := HI.out.good i hi2
      rw [hnu, HL.out i hi2] at hgood
      obtain ⟨hm1, hml, hmd⟩ := hgood.head
      have HOP := Lib.hid (show (C i).op.length ≤ 1000000 by have := hgood.len; omega)
      have HNM := Lib.hid hnu
      generalize L[k]'(by rw [HLE.out]; exact hlt) = r at *
      obtain ⟨rcl, rnum, rA, rn, rc, rbs, rtag⟩ := r
      obtain ⟨r1, r2, r3, r4⟩ := Rq.log_eq hlog
      dsimp only at r1 r2 r3 q0 q1 q2 q3
      have hrn : rn = 2 := by have := hok.1.1; dsimp only at this; rw [r3, rq_bsLen] at this; omega
      subst r1 r2 r3 hrn
      have HLOG := Lib.hid hlog
      have HSES := Lib.hid (HI.out.ses i hi2)
      have hdn := hgood.dle
      have HLT := Lib.hid (show ∀ s, sigP cl ((i : Int) + 1) = some s → s.2.1 < 4611686018427387904 from fun s hs => by
        obtain ⟨acc, h1, -⟩ := HSES.out
        rw [h1] at hs
        injection hs with hs
        subst hs
        show (D i : Int) < _
        omega)
      have HR := Lib.hid hok
      have hi0 : (0 : Int) ≤ (i : Int) := by omega
      have hi2I : (i : Int) < 2 := by omega
      have ixw : IntKind.i64.wrap (i : Int) = (i : Int) := IntWalk.i64_in _ (by omega)
      clear hnet hd1 hlog hnu hgood hok r4 HNU
      go_wp2_with fail
      refine (acceptP_any gs mb cl ⟨(i : Int) + 1, (m : Int), rA, 2, rc, bsL i m, rtag⟩ _ (Lib.hid HO.out.sys.ses) HR (by show (m : Int) ≤ _; omega) HLT).mono ?_
      rintro e w5 ⟨A5, n5, c5, rfl, hB5, hN5⟩
      obtain ⟨cl5, hs5, hO5, m5⟩ := HO.out.toSes hN5
      have HQK := Lib.hid ((modCell (o := k * 4 + 1) m5 hg1 (fun hf => HO.out.sys.ses.notF (Ty.of_own HO.out.net rfl) (by decide) (by decide) (by decide) hf)).trans q1)
      have HG1 := Lib.hid (show g1 < w5.heap.size by have := m5.size; omega)
      have HO5 := Lib.hid hO5
      have HS5 := Lib.hid hs5
      clear hB5 hN5 hs5 hO5 m5 q0 q1 q2 q3 HR HLT HO hg1
      rcases Nat.lt_or_ge m (D i + 1) with hlo | hhi
      · --@old
        obtain ⟨ho1, ho2⟩ := HSES.out.oldE HLOG.out hi2 rfl hm1 (Nat.lt_succ_iff.1 hlo)
        rw [ho1, ho2]
        have hcl : sigP cl5 = sigP cl := HS5.out.trans (acSt_no ho1)
        have HI5 := Lib.hid (show OnceI (sigP cl5) C [] D nums false by rw [hcl]; exact HI.out)
        have HM := Lib.hid (show m ≤ D i by omega)
        clear hcl ho1 ho2
        have k0 := HO5.out.rowAt hi2
        have k1 := HQK.out
        have HOZ := Lib.hid (HO5.out.all ((Below.refl w5.heap.size w5).drew))
        have HKZ := Lib.hid (show w5.drew.cell? ⟨g1, k * 4 + 1, none⟩ = some (.int .i64 (m : Int)) by simpa using HQK.out)
        have HGZ := Lib.hid (show g1 < w5.drew.heap.size by simpa using HG1.out)
        have HNZ := Lib.hid (HOZ.out.nap i hi2 g1 rfl)
        go_upto_region 65 with fail
        go_region_held3 (fun x => x.cell? ⟨gp, i, none⟩ = some (.pointer (some ⟨(C i).g, 0, none⟩)) ∧ x.cell? ⟨g1, k * 4 + 1, none⟩ = some (.int .i64 (m : Int)))
          (first | exact ⟨k0, k1⟩ | exact ⟨hrow8, hq8⟩)
          (first | (go_at_call 34; (refine (gotP_any (C i).g ((i : Int) + 1) ((i : Int) + 5) ((C i).last : Int) (C i).rv (C i).op (m : Int) _ 0 _ _ (Lib.hid (HOZ.out.sys.call i hi2)) HOP.out (by decide)).mono ?_); rintro e w8 hp; have hq8 := (gotCell HGZ.out HNZ.out hp).trans HKZ.out; obtain ⟨he8, C8, hO8, hI8, hl8, hg8⟩ := HOZ.out.pop HI5.out hi2 HNM.out HM.out (by decide) hp; subst he8; have hrow8 := hO8.rowAt hi2; rw [hg8] at hrow8; have HO8 := Lib.hid hO8; have HI8 := Lib.hid hI8; have HL8 := Lib.hid (show ∀ j, j < 2 → (C8 j).last = n from fun j hj => (hl8 j).trans (HL.out j hj)); clear hO8 hI8 hl8 hg8 hp))
        go_wp2
        exact ⟨OR9.mk (k := k + 1) (by omega) (by go_num) HO8 HI8 (Lib.hid (by unfold updN; rw [if_pos rfl])) HL8 (Lib.hid (fun j hj => by unfold updN; rw [if_neg (by omega)]; exact HPR.out j hj)), by simp [intOf]; omega⟩
      · --@new
        obtain ⟨d, hd⟩ : ∃ d, D i = d := ⟨_, rfl⟩
        have hmn : d + 1 = m := by omega
        obtain ⟨hRv, -, he3, hnx, hoth⟩ := HSES.out.new (by rw [hd, hmn]; exact HLOG.out) hi2 rfl (by omega)
        rw [hRv]
        have hmi : (d : Int) + 1 = (m : Int) := by omega
        rw [hd, hmi] at he3 hnx hoth
        rw [hmn] at hnx
        have hd10 : d ≤ 10 := by omega
        have HMN := Lib.hid hmn
        have HDE := Lib.hid hd
        have HE3 := Lib.hid he3
        have HNX := Lib.hid hnx
        have HOT := Lib.hid hoth
        have hdn0 := HO5.out.doneAt hi2
        rw [hd] at hdn0
        obtain ⟨hdn0, hdn1, -⟩ := hdn0
        have iyw : IntKind.i64.wrap (m : Int) = (m : Int) := IntWalk.i64_in _ (by omega)
        have ixv : IntKind.i64.wrap ((i : Int) + 1) = (i : Int) + 1 := IntWalk.i64_in _ (by omega)
        dsimp only
        clear hmn hd he3 hnx hoth hRv hhi hmd hdn
        go_upto_region 63 with fail
        have hO6 := HO5.out.toDone hi2 m
        have m6 : Mod (fun b => b = gd) w5 (w5.setCell ⟨gd, i, none⟩ (.int .i64 (m : Int))) := (Mod.refl (fun b => b = gd) w5).set (p := ⟨gd, i, none⟩) (.inl rfl) _
        obtain ⟨w6, hw6⟩ : ∃ w6, w6 = w5.setCell ⟨gd, i, none⟩ (.int .i64 (m : Int)) := ⟨_, rfl⟩
        rw [← hw6] at hO6 m6 ⊢
        have hk6 := (modCell (o := k * 4 + 1) m6 HG1.out (fun e => absurd (Ty.unique (Ty.of_own HO5.out.net rfl) (e ▸ HO5.out.done.ty)) (by decide))).trans HQK.out
        have hG6 : g1 < w6.heap.size := by have := m6.size; have := HG1.out; omega
        have hd6 := (hO6.doneAt hi2).1
        unfold updN at hd6
        rw [if_pos rfl] at hd6
        have HO6 := Lib.hid (hO6.all ((Below.refl w6.heap.size w6).drew))
        have HK6 := Lib.hid (show w6.drew.cell? ⟨g1, k * 4 + 1, none⟩ = some (.int .i64 (m : Int)) by simpa using hk6)
        have HG6 := Lib.hid (show g1 < w6.drew.heap.size by simpa using hG6)
        clear hO6 m6 hw6 HO5 HQK HG1 hdn0 hdn1 hG6
        go_region_held3 (fun x => x.cell? ⟨gd, i, none⟩ = some (.int .i64 (m : Int)) ∧ x.cell? ⟨g1, k * 4 + 1, none⟩ = some (.int .i64 (m : Int)))
          (first | exact ⟨hd6, hk6⟩ | exact ⟨hd9, HQK.out⟩)
          (first | (go_at_call 26; (refine (answerP_any gs mb cl5 ((i : Int) + 1) (m : Int) none 0 0 [] _ (Lib.hid HO6.out.sys.ses) (Lib.hid (Bts.nil _)) (by decide)).mono ?_); rintro e w9 ⟨rfl, hN9⟩; rw [show anErr (sigP cl5) ((i : Int) + 1) (m : Int) 0 = 0 by rw [HS5.out]; exact HE3.out]; obtain ⟨cl9, hs9, hO9, m9⟩ := HO6.out.toSes hN9; have HQK := Lib.hid ((modCell (o := k * 4 + 1) m9 HG6.out (fun hf => HO6.out.sys.ses.notF (Ty.of_own HO6.out.net rfl) (by decide) (by decide) (by decide) hf)).trans HK6.out); have HG1 := Lib.hid (show g1 < w9.heap.size by have := m9.size; have := HG6.out; omega); have hd9 := (hO9.doneAt hi2).1; unfold updN at hd9; rw [if_pos rfl] at hd9; have HO9 := Lib.hid hO9; have HS9 := Lib.hid hs9; clear hN9 hs9 hO9 m9))
        have HI5 := Lib.hid (show OnceI (sigP cl9) C [] (updN D i m) nums false by
          have h1 : SesG (sigP cl9) i (D i + 1) false := by
            rw [HS9.out, HS5.out, HDE.out, HMN.out]
            exact HNX.out _ _ HE3.out (fun e => by cases e)
          have h2 := HI.out.perf (σ' := sigP cl9) hi2 (by rw [HDE.out, HMN.out, HL.out i hi2]; exact hml) h1 (fun j hj => by rw [HS9.out, HS5.out]; exact HOT.out _ _ j hj)
          rw [HDE.out, HMN.out] at h2
          exact h2)
        have HM := Lib.hid (show m ≤ updN D i m i by unfold updN; rw [if_pos rfl]; exact Nat.le_refl _)
        clear HNX HOT HE3 HS5 HS9 HO6 HK6 HG6 HI hd6 hk6 hd9 hmi iyw ixv
        have k0 := HO9.out.rowAt hi2
        have k1 := HQK.out
        have HOZ := Lib.hid (HO9.out.all ((Below.refl w9.heap.size w9).drew))
        have HKZ := Lib.hid (show w9.drew.cell? ⟨g1, k * 4 + 1, none⟩ = some (.int .i64 (m : Int)) by simpa using HQK.out)
        have HGZ := Lib.hid (show g1 < w9.drew.heap.size by simpa using HG1.out)
        have HNZ := Lib.hid (HOZ.out.nap i hi2 g1 rfl)
        go_upto_region 65 with fail
        go_region_held3 (fun x => x.cell? ⟨gp, i, none⟩ = some (.pointer (some ⟨(C i).g, 0, none⟩)) ∧ x.cell? ⟨g1, k * 4 + 1, none⟩ = some (.int .i64 (m : Int)))
          (first | exact ⟨k0, k1⟩ | exact ⟨hrow8, hq8⟩)
          (first | (go_at_call 34; (refine (gotP_any (C i).g ((i : Int) + 1) ((i : Int) + 5) ((C i).last : Int) (C i).rv (C i).op (m : Int) _ 0 _ _ (Lib.hid (HOZ.out.sys.call i hi2)) HOP.out (by decide)).mono ?_); rintro e w8 hp; have hq8 := (gotCell HGZ.out HNZ.out hp).trans HKZ.out; obtain ⟨he8, C8, hO8, hI8, hl8, hg8⟩ := HOZ.out.pop HI5.out hi2 HNM.out HM.out (by decide) hp; subst he8; have hrow8 := hO8.rowAt hi2; rw [hg8] at hrow8; have HO8 := Lib.hid hO8; have HI8 := Lib.hid hI8; have HL8 := Lib.hid (show ∀ j, j < 2 → (C8 j).last = n from fun j hj => (hl8 j).trans (HL.out j hj)); clear hO8 hI8 hl8 hg8 hp))
        go_wp2
        exact ⟨OR9.mk (k := k + 1) (by omega) (by go_num) HO8 HI8 (Lib.hid (by unfold updN; rw [if_pos rfl])) HL8 (Lib.hid (fun j hj => by unfold updN; rw [if_neg (by omega)]; exact HPR.out j hj)), by simp [intOf]; omega⟩
    · obtain rfl : k = len := by omega
      go_wp2_with fail
      exact OR9.mk (k := k) (by omega) rfl HO HI HNU HL HPR
end Go.Proofs.Ytompkpleiichaaa
