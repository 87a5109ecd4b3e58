/- BookSettles: the step is posted, the four numbers are stored. -/
import Derived.Test.YtlcalajehnaenaaGreatDoorHBsS2
namespace Go.Proofs.YtlcalajehnaenaaGreatDoor
open Go.ChangeShapes Go.WideShapes Go.ChangeAt Go.RowKit Go.ChangeMaps
set_option maxRecDepth 1000000 in
set_option maxHeartbeats 100000000 in
theorem bs_stores {W w : World} {gb gA gg gi gx gy gz gs qt ot tk c5 k a1 a2 : Nat} {i p : Int} {Ao Am : Option Addr} {l : List OpP} {us : List Trd} {t : Trd} {x : OpP} {y z : Ord} {b' : BkS} {g r0 : Int → Int} {S3 : LSt}
 (hpm : IntKind.i64.wrap (t.n * t.price) = p) (s0 : w.cell? ⟨gs, 0, none⟩ = some (.int .i64 0)) (s1 : w.cell? ⟨gs, 1, none⟩ = some (.int .i64 2)) (s2 : w.cell? ⟨gs, 2, none⟩ = some (.int .i64 (a1 : Int))) (s3 : w.cell? ⟨gs, 3, none⟩ = some (.int .i64 i)) (s4 : w.cell? ⟨gs, 4, none⟩ = some (.int .i64 (-1))) (s5 : w.cell? ⟨gs, 5, none⟩ = some (.int .i64 0)) (s6 : w.cell? ⟨gs, 6, none⟩ = some (.slice Am 2 2))
 (hPost : Hid (Calls Tryz.prog 7 #[.pointer (some ⟨gA, 0, none⟩), .agg #[.int .i64 0, .int .i64 2, .int .i64 (a1 : Int), .int .i64 i, .int .i64 (-1), .int .i64 0, .slice Am 2 2]] w fun e w' => ∃ k : Int, e = .returned (.tuple #[.int .i64 k, .int .i64 0]) ∧ BsM True W gb gA gg gi (mxOf itemsI) Ao l (some ⟨qt, ot, none⟩) us [(gz, 55, #[.int .i64 z.id, .int .i64 (a2 : Int), .bool z.buy, .int .i64 z.price, .int .i64 z.n, .int .i64 z.left]), (gy, 55, #[.int .i64 y.id, .int .i64 (a1 : Int), .bool y.buy, .int .i64 y.price, .int .i64 y.n, .int .i64 y.left]), (gx, 50, #[.int .i64 x.kind, .int .i64 x.acc, .bool x.buy, .int .i64 x.price, .int .i64 x.n, .int .i64 x.id])] b' g r0 S3 w'))
 (hku : k < us.length) (hkI : (k : Int) < (tk : Int)) (hk0 : (0 : Int) ≤ (k : Int)) (HT : Hid (us[k] = t)) (k2 : 1 ≤ (a1 : Int) ∧ (a1 : Int) ≤ 4) (k3 : 1 ≤ (a2 : Int) ∧ (a2 : Int) ≤ 4) (k6 : 1 ≤ p) (hpw : p ≤ 960000) (k4 : 1 ≤ t.n ∧ t.n ≤ 4800)
 (HB1 : Hid ((-960000 ≤ g (a1 : Int) ∧ g (a1 : Int) ≤ 960000) ∧ -4800 ≤ r0 (a1 : Int) ∧ r0 (a1 : Int) ≤ 4800)) (HB2 : Hid ((-960000 ≤ g (a2 : Int) ∧ g (a2 : Int) ≤ 960000) ∧ -4800 ≤ r0 (a2 : Int) ∧ r0 (a2 : Int) ≤ 4800)) (HNE : Hid ((a1 : Int) ≠ (a2 : Int)))
 {c0 c1 c2 c3 c4 c6 c7 c8 c9 c10 c11 c14 c15 c16 c17 c19 c22 c24 c26 c27 c28 c29 c30 c31 c32 c33 c34 c35 c36 c37 c38 c39 c40 c41 c42 c43 c44 c45 c46 c47 c48 c49 c50 c51 c52 c53 c54 c55 c56 c57 c58 c59 c60 c61 c62 c63 c64 c65 c66 c67 c68 c69 c70 c71 c72 c73 c74 c75 c76 c77 c78 c79 c80 c81 c82 c83 c84 c85 c86 c87 c88 c89 c90 c91 c92 c93 c94 c95 c96 c97 c98 c99 c100 c101 c102 c103 c104 c105 c106 c107 c108 c109 c110 c111 c112 c113 c114 c115 c116 c117 c118 c119 c120 c121 c122 c123 c124 c125 c126 c127 c128 c129 c130 c131 c132 c133 c134 c135 c136 c137 c138 c139 c140 c141 c142 c143 c144 c145 c146 c147 c148 c149 c150 c151 c152 c153 c154 c155 c156 c157 c158 c159 c160 c161 c162 c163 c164 c165 c166 c167 c168 c169 c170 c171 c172 c173 c174 c175 c176 c177 c178 c179 c180 c181 c182 c183 c184 c185 c186 c187 c188 c189 c190 c191 c192 c193 c194 c195 c196 c197 c198 c199 c200 c201 c202 c203 c204 c205 c206 c207 c208 c209 c210 c211 c212 c213 c214 c215 c216 c217 c218 c219 c220 c221 c222 c223 c224 c225 c226 c227 c228 c229 c230 c231 c232 c233 c234 c235 c236 c237 c238 c239 c240 c241 c242 c243 c244 c245 c246 c247 c248 c249 c250 c251 c252 c253 c254 c255 c256 c257 c258 c259 c260 c261 c262 c263 c264 c265 c266 c267 c268 c269 c270 c271 c272 c273 c274 c275 c276 c277 c278 c279 c280 c281 c282 c283 c284 c285 c286 c287 c288 c289 c290 c291 c292 c293 c294 c295 c296 c297 c298 c299 c300 c301 c302 c303 c304 c305 c306 c307 c308 c309 c310 c311 c312 c313 c314 c315 c316 c317 c318 c319 c320 c321 c322 c323 c324 c325 c326 c327 c328 c329 c330 c331 c332 c333 c334 c335 c336 c337 c338 c339 c340 c341 c342 c343 c344 c345 c346 c347 c348 c349 c350 c351 c352 c353 c354 c355 c356 c357 : Value} {Q : Exit → Act → World → Prop}
 (hend : ∀ (x26 x27 x197 x198 x199 x200 x201 x202 x203 x204 x205 x206 x207 x208 x209 x210 x211 x212 x213 x214 x215 x216 x217 x218 x219 x220 x221 x222 x223 x224 x225 x226 x227 x228 x229 x230 x231 x232 x233 x234 x235 x236 x237 x238 x239 x240 x241 x242 x243 x244 x245 x246 x247 x248 x249 x250 x251 x252 x253 x254 x255 x256 x257 x258 x259 x260 x261 x262 x263 x264 x265 x266 x267 x268 : Value) (w' : World), Hid (BsM True W gb gA gg gi (mxOf itemsI) Ao l (some ⟨qt, ot, none⟩) us [(gx, 50, #[.int .i64 x.kind, .int .i64 x.acc, .bool x.buy, .int .i64 x.price, .int .i64 x.n, .int .i64 x.id])] b' (addAt (subAt g (a1 : Int) p) (a2 : Int) p) (subAt (addAt r0 (a1 : Int) t.n) (a2 : Int) t.n) S3 w') → Q .normal ⟨List.toArray (c0 :: c1 :: c2 :: c3 :: c4 :: .pointer (some ⟨gA, 0, none⟩) :: c6 :: c7 :: c8 :: c9 :: c10 :: c11 :: .pointer (some ⟨gg, 0, none⟩) :: .pointer (some ⟨gi, 0, none⟩) :: c14 :: c15 :: c16 :: c17 :: .slice (some ⟨qt, ot, none⟩) tk c5 :: c19 :: .int .i64 (k : Int) :: .pointer (some ⟨gy, 0, none⟩) :: c22 :: .pointer (some ⟨gz, 0, none⟩) :: c24 :: .pointer (some ⟨gs, 0, none⟩) :: x26 :: x27 :: c28 :: c29 :: c30 :: c31 :: c32 :: c33 :: c34 :: c35 :: c36 :: c37 :: c38 :: c39 :: c40 :: c41 :: c42 :: c43 :: c44 :: c45 :: c46 :: c47 :: c48 :: c49 :: c50 :: c51 :: c52 :: c53 :: c54 :: c55 :: c56 :: c57 :: c58 :: c59 :: c60 :: c61 :: c62 :: c63 :: c64 :: c65 :: c66 :: c67 :: c68 :: c69 :: c70 :: c71 :: c72 :: c73 :: c74 :: c75 :: c76 :: c77 :: c78 :: c79 :: c80 :: c81 :: c82 :: c83 :: c84 :: c85 :: c86 :: c87 :: c88 :: c89 :: c90 :: c91 :: c92 :: c93 :: c94 :: c95 :: c96 :: c97 :: c98 :: c99 :: c100 :: c101 :: c102 :: c103 :: c104 :: c105 :: c106 :: c107 :: c108 :: c109 :: c110 :: c111 :: c112 :: c113 :: c114 :: c115 :: c116 :: c117 :: c118 :: c119 :: c120 :: c121 :: c122 :: c123 :: c124 :: c125 :: c126 :: c127 :: c128 :: c129 :: c130 :: c131 :: c132 :: c133 :: c134 :: c135 :: c136 :: c137 :: c138 :: c139 :: c140 :: c141 :: c142 :: c143 :: c144 :: c145 :: c146 :: c147 :: c148 :: c149 :: c150 :: c151 :: c152 :: c153 :: c154 :: c155 :: c156 :: c157 :: c158 :: c159 :: c160 :: c161 :: c162 :: c163 :: c164 :: c165 :: c166 :: c167 :: c168 :: c169 :: c170 :: c171 :: c172 :: c173 :: c174 :: c175 :: c176 :: c177 :: c178 :: c179 :: c180 :: c181 :: c182 :: c183 :: c184 :: c185 :: c186 :: c187 :: c188 :: c189 :: c190 :: c191 :: c192 :: c193 :: c194 :: c195 :: c196 :: x197 :: x198 :: x199 :: x200 :: x201 :: x202 :: x203 :: x204 :: x205 :: x206 :: x207 :: x208 :: x209 :: x210 :: x211 :: x212 :: x213 :: x214 :: x215 :: x216 :: x217 :: x218 :: x219 :: x220 :: x221 :: x222 :: x223 :: x224 :: x225 :: x226 :: x227 :: x228 :: x229 :: x230 :: x231 :: x232 :: x233 :: x234 :: x235 :: x236 :: x237 :: x238 :: x239 :: x240 :: x241 :: x242 :: x243 :: x244 :: x245 :: x246 :: x247 :: x248 :: x249 :: x250 :: x251 :: x252 :: x253 :: x254 :: x255 :: x256 :: x257 :: x258 :: x259 :: x260 :: x261 :: x262 :: x263 :: x264 :: x265 :: x266 :: x267 :: x268 :: c269 :: c270 :: c271 :: c272 :: c273 :: c274 :: c275 :: c276 :: c277 :: c278 :: c279 :: c280 :: c281 :: c282 :: c283 :: c284 :: c285 :: c286 :: c287 :: c288 :: c289 :: c290 :: c291 :: c292 :: c293 :: c294 :: c295 :: c296 :: c297 :: c298 :: c299 :: c300 :: c301 :: c302 :: c303 :: c304 :: c305 :: c306 :: c307 :: c308 :: c309 :: c310 :: c311 :: c312 :: c313 :: c314 :: c315 :: c316 :: c317 :: c318 :: c319 :: c320 :: c321 :: c322 :: c323 :: c324 :: c325 :: c326 :: c327 :: c328 :: c329 :: c330 :: c331 :: c332 :: c333 :: c334 :: c335 :: c336 :: c337 :: c338 :: c339 :: c340 :: c341 :: c342 :: c343 :: c344 :: c345 :: c346 :: c347 :: c348 :: c349 :: c350 :: c351 :: c352 :: c353 :: c354 :: c355 :: c356 :: c357 :: []), []⟩ w') :
 Code.wp Tryz.prog bsPost Q ⟨List.toArray (c0 :: c1 :: c2 :: c3 :: c4 :: .pointer (some ⟨gA, 0, none⟩) :: c6 :: c7 :: c8 :: c9 :: c10 :: c11 :: .pointer (some ⟨gg, 0, none⟩) :: .pointer (some ⟨gi, 0, none⟩) :: c14 :: c15 :: c16 :: c17 :: .slice (some ⟨qt, ot, none⟩) tk c5 :: c19 :: .int .i64 (k : Int) :: .pointer (some ⟨gy, 0, none⟩) :: c22 :: .pointer (some ⟨gz, 0, none⟩) :: c24 :: .pointer (some ⟨gs, 0, none⟩) :: c26 :: c27 :: c28 :: c29 :: c30 :: c31 :: c32 :: c33 :: c34 :: c35 :: c36 :: c37 :: c38 :: c39 :: c40 :: c41 :: c42 :: c43 :: c44 :: c45 :: c46 :: c47 :: c48 :: c49 :: c50 :: c51 :: c52 :: c53 :: c54 :: c55 :: c56 :: c57 :: c58 :: c59 :: c60 :: c61 :: c62 :: c63 :: c64 :: c65 :: c66 :: c67 :: c68 :: c69 :: c70 :: c71 :: c72 :: c73 :: c74 :: c75 :: c76 :: c77 :: c78 :: c79 :: c80 :: c81 :: c82 :: c83 :: c84 :: c85 :: c86 :: c87 :: c88 :: c89 :: c90 :: c91 :: c92 :: c93 :: c94 :: c95 :: c96 :: c97 :: c98 :: c99 :: c100 :: c101 :: c102 :: c103 :: c104 :: c105 :: c106 :: c107 :: c108 :: c109 :: c110 :: c111 :: c112 :: c113 :: c114 :: c115 :: c116 :: c117 :: c118 :: c119 :: c120 :: c121 :: c122 :: c123 :: c124 :: c125 :: c126 :: c127 :: c128 :: c129 :: c130 :: c131 :: c132 :: c133 :: c134 :: c135 :: c136 :: c137 :: c138 :: c139 :: c140 :: c141 :: c142 :: c143 :: c144 :: c145 :: c146 :: c147 :: c148 :: c149 :: c150 :: c151 :: c152 :: c153 :: c154 :: c155 :: c156 :: c157 :: c158 :: c159 :: c160 :: c161 :: c162 :: c163 :: c164 :: c165 :: c166 :: c167 :: c168 :: c169 :: c170 :: c171 :: c172 :: c173 :: c174 :: c175 :: c176 :: c177 :: c178 :: c179 :: c180 :: c181 :: c182 :: c183 :: c184 :: c185 :: c186 :: c187 :: c188 :: c189 :: c190 :: c191 :: c192 :: c193 :: c194 :: c195 :: c196 :: c197 :: c198 :: c199 :: c200 :: c201 :: c202 :: c203 :: c204 :: c205 :: c206 :: c207 :: c208 :: c209 :: c210 :: c211 :: c212 :: c213 :: c214 :: c215 :: c216 :: c217 :: c218 :: c219 :: c220 :: c221 :: c222 :: c223 :: c224 :: c225 :: c226 :: c227 :: c228 :: c229 :: c230 :: c231 :: c232 :: c233 :: c234 :: c235 :: c236 :: c237 :: c238 :: c239 :: c240 :: c241 :: c242 :: c243 :: c244 :: c245 :: c246 :: c247 :: c248 :: c249 :: c250 :: c251 :: c252 :: c253 :: c254 :: c255 :: c256 :: c257 :: c258 :: c259 :: c260 :: c261 :: c262 :: c263 :: c264 :: c265 :: c266 :: c267 :: c268 :: c269 :: c270 :: c271 :: c272 :: c273 :: c274 :: c275 :: c276 :: c277 :: c278 :: c279 :: c280 :: c281 :: c282 :: c283 :: c284 :: c285 :: c286 :: c287 :: c288 :: c289 :: c290 :: c291 :: c292 :: c293 :: c294 :: c295 :: c296 :: c297 :: c298 :: c299 :: c300 :: c301 :: c302 :: c303 :: c304 :: c305 :: c306 :: c307 :: c308 :: c309 :: c310 :: c311 :: c312 :: c313 :: c314 :: c315 :: c316 :: c317 :: c318 :: c319 :: c320 :: c321 :: c322 :: c323 :: c324 :: c325 :: c326 :: c327 :: c328 :: c329 :: c330 :: c331 :: c332 :: c333 :: c334 :: c335 :: c336 :: c337 :: c338 :: c339 :: c340 :: c341 :: c342 :: c343 :: c344 :: c345 :: c346 :: c347 :: c348 :: c349 :: c350 :: c351 :: c352 :: c353 :: c354 :: c355 :: c356 :: c357 :: []), []⟩ w := by
 refine wp_noPan ?_
 conv => arg 2; whnf
 go_wp2_with fail
 clear s0 s1 s2 s3 s4 s5 s6
 refine hPost.out.mono ?_
 rintro e w12 ⟨k12, rfl, hJ12⟩
 have HJ12 := Lib.hid hJ12
 have y1 : w12.cell? ⟨gy, 1, none⟩ = some (.int .i64 (a1 : Int)) := (hJ12.ex (gy, _, _) (.tail _ (.head _))).cell 1
 obtain ⟨-, -, t2, t3⟩ := hJ12.tr4' hku
 rw [HT.out] at t2 t3
 have q1 : w12.cell? ⟨gg, a1, none⟩ = some (.int .i64 (g (a1 : Int))) := hJ12.atG trivial k2
 have q2 : w12.frozen? ⟨gg, a1, none⟩ = false := (hJ12.gold trivial).frozen a1
 clear hPost hJ12
 have hg1 := HB1.out.1
 go_upto_region 33 with (fail)
 go_region
 clear y1 t2 t3 q1 q2 hg1
 have hJ13 := HJ12.out.subG (n := p) k2
 obtain ⟨w13, hw13⟩ : ∃ w13, (w12.setCell ⟨gg, a1, none⟩ (.int .i64 (g (a1 : Int) - p))).drew = w13 := ⟨_, rfl⟩
 rw [hw13] at hJ13 ⊢
 clear hw13 HJ12
 have z1 : w13.cell? ⟨gz, 1, none⟩ = some (.int .i64 (a2 : Int)) := (hJ13.ex (gz, _, _) (.head _)).cell 1
 obtain ⟨-, -, t2, t3⟩ := hJ13.tr4' hku
 rw [HT.out] at t2 t3
 have q1 : w13.cell? ⟨gg, a2, none⟩ = some (.int .i64 (subAt g (a1 : Int) p (a2 : Int))) := hJ13.atG trivial k3
 have q2 : w13.frozen? ⟨gg, a2, none⟩ = false := (hJ13.gold trivial).frozen a2
 have HJ13 := Lib.hid hJ13
 have hb2 := HB2.out.1
 rw [← subAt_ne g p HNE.out] at hb2
 obtain ⟨g1, hg1⟩ : ∃ g1, subAt g (a1 : Int) p = g1 := ⟨_, rfl⟩
 rw [hg1] at q1 HJ13 hb2
 have HG1 := Lib.hid hg1
 clear hJ13 hg1
 go_upto_region 34 with (fail)
 go_region
 clear z1 t2 t3 q1 q2 hpm hb2
 have hJ14 := HJ13.out.addG (n := p) k3
 obtain ⟨w14, hw14⟩ : ∃ w14, (w13.setCell ⟨gg, a2, none⟩ (.int .i64 (g1 (a2 : Int) + p))).drew = w14 := ⟨_, rfl⟩
 rw [hw14] at hJ14 ⊢
 clear hw14 HJ13
 have y1 : w14.cell? ⟨gy, 1, none⟩ = some (.int .i64 (a1 : Int)) := (hJ14.ex (gy, _, _) (.tail _ (.head _))).cell 1
 obtain ⟨-, -, -, t3⟩ := hJ14.tr4' hku
 rw [HT.out] at t3
 have q1 : w14.cell? ⟨gi, a1, none⟩ = some (.int .i64 (r0 (a1 : Int))) := hJ14.atI trivial k2
 have q2 : w14.frozen? ⟨gi, a1, none⟩ = false := (hJ14.iron trivial).frozen a1
 have HJ14 := Lib.hid hJ14
 clear hJ14
 have hr1 := HB1.out.2
 have hr2 := HB2.out.2
 have HU := Lib.hid hku
 apply_assumption
 refine bs_stores2 y1 t3 q1 q2 hku hkI hk0 HT k2 k3 k4 hr1 hr2 HNE HJ14 ?_
 clear HJ14 y1 t3 q1 q2 hr1 hr2
 intros
 rename_i hJ16
 have HJ16 := hJ16.out
 rw [← HG1.out] at HJ16
 exact hend _ _ _ _ _ _ _ _ _ _ _ _ _ _ _ _ _ _ _ _ _ _ _ _ _ _ _ _ _ _ _ _ _ _ _ _ _ _ _ _ _ _ _ _ _ _ _ _ _ _ _ _ _ _ _ _ _ _ _ _ _ _ _ _ _ _ _ _ _ _ _ _ _ _ _ (Lib.hid HJ16)
end Go.Proofs.YtlcalajehnaenaaGreatDoor
