/- ClientOnce: a request that comes next: it is performed. -/
import Derived.Test.YtompkpleiichaaaHG38
import Derived.Deep.DeepCutAuto
import Derived.Deep.QuietTactic
import Derived.BigQuiet

namespace Go.Proofs.Ytompkpleiichaaa
open Go.ChangeShapes Go.WideShapes Go.ChangeAt Go.RowKit Go.ChangeMaps

set_option maxRecDepth 1000000 in
set_option maxHeartbeats 100000000 in
theorem once_new {W : World} {A0 : Option Addr} {n0 c0 : Nat} {f0 : Nat → Int} (hR0 : Rd W W.heap.size A0 n0 (fun j => .int .i64 (f0 j))) (HW : Hid (∀ j, j < n0 → -9223372036854775808 ≤ f0 j ∧ f0 j ≤ 9223372036854775807)) {gs mb gp capp gd n round i n2 cA gr ii m rc c5 : Nat} {A2 rA A5 : Option Addr} {rtag : Int} {cl cl5 : List Cl} {C : Nat → Cll} {N2 : List Rq} {D : Nat → Nat} {nums : Nat → List Nat} {n5 : Nat} {w5 : World}
    (hn10 : n ≤ 10) (hr60 : round < 60) (hi8 : i < 8) (hii : ii < 2) (hm1 : 1 ≤ m) (hm10 : m ≤ 10) (hml : m ≤ (C ii).last) (HLS : Hid (∀ i, i < 2 → (C i).last = min (round + 1) n)) (HLOG : Hid ((⟨(ii : Int) + 1, (m : Int), rA, 2, rc, bsL ii m, rtag⟩ : Rq).log = rqL ii m)) (HGF : Hid (∀ i, i < 2 → ¬ (C i).F gr)) (HNL2 : Hid (N2.length = n2)) (HI2 : Hid (OnceI (sigP cl) C N2 D nums true))
    (HQ5 : Hid (Blk w5 gr 32 #[.int .i64 ((ii : Int) + 1), .int .i64 (m : Int), .slice rA 2 rc, .int .u64 rtag])) (HRO5 : Hid (Rq.ok w5 ⟨(ii : Int) + 1, (m : Int), rA, 2, rc, bsL ii m, rtag⟩)) (HO5 : Hid (Once W w5 gs mb cl5 C (.slice (some ⟨gp, 0, none⟩) 2 capp) (.slice A2 n2 cA) N2 gd D)) (HS5 : Hid (sigP cl5 = acSt (sigP cl) ⟨(ii : Int) + 1, (m : Int), rA, 2, rc, bsL ii m, rtag⟩))
    (hmn : D ii + 1 = m)
    {c1 c2 c3 c4 c7 c8 c13 c14 c15 c17 c19 c23 c24 c25 c26 c27 c28 c29 c30 c31 c32 c33 c34 c35 c36 c37 c38 c39 c40 c41 c42 c43 c44 c45 c46 c47 c48 c49 c50 c51 c52 c53 c54 c55 c56 c57 c58 c59 c60 c61 c62 c63 c64 c65 c66 c67 c68 c69 c70 c71 c72 c73 c74 c75 c76 c77 c78 c79 c80 c81 c82 c83 c84 c85 c86 c87 c88 c89 c90 c91 c92 c93 c94 c95 c96 c97 c98 c99 c100 c101 c102 c103 c104 c105 c106 c107 c108 c109 c110 c111 c112 c113 c114 c115 c116 c117 c118 c119 c120 c121 c122 c123 c124 c125 c126 c127 c128 c129 c130 c131 c132 c133 c134 c135 c136 c137 c138 c139 c140 c141 c142 c143 c144 c145 c146 c147 c148 c149 c150 c151 c152 c153 c154 c155 c156 c157 c158 c159 c160 c161 c162 c163 c164 c165 c166 c167 c168 c169 c170 c171 c172 c173 c174 c175 c176 c177 c178 c179 c180 c181 c182 c183 c184 c185 c186 c187 c188 c189 c190 c191 c192 c193 c194 c195 c196 c197 c198 c199 c200 c201 c202 c203 c204 c205 c206 c207 c208 c209 c210 c211 c212 c213 c214 c215 c216 c217 c218 c219 c220 c221 c222 c223 c224 c225 c226 c227 c228 c229 c230 c231 c232 c233 c234 c235 c236 c237 c238 c239 c240 c241 c242 c243 c244 c245 c246 c247 c248 c249 c250 c251 c252 c253 c254 c255 c256 c257 c258 c259 c260 c261 c262 c263 c264 c265 c266 c267 c268 c269 c270 c271 c272 c273 c274 c275 c276 c277 c278 c279 c280 c281 c282 c283 c284 c285 c286 c287 c288 c289 c290 c291 c292 c293 c294 c295 c296 c297 c298 c299 c300 c301 c302 c303 c304 c305 c306 c307 c308 c309 c310 c311 c312 c313 c314 c315 c316 c317 c318 c319 c320 c321 c322 c323 c324 c325 c326 c327 c328 c329 c330 c331 c332 c333 c334 c335 c336 c337 c338 c339 c340 c341 c342 c343 c344 c345 c346 c347 c348 c349 c350 c351 c352 c353 c354 c355 c356 c357 c358 c359 c360 c361 c362 c363 c364 c365 c366 c367 c368 c369 : Value} {Q : Exit → Act → World → Prop}
    (hend : ∀ (x4 x21 x175 x176 x177 x178 x179 x180 x181 x182 x183 x184 x185 x186 x187 x188 x189 x190 x191 x192 x193 x194 x195 x196 x197 x198 x199 x200 x201 x202 x203 x204 x205 x206 x207 x208 x209 x210 x211 x212 x213 x214 x215 x216 x217 x218 x219 x220 x221 x222 x223 x224 x225 x226 x227 x228 x229 x230 x231 x232 x233 x234 x235 x236 x237 x238 x239 x240 x241 x242 x243 x244 x245 x246 x247 x248 x249 x250 x251 x252 x253 x254 x255 x256 x257 x258 x259 x260 x261 x262 x263 x264 x265 x266 x267 x268 x269 x270 x271 : Value) (w' : World), OR5 W gs mb gp capp gd n round n2 (.slice A2 n2 cA) w' → Q .normal ⟨List.toArray (.slice A0 n0 c0 :: c1 :: c2 :: c3 :: x4 :: .pointer (some ⟨gs, 0, none⟩) :: .slice (some ⟨gp, 0, none⟩) 2 capp :: c7 :: c8 :: .int .i64 (n : Int) :: .pointer (some ⟨gd, 0, none⟩) :: .slice A2 n2 cA :: .int .i64 (round : Int) :: c13 :: c14 :: c15 :: .int .i64 (i : Int) :: c17 :: .pointer (some ⟨gr, 0, none⟩) :: c19 :: .bool true :: x21 :: .int .i64 0 :: c23 :: c24 :: c25 :: c26 :: c27 :: c28 :: c29 :: c30 :: c31 :: c32 :: c33 :: c34 :: c35 :: c36 :: c37 :: c38 :: c39 :: c40 :: c41 :: c42 :: c43 :: c44 :: c45 :: c46 :: c47 :: c48 :: c49 :: c50 :: c51 :: c52 :: c53 :: c54 :: c55 :: c56 :: c57 :: c58 :: c59 :: c60 :: c61 :: c62 :: c63 :: c64 :: c65 :: c66 :: c67 :: c68 :: c69 :: c70 :: c71 :: c72 :: c73 :: c74 :: c75 :: c76 :: c77 :: c78 :: c79 :: c80 :: c81 :: c82 :: c83 :: c84 :: c85 :: c86 :: c87 :: c88 :: c89 :: c90 :: c91 :: c92 :: c93 :: c94 :: c95 :: c96 :: c97 :: c98 :: c99 :: c100 :: c101 :: c102 :: c103 :: c104 :: c105 :: c106 :: c107 :: c108 :: c109 :: c110 :: c111 :: c112 :: c113 :: c114 :: c115 :: c116 :: c117 :: c118 :: c119 :: c120 :: c121 :: c122 :: c123 :: c124 :: c125 :: c126 :: c127 :: c128 :: c129 :: c130 :: c131 :: c132 :: c133 :: c134 :: c135 :: c136 :: c137 :: c138 :: c139 :: c140 :: c141 :: c142 :: c143 :: c144 :: c145 :: c146 :: c147 :: c148 :: c149 :: c150 :: c151 :: c152 :: c153 :: c154 :: c155 :: c156 :: c157 :: c158 :: c159 :: c160 :: c161 :: c162 :: c163 :: c164 :: c165 :: c166 :: c167 :: c168 :: c169 :: c170 :: c171 :: c172 :: c173 :: c174 :: x175 :: x176 :: x177 :: x178 :: x179 :: x180 :: x181 :: x182 :: x183 :: x184 :: x185 :: x186 :: x187 :: x188 :: x189 :: x190 :: x191 :: x192 :: x193 :: x194 :: x195 :: x196 :: x197 :: x198 :: x199 :: x200 :: x201 :: x202 :: x203 :: x204 :: x205 :: x206 :: x207 :: x208 :: x209 :: x210 :: x211 :: x212 :: x213 :: x214 :: x215 :: x216 :: x217 :: x218 :: x219 :: x220 :: x221 :: x222 :: x223 :: x224 :: x225 :: x226 :: x227 :: x228 :: x229 :: x230 :: x231 :: x232 :: x233 :: x234 :: x235 :: x236 :: x237 :: x238 :: x239 :: x240 :: x241 :: x242 :: x243 :: x244 :: x245 :: x246 :: x247 :: x248 :: x249 :: x250 :: x251 :: x252 :: x253 :: x254 :: x255 :: x256 :: x257 :: x258 :: x259 :: x260 :: x261 :: x262 :: x263 :: x264 :: x265 :: x266 :: x267 :: x268 :: x269 :: x270 :: x271 :: c272 :: c273 :: c274 :: c275 :: c276 :: c277 :: c278 :: c279 :: c280 :: c281 :: c282 :: c283 :: c284 :: c285 :: c286 :: c287 :: c288 :: c289 :: c290 :: c291 :: c292 :: c293 :: c294 :: c295 :: c296 :: c297 :: c298 :: c299 :: c300 :: c301 :: c302 :: c303 :: c304 :: c305 :: c306 :: c307 :: c308 :: c309 :: c310 :: c311 :: c312 :: c313 :: c314 :: c315 :: c316 :: c317 :: c318 :: c319 :: c320 :: c321 :: c322 :: c323 :: c324 :: c325 :: c326 :: c327 :: c328 :: c329 :: c330 :: c331 :: c332 :: c333 :: c334 :: c335 :: c336 :: c337 :: c338 :: c339 :: c340 :: c341 :: c342 :: c343 :: c344 :: c345 :: c346 :: c347 :: c348 :: c349 :: c350 :: c351 :: c352 :: c353 :: c354 :: c355 :: c356 :: c357 :: c358 :: c359 :: c360 :: c361 :: c362 :: c363 :: c364 :: c365 :: c366 :: c367 :: c368 :: c369 :: []), []⟩ w' ∧ Q (.exit 7) ⟨List.toArray (.slice A0 n0 c0 :: c1 :: c2 :: c3 :: x4 :: .pointer (some ⟨gs, 0, none⟩) :: .slice (some ⟨gp, 0, none⟩) 2 capp :: c7 :: c8 :: .int .i64 (n : Int) :: .pointer (some ⟨gd, 0, none⟩) :: .slice A2 n2 cA :: .int .i64 (round : Int) :: c13 :: c14 :: c15 :: .int .i64 (i : Int) :: c17 :: .pointer (some ⟨gr, 0, none⟩) :: c19 :: .bool true :: x21 :: .int .i64 0 :: c23 :: c24 :: c25 :: c26 :: c27 :: c28 :: c29 :: c30 :: c31 :: c32 :: c33 :: c34 :: c35 :: c36 :: c37 :: c38 :: c39 :: c40 :: c41 :: c42 :: c43 :: c44 :: c45 :: c46 :: c47 :: c48 :: c49 :: c50 :: c51 :: c52 :: c53 :: c54 :: c55 :: c56 :: c57 :: c58 :: c59 :: c60 :: c61 :: c62 :: c63 :: c64 :: c65 :: c66 :: c67 :: c68 :: c69 :: c70 :: c71 :: c72 :: c73 :: c74 :: c75 :: c76 :: c77 :: c78 :: c79 :: c80 :: c81 :: c82 :: c83 :: c84 :: c85 :: c86 :: c87 :: c88 :: c89 :: c90 :: c91 :: c92 :: c93 :: c94 :: c95 :: c96 :: c97 :: c98 :: c99 :: c100 :: c101 :: c102 :: c103 :: c104 :: c105 :: c106 :: c107 :: c108 :: c109 :: c110 :: c111 :: c112 :: c113 :: c114 :: c115 :: c116 :: c117 :: c118 :: c119 :: c120 :: c121 :: c122 :: c123 :: c124 :: c125 :: c126 :: c127 :: c128 :: c129 :: c130 :: c131 :: c132 :: c133 :: c134 :: c135 :: c136 :: c137 :: c138 :: c139 :: c140 :: c141 :: c142 :: c143 :: c144 :: c145 :: c146 :: c147 :: c148 :: c149 :: c150 :: c151 :: c152 :: c153 :: c154 :: c155 :: c156 :: c157 :: c158 :: c159 :: c160 :: c161 :: c162 :: c163 :: c164 :: c165 :: c166 :: c167 :: c168 :: c169 :: c170 :: c171 :: c172 :: c173 :: c174 :: x175 :: x176 :: x177 :: x178 :: x179 :: x180 :: x181 :: x182 :: x183 :: x184 :: x185 :: x186 :: x187 :: x188 :: x189 :: x190 :: x191 :: x192 :: x193 :: x194 :: x195 :: x196 :: x197 :: x198 :: x199 :: x200 :: x201 :: x202 :: x203 :: x204 :: x205 :: x206 :: x207 :: x208 :: x209 :: x210 :: x211 :: x212 :: x213 :: x214 :: x215 :: x216 :: x217 :: x218 :: x219 :: x220 :: x221 :: x222 :: x223 :: x224 :: x225 :: x226 :: x227 :: x228 :: x229 :: x230 :: x231 :: x232 :: x233 :: x234 :: x235 :: x236 :: x237 :: x238 :: x239 :: x240 :: x241 :: x242 :: x243 :: x244 :: x245 :: x246 :: x247 :: x248 :: x249 :: x250 :: x251 :: x252 :: x253 :: x254 :: x255 :: x256 :: x257 :: x258 :: x259 :: x260 :: x261 :: x262 :: x263 :: x264 :: x265 :: x266 :: x267 :: x268 :: x269 :: x270 :: x271 :: c272 :: c273 :: c274 :: c275 :: c276 :: c277 :: c278 :: c279 :: c280 :: c281 :: c282 :: c283 :: c284 :: c285 :: c286 :: c287 :: c288 :: c289 :: c290 :: c291 :: c292 :: c293 :: c294 :: c295 :: c296 :: c297 :: c298 :: c299 :: c300 :: c301 :: c302 :: c303 :: c304 :: c305 :: c306 :: c307 :: c308 :: c309 :: c310 :: c311 :: c312 :: c313 :: c314 :: c315 :: c316 :: c317 :: c318 :: c319 :: c320 :: c321 :: c322 :: c323 :: c324 :: c325 :: c326 :: c327 :: c328 :: c329 :: c330 :: c331 :: c332 :: c333 :: c334 :: c335 :: c336 :: c337 :: c338 :: c339 :: c340 :: c341 :: c342 :: c343 :: c344 :: c345 :: c346 :: c347 :: c348 :: c349 :: c350 :: c351 :: c352 :: c353 :: c354 :: c355 :: c356 :: c357 :: c358 :: c359 :: c360 :: c361 :: c362 :: c363 :: c364 :: c365 :: c366 :: c367 :: c368 :: c369 :: []), []⟩ w') :
    Code.wp Try.prog restC Q ⟨List.toArray (.slice A0 n0 c0 :: c1 :: c2 :: c3 :: c4 :: .pointer (some ⟨gs, 0, none⟩) :: .slice (some ⟨gp, 0, none⟩) 2 capp :: c7 :: c8 :: .int .i64 (n : Int) :: .pointer (some ⟨gd, 0, none⟩) :: .slice A2 n2 cA :: .int .i64 (round : Int) :: c13 :: c14 :: c15 :: .int .i64 (i : Int) :: c17 :: .pointer (some ⟨gr, 0, none⟩) :: c19 :: .bool true :: .slice A5 n5 c5 :: .int .i64 0 :: c23 :: c24 :: c25 :: c26 :: c27 :: c28 :: c29 :: c30 :: c31 :: c32 :: c33 :: c34 :: c35 :: c36 :: c37 :: c38 :: c39 :: c40 :: c41 :: c42 :: c43 :: c44 :: c45 :: c46 :: c47 :: c48 :: c49 :: c50 :: c51 :: c52 :: c53 :: c54 :: c55 :: c56 :: c57 :: c58 :: c59 :: c60 :: c61 :: c62 :: c63 :: c64 :: c65 :: c66 :: c67 :: c68 :: c69 :: c70 :: c71 :: c72 :: c73 :: c74 :: c75 :: c76 :: c77 :: c78 :: c79 :: c80 :: c81 :: c82 :: c83 :: c84 :: c85 :: c86 :: c87 :: c88 :: c89 :: c90 :: c91 :: c92 :: c93 :: c94 :: c95 :: c96 :: c97 :: c98 :: c99 :: c100 :: c101 :: c102 :: c103 :: c104 :: c105 :: c106 :: c107 :: c108 :: c109 :: c110 :: c111 :: c112 :: c113 :: c114 :: c115 :: c116 :: c117 :: c118 :: c119 :: c120 :: c121 :: c122 :: c123 :: c124 :: c125 :: c126 :: c127 :: c128 :: c129 :: c130 :: c131 :: c132 :: c133 :: c134 :: c135 :: c136 :: c137 :: c138 :: c139 :: c140 :: c141 :: c142 :: c143 :: c144 :: c145 :: c146 :: c147 :: c148 :: c149 :: c150 :: c151 :: c152 :: c153 :: c154 :: c155 :: c156 :: c157 :: c158 :: c159 :: c160 :: c161 :: c162 :: c163 :: c164 :: c165 :: c166 :: c167 :: c168 :: c169 :: c170 :: c171 :: c172 :: c173 :: c174 :: c175 :: c176 :: c177 :: c178 :: c179 :: c180 :: c181 :: c182 :: c183 :: c184 :: c185 :: c186 :: c187 :: c188 :: c189 :: c190 :: c191 :: c192 :: c193 :: c194 :: c195 :: c196 :: c197 :: c198 :: c199 :: c200 :: c201 :: c202 :: c203 :: c204 :: c205 :: c206 :: c207 :: c208 :: c209 :: c210 :: c211 :: c212 :: c213 :: c214 :: c215 :: c216 :: c217 :: c218 :: c219 :: c220 :: c221 :: c222 :: c223 :: c224 :: c225 :: c226 :: c227 :: c228 :: c229 :: c230 :: c231 :: c232 :: c233 :: c234 :: c235 :: c236 :: c237 :: c238 :: c239 :: c240 :: c241 :: c242 :: c243 :: c244 :: c245 :: c246 :: c247 :: c248 :: c249 :: c250 :: c251 :: c252 :: c253 :: c254 :: c255 :: c256 :: c257 :: c258 :: c259 :: c260 :: c261 :: c262 :: c263 :: c264 :: c265 :: c266 :: c267 :: c268 :: c269 :: c270 :: c271 :: c272 :: c273 :: c274 :: c275 :: c276 :: c277 :: c278 :: c279 :: c280 :: c281 :: c282 :: c283 :: c284 :: c285 :: c286 :: c287 :: c288 :: c289 :: c290 :: c291 :: c292 :: c293 :: c294 :: c295 :: c296 :: c297 :: c298 :: c299 :: c300 :: c301 :: c302 :: c303 :: c304 :: c305 :: c306 :: c307 :: c308 :: c309 :: c310 :: c311 :: c312 :: c313 :: c314 :: c315 :: c316 :: c317 :: c318 :: c319 :: c320 :: c321 :: c322 :: c323 :: c324 :: c325 :: c326 :: c327 :: c328 :: c329 :: c330 :: c331 :: c332 :: c333 :: c334 :: c335 :: c336 :: c337 :: c338 :: c339 :: c340 :: c341 :: c342 :: c343 :: c344 :: c345 :: c346 :: c347 :: c348 :: c349 :: c350 :: c351 :: c352 :: c353 :: c354 :: c355 :: c356 :: c357 :: c358 :: c359 :: c360 :: c361 :: c362 :: c363 :: c364 :: c365 :: c366 :: c367 :: c368 :: c369 :: []), []⟩ w5 := by
  conv => arg 2; whnf
  have HSES := Lib.hid (HI2.out.ses ii hii)
  have HDD := Lib.hid (show D ii ≤ 10 by have := (HI2.out.good ii hii).dle; have := HLS.out ii hii; omega)
  obtain ⟨d, hd⟩ : ∃ d, D ii = d := ⟨_, rfl⟩
  rw [hd] at hmn
  have hd10 : d ≤ 10 := by have := HDD.out; omega
  obtain ⟨-, he3, -, hnx, hoth⟩ := HSES.out.new (by rw [hd, hmn]; exact HLOG.out) hii rfl (by omega)
  have hmi : (d : Int) + 1 = (m : Int) := by omega
  rw [hd, hmi] at he3 hnx hoth
  rw [hmn] at hnx
  have HMN := Lib.hid hmn
  have HDE := Lib.hid hd
  have HE3 := Lib.hid he3
  have HNX := Lib.hid hnx
  have HOT := Lib.hid hoth
  have hdn := HO5.out.doneAt hii
  rw [hd] at hdn
  obtain ⟨hdn0, hdn1, -⟩ := hdn
  have ixw : IntKind.i64.wrap (ii : Int) = (ii : Int) := IntWalk.i64_in _ (by omega)
  have iyw : IntKind.i64.wrap (m : Int) = (m : Int) := IntWalk.i64_in _ (by omega)
  have ix0 : (0 : Int) ≤ (ii : Int) := by omega
  have ix1 : (ii : Int) < 2 := by omega
  obtain ⟨q0, q1, q2, q3, -, -, -, -⟩ := blk4 HQ5.out
  clear hmn hd he3 hnx hoth
  go_upto_region 41 with fail
  have hne : gr ≠ gd := fun e => absurd (Ty.unique HQ5.out.ty (e ▸ HO5.out.done.ty)) (by decide)
  have hO6 := HO5.out.toDone hii m
  have m6 : Mod (fun b => b = gd) w5 (w5.setCell ⟨gd, ii, none⟩ (.int .i64 (m : Int))) := (Mod.refl (fun b => b = gd) w5).set (p := ⟨gd, ii, none⟩) (.inl rfl) _
  obtain ⟨w6, hw6⟩ : ∃ w6, w6 = w5.setCell ⟨gd, ii, none⟩ (.int .i64 (m : Int)) := ⟨_, rfl⟩
  rw [← hw6] at hO6 m6 ⊢
  have HQ6 := Lib.hid (m6.blk HQ5.out hne)
  have HRO6 := Lib.hid (HRO5.out.mod m6 (fun b hb ht => absurd (Ty.unique ht (hb ▸ HO5.out.done.ty)) (by decide)))
  obtain ⟨hdn0, -, -⟩ := hO6.doneAt hii
  unfold updN at hdn0
  rw [if_pos rfl] at hdn0
  have HO6 := Lib.hid hO6
  obtain ⟨-, rb, ro, hrA, -, y0, y1⟩ := HRO6.out.1.two (by omega) (by omega)
  dsimp only at hrA
  subst hrA
  obtain ⟨q0, q1, q2, q3, -, -, -, -⟩ := blk4 HQ6.out
  have cv0 : IntKind.u8.wrap (m : Int) = (m : Int) := IntWalk.u8_in _ (by omega)
  have cv1 : IntKind.u8.wrap ((ii : Int) + 1) = (ii : Int) + 1 := IntWalk.u8_in _ (by omega)
  have cv2 : IntKind.u8.wrap (ii : Int) = (ii : Int) := IntWalk.u8_in _ (by omega)
  clear hO6 m6 hw6 hne HO5 HQ5 HRO5
  go_quiet (fail)
  have hbq := below_drewN (Below.refl w6.heap.size w6) nq
  obtain ⟨w7, hw7⟩ : ∃ w7, w7 = w6.drewN nq := ⟨_, rfl⟩
  rw [← hw7] at hbq ⊢
  have HO7 := Lib.hid (HO6.out.all hbq)
  have HQ7 := Lib.hid (HQ6.out.all hbq)
  obtain ⟨q0, q1, q2, q3, -, -, -, -⟩ := blk4 HQ7.out
  clear hw7 hbq HO6 HQ6 HRO6 hdn0 y0 y1
  go_upto_region 44 with fail
  have hbt := (Below.refl w7.heap.size w7).alloc (Nat.le_refl _) (.cells #[.int .u8 (m : Int), .int .u8 ((ii : Int) + 1), .int .u8 9] 5)
  have hbt3 : Bts (w7.alloc (.cells #[.int .u8 (m : Int), .int .u8 ((ii : Int) + 1), .int .u8 9] 5)) (some ⟨w7.heap.size, 0, none⟩) 3 3 (txL ii m) := Bts.lit3 w7 m (ii + 1) 9 (by omega) (by omega) (by decide)
  obtain ⟨w8, hw8⟩ : ∃ w8, w8 = w7.alloc (.cells #[.int .u8 (m : Int), .int .u8 ((ii : Int) + 1), .int .u8 9] 5) := ⟨_, rfl⟩
  rw [← hw8] at hbt hbt3 ⊢
  have HO8 := Lib.hid (HO7.out.all hbt)
  have HQ8 := Lib.hid (HQ7.out.all hbt)
  obtain ⟨tb, htb⟩ : ∃ tb, w7.heap.size = tb := ⟨_, rfl⟩
  rw [htb] at hbt3 ⊢
  have HB8 := Lib.hid hbt3
  obtain ⟨q0, q1, q2, q3, -, -, -, -⟩ := blk4 HQ8.out
  clear hbt hbt3 hw8 htb HO7 HQ7
  go_wp2_with fail
  refine (answerP_any gs mb cl5 ((ii : Int) + 1) (m : Int) _ 3 3 (txL ii m) w8 (Lib.hid HO8.out.sys.ses) HB8 (by decide)).mono ?_
  rintro e w9 ⟨rfl, hN9⟩
  have e0 : anErr (sigP cl5) ((ii : Int) + 1) (m : Int) 3 = 0 := by rw [HS5.out]; exact HE3.out
  rw [e0]
  obtain ⟨cl9, hs9, hO9, m9⟩ := HO8.out.toSes hN9
  have HQ9 := Lib.hid (m9.blk HQ8.out (fun hf => HO8.out.sys.ses.notF HQ8.out.ty (by decide) (by decide) (by decide) hf))
  have HB9 := Lib.hid (HB8.out.mod m9 HO8.out.sys.ses.noB)
  have HI7 := Lib.hid (show OnceI (sigP cl9) C N2 (updN D ii m) nums true by
    have h1 : SesG (sigP cl9) ii (D ii + 1) true := by
      rw [hs9, HS5.out, HDE.out, HMN.out]
      exact HNX.out _ _ HE3.out (fun _ => rfl)
    have h2 := HI2.out.perf (σ' := sigP cl9) hii (by rw [HDE.out, HMN.out]; exact hml) h1 (fun j hj => by rw [hs9, HS5.out]; exact HOT.out _ _ j hj)
    rw [HDE.out, HMN.out] at h2
    exact h2)
  have HOP := Lib.hid (show (C ii).op.length ≤ 1000000 by have h1 := (HI7.out.good ii hii).len; have h2 := HLS.out ii hii; omega)
  have HM7 := Lib.hid (show m ≤ updN D ii m ii by unfold updN; rw [if_pos rfl]; exact Nat.le_refl _)
  have HO9 := Lib.hid hO9
  obtain ⟨-, tb', tf, hA, -, tx0, tx1⟩ := HB9.out.three (by omega) (by omega)
  injection hA with hA
  injection hA with hA1 hA2
  subst hA1
  rw [← hA2] at tx0 tx1
  obtain ⟨q0, q1, q2, q3, -, -, -, -⟩ := blk4 HQ9.out
  clear hA2 hs9 hN9 hO9 m9 e0 HO8 HQ8 HB8 HNX HOT HE3
  go_upto_region 47 with fail
  go_quiet (fail)
  have hbq := below_drewN (Below.refl w9.heap.size w9) nq
  obtain ⟨w7, hw7⟩ : ∃ w7, w7 = w9.drewN nq := ⟨_, rfl⟩
  rw [← hw7] at hbq ⊢
  have HO7 := Lib.hid (HO9.out.all hbq)
  have HQ7 := Lib.hid (HQ9.out.all hbq)
  have HRD7 := Lib.hid (hR0.below HO7.out.sys.below (Nat.le_refl _))
  clear hw7 hbq HO9 HQ9 HB9 q0 q1 q2 q3 tx0 tx1 cv0 cv1 cv2 ixw iyw ix0 ix1 hdn1 hmi
  by_cases hrd : 30 ≤ round
  · have hrdI : (30 : Int) ≤ (round : Int) := by omega
    have k0 := HO7.out.rowAt hii
    obtain ⟨k1, k2, -, -, -, -, -, -⟩ := blk4 HQ7.out
    have ix0 : (0 : Int) ≤ (ii : Int) := by omega
    have ix1 : (ii : Int) < 2 := by omega
    have ixw : IntKind.i64.wrap (ii : Int) = (ii : Int) := IntWalk.i64_in _ (by omega)
    have HO9 := Lib.hid (HO7.out.all ((Below.refl w7.heap.size w7).drew))
    have HQ9 := Lib.hid (HQ7.out.all ((Below.refl w7.heap.size w7).drew))
    go_upto_region 50 with fail
    go_region_held3 (fun x => x.cell? ⟨gp, ii, none⟩ = some (.pointer (some ⟨(C ii).g, 0, none⟩)) ∧ x.cell? ⟨gr, 0, none⟩ = some (.int .i64 ((ii : Int) + 1)) ∧ x.cell? ⟨gr, 1, none⟩ = some (.int .i64 (m : Int)))
      (first | exact ⟨k0, k1, k2⟩ | exact ⟨hrow8, (blk4 HQ8.out).1, (blk4 HQ8.out).2.1⟩)
      (first | (go_at_call 34; (refine (gotP_any (C ii).g ((ii : Int) + 1) ((ii : Int) + 5) ((C ii).last : Int) (C ii).rv (C ii).op (m : Int) _ 3 _ _ (Lib.hid (HO9.out.sys.call ii hii)) HOP.out (by decide)).mono ?_); rintro e w8 hp; obtain ⟨C8, nums8, hO8, hI8, hl8, hg8⟩ := HO9.out.got HI7.out hii HM7.out hp; have HQ8 := Lib.hid (gotBlk HQ9.out (HGF.out ii hii) hp); have hrow8 := hO8.rowAt hii; rw [hg8] at hrow8; have HO8 := Lib.hid hO8; have HI8 := Lib.hid hI8; have HLS8 := Lib.hid (show ∀ i, i < 2 → (C8 i).last = min (round + 1) n from fun i hi => (hl8 i).trans (HLS.out i hi)); obtain ⟨-, -, rfl, -⟩ := hp; obtain ⟨ge, hge⟩ : ∃ ge, gotErr ((C ii).last : Int) ((C ii).op.map Rq.log) (m : Int) 3 = ge := ⟨_, rfl⟩; rw [hge]; clear hO8 hI8 hl8 hg8 hge))
    go_wp2
    refine And.left (hend _ _ _ _ _ _ _ _ _ _ _ _ _ _ _ _ _ _ _ _ _ _ _ _ _ _ _ _ _ _ _ _ _ _ _ _ _ _ _ _ _ _ _ _ _ _ _ _ _ _ _ _ _ _ _ _ _ _ _ _ _ _ _ _ _ _ _ _ _ _ _ _ _ _ _ _ _ _ _ _ _ _ _ _ _ _ _ _ _ _ _ _ _ _ _ _ _ _ _ _ (OR5.mk HNL2 HO8 HI8 HLS8))
  · have hrdI : ¬ ((30 : Int) ≤ (round : Int)) := by omega
    go_upto_if 261 with (go_at_call 38; ((refine (pick_nat _ _ _ f0 (round * 8 + i + 3) _ 2 _ _ _ (by omega) (by decide) HRD7.out HW (by decide) (by decide)).mono ?_); rintro e w8 ⟨k8, rfl, hk8, -, rfl⟩))
    by_cases hk0 : k8 = 0
    · subst hk0
      have k0 := HO7.out.rowAt hii
      obtain ⟨k1, k2, -, -, -, -, -, -⟩ := blk4 HQ7.out
      have ix0 : (0 : Int) ≤ (ii : Int) := by omega
      have ix1 : (ii : Int) < 2 := by omega
      have ixw : IntKind.i64.wrap (ii : Int) = (ii : Int) := IntWalk.i64_in _ (by omega)
      have HO9 := Lib.hid (HO7.out.all ((Below.refl w7.heap.size w7).drew))
      have HQ9 := Lib.hid (HQ7.out.all ((Below.refl w7.heap.size w7).drew))
      go_upto_region 50 with fail
      go_region_held3 (fun x => x.cell? ⟨gp, ii, none⟩ = some (.pointer (some ⟨(C ii).g, 0, none⟩)) ∧ x.cell? ⟨gr, 0, none⟩ = some (.int .i64 ((ii : Int) + 1)) ∧ x.cell? ⟨gr, 1, none⟩ = some (.int .i64 (m : Int)))
        (first | exact ⟨k0, k1, k2⟩ | exact ⟨hrow8, (blk4 HQ8.out).1, (blk4 HQ8.out).2.1⟩)
        (first | (go_at_call 34; (refine (gotP_any (C ii).g ((ii : Int) + 1) ((ii : Int) + 5) ((C ii).last : Int) (C ii).rv (C ii).op (m : Int) _ 3 _ _ (Lib.hid (HO9.out.sys.call ii hii)) HOP.out (by decide)).mono ?_); rintro e w8 hp; obtain ⟨C8, nums8, hO8, hI8, hl8, hg8⟩ := HO9.out.got HI7.out hii HM7.out hp; have HQ8 := Lib.hid (gotBlk HQ9.out (HGF.out ii hii) hp); have hrow8 := hO8.rowAt hii; rw [hg8] at hrow8; have HO8 := Lib.hid hO8; have HI8 := Lib.hid hI8; have HLS8 := Lib.hid (show ∀ i, i < 2 → (C8 i).last = min (round + 1) n from fun i hi => (hl8 i).trans (HLS.out i hi)); obtain ⟨-, -, rfl, -⟩ := hp; obtain ⟨ge, hge⟩ : ∃ ge, gotErr ((C ii).last : Int) ((C ii).op.map Rq.log) (m : Int) 3 = ge := ⟨_, rfl⟩; rw [hge]; clear hO8 hI8 hl8 hg8 hge))
      go_wp2
      refine And.left (hend _ _ _ _ _ _ _ _ _ _ _ _ _ _ _ _ _ _ _ _ _ _ _ _ _ _ _ _ _ _ _ _ _ _ _ _ _ _ _ _ _ _ _ _ _ _ _ _ _ _ _ _ _ _ _ _ _ _ _ _ _ _ _ _ _ _ _ _ _ _ _ _ _ _ _ _ _ _ _ _ _ _ _ _ _ _ _ _ _ _ _ _ _ _ _ _ _ _ _ _ (OR5.mk HNL2 HO8 HI8 HLS8))
    · have hk0b : ((k8 : Int) == 0) = false := by simp; omega
      go_wp2
      refine And.left (hend _ _ _ _ _ _ _ _ _ _ _ _ _ _ _ _ _ _ _ _ _ _ _ _ _ _ _ _ _ _ _ _ _ _ _ _ _ _ _ _ _ _ _ _ _ _ _ _ _ _ _ _ _ _ _ _ _ _ _ _ _ _ _ _ _ _ _ _ _ _ _ _ _ _ _ _ _ _ _ _ _ _ _ _ _ _ _ _ _ _ _ _ _ _ _ _ _ _ _ _ (OR5.mk HNL2 HO7 HI7 HLS))
end Go.Proofs.Ytompkpleiichaaa
