/- ClientOnce: a request is handed to the server. -/
import Derived.Test.YtompkpleiichaaaHOnceN
import Derived.Test.YtompkpleiichaaaHOnceO
import Derived.Deep.DeepCutAuto
import Derived.Deep.QuietTactic
import Derived.BigQuiet

namespace Go.Proofs.Ytompkpleiichaaa
open Go.ChangeShapes Go.WideShapes Go.ChangeAt Go.RowKit Go.ChangeMaps

set_option maxRecDepth 1000000 in
set_option maxHeartbeats 100000000 in
theorem once_mid {W : World} {A0 : Option Addr} {n0 c0 : Nat} {f0 : Nat → Int} (hR0 : Rd W W.heap.size A0 n0 (fun j => .int .i64 (f0 j))) (HW : Hid (∀ j, j < n0 → -9223372036854775808 ≤ f0 j ∧ f0 j ≤ 9223372036854775807)) {gs mb gp capp gd n round i n2 cA gr ii m rc : Nat} {A2 rA : Option Addr} {rtag : Int} {cl : List Cl} {C : Nat → Cll} {N2 : List Rq} {D : Nat → Nat} {nums : Nat → List Nat} {w5 : World}
    (hn10 : n ≤ 10) (hr60 : round < 60) (hi8 : i < 8) (hii : ii < 2) (hm1 : 1 ≤ m) (hm10 : m ≤ 10) (hml : m ≤ (C ii).last) (HLS : Hid (∀ i, i < 2 → (C i).last = min (round + 1) n)) (HLOG : Hid ((⟨(ii : Int) + 1, (m : Int), rA, 2, rc, bsL ii m, rtag⟩ : Rq).log = rqL ii m)) (HGF : Hid (∀ i, i < 2 → ¬ (C i).F gr)) (HNL2 : Hid (N2.length = n2)) (HI2 : Hid (OnceI (sigP cl) C N2 D nums true))
    (HQc : Hid (Blk w5 gr 32 #[.int .i64 ((ii : Int) + 1), .int .i64 (m : Int), .slice rA 2 rc, .int .u64 rtag])) (HROc : Hid (Rq.ok w5 ⟨(ii : Int) + 1, (m : Int), rA, 2, rc, bsL ii m, rtag⟩)) (HO2 : Hid (Once W w5 gs mb cl C (.slice (some ⟨gp, 0, none⟩) 2 capp) (.slice A2 n2 cA) N2 gd D))
    
    {c1 c2 c3 c4 c7 c8 c13 c14 c15 c17 c19 c20 c21 c22 c23 c24 c25 c26 c27 c28 c29 c30 c31 c32 c33 c34 c35 c36 c37 c38 c39 c40 c41 c42 c43 c44 c45 c46 c47 c48 c49 c50 c51 c52 c53 c54 c55 c56 c57 c58 c59 c60 c61 c62 c63 c64 c65 c66 c67 c68 c69 c70 c71 c72 c73 c74 c75 c76 c77 c78 c79 c80 c81 c82 c83 c84 c85 c86 c87 c88 c89 c90 c91 c92 c93 c94 c95 c96 c97 c98 c99 c100 c101 c102 c103 c104 c105 c106 c107 c108 c109 c110 c111 c112 c113 c114 c115 c116 c117 c118 c119 c120 c121 c122 c123 c124 c125 c126 c127 c128 c129 c130 c131 c132 c133 c134 c135 c136 c137 c138 c139 c140 c141 c142 c143 c144 c145 c146 c147 c148 c149 c150 c151 c152 c153 c154 c155 c156 c157 c158 c159 c160 c161 c162 c163 c164 c165 c166 c167 c168 c169 c170 c171 c172 c173 c174 c175 c176 c177 c178 c179 c180 c181 c182 c183 c184 c185 c186 c187 c188 c189 c190 c191 c192 c193 c194 c195 c196 c197 c198 c199 c200 c201 c202 c203 c204 c205 c206 c207 c208 c209 c210 c211 c212 c213 c214 c215 c216 c217 c218 c219 c220 c221 c222 c223 c224 c225 c226 c227 c228 c229 c230 c231 c232 c233 c234 c235 c236 c237 c238 c239 c240 c241 c242 c243 c244 c245 c246 c247 c248 c249 c250 c251 c252 c253 c254 c255 c256 c257 c258 c259 c260 c261 c262 c263 c264 c265 c266 c267 c268 c269 c270 c271 c272 c273 c274 c275 c276 c277 c278 c279 c280 c281 c282 c283 c284 c285 c286 c287 c288 c289 c290 c291 c292 c293 c294 c295 c296 c297 c298 c299 c300 c301 c302 c303 c304 c305 c306 c307 c308 c309 c310 c311 c312 c313 c314 c315 c316 c317 c318 c319 c320 c321 c322 c323 c324 c325 c326 c327 c328 c329 c330 c331 c332 c333 c334 c335 c336 c337 c338 c339 c340 c341 c342 c343 c344 c345 c346 c347 c348 c349 c350 c351 c352 c353 c354 c355 c356 c357 c358 c359 c360 c361 c362 c363 c364 c365 c366 c367 c368 c369 : Value} {Q : Exit → Act → World → Prop}
    (hend : ∀ (x4 x20 x21 x22 x102 x103 x104 x105 x106 x107 x108 x109 x110 x111 x112 x113 x114 x115 x116 x117 x118 x119 x120 x121 x122 x123 x124 x125 x126 x127 x128 x129 x130 x131 x132 x133 x134 x135 x136 x137 x138 x139 x140 x141 x142 x143 x144 x145 x146 x147 x148 x149 x150 x151 x152 x153 x154 x155 x156 x157 x158 x159 x160 x161 x162 x163 x164 x165 x166 x167 x168 x169 x170 x171 x172 x173 x174 x175 x176 x177 x178 x179 x180 x181 x182 x183 x184 x185 x186 x187 x188 x189 x190 x191 x192 x193 x194 x195 x196 x197 x198 x199 x200 x201 x202 x203 x204 x205 x206 x207 x208 x209 x210 x211 x212 x213 x214 x215 x216 x217 x218 x219 x220 x221 x222 x223 x224 x225 x226 x227 x228 x229 x230 x231 x232 x233 x234 x235 x236 x237 x238 x239 x240 x241 x242 x243 x244 x245 x246 x247 x248 x249 x250 x251 x252 x253 x254 x255 x256 x257 x258 x259 x260 x261 x262 x263 x264 x265 x266 x267 x268 x269 x270 x271 : Value) (w' : World), OR5 W gs mb gp capp gd n round n2 (.slice A2 n2 cA) w' → Q .normal ⟨List.toArray (.slice A0 n0 c0 :: c1 :: c2 :: c3 :: x4 :: .pointer (some ⟨gs, 0, none⟩) :: .slice (some ⟨gp, 0, none⟩) 2 capp :: c7 :: c8 :: .int .i64 (n : Int) :: .pointer (some ⟨gd, 0, none⟩) :: .slice A2 n2 cA :: .int .i64 (round : Int) :: c13 :: c14 :: c15 :: .int .i64 (i : Int) :: c17 :: .pointer (some ⟨gr, 0, none⟩) :: c19 :: x20 :: x21 :: x22 :: c23 :: c24 :: c25 :: c26 :: c27 :: c28 :: c29 :: c30 :: c31 :: c32 :: c33 :: c34 :: c35 :: c36 :: c37 :: c38 :: c39 :: c40 :: c41 :: c42 :: c43 :: c44 :: c45 :: c46 :: c47 :: c48 :: c49 :: c50 :: c51 :: c52 :: c53 :: c54 :: c55 :: c56 :: c57 :: c58 :: c59 :: c60 :: c61 :: c62 :: c63 :: c64 :: c65 :: c66 :: c67 :: c68 :: c69 :: c70 :: c71 :: c72 :: c73 :: c74 :: c75 :: c76 :: c77 :: c78 :: c79 :: c80 :: c81 :: c82 :: c83 :: c84 :: c85 :: c86 :: c87 :: c88 :: c89 :: c90 :: c91 :: c92 :: c93 :: c94 :: c95 :: c96 :: c97 :: c98 :: c99 :: c100 :: c101 :: x102 :: x103 :: x104 :: x105 :: x106 :: x107 :: x108 :: x109 :: x110 :: x111 :: x112 :: x113 :: x114 :: x115 :: x116 :: x117 :: x118 :: x119 :: x120 :: x121 :: x122 :: x123 :: x124 :: x125 :: x126 :: x127 :: x128 :: x129 :: x130 :: x131 :: x132 :: x133 :: x134 :: x135 :: x136 :: x137 :: x138 :: x139 :: x140 :: x141 :: x142 :: x143 :: x144 :: x145 :: x146 :: x147 :: x148 :: x149 :: x150 :: x151 :: x152 :: x153 :: x154 :: x155 :: x156 :: x157 :: x158 :: x159 :: x160 :: x161 :: x162 :: x163 :: x164 :: x165 :: x166 :: x167 :: x168 :: x169 :: x170 :: x171 :: x172 :: x173 :: x174 :: x175 :: x176 :: x177 :: x178 :: x179 :: x180 :: x181 :: x182 :: x183 :: x184 :: x185 :: x186 :: x187 :: x188 :: x189 :: x190 :: x191 :: x192 :: x193 :: x194 :: x195 :: x196 :: x197 :: x198 :: x199 :: x200 :: x201 :: x202 :: x203 :: x204 :: x205 :: x206 :: x207 :: x208 :: x209 :: x210 :: x211 :: x212 :: x213 :: x214 :: x215 :: x216 :: x217 :: x218 :: x219 :: x220 :: x221 :: x222 :: x223 :: x224 :: x225 :: x226 :: x227 :: x228 :: x229 :: x230 :: x231 :: x232 :: x233 :: x234 :: x235 :: x236 :: x237 :: x238 :: x239 :: x240 :: x241 :: x242 :: x243 :: x244 :: x245 :: x246 :: x247 :: x248 :: x249 :: x250 :: x251 :: x252 :: x253 :: x254 :: x255 :: x256 :: x257 :: x258 :: x259 :: x260 :: x261 :: x262 :: x263 :: x264 :: x265 :: x266 :: x267 :: x268 :: x269 :: x270 :: x271 :: c272 :: c273 :: c274 :: c275 :: c276 :: c277 :: c278 :: c279 :: c280 :: c281 :: c282 :: c283 :: c284 :: c285 :: c286 :: c287 :: c288 :: c289 :: c290 :: c291 :: c292 :: c293 :: c294 :: c295 :: c296 :: c297 :: c298 :: c299 :: c300 :: c301 :: c302 :: c303 :: c304 :: c305 :: c306 :: c307 :: c308 :: c309 :: c310 :: c311 :: c312 :: c313 :: c314 :: c315 :: c316 :: c317 :: c318 :: c319 :: c320 :: c321 :: c322 :: c323 :: c324 :: c325 :: c326 :: c327 :: c328 :: c329 :: c330 :: c331 :: c332 :: c333 :: c334 :: c335 :: c336 :: c337 :: c338 :: c339 :: c340 :: c341 :: c342 :: c343 :: c344 :: c345 :: c346 :: c347 :: c348 :: c349 :: c350 :: c351 :: c352 :: c353 :: c354 :: c355 :: c356 :: c357 :: c358 :: c359 :: c360 :: c361 :: c362 :: c363 :: c364 :: c365 :: c366 :: c367 :: c368 :: c369 :: []), []⟩ w' ∧ Q (.exit 7) ⟨List.toArray (.slice A0 n0 c0 :: c1 :: c2 :: c3 :: x4 :: .pointer (some ⟨gs, 0, none⟩) :: .slice (some ⟨gp, 0, none⟩) 2 capp :: c7 :: c8 :: .int .i64 (n : Int) :: .pointer (some ⟨gd, 0, none⟩) :: .slice A2 n2 cA :: .int .i64 (round : Int) :: c13 :: c14 :: c15 :: .int .i64 (i : Int) :: c17 :: .pointer (some ⟨gr, 0, none⟩) :: c19 :: x20 :: x21 :: x22 :: c23 :: c24 :: c25 :: c26 :: c27 :: c28 :: c29 :: c30 :: c31 :: c32 :: c33 :: c34 :: c35 :: c36 :: c37 :: c38 :: c39 :: c40 :: c41 :: c42 :: c43 :: c44 :: c45 :: c46 :: c47 :: c48 :: c49 :: c50 :: c51 :: c52 :: c53 :: c54 :: c55 :: c56 :: c57 :: c58 :: c59 :: c60 :: c61 :: c62 :: c63 :: c64 :: c65 :: c66 :: c67 :: c68 :: c69 :: c70 :: c71 :: c72 :: c73 :: c74 :: c75 :: c76 :: c77 :: c78 :: c79 :: c80 :: c81 :: c82 :: c83 :: c84 :: c85 :: c86 :: c87 :: c88 :: c89 :: c90 :: c91 :: c92 :: c93 :: c94 :: c95 :: c96 :: c97 :: c98 :: c99 :: c100 :: c101 :: x102 :: x103 :: x104 :: x105 :: x106 :: x107 :: x108 :: x109 :: x110 :: x111 :: x112 :: x113 :: x114 :: x115 :: x116 :: x117 :: x118 :: x119 :: x120 :: x121 :: x122 :: x123 :: x124 :: x125 :: x126 :: x127 :: x128 :: x129 :: x130 :: x131 :: x132 :: x133 :: x134 :: x135 :: x136 :: x137 :: x138 :: x139 :: x140 :: x141 :: x142 :: x143 :: x144 :: x145 :: x146 :: x147 :: x148 :: x149 :: x150 :: x151 :: x152 :: x153 :: x154 :: x155 :: x156 :: x157 :: x158 :: x159 :: x160 :: x161 :: x162 :: x163 :: x164 :: x165 :: x166 :: x167 :: x168 :: x169 :: x170 :: x171 :: x172 :: x173 :: x174 :: x175 :: x176 :: x177 :: x178 :: x179 :: x180 :: x181 :: x182 :: x183 :: x184 :: x185 :: x186 :: x187 :: x188 :: x189 :: x190 :: x191 :: x192 :: x193 :: x194 :: x195 :: x196 :: x197 :: x198 :: x199 :: x200 :: x201 :: x202 :: x203 :: x204 :: x205 :: x206 :: x207 :: x208 :: x209 :: x210 :: x211 :: x212 :: x213 :: x214 :: x215 :: x216 :: x217 :: x218 :: x219 :: x220 :: x221 :: x222 :: x223 :: x224 :: x225 :: x226 :: x227 :: x228 :: x229 :: x230 :: x231 :: x232 :: x233 :: x234 :: x235 :: x236 :: x237 :: x238 :: x239 :: x240 :: x241 :: x242 :: x243 :: x244 :: x245 :: x246 :: x247 :: x248 :: x249 :: x250 :: x251 :: x252 :: x253 :: x254 :: x255 :: x256 :: x257 :: x258 :: x259 :: x260 :: x261 :: x262 :: x263 :: x264 :: x265 :: x266 :: x267 :: x268 :: x269 :: x270 :: x271 :: c272 :: c273 :: c274 :: c275 :: c276 :: c277 :: c278 :: c279 :: c280 :: c281 :: c282 :: c283 :: c284 :: c285 :: c286 :: c287 :: c288 :: c289 :: c290 :: c291 :: c292 :: c293 :: c294 :: c295 :: c296 :: c297 :: c298 :: c299 :: c300 :: c301 :: c302 :: c303 :: c304 :: c305 :: c306 :: c307 :: c308 :: c309 :: c310 :: c311 :: c312 :: c313 :: c314 :: c315 :: c316 :: c317 :: c318 :: c319 :: c320 :: c321 :: c322 :: c323 :: c324 :: c325 :: c326 :: c327 :: c328 :: c329 :: c330 :: c331 :: c332 :: c333 :: c334 :: c335 :: c336 :: c337 :: c338 :: c339 :: c340 :: c341 :: c342 :: c343 :: c344 :: c345 :: c346 :: c347 :: c348 :: c349 :: c350 :: c351 :: c352 :: c353 :: c354 :: c355 :: c356 :: c357 :: c358 :: c359 :: c360 :: c361 :: c362 :: c363 :: c364 :: c365 :: c366 :: c367 :: c368 :: c369 :: []), []⟩ w') :
    Code.wp Try.prog restM Q ⟨List.toArray (.slice A0 n0 c0 :: c1 :: c2 :: c3 :: c4 :: .pointer (some ⟨gs, 0, none⟩) :: .slice (some ⟨gp, 0, none⟩) 2 capp :: c7 :: c8 :: .int .i64 (n : Int) :: .pointer (some ⟨gd, 0, none⟩) :: .slice A2 n2 cA :: .int .i64 (round : Int) :: c13 :: c14 :: c15 :: .int .i64 (i : Int) :: c17 :: .pointer (some ⟨gr, 0, none⟩) :: c19 :: c20 :: c21 :: c22 :: c23 :: c24 :: c25 :: c26 :: c27 :: c28 :: c29 :: c30 :: c31 :: c32 :: c33 :: c34 :: c35 :: c36 :: c37 :: c38 :: c39 :: c40 :: c41 :: c42 :: c43 :: c44 :: c45 :: c46 :: c47 :: c48 :: c49 :: c50 :: c51 :: c52 :: c53 :: c54 :: c55 :: c56 :: c57 :: c58 :: c59 :: c60 :: c61 :: c62 :: c63 :: c64 :: c65 :: c66 :: c67 :: c68 :: c69 :: c70 :: c71 :: c72 :: c73 :: c74 :: c75 :: c76 :: c77 :: c78 :: c79 :: c80 :: c81 :: c82 :: c83 :: c84 :: c85 :: c86 :: c87 :: c88 :: c89 :: c90 :: c91 :: c92 :: c93 :: c94 :: c95 :: c96 :: c97 :: c98 :: c99 :: c100 :: c101 :: c102 :: c103 :: c104 :: c105 :: c106 :: c107 :: c108 :: c109 :: c110 :: c111 :: c112 :: c113 :: c114 :: c115 :: c116 :: c117 :: c118 :: c119 :: c120 :: c121 :: c122 :: c123 :: c124 :: c125 :: c126 :: c127 :: c128 :: c129 :: c130 :: c131 :: c132 :: c133 :: c134 :: c135 :: c136 :: c137 :: c138 :: c139 :: c140 :: c141 :: c142 :: c143 :: c144 :: c145 :: c146 :: c147 :: c148 :: c149 :: c150 :: c151 :: c152 :: c153 :: c154 :: c155 :: c156 :: c157 :: c158 :: c159 :: c160 :: c161 :: c162 :: c163 :: c164 :: c165 :: c166 :: c167 :: c168 :: c169 :: c170 :: c171 :: c172 :: c173 :: c174 :: c175 :: c176 :: c177 :: c178 :: c179 :: c180 :: c181 :: c182 :: c183 :: c184 :: c185 :: c186 :: c187 :: c188 :: c189 :: c190 :: c191 :: c192 :: c193 :: c194 :: c195 :: c196 :: c197 :: c198 :: c199 :: c200 :: c201 :: c202 :: c203 :: c204 :: c205 :: c206 :: c207 :: c208 :: c209 :: c210 :: c211 :: c212 :: c213 :: c214 :: c215 :: c216 :: c217 :: c218 :: c219 :: c220 :: c221 :: c222 :: c223 :: c224 :: c225 :: c226 :: c227 :: c228 :: c229 :: c230 :: c231 :: c232 :: c233 :: c234 :: c235 :: c236 :: c237 :: c238 :: c239 :: c240 :: c241 :: c242 :: c243 :: c244 :: c245 :: c246 :: c247 :: c248 :: c249 :: c250 :: c251 :: c252 :: c253 :: c254 :: c255 :: c256 :: c257 :: c258 :: c259 :: c260 :: c261 :: c262 :: c263 :: c264 :: c265 :: c266 :: c267 :: c268 :: c269 :: c270 :: c271 :: c272 :: c273 :: c274 :: c275 :: c276 :: c277 :: c278 :: c279 :: c280 :: c281 :: c282 :: c283 :: c284 :: c285 :: c286 :: c287 :: c288 :: c289 :: c290 :: c291 :: c292 :: c293 :: c294 :: c295 :: c296 :: c297 :: c298 :: c299 :: c300 :: c301 :: c302 :: c303 :: c304 :: c305 :: c306 :: c307 :: c308 :: c309 :: c310 :: c311 :: c312 :: c313 :: c314 :: c315 :: c316 :: c317 :: c318 :: c319 :: c320 :: c321 :: c322 :: c323 :: c324 :: c325 :: c326 :: c327 :: c328 :: c329 :: c330 :: c331 :: c332 :: c333 :: c334 :: c335 :: c336 :: c337 :: c338 :: c339 :: c340 :: c341 :: c342 :: c343 :: c344 :: c345 :: c346 :: c347 :: c348 :: c349 :: c350 :: c351 :: c352 :: c353 :: c354 :: c355 :: c356 :: c357 :: c358 :: c359 :: c360 :: c361 :: c362 :: c363 :: c364 :: c365 :: c366 :: c367 :: c368 :: c369 :: []), []⟩ w5 := by
  conv => arg 2; whnf
  have HRDc := Lib.hid (hR0.below HO2.out.sys.below (Nat.le_refl _))
  go_upto_region 37 with fail
  let bp := bodyPost Try.prog Try.f6
  go_cut [167] (fun v wx => ∃ bb : Bool, v = .bool bb ∧ wx = w5)
  case first =>
    clear bp
    by_cases hr30 : round < 30
    · have hr30I : (round : Int) < 30 := by omega
      go_wp2_with (go_at_call 38; ((refine (pick_nat _ _ _ f0 (round * 8 + i + 2) _ 4 _ _ _ (by omega) (by decide) HRDc.out HW (by decide) (by decide)).mono ?_); rintro e w4 ⟨k4, rfl, hk4, -, rfl⟩))
      go_meet
      exact ⟨_, rfl, rfl⟩
    · have hr30I : ¬ ((round : Int) < 30) := by omega
      go_wp2
      go_meet
      exact ⟨_, rfl, rfl⟩
  case rest =>
    clear bp
    obtain ⟨bb, rfl, rfl⟩ := hcut
    rcases bb with _ | _
    rotate_left
    · go_wp2
      refine And.right (hend _ _ _ _ _ _ _ _ _ _ _ _ _ _ _ _ _ _ _ _ _ _ _ _ _ _ _ _ _ _ _ _ _ _ _ _ _ _ _ _ _ _ _ _ _ _ _ _ _ _ _ _ _ _ _ _ _ _ _ _ _ _ _ _ _ _ _ _ _ _ _ _ _ _ _ _ _ _ _ _ _ _ _ _ _ _ _ _ _ _ _ _ _ _ _ _ _ _ _ _ _ _ _ _ _ _ _ _ _ _ _ _ _ _ _ _ _ _ _ _ _ _ _ _ _ _ _ _ _ _ _ _ _ _ _ _ _ _ _ _ _ _ _ _ _ _ _ _ _ _ _ _ _ _ _ _ _ _ _ _ _ _ _ _ _ _ _ _ _ _ _ _ _ _ _ (OR5.mk HNL2 HO2 HI2 HLS))
    · --@8
      obtain ⟨R, hR⟩ : ∃ R, acRes (sigP cl) ⟨(ii : Int) + 1, (m : Int), rA, 2, rc, bsL ii m, rtag⟩ = R := ⟨_, rfl⟩
      have HRE := Lib.hid hR
      have HSES := Lib.hid (HI2.out.ses ii hii)
      clear hR
      go_upto_region 38 with fail
      let bp := bodyPost Try.prog Try.f6
      go_cut [20, 21, 22] (fun v20 v21 v22 wx => ∃ (cl5 : List Cl) (A5 : Option Addr) (n5 c5 : Nat), v20 = .bool R.1 ∧ v21 = .slice A5 n5 c5 ∧ v22 = .int .i64 R.2.2 ∧ Hid (Bts wx A5 n5 c5 R.2.1) ∧ Hid (Blk wx gr 32 #[.int .i64 ((ii : Int) + 1), .int .i64 (m : Int), .slice rA 2 rc, .int .u64 rtag]) ∧ Hid (Rq.ok wx ⟨(ii : Int) + 1, (m : Int), rA, 2, rc, bsL ii m, rtag⟩) ∧ Hid (Once W wx gs mb cl5 C (.slice (some ⟨gp, 0, none⟩) 2 capp) (.slice A2 n2 cA) N2 gd D) ∧ Hid (sigP cl5 = acSt (sigP cl) ⟨(ii : Int) + 1, (m : Int), rA, 2, rc, bsL ii m, rtag⟩))
      case first =>
        clear bp
        have HR := HROc.out
        obtain ⟨q0, q1, q2, q3, -, -, -, -⟩ := blk4 HQc.out
        have hgood := HI2.out.good ii hii
        have hd10 : D ii ≤ 10 := by have := hgood.dle; have := HLS.out ii hii; omega
        have HLT := Lib.hid (show ∀ s, sigP cl ((ii : Int) + 1) = some s → s.2.1 < 4611686018427387904 from fun s hs => by
          obtain ⟨acc, h1, -⟩ := HSES.out
          rw [h1] at hs
          injection hs with hs
          subst hs
          show (D ii : Int) < _
          omega)
        clear hgood hd10
        go_wp2_with fail
        refine (acceptP_any gs mb cl ⟨(ii : Int) + 1, (m : Int), rA, 2, rc, bsL ii m, rtag⟩ _ (Lib.hid HO2.out.sys.ses) (Lib.hid HR) (by show (m : Int) ≤ _; omega) HLT).mono ?_
        rintro e w5 ⟨A5, n5, c5, rfl, hB5, hN5⟩
        rw [HRE.out] at hB5 ⊢
        obtain ⟨cl5, hs5, hO5, m5⟩ := HO2.out.toSes hN5
        have HQ5 := Lib.hid (m5.blk HQc.out (fun hf => HO2.out.sys.ses.notF HQc.out.ty (by decide) (by decide) (by decide) hf))
        have HRO5 := Lib.hid (HR.mod m5 HO2.out.sys.ses.noB)
        have HO5 := Lib.hid hO5
        have HS5 := Lib.hid hs5
        have HB5 := Lib.hid hB5
        clear hN5 hs5 hO5 m5 hB5 HR q0 q1 q2 q3 HLT HO2 HQc HROc HRDc HRE
        go_wp2
        go_meet
        exact ⟨cl5, A5, n5, c5, rfl, rfl, rfl, HB5, HQ5, HRO5, HO5, HS5⟩
      case rest =>
        clear bp HO2 HQc HROc HRDc
        obtain ⟨cl5, A5, n5, c5, rfl, rfl, rfl, HB5, HQ5, HRO5, HO5, HS5⟩ := hcut
        rcases Nat.lt_or_ge m (D ii + 1) with hmd | hmd
        · --@o
          have hRv := HSES.out.old HLOG.out hii rfl hm1 (Nat.lt_succ_iff.1 hmd)
          rw [HRE.out] at hRv
          subst hRv
          have hn5 : n5 = 3 := by rw [← HB5.out.1]; rfl
          subst hn5
          dsimp only
          apply_assumption
          refine once_old hR0 HW hn10 hr60 hi8 hii hm1 hm10 hml HLS HLOG HGF HNL2 HI2 HQ5 HRO5 HO5 HS5 (by omega) HB5 ?_
          intros
          rename_i h5
          exact hend _ _ _ _ _ _ _ _ _ _ _ _ _ _ _ _ _ _ _ _ _ _ _ _ _ _ _ _ _ _ _ _ _ _ _ _ _ _ _ _ _ _ _ _ _ _ _ _ _ _ _ _ _ _ _ _ _ _ _ _ _ _ _ _ _ _ _ _ _ _ _ _ _ _ _ _ _ _ _ _ _ _ _ _ _ _ _ _ _ _ _ _ _ _ _ _ _ _ _ _ _ _ _ _ _ _ _ _ _ _ _ _ _ _ _ _ _ _ _ _ _ _ _ _ _ _ _ _ _ _ _ _ _ _ _ _ _ _ _ _ _ _ _ _ _ _ _ _ _ _ _ _ _ _ _ _ _ _ _ _ _ _ _ _ _ _ _ _ _ _ _ _ _ _ _ h5
        · rcases Nat.lt_or_ge (D ii + 1) m with hmd2 | hmd2
          · --@m
            have hRv := HSES.out.more HLOG.out hii rfl hmd2
            rw [HRE.out] at hRv
            subst hRv
            have hcl : sigP cl5 = sigP cl := HS5.out.trans (acSt_no (by rw [HRE.out]))
            have HI7 := Lib.hid (show OnceI (sigP cl5) C N2 D nums true by rw [hcl]; exact HI2.out)
            clear hcl HRE
            dsimp only
            go_wp2_with fail
            refine And.right (hend _ _ _ _ _ _ _ _ _ _ _ _ _ _ _ _ _ _ _ _ _ _ _ _ _ _ _ _ _ _ _ _ _ _ _ _ _ _ _ _ _ _ _ _ _ _ _ _ _ _ _ _ _ _ _ _ _ _ _ _ _ _ _ _ _ _ _ _ _ _ _ _ _ _ _ _ _ _ _ _ _ _ _ _ _ _ _ _ _ _ _ _ _ _ _ _ _ _ _ _ _ _ _ _ _ _ _ _ _ _ _ _ _ _ _ _ _ _ _ _ _ _ _ _ _ _ _ _ _ _ _ _ _ _ _ _ _ _ _ _ _ _ _ _ _ _ _ _ _ _ _ _ _ _ _ _ _ _ _ _ _ _ _ _ _ _ _ _ _ _ _ _ _ _ _ (OR5.mk HNL2 HO5 HI7 HLS))
          · --@n
            obtain ⟨hRv, -⟩ := HSES.out.new (by rw [show D ii + 1 = m by omega]; exact HLOG.out) hii rfl (by have := (HI2.out.good ii hii).dle; have := HLS.out ii hii; omega)
            rw [HRE.out] at hRv
            subst hRv
            dsimp only
            apply_assumption
            refine once_new hR0 HW hn10 hr60 hi8 hii hm1 hm10 hml HLS HLOG HGF HNL2 HI2 HQ5 HRO5 HO5 HS5 (by omega) ?_
            intros
            rename_i h5
            exact hend _ _ _ _ _ _ _ _ _ _ _ _ _ _ _ _ _ _ _ _ _ _ _ _ _ _ _ _ _ _ _ _ _ _ _ _ _ _ _ _ _ _ _ _ _ _ _ _ _ _ _ _ _ _ _ _ _ _ _ _ _ _ _ _ _ _ _ _ _ _ _ _ _ _ _ _ _ _ _ _ _ _ _ _ _ _ _ _ _ _ _ _ _ _ _ _ _ _ _ _ _ _ _ _ _ _ _ _ _ _ _ _ _ _ _ _ _ _ _ _ _ _ _ _ _ _ _ _ _ _ _ _ _ _ _ _ _ _ _ _ _ _ _ _ _ _ _ _ _ _ _ _ _ _ _ _ _ _ _ _ _ _ _ _ _ _ _ _ _ _ _ _ _ _ _ h5
end Go.Proofs.Ytompkpleiichaaa
