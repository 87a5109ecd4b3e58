/- BookSettles: loop 3: the trades of one order are posted. -/
import Derived.Test.YtlcalajehnaenaaGreatDoorHBsV
import Derived.Test.YtlcalajehnaenaaGreatDoorHBsS
namespace Go.Proofs.YtlcalajehnaenaaGreatDoor
open Go.ChangeShapes Go.WideShapes Go.ChangeAt Go.RowKit Go.ChangeMaps
set_option maxRecDepth 1000000 in
set_option maxHeartbeats 100000000 in
theorem bs_loop3 {W w : World} {gb gA gg gi gx qo oo tk c5 i : Nat} {A5 : Option Addr} {l : List OpP} {us T : List Trd} {x : OpP} {b' : BkS} {g : Int → Int} {S : LSt}
 (hi24 : i < 24) (HTK : Hid (us.length = tk)) (HP5 : Hid (BsJ (mxOf itemsI) (i + 1) (i : Int) b' (T ++ us) T.length g S)) (HJ5 : Hid (BsM True W gb gA gg gi (mxOf itemsI) (some ⟨qo, oo, none⟩) l A5 us [(gx, 50, #[.int .i64 x.kind, .int .i64 x.acc, .bool x.buy, .int .i64 x.price, .int .i64 x.n, .int .i64 x.id])] b' g (rOf b'.os ((T ++ us).take T.length)) S w))
 {c0 c1 c3 c4 c6 c8 c9 c10 c11 c14 c16 c17 c19 c28 c29 c30 c31 c32 c33 c34 c35 c36 c37 c38 c39 c40 c41 c42 c43 c44 c45 c46 c47 c48 c49 c50 c51 c52 c53 c54 c55 c56 c57 c58 c59 c60 c61 c62 c63 c64 c65 c66 c67 c68 c69 c70 c71 c72 c73 c74 c75 c76 c77 c78 c79 c80 c81 c82 c83 c84 c85 c86 c87 c88 c89 c90 c91 c92 c93 c94 c95 c96 c97 c98 c99 c100 c101 c102 c103 c104 c105 c106 c107 c108 c109 c110 c111 c112 c113 c114 c115 c116 c117 c118 c119 c120 c269 c270 c271 c272 c273 c274 c275 c276 c277 c278 c279 c280 c281 c282 c283 c284 c285 c286 c287 c288 c289 c290 c291 c292 c293 c294 c295 c296 c297 c298 c299 c300 c301 c302 c303 c304 c305 c306 c307 c308 c309 c310 c311 c312 c313 c314 c315 c316 c317 c318 c319 c320 c321 c322 c323 c324 c325 c326 c327 c328 c329 c330 c331 c332 c333 c334 c335 c336 c337 c338 c339 c340 c341 c342 c343 c344 c345 c346 c347 c348 c349 c350 c351 c352 c353 c354 c355 c356 c357 u2 u21 u22 u23 u24 u25 u26 u27 u121 u122 u123 u124 u125 u126 u127 u128 u129 u130 u131 u132 u133 u134 u135 u136 u137 u138 u139 u140 u141 u142 u143 u144 u145 u146 u147 u148 u149 u150 u151 u152 u153 u154 u155 u156 u157 u158 u159 u160 u161 u162 u163 u164 u165 u166 u167 u168 u169 u170 u171 u172 u173 u174 u175 u176 u177 u178 u179 u180 u181 u182 u183 u184 u185 u186 u187 u188 u189 u190 u191 u192 u193 u194 u195 u196 u197 u198 u199 u200 u201 u202 u203 u204 u205 u206 u207 u208 u209 u210 u211 u212 u213 u214 u215 u216 u217 u218 u219 u220 u221 u222 u223 u224 u225 u226 u227 u228 u229 u230 u231 u232 u233 u234 u235 u236 u237 u238 u239 u240 u241 u242 u243 u244 u245 u246 u247 u248 u249 u250 u251 u252 u253 u254 u255 u256 u257 u258 u259 u260 u261 u262 u263 u264 u265 u266 u267 u268 : Value} {Q : Exit → Act → World → Prop}
 (hexit : ∀ (x2 x20 x21 x22 x23 x24 x25 x26 x27 x121 x122 x123 x124 x125 x126 x127 x128 x129 x130 x131 x132 x133 x134 x135 x136 x137 x138 x139 x140 x141 x142 x143 x144 x145 x146 x147 x148 x149 x150 x151 x152 x153 x154 x155 x156 x157 x158 x159 x160 x161 x162 x163 x164 x165 x166 x167 x168 x169 x170 x171 x172 x173 x174 x175 x176 x177 x178 x179 x180 x181 x182 x183 x184 x185 x186 x187 x188 x189 x190 x191 x192 x193 x194 x195 x196 x197 x198 x199 x200 x201 x202 x203 x204 x205 x206 x207 x208 x209 x210 x211 x212 x213 x214 x215 x216 x217 x218 x219 x220 x221 x222 x223 x224 x225 x226 x227 x228 x229 x230 x231 x232 x233 x234 x235 x236 x237 x238 x239 x240 x241 x242 x243 x244 x245 x246 x247 x248 x249 x250 x251 x252 x253 x254 x255 x256 x257 x258 x259 x260 x261 x262 x263 x264 x265 x266 x267 x268 : Value) (w' : World), (∃ (g' : Int → Int) (S' : LSt), Hid (BsJ (mxOf itemsI) (i + 1) ((i + 1 : Nat) : Int) b' (T ++ us) (T ++ us).length g' S') ∧ Hid (BsM True W gb gA gg gi (mxOf itemsI) (some ⟨qo, oo, none⟩) l A5 us [] b' g' (rOf b'.os (T ++ us)) S' w')) → Q (.exit 4) ⟨List.toArray (c0 :: c1 :: x2 :: c3 :: c4 :: .pointer (some ⟨gA, 0, none⟩) :: c6 :: .pointer (some ⟨gb, 0, none⟩) :: c8 :: c9 :: c10 :: c11 :: .pointer (some ⟨gg, 0, none⟩) :: .pointer (some ⟨gi, 0, none⟩) :: c14 :: .int .i64 (i : Int) :: c16 :: c17 :: .slice A5 tk c5 :: c19 :: x20 :: x21 :: x22 :: x23 :: x24 :: x25 :: x26 :: x27 :: c28 :: c29 :: c30 :: c31 :: c32 :: c33 :: c34 :: c35 :: c36 :: c37 :: c38 :: c39 :: c40 :: c41 :: c42 :: c43 :: c44 :: c45 :: c46 :: c47 :: c48 :: c49 :: c50 :: c51 :: c52 :: c53 :: c54 :: c55 :: c56 :: c57 :: c58 :: c59 :: c60 :: c61 :: c62 :: c63 :: c64 :: c65 :: c66 :: c67 :: c68 :: c69 :: c70 :: c71 :: c72 :: c73 :: c74 :: c75 :: c76 :: c77 :: c78 :: c79 :: c80 :: c81 :: c82 :: c83 :: c84 :: c85 :: c86 :: c87 :: c88 :: c89 :: c90 :: c91 :: c92 :: c93 :: c94 :: c95 :: c96 :: c97 :: c98 :: c99 :: c100 :: c101 :: c102 :: c103 :: c104 :: c105 :: c106 :: c107 :: c108 :: c109 :: c110 :: c111 :: c112 :: c113 :: c114 :: c115 :: c116 :: c117 :: c118 :: c119 :: c120 :: x121 :: x122 :: x123 :: x124 :: x125 :: x126 :: x127 :: x128 :: x129 :: x130 :: x131 :: x132 :: x133 :: x134 :: x135 :: x136 :: x137 :: x138 :: x139 :: x140 :: x141 :: x142 :: x143 :: x144 :: x145 :: x146 :: x147 :: x148 :: x149 :: x150 :: x151 :: x152 :: x153 :: x154 :: x155 :: x156 :: x157 :: x158 :: x159 :: x160 :: x161 :: x162 :: x163 :: x164 :: x165 :: x166 :: x167 :: x168 :: x169 :: x170 :: x171 :: x172 :: x173 :: x174 :: x175 :: x176 :: x177 :: x178 :: x179 :: x180 :: x181 :: x182 :: x183 :: x184 :: x185 :: x186 :: x187 :: x188 :: x189 :: x190 :: x191 :: x192 :: x193 :: x194 :: x195 :: x196 :: x197 :: x198 :: x199 :: x200 :: x201 :: x202 :: x203 :: x204 :: x205 :: x206 :: x207 :: x208 :: x209 :: x210 :: x211 :: x212 :: x213 :: x214 :: x215 :: x216 :: x217 :: x218 :: x219 :: x220 :: x221 :: x222 :: x223 :: x224 :: x225 :: x226 :: x227 :: x228 :: x229 :: x230 :: x231 :: x232 :: x233 :: x234 :: x235 :: x236 :: x237 :: x238 :: x239 :: x240 :: x241 :: x242 :: x243 :: x244 :: x245 :: x246 :: x247 :: x248 :: x249 :: x250 :: x251 :: x252 :: x253 :: x254 :: x255 :: x256 :: x257 :: x258 :: x259 :: x260 :: x261 :: x262 :: x263 :: x264 :: x265 :: x266 :: x267 :: x268 :: c269 :: c270 :: c271 :: c272 :: c273 :: c274 :: c275 :: c276 :: c277 :: c278 :: c279 :: c280 :: c281 :: c282 :: c283 :: c284 :: c285 :: c286 :: c287 :: c288 :: c289 :: c290 :: c291 :: c292 :: c293 :: c294 :: c295 :: c296 :: c297 :: c298 :: c299 :: c300 :: c301 :: c302 :: c303 :: c304 :: c305 :: c306 :: c307 :: c308 :: c309 :: c310 :: c311 :: c312 :: c313 :: c314 :: c315 :: c316 :: c317 :: c318 :: c319 :: c320 :: c321 :: c322 :: c323 :: c324 :: c325 :: c326 :: c327 :: c328 :: c329 :: c330 :: c331 :: c332 :: c333 :: c334 :: c335 :: c336 :: c337 :: c338 :: c339 :: c340 :: c341 :: c342 :: c343 :: c344 :: c345 :: c346 :: c347 :: c348 :: c349 :: c350 :: c351 :: c352 :: c353 :: c354 :: c355 :: c356 :: c357 :: []), []⟩ w') :
 Code.wp Tryz.prog (Code.loop (nthLoop Tryz.f3 2)) Q ⟨List.toArray (c0 :: c1 :: u2 :: c3 :: c4 :: .pointer (some ⟨gA, 0, none⟩) :: c6 :: .pointer (some ⟨gb, 0, none⟩) :: c8 :: c9 :: c10 :: c11 :: .pointer (some ⟨gg, 0, none⟩) :: .pointer (some ⟨gi, 0, none⟩) :: c14 :: .int .i64 (i : Int) :: c16 :: c17 :: .slice A5 tk c5 :: c19 :: .int .i64 0 :: u21 :: u22 :: u23 :: u24 :: u25 :: u26 :: u27 :: c28 :: c29 :: c30 :: c31 :: c32 :: c33 :: c34 :: c35 :: c36 :: c37 :: c38 :: c39 :: c40 :: c41 :: c42 :: c43 :: c44 :: c45 :: c46 :: c47 :: c48 :: c49 :: c50 :: c51 :: c52 :: c53 :: c54 :: c55 :: c56 :: c57 :: c58 :: c59 :: c60 :: c61 :: c62 :: c63 :: c64 :: c65 :: c66 :: c67 :: c68 :: c69 :: c70 :: c71 :: c72 :: c73 :: c74 :: c75 :: c76 :: c77 :: c78 :: c79 :: c80 :: c81 :: c82 :: c83 :: c84 :: c85 :: c86 :: c87 :: c88 :: c89 :: c90 :: c91 :: c92 :: c93 :: c94 :: c95 :: c96 :: c97 :: c98 :: c99 :: c100 :: c101 :: c102 :: c103 :: c104 :: c105 :: c106 :: c107 :: c108 :: c109 :: c110 :: c111 :: c112 :: c113 :: c114 :: c115 :: c116 :: c117 :: c118 :: c119 :: c120 :: u121 :: u122 :: u123 :: u124 :: u125 :: u126 :: u127 :: u128 :: u129 :: u130 :: u131 :: u132 :: u133 :: u134 :: u135 :: u136 :: u137 :: u138 :: u139 :: u140 :: u141 :: u142 :: u143 :: u144 :: u145 :: u146 :: u147 :: u148 :: u149 :: u150 :: u151 :: u152 :: u153 :: u154 :: u155 :: u156 :: u157 :: u158 :: u159 :: u160 :: u161 :: u162 :: u163 :: u164 :: u165 :: u166 :: u167 :: u168 :: u169 :: u170 :: u171 :: u172 :: u173 :: u174 :: u175 :: u176 :: u177 :: u178 :: u179 :: u180 :: u181 :: u182 :: u183 :: u184 :: u185 :: u186 :: u187 :: u188 :: u189 :: u190 :: u191 :: u192 :: u193 :: u194 :: u195 :: u196 :: u197 :: u198 :: u199 :: u200 :: u201 :: u202 :: u203 :: u204 :: u205 :: u206 :: u207 :: u208 :: u209 :: u210 :: u211 :: u212 :: u213 :: u214 :: u215 :: u216 :: u217 :: u218 :: u219 :: u220 :: u221 :: u222 :: u223 :: u224 :: u225 :: u226 :: u227 :: u228 :: u229 :: u230 :: u231 :: u232 :: u233 :: u234 :: u235 :: u236 :: u237 :: u238 :: u239 :: u240 :: u241 :: u242 :: u243 :: u244 :: u245 :: u246 :: u247 :: u248 :: u249 :: u250 :: u251 :: u252 :: u253 :: u254 :: u255 :: u256 :: u257 :: u258 :: u259 :: u260 :: u261 :: u262 :: u263 :: u264 :: u265 :: u266 :: u267 :: u268 :: c269 :: c270 :: c271 :: c272 :: c273 :: c274 :: c275 :: c276 :: c277 :: c278 :: c279 :: c280 :: c281 :: c282 :: c283 :: c284 :: c285 :: c286 :: c287 :: c288 :: c289 :: c290 :: c291 :: c292 :: c293 :: c294 :: c295 :: c296 :: c297 :: c298 :: c299 :: c300 :: c301 :: c302 :: c303 :: c304 :: c305 :: c306 :: c307 :: c308 :: c309 :: c310 :: c311 :: c312 :: c313 :: c314 :: c315 :: c316 :: c317 :: c318 :: c319 :: c320 :: c321 :: c322 :: c323 :: c324 :: c325 :: c326 :: c327 :: c328 :: c329 :: c330 :: c331 :: c332 :: c333 :: c334 :: c335 :: c336 :: c337 :: c338 :: c339 :: c340 :: c341 :: c342 :: c343 :: c344 :: c345 :: c346 :: c347 :: c348 :: c349 :: c350 :: c351 :: c352 :: c353 :: c354 :: c355 :: c356 :: c357 :: []), []⟩ w := by
 conv => arg 2; arg 1; whnf
 go_loopg [20, 21, 22, 23, 24, 25, 26, 27] tk (fun gk v20 _v21 _v22 _v23 _v24 _v25 _v26 _v27 wr => ∃ (k : Nat) (g : Int → Int) (S : LSt), k + gk = tk ∧ v20 = .int .i64 (k : Int) ∧ Hid (BsJ (mxOf itemsI) (i + 1) (i : Int) b' (T ++ us) (T.length + k) g S) ∧ Hid (BsM True W gb gA gg gi (mxOf itemsI) (some ⟨qo, oo, none⟩) l A5 us [(gx, 50, #[.int .i64 x.kind, .int .i64 x.acc, .bool x.buy, .int .i64 x.price, .int .i64 x.n, .int .i64 x.id])] b' g (rOf b'.os ((T ++ us).take (T.length + k))) S wr))
 case atStart => exact ⟨0, g, S, by omega, rfl, HP5, HJ5⟩
 case round =>
  clear HJ5 HP5
  obtain ⟨k, g, S, hk, rfl, HP, HJ⟩ := hrel
  have HHK := Lib.hid hk
  rcases Nat.lt_or_ge k tk with hlk | hgk
  ·have hkI : (k : Int) < (tk : Int) := by omega
   have hk0 : (0 : Int) ≤ (k : Int) := by omega
   clear hk
   have hku : k < us.length := by rw [HTK.out]; exact hlk
   have hcv : T.length + k < (T ++ us).length := by rw [List.length_append]; omega
   have hk6 : (k : Int) ≤ 600 := by have h2 := HP.out.tl; omega
   have hvk : (T ++ us)[T.length + k] = us[k] := by rw [List.getElem_append_right (by omega)]; simp
   obtain ⟨qt, ot, rfl, t0, -⟩ := HJ.out.tr4 hku
   have htrd := HP.out.trd (by omega) hcv
   have hpst := HP.out.post mxI (by omega) hcv
   rw [hvk] at htrd hpst
   obtain ⟨t, ht⟩ : ∃ t, us[k] = t := ⟨_, rfl⟩
   rw [ht] at t0 htrd hpst
   obtain ⟨k1, k2, k3, k4, k5, k6, k7, -, -⟩ := htrd
   have hgb := k1.b0
   have hgb1 := k1.b1
   have hgs := k1.s0
   have hgs1 := k1.s1
   have hne := k1.acc
   obtain ⟨y, hy⟩ : ∃ y, ordAt b'.os t.buy.toNat = y := ⟨_, rfl⟩
   obtain ⟨z, hz⟩ : ∃ z, ordAt b'.os t.sell.toNat = z := ⟨_, rfl⟩
   obtain ⟨p, hp⟩ : ∃ p, t.n * t.price = p := ⟨_, rfl⟩
   rw [hy] at k2 hne hpst
   rw [hz] at k3 hne hpst
   rw [hp] at k6 k7 hpst
   obtain ⟨a1, ha1⟩ : ∃ a1 : Nat, y.acc = (a1 : Int) := ⟨y.acc.toNat, by omega⟩
   obtain ⟨a2, ha2⟩ : ∃ a2 : Nat, z.acc = (a2 : Int) := ⟨z.acc.toNat, by omega⟩
   rw [ha1] at k2 hne hpst
   rw [ha2] at k3 hne hpst
   have hrr : rOf b'.os ((T ++ us).take (T.length + k + 1)) = subAt (addAt (rOf b'.os ((T ++ us).take (T.length + k))) (a1 : Int) t.n) (a2 : Int) t.n := by rw [← List.take_append_getElem hcv, rOf_snoc, hvk, ht, hy, hz, ha1, ha2]
   have HRR := Lib.hid hrr
   obtain ⟨S2, hmv, hP2⟩ := hpst
   have HMV := Lib.hid hmv
   have HP2 := Lib.hid hP2
   have HT := Lib.hid ht
   have hget1 := bs_get t.buy HJ
   rw [getO_in hgb hgb1, hasO_in hgb hgb1, hy, ha1] at hget1
   have HGET2 : Hid (∀ w' E', Hid (BsM True W gb gA gg gi (mxOf itemsI) (some ⟨qo, oo, none⟩) l (some ⟨qt, ot, none⟩) us E' b' g (rOf b'.os ((T ++ us).take (T.length + k))) S w') → Calls Tryz.prog 10 #[.pointer (some ⟨gb, 0, none⟩), .int .i64 t.sell] w' fun e w'' => e = .returned (.tuple #[.agg #[.int .i64 z.id, .int .i64 (a2 : Int), .bool z.buy, .int .i64 z.price, .int .i64 z.n, .int .i64 z.left], .bool true]) ∧ BsM True W gb gA gg gi (mxOf itemsI) (some ⟨qo, oo, none⟩) l (some ⟨qt, ot, none⟩) us E' b' g (rOf b'.os ((T ++ us).take (T.length + k))) S w'' ∧ Below w'.heap.size w' w'') := Lib.hid (fun w' E' h => by
    have := bs_get t.sell h
    rw [getO_in hgs hgs1, hasO_in hgs hgs1, hz, ha2] at this
    exact this)
   have HB1 := Lib.hid (HP.out.bounds (by omega) k2.1 k2.2)
   have HB2 := Lib.hid (HP.out.bounds (by omega) k3.1 k3.2)
   have HPP := Lib.hid hp
   have HNE := Lib.hid hne
   have HCV := Lib.hid hcv
   have hpw : p ≤ 960000 := by omega
   clear hrr hvk hmv hP2 ht k1 hgb hgb1 hgs hgs1 hy hz ha1 ha2 hp hne hcv k7
   go_wp2_with fail
   refine hget1.mono ?_
   rintro e w6 ⟨rfl, hJ6, -⟩
   clear hget1 t0
   go_upto_region 25 with (fail)
   have hba := (Below.refl w6.heap.size w6).alloc (Nat.le_refl _) (.cells #[.int .i64 y.id, .int .i64 (a1 : Int), .bool y.buy, .int .i64 y.price, .int .i64 y.n, .int .i64 y.left] 55)
   have kba := Blk.new w6 55 #[.int .i64 y.id, .int .i64 (a1 : Int), .bool y.buy, .int .i64 y.price, .int .i64 y.n, .int .i64 y.left]
   obtain ⟨w7, hw7⟩ : ∃ w7, w6.alloc (.cells #[.int .i64 y.id, .int .i64 (a1 : Int), .bool y.buy, .int .i64 y.price, .int .i64 y.n, .int .i64 y.left] 55) = w7 := ⟨_, rfl⟩
   rw [hw7] at hba kba
   try rw [hw7]
   have hJ7 := hJ6.add hba kba (Nat.le_refl _)
   obtain ⟨gy, hgy⟩ : ∃ gy, w6.heap.size = gy := ⟨_, rfl⟩
   rw [hgy] at hJ7
   try rw [hgy]
   have HJ7 := Lib.hid hJ7
   obtain ⟨-, t1, -, -⟩ := HJ7.out.tr4' hku
   rw [HT.out] at t1
   clear hba kba hw7 hgy hJ6 hJ7
   go_wp2_with fail
   refine (HGET2.out _ _ HJ7).mono ?_
   rintro e w8 ⟨rfl, hJ8, -⟩
   clear t1 HGET2
   go_upto_region 26 with (fail)
   have hba := (Below.refl w8.heap.size w8).alloc (Nat.le_refl _) (.cells #[.int .i64 z.id, .int .i64 (a2 : Int), .bool z.buy, .int .i64 z.price, .int .i64 z.n, .int .i64 z.left] 55)
   have kba := Blk.new w8 55 #[.int .i64 z.id, .int .i64 (a2 : Int), .bool z.buy, .int .i64 z.price, .int .i64 z.n, .int .i64 z.left]
   obtain ⟨w9, hw9⟩ : ∃ w9, w8.alloc (.cells #[.int .i64 z.id, .int .i64 (a2 : Int), .bool z.buy, .int .i64 z.price, .int .i64 z.n, .int .i64 z.left] 55) = w9 := ⟨_, rfl⟩
   rw [hw9] at hba kba
   try rw [hw9]
   have hJ9 := hJ8.add hba kba (Nat.le_refl _)
   obtain ⟨gz, hgz⟩ : ∃ gz, w8.heap.size = gz := ⟨_, rfl⟩
   rw [hgz] at hJ9
   try rw [hgz]
   have HJ9 := Lib.hid hJ9
   clear hba kba hw9 hgz hJ8 HJ7 hJ9
   have y1 : w9.cell? ⟨gy, 1, none⟩ = some (.int .i64 (a1 : Int)) := (HJ9.out.ex (gy, _, _) (.tail _ (.head _))).cell 1
   have z1 : w9.cell? ⟨gz, 1, none⟩ = some (.int .i64 (a2 : Int)) := (HJ9.out.ex (gz, _, _) (.head _)).cell 1
   go_upto_region 29 with (fail)
   have hbs := (Below.refl w9.heap.size w9).alloc (Nat.le_refl _) (.cells #[.int .i64 0, .int .i64 2, .int .i64 (a1 : Int), .int .i64 (i : Int), .int .i64 (-1), .int .i64 0, .slice none 0 0] 43)
   have kbs := Blk.new w9 43 #[.int .i64 0, .int .i64 2, .int .i64 (a1 : Int), .int .i64 (i : Int), .int .i64 (-1), .int .i64 0, .slice none 0 0]
   obtain ⟨w10, hw10⟩ : ∃ w10, w9.alloc (.cells #[.int .i64 0, .int .i64 2, .int .i64 (a1 : Int), .int .i64 (i : Int), .int .i64 (-1), .int .i64 0, .slice none 0 0] 43) = w10 := ⟨_, rfl⟩
   rw [hw10] at hbs kbs
   try rw [hw10]
   have hJ10 := HJ9.out.all hbs
   obtain ⟨gs, hgs⟩ : ∃ gs, w9.heap.size = gs := ⟨_, rfl⟩
   rw [hgs] at kbs hbs
   try rw [hgs]
   obtain ⟨t0, t1, t2, t3⟩ := hJ10.tr4' hku
   rw [HT.out] at t2 t3
   have y1 : w10.cell? ⟨gy, 1, none⟩ = some (.int .i64 (a1 : Int)) := (hJ10.ex (gy, _, _) (.tail _ (.head _))).cell 1
   have z1 : w10.cell? ⟨gz, 1, none⟩ = some (.int .i64 (a2 : Int)) := (hJ10.ex (gz, _, _) (.head _)).cell 1
   have s6 : (w10.alloc (.cells #[.int .i64 (a1 : Int), .int .i64 (a2 : Int), .int .i64 0, .int .i64 p, .slice none 0 0, .int .i64 (a2 : Int), .int .i64 (a1 : Int), .int .i64 1, .int .i64 t.n, .slice none 0 0] 40)).cell? ⟨gs, 6, none⟩ = some (.slice none 0 0) := (kbs.alloc _).cell 6
   have f6 : (w10.alloc (.cells #[.int .i64 (a1 : Int), .int .i64 (a2 : Int), .int .i64 0, .int .i64 p, .slice none 0 0, .int .i64 (a2 : Int), .int .i64 (a1 : Int), .int .i64 1, .int .i64 t.n, .slice none 0 0] 40)).frozen? ⟨gs, 6, none⟩ = false := (kbs.alloc _).frozen 6
   have hpm : IntKind.i64.wrap (t.n * t.price) = p := by rw [HPP.out]; exact IntWalk.i64_in _ (by omega)
   have HBS := Lib.hid hbs
   have HKS := Lib.hid kbs
   have HGS := Lib.hid hgs
   clear t0 t1 hbs kbs hw10 hgs hJ10
   refine bs_moves (n := t.n) (q := t.price) y1 z1 t2 t3 hpm hkI hk0 s6 f6 ?_
   intros
   have HPM := Lib.hid hpm
   clear y1 z1 t2 t3 s6 f6 hpm
   obtain ⟨w11, hw11⟩ : ∃ w11, ((w10.alloc (.cells #[.int .i64 (a1 : Int), .int .i64 (a2 : Int), .int .i64 0, .int .i64 p, .slice none 0 0, .int .i64 (a2 : Int), .int .i64 (a1 : Int), .int .i64 1, .int .i64 t.n, .slice none 0 0] 40)).setCell ⟨gs, 6, none⟩ (.slice (some ⟨w10.heap.size, 0, none⟩) 2 2)).drew = w11 := ⟨_, rfl⟩
   rw [hw11]
   have hgl : gs < w10.heap.size := HKS.out.lt
   have hb11 : Below w9.heap.size w9 w11 := by
    rw [← hw11, HGS.out]
    exact below_drewN ((HBS.out.alloc (by omega) _).setCell (by show gs ≤ gs; exact Nat.le_refl _) _) 1
   have ks : Blk w11 gs 43 #[.int .i64 0, .int .i64 2, .int .i64 (a1 : Int), .int .i64 (i : Int), .int .i64 (-1), .int .i64 0, .slice (some ⟨w10.heap.size, 0, none⟩) 2 2] := by
    rw [← hw11]
    exact blk_drew ((HKS.out.alloc _).set_ 6 _)
   have km : Blk w11 w10.heap.size 40 #[.int .i64 (a1 : Int), .int .i64 (a2 : Int), .int .i64 0, .int .i64 p, .slice none 0 0, .int .i64 (a2 : Int), .int .i64 (a1 : Int), .int .i64 1, .int .i64 t.n, .slice none 0 0] := by
    rw [← hw11]
    exact blk_drew ((Mod.set (F := fun x => x = gs) (Mod.refl _ _) (p := ⟨gs, 6, none⟩) (.inl rfl) _).blk (Blk.new w10 _ _) (by omega))
   have HJ11 := Lib.hid (HJ9.out.all hb11)
   have s0 : w11.cell? ⟨gs, 0, none⟩ = some (.int .i64 0) := ks.cell 0
   have s1 : w11.cell? ⟨gs, 1, none⟩ = some (.int .i64 2) := ks.cell 1
   have s2 : w11.cell? ⟨gs, 2, none⟩ = some (.int .i64 (a1 : Int)) := ks.cell 2
   have s3 : w11.cell? ⟨gs, 3, none⟩ = some (.int .i64 (i : Int)) := ks.cell 3
   have s4 : w11.cell? ⟨gs, 4, none⟩ = some (.int .i64 (-1)) := ks.cell 4
   have s5 : w11.cell? ⟨gs, 5, none⟩ = some (.int .i64 0) := ks.cell 5
   have s6 : w11.cell? ⟨gs, 6, none⟩ = some (.slice (some ⟨w10.heap.size, 0, none⟩) 2 2) := ks.cell 6
   have hpost := bs_post false (a1 : Int) (i : Int) (some ⟨w10.heap.size, 0, none⟩) (bsM (a1 : Int) (a2 : Int) 0 p) (bsM (a2 : Int) (a1 : Int) 1 t.n) S2 HJ11 (Lib.hid HP.out.led.ok) (Lib.hid (mvTwo km)) (Lib.hid (bsM_ok (by omega) (by omega) (by decide) (by omega) HNE.out)) (Lib.hid (bsM_ok (by omega) (by omega) (by decide) (by omega) (fun e => HNE.out e.symm))) (Lib.hid (by rw [if_neg (by decide)]; exact k2.1)) (Lib.hid (by rw [if_neg (by decide)]; exact k3.1)) (by omega) (by omega) (Lib.hid HP.out.led.now) (Lib.hid (by have h1 := HP.out.led.ns; have h2 := HP.out.led.nf; have h3 := HP.out.tl; have h4 := HCV.out; omega)) (Lib.hid (by show p + t.n ≤ _; omega)) HMV
   rw [show kindZ false = 2 from rfl] at hpost
   unfold stA at hpost
   clear hb11 ks km hw11 HBS HKS HGS HJ9 hgl
   have HPO := Lib.hid hpost
   have HMK := HT.out
   clear hpost
   try dsimp only
   apply_assumption
   refine bs_stores HPM.out s0 s1 s2 s3 s4 s5 s6 HPO hku hkI hk0 HT k2 k3 k6 hpw k4 HB1 HB2 HNE ?_
   clear HPO s0 s1 s2 s3 s4 s5 s6 HB1 HB2
   intros
   rename_i HJ16
   have hJ16 := HJ16.out
   rw [← HRR.out] at hJ16
   replace HJ16 := Lib.hid hJ16
   clear hJ16
   go_wp2_with fail
   go_roundg (tk - (k + 1))
   case measure => have := HHK.out; omega
   case rel => exact ⟨k + 1, _, _, by have := HHK.out; omega, by go_num, HP2, HJ16⟩
  ·obtain rfl : k = tk := by omega
   have hlen : T.length + k = (T ++ us).length := by rw [List.length_append, HTK.out]
   have hp := HP.out
   have hj := HJ.out
   rw [hlen] at hp hj
   rw [List.take_length] at hj
   have HPE := Lib.hid (hp.later (t' := ((i + 1 : Nat) : Int)) (by omega))
   have HJE := Lib.hid (hj.fewer (E' := []) (fun x hx => by cases hx))
   clear hp hj hlen HP HJ hk
   go_wp2_with fail
   exact ⟨g, S, HPE, HJE⟩
end Go.Proofs.YtlcalajehnaenaaGreatDoor
