/- BookSettles: loop 4: the balances of each account. -/
import Derived.Test.YtlcalajehnaenaaGreatDoorHG43
namespace Go.Proofs.YtlcalajehnaenaaGreatDoor
open Go.ChangeShapes Go.WideShapes Go.ChangeAt Go.RowKit Go.ChangeMaps
set_option maxRecDepth 1000000 in
set_option maxHeartbeats 100000000 in
theorem bs_loop4 {W w : World} {gb gA gg gi co i : Nat} {Ao At : Option Addr} {l : List OpP} {ts T : List Trd} {b : BkS} {g : Int → Int} {S : LSt}
 (hi24 : i ≤ 24) (HLEN : Hid (b.os.length ≤ i)) (HP : Hid (BsJ (mxOf itemsI) i (i : Int) b T T.length g S)) (HJ : Hid (BsM True W gb gA gg gi (mxOf itemsI) Ao l At ts [] b g (rOf b.os T) S w))
 {c0 c1 c3 c4 c6 c8 c9 c10 c11 c15 c16 c17 c18 c19 c20 c21 c22 c23 c24 c25 c26 c27 c33 c34 c35 c36 c37 c38 c39 c40 c41 c42 c43 c44 c45 c46 c47 c48 c49 c50 c51 c52 c53 c54 c55 c56 c57 c58 c59 c60 c61 c62 c63 c64 c65 c66 c67 c68 c69 c70 c71 c72 c73 c74 c75 c76 c77 c78 c79 c80 c81 c82 c83 c84 c85 c86 c87 c88 c89 c90 c91 c92 c93 c94 c95 c96 c97 c98 c99 c100 c101 c102 c103 c104 c105 c106 c107 c108 c109 c110 c111 c112 c113 c114 c115 c116 c117 c118 c119 c120 c121 c122 c123 c124 c125 c126 c127 c128 c129 c130 c131 c132 c133 c134 c135 c136 c137 c138 c139 c140 c141 c142 c143 c144 c145 c146 c147 c148 c149 c150 c151 c152 c153 c154 c155 c156 c157 c158 c159 c160 c161 c162 c163 c164 c165 c166 c167 c168 c169 c170 c171 c172 c173 c174 c175 c176 c177 c178 c179 c180 c181 c182 c183 c184 c185 c186 c187 c188 c189 c190 c191 c192 c193 c194 c195 c196 c197 c198 c199 c200 c201 c202 c203 c204 c205 c206 c207 c208 c209 c210 c211 c212 c213 c214 c215 c216 c217 c218 c219 c220 c221 c222 c223 c224 c225 c226 c227 c228 c229 c230 c231 c232 c233 c234 c235 c236 c237 c238 c239 c240 c241 c242 c243 c244 c245 c246 c247 c248 c249 c250 c251 c252 c253 c254 c255 c256 c257 c258 c259 c260 c261 c262 c263 c264 c265 c266 c267 c268 c347 c348 c349 c350 c351 c352 c353 c354 c355 c356 c357 u2 u29 u30 u31 u32 u269 u270 u271 u272 u273 u274 u275 u276 u277 u278 u279 u280 u281 u282 u283 u284 u285 u286 u287 u288 u289 u290 u291 u292 u293 u294 u295 u296 u297 u298 u299 u300 u301 u302 u303 u304 u305 u306 u307 u308 u309 u310 u311 u312 u313 u314 u315 u316 u317 u318 u319 u320 u321 u322 u323 u324 u325 u326 u327 u328 u329 u330 u331 u332 u333 u334 u335 u336 u337 u338 u339 u340 u341 u342 u343 u344 u345 u346 : Value} {Q : Exit → Act → World → Prop} (hpan : ∀ (c : _) (a : Act) (d : Option Tmp) (v : Value) (w : World), Q (.panic c) (a.put d v) w → Q (.panic c) a w)
 (hexit : ∀ (x2 x28 x29 x30 x31 x32 x269 x270 x271 x272 x273 x274 x275 x276 x277 x278 x279 x280 x281 x282 x283 x284 x285 x286 x287 x288 x289 x290 x291 x292 x293 x294 x295 x296 x297 x298 x299 x300 x301 x302 x303 x304 x305 x306 x307 x308 x309 x310 x311 x312 x313 x314 x315 x316 x317 x318 x319 x320 x321 x322 x323 x324 x325 x326 x327 x328 x329 x330 x331 x332 x333 x334 x335 x336 x337 x338 x339 x340 x341 x342 x343 x344 x345 x346 : Value) (w' : World), Hid (BsM True W gb gA gg gi (mxOf itemsI) Ao l At ts [] b g (rOf b.os T) S w') → Q (.exit 6) ⟨List.toArray (c0 :: c1 :: x2 :: c3 :: c4 :: .pointer (some ⟨gA, 0, none⟩) :: c6 :: .pointer (some ⟨gb, 0, none⟩) :: c8 :: c9 :: c10 :: c11 :: .pointer (some ⟨gg, 0, none⟩) :: .pointer (some ⟨gi, 0, none⟩) :: .slice Ao i co :: c15 :: c16 :: c17 :: c18 :: c19 :: c20 :: c21 :: c22 :: c23 :: c24 :: c25 :: c26 :: c27 :: x28 :: x29 :: x30 :: x31 :: x32 :: c33 :: c34 :: c35 :: c36 :: c37 :: c38 :: c39 :: c40 :: c41 :: c42 :: c43 :: c44 :: c45 :: c46 :: c47 :: c48 :: c49 :: c50 :: c51 :: c52 :: c53 :: c54 :: c55 :: c56 :: c57 :: c58 :: c59 :: c60 :: c61 :: c62 :: c63 :: c64 :: c65 :: c66 :: c67 :: c68 :: c69 :: c70 :: c71 :: c72 :: c73 :: c74 :: c75 :: c76 :: c77 :: c78 :: c79 :: c80 :: c81 :: c82 :: c83 :: c84 :: c85 :: c86 :: c87 :: c88 :: c89 :: c90 :: c91 :: c92 :: c93 :: c94 :: c95 :: c96 :: c97 :: c98 :: c99 :: c100 :: c101 :: c102 :: c103 :: c104 :: c105 :: c106 :: c107 :: c108 :: c109 :: c110 :: c111 :: c112 :: c113 :: c114 :: c115 :: c116 :: c117 :: c118 :: c119 :: c120 :: c121 :: c122 :: c123 :: c124 :: c125 :: c126 :: c127 :: c128 :: c129 :: c130 :: c131 :: c132 :: c133 :: c134 :: c135 :: c136 :: c137 :: c138 :: c139 :: c140 :: c141 :: c142 :: c143 :: c144 :: c145 :: c146 :: c147 :: c148 :: c149 :: c150 :: c151 :: c152 :: c153 :: c154 :: c155 :: c156 :: c157 :: c158 :: c159 :: c160 :: c161 :: c162 :: c163 :: c164 :: c165 :: c166 :: c167 :: c168 :: c169 :: c170 :: c171 :: c172 :: c173 :: c174 :: c175 :: c176 :: c177 :: c178 :: c179 :: c180 :: c181 :: c182 :: c183 :: c184 :: c185 :: c186 :: c187 :: c188 :: c189 :: c190 :: c191 :: c192 :: c193 :: c194 :: c195 :: c196 :: c197 :: c198 :: c199 :: c200 :: c201 :: c202 :: c203 :: c204 :: c205 :: c206 :: c207 :: c208 :: c209 :: c210 :: c211 :: c212 :: c213 :: c214 :: c215 :: c216 :: c217 :: c218 :: c219 :: c220 :: c221 :: c222 :: c223 :: c224 :: c225 :: c226 :: c227 :: c228 :: c229 :: c230 :: c231 :: c232 :: c233 :: c234 :: c235 :: c236 :: c237 :: c238 :: c239 :: c240 :: c241 :: c242 :: c243 :: c244 :: c245 :: c246 :: c247 :: c248 :: c249 :: c250 :: c251 :: c252 :: c253 :: c254 :: c255 :: c256 :: c257 :: c258 :: c259 :: c260 :: c261 :: c262 :: c263 :: c264 :: c265 :: c266 :: c267 :: c268 :: x269 :: x270 :: x271 :: x272 :: x273 :: x274 :: x275 :: x276 :: x277 :: x278 :: x279 :: x280 :: x281 :: x282 :: x283 :: x284 :: x285 :: x286 :: x287 :: x288 :: x289 :: x290 :: x291 :: x292 :: x293 :: x294 :: x295 :: x296 :: x297 :: x298 :: x299 :: x300 :: x301 :: x302 :: x303 :: x304 :: x305 :: x306 :: x307 :: x308 :: x309 :: x310 :: x311 :: x312 :: x313 :: x314 :: x315 :: x316 :: x317 :: x318 :: x319 :: x320 :: x321 :: x322 :: x323 :: x324 :: x325 :: x326 :: x327 :: x328 :: x329 :: x330 :: x331 :: x332 :: x333 :: x334 :: x335 :: x336 :: x337 :: x338 :: x339 :: x340 :: x341 :: x342 :: x343 :: x344 :: x345 :: x346 :: c347 :: c348 :: c349 :: c350 :: c351 :: c352 :: c353 :: c354 :: c355 :: c356 :: c357 :: []), []⟩ w') :
 Code.wp Tryz.prog (Code.loop (nthLoop Tryz.f3 3)) Q ⟨List.toArray (c0 :: c1 :: u2 :: c3 :: c4 :: .pointer (some ⟨gA, 0, none⟩) :: c6 :: .pointer (some ⟨gb, 0, none⟩) :: c8 :: c9 :: c10 :: c11 :: .pointer (some ⟨gg, 0, none⟩) :: .pointer (some ⟨gi, 0, none⟩) :: .slice Ao i co :: c15 :: c16 :: c17 :: c18 :: c19 :: c20 :: c21 :: c22 :: c23 :: c24 :: c25 :: c26 :: c27 :: .int .i64 1 :: u29 :: u30 :: u31 :: u32 :: c33 :: c34 :: c35 :: c36 :: c37 :: c38 :: c39 :: c40 :: c41 :: c42 :: c43 :: c44 :: c45 :: c46 :: c47 :: c48 :: c49 :: c50 :: c51 :: c52 :: c53 :: c54 :: c55 :: c56 :: c57 :: c58 :: c59 :: c60 :: c61 :: c62 :: c63 :: c64 :: c65 :: c66 :: c67 :: c68 :: c69 :: c70 :: c71 :: c72 :: c73 :: c74 :: c75 :: c76 :: c77 :: c78 :: c79 :: c80 :: c81 :: c82 :: c83 :: c84 :: c85 :: c86 :: c87 :: c88 :: c89 :: c90 :: c91 :: c92 :: c93 :: c94 :: c95 :: c96 :: c97 :: c98 :: c99 :: c100 :: c101 :: c102 :: c103 :: c104 :: c105 :: c106 :: c107 :: c108 :: c109 :: c110 :: c111 :: c112 :: c113 :: c114 :: c115 :: c116 :: c117 :: c118 :: c119 :: c120 :: c121 :: c122 :: c123 :: c124 :: c125 :: c126 :: c127 :: c128 :: c129 :: c130 :: c131 :: c132 :: c133 :: c134 :: c135 :: c136 :: c137 :: c138 :: c139 :: c140 :: c141 :: c142 :: c143 :: c144 :: c145 :: c146 :: c147 :: c148 :: c149 :: c150 :: c151 :: c152 :: c153 :: c154 :: c155 :: c156 :: c157 :: c158 :: c159 :: c160 :: c161 :: c162 :: c163 :: c164 :: c165 :: c166 :: c167 :: c168 :: c169 :: c170 :: c171 :: c172 :: c173 :: c174 :: c175 :: c176 :: c177 :: c178 :: c179 :: c180 :: c181 :: c182 :: c183 :: c184 :: c185 :: c186 :: c187 :: c188 :: c189 :: c190 :: c191 :: c192 :: c193 :: c194 :: c195 :: c196 :: c197 :: c198 :: c199 :: c200 :: c201 :: c202 :: c203 :: c204 :: c205 :: c206 :: c207 :: c208 :: c209 :: c210 :: c211 :: c212 :: c213 :: c214 :: c215 :: c216 :: c217 :: c218 :: c219 :: c220 :: c221 :: c222 :: c223 :: c224 :: c225 :: c226 :: c227 :: c228 :: c229 :: c230 :: c231 :: c232 :: c233 :: c234 :: c235 :: c236 :: c237 :: c238 :: c239 :: c240 :: c241 :: c242 :: c243 :: c244 :: c245 :: c246 :: c247 :: c248 :: c249 :: c250 :: c251 :: c252 :: c253 :: c254 :: c255 :: c256 :: c257 :: c258 :: c259 :: c260 :: c261 :: c262 :: c263 :: c264 :: c265 :: c266 :: c267 :: c268 :: u269 :: u270 :: u271 :: u272 :: u273 :: u274 :: u275 :: u276 :: u277 :: u278 :: u279 :: u280 :: u281 :: u282 :: u283 :: u284 :: u285 :: u286 :: u287 :: u288 :: u289 :: u290 :: u291 :: u292 :: u293 :: u294 :: u295 :: u296 :: u297 :: u298 :: u299 :: u300 :: u301 :: u302 :: u303 :: u304 :: u305 :: u306 :: u307 :: u308 :: u309 :: u310 :: u311 :: u312 :: u313 :: u314 :: u315 :: u316 :: u317 :: u318 :: u319 :: u320 :: u321 :: u322 :: u323 :: u324 :: u325 :: u326 :: u327 :: u328 :: u329 :: u330 :: u331 :: u332 :: u333 :: u334 :: u335 :: u336 :: u337 :: u338 :: u339 :: u340 :: u341 :: u342 :: u343 :: u344 :: u345 :: u346 :: c347 :: c348 :: c349 :: c350 :: c351 :: c352 :: c353 :: c354 :: c355 :: c356 :: c357 :: []), []⟩ w := by
 conv => arg 2; arg 1; whnf
 go_loopg [28, 29, 30, 31, 32] 4 (fun gk v28 _v29 _v30 _v31 _v32 wr => ∃ j : Nat, j + gk = 4 ∧ v28 = .int .i64 ((j : Int) + 1) ∧ Hid (BsM True W gb gA gg gi (mxOf itemsI) Ao l At ts [] b g (rOf b.os T) S wr))
 case atStart => exact ⟨0, by omega, rfl, HJ⟩
 case round =>
  clear HJ
  obtain ⟨j, hj, rfl, HJ⟩ := hrel
  have HHJ := Lib.hid hj
  rcases Nat.lt_or_ge j 4 with hlj | hgj
  ·have hle : (j : Int) + 1 ≤ 4 := by omega
   have hj0 : (0 : Int) ≤ (j : Int) := by omega
   clear hj
   go_wp2_with fail
   go_loopg [29, 30, 31, 32] i (fun gk v29 v30 _v31 _v32 wr => ∃ k : Nat, k + gk = i ∧ v30 = .int .i64 (k : Int) ∧ v29 = .int .i64 (sF b.os ((j : Int) + 1) (min k b.os.length)) ∧ Hid (BsM True W gb gA gg gi (mxOf itemsI) Ao l At ts [] b g (rOf b.os T) S wr))
   case atStart => exact ⟨0, by omega, rfl, by rw [Nat.zero_min]; rfl, HJ⟩
   case round =>
    clear HJ
    obtain ⟨k, hk, rfl, rfl, HJ⟩ := hrel
    have HHK := Lib.hid hk
    rcases Nat.lt_or_ge k i with hlk | hgk
    ·have hkI : (k : Int) < (i : Int) := by omega
     have hk0 : (0 : Int) ≤ (k : Int) := by omega
     have hget := bs_get (k : Int) HJ
     clear hk
     rcases Nat.lt_or_ge k b.os.length with hkb | hkb
     ·rw [getO_in hk0 (by omega), hasO_in hk0 (by omega), Int.toNat_natCast] at hget
      have hrng := HP.out.ok.rng k hkb
      have hbd := sF_bd HP.out.ok ((j : Int) + 1) k (by omega)
      have hsu : ∀ a, sF b.os a (k + 1) = sF b.os a k + sgnO (ordAt b.os k) a ((ordAt b.os k).n - (ordAt b.os k).left) := fun a => rfl
      rw [show min k b.os.length = k by omega]
      obtain ⟨o, ho⟩ : ∃ o, ordAt b.os k = o := ⟨_, rfl⟩
      rw [ho] at hget hrng
      simp only [ho] at hsu
      obtain ⟨-, -, n1, n2, l1, l2, -⟩ := hrng
      obtain ⟨q, hq⟩ : ∃ q, sF b.os ((j : Int) + 1) k = q := ⟨_, rfl⟩
      have hsq := hsu ((j : Int) + 1)
      rw [hq] at hbd hsq
      rw [hq]
      have HSQ := Lib.hid hsq
      have hbq : -26388279066624 ≤ q ∧ q ≤ 26388279066624 := by omega
      clear hsu hsq ho hq hbd
      go_wp2_with fail
      refine hget.mono ?_
      rintro e w6 ⟨rfl, hJ6, -⟩
      go_upto_region 45 with (fail)
      have hba := (Below.refl w6.heap.size w6).alloc (Nat.le_refl _) (.cells #[.int .i64 o.id, .int .i64 o.acc, .bool o.buy, .int .i64 o.price, .int .i64 o.n, .int .i64 o.left] 55)
      have kba := Blk.new w6 55 #[.int .i64 o.id, .int .i64 o.acc, .bool o.buy, .int .i64 o.price, .int .i64 o.n, .int .i64 o.left]
      obtain ⟨w7, hw7⟩ : ∃ w7, w6.alloc (.cells #[.int .i64 o.id, .int .i64 o.acc, .bool o.buy, .int .i64 o.price, .int .i64 o.n, .int .i64 o.left] 55) = w7 := ⟨_, rfl⟩
      rw [hw7] at hba kba
      try rw [hw7]
      have HJ7 := Lib.hid (hJ6.all hba)
      obtain ⟨gy, hgy⟩ : ∃ gy, w6.heap.size = gy := ⟨_, rfl⟩
      rw [hgy] at kba
      try rw [hgy]
      have o1 : w7.cell? ⟨gy, 1, none⟩ = some (.int .i64 o.acc) := kba.cell 1
      have o2 : w7.cell? ⟨gy, 2, none⟩ = some (.bool o.buy) := kba.cell 2
      have o4 : w7.cell? ⟨gy, 4, none⟩ = some (.int .i64 o.n) := kba.cell 4
      have o5 : w7.cell? ⟨gy, 5, none⟩ = some (.int .i64 o.left) := kba.cell 5
      clear hget hJ6 hba kba hw7 hgy HJ
      by_cases hac : o.acc = (j : Int) + 1
      ·have HAC := Lib.hid hac
       have hab : (o.acc == (j : Int) + 1) = true := by simp [hac]
       cases hbu : o.buy
       ·have HBU := Lib.hid hbu
        rw [hbu] at o2
        clear hbu
        go_wp2_with fail
        go_roundg (i - (k + 1))
        case measure => have := HHK.out; omega
        case rel => exact ⟨k + 1, by have := HHK.out; omega, by go_num, (by
         rw [show min (k + 1) b.os.length = k + 1 by omega]
         rw [HSQ.out]; unfold sgnO; rw [if_pos HAC.out, HBU.out]; go_num), HJ7⟩
       ·have HBU := Lib.hid hbu
        rw [hbu] at o2
        clear hbu
        go_wp2_with fail
        go_roundg (i - (k + 1))
        case measure => have := HHK.out; omega
        case rel => exact ⟨k + 1, by have := HHK.out; omega, by go_num, (by
         rw [show min (k + 1) b.os.length = k + 1 by omega]
         rw [HSQ.out]; unfold sgnO; rw [if_pos HAC.out, HBU.out]; go_num), HJ7⟩
      ·have HAC := Lib.hid hac
       have hab : (o.acc == (j : Int) + 1) = false := by simp [hac]
       go_wp2_with fail
       go_roundg (i - (k + 1))
       case measure => have := HHK.out; omega
       case rel => exact ⟨k + 1, by have := HHK.out; omega, by go_num, (by
        rw [show min (k + 1) b.os.length = k + 1 by omega]
        rw [HSQ.out]; unfold sgnO; rw [if_neg HAC.out]; go_num), HJ7⟩
     ·rw [show getO b.os (k : Int) = ord0 from if_neg (by omega), show hasO b.os (k : Int) = false by simp [hasO]; omega] at hget
      rw [show min k b.os.length = b.os.length by omega]
      go_wp2_with fail
      refine hget.mono ?_
      rintro e w6 ⟨rfl, hJ6, -⟩
      have HJ7 := Lib.hid (hJ6.all ((Below.refl w6.heap.size w6).alloc (Nat.le_refl _) (.cells #[.int .i64 0, .int .i64 0, .bool false, .int .i64 0, .int .i64 0, .int .i64 0] 55)))
      clear hget hJ6 HJ
      unfold ord0
      dsimp only
      go_wp2_with fail
      go_roundg (i - (k + 1))
      case measure => have := HHK.out; omega
      case rel => exact ⟨k + 1, by have := HHK.out; omega, by go_num, (by
       rw [show min (k + 1) b.os.length = b.os.length by omega]), HJ7⟩
    ·obtain rfl : k = i := by omega
     have hend := HP.out.end_ ((j : Int) + 1)
     rw [show min k b.os.length = b.os.length by have := HLEN.out; omega, ← hend]
     have hbal0 := HP.out.led.gold ((j : Int) + 1) (by omega) hle
     have hbal1 := HP.out.led.iron ((j : Int) + 1) (by omega) hle
     rw [List.take_length] at hbal1
     have hbd := HP.out.bounds hi24 (a := (j : Int) + 1) (by omega) hle
     rw [List.take_length] at hbd
     have HBAL0 : Hid (∀ w', Hid (BsM True W gb gA gg gi (mxOf itemsI) Ao l At ts [] b g (rOf b.os T) S w') → Calls Tryz.prog 11 #[.pointer (some ⟨gA, 0, none⟩), .int .i64 ((j : Int) + 1), .int .i64 0] w' fun e w'' => e = .returned (.int .i64 (1000000 + g ((j : Int) + 1))) ∧ BsM True W gb gA gg gi (mxOf itemsI) Ao l At ts [] b g (rOf b.os T) S w'') := Lib.hid (fun w' h => by
      have := bs_balance ((j : Int) + 1) 0 ⟨by omega, hle⟩ (by decide) h (Lib.hid HP.out.led.ok)
      rw [hbal0] at this
      exact this)
     have HBAL1 : Hid (∀ w', Hid (BsM True W gb gA gg gi (mxOf itemsI) Ao l At ts [] b g (rOf b.os T) S w') → Calls Tryz.prog 11 #[.pointer (some ⟨gA, 0, none⟩), .int .i64 ((j : Int) + 1), .int .i64 1] w' fun e w'' => e = .returned (.int .i64 (1000000 + rOf b.os T ((j : Int) + 1))) ∧ BsM True W gb gA gg gi (mxOf itemsI) Ao l At ts [] b g (rOf b.os T) S w'') := Lib.hid (fun w' h => by
      have := bs_balance ((j : Int) + 1) 1 ⟨by omega, hle⟩ (by decide) h (Lib.hid HP.out.led.ok)
      rw [hbal1] at this
      exact this)
     have HAT : Hid (∀ w', BsM True W gb gA gg gi (mxOf itemsI) Ao l At ts [] b g (rOf b.os T) S w' → w'.cell? ⟨gg, j + 1, none⟩ = some (.int .i64 (g ((j : Int) + 1))) ∧ w'.cell? ⟨gi, j + 1, none⟩ = some (.int .i64 (rOf b.os T ((j : Int) + 1)))) := Lib.hid (fun w' h => ⟨h.atG trivial (a := (j : Int) + 1) ⟨by omega, hle⟩, h.atI trivial (a := (j : Int) + 1) ⟨by omega, hle⟩⟩)
     obtain ⟨G, hG⟩ : ∃ G, g ((j : Int) + 1) = G := ⟨_, rfl⟩
     obtain ⟨R, hR⟩ : ∃ R, rOf b.os T ((j : Int) + 1) = R := ⟨_, rfl⟩
     rw [hG, hR] at hbd HAT
     rw [hG] at HBAL0
     rw [hR] at HBAL1
     rw [hR]
     have hwG : IntKind.i64.wrap (1000000 + G) = 1000000 + G := IntWalk.i64_in _ (by omega)
     have hwR : IntKind.i64.wrap (1000000 + R) = 1000000 + R := IntWalk.i64_in _ (by omega)
     have HJD : Hid (BsM True W gb gA gg gi (mxOf itemsI) Ao l At ts [] b g (rOf b.os T) S wr.drew) := Lib.hid (HJ.out.all (below_drewN (Below.refl _ _) 1))
     have hj1 : (j : Int) + 1 < 5 := by omega
     have hj2 : (0 : Int) ≤ (j : Int) + 1 := by omega
     clear hG hR hbal0 hbal1 hend hk hgk HHK hbd
     go_upto_region 49 with (fail)
     refine wp_region_held_drew (S := (fun y => y.cell? ⟨gg, j + 1, none⟩ = some (.int .i64 G) ∧ y.cell? ⟨gi, j + 1, none⟩ = some (.int .i64 R))) (by kernel_rfl) (HAT.out _ HJD.out) (fun hHeld => ?_)
     refine takeH 0 (some 322) (v := ?_) (by rfl) (by rfl) (by kernel_rfl) (by kernel_rfl) (by kernel_rfl) (fun _ _ _ h => hpan _ _ _ _ _ h) ?_ (by assumption) ?_
     rotate_left
     ·(intro o ho w hSw; obtain ⟨z0, z1⟩ := hSw; cases ho; go_simp; try with_reducible rfl)
     try simp only [Act.put, pB, pC, pD]
     refine takeH 1 (some 323) (v := ?_) (by rfl) (by rfl) (by kernel_rfl) (by kernel_rfl) (by kernel_rfl) (fun _ _ _ h => hpan _ _ _ _ _ h) ?_ (by assumption) ?_
     rotate_left
     ·(intro o ho w hSw; obtain ⟨z0, z1⟩ := hSw; cases ho; go_simp; try with_reducible rfl)
     try simp only [Act.put, pB, pC, pD]
     refine takeH 3 (some 325) (v := ?_) (by rfl) (by rfl) (by kernel_rfl) (by kernel_rfl) (by kernel_rfl) (fun _ _ _ h => hpan _ _ _ _ _ h) ?_ (by assumption) ?_
     rotate_left
     ·(intro o ho w hSw; obtain ⟨z0, z1⟩ := hSw; cases ho; go_simp; try with_reducible rfl)
     try simp only [Act.put, pB, pC, pD]
     refine takeH 4 (some 326) (v := ?_) (by rfl) (by rfl) (by kernel_rfl) (by kernel_rfl) (by kernel_rfl) (fun _ _ _ h => hpan _ _ _ _ _ h) ?_ (by assumption) ?_
     rotate_left
     ·(intro o ho w hSw; obtain ⟨z0, z1⟩ := hSw; cases ho; go_simp; try with_reducible rfl)
     try simp only [Act.put, pB, pC, pD]
     refine takeH 5 (some 327) (v := ?_) (by rfl) (by rfl) (by kernel_rfl) (by kernel_rfl) (by kernel_rfl) (fun _ _ _ h => hpan _ _ _ _ _ h) ?_ (by assumption) ?_
     rotate_left
     ·(intro o ho w hSw; obtain ⟨z0, z1⟩ := hSw; cases ho; go_simp; try with_reducible rfl)
     try simp only [Act.put, pB, pC, pD]
     refine takeH 6 (some 328) (v := (.int .i64 (1000000 + G))) (by rfl) (by rfl) (by kernel_rfl) (by kernel_rfl) (by kernel_rfl) (fun _ _ _ h => hpan _ _ _ _ _ h) ?_ (by assumption) ?_
     skip
     ·(intro o ho w hSw; obtain ⟨z0, z1⟩ := hSw; cases ho; go_simp; try (first | rfl | (simp only [hwG, hwR]; done) | (simp [hwG, hwR]; done)))
     try simp only [Act.put, pB, pC, pD]
     refine wpAnyH_ready (rs := [2]) (by kernel_rfl) (by simp) ?_
     refine AllReadyH.cons rfl (fun K hK => ?_) AllReadyH.nil
     go_simp
     refine (HBAL0.out _ HJD).mono ?_
     rintro e wa ⟨rfl, hJA⟩
     have HJA := Lib.hid hJA
     go_wp2
     refine hK.out _ _ ?_ (fun hHeld5 => ?_)
     ·exact (HAT.out _ hJA)
     clear hK K
     try simp only [Act.put, pB, pC, pD]
     refine takeH 7 (some 329) (v := (.bool false)) (by rfl) (by rfl) (by kernel_rfl) (by kernel_rfl) (by kernel_rfl) (fun _ _ _ h => hpan _ _ _ _ _ h) ?_ (by assumption) ?_
     skip
     ·(intro o ho w hSw; obtain ⟨z0, z1⟩ := hSw; cases ho; go_simp; try (first | rfl | (simp only [hwG, hwR]; done) | (simp [hwG, hwR]; done)))
     try simp only [Act.put, pB, pC, pD]
     refine takeH 8 (some 330) (v := ?_) (by rfl) (by rfl) (by kernel_rfl) (by kernel_rfl) (by kernel_rfl) (fun _ _ _ h => hpan _ _ _ _ _ h) ?_ (by assumption) ?_
     rotate_left
     ·(intro o ho w hSw; obtain ⟨z0, z1⟩ := hSw; cases ho; go_simp; try with_reducible rfl)
     try simp only [Act.put, pB, pC, pD]
     first
     | refine skipH 9 (some 331) (by rfl) (by rfl) (by kernel_rfl) (by kernel_rfl) (by kernel_rfl) (fun _ _ _ h => hpan _ _ _ _ _ h) (by assumption) ?_
     | refine takeH 9 (some 331) (v := ?_) (by rfl) (by rfl) (by kernel_rfl) (by kernel_rfl) (by kernel_rfl) (fun _ _ _ h => hpan _ _ _ _ _ h) ?_ (by assumption) ?_
       rotate_left
       ·(intro o ho w hSw; obtain ⟨z0, z1⟩ := hSw; cases ho; go_simp; try with_reducible rfl)
     try simp only [Act.put, pB, pC, pD]
     first
     | refine skipH 10 (some 332) (by rfl) (by rfl) (by kernel_rfl) (by kernel_rfl) (by kernel_rfl) (fun _ _ _ h => hpan _ _ _ _ _ h) (by assumption) ?_
     | refine takeH 10 (some 332) (v := ?_) (by rfl) (by rfl) (by kernel_rfl) (by kernel_rfl) (by kernel_rfl) (fun _ _ _ h => hpan _ _ _ _ _ h) ?_ (by assumption) ?_
       rotate_left
       ·(intro o ho w hSw; obtain ⟨z0, z1⟩ := hSw; cases ho; go_simp; try with_reducible rfl)
     try simp only [Act.put, pB, pC, pD]
     first
     | refine skipH 12 (some 334) (by rfl) (by rfl) (by kernel_rfl) (by kernel_rfl) (by kernel_rfl) (fun _ _ _ h => hpan _ _ _ _ _ h) (by assumption) ?_
     | refine takeH 12 (some 334) (v := ?_) (by rfl) (by rfl) (by kernel_rfl) (by kernel_rfl) (by kernel_rfl) (fun _ _ _ h => hpan _ _ _ _ _ h) ?_ (by assumption) ?_
       rotate_left
       ·(intro o ho w hSw; obtain ⟨z0, z1⟩ := hSw; cases ho; go_simp; try with_reducible rfl)
     try simp only [Act.put, pB, pC, pD]
     first
     | refine skipH 13 (some 335) (by rfl) (by rfl) (by kernel_rfl) (by kernel_rfl) (by kernel_rfl) (fun _ _ _ h => hpan _ _ _ _ _ h) (by assumption) ?_
     | refine takeH 13 (some 335) (v := ?_) (by rfl) (by rfl) (by kernel_rfl) (by kernel_rfl) (by kernel_rfl) (fun _ _ _ h => hpan _ _ _ _ _ h) ?_ (by assumption) ?_
       rotate_left
       ·(intro o ho w hSw; obtain ⟨z0, z1⟩ := hSw; cases ho; go_simp; try with_reducible rfl)
     try simp only [Act.put, pB, pC, pD]
     first
     | refine skipH 14 (some 336) (by rfl) (by rfl) (by kernel_rfl) (by kernel_rfl) (by kernel_rfl) (fun _ _ _ h => hpan _ _ _ _ _ h) (by assumption) ?_
     | refine takeH 14 (some 336) (v := ?_) (by rfl) (by rfl) (by kernel_rfl) (by kernel_rfl) (by kernel_rfl) (fun _ _ _ h => hpan _ _ _ _ _ h) ?_ (by assumption) ?_
       rotate_left
       ·(intro o ho w hSw; obtain ⟨z0, z1⟩ := hSw; cases ho; go_simp; try with_reducible rfl)
     try simp only [Act.put, pB, pC, pD]
     first
     | refine skipH 15 (some 337) (by rfl) (by rfl) (by kernel_rfl) (by kernel_rfl) (by kernel_rfl) (fun _ _ _ h => hpan _ _ _ _ _ h) (by assumption) ?_
     | refine takeH 15 (some 337) (v := (.int .i64 (1000000 + R))) (by rfl) (by rfl) (by kernel_rfl) (by kernel_rfl) (by kernel_rfl) (fun _ _ _ h => hpan _ _ _ _ _ h) ?_ (by assumption) ?_
       skip
       ·(intro o ho w hSw; obtain ⟨z0, z1⟩ := hSw; cases ho; go_simp; try (first | rfl | (simp only [hwG, hwR]; done) | (simp [hwG, hwR]; done)))
     try simp only [Act.put, pB, pC, pD]
     refine wpAnyH_ready (rs := [11]) (by kernel_rfl) (by simp) ?_
     refine AllReadyH.cons rfl (fun K hK => ?_) AllReadyH.nil
     go_simp
     refine (HBAL1.out _ HJA).mono ?_
     rintro e wb ⟨rfl, hJB⟩
     have HJB := Lib.hid hJB
     go_wp2
     refine hK.out _ _ ?_ (fun hHeld5 => ?_)
     ·exact (HAT.out _ hJB)
     clear hK K
     try simp only [Act.put, pB, pC, pD]
     first
     | refine skipH 16 (some 338) (by rfl) (by rfl) (by kernel_rfl) (by kernel_rfl) (by kernel_rfl) (fun _ _ _ h => hpan _ _ _ _ _ h) (by assumption) ?_
     | refine takeH 16 (some 338) (v := (.bool false)) (by rfl) (by rfl) (by kernel_rfl) (by kernel_rfl) (by kernel_rfl) (fun _ _ _ h => hpan _ _ _ _ _ h) ?_ (by assumption) ?_
       skip
       ·(intro o ho w hSw; obtain ⟨z0, z1⟩ := hSw; cases ho; go_simp; try (first | rfl | (simp only [hwG, hwR]; done) | (simp [hwG, hwR]; done)))
     try simp only [Act.put, pB, pC, pD]
     refine takeH 17 (some 339) (v := (.bool false)) (by rfl) (by rfl) (by kernel_rfl) (by kernel_rfl) (by kernel_rfl) (fun _ _ _ h => hpan _ _ _ _ _ h) ?_ (by assumption) ?_
     skip
     ·(intro o ho w hSw; obtain ⟨z0, z1⟩ := hSw; cases ho; go_simp; try (first | rfl | (simp only [hwG, hwR]; done) | (simp [hwG, hwR]; done)))
     try simp only [Act.put, pB, pC, pD]
     refine takeH 18 (some 340) (v := ?_) (by rfl) (by rfl) (by kernel_rfl) (by kernel_rfl) (by kernel_rfl) (fun _ _ _ h => hpan _ _ _ _ _ h) ?_ (by assumption) ?_
     rotate_left
     ·(intro o ho w hSw; obtain ⟨z0, z1⟩ := hSw; cases ho; go_simp; try with_reducible rfl)
     try simp only [Act.put, pB, pC, pD]
     first
     | refine skipH 19 (some 341) (by rfl) (by rfl) (by kernel_rfl) (by kernel_rfl) (by kernel_rfl) (fun _ _ _ h => hpan _ _ _ _ _ h) (by assumption) ?_
     | refine takeH 19 (some 341) (v := ?_) (by rfl) (by rfl) (by kernel_rfl) (by kernel_rfl) (by kernel_rfl) (fun _ _ _ h => hpan _ _ _ _ _ h) ?_ (by assumption) ?_
       rotate_left
       ·(intro o ho w hSw; obtain ⟨z0, z1⟩ := hSw; cases ho; go_simp; try with_reducible rfl)
     try simp only [Act.put, pB, pC, pD]
     first
     | refine skipH 20 (some 342) (by rfl) (by rfl) (by kernel_rfl) (by kernel_rfl) (by kernel_rfl) (fun _ _ _ h => hpan _ _ _ _ _ h) (by assumption) ?_
     | refine takeH 20 (some 342) (v := ?_) (by rfl) (by rfl) (by kernel_rfl) (by kernel_rfl) (by kernel_rfl) (fun _ _ _ h => hpan _ _ _ _ _ h) ?_ (by assumption) ?_
       rotate_left
       ·(intro o ho w hSw; obtain ⟨z0, z1⟩ := hSw; cases ho; go_simp; try with_reducible rfl)
     try simp only [Act.put, pB, pC, pD]
     first
     | refine skipH 21 (some 343) (by rfl) (by rfl) (by kernel_rfl) (by kernel_rfl) (by kernel_rfl) (fun _ _ _ h => hpan _ _ _ _ _ h) (by assumption) ?_
     | refine takeH 21 (some 343) (v := ?_) (by rfl) (by rfl) (by kernel_rfl) (by kernel_rfl) (by kernel_rfl) (fun _ _ _ h => hpan _ _ _ _ _ h) ?_ (by assumption) ?_
       rotate_left
       ·(intro o ho w hSw; obtain ⟨z0, z1⟩ := hSw; cases ho; go_simp; try with_reducible rfl)
     try simp only [Act.put, pB, pC, pD]
     first
     | refine skipH 22 (some 344) (by rfl) (by rfl) (by kernel_rfl) (by kernel_rfl) (by kernel_rfl) (fun _ _ _ h => hpan _ _ _ _ _ h) (by assumption) ?_
     | refine takeH 22 (some 344) (v := ?_) (by rfl) (by rfl) (by kernel_rfl) (by kernel_rfl) (by kernel_rfl) (fun _ _ _ h => hpan _ _ _ _ _ h) ?_ (by assumption) ?_
       rotate_left
       ·(intro o ho w hSw; obtain ⟨z0, z1⟩ := hSw; cases ho; go_simp; try with_reducible rfl)
     try simp only [Act.put, pB, pC, pD]
     first
     | refine skipH 23 (some 345) (by rfl) (by rfl) (by kernel_rfl) (by kernel_rfl) (by kernel_rfl) (fun _ _ _ h => hpan _ _ _ _ _ h) (by assumption) ?_
     | refine takeH 23 (some 345) (v := (.bool false)) (by rfl) (by rfl) (by kernel_rfl) (by kernel_rfl) (by kernel_rfl) (fun _ _ _ h => hpan _ _ _ _ _ h) ?_ (by assumption) ?_
       skip
       ·(intro o ho w hSw; obtain ⟨z0, z1⟩ := hSw; cases ho; go_simp; try (first | rfl | (simp only [hwG, hwR]; done) | (simp [hwG, hwR]; done)))
     try simp only [Act.put, pB, pC, pD]
     refine takeH 24 (some 346) (v := (.bool false)) (by rfl) (by rfl) (by kernel_rfl) (by kernel_rfl) (by kernel_rfl) (fun _ _ _ h => hpan _ _ _ _ _ h) ?_ (by assumption) ?_
     skip
     ·(intro o ho w hSw; obtain ⟨z0, z1⟩ := hSw; cases ho; go_simp; try (first | rfl | (simp only [hwG, hwR]; done) | (simp [hwG, hwR]; done)))
     try simp only [Act.put, pB, pC, pD]
     refine wpAnyH_done (by kernel_rfl) ?_ _
     go_wp2_with fail
     go_roundg (4 - (j + 1))
     case measure => have := HHJ.out; omega
     case rel => exact ⟨j + 1, by have := HHJ.out; omega, by go_num, HJB⟩
  ·obtain rfl : j = 4 := by omega
   clear hj HHJ hgj
   go_wp2_with fail
   exact HJ
end Go.Proofs.YtlcalajehnaenaaGreatDoor
