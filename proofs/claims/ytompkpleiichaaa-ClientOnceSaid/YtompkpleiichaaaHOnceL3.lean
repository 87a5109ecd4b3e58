/- ClientOnce: loop 3: requests are sent and sent again. -/
import Derived.Test.YtompkpleiichaaaHG38
import Derived.Deep.DeepCutAuto

namespace Go.Proofs.Ytompkpleiichaaa
open Go.ChangeShapes Go.WideShapes Go.ChangeAt Go.RowKit Go.ChangeMaps

set_option maxRecDepth 1000000 in
set_option maxHeartbeats 100000000 in
theorem once_loop3 {W : World} {A0 : Option Addr} {n0 c0 : Nat} {gs mb gp capp gd n round nN c : Nat} {A : Option Addr} {cl : List Cl} {C : Nat → Cll} {N : List Rq} {D : Nat → Nat} {nums : Nat → List Nat}
    {c1 c2 c3 c7 c8 c16 c17 c18 c19 c20 c21 c22 c23 c24 c25 c26 c27 c28 c29 c30 c31 c32 c33 c34 c35 c36 c37 c38 c39 c40 c41 c42 c43 c44 c45 c46 c47 c48 c49 c50 c51 c52 c53 c54 c55 c56 c57 c58 c59 c60 c61 c62 c63 c64 c102 c103 c104 c105 c106 c107 c108 c109 c110 c111 c112 c113 c114 c115 c116 c117 c118 c119 c120 c121 c122 c123 c124 c125 c126 c127 c128 c129 c130 c131 c132 c133 c134 c135 c136 c137 c138 c139 c140 c141 c142 c143 c144 c145 c146 c147 c148 c149 c150 c151 c152 c153 c154 c155 c156 c157 c158 c159 c160 c161 c162 c163 c164 c165 c166 c167 c168 c169 c170 c171 c172 c173 c174 c175 c176 c177 c178 c179 c180 c181 c182 c183 c184 c185 c186 c187 c188 c189 c190 c191 c192 c193 c194 c195 c196 c197 c198 c199 c200 c201 c202 c203 c204 c205 c206 c207 c208 c209 c210 c211 c212 c213 c214 c215 c216 c217 c218 c219 c220 c221 c222 c223 c224 c225 c226 c227 c228 c229 c230 c231 c232 c233 c234 c235 c236 c237 c238 c239 c240 c241 c242 c243 c244 c245 c246 c247 c248 c249 c250 c251 c252 c253 c254 c255 c256 c257 c258 c259 c260 c261 c262 c263 c264 c265 c266 c267 c268 c269 c270 c271 c272 c273 c274 c275 c276 c277 c278 c279 c280 c281 c282 c283 c284 c285 c286 c287 c288 c289 c290 c291 c292 c293 c294 c295 c296 c297 c298 c299 c300 c301 c302 c303 c304 c305 c306 c307 c308 c309 c310 c311 c312 c313 c314 c315 c316 c317 c318 c319 c320 c321 c322 c323 c324 c325 c326 c327 c328 c329 c330 c331 c332 c333 c334 c335 c336 c337 c338 c339 c340 c341 c342 c343 c344 c345 c346 c347 c348 c349 c350 c351 c352 c353 c354 c355 c356 c357 c358 c359 c360 c361 c362 c363 c364 c365 c366 c367 c368 c369 u4 u14 u15 u65 u66 u67 u68 u69 u70 u71 u72 u73 u74 u75 u76 u77 u78 u79 u80 u81 u82 u83 u84 u85 u86 u87 u88 u89 u90 u91 u92 u93 u94 u95 u96 u97 u98 u99 u100 u101 : Value} {Q : Exit → Act → World → Prop} {w : World}
    (hn10 : n ≤ 10) (hr60 : round < 60) (hnN : nN ≤ 20 * round) (HNL : Hid (N.length = nN)) (HO : Hid (Once W w gs mb cl C (.slice (some ⟨gp, 0, none⟩) 2 capp) (.slice A nN c) N gd D)) (HI : Hid (OnceI (sigP cl) C N D nums true)) (HL : Hid (∀ i, i < 2 → (C i).last = min round n))
    (hexit : ∀ (x4 x11 x13 x14 x15 x65 x66 x67 x68 x69 x70 x71 x72 x73 x74 x75 x76 x77 x78 x79 x80 x81 x82 x83 x84 x85 x86 x87 x88 x89 x90 x91 x92 x93 x94 x95 x96 x97 x98 x99 x100 x101 : Value) (w' : World), OR6 W gs mb gp capp gd n round x11 w' → Q (.exit 4) ⟨List.toArray (.slice A0 n0 c0 :: c1 :: c2 :: c3 :: x4 :: .pointer (some ⟨gs, 0, none⟩) :: .slice (some ⟨gp, 0, none⟩) 2 capp :: c7 :: c8 :: .int .i64 (n : Int) :: .pointer (some ⟨gd, 0, none⟩) :: x11 :: .int .i64 (round : Int) :: x13 :: x14 :: x15 :: c16 :: c17 :: c18 :: c19 :: c20 :: c21 :: c22 :: c23 :: c24 :: c25 :: c26 :: c27 :: c28 :: c29 :: c30 :: c31 :: c32 :: c33 :: c34 :: c35 :: c36 :: c37 :: c38 :: c39 :: c40 :: c41 :: c42 :: c43 :: c44 :: c45 :: c46 :: c47 :: c48 :: c49 :: c50 :: c51 :: c52 :: c53 :: c54 :: c55 :: c56 :: c57 :: c58 :: c59 :: c60 :: c61 :: c62 :: c63 :: c64 :: x65 :: x66 :: x67 :: x68 :: x69 :: x70 :: x71 :: x72 :: x73 :: x74 :: x75 :: x76 :: x77 :: x78 :: x79 :: x80 :: x81 :: x82 :: x83 :: x84 :: x85 :: x86 :: x87 :: x88 :: x89 :: x90 :: x91 :: x92 :: x93 :: x94 :: x95 :: x96 :: x97 :: x98 :: x99 :: x100 :: x101 :: c102 :: c103 :: c104 :: c105 :: c106 :: c107 :: c108 :: c109 :: c110 :: c111 :: c112 :: c113 :: c114 :: c115 :: c116 :: c117 :: c118 :: c119 :: c120 :: c121 :: c122 :: c123 :: c124 :: c125 :: c126 :: c127 :: c128 :: c129 :: c130 :: c131 :: c132 :: c133 :: c134 :: c135 :: c136 :: c137 :: c138 :: c139 :: c140 :: c141 :: c142 :: c143 :: c144 :: c145 :: c146 :: c147 :: c148 :: c149 :: c150 :: c151 :: c152 :: c153 :: c154 :: c155 :: c156 :: c157 :: c158 :: c159 :: c160 :: c161 :: c162 :: c163 :: c164 :: c165 :: c166 :: c167 :: c168 :: c169 :: c170 :: c171 :: c172 :: c173 :: c174 :: c175 :: c176 :: c177 :: c178 :: c179 :: c180 :: c181 :: c182 :: c183 :: c184 :: c185 :: c186 :: c187 :: c188 :: c189 :: c190 :: c191 :: c192 :: c193 :: c194 :: c195 :: c196 :: c197 :: c198 :: c199 :: c200 :: c201 :: c202 :: c203 :: c204 :: c205 :: c206 :: c207 :: c208 :: c209 :: c210 :: c211 :: c212 :: c213 :: c214 :: c215 :: c216 :: c217 :: c218 :: c219 :: c220 :: c221 :: c222 :: c223 :: c224 :: c225 :: c226 :: c227 :: c228 :: c229 :: c230 :: c231 :: c232 :: c233 :: c234 :: c235 :: c236 :: c237 :: c238 :: c239 :: c240 :: c241 :: c242 :: c243 :: c244 :: c245 :: c246 :: c247 :: c248 :: c249 :: c250 :: c251 :: c252 :: c253 :: c254 :: c255 :: c256 :: c257 :: c258 :: c259 :: c260 :: c261 :: c262 :: c263 :: c264 :: c265 :: c266 :: c267 :: c268 :: c269 :: c270 :: c271 :: c272 :: c273 :: c274 :: c275 :: c276 :: c277 :: c278 :: c279 :: c280 :: c281 :: c282 :: c283 :: c284 :: c285 :: c286 :: c287 :: c288 :: c289 :: c290 :: c291 :: c292 :: c293 :: c294 :: c295 :: c296 :: c297 :: c298 :: c299 :: c300 :: c301 :: c302 :: c303 :: c304 :: c305 :: c306 :: c307 :: c308 :: c309 :: c310 :: c311 :: c312 :: c313 :: c314 :: c315 :: c316 :: c317 :: c318 :: c319 :: c320 :: c321 :: c322 :: c323 :: c324 :: c325 :: c326 :: c327 :: c328 :: c329 :: c330 :: c331 :: c332 :: c333 :: c334 :: c335 :: c336 :: c337 :: c338 :: c339 :: c340 :: c341 :: c342 :: c343 :: c344 :: c345 :: c346 :: c347 :: c348 :: c349 :: c350 :: c351 :: c352 :: c353 :: c354 :: c355 :: c356 :: c357 :: c358 :: c359 :: c360 :: c361 :: c362 :: c363 :: c364 :: c365 :: c366 :: c367 :: c368 :: c369 :: []), []⟩ w') :
    Code.wp Try.prog (Code.loop (nthLoop Try.f6 2)) Q ⟨List.toArray (.slice A0 n0 c0 :: c1 :: c2 :: c3 :: u4 :: .pointer (some ⟨gs, 0, none⟩) :: .slice (some ⟨gp, 0, none⟩) 2 capp :: c7 :: c8 :: .int .i64 (n : Int) :: .pointer (some ⟨gd, 0, none⟩) :: .slice A nN c :: .int .i64 (round : Int) :: .int .i64 0 :: u14 :: u15 :: c16 :: c17 :: c18 :: c19 :: c20 :: c21 :: c22 :: c23 :: c24 :: c25 :: c26 :: c27 :: c28 :: c29 :: c30 :: c31 :: c32 :: c33 :: c34 :: c35 :: c36 :: c37 :: c38 :: c39 :: c40 :: c41 :: c42 :: c43 :: c44 :: c45 :: c46 :: c47 :: c48 :: c49 :: c50 :: c51 :: c52 :: c53 :: c54 :: c55 :: c56 :: c57 :: c58 :: c59 :: c60 :: c61 :: c62 :: c63 :: c64 :: u65 :: u66 :: u67 :: u68 :: u69 :: u70 :: u71 :: u72 :: u73 :: u74 :: u75 :: u76 :: u77 :: u78 :: u79 :: u80 :: u81 :: u82 :: u83 :: u84 :: u85 :: u86 :: u87 :: u88 :: u89 :: u90 :: u91 :: u92 :: u93 :: u94 :: u95 :: u96 :: u97 :: u98 :: u99 :: u100 :: u101 :: c102 :: c103 :: c104 :: c105 :: c106 :: c107 :: c108 :: c109 :: c110 :: c111 :: c112 :: c113 :: c114 :: c115 :: c116 :: c117 :: c118 :: c119 :: c120 :: c121 :: c122 :: c123 :: c124 :: c125 :: c126 :: c127 :: c128 :: c129 :: c130 :: c131 :: c132 :: c133 :: c134 :: c135 :: c136 :: c137 :: c138 :: c139 :: c140 :: c141 :: c142 :: c143 :: c144 :: c145 :: c146 :: c147 :: c148 :: c149 :: c150 :: c151 :: c152 :: c153 :: c154 :: c155 :: c156 :: c157 :: c158 :: c159 :: c160 :: c161 :: c162 :: c163 :: c164 :: c165 :: c166 :: c167 :: c168 :: c169 :: c170 :: c171 :: c172 :: c173 :: c174 :: c175 :: c176 :: c177 :: c178 :: c179 :: c180 :: c181 :: c182 :: c183 :: c184 :: c185 :: c186 :: c187 :: c188 :: c189 :: c190 :: c191 :: c192 :: c193 :: c194 :: c195 :: c196 :: c197 :: c198 :: c199 :: c200 :: c201 :: c202 :: c203 :: c204 :: c205 :: c206 :: c207 :: c208 :: c209 :: c210 :: c211 :: c212 :: c213 :: c214 :: c215 :: c216 :: c217 :: c218 :: c219 :: c220 :: c221 :: c222 :: c223 :: c224 :: c225 :: c226 :: c227 :: c228 :: c229 :: c230 :: c231 :: c232 :: c233 :: c234 :: c235 :: c236 :: c237 :: c238 :: c239 :: c240 :: c241 :: c242 :: c243 :: c244 :: c245 :: c246 :: c247 :: c248 :: c249 :: c250 :: c251 :: c252 :: c253 :: c254 :: c255 :: c256 :: c257 :: c258 :: c259 :: c260 :: c261 :: c262 :: c263 :: c264 :: c265 :: c266 :: c267 :: c268 :: c269 :: c270 :: c271 :: c272 :: c273 :: c274 :: c275 :: c276 :: c277 :: c278 :: c279 :: c280 :: c281 :: c282 :: c283 :: c284 :: c285 :: c286 :: c287 :: c288 :: c289 :: c290 :: c291 :: c292 :: c293 :: c294 :: c295 :: c296 :: c297 :: c298 :: c299 :: c300 :: c301 :: c302 :: c303 :: c304 :: c305 :: c306 :: c307 :: c308 :: c309 :: c310 :: c311 :: c312 :: c313 :: c314 :: c315 :: c316 :: c317 :: c318 :: c319 :: c320 :: c321 :: c322 :: c323 :: c324 :: c325 :: c326 :: c327 :: c328 :: c329 :: c330 :: c331 :: c332 :: c333 :: c334 :: c335 :: c336 :: c337 :: c338 :: c339 :: c340 :: c341 :: c342 :: c343 :: c344 :: c345 :: c346 :: c347 :: c348 :: c349 :: c350 :: c351 :: c352 :: c353 :: c354 :: c355 :: c356 :: c357 :: c358 :: c359 :: c360 :: c361 :: c362 :: c363 :: c364 :: c365 :: c366 :: c367 :: c368 :: c369 :: []), []⟩ w := by
  conv => arg 2; arg 1; whnf
  go_loopw [11, 13] (fun v iv ws => ∃ (k nN : Nat) (C : Nat → Cll) (N : List Rq) (nums : Nat → List Nat), k ≤ 2 ∧ nN ≤ 20 * round + 10 * k ∧ iv = .int .i64 (k : Int) ∧ (∃ A c, v = .slice A nN c) ∧ Hid (N.length = nN) ∧ Hid (Once W ws gs mb cl C (.slice (some ⟨gp, 0, none⟩) 2 capp) v N gd D) ∧ Hid (OnceI (sigP cl) C N D nums true) ∧ Hid (∀ i, i < 2 → (C i).last = if i < k then min (round + 1) n else min round n)) (fun _ iv _ => 2 - (intOf iv).toNat)
  case atStart => exact ⟨0, nN, C, N, nums, by omega, by omega, rfl, ⟨_, _, rfl⟩, HNL, HO, HI, Lib.hid (fun i hi => by rw [HL.out i hi, if_neg (by omega)])⟩
  case round =>
    clear HNL HO HI HL
    obtain ⟨k, nN, C, N, nums, hk, hnN, rfl, ⟨A, c, rfl⟩, HNL, HO, HI, HL⟩ := hrel
    by_cases hk2 : k < 2
    · skip
      have hkI : (k : Int) < 2 := by omega
      have hk0 : (0 : Int) ≤ (k : Int) := by omega
      obtain ⟨gp', capp', hvp, hcp⟩ := HO.out.sys.row
      injection hvp with hvp _ hcc
      clear hcc
      injection hvp with hvp
      injection hvp with hvp
      subst hvp
      have hck := hcp k hk2
      clear hcp
      by_cases hrn : round < n
      · have hrnI : (round : Int) < (n : Int) := by omega
        --@4
        have hb4 := (Below.refl wr.heap.size wr).alloc (Nat.le_refl _) (.cells #[.int .u8 ((round : Int) + 1), .int .u8 (k : Int)] 5)
        have hB4 : Bts (wr.alloc (.cells #[.int .u8 ((round : Int) + 1), .int .u8 (k : Int)] 5)) (some ⟨wr.heap.size, 0, none⟩) 2 2 (bsL k (round + 1)) := by
          rw [show ((round : Int) + 1) = ((round + 1 : Nat) : Int) by omega]
          exact Bts.lit2 wr (round + 1) k (by omega) (by omega)
        have hO4 := HO.out.all hb4
        have hlk : (C k).last = round := by rw [HL.out k hk2, if_neg (by omega)]; omega
        have HLK := Lib.hid hlk
        have hgood := HI.out.good k hk2
        have hopl : (C k).op.length ≤ round := by have := hgood.len; omega
        have HSE := Lib.hid (show sendErr (C k).op.length (bsL k (round + 1)).length = 0 by unfold sendErr; rw [rq_bsLen, if_neg (by omega)])
        have HC4 := Lib.hid (show CallAt (wr.alloc (.cells #[.int .u8 ((round : Int) + 1), .int .u8 (k : Int)] 5)) 89 32 (C k).g ((k : Int) + 1) ((k : Int) + 5) (round : Int) (C k).rv (C k).op by
          have := hO4.sys.call k hk2
          unfold Cll.At at this
          rw [hlk] at this
          exact this)
        clear hlk hgood
        go_wp2_with fail
        refine (sendP_any (C k).g ((k : Int) + 1) ((k : Int) + 5) (round : Int) (C k).rv (C k).op _ 2 2 (bsL k (round + 1)) _ HC4 (by omega) (by omega) (Lib.hid hB4)).mono ?_
        rintro e w5 ⟨r2, rv5, op5, rfl, hok5, hlog5, hops5, hC5, hm5, hrv5⟩
        rw [HSE.out]
        have hsl : sendLast (round : Int) (C k).op.length (bsL k (round + 1)).length = ((round + 1 : Nat) : Int) := by unfold sendLast; rw [rq_bsLen, if_neg (by omega)]; omega
        rw [hsl] at hC5
        have hO5 := hO4.toCall (c' := ⟨(C k).g, round + 1, rv5, op5⟩) hk2 hC5 rfl hm5 (CallF.grow hrv5)
        have HI5 := Lib.hid (HI.out.send (c' := ⟨(C k).g, round + 1, rv5, op5⟩) hk2 HLK.out (by omega) rfl hops5)
        have hnum : r2.num = (round : Int) + 1 := by
          have : r2.log.2.1 = (round : Int) + 1 := by rw [hlog5]; unfold sendLog; rw [rq_bsLen, if_neg (by omega)]
          exact this
        have hb6 := (Below.refl w5.heap.size w5).alloc (Nat.le_refl _) (.cells #[.int .i64 r2.cl, .int .i64 r2.num, .slice r2.A r2.n r2.c, .int .u64 r2.tag] 32)
        have hO6 := hO5.all hb6
        have HO6 := Lib.hid hO6
        obtain ⟨gp', capp', hvp, hcp⟩ := hO6.sys.row
        injection hvp with hvp _ hcc
        clear hcc
        injection hvp with hvp
        injection hvp with hvp
        subst hvp
        have hck6 := hcp k hk2
        have hck6' : (w5.alloc (.cells #[.int .i64 r2.cl, .int .i64 r2.num, .slice r2.A r2.n r2.c, .int .u64 r2.tag] 32)).cell? ⟨gp, k, none⟩ = some (.pointer (some ⟨(C k).g, 0, none⟩)) := by rw [hck6]; unfold updN; rw [if_pos rfl]
        have HL6 := Lib.hid (show ∀ i, i < 2 → (updN C k ⟨(C k).g, round + 1, rv5, op5⟩ i).last = if i < k + 1 then min (round + 1) n else min round n from fun i hi => by
          unfold updN
          by_cases e : i = k
          · rw [if_pos e, if_pos (by omega)]; dsimp only; omega
          · rw [if_neg e, HL.out i hi]
            by_cases e2 : i < k
            · rw [if_pos e2, if_pos (by omega)]
            · rw [if_neg e2, if_neg (by omega)])
        have HA6 := Lib.hid (show (⟨(C k).g, round + 1, rv5, op5⟩ : Cll).At (w5.alloc (.cells #[.int .i64 r2.cl, .int .i64 r2.num, .slice r2.A r2.n r2.c, .int .u64 r2.tag] 32)) k from by
          have := hO6.sys.call k hk2
          unfold updN at this
          rw [if_pos rfl] at this
          exact this)
        have hnb : (r2.num != (round : Int) + 1) = false := by rw [hnum]; simp
        have hop5 : op5.length ≤ 10 := by
          have := (HI5.out.good k hk2).len
          unfold updN at this
          rw [if_pos rfl] at this
          dsimp only at this
          omega
        clear hb4 hB4 hO4 hO5 hO6 hb6 hcp hck hck6 hlog5 hops5 hC5 hm5 hrv5 hsl hnum hok5 HC4 HSE HO HI HL hopl HLK
        obtain ⟨C6, hC6⟩ : ∃ C6, updN C k ⟨(C k).g, round + 1, rv5, op5⟩ = C6 := ⟨_, rfl⟩
        obtain ⟨nums6, hnums6⟩ : ∃ nums6, updN nums k (nums k ++ [round + 1]) = nums6 := ⟨_, rfl⟩
        have HCK := Lib.hid (show C6 k = ⟨(C k).g, round + 1, rv5, op5⟩ by rw [← hC6]; unfold updN; rw [if_pos rfl])
        rw [hC6] at HO6 HI5 HL6
        rw [hnums6] at HI5
        clear hC6 hnums6
        generalize (C k).g = gk at *
        go_wp2_with fail
        refine (again_any gk ((k : Int) + 1) ((k : Int) + 5) ((round + 1 : Nat) : Int) rv5 op5 _ (Lib.hid HA6.out) (by omega)).mono ?_
        rintro e w7 ⟨A7, c7, l, rfl, hll, hown7, hok7, hb7⟩
        have hO7 := HO6.out.all hb7
        have HI7 := Lib.hid (HI5.out.addNet (l := l) hk2 (by rw [HCK.out]; exact hll))
        have HLL := Lib.hid (show l.length = op5.length by rw [← List.length_map (f := Rq.log), hll, List.length_map])
        have hnet := hO7.net
        rw [HNL.out] at hnet
        have HNET := Lib.hid hnet
        have HOK7 := Lib.hid hok7
        have HO7 := Lib.hid hO7
        have HROW := Lib.hid (RowT.of_own hown7)
        clear hnet hok7 hO7 hown7 hb7 hll HO6 HI5 HA6 hck6'
        go_wp2_with (at_builtin; refine wpList_appendRows slT_req rfl rfl rfl rfl HNET.out (l.flatMap Rq.cells) HROW.out (by rw [flat_length Rq.cells 4 Rq.cells_length, HLL.out]) (rq_one _) (by omega) (by decide) (Nat.zero_le _) ?_; intro A8 cap8 w8 hown8 hg8 hat8)
        have HO8 := Lib.hid (HO7.out.addNet HOK7.out (n := nN + op5.length) (by rw [HNL.out, HLL.out]) hown8 hg8 hat8)
        exact ⟨⟨k + 1, nN + op5.length, C6, N ++ l, nums6, by omega, by omega, by go_num, ⟨_, _, rfl⟩, Lib.hid (by rw [List.length_append, HNL.out, HLL.out]), HO8, HI7, HL6⟩, by simp [intOf]; omega⟩
      · have hrnI : ¬ ((round : Int) < (n : Int)) := by omega
        obtain ⟨ck, hckk⟩ : ∃ ck, C k = ck := ⟨_, rfl⟩
        have HCK := Lib.hid hckk
        have HA6 : Hid (ck.At wr k) := Lib.hid (hckk ▸ HO.out.sys.call k hk2)
        have HO6 := HO
        have HI5 := HI
        have hop5 : ck.op.length ≤ 10 := by
          have := (HI.out.good k hk2).len
          have h2 := HL.out k hk2
          rw [if_neg (by omega)] at h2
          rw [hckk] at this h2
          omega
        have HL6 := Lib.hid (show ∀ i, i < 2 → (C i).last = if i < k + 1 then min (round + 1) n else min round n from fun i hi => by
          rw [HL.out i hi]
          by_cases e : i < k
          · rw [if_pos e, if_pos (by omega)]
          · rw [if_neg e]
            by_cases e2 : i < k + 1
            · rw [if_pos e2]; omega
            · rw [if_neg e2])
        rw [hckk] at hck
        clear hckk HO HI HL
        obtain ⟨gk, lastk, rvk, opk⟩ := ck
        dsimp only at hck hop5
        go_wp2_with fail
        refine (again_any gk ((k : Int) + 1) ((k : Int) + 5) ((lastk : Nat) : Int) rvk opk _ (Lib.hid HA6.out) (by omega)).mono ?_
        rintro e w7 ⟨A7, c7, l, rfl, hll, hown7, hok7, hb7⟩
        have hO7 := HO6.out.all hb7
        have HI7 := Lib.hid (HI5.out.addNet (l := l) hk2 (by rw [HCK.out]; exact hll))
        have HLL := Lib.hid (show l.length = opk.length by rw [← List.length_map (f := Rq.log), hll, List.length_map])
        have hnet := hO7.net
        rw [HNL.out] at hnet
        have HNET := Lib.hid hnet
        have HOK7 := Lib.hid hok7
        have HO7 := Lib.hid hO7
        have HROW := Lib.hid (RowT.of_own hown7)
        clear hnet hok7 hO7 hown7 hb7 hll HO6 HI5 HA6 hck
        go_wp2_with (at_builtin; refine wpList_appendRows slT_req rfl rfl rfl rfl HNET.out (l.flatMap Rq.cells) HROW.out (by rw [flat_length Rq.cells 4 Rq.cells_length, HLL.out]) (rq_one _) (by omega) (by decide) (Nat.zero_le _) ?_; intro A8 cap8 w8 hown8 hg8 hat8)
        have HO8 := Lib.hid (HO7.out.addNet HOK7.out (n := nN + opk.length) (by rw [HNL.out, HLL.out]) hown8 hg8 hat8)
        exact ⟨⟨k + 1, nN + opk.length, C, N ++ l, nums, by omega, by omega, by go_num, ⟨_, _, rfl⟩, Lib.hid (by rw [List.length_append, HNL.out, HLL.out]), HO8, HI7, HL6⟩, by simp [intOf]; omega⟩
    · obtain rfl : k = 2 := by omega
      have HL2 := Lib.hid (show ∀ i, i < 2 → (C i).last = min (round + 1) n from fun i hi => (HL.out i hi).trans (if_pos hi))
      go_wp2_with fail
      exact OR6.mk (by omega) (OR5.mk HNL HO HI HL2)
end Go.Proofs.Ytompkpleiichaaa
