/- ClientOnce: loop 4. -/
import Derived.Test.YtompkpleiichaaaHOnceM

namespace Go.Proofs.Ytompkpleiichaaa
open Go.ChangeShapes Go.WideShapes Go.ChangeAt Go.RowKit Go.ChangeMaps

set_option maxRecDepth 1000000 in
set_option maxHeartbeats 100000000 in
theorem once_loop4 {W : World} {A0 : Option Addr} {n0 c0 : Nat} {f0 : Nat → Int} (hR0 : Rd W W.heap.size A0 n0 (fun j => .int .i64 (f0 j))) (HW : Hid (∀ j, j < n0 → -9223372036854775808 ≤ f0 j ∧ f0 j ≤ 9223372036854775807)) {gs mb gp capp gd n round : Nat} (hn1 : 1 ≤ n) (hn10 : n ≤ 10) (hr60 : round < 60)
    {c1 c2 c3 c7 c8 c13 c14 c15 c23 c24 c25 c26 c27 c28 c29 c30 c31 c32 c33 c34 c35 c36 c37 c38 c39 c40 c41 c42 c43 c44 c45 c46 c47 c48 c49 c50 c51 c52 c53 c54 c55 c56 c57 c58 c59 c60 c61 c62 c63 c64 c65 c66 c67 c68 c69 c70 c71 c72 c73 c74 c75 c76 c77 c78 c79 c80 c81 c82 c83 c84 c85 c86 c87 c88 c89 c90 c91 c92 c93 c94 c95 c96 c97 c98 c99 c100 c101 c272 c273 c274 c275 c276 c277 c278 c279 c280 c281 c282 c283 c284 c285 c286 c287 c288 c289 c290 c291 c292 c293 c294 c295 c296 c297 c298 c299 c300 c301 c302 c303 c304 c305 c306 c307 c308 c309 c310 c311 c312 c313 c314 c315 c316 c317 c318 c319 c320 c321 c322 c323 c324 c325 c326 c327 c328 c329 c330 c331 c332 c333 c334 c335 c336 c337 c338 c339 c340 c341 c342 c343 c344 c345 c346 c347 c348 c349 c350 c351 c352 c353 c354 c355 c356 c357 c358 c359 c360 c361 c362 c363 c364 c365 c366 c367 c368 c369 u4 u11 u16 u17 u18 u19 u20 u21 u22 u102 u103 u104 u105 u106 u107 u108 u109 u110 u111 u112 u113 u114 u115 u116 u117 u118 u119 u120 u121 u122 u123 u124 u125 u126 u127 u128 u129 u130 u131 u132 u133 u134 u135 u136 u137 u138 u139 u140 u141 u142 u143 u144 u145 u146 u147 u148 u149 u150 u151 u152 u153 u154 u155 u156 u157 u158 u159 u160 u161 u162 u163 u164 u165 u166 u167 u168 u169 u170 u171 u172 u173 u174 u175 u176 u177 u178 u179 u180 u181 u182 u183 u184 u185 u186 u187 u188 u189 u190 u191 u192 u193 u194 u195 u196 u197 u198 u199 u200 u201 u202 u203 u204 u205 u206 u207 u208 u209 u210 u211 u212 u213 u214 u215 u216 u217 u218 u219 u220 u221 u222 u223 u224 u225 u226 u227 u228 u229 u230 u231 u232 u233 u234 u235 u236 u237 u238 u239 u240 u241 u242 u243 u244 u245 u246 u247 u248 u249 u250 u251 u252 u253 u254 u255 u256 u257 u258 u259 u260 u261 u262 u263 u264 u265 u266 u267 u268 u269 u270 u271 : Value} {Q : Exit → Act → World → Prop} {w : World} (hrel : OR4 W gs mb gp capp gd n round u11 u16 w)
    (hexit : ∀ (x4 x11 x16 x17 x18 x19 x20 x21 x22 x102 x103 x104 x105 x106 x107 x108 x109 x110 x111 x112 x113 x114 x115 x116 x117 x118 x119 x120 x121 x122 x123 x124 x125 x126 x127 x128 x129 x130 x131 x132 x133 x134 x135 x136 x137 x138 x139 x140 x141 x142 x143 x144 x145 x146 x147 x148 x149 x150 x151 x152 x153 x154 x155 x156 x157 x158 x159 x160 x161 x162 x163 x164 x165 x166 x167 x168 x169 x170 x171 x172 x173 x174 x175 x176 x177 x178 x179 x180 x181 x182 x183 x184 x185 x186 x187 x188 x189 x190 x191 x192 x193 x194 x195 x196 x197 x198 x199 x200 x201 x202 x203 x204 x205 x206 x207 x208 x209 x210 x211 x212 x213 x214 x215 x216 x217 x218 x219 x220 x221 x222 x223 x224 x225 x226 x227 x228 x229 x230 x231 x232 x233 x234 x235 x236 x237 x238 x239 x240 x241 x242 x243 x244 x245 x246 x247 x248 x249 x250 x251 x252 x253 x254 x255 x256 x257 x258 x259 x260 x261 x262 x263 x264 x265 x266 x267 x268 x269 x270 x271 : Value) (w' : World), OR4 W gs mb gp capp gd n round x11 x16 w' → Q (.exit 6) ⟨List.toArray (.slice A0 n0 c0 :: c1 :: c2 :: c3 :: x4 :: .pointer (some ⟨gs, 0, none⟩) :: .slice (some ⟨gp, 0, none⟩) 2 capp :: c7 :: c8 :: .int .i64 (n : Int) :: .pointer (some ⟨gd, 0, none⟩) :: x11 :: .int .i64 (round : Int) :: c13 :: c14 :: c15 :: x16 :: x17 :: x18 :: x19 :: x20 :: x21 :: x22 :: c23 :: c24 :: c25 :: c26 :: c27 :: c28 :: c29 :: c30 :: c31 :: c32 :: c33 :: c34 :: c35 :: c36 :: c37 :: c38 :: c39 :: c40 :: c41 :: c42 :: c43 :: c44 :: c45 :: c46 :: c47 :: c48 :: c49 :: c50 :: c51 :: c52 :: c53 :: c54 :: c55 :: c56 :: c57 :: c58 :: c59 :: c60 :: c61 :: c62 :: c63 :: c64 :: c65 :: c66 :: c67 :: c68 :: c69 :: c70 :: c71 :: c72 :: c73 :: c74 :: c75 :: c76 :: c77 :: c78 :: c79 :: c80 :: c81 :: c82 :: c83 :: c84 :: c85 :: c86 :: c87 :: c88 :: c89 :: c90 :: c91 :: c92 :: c93 :: c94 :: c95 :: c96 :: c97 :: c98 :: c99 :: c100 :: c101 :: x102 :: x103 :: x104 :: x105 :: x106 :: x107 :: x108 :: x109 :: x110 :: x111 :: x112 :: x113 :: x114 :: x115 :: x116 :: x117 :: x118 :: x119 :: x120 :: x121 :: x122 :: x123 :: x124 :: x125 :: x126 :: x127 :: x128 :: x129 :: x130 :: x131 :: x132 :: x133 :: x134 :: x135 :: x136 :: x137 :: x138 :: x139 :: x140 :: x141 :: x142 :: x143 :: x144 :: x145 :: x146 :: x147 :: x148 :: x149 :: x150 :: x151 :: x152 :: x153 :: x154 :: x155 :: x156 :: x157 :: x158 :: x159 :: x160 :: x161 :: x162 :: x163 :: x164 :: x165 :: x166 :: x167 :: x168 :: x169 :: x170 :: x171 :: x172 :: x173 :: x174 :: x175 :: x176 :: x177 :: x178 :: x179 :: x180 :: x181 :: x182 :: x183 :: x184 :: x185 :: x186 :: x187 :: x188 :: x189 :: x190 :: x191 :: x192 :: x193 :: x194 :: x195 :: x196 :: x197 :: x198 :: x199 :: x200 :: x201 :: x202 :: x203 :: x204 :: x205 :: x206 :: x207 :: x208 :: x209 :: x210 :: x211 :: x212 :: x213 :: x214 :: x215 :: x216 :: x217 :: x218 :: x219 :: x220 :: x221 :: x222 :: x223 :: x224 :: x225 :: x226 :: x227 :: x228 :: x229 :: x230 :: x231 :: x232 :: x233 :: x234 :: x235 :: x236 :: x237 :: x238 :: x239 :: x240 :: x241 :: x242 :: x243 :: x244 :: x245 :: x246 :: x247 :: x248 :: x249 :: x250 :: x251 :: x252 :: x253 :: x254 :: x255 :: x256 :: x257 :: x258 :: x259 :: x260 :: x261 :: x262 :: x263 :: x264 :: x265 :: x266 :: x267 :: x268 :: x269 :: x270 :: x271 :: c272 :: c273 :: c274 :: c275 :: c276 :: c277 :: c278 :: c279 :: c280 :: c281 :: c282 :: c283 :: c284 :: c285 :: c286 :: c287 :: c288 :: c289 :: c290 :: c291 :: c292 :: c293 :: c294 :: c295 :: c296 :: c297 :: c298 :: c299 :: c300 :: c301 :: c302 :: c303 :: c304 :: c305 :: c306 :: c307 :: c308 :: c309 :: c310 :: c311 :: c312 :: c313 :: c314 :: c315 :: c316 :: c317 :: c318 :: c319 :: c320 :: c321 :: c322 :: c323 :: c324 :: c325 :: c326 :: c327 :: c328 :: c329 :: c330 :: c331 :: c332 :: c333 :: c334 :: c335 :: c336 :: c337 :: c338 :: c339 :: c340 :: c341 :: c342 :: c343 :: c344 :: c345 :: c346 :: c347 :: c348 :: c349 :: c350 :: c351 :: c352 :: c353 :: c354 :: c355 :: c356 :: c357 :: c358 :: c359 :: c360 :: c361 :: c362 :: c363 :: c364 :: c365 :: c366 :: c367 :: c368 :: c369 :: []), []⟩ w') :
    Code.wp Try.prog (Code.loop (nthLoop Try.f6 3)) Q ⟨List.toArray (.slice A0 n0 c0 :: c1 :: c2 :: c3 :: u4 :: .pointer (some ⟨gs, 0, none⟩) :: .slice (some ⟨gp, 0, none⟩) 2 capp :: c7 :: c8 :: .int .i64 (n : Int) :: .pointer (some ⟨gd, 0, none⟩) :: u11 :: .int .i64 (round : Int) :: c13 :: c14 :: c15 :: u16 :: u17 :: u18 :: u19 :: u20 :: u21 :: u22 :: c23 :: c24 :: c25 :: c26 :: c27 :: c28 :: c29 :: c30 :: c31 :: c32 :: c33 :: c34 :: c35 :: c36 :: c37 :: c38 :: c39 :: c40 :: c41 :: c42 :: c43 :: c44 :: c45 :: c46 :: c47 :: c48 :: c49 :: c50 :: c51 :: c52 :: c53 :: c54 :: c55 :: c56 :: c57 :: c58 :: c59 :: c60 :: c61 :: c62 :: c63 :: c64 :: c65 :: c66 :: c67 :: c68 :: c69 :: c70 :: c71 :: c72 :: c73 :: c74 :: c75 :: c76 :: c77 :: c78 :: c79 :: c80 :: c81 :: c82 :: c83 :: c84 :: c85 :: c86 :: c87 :: c88 :: c89 :: c90 :: c91 :: c92 :: c93 :: c94 :: c95 :: c96 :: c97 :: c98 :: c99 :: c100 :: c101 :: u102 :: u103 :: u104 :: u105 :: u106 :: u107 :: u108 :: u109 :: u110 :: u111 :: u112 :: u113 :: u114 :: u115 :: u116 :: u117 :: u118 :: u119 :: u120 :: u121 :: u122 :: u123 :: u124 :: u125 :: u126 :: u127 :: u128 :: u129 :: u130 :: u131 :: u132 :: u133 :: u134 :: u135 :: u136 :: u137 :: u138 :: u139 :: u140 :: u141 :: u142 :: u143 :: u144 :: u145 :: u146 :: u147 :: u148 :: u149 :: u150 :: u151 :: u152 :: u153 :: u154 :: u155 :: u156 :: u157 :: u158 :: u159 :: u160 :: u161 :: u162 :: u163 :: u164 :: u165 :: u166 :: u167 :: u168 :: u169 :: u170 :: u171 :: u172 :: u173 :: u174 :: u175 :: u176 :: u177 :: u178 :: u179 :: u180 :: u181 :: u182 :: u183 :: u184 :: u185 :: u186 :: u187 :: u188 :: u189 :: u190 :: u191 :: u192 :: u193 :: u194 :: u195 :: u196 :: u197 :: u198 :: u199 :: u200 :: u201 :: u202 :: u203 :: u204 :: u205 :: u206 :: u207 :: u208 :: u209 :: u210 :: u211 :: u212 :: u213 :: u214 :: u215 :: u216 :: u217 :: u218 :: u219 :: u220 :: u221 :: u222 :: u223 :: u224 :: u225 :: u226 :: u227 :: u228 :: u229 :: u230 :: u231 :: u232 :: u233 :: u234 :: u235 :: u236 :: u237 :: u238 :: u239 :: u240 :: u241 :: u242 :: u243 :: u244 :: u245 :: u246 :: u247 :: u248 :: u249 :: u250 :: u251 :: u252 :: u253 :: u254 :: u255 :: u256 :: u257 :: u258 :: u259 :: u260 :: u261 :: u262 :: u263 :: u264 :: u265 :: u266 :: u267 :: u268 :: u269 :: u270 :: u271 :: c272 :: c273 :: c274 :: c275 :: c276 :: c277 :: c278 :: c279 :: c280 :: c281 :: c282 :: c283 :: c284 :: c285 :: c286 :: c287 :: c288 :: c289 :: c290 :: c291 :: c292 :: c293 :: c294 :: c295 :: c296 :: c297 :: c298 :: c299 :: c300 :: c301 :: c302 :: c303 :: c304 :: c305 :: c306 :: c307 :: c308 :: c309 :: c310 :: c311 :: c312 :: c313 :: c314 :: c315 :: c316 :: c317 :: c318 :: c319 :: c320 :: c321 :: c322 :: c323 :: c324 :: c325 :: c326 :: c327 :: c328 :: c329 :: c330 :: c331 :: c332 :: c333 :: c334 :: c335 :: c336 :: c337 :: c338 :: c339 :: c340 :: c341 :: c342 :: c343 :: c344 :: c345 :: c346 :: c347 :: c348 :: c349 :: c350 :: c351 :: c352 :: c353 :: c354 :: c355 :: c356 :: c357 :: c358 :: c359 :: c360 :: c361 :: c362 :: c363 :: c364 :: c365 :: c366 :: c367 :: c368 :: c369 :: []), []⟩ w := by
  conv => arg 2; arg 1; whnf
  go_loopw [11, 16] (fun v iv ws => OR4 W gs mb gp capp gd n round v iv ws) (fun _ iv _ => 8 - (intOf iv).toNat)
  case atStart => exact hrel
  case round =>
    unfold OR4 at hrel
    obtain ⟨i, nN, cl, C, N, D, nums, hi, hnN, rfl, ⟨A, c, rfl⟩, HNL, HO, HI, HLS⟩ := hrel
    by_cases hpos : 0 < nN
    · have hposI : (0 : Int) < (nN : Int) := by omega
      by_cases hi8 : i < 8
      · have hi8I : (i : Int) < 8 := by omega
        have hR := hR0.below HO.out.sys.below (Nat.le_refl _)
        have HRD := Lib.hid hR
        clear hR
        go_wp2_with fail
        refine (pick_nat _ _ _ f0 (round * 8 + i) _ nN _ _ _ (by omega) rfl HRD.out HW (by omega) (by omega)).mono ?_
        rintro e w2 ⟨kk, rfl, hkk, -, rfl⟩
        --@5
        have hnet := HO.out.net
        rw [HNL.out] at hnet
        obtain ⟨g1, hA1, hg1, q0, q1, q2, q3⟩ := rows_cells hnet HNL.out (k := kk) (by rw [HNL.out]; exact hkk)
        subst hA1
        have hmem : N[kk]'(by rw [HNL.out]; exact hkk) ∈ N := List.getElem_mem _
        obtain ⟨ii, m, hii, hm1, hml, hlog⟩ := HI.out.net _ hmem
        have hok := HO.out.ok _ hmem
        generalize N[kk]'(by rw [HNL.out]; exact hkk) = r at *
        obtain ⟨rcl, rnum, rA, rn, rc, rbs, rtag⟩ := r
        obtain ⟨r1, r2, r3, r4⟩ := Rq.log_eq hlog
        dsimp only at r1 r2 r3 q0 q1 q2 q3
        have hrn : rn = 2 := by have := hok.1.1; dsimp only at this; rw [r3, rq_bsLen] at this; omega
        subst r1 r2 r3 hrn
        have hm10 : m ≤ 10 := by have := HLS.out ii hii; omega
        have HLOG := Lib.hid hlog
        have hb3 := (Below.refl wr.heap.size wr).alloc (Nat.le_refl _) (.cells #[.int .i64 ((ii : Int) + 1), .int .i64 (m : Int), .slice rA 2 rc, .int .u64 rtag] 32)
        have hq3 := Blk.new wr 32 #[.int .i64 ((ii : Int) + 1), .int .i64 (m : Int), .slice rA 2 rc, .int .u64 rtag]
        have HO3 := Lib.hid (HO.out.all hb3)
        have HRO := Lib.hid (hok.all hb3)
        have hgr : wr.heap.size < (wr.alloc (.cells #[.int .i64 ((ii : Int) + 1), .int .i64 (m : Int), .slice rA 2 rc, .int .u64 rtag] 32)).heap.size := hq3.lt
        have kk0 : (0 : Int) ≤ (kk : Int) := by omega
        have kk1 : (kk : Int) < (nN : Int) := by omega
        have e1 : decide ((ii : Int) + 1 < 1) = false := by simp; omega
        have e2 : decide ((2 : Int) < (ii : Int) + 1) = false := by simp; omega
        have HRD3 := Lib.hid (HRD.out.below hb3 (by have := HO.out.sys.below.size; omega))
        clear hnet hmem hlog hok hb3 r4 HRD
        --@6
        go_upto_if 144 with (first
          | (go_at_call 38; ((refine (pick_nat _ _ _ f0 (round * 8 + i + 1) _ 3 _ _ _ (by omega) (by decide) HRD3.out HW (by decide) (by decide)).mono ?_); rintro e w4 ⟨k3, rfl, hk3, -, rfl⟩)))
        obtain ⟨gr, hgrr⟩ : ∃ gr, wr.heap.size = gr := ⟨_, rfl⟩
        rw [hgrr] at hq3 ⊢
        have HGRW := Lib.hid (show W.heap.size ≤ gr by have := HO.out.sys.below.size; omega)
        have HGF := Lib.hid (show ∀ i, i < 2 → ¬ (C i).F gr from fun i hi hf => by have := (HO.out.sys.call i hi).ltF gr hf; omega)
        clear hgrr q0 q1 q2 q3 hgr e1 e2
        generalize wr.alloc (.cells #[.int .i64 ((ii : Int) + 1), .int .i64 (m : Int), .slice rA 2 rc, .int .u64 rtag] 32) = w3 at *
        have HQ3 := Lib.hid hq3
        clear hq3 HO
        let bp := bodyPost Try.prog Try.f6
        go_cut [11] (fun v wx => ∃ (n2 : Nat) (N2 : List Rq), n2 ≤ nN ∧ (∃ A c, v = .slice A n2 c) ∧ Hid (N2.length = n2) ∧ Hid (Once W wx gs mb cl C (.slice (some ⟨gp, 0, none⟩) 2 capp) v N2 gd D) ∧ Hid (∀ r ∈ N2, r ∈ N) ∧ Below w3.heap.size w3 wx)
        case first =>
          clear bp
          by_cases hk3 : 0 < k3
          · have hk3I : (0 : Int) < (k3 : Int) := by omega
            have hkk2 : (kk : Int) + 1 ≤ (nN : Int) := by omega
            have hnet := HO3.out.net
            rw [HNL.out] at hnet
            have hcap := own_len_capR hnet
            have HNET := Lib.hid hnet
            have kc : (kk : Int) ≤ (c : Int) := by omega
            have HTL := Lib.hid (show ((N.take kk).flatMap Rq.cells).length = kk * 4 by rw [flat_length Rq.cells 4 Rq.cells_length, List.length_take, HNL.out]; congr 1; omega)
            have HDL := Lib.hid (show ((N.drop (kk + 1)).flatMap Rq.cells).length = (nN - (kk + 1)) * 4 by rw [flat_length Rq.cells 4 Rq.cells_length, List.length_drop, HNL.out])
            have HSUM := Lib.hid (show kk + (nN - (kk + 1)) = nN - 1 by omega)
            have HLEN := Lib.hid (show (N.take kk ++ N.drop (kk + 1)).length = nN - 1 by rw [List.length_append, List.length_take, List.length_drop, HNL.out]; omega)
            clear hnet
            by_cases hcc : c = kk + 1
            · obtain rfl : nN = kk + 1 := by omega
              subst hcc
              go_wp2_with (first
                | (at_builtin; have _tk := HTL; refine wpList_appendNil slT_req rfl rfl rfl rfl w3.heap.size ((N.take kk).flatMap Rq.cells) (net_take HNET.out) HTL.out (rq_one _) (by omega) (by decide) (Nat.le_refl _) ?_; intro A6 cap6 w6 hown6 hb6; clear HTL)
                | (at_builtin; refine wpList_appendRows (m := 0) slT_req rfl rfl rfl rfl hown6 [] (RowT.nil _ _ _) (by simp) (by simp) (by omega) (by decide) hb6.size ?_; intro A7 cap7 w7 hown7 hg7 hat7))
              go_meet
              refine ⟨kk + 0, N.take kk, by omega, ⟨A7, cap7, rfl⟩, Lib.hid (by rw [List.length_take, HNL.out]; omega), Lib.hid (HO3.out.lessNet (hb6.grown hg7 hb6.size (fun b e => (hown6.lt b e).1)) (fun r hr => List.mem_of_mem_take hr) (n := kk + 0) (by rw [List.length_take, HNL.out]; omega) (by rw [List.append_nil] at hown7; exact hown7)), Lib.hid (fun r hr => List.mem_of_mem_take hr), hb6.grown hg7 hb6.size (fun b e => (hown6.lt b e).1)⟩
            · have hccI : ¬ ((c : Int) = (kk : Int) + 1) := by omega
              go_wp2_with (first
                | (at_builtin; have _tk := HTL; refine wpList_appendNil slT_req rfl rfl rfl rfl w3.heap.size ((N.take kk).flatMap Rq.cells) (net_take HNET.out) HTL.out (rq_one _) (by omega) (by decide) (Nat.le_refl _) ?_; intro A6 cap6 w6 hown6 hb6; clear HTL)
                | (at_builtin; refine wpList_appendRows slT_req rfl rfl rfl rfl hown6 ((N.drop (kk + 1)).flatMap Rq.cells) (net_drop (own_keep HNET.out hb6) HNL.out ((kk + 1) * 4) (fun _ => rfl)) HDL.out (rq_one _) (by omega) (by decide) hb6.size ?_; intro A7 cap7 w7 hown7 hg7 hat7))
              go_meet
              refine ⟨kk + (nN - (kk + 1)), N.take kk ++ N.drop (kk + 1), by omega, ⟨A7, cap7, rfl⟩, Lib.hid (by rw [HLEN.out, HSUM.out]), Lib.hid (HO3.out.lessNet (hb6.grown hg7 hb6.size (fun b e => (hown6.lt b e).1)) take_drop_mem (n := kk + (nN - (kk + 1))) (by rw [HLEN.out, HSUM.out]) (by rw [List.flatMap_append]; exact hown7)), Lib.hid take_drop_mem, hb6.grown hg7 hb6.size (fun b e => (hown6.lt b e).1)⟩
          · have hk3I : ¬ ((0 : Int) < (k3 : Int)) := by omega
            go_wp2
            go_meet
            exact ⟨nN, N, Nat.le_refl _, ⟨_, _, rfl⟩, HNL, HO3, Lib.hid (fun r hr => hr), Below.refl _ _⟩
        case rest =>
          clear bp
          obtain ⟨n2, N2, hn2, ⟨A2, c2, rfl⟩, HNL2, HO2, HSUB, hbc⟩ := hcut
          have HI2 := Lib.hid (HI.out.less HSUB.out)
          have HQc := Lib.hid (HQ3.out.all hbc)
          have HROc := Lib.hid (HRO.out.all hbc)
          have HRDc := Lib.hid (HRD3.out.below hbc (by have := HO3.out.sys.below.size; omega))
          clear HI HO3 HQ3 HRO HRD3 hbc HSUB HNL hpos hposI hkk kk0 kk1 hk3
          apply_assumption
          refine once_mid hR0 HW hn10 hr60 hi8 hii hm1 hm10 hml HLS HLOG HGF HNL2 HI2 HQc HROc HO2 ?_
          clear HNL2 HI2 HQc HROc HO2 HRDc HLOG
          intros
          rename_i h5
          refine ⟨?_, ?_⟩
          · go_wp2
            exact ⟨h5.next (i := i + 1) (by omega) (by omega) (by go_num), by simp [intOf]; omega⟩
          · go_wp2
            exact ⟨h5.next (i := i + 1) (by omega) (by omega) (by go_num), by simp [intOf]; omega⟩
      · have hi8I : ¬ ((i : Int) < 8) := by omega
        obtain rfl : i = 8 := by omega
        go_wp2_with fail
        exact OR4.mk (i := 8) (by omega) hnN rfl HNL HO HI HLS
    · have hposI : ¬ ((0 : Int) < (nN : Int)) := by omega
      go_wp2_with fail
      exact OR4.mk (i := i) (by omega) hnN rfl HNL HO HI HLS
end Go.Proofs.Ytompkpleiichaaa
