/- JournalRuns: Crash, and Open. -/
import Derived.Test.YtldmokjpfnakkaaGreatHG44

namespace Go.Proofs.YtldmokjpfnakkaaGreat
open Go.ChangeShapes Go.WideShapes Go.ChangeAt Go.RowKit Go.ChangeMaps

set_option maxRecDepth 1000000 in
set_option maxHeartbeats 100000000 in
theorem runs_crash {W : World} {A0 : Option Addr} {n0 cc0 : Nat} {g mb g' gB gF room : Nat} 
    {pl e rl f : Value} {i x : Nat} {w : World} (hx : x < 1048576) (hroom : room ≤ 300) (HP : Hid (PR W g mb g' gB gF room i pl e rl f w)) {kk : Int} (hk : kk = 1 ∨ kk = 2)
    {c0 c2 c3 c4 c5 c9 c12 c16 c17 c18 c19 c20 c21 c22 c23 c24 c25 c26 c27 c28 c29 c30 c31 c32 c33 c34 c35 c36 c37 c38 c39 c40 c41 c42 c43 c44 c45 c46 c47 c48 c49 c50 c51 c52 c53 c54 c55 c56 c57 c58 c59 c60 c61 c62 c63 c64 c65 c66 c67 c68 c69 c70 c71 c72 c74 c75 c76 c77 c78 c79 c80 c81 c82 c83 c84 c85 c86 c87 c88 c89 c90 c91 c92 c93 c94 c95 c96 c97 c98 c99 c100 c101 c102 c103 c104 c105 c106 c107 c108 c109 c110 c111 c112 c113 c114 c115 c116 c117 c118 c119 c120 c121 c122 c123 c124 c125 c126 c127 c128 c129 c130 c131 c132 c133 c134 c135 c136 c137 c138 c139 c140 c141 c142 c143 c144 c145 c146 c147 c148 c149 c150 c151 c152 c153 c154 c155 c156 c157 c158 c159 c160 c161 c162 c163 c164 c165 c166 c167 c168 c169 c170 c171 c172 c173 c174 c175 c176 c177 c178 c179 c180 c181 c182 c183 c184 c185 c186 c187 c188 c189 c190 c191 c192 c193 c194 c195 c196 c197 c198 c199 c200 c201 c202 : Value} {Q : Exit → Act → World → Prop}
    (hend : ∀ (x8 x10 x11 x13 x16 x17 x18 x19 x74 x75 x76 x77 x78 x79 x80 x81 x82 x83 x84 x85 x86 x87 x88 x89 x90 x91 x92 x93 x94 x95 x96 x97 x98 x99 x100 x101 x102 x103 x104 x105 x106 x107 x108 x109 x110 x111 x112 x113 x114 x115 x116 x117 x118 x119 x120 x121 x122 x123 x124 x125 x126 x127 x128 x129 x130 x131 x132 x133 x134 x135 x136 x137 x138 x139 x140 x141 x142 x143 x144 x145 x146 x147 x148 x149 x150 x151 x152 x153 x154 x155 x156 x157 x158 x159 x160 x161 x162 x163 x164 x165 x166 x167 x168 x169 : Value) (w' : World), Hid (PR W g mb g' gB gF room (i + 1) x8 x10 x11 x13 w') → Q .normal ⟨List.toArray (c0 :: .slice A0 n0 cc0 :: c2 :: c3 :: c4 :: c5 :: .pointer (some ⟨g, 0, none⟩) :: .pointer (some ⟨g', 0, none⟩) :: x8 :: c9 :: x10 :: x11 :: c12 :: x13 :: .int .i64 (i : Int) :: .int .i64 (x : Int) :: x16 :: x17 :: x18 :: x19 :: c20 :: c21 :: c22 :: c23 :: c24 :: c25 :: c26 :: c27 :: c28 :: c29 :: c30 :: c31 :: c32 :: c33 :: c34 :: c35 :: c36 :: c37 :: c38 :: c39 :: c40 :: c41 :: c42 :: c43 :: c44 :: c45 :: c46 :: c47 :: c48 :: c49 :: c50 :: c51 :: c52 :: c53 :: c54 :: c55 :: c56 :: c57 :: c58 :: c59 :: c60 :: c61 :: c62 :: c63 :: c64 :: c65 :: c66 :: c67 :: c68 :: c69 :: c70 :: c71 :: c72 :: .int .i64 kk :: x74 :: x75 :: x76 :: x77 :: x78 :: x79 :: x80 :: x81 :: x82 :: x83 :: x84 :: x85 :: x86 :: x87 :: x88 :: x89 :: x90 :: x91 :: x92 :: x93 :: x94 :: x95 :: x96 :: x97 :: x98 :: x99 :: x100 :: x101 :: x102 :: x103 :: x104 :: x105 :: x106 :: x107 :: x108 :: x109 :: x110 :: x111 :: x112 :: x113 :: x114 :: x115 :: x116 :: x117 :: x118 :: x119 :: x120 :: x121 :: x122 :: x123 :: x124 :: x125 :: x126 :: x127 :: x128 :: x129 :: x130 :: x131 :: x132 :: x133 :: x134 :: x135 :: x136 :: x137 :: x138 :: x139 :: x140 :: x141 :: x142 :: x143 :: x144 :: x145 :: x146 :: x147 :: x148 :: x149 :: x150 :: x151 :: x152 :: x153 :: x154 :: x155 :: x156 :: x157 :: x158 :: x159 :: x160 :: x161 :: x162 :: x163 :: x164 :: x165 :: x166 :: x167 :: x168 :: x169 :: c170 :: c171 :: c172 :: c173 :: c174 :: c175 :: c176 :: c177 :: c178 :: c179 :: c180 :: c181 :: c182 :: c183 :: c184 :: c185 :: c186 :: c187 :: c188 :: c189 :: c190 :: c191 :: c192 :: c193 :: c194 :: c195 :: c196 :: c197 :: c198 :: c199 :: c200 :: c201 :: c202 :: []), []⟩ w' ∧ Q (.exit 1) ⟨List.toArray (c0 :: .slice A0 n0 cc0 :: c2 :: c3 :: c4 :: c5 :: .pointer (some ⟨g, 0, none⟩) :: .pointer (some ⟨g', 0, none⟩) :: x8 :: c9 :: x10 :: x11 :: c12 :: x13 :: .int .i64 (i : Int) :: .int .i64 (x : Int) :: x16 :: x17 :: x18 :: x19 :: c20 :: c21 :: c22 :: c23 :: c24 :: c25 :: c26 :: c27 :: c28 :: c29 :: c30 :: c31 :: c32 :: c33 :: c34 :: c35 :: c36 :: c37 :: c38 :: c39 :: c40 :: c41 :: c42 :: c43 :: c44 :: c45 :: c46 :: c47 :: c48 :: c49 :: c50 :: c51 :: c52 :: c53 :: c54 :: c55 :: c56 :: c57 :: c58 :: c59 :: c60 :: c61 :: c62 :: c63 :: c64 :: c65 :: c66 :: c67 :: c68 :: c69 :: c70 :: c71 :: c72 :: .int .i64 kk :: x74 :: x75 :: x76 :: x77 :: x78 :: x79 :: x80 :: x81 :: x82 :: x83 :: x84 :: x85 :: x86 :: x87 :: x88 :: x89 :: x90 :: x91 :: x92 :: x93 :: x94 :: x95 :: x96 :: x97 :: x98 :: x99 :: x100 :: x101 :: x102 :: x103 :: x104 :: x105 :: x106 :: x107 :: x108 :: x109 :: x110 :: x111 :: x112 :: x113 :: x114 :: x115 :: x116 :: x117 :: x118 :: x119 :: x120 :: x121 :: x122 :: x123 :: x124 :: x125 :: x126 :: x127 :: x128 :: x129 :: x130 :: x131 :: x132 :: x133 :: x134 :: x135 :: x136 :: x137 :: x138 :: x139 :: x140 :: x141 :: x142 :: x143 :: x144 :: x145 :: x146 :: x147 :: x148 :: x149 :: x150 :: x151 :: x152 :: x153 :: x154 :: x155 :: x156 :: x157 :: x158 :: x159 :: x160 :: x161 :: x162 :: x163 :: x164 :: x165 :: x166 :: x167 :: x168 :: x169 :: c170 :: c171 :: c172 :: c173 :: c174 :: c175 :: c176 :: c177 :: c178 :: c179 :: c180 :: c181 :: c182 :: c183 :: c184 :: c185 :: c186 :: c187 :: c188 :: c189 :: c190 :: c191 :: c192 :: c193 :: c194 :: c195 :: c196 :: c197 :: c198 :: c199 :: c200 :: c201 :: c202 :: []), []⟩ w') :
    Code.wp Tryz.prog runsW Q ⟨List.toArray (c0 :: .slice A0 n0 cc0 :: c2 :: c3 :: c4 :: c5 :: .pointer (some ⟨g, 0, none⟩) :: .pointer (some ⟨g', 0, none⟩) :: pl :: c9 :: e :: rl :: c12 :: f :: .int .i64 (i : Int) :: .int .i64 (x : Int) :: c16 :: c17 :: c18 :: c19 :: c20 :: c21 :: c22 :: c23 :: c24 :: c25 :: c26 :: c27 :: c28 :: c29 :: c30 :: c31 :: c32 :: c33 :: c34 :: c35 :: c36 :: c37 :: c38 :: c39 :: c40 :: c41 :: c42 :: c43 :: c44 :: c45 :: c46 :: c47 :: c48 :: c49 :: c50 :: c51 :: c52 :: c53 :: c54 :: c55 :: c56 :: c57 :: c58 :: c59 :: c60 :: c61 :: c62 :: c63 :: c64 :: c65 :: c66 :: c67 :: c68 :: c69 :: c70 :: c71 :: c72 :: .int .i64 kk :: c74 :: c75 :: c76 :: c77 :: c78 :: c79 :: c80 :: c81 :: c82 :: c83 :: c84 :: c85 :: c86 :: c87 :: c88 :: c89 :: c90 :: c91 :: c92 :: c93 :: c94 :: c95 :: c96 :: c97 :: c98 :: c99 :: c100 :: c101 :: c102 :: c103 :: c104 :: c105 :: c106 :: c107 :: c108 :: c109 :: c110 :: c111 :: c112 :: c113 :: c114 :: c115 :: c116 :: c117 :: c118 :: c119 :: c120 :: c121 :: c122 :: c123 :: c124 :: c125 :: c126 :: c127 :: c128 :: c129 :: c130 :: c131 :: c132 :: c133 :: c134 :: c135 :: c136 :: c137 :: c138 :: c139 :: c140 :: c141 :: c142 :: c143 :: c144 :: c145 :: c146 :: c147 :: c148 :: c149 :: c150 :: c151 :: c152 :: c153 :: c154 :: c155 :: c156 :: c157 :: c158 :: c159 :: c160 :: c161 :: c162 :: c163 :: c164 :: c165 :: c166 :: c167 :: c168 :: c169 :: c170 :: c171 :: c172 :: c173 :: c174 :: c175 :: c176 :: c177 :: c178 :: c179 :: c180 :: c181 :: c182 :: c183 :: c184 :: c185 :: c186 :: c187 :: c188 :: c189 :: c190 :: c191 :: c192 :: c193 :: c194 :: c195 :: c196 :: c197 :: c198 :: c199 :: c200 :: c201 :: c202 :: []), []⟩ w := by
  conv => arg 2; whnf
  obtain ⟨fs, v, o, p, bs, dur, hD, hL, rfl, he⟩ := HP.out
  have HD := Lib.hid hD
  have HL := Lib.hid hL
  have HE := Lib.hid he
  clear hD hL he HP

  have hx0 : (0 : Int) ≤ (x : Int) := by omega
  have hba := (Below.refl w.heap.size w).alloc (Nat.le_refl _) (.cells #[.int .i64 ((x : Int) % 30)] 3)
  have hka : Rd (w.alloc (.cells #[.int .i64 ((x : Int) % 30)] 3)) (w.heap.size + 1) (some ⟨w.heap.size, 0, none⟩) 1 (vInt [(x : Int) % 30]) := fun _ => ⟨w.heap.size, 0, rfl, by omega, fun j hj => by
    obtain rfl : j = 0 := by omega
    simp [vInt]⟩
  have HBA := Lib.hid hba
  have HKA := Lib.hid hka
  clear hba hka HL HE
  rcases hk with rfl | rfl
  all_goals
    go_wp2_with fail
    obtain ⟨wa, hwa⟩ : ∃ wa, wa = w.alloc (.cells #[.int .i64 ((x : Int) % 30)] 3) := ⟨_, rfl⟩
    rw [← hwa] at HBA HKA ⊢
    have hsz : wa.heap.size = w.heap.size + 1 := by rw [hwa]; simp
    have HDa := Lib.hid (HD.out.all HBA.out)
    have HLTa := Lib.hid (show ∀ b, DskF g mb fs b → b < w.heap.size from HD.out.d.ltF)
    clear hwa HD
    refine (pcrash_any g mb room o p fs bs dur _ _ ((x : Int) % 30) _ wa (Lib.hid HDa.out.d) (Lib.hid HDa.out.s) (Lib.hid (by rw [hsz]; exact HKA.out)) (by omega) (by omega) (by omega) (by omega)).mono ?_
    rintro e2 w2 ⟨rfl, hN⟩
    obtain ⟨fs2, hD2, m2⟩ := HDa.out.next hN
    have HK2 := Lib.hid (show Rd w2 w2.heap.size (some ⟨w.heap.size, 0, none⟩) 1 (vInt [(x : Int) % 30]) from fun h0 => by
      obtain ⟨b, off, e3, hlt, hc⟩ := (m2.rd HKA.out (by omega) (fun b off e3 _ hf => by
        injection e3 with e3
        injection e3 with e3 _ _
        have := HLTa.out b hf
        omega)) h0
      exact ⟨b, off, e3, by have := m2.size; omega, hc⟩)
    have HD2 := Lib.hid hD2
    clear hN hD2 m2 HDa HLTa HKA HBA hsz
    obtain ⟨A, c, hv⟩ := HD2.out.r.slice
    obtain ⟨n, hn⟩ : ∃ n, bs.length = n := ⟨_, rfl⟩
    rw [hn] at hv
    subst hv
    clear hn
    go_wp2_with fail
    refine (rcrash_any g' gB gF room dur o p A n c bs _ _ ((x : Int) % 30) _ w2 (Lib.hid HD2.out.r) HK2 (by omega) (by omega) (by omega) (by omega)).mono ?_
    rintro e3 w3 ⟨rfl, hN3⟩
    obtain ⟨v3, hD3, m3⟩ := HD2.out.rnext hN3
    clear hN3 m3 HD2 HK2
    obtain ⟨bq, hbq⟩ : ∃ b, crB bs dur ((x : Int) % 30) ((x : Int) / 30 % 300 - 100) = b := ⟨_, rfl⟩
    rw [hbq] at hD3
    obtain ⟨dq, hdq⟩ : ∃ d, bq.length = d := ⟨_, rfl⟩
    rw [hdq] at hD3
    have HD := Lib.hid hD3
    clear hD3 hbq hdq
    obtain ⟨rs, m, hsc⟩ := scan_ex bq
    have HSC := Lib.hid hsc
    have hrs : rs.length ≤ 1000 := by have h1 := hsc.count; have h2 := HD.out.r.room_le; omega
    obtain ⟨R, hR⟩ : ∃ R, opnO false (-1) bq dq m = R := ⟨_, rfl⟩
    have hPO := popen_all HD HSC
    have HRO := Lib.hid (fun (v2 : Value) (w2 : World) (h : RDk w2 g' gB gF room false (-1) v2 bq dq) => ropen_all (Lib.hid h) HSC)
    rw [hR] at hPO
    rw [hR] at HRO
    have HPO := Lib.hid hPO
    clear hsc hPO hR
    go_wp2_with fail
    refine HPO.out.mono ?_
    rintro e2 w2 hP
    obtain ⟨fs5, hD2, m2, hc⟩ := HD.out.open1 hP
    have HLT := Lib.hid (show ∀ b, RDF g' gB gF v3 b → b < w3.heap.size from HD.out.r.ltF)
    have HWW := Lib.hid (show W.heap.size ≤ w3.heap.size from HD.out.below.size)
    have HD2 := Lib.hid hD2
    clear hP HPO HD m2 hD2
    rcases hc with ⟨hR1, hR2, gl, A2, c2, L, rfl, hgl, hl, hls, hbs, hlow⟩ | ⟨hR1, hR2, rfl⟩
    · have HLG := Lib.hid hl
      have HLS := Lib.hid hls
      have HLW := Lib.hid (And.intro hbs hlow)
      have HR1 := Lib.hid hR1
      have HR2 := Lib.hid hR2
      clear hl hls hbs hlow hR1 hR2
      go_wp2_with fail
      refine (HRO.out _ _ HD2.out.r).mono ?_
      rintro e3 w3 hP3
      obtain ⟨v3, hD3, m3, hc3⟩ := HD2.out.open2 hP3
      have HLG3 := Lib.hid (m3.blk HLG.out (fun hf => HD2.out.notR HLG.out.ty (by decide) (by decide) (by decide) (by decide) hf))
      have HLS3 := Lib.hid (HLS.out.modL HLW.out.2 m3 (fun b hb hf => by have := HLT.out b hf; omega) (Nat.le_refl _))
      have HS3 := Lib.hid m3.size
      clear hP3 m3 HRO HLG HLS
      rcases hc3 with ⟨-, gl', A3, c3, L3, rfl, hgl', hl', hls', hbs'⟩ | ⟨h, -⟩
      · rw [HR2.out] at hD3
        have hgW : W.heap.size ≤ gl := Nat.le_trans HWW.out hgl
        have hgW' : W.heap.size ≤ gl' := by have := HD2.out.below.size; omega
        have HF := Lib.hid (hD3.opened (i := i + 1) hrs HLG3.out hl' hgW hgW')
        clear hD3 hl' hls' hbs' HLG3 HLS3 HLW HD2 HLT
        go_wp2
        exact (hend _ _ _ _ _ _ _ _ _ _ _ _ _ _ _ _ _ _ _ _ _ _ _ _ _ _ _ _ _ _ _ _ _ _ _ _ _ _ _ _ _ _ _ _ _ _ _ _ _ _ _ _ _ _ _ _ _ _ _ _ _ _ _ _ _ _ _ _ _ _ _ _ _ _ _ _ _ _ _ _ _ _ _ _ _ _ _ _ _ _ _ _ _ _ _ _ _ _ _ _ _ _ _ _ _ HF).1
      · exact absurd (HR1.out.symm.trans h) (by decide)
    · have HR1 := Lib.hid hR1
      have HR2 := Lib.hid hR2
      clear hR1 hR2
      go_wp2_with fail
      refine (HRO.out _ _ HD2.out.r).mono ?_
      rintro e3 w3 hP3
      obtain ⟨v3, hD3, m3, hc3⟩ := HD2.out.open2 hP3
      clear hP3 m3 HRO
      rcases hc3 with ⟨h, -⟩ | ⟨-, rfl⟩
      · exact absurd (h.symm.trans HR1.out) (by decide)
      · skip
        have HF := Lib.hid (hD3.shut (i := i + 1))
        clear hD3 HD2 HLT
        go_wp2
        exact (hend _ _ _ _ _ _ _ _ _ _ _ _ _ _ _ _ _ _ _ _ _ _ _ _ _ _ _ _ _ _ _ _ _ _ _ _ _ _ _ _ _ _ _ _ _ _ _ _ _ _ _ _ _ _ _ _ _ _ _ _ _ _ _ _ _ _ _ _ _ _ _ _ _ _ _ _ _ _ _ _ _ _ _ _ _ _ _ _ _ _ _ _ _ _ _ _ _ _ _ _ _ _ _ _ _ HF).1
end Go.Proofs.YtldmokjpfnakkaaGreat
