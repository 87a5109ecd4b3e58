/- JournalRuns: what follows the switch: the bytes are compared. -/
import Derived.Test.YtldmokjpfnakkaaGreatHG43
import Derived.Test.YtldmokjpfnakkaaGreatHG39
import Derived.Test.YtldmokjpfnakkaaGreatHG19

namespace Go.Proofs.YtldmokjpfnakkaaGreat
open Go.ChangeShapes Go.WideShapes Go.ChangeAt Go.RowKit Go.ChangeMaps

def codeR : Code → Code
  | .seq _ b => b
  | _ => .skip
def codeL : Code → Code
  | .seq a _ => a
  | _ => .skip
def codeB : Code → Code
  | .block _ c => c
  | _ => .skip
/-- A round of the loop. -/
noncomputable def runsB : Code := codeB (codeL (codeR (nthLoop Tryz.f3 0)))
/-- The switch. -/
noncomputable def runsW : Code := codeR (codeL (codeR (codeR runsB)))
/-- What follows the switch. -/
noncomputable def runsC : Code := codeR (codeR (codeR runsB))
theorem fileBs_st {fs : List Fl} {bs : List UInt8} {dur : Nat} (hst : fs.map Fl.log = stOf bs dur) : fileBs fs 2 = bs := by
  unfold stOf at hst
  by_cases hb : bs = []
  · rw [if_pos hb] at hst
    have : fs = [] := by simpa using hst
    subst this hb
    rfl
  · rw [if_neg hb] at hst
    obtain ⟨f, rfl⟩ : ∃ f, fs = [f] := List.length_eq_one_iff.1 (by have := congrArg List.length hst; simpa using this)
    simp only [List.map_cons, List.map_nil, List.cons.injEq, and_true, Fl.log, Prod.mk.injEq] at hst
    obtain ⟨e1, e2, e3⟩ := hst
    have hfi : findF [f] 2 = some f := by unfold findF; simp [e1]
    unfold fileBs
    rw [hfi]
    exact e2
set_option maxRecDepth 1000000 in
set_option maxHeartbeats 100000000 in
theorem runs_chk {W : World} {A0 : Option Addr} {n0 cc0 : Nat} {g mb g' gB gF room : Nat} 
    {pl e rl f : Value} {i j : Nat} {w : World} (HP : Hid (PR W g mb g' gB gF room j pl e rl f w))
    {c0 c2 c3 c4 c5 c9 c12 c15 c16 c17 c18 c19 c20 c21 c22 c23 c24 c25 c26 c27 c28 c29 c30 c31 c32 c33 c34 c35 c36 c37 c38 c39 c40 c41 c42 c43 c44 c45 c46 c47 c48 c49 c50 c51 c52 c53 c54 c55 c56 c57 c58 c59 c60 c61 c62 c63 c64 c65 c66 c67 c68 c69 c70 c71 c72 c73 c74 c75 c76 c77 c78 c79 c80 c81 c82 c83 c84 c85 c86 c87 c88 c89 c90 c91 c92 c93 c94 c95 c96 c97 c98 c99 c100 c101 c102 c103 c104 c105 c106 c107 c108 c109 c110 c111 c112 c113 c114 c115 c116 c117 c118 c119 c120 c121 c122 c123 c124 c125 c126 c127 c128 c129 c130 c131 c132 c133 c134 c135 c136 c137 c138 c139 c140 c141 c142 c143 c144 c145 c146 c147 c148 c149 c150 c151 c152 c153 c154 c155 c156 c157 c158 c159 c160 c161 c162 c163 c164 c165 c166 c167 c168 c169 c170 c171 c172 c173 c174 c175 c176 c177 c178 c179 c180 c181 c182 c183 c184 c185 c186 c187 c188 c189 c190 c191 c192 c193 c194 c195 c196 c197 c198 c199 c200 c201 c202 : Value} {Q : Exit → Act → World → Prop}
    (hend : ∀ (x20 x21 x170 x171 x172 x173 x174 x175 x176 x177 x178 x179 x180 x181 x182 x183 x184 x185 x186 x187 x188 x189 x190 x191 x192 x193 x194 x195 x196 : Value) (w' : World), Hid (PR W g mb g' gB gF room j pl e rl f w') → Q .normal ⟨List.toArray (c0 :: .slice A0 n0 cc0 :: c2 :: c3 :: c4 :: c5 :: .pointer (some ⟨g, 0, none⟩) :: .pointer (some ⟨g', 0, none⟩) :: pl :: c9 :: e :: rl :: c12 :: f :: .int .i64 (i : Int) :: c15 :: c16 :: c17 :: c18 :: c19 :: x20 :: x21 :: c22 :: c23 :: c24 :: c25 :: c26 :: c27 :: c28 :: c29 :: c30 :: c31 :: c32 :: c33 :: c34 :: c35 :: c36 :: c37 :: c38 :: c39 :: c40 :: c41 :: c42 :: c43 :: c44 :: c45 :: c46 :: c47 :: c48 :: c49 :: c50 :: c51 :: c52 :: c53 :: c54 :: c55 :: c56 :: c57 :: c58 :: c59 :: c60 :: c61 :: c62 :: c63 :: c64 :: c65 :: c66 :: c67 :: c68 :: c69 :: c70 :: c71 :: c72 :: c73 :: c74 :: c75 :: c76 :: c77 :: c78 :: c79 :: c80 :: c81 :: c82 :: c83 :: c84 :: c85 :: c86 :: c87 :: c88 :: c89 :: c90 :: c91 :: c92 :: c93 :: c94 :: c95 :: c96 :: c97 :: c98 :: c99 :: c100 :: c101 :: c102 :: c103 :: c104 :: c105 :: c106 :: c107 :: c108 :: c109 :: c110 :: c111 :: c112 :: c113 :: c114 :: c115 :: c116 :: c117 :: c118 :: c119 :: c120 :: c121 :: c122 :: c123 :: c124 :: c125 :: c126 :: c127 :: c128 :: c129 :: c130 :: c131 :: c132 :: c133 :: c134 :: c135 :: c136 :: c137 :: c138 :: c139 :: c140 :: c141 :: c142 :: c143 :: c144 :: c145 :: c146 :: c147 :: c148 :: c149 :: c150 :: c151 :: c152 :: c153 :: c154 :: c155 :: c156 :: c157 :: c158 :: c159 :: c160 :: c161 :: c162 :: c163 :: c164 :: c165 :: c166 :: c167 :: c168 :: c169 :: x170 :: x171 :: x172 :: x173 :: x174 :: x175 :: x176 :: x177 :: x178 :: x179 :: x180 :: x181 :: x182 :: x183 :: x184 :: x185 :: x186 :: x187 :: x188 :: x189 :: x190 :: x191 :: x192 :: x193 :: x194 :: x195 :: x196 :: c197 :: c198 :: c199 :: c200 :: c201 :: c202 :: []), []⟩ w' ∧ Q (.exit 1) ⟨List.toArray (c0 :: .slice A0 n0 cc0 :: c2 :: c3 :: c4 :: c5 :: .pointer (some ⟨g, 0, none⟩) :: .pointer (some ⟨g', 0, none⟩) :: pl :: c9 :: e :: rl :: c12 :: f :: .int .i64 (i : Int) :: c15 :: c16 :: c17 :: c18 :: c19 :: x20 :: x21 :: c22 :: c23 :: c24 :: c25 :: c26 :: c27 :: c28 :: c29 :: c30 :: c31 :: c32 :: c33 :: c34 :: c35 :: c36 :: c37 :: c38 :: c39 :: c40 :: c41 :: c42 :: c43 :: c44 :: c45 :: c46 :: c47 :: c48 :: c49 :: c50 :: c51 :: c52 :: c53 :: c54 :: c55 :: c56 :: c57 :: c58 :: c59 :: c60 :: c61 :: c62 :: c63 :: c64 :: c65 :: c66 :: c67 :: c68 :: c69 :: c70 :: c71 :: c72 :: c73 :: c74 :: c75 :: c76 :: c77 :: c78 :: c79 :: c80 :: c81 :: c82 :: c83 :: c84 :: c85 :: c86 :: c87 :: c88 :: c89 :: c90 :: c91 :: c92 :: c93 :: c94 :: c95 :: c96 :: c97 :: c98 :: c99 :: c100 :: c101 :: c102 :: c103 :: c104 :: c105 :: c106 :: c107 :: c108 :: c109 :: c110 :: c111 :: c112 :: c113 :: c114 :: c115 :: c116 :: c117 :: c118 :: c119 :: c120 :: c121 :: c122 :: c123 :: c124 :: c125 :: c126 :: c127 :: c128 :: c129 :: c130 :: c131 :: c132 :: c133 :: c134 :: c135 :: c136 :: c137 :: c138 :: c139 :: c140 :: c141 :: c142 :: c143 :: c144 :: c145 :: c146 :: c147 :: c148 :: c149 :: c150 :: c151 :: c152 :: c153 :: c154 :: c155 :: c156 :: c157 :: c158 :: c159 :: c160 :: c161 :: c162 :: c163 :: c164 :: c165 :: c166 :: c167 :: c168 :: c169 :: x170 :: x171 :: x172 :: x173 :: x174 :: x175 :: x176 :: x177 :: x178 :: x179 :: x180 :: x181 :: x182 :: x183 :: x184 :: x185 :: x186 :: x187 :: x188 :: x189 :: x190 :: x191 :: x192 :: x193 :: x194 :: x195 :: x196 :: c197 :: c198 :: c199 :: c200 :: c201 :: c202 :: []), []⟩ w') :
    Code.wp Tryz.prog runsC Q ⟨List.toArray (c0 :: .slice A0 n0 cc0 :: c2 :: c3 :: c4 :: c5 :: .pointer (some ⟨g, 0, none⟩) :: .pointer (some ⟨g', 0, none⟩) :: pl :: c9 :: e :: rl :: c12 :: f :: .int .i64 (i : Int) :: c15 :: c16 :: c17 :: c18 :: c19 :: c20 :: c21 :: c22 :: c23 :: c24 :: c25 :: c26 :: c27 :: c28 :: c29 :: c30 :: c31 :: c32 :: c33 :: c34 :: c35 :: c36 :: c37 :: c38 :: c39 :: c40 :: c41 :: c42 :: c43 :: c44 :: c45 :: c46 :: c47 :: c48 :: c49 :: c50 :: c51 :: c52 :: c53 :: c54 :: c55 :: c56 :: c57 :: c58 :: c59 :: c60 :: c61 :: c62 :: c63 :: c64 :: c65 :: c66 :: c67 :: c68 :: c69 :: c70 :: c71 :: c72 :: c73 :: c74 :: c75 :: c76 :: c77 :: c78 :: c79 :: c80 :: c81 :: c82 :: c83 :: c84 :: c85 :: c86 :: c87 :: c88 :: c89 :: c90 :: c91 :: c92 :: c93 :: c94 :: c95 :: c96 :: c97 :: c98 :: c99 :: c100 :: c101 :: c102 :: c103 :: c104 :: c105 :: c106 :: c107 :: c108 :: c109 :: c110 :: c111 :: c112 :: c113 :: c114 :: c115 :: c116 :: c117 :: c118 :: c119 :: c120 :: c121 :: c122 :: c123 :: c124 :: c125 :: c126 :: c127 :: c128 :: c129 :: c130 :: c131 :: c132 :: c133 :: c134 :: c135 :: c136 :: c137 :: c138 :: c139 :: c140 :: c141 :: c142 :: c143 :: c144 :: c145 :: c146 :: c147 :: c148 :: c149 :: c150 :: c151 :: c152 :: c153 :: c154 :: c155 :: c156 :: c157 :: c158 :: c159 :: c160 :: c161 :: c162 :: c163 :: c164 :: c165 :: c166 :: c167 :: c168 :: c169 :: c170 :: c171 :: c172 :: c173 :: c174 :: c175 :: c176 :: c177 :: c178 :: c179 :: c180 :: c181 :: c182 :: c183 :: c184 :: c185 :: c186 :: c187 :: c188 :: c189 :: c190 :: c191 :: c192 :: c193 :: c194 :: c195 :: c196 :: c197 :: c198 :: c199 :: c200 :: c201 :: c202 :: []), []⟩ w := by
  conv => arg 2; whnf
  obtain ⟨fs, v, o, p, bs, dur, hD, hL, rfl, he⟩ := HP.out
  obtain ⟨A, c, rfl⟩ := hD.r.slice
  have HD := Lib.hid hD
  have HL := Lib.hid hL
  have HE := Lib.hid he
  have hln : bs.length ≤ 16777216 := by have := hD.r.room_le; omega
  clear hD hL he HP
  cases o
  · go_wp2_with fail
    refine (readD_any g mb room p fs 2 w (Lib.hid HD.out.d) (by decide) (by decide)).mono ?_
    rintro e2 w2 ⟨A2, n2, c2, rfl, hown, hb⟩
    rw [fileBs_st HD.out.s] at hown
    have HO := Lib.hid hown
    have HD2 := Lib.hid (HD.out.all hb)
    have HL2 := Lib.hid (HL.out.all hb (Nat.le_refl _))
    obtain ⟨hbt, hn2⟩ := Bts.of_own hown
    have hl2 : bs.length = n2 := by have := hown.1; simpa using this
    have HR2 := Lib.hid hbt.rd
    have HR1 := Lib.hid (Bts.of_own HD2.out.r.own).1.rd
    obtain ⟨d0, d1, d2, d3, d4, -, -⟩ := HD2.out.r.cells
    have b2 := HD2.out.r.bAt (i := 2) (by omega)
    rw [if_pos rfl] at b2
    obtain ⟨n1, hn1⟩ : ∃ n1, bs.length = n1 := ⟨_, rfl⟩
    have HN1 := Lib.hid hn1
    have HN2 := Lib.hid hl2
    rw [hn1] at b2 hln HR1
    have hn216 : n2 ≤ 16777216 := by omega
    clear hown hbt hn2 hl2 hb hn1
    go_wp2_with fail
    refine (sameBytes_true A2 A n2 n1 c2 c bs bs w2 rfl HN2 HN1 HR2.out HR1.out (by omega) (by omega)).mono ?_
    rintro e3 w3 ⟨rfl, hb3⟩
    have HD3 := Lib.hid (HD2.out.all hb3)
    have HL3 := Lib.hid (HL2.out.all hb3 (Nat.le_refl _))
    obtain ⟨d0, d1, d2, d3, d4, -, -⟩ := HD3.out.r.cells
    clear hb3
    go_wp2
    refine And.left (hend _ _ _ _ _ _ _ _ _ _ _ _ _ _ _ _ _ _ _ _ _ _ _ _ _ _ _ _ _ _ (Lib.hid ⟨fs, .slice A bs.length c, false, p, bs, dur, ?_, ?_, rfl, HE.out⟩))
    · exact HD3.out
    · exact HL3.out
  · obtain ⟨d0, d1, d2, d3, d4, -, -⟩ := HD.out.r.cells
    go_wp2_with fail
    refine (readD_off g mb room p fs 2 w (Lib.hid HD.out.d) (by decide) (by decide)).mono ?_
    rintro e2 w2 ⟨rfl, rfl⟩
    go_wp2
    refine And.left (hend _ _ _ _ _ _ _ _ _ _ _ _ _ _ _ _ _ _ _ _ _ _ _ _ _ _ _ _ _ _ (Lib.hid ⟨fs, .slice A bs.length c, true, p, bs, dur, ?_, ?_, rfl, HE.out⟩))
    · exact HD.out
    · exact HL.out
end Go.Proofs.YtldmokjpfnakkaaGreat

/- JournalRuns: Arm. -/
namespace Go.Proofs.YtldmokjpfnakkaaGreat
open Go.ChangeShapes Go.WideShapes Go.ChangeAt Go.RowKit Go.ChangeMaps

set_option maxRecDepth 1000000 in
set_option maxHeartbeats 100000000 in
theorem runs_arm {W : World} {A0 : Option Addr} {n0 cc0 : Nat} {g mb g' gB gF room : Nat} 
    {pl e rl f : Value} {i x : Nat} {w : World} (hx : x < 1048576) (_hroom : room ≤ 300) (HP : Hid (PR W g mb g' gB gF room i pl e rl f w))
    {c0 c2 c3 c4 c5 c9 c12 c16 c17 c18 c19 c20 c21 c22 c23 c24 c25 c26 c27 c28 c29 c30 c31 c32 c33 c34 c35 c36 c37 c38 c39 c40 c41 c42 c43 c44 c45 c46 c47 c48 c49 c50 c51 c52 c53 c54 c55 c56 c57 c58 c59 c60 c61 c62 c63 c64 c65 c66 c67 c68 c69 c70 c71 c72 c74 c75 c76 c77 c78 c79 c80 c81 c82 c83 c84 c85 c86 c87 c88 c89 c90 c91 c92 c93 c94 c95 c96 c97 c98 c99 c100 c101 c102 c103 c104 c105 c106 c107 c108 c109 c110 c111 c112 c113 c114 c115 c116 c117 c118 c119 c120 c121 c122 c123 c124 c125 c126 c127 c128 c129 c130 c131 c132 c133 c134 c135 c136 c137 c138 c139 c140 c141 c142 c143 c144 c145 c146 c147 c148 c149 c150 c151 c152 c153 c154 c155 c156 c157 c158 c159 c160 c161 c162 c163 c164 c165 c166 c167 c168 c169 c170 c171 c172 c173 c174 c175 c176 c177 c178 c179 c180 c181 c182 c183 c184 c185 c186 c187 c188 c189 c190 c191 c192 c193 c194 c195 c196 c197 c198 c199 c200 c201 c202 : Value} {Q : Exit → Act → World → Prop}
    (hend : ∀ (x8 x10 x11 x13 x16 x17 x18 x19 x74 x75 x76 x77 x78 x79 x80 x81 x82 x83 x84 x85 x86 x87 x88 x89 x90 x91 x92 x93 x94 x95 x96 x97 x98 x99 x100 x101 x102 x103 x104 x105 x106 x107 x108 x109 x110 x111 x112 x113 x114 x115 x116 x117 x118 x119 x120 x121 x122 x123 x124 x125 x126 x127 x128 x129 x130 x131 x132 x133 x134 x135 x136 x137 x138 x139 x140 x141 x142 x143 x144 x145 x146 x147 x148 x149 x150 x151 x152 x153 x154 x155 x156 x157 x158 x159 x160 x161 x162 x163 x164 x165 x166 x167 x168 x169 : Value) (w' : World), Hid (PR W g mb g' gB gF room (i + 1) x8 x10 x11 x13 w') → Q .normal ⟨List.toArray (c0 :: .slice A0 n0 cc0 :: c2 :: c3 :: c4 :: c5 :: .pointer (some ⟨g, 0, none⟩) :: .pointer (some ⟨g', 0, none⟩) :: x8 :: c9 :: x10 :: x11 :: c12 :: x13 :: .int .i64 (i : Int) :: .int .i64 (x : Int) :: x16 :: x17 :: x18 :: x19 :: c20 :: c21 :: c22 :: c23 :: c24 :: c25 :: c26 :: c27 :: c28 :: c29 :: c30 :: c31 :: c32 :: c33 :: c34 :: c35 :: c36 :: c37 :: c38 :: c39 :: c40 :: c41 :: c42 :: c43 :: c44 :: c45 :: c46 :: c47 :: c48 :: c49 :: c50 :: c51 :: c52 :: c53 :: c54 :: c55 :: c56 :: c57 :: c58 :: c59 :: c60 :: c61 :: c62 :: c63 :: c64 :: c65 :: c66 :: c67 :: c68 :: c69 :: c70 :: c71 :: c72 :: .int .i64 0 :: x74 :: x75 :: x76 :: x77 :: x78 :: x79 :: x80 :: x81 :: x82 :: x83 :: x84 :: x85 :: x86 :: x87 :: x88 :: x89 :: x90 :: x91 :: x92 :: x93 :: x94 :: x95 :: x96 :: x97 :: x98 :: x99 :: x100 :: x101 :: x102 :: x103 :: x104 :: x105 :: x106 :: x107 :: x108 :: x109 :: x110 :: x111 :: x112 :: x113 :: x114 :: x115 :: x116 :: x117 :: x118 :: x119 :: x120 :: x121 :: x122 :: x123 :: x124 :: x125 :: x126 :: x127 :: x128 :: x129 :: x130 :: x131 :: x132 :: x133 :: x134 :: x135 :: x136 :: x137 :: x138 :: x139 :: x140 :: x141 :: x142 :: x143 :: x144 :: x145 :: x146 :: x147 :: x148 :: x149 :: x150 :: x151 :: x152 :: x153 :: x154 :: x155 :: x156 :: x157 :: x158 :: x159 :: x160 :: x161 :: x162 :: x163 :: x164 :: x165 :: x166 :: x167 :: x168 :: x169 :: c170 :: c171 :: c172 :: c173 :: c174 :: c175 :: c176 :: c177 :: c178 :: c179 :: c180 :: c181 :: c182 :: c183 :: c184 :: c185 :: c186 :: c187 :: c188 :: c189 :: c190 :: c191 :: c192 :: c193 :: c194 :: c195 :: c196 :: c197 :: c198 :: c199 :: c200 :: c201 :: c202 :: []), []⟩ w' ∧ Q (.exit 1) ⟨List.toArray (c0 :: .slice A0 n0 cc0 :: c2 :: c3 :: c4 :: c5 :: .pointer (some ⟨g, 0, none⟩) :: .pointer (some ⟨g', 0, none⟩) :: x8 :: c9 :: x10 :: x11 :: c12 :: x13 :: .int .i64 (i : Int) :: .int .i64 (x : Int) :: x16 :: x17 :: x18 :: x19 :: c20 :: c21 :: c22 :: c23 :: c24 :: c25 :: c26 :: c27 :: c28 :: c29 :: c30 :: c31 :: c32 :: c33 :: c34 :: c35 :: c36 :: c37 :: c38 :: c39 :: c40 :: c41 :: c42 :: c43 :: c44 :: c45 :: c46 :: c47 :: c48 :: c49 :: c50 :: c51 :: c52 :: c53 :: c54 :: c55 :: c56 :: c57 :: c58 :: c59 :: c60 :: c61 :: c62 :: c63 :: c64 :: c65 :: c66 :: c67 :: c68 :: c69 :: c70 :: c71 :: c72 :: .int .i64 0 :: x74 :: x75 :: x76 :: x77 :: x78 :: x79 :: x80 :: x81 :: x82 :: x83 :: x84 :: x85 :: x86 :: x87 :: x88 :: x89 :: x90 :: x91 :: x92 :: x93 :: x94 :: x95 :: x96 :: x97 :: x98 :: x99 :: x100 :: x101 :: x102 :: x103 :: x104 :: x105 :: x106 :: x107 :: x108 :: x109 :: x110 :: x111 :: x112 :: x113 :: x114 :: x115 :: x116 :: x117 :: x118 :: x119 :: x120 :: x121 :: x122 :: x123 :: x124 :: x125 :: x126 :: x127 :: x128 :: x129 :: x130 :: x131 :: x132 :: x133 :: x134 :: x135 :: x136 :: x137 :: x138 :: x139 :: x140 :: x141 :: x142 :: x143 :: x144 :: x145 :: x146 :: x147 :: x148 :: x149 :: x150 :: x151 :: x152 :: x153 :: x154 :: x155 :: x156 :: x157 :: x158 :: x159 :: x160 :: x161 :: x162 :: x163 :: x164 :: x165 :: x166 :: x167 :: x168 :: x169 :: c170 :: c171 :: c172 :: c173 :: c174 :: c175 :: c176 :: c177 :: c178 :: c179 :: c180 :: c181 :: c182 :: c183 :: c184 :: c185 :: c186 :: c187 :: c188 :: c189 :: c190 :: c191 :: c192 :: c193 :: c194 :: c195 :: c196 :: c197 :: c198 :: c199 :: c200 :: c201 :: c202 :: []), []⟩ w') :
    Code.wp Tryz.prog runsW Q ⟨List.toArray (c0 :: .slice A0 n0 cc0 :: c2 :: c3 :: c4 :: c5 :: .pointer (some ⟨g, 0, none⟩) :: .pointer (some ⟨g', 0, none⟩) :: pl :: c9 :: e :: rl :: c12 :: f :: .int .i64 (i : Int) :: .int .i64 (x : Int) :: c16 :: c17 :: c18 :: c19 :: c20 :: c21 :: c22 :: c23 :: c24 :: c25 :: c26 :: c27 :: c28 :: c29 :: c30 :: c31 :: c32 :: c33 :: c34 :: c35 :: c36 :: c37 :: c38 :: c39 :: c40 :: c41 :: c42 :: c43 :: c44 :: c45 :: c46 :: c47 :: c48 :: c49 :: c50 :: c51 :: c52 :: c53 :: c54 :: c55 :: c56 :: c57 :: c58 :: c59 :: c60 :: c61 :: c62 :: c63 :: c64 :: c65 :: c66 :: c67 :: c68 :: c69 :: c70 :: c71 :: c72 :: .int .i64 0 :: c74 :: c75 :: c76 :: c77 :: c78 :: c79 :: c80 :: c81 :: c82 :: c83 :: c84 :: c85 :: c86 :: c87 :: c88 :: c89 :: c90 :: c91 :: c92 :: c93 :: c94 :: c95 :: c96 :: c97 :: c98 :: c99 :: c100 :: c101 :: c102 :: c103 :: c104 :: c105 :: c106 :: c107 :: c108 :: c109 :: c110 :: c111 :: c112 :: c113 :: c114 :: c115 :: c116 :: c117 :: c118 :: c119 :: c120 :: c121 :: c122 :: c123 :: c124 :: c125 :: c126 :: c127 :: c128 :: c129 :: c130 :: c131 :: c132 :: c133 :: c134 :: c135 :: c136 :: c137 :: c138 :: c139 :: c140 :: c141 :: c142 :: c143 :: c144 :: c145 :: c146 :: c147 :: c148 :: c149 :: c150 :: c151 :: c152 :: c153 :: c154 :: c155 :: c156 :: c157 :: c158 :: c159 :: c160 :: c161 :: c162 :: c163 :: c164 :: c165 :: c166 :: c167 :: c168 :: c169 :: c170 :: c171 :: c172 :: c173 :: c174 :: c175 :: c176 :: c177 :: c178 :: c179 :: c180 :: c181 :: c182 :: c183 :: c184 :: c185 :: c186 :: c187 :: c188 :: c189 :: c190 :: c191 :: c192 :: c193 :: c194 :: c195 :: c196 :: c197 :: c198 :: c199 :: c200 :: c201 :: c202 :: []), []⟩ w := by
  conv => arg 2; whnf
  obtain ⟨fs, v, o, p, bs, dur, hD, hL, rfl, he⟩ := HP.out
  have HD := Lib.hid hD
  have HL := Lib.hid hL
  have HE := Lib.hid he
  clear hD hL he HP

  have hx0 : (0 : Int) ≤ (x : Int) := by omega
  go_wp2_with fail
  refine (parm_all (by omega) (by omega) HD).mono ?_
  rintro e2 w2 ⟨rfl, hN⟩
  obtain ⟨fs2, hD2, m2⟩ := HD.out.next hN
  have HL2 := Lib.hid (HD.out.logsP HL.out m2 (o2 := o) (fun h => h))
  have HD2 := Lib.hid hD2
  clear hN hD2 m2 HD HL
  go_wp2_with fail
  refine (rarm_any g' gB gF room dur o p v bs _ w2 (Lib.hid HD2.out.r) (by omega) (by omega)).mono ?_
  rintro e3 w3 ⟨rfl, hN3⟩
  obtain ⟨v3, hD3, m3⟩ := HD2.out.rnext hN3
  have HL3 := Lib.hid (HD2.out.logsR HL2.out m3 (o2 := o) (fun h => h))
  have HD3 := Lib.hid hD3
  clear hN3 hD3 m3 HD2 HL2
  go_wp2
  exact (hend _ _ _ _ _ _ _ _ _ _ _ _ _ _ _ _ _ _ _ _ _ _ _ _ _ _ _ _ _ _ _ _ _ _ _ _ _ _ _ _ _ _ _ _ _ _ _ _ _ _ _ _ _ _ _ _ _ _ _ _ _ _ _ _ _ _ _ _ _ _ _ _ _ _ _ _ _ _ _ _ _ _ _ _ _ _ _ _ _ _ _ _ _ _ _ _ _ _ _ _ _ _ _ _ _ (Lib.hid ⟨fs2, v3, o, _, bs, dur, HD3.out, HL3.out.all (Below.refl _ _) (Nat.le_succ i), rfl, HE.out⟩)).1
end Go.Proofs.YtldmokjpfnakkaaGreat
