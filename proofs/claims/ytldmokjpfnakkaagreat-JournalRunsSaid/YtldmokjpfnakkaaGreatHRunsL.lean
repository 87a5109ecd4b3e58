/- JournalRuns: the loop. -/
import Derived.Test.YtldmokjpfnakkaaGreatHRunsW
import Derived.Deep.DeepCutAuto
import Derived.Deep.CutBlock

namespace Go.Proofs.YtldmokjpfnakkaaGreat
open Go.ChangeShapes Go.WideShapes Go.ChangeAt Go.RowKit Go.ChangeMaps

/-- At the loop's head. -/
def RL (W : World) (g mb g' gB gF room : Nat) (pl e rl f iv : Value) (ws : World) : Prop := ∃ i : Nat, i ≤ 14 ∧ iv = .int .i64 (i : Int) ∧ Hid (PR W g mb g' gB gF room i pl e rl f ws)
theorem tdiv8 {n : Int} (h1 : -9223372036854775808 ≤ n) (h2 : n ≤ 9223372036854775807) : -9223372036854775808 ≤ n.tdiv 8 ∧ n.tdiv 8 ≤ 9223372036854775807 := by
  rcases Int.le_total 0 n with h | h
  · rw [Int.tdiv_eq_ediv_of_nonneg h]
    omega
  · have e : n.tdiv 8 = -((-n).tdiv 8) := by rw [Int.neg_tdiv]; simp
    rw [e, Int.tdiv_eq_ediv_of_nonneg (by omega)]
    omega
theorem PR.below {W w : World} {g mb g' gB gF room i : Nat} {pl e rl f : Value} (h : PR W g mb g' gB gF room i pl e rl f w) : Below W.heap.size W w := by
  obtain ⟨fs, v, o, p, bs, dur, h1, h2, h3, h4⟩ := h
  exact h1.below
set_option maxRecDepth 1000000 in
set_option maxHeartbeats 100000000 in
theorem runs_loop {W : World} {A0 : Option Addr} {n0 cc0 : Nat} {g mb g' gB gF room : Nat} {f0 : Nat → Int} (hroom : room ≤ 300) (hR0 : Rd W W.heap.size A0 n0 (fun j => .int .i64 (f0 j))) (HW : Hid (∀ j, j < n0 → -9223372036854775808 ≤ f0 j ∧ f0 j ≤ 9223372036854775807))
    {c0 c2 c3 c5 c9 c12 c22 c23 c24 c25 c26 c27 c28 c29 c30 c31 c32 c33 c34 c35 c36 c37 c38 c39 c40 c41 c42 c197 c198 c199 c200 c201 c202 u4 u8 u10 u11 u13 u14 u15 u16 u17 u18 u19 u20 u21 u43 u44 u45 u46 u47 u48 u49 u50 u51 u52 u53 u54 u55 u56 u57 u58 u59 u60 u61 u62 u63 u64 u65 u66 u67 u68 u69 u70 u71 u72 u73 u74 u75 u76 u77 u78 u79 u80 u81 u82 u83 u84 u85 u86 u87 u88 u89 u90 u91 u92 u93 u94 u95 u96 u97 u98 u99 u100 u101 u102 u103 u104 u105 u106 u107 u108 u109 u110 u111 u112 u113 u114 u115 u116 u117 u118 u119 u120 u121 u122 u123 u124 u125 u126 u127 u128 u129 u130 u131 u132 u133 u134 u135 u136 u137 u138 u139 u140 u141 u142 u143 u144 u145 u146 u147 u148 u149 u150 u151 u152 u153 u154 u155 u156 u157 u158 u159 u160 u161 u162 u163 u164 u165 u166 u167 u168 u169 u170 u171 u172 u173 u174 u175 u176 u177 u178 u179 u180 u181 u182 u183 u184 u185 u186 u187 u188 u189 u190 u191 u192 u193 u194 u195 u196 : Value} {Q : Exit → Act → World → Prop} {w : World} (hpan : ∀ (c : _) (a : Act) (d : Option Tmp) (v : Value) (w : World), Q (.panic c) (a.put d v) w → Q (.panic c) a w) (hrel : RL W g mb g' gB gF room u8 u10 u11 u13 u14 w)
    (hexit : ∀ (x4 x8 x10 x11 x13 x14 x15 x16 x17 x18 x19 x20 x21 x43 x44 x45 x46 x47 x48 x49 x50 x51 x52 x53 x54 x55 x56 x57 x58 x59 x60 x61 x62 x63 x64 x65 x66 x67 x68 x69 x70 x71 x72 x73 x74 x75 x76 x77 x78 x79 x80 x81 x82 x83 x84 x85 x86 x87 x88 x89 x90 x91 x92 x93 x94 x95 x96 x97 x98 x99 x100 x101 x102 x103 x104 x105 x106 x107 x108 x109 x110 x111 x112 x113 x114 x115 x116 x117 x118 x119 x120 x121 x122 x123 x124 x125 x126 x127 x128 x129 x130 x131 x132 x133 x134 x135 x136 x137 x138 x139 x140 x141 x142 x143 x144 x145 x146 x147 x148 x149 x150 x151 x152 x153 x154 x155 x156 x157 x158 x159 x160 x161 x162 x163 x164 x165 x166 x167 x168 x169 x170 x171 x172 x173 x174 x175 x176 x177 x178 x179 x180 x181 x182 x183 x184 x185 x186 x187 x188 x189 x190 x191 x192 x193 x194 x195 x196 : Value) (w' : World), RL W g mb g' gB gF room x8 x10 x11 x13 x14 w' → Q (.exit 0) ⟨List.toArray (c0 :: .slice A0 n0 cc0 :: c2 :: c3 :: x4 :: c5 :: .pointer (some ⟨g, 0, none⟩) :: .pointer (some ⟨g', 0, none⟩) :: x8 :: c9 :: x10 :: x11 :: c12 :: x13 :: x14 :: x15 :: x16 :: x17 :: x18 :: x19 :: x20 :: x21 :: c22 :: c23 :: c24 :: c25 :: c26 :: c27 :: c28 :: c29 :: c30 :: c31 :: c32 :: c33 :: c34 :: c35 :: c36 :: c37 :: c38 :: c39 :: c40 :: c41 :: c42 :: x43 :: x44 :: x45 :: x46 :: x47 :: x48 :: x49 :: x50 :: x51 :: x52 :: x53 :: x54 :: x55 :: x56 :: x57 :: x58 :: x59 :: x60 :: x61 :: x62 :: x63 :: x64 :: x65 :: x66 :: x67 :: x68 :: x69 :: x70 :: x71 :: x72 :: x73 :: x74 :: x75 :: x76 :: x77 :: x78 :: x79 :: x80 :: x81 :: x82 :: x83 :: x84 :: x85 :: x86 :: x87 :: x88 :: x89 :: x90 :: x91 :: x92 :: x93 :: x94 :: x95 :: x96 :: x97 :: x98 :: x99 :: x100 :: x101 :: x102 :: x103 :: x104 :: x105 :: x106 :: x107 :: x108 :: x109 :: x110 :: x111 :: x112 :: x113 :: x114 :: x115 :: x116 :: x117 :: x118 :: x119 :: x120 :: x121 :: x122 :: x123 :: x124 :: x125 :: x126 :: x127 :: x128 :: x129 :: x130 :: x131 :: x132 :: x133 :: x134 :: x135 :: x136 :: x137 :: x138 :: x139 :: x140 :: x141 :: x142 :: x143 :: x144 :: x145 :: x146 :: x147 :: x148 :: x149 :: x150 :: x151 :: x152 :: x153 :: x154 :: x155 :: x156 :: x157 :: x158 :: x159 :: x160 :: x161 :: x162 :: x163 :: x164 :: x165 :: x166 :: x167 :: x168 :: x169 :: x170 :: x171 :: x172 :: x173 :: x174 :: x175 :: x176 :: x177 :: x178 :: x179 :: x180 :: x181 :: x182 :: x183 :: x184 :: x185 :: x186 :: x187 :: x188 :: x189 :: x190 :: x191 :: x192 :: x193 :: x194 :: x195 :: x196 :: c197 :: c198 :: c199 :: c200 :: c201 :: c202 :: []), []⟩ w') :
    Code.wp Tryz.prog (Code.loop (nthLoop Tryz.f3 0)) Q ⟨List.toArray (c0 :: .slice A0 n0 cc0 :: c2 :: c3 :: u4 :: c5 :: .pointer (some ⟨g, 0, none⟩) :: .pointer (some ⟨g', 0, none⟩) :: u8 :: c9 :: u10 :: u11 :: c12 :: u13 :: u14 :: u15 :: u16 :: u17 :: u18 :: u19 :: u20 :: u21 :: c22 :: c23 :: c24 :: c25 :: c26 :: c27 :: c28 :: c29 :: c30 :: c31 :: c32 :: c33 :: c34 :: c35 :: c36 :: c37 :: c38 :: c39 :: c40 :: c41 :: c42 :: u43 :: u44 :: u45 :: u46 :: u47 :: u48 :: u49 :: u50 :: u51 :: u52 :: u53 :: u54 :: u55 :: u56 :: u57 :: u58 :: u59 :: u60 :: u61 :: u62 :: u63 :: u64 :: u65 :: u66 :: u67 :: u68 :: u69 :: u70 :: u71 :: u72 :: u73 :: u74 :: u75 :: u76 :: u77 :: u78 :: u79 :: u80 :: u81 :: u82 :: u83 :: u84 :: u85 :: u86 :: u87 :: u88 :: u89 :: u90 :: u91 :: u92 :: u93 :: u94 :: u95 :: u96 :: u97 :: u98 :: u99 :: u100 :: u101 :: u102 :: u103 :: u104 :: u105 :: u106 :: u107 :: u108 :: u109 :: u110 :: u111 :: u112 :: u113 :: u114 :: u115 :: u116 :: u117 :: u118 :: u119 :: u120 :: u121 :: u122 :: u123 :: u124 :: u125 :: u126 :: u127 :: u128 :: u129 :: u130 :: u131 :: u132 :: u133 :: u134 :: u135 :: u136 :: u137 :: u138 :: u139 :: u140 :: u141 :: u142 :: u143 :: u144 :: u145 :: u146 :: u147 :: u148 :: u149 :: u150 :: u151 :: u152 :: u153 :: u154 :: u155 :: u156 :: u157 :: u158 :: u159 :: u160 :: u161 :: u162 :: u163 :: u164 :: u165 :: u166 :: u167 :: u168 :: u169 :: u170 :: u171 :: u172 :: u173 :: u174 :: u175 :: u176 :: u177 :: u178 :: u179 :: u180 :: u181 :: u182 :: u183 :: u184 :: u185 :: u186 :: u187 :: u188 :: u189 :: u190 :: u191 :: u192 :: u193 :: u194 :: u195 :: u196 :: c197 :: c198 :: c199 :: c200 :: c201 :: c202 :: []), []⟩ w := by
  conv => arg 2; arg 1; whnf
  go_loopw [8, 10, 11, 13, 14] (fun pl e rl f iv ws => RL W g mb g' gB gF room pl e rl f iv ws) (fun _ _ _ _ iv _ => 14 - (intOf iv).toNat)
  case atStart => exact hrel
  case round =>
    unfold RL at hrel
    obtain ⟨i, hi, rfl, HP⟩ := hrel
    by_cases hlt : i < n0
    · have hltI : (i : Int) < (n0 : Int) := by omega
      have hi0 : (0 : Int) ≤ (i : Int) := by omega
      by_cases h14 : i < 14
      · have h14I : (i : Int) < 14 := by omega
        obtain ⟨b, off, rfl, hbl, hcs⟩ := (hR0.below HP.out.below (Nat.le_refl _)) (by omega)
        have hc := hcs i hlt
        have hy := HW.out i hlt
        obtain ⟨y, hy2⟩ : ∃ y, f0 i = y := ⟨_, rfl⟩
        dsimp only at hc hy
        rw [hy2] at hc hy
        obtain ⟨hy0, hy1⟩ := hy
        have ht := tdiv8 hy0 hy1
        have HC := Lib.hid hc
        clear hcs hy2
        go_wp2_with fail
        refine (around_nat _ 1048576 _ _ rfl ht.1 ht.2 (by decide) (by decide)).mono ?_
        rintro e2 w2 ⟨x, rfl, hx, -, hw2⟩
        subst hw2
        clear ht
        go_upto_region 12 with fail
        go_cut [68] from 43 to 196 (fun v wx => v = .bool false ∧ wx = wr)
        case first =>
          obtain ⟨fs, v, o, p, bs, dur, -, hL, rfl, he⟩ := HP.out
          rcases hL with ⟨rfl, rfl⟩ | ⟨gl, gl', N, down, rfl, rfl, -⟩
          · rcases he with rfl | rfl
            · go_wp2
              go_meet
              exact ⟨rfl, rfl⟩
            · go_wp2
              go_meet
              exact ⟨rfl, rfl⟩
          · rcases he with rfl | rfl
            · go_wp2
              go_meet
              exact ⟨rfl, rfl⟩
            · go_wp2
              go_meet
              exact ⟨rfl, rfl⟩
        case rest =>
          obtain ⟨rfl, hwc⟩ := hcut
          subst hwc
          have hc := HC.out
          go_wp2_with fail
          refine (around_nat _ 8 _ _ rfl hy0 hy1 (by decide) (by decide)).mono ?_
          rintro e2 w2 ⟨k8, rfl, hk8, -, rfl⟩
          go_upto_block 2 with fail
          refine runs_sw hx hroom HP hi (by omega) ?_ ?_
          · exact fun c a d v w h => hpan c a d v w h
          · intros
            rename_i h5
            refine ⟨?_, ?_⟩
            · dsimp only [Exit.then]
              apply_assumption
              refine runs_chk h5 ?_
              intros
              rename_i h6
              refine ⟨?_, ?_⟩
              · go_wp2
                exact ⟨⟨i + 1, by omega, by go_num, h6⟩, by simp [intOf]; omega⟩
              · go_wp2
                exact ⟨⟨i + 1, by omega, by go_num, h6⟩, by simp [intOf]; omega⟩
            · go_wp2
              exact ⟨⟨i + 1, by omega, by go_num, h5⟩, by simp [intOf]; omega⟩
      · have h14I : ¬ ((i : Int) < 14) := by omega
        go_wp2
        exact ⟨i, hi, rfl, HP⟩
    · have hltI : ¬ ((i : Int) < (n0 : Int)) := by omega
      go_wp2
      exact ⟨i, hi, rfl, HP⟩
end Go.Proofs.YtldmokjpfnakkaaGreat
