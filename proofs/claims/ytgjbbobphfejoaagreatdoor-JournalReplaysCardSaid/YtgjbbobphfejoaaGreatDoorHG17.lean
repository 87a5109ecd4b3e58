/- catalog.fits: names that are words. -/
import Derived.Test.YtgjbbobphfejoaaGreatDoorHG16
import Derived.Test.YtgjbbobphfejoaaGreatDoorHG15
import Derived.StillTailTactics
import Derived.Test.YtgjbbobphfejoaaGreatDoorHGMap
import Derived.Test.YtgjbbobphfejoaaGreatDoorHG2
import Derived.StringKeys
import Derived.Laws.EntriesVeiled

namespace Go.Proofs.YtgjbbobphfejoaaGreatDoor
open Go.RowKit

theorem IsWord.skip0 {s : ByteArray} (hs : IsWord s) : LxS s 0 0 := fun w hK => by
  have h0 : 0 < s.size := hs.1
  have := skip_in s 0 w h0 (hs.2.2 0 h0).1 (hs.2.2 0 h0).2 (Lib.hid hK)
  exact this.mono fun e w' ⟨h1, h2⟩ => ⟨h1, by rw [h2]; exact Below.refl _ _⟩
theorem IsWord.lxp {s : ByteArray} (hs : IsWord s) : LxP s 0 [⟨0, s, 0, 0⟩] := by
  have e0 : (0 : Int) + (s.size : Int) = (s.size : Int) := by omega
  refine ⟨by have := hs.1; omega, fun w hK => next_any s w (Lib.hid hs) (Lib.hid hK), ?_, (s.size : Int), ?_, rfl⟩
  · show IntKind.i64.wrap ((0 : Int) + (s.size : Int)) = (0 : Int) + (s.size : Int)
    rw [e0]
    exact IntWalk.i64_in _ (by have := hs.2.1; omega)
  · show LxS s ((0 : Int) + (s.size : Int)) (s.size : Int)
    rw [e0]
    intro w _
    exact (skip_end s w).mono fun e w' ⟨h1, h2⟩ => ⟨h1, by rw [h2]; exact Below.refl _ _⟩
theorem tokRow {W : World} {B n c : Nat} {A : Option Addr} {ts : List Tk} (h : W.ownsRow B 234 4 (.slice A n c) ts.length (ts.flatMap tkV)) {k : Nat} (hk : k < ts.length) : n = ts.length ∧ ∃ g, A = some ⟨g, 0, none⟩ ∧ B ≤ g ∧ W.cell? ⟨g, k * 4, none⟩ = some (.int .i64 ts[k].kind) ∧ W.cell? ⟨g, k * 4 + 1, none⟩ = some (.string ts[k].text) ∧ W.cell? ⟨g, k * 4 + 2, none⟩ = some (.int .i64 ts[k].n) ∧ W.cell? ⟨g, k * 4 + 3, none⟩ = some (.int .i64 ts[k].at_) := by
  rcases h.2 with ⟨-, h2⟩ | ⟨g, cap, cur, h2, h3, h4, h5, h6, h7, h8⟩
  · omega
  · injection h2 with h2 h10 h9
    have hc : ∀ i, i < 4 → W.cell? ⟨g, k * 4 + i, none⟩ = (tkV ts[k])[i]? := by
      intro i hi
      rw [← flatT_at tkV 4 tkV_len ts k i hk hi, ← h8, List.getElem?_take_of_lt (by omega)]
      simp [World.cell?, h4]
    exact ⟨h10, g, h2, h3, hc 0 (by omega), hc 1 (by omega), hc 2 (by omega), hc 3 (by omega)⟩
set_option maxRecDepth 100000 in
set_option maxHeartbeats 4000000 in
theorem fits_any (s : ByteArray) (w : World) (hs : Hid (IsWord s)) (HK : Hid (KL w)) : Calls Tryz.prog 91 #[.string s] w fun e w' => e = .returned (.bool true) ∧ Below w.heap.size w w' := by
  have HT := Lib.hid (tokens_any s [⟨0, s, 0, 0⟩] 0 w HK (Lib.hid hs.out.skip0) (Lib.hid hs.out.lxp) (by have := hs.out.2.1; omega) (by show 1 < 10000; decide))
  go_enter Tryz.func91, Tryz.ntmps91
  go_wp2_with fail
  refine HT.out.mono ?_
  rintro e w2 ⟨⟨A, n, c⟩, rfl, hown, hb2⟩
  unfold slV at hown
  obtain ⟨m1, g, rfl, hg, m2, m3, m4, m5⟩ := tokRow hown (k := 0) (by show 0 < 1; decide)
  have hn1 : n = 1 := m1
  clear m1
  subst hn1
  have k0 : w2.cell? ⟨g, 0, none⟩ = some (.int .i64 0) := m2
  have k1 : w2.cell? ⟨g, 1, none⟩ = some (.string s) := m3
  have HB := Lib.hid hb2
  clear hown hb2 m2 m3 m4 m5
  unfold slV
  dsimp only
  go_wp2
  go_ret
  exact ⟨rfl, HB.out⟩
set_option maxRecDepth 100000 in
theorem namesFit1_any (i : Itm) (w : World) (hs : Hid (IsWord i.nm)) (HK : Hid (KL w)) : Calls Tryz.prog 90 #[itA i] w fun e w' => e = .returned (.bool true) ∧ Below w.heap.size w w' := by
  have hb := (Below.refl w.heap.size w).alloc (Nat.le_refl _) (.cells #[.string i.nm, .bool false, .bool i.mx, .bool i.co, .int .i64 0, .int .i64 0, .int .i64 0] 90)
  have HB := Lib.hid hb
  have HF := Lib.hid (fits_any i.nm _ hs (Lib.hid (HK.out.all hb)))
  clear hb
  unfold itA
  go_enter Tryz.func90, Tryz.ntmps90
  go_wp2_with fail
  refine HF.out.mono ?_
  rintro e w2 ⟨rfl, hb2⟩
  have HB2 := Lib.hid (HB.out.trans (hb2.mono (by rw [World.size_alloc]; omega)))
  clear hb2
  go_wp2
  go_ret
  exact ⟨rfl, HB2.out⟩
end Go.Proofs.YtgjbbobphfejoaaGreatDoor

/- catalog.every, differ: over items. -/
namespace Go.Proofs.YtgjbbobphfejoaaGreatDoor
open Go.RowKit

/-- A function g of one item that answers v i, wherever R holds. -/
def ItF (R : World → Prop) (g : Nat) (v : Itm → Value) (is : List Itm) : Prop := ∀ i ∈ is, ∀ w, R w → Calls Tryz.prog g #[itA i] w fun e w' => e = .returned (v i) ∧ Below w.heap.size w w'
def Runs (g : Nat) : Prop := ∀ (args : Array Value) (w : World), (callFunc g args).run Tryz.prog w = .ok (.enter g args) w
def Stays (R : World → Prop) : Prop := ∀ w w' : World, Below w.heap.size w w' → R w → R w'
set_option maxRecDepth 100000 in
set_option maxHeartbeats 4000000 in
theorem everyItem_any (R : World → Prop) (g : Nat) (A : Option Addr) (n c : Nat) (is : List Itm) (w : World) (HR : Hid (R w)) (HSt : Hid (Stays R)) (HF : Hid (ItF R g (fun _ => .bool true) is)) (HI : Hid (ItAt w A n c is)) (hn : n ≤ 1000000) (HC : Hid (Runs g)) :
    Calls Tryz.prog 89 #[.slice A n c, .func (.func g) #[] #[]] w fun e w' => e = .returned (.bool true) ∧ Below w.heap.size w w' := by
  go_enter Tryz.func89, Tryz.ntmps89
  go_wp2
  go_loopg [9] n (fun gk iv wr => ∃ k : Nat, k + gk = n ∧ iv = .int .i64 (k : Int) ∧ Hid (Below w.heap.size w wr))
  case atStart => exact ⟨0, by omega, rfl, Lib.hid (Below.refl _ _)⟩
  case round =>
    obtain ⟨k, hi, rfl, HB⟩ := hrel
    have HHI := Lib.hid hi
    rcases Nat.lt_or_ge k n with hlt | hge
    · have hltI : (k : Int) < (n : Int) := by omega
      have hi0 : (0 : Int) ≤ (k : Int) := by omega
      obtain ⟨b, off, rfl, hb, i, hm, k0, k1, k2, k3, k4, k5, k6⟩ := (HI.out.all HB.out).at_ hlt
      have hwr : w.heap.size ≤ wr.heap.size := HB.out.size
      have HBA := Lib.hid (HB.out.alloc hwr (.cells #[.string i.nm, .bool false, .bool i.mx, .bool i.co, .int .i64 0, .int .i64 0, .int .i64 0] 90))
      have HRA := Lib.hid (HSt.out _ _ HBA.out HR.out)
      have hgt := List.mem_of_getElem? hm
      clear hi hb hm hwr
      go_wp2
      rw [HC.out]
      refine (HF.out i hgt _ HRA.out).mono ?_
      rintro e w5 ⟨rfl, hb5⟩
      have HB5 := Lib.hid (HBA.out.trans (hb5.mono (by rw [World.size_alloc]; have := HB.out.size; omega)))
      clear hb5
      go_wp2
      go_roundg (n - (k + 1))
      case measure => have := HHI.out; omega
      case rel => exact ⟨k + 1, by have := HHI.out; omega, by go_num, HB5⟩
    · obtain rfl : n = k := by omega
      go_wp2
      go_ret
      exact ⟨rfl, HB.out⟩
abbrev SK := {s : ByteArray // s.size ≤ 16}
def sEnc (s : SK) : Value := .string s.1
def nmK (s : ByteArray) : SK := if h : s.size ≤ 16 then ⟨s, h⟩ else ⟨⟨#[]⟩, by decide⟩
theorem nmK_enc {s : ByteArray} (h : s.size ≤ 16) : sEnc (nmK s) = .string s := by
  unfold nmK
  rw [dif_pos h]
  rfl
theorem nmK_inj {s t : ByteArray} (h : s.size ≤ 16) (h' : t.size ≤ 16) (e : nmK s = nmK t) : s = t := by
  unfold nmK at e
  rw [dif_pos h, dif_pos h'] at e
  exact congrArg Subtype.val e
theorem sEncOk : KeyEnc Tryz.prog 9 sEnc where
  keyed := Go.Maps.string_keyed Tryz.underlying9
  lit := fun s => ⟨_, Go.WideMaps.keyOf_string_mk Tryz.underlying9 (Nat.le_trans s.2 (by decide))⟩
  inj := fun {a b} h => by
    apply Subtype.ext
    injection h
theorem infoB : ∃ i, Tryz.prog.info? 4 = some i ∧ i.zero = some (.bool false) := by
  have h : (Tryz.prog.info? 4).map (fun i => i.zero) = some (some (.bool false)) := by kernel_rfl
  obtain ⟨i, hi, hz⟩ := Option.map_eq_some_iff.1 h
  exact ⟨i, hi, hz⟩
def seenK (is : List Itm) : List (SK × Value) := is.map fun i => (nmK i.nm, Value.bool true)
theorem seenK_none {is : List Itm} {k : Nat} {i : Itm} (hN : (is.map Itm.nm).Nodup) (hz : ∀ i ∈ is, i.nm.size ≤ 16) (hk : is[k]? = some i) : glk (seenK (is.take k)) (nmK i.nm) = none := by
  refine glk_none.2 fun p hp e => ?_
  obtain ⟨x, hx, rfl⟩ := List.mem_map.1 hp
  obtain ⟨j, hj, hxj⟩ := List.getElem_of_mem hx
  rw [List.length_take] at hj
  rw [List.getElem_take] at hxj
  obtain ⟨hk2, hik⟩ := List.getElem?_eq_some_iff.1 hk
  have en : x.nm = i.nm := nmK_inj (hz x (List.mem_of_mem_take hx)) (hz i (List.mem_of_getElem? hk)) e
  have := (List.getElem_inj (i := j) (j := k) (h₀ := by rw [List.length_map]; omega) (h₁ := by rw [List.length_map]; omega) hN).1 (by rw [List.getElem_map, List.getElem_map, hxj, hik, en])
  omega
theorem seenK_put {is : List Itm} {k : Nat} {i : Itm} (hN : (is.map Itm.nm).Nodup) (hz : ∀ i ∈ is, i.nm.size ≤ 16) (hk : is[k]? = some i) : gput (seenK (is.take k)) (nmK i.nm) (.bool true) = seenK (is.take (k + 1)) := by
  rw [gput_new (glk_none.1 (seenK_none hN hz hk))]
  obtain ⟨hk2, hik⟩ := List.getElem?_eq_some_iff.1 hk
  rw [← List.take_append_getElem hk2, hik]
  unfold seenK
  rw [List.map_append]
  rfl
set_option maxRecDepth 100000 in
set_option maxHeartbeats 4000000 in
theorem differItem_any (g : Nat) (A : Option Addr) (n c : Nat) (is : List Itm) (w : World) (HF : Hid (ItF (fun _ => True) g (fun i => .string i.nm) is)) (HI : Hid (ItAt w A n c is)) (hn : n ≤ 1000000) (HC : Hid (Runs g)) (HN : Hid ((is.map Itm.nm).Nodup)) (HZ : Hid (∀ i ∈ is, i.nm.size ≤ 16)) :
    Calls Tryz.prog 95 #[.slice A n c, .func (.func g) #[] #[]] w fun e w' => e = .returned (.bool true) ∧ Below w.heap.size w w' := by
  have hmm := fun (w : World) => run_makeMapN (P := Tryz.prog) Tryz.underlying235 .i64 (n : Int) w
  have hb0 := (Below.refl w.heap.size w).alloc (Nat.le_refl _) (.map #[] 0)
  have HB0 := Lib.hid hb0
  have HM0 := Lib.hid (GMap.new sEnc w)
  clear hb0
  go_enter Tryz.func95, Tryz.ntmps95
  go_wp2
  clear hmm
  have hl : is.length = n := HI.out.1
  have HL := Lib.hid hl
  clear hl
  go_loopg [13] n (fun gk iv wr => ∃ k : Nat, k + gk = n ∧ iv = .int .i64 (k : Int) ∧ Hid (GMap sEnc wr w.heap.size (seenK (is.take k))) ∧ Hid (Below w.heap.size w wr))
  case atStart => exact ⟨0, by omega, rfl, HM0, HB0⟩
  case round =>
    obtain ⟨k, hi, rfl, HM, HB⟩ := hrel
    have HHI := Lib.hid hi
    rcases Nat.lt_or_ge k n with hlt | hge
    · have hltI : (k : Int) < (n : Int) := by omega
      have hi0 : (0 : Int) ≤ (k : Int) := by omega
      obtain ⟨b, off, rfl, hb, i, hm, k0, k1, k2, k3, k4, k5, k6⟩ := (HI.out.all HB.out).at_ hlt
      have hwr : w.heap.size ≤ wr.heap.size := HB.out.size
      have HBA := Lib.hid (HB.out.alloc hwr (.cells #[.string i.nm, .bool false, .bool i.mx, .bool i.co, .int .i64 0, .int .i64 0, .int .i64 0] 90))
      have hba : Below wr.heap.size wr (wr.alloc (.cells #[.string i.nm, .bool false, .bool i.mx, .bool i.co, .int .i64 0, .int .i64 0, .int .i64 0] 90)) := (Below.refl _ _).alloc (Nat.le_refl _) _
      have HMA := Lib.hid (HM.out.all hba)
      have hgt := List.mem_of_getElem? hm
      have HGT := Lib.hid hm
      clear hi hb hm hwr hba
      go_wp2_with fail
      rw [HC.out]
      refine (HF.out i hgt _ trivial).mono ?_
      rintro e w5 ⟨rfl, hb5⟩
      have HM5 := Lib.hid (HMA.out.all hb5)
      have HB5 := Lib.hid (HBA.out.trans (hb5.mono (by rw [World.size_alloc]; have := HB.out.size; omega)))
      obtain ⟨jB, hjB, hzB⟩ := infoB
      have hlk := HM5.out.look sEncOk Tryz.underlying235 hjB hzB (nmK i.nm)
      rw [nmK_enc (HZ.out i hgt), seenK_none HN.out HZ.out HGT.out] at hlk
      have hlk : (Instr.lookup 235 (.map (some w.heap.size)) (.string i.nm) false).run Tryz.prog w5 = .ok (.bool false) w5 := hlk
      have hbk := (Blk.new wr 90 #[.string i.nm, .bool false, .bool i.mx, .bool i.co, .int .i64 0, .int .i64 0, .int .i64 0]).all hb5
      have y0 : w5.cell? ⟨wr.heap.size, 0, none⟩ = some (.string i.nm) := hbk.cell 0
      have y1 : w5.cell? ⟨wr.heap.size, 1, none⟩ = some (.bool false) := hbk.cell 1
      have y2 : w5.cell? ⟨wr.heap.size, 2, none⟩ = some (.bool i.mx) := hbk.cell 2
      have y3 : w5.cell? ⟨wr.heap.size, 3, none⟩ = some (.bool i.co) := hbk.cell 3
      have y4 : w5.cell? ⟨wr.heap.size, 4, none⟩ = some (.int .i64 0) := hbk.cell 4
      have y5 : w5.cell? ⟨wr.heap.size, 5, none⟩ = some (.int .i64 0) := hbk.cell 5
      have y6 : w5.cell? ⟨wr.heap.size, 6, none⟩ = some (.int .i64 0) := hbk.cell 6
      clear hjB hzB hbk k0 k1 k2 k3 k4 k5 k6
      have HBK := Lib.hid hb5
      clear hb5
      go_wp2_with fail
      rw [HC.out]
      refine (HF.out i hgt _ trivial).mono ?_
      rintro e w6 ⟨rfl, hb6⟩
      obtain ⟨w7, hrun, hM7, hg7, hs7⟩ := (HM5.out.all hb6).store sEncOk Tryz.underlying235 (nmK i.nm) (.bool true)
      rw [nmK_enc (HZ.out i hgt)] at hrun
      rw [seenK_put HN.out HZ.out HGT.out] at hM7
      have HM7 := Lib.hid hM7
      have HB7 := Lib.hid ((HB5.out.trans (hb6.mono HB5.out.size)).grown hg7 (Nat.le_trans HB5.out.size hb6.size) (fun k e => by cases e; exact Nat.le_refl _))
      clear hM7 hg7 hs7 hb6 y0 y1 y2 y3 y4 y5 y6 hlk
      go_wp2
      go_roundg (n - (k + 1))
      case measure => have := HHI.out; omega
      case rel => exact ⟨k + 1, by have := HHI.out; omega, by go_num, HM7, HB7⟩
    · obtain rfl : n = k := by omega
      go_wp2
      go_ret
      exact ⟨rfl, HB.out⟩
end Go.Proofs.YtgjbbobphfejoaaGreatDoor
