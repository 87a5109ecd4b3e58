/- append of bytes onto a row of the call's own: what was read before is read after. -/
import Derived.Test.YtldmokjpfnakkaaWireRefW
import Derived.Maps.AppendAt
namespace Go.Proofs.Ytldmokjpfnakkaa
open Go.RowKit

theorem own_keeps {w : World} {base k m c cv : Nat} {A A' : Option Addr} {bs xs : List UInt8} (h : w.ownsRow base 5 1 (.slice A k cv) k (bs.map fun b => Value.int .u8 ((b.toNat : Nat) : Int))) (hx : xs.length = m) (hR : Rd w w.heap.size A' m (vByte xs)) (hk0 : 0 < k) (hm0 : 0 < m) (hk : k + m ≤ 35184372088832) (hbase : base ≤ w.heap.size) :
    ∃ A3 n3 c3 w3, Hid ((Builtin.append_ #[23, 23] 23 #[.slice A k cv, .slice A' m c]).run Try.prog w = .ok (.slice A3 n3 c3) w3) ∧ Hid (n3 = k + m) ∧
      w3.ownsRow base 5 1 (.slice A3 n3 c3) n3 ((bs ++ xs).map fun b => Value.int .u8 ((b.toNat : Nat) : Int)) ∧ w.grownBy w3 (Value.slice A k cv).ownBlock ∧ Rd w3 w3.heap.size A k (vByte bs) := by
  obtain ⟨i0, hi, hz0, hz1, hz2⟩ := info_parts info_u8
  obtain ⟨v', w3, hap, hown, hb, _⟩ := run_append_rd (P := Try.prog) w base 23 23 5 i0 _ 1 Try.underlying23 hi hz0 hz1 hz2 rfl _ k _ h w.heap.size A' m c (vByte xs) hR hR.none_ (fun _ _ => rfl) (by unfold maxLen; omega) (by omega) hbase
  obtain ⟨A3, c3, rfl⟩ := own_slice hown
  have e : (List.range m).map (vByte xs) = xs.map fun b => Value.int .u8 ((b.toNat : Nat) : Int) := by
    subst hx
    refine List.ext_getElem (by simp) fun i h1 h2 => ?_
    have hi : i < xs.length := by simpa using h2
    simp [vByte, hi]
  rw [e, ← List.map_append] at hown
  obtain ⟨n3, hn3⟩ : ∃ n3, n3 = k + m := ⟨_, rfl⟩
  rw [← hn3] at hown hap
  replace hn3 := Lib.hid hn3
  have hrun := Lib.hid hap
  refine ⟨A3, n3, c3, w3, hrun, hn3, hown, hb, ?_⟩
  have hrd := (rd_bytes h).2.2
  obtain ⟨ab, ao, rfl, hab, hac⟩ := hR hm0
  have hl : (xs.map fun b => Value.int .u8 ((b.toNat : Nat) : Int)).length = m * i0.size := by rw [hz1]; simp [hx]
  have hnews : ∀ (j : Nat) u, (xs.map fun b => Value.int .u8 ((b.toNat : Nat) : Int))[j]? = some u → w.cell? ((⟨ab, ao, none⟩ : Addr).add j) = some u := by
    intro j u hu
    have hj : j < m := by
      rcases Nat.lt_or_ge j m with h | h
      · exact h
      · rw [List.getElem?_eq_none (by simp; omega)] at hu
        cases hu
    have ea : (⟨ab, ao, none⟩ : Addr).add j = ⟨ab, ao + j, none⟩ := by unfold Addr.add; split <;> simp_all
    rw [ea, hac j hj]
    have hj' : j < xs.length := by omega
    rw [List.getElem?_map, List.getElem?_eq_getElem hj'] at hu
    simp only [Option.map_some, Option.some.injEq] at hu
    rw [← hu]
    simp [vByte, hj']
  have h1 : ∀ u ∈ (xs.map fun b => Value.int .u8 ((b.toNat : Nat) : Int)), u.oneCell' = true := by
    intro u hu
    obtain ⟨_, _, rfl⟩ := List.mem_map.1 hu
    rfl
  rcases h.2 with ⟨h2, h0⟩ | ⟨g, cap, cur, h2, hbg, hg, hnc, hcm, hcs, htake⟩
  · omega
  · injection h2 with h2 h3 h4
    subst h2 h4
    by_cases hroom : k + m ≤ cv
    · have hfit : k * i0.size + (xs.map fun b => Value.int .u8 ((b.toNat : Nat) : Int)).length ≤ cur.size := by rw [hl, hcs, hz1]; omega
      have hr := run_append_room (P := Try.prog) w 23 23 5 i0 Try.underlying23 hi g k cv cur hg ⟨ab, ao, none⟩ m c _ hl hnews h1 hroom hfit
      rw [hrun.out] at hr
      injection hr with hr1 hr2
      injection hr1 with hr3 hr4 hr5
      subst hr3
      have := (rd_bytes hown).2.2
      rw [hn3.out] at this
      exact (this.less (show k ≤ k + m by omega)).congr (fun j hj => by
        have hbl : bs.length = k := by simpa using h.1
        unfold vByte
        rw [List.getElem?_append_left (by omega)])
    · have holds : ∀ j u, (bs.map fun b => Value.int .u8 ((b.toNat : Nat) : Int))[j]? = some u → w.cell? ((⟨g, 0, none⟩ : Addr).add j) = some u := h.cells (g := g) rfl
      have hr := run_append_grow (P := Try.prog) w 23 23 5 i0 _ Try.underlying23 hi hz0 ⟨g, 0, none⟩ k cv _ (by rw [hz1]; exact h.1) holds ⟨ab, ao, none⟩ m c _ hl hnews (by omega) (by omega) (growslice_fits (by omega) (by rw [hz2]; omega))
      rw [hrun.out] at hr
      injection hr with hr1 hr2
      subst hr2
      exact (hrd.keep (fun b hb => Below.heap_alloc w.drew _ b hb)).more (by simp)
end Go.Proofs.Ytldmokjpfnakkaa
