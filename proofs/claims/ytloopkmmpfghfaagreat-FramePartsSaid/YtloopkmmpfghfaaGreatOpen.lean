/-
  A row of bytes that came in, in the words of the walks.
-/
import Derived.Test.YtloopkmmpfghfaaGreatW2
namespace Go.Proofs.YtloopkmmpfghfaaGreat
open Go.RowKit

theorem rdB_of_row {w : World} {a : Option Addr} {len cap : Nat} {zs : List Int}
    (h : (a = none ∧ len = 0 ∧ cap = 0 ∧ zs = []) ∨
      ∃ x, a = some x ∧ len ≤ cap ∧ cap ≤ maxLen ∧ zs.length = cap ∧ (∀ i, i < zs.length → w.cell? (x.add i) = some (.int .u8 (zs.getD i 0))) ∧ ∀ n ∈ zs, (Lit.int .u8 n).wf = true) :
    ∃ xs : List Nat, RdB w w.heap.size a len xs ∧ len ≤ cap := by
  rcases h with ⟨rfl, rfl, rfl, rfl⟩ | ⟨x, rfl, hl, hm, hz, hcell, hwf⟩
  · exact ⟨[], rdB_nil _ _ _, Nat.le_refl _⟩
  · have hnn : ∀ n ∈ zs, 0 ≤ n ∧ n < 256 := by
      intro n hn
      have := hwf n hn
      simp [Lit.wf, IntKind.min, IntKind.max, IntKind.signed, IntKind.bits] at this
      omega
    refine ⟨(zs.take len).map Int.toNat, ⟨⟨by simp [u8s]; omega, by omega, fun hp => ⟨x, rfl, ?_, ?_⟩⟩, ?_⟩, hl⟩
    · have := hcell 0 (by omega)
      have h2 := block_lt_of_cell this
      rwa [block_add] at h2
    · intro i u hu
      have hi : i < len := by
        have := (List.getElem?_eq_some_iff.1 hu).1
        simp [u8s] at this
        omega
      have hi' : i < zs.length := by omega
      have hc := hcell i hi'
      have hg : zs[i]'hi' ∈ zs := List.getElem_mem _
      have h0 := (hnn _ hg).1
      simp [u8s, hi, List.getElem?_eq_getElem hi'] at hu
      rw [hc, ← hu]
      simp [List.getD_eq_getElem?_getD, List.getElem?_eq_getElem hi']
      omega
    · intro y hy
      simp only [List.mem_map] at hy
      obtain ⟨n, hn, rfl⟩ := hy
      have := hnn n (List.mem_of_mem_take hn)
      omega

end Go.Proofs.YtloopkmmpfghfaaGreat
