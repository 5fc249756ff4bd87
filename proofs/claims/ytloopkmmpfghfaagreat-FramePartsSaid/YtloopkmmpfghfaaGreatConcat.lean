/-
  The walks of slices.Grow and slices.Concat at bytes.
-/
import Derived.Test.YtloopkmmpfghfaaGreatW
namespace Go.Proofs.YtloopkmmpfghfaaGreat
open Go.RowKit

set_option maxRecDepth 100000 in
set_option maxHeartbeats 1000000 in
theorem grow_u8 (n : Nat) (w : World) (hn : 0 < n) (hn2 : n ≤ 1000000000) :
    Calls Tryz.prog 40 #[.slice none 0 0, .int .i64 n] w fun e w' => ∃ v, e = .returned v ∧ OwnU8 w' w.heap.size v [] ∧ Below w.heap.size w w' := by
  have hb5 : Tryz.t5.bytes = 1 := by kernel_rfl
  have hns : Builtin.nextslicecap n 0 = n := by unfold Builtin.nextslicecap; simp; omega
  have hi1 : ¬ (281474976710656 : Int) < (n : Int) := by omega
  have hi2 : ¬ 281474976710656 < n := by omega
  have hi3 : ¬ n = 0 := by omega
  go_enter Tryz.func40, Tryz.ntmps40
  go_wp2
  go_ret
  have hge := grownCap_ge w n 0 5
  have hle := grownCap_le_maxLen w n 0 5 (by unfold maxLen; omega)
  unfold grownCap at hge hle
  refine ⟨_, rfl, ⟨by simp [u8s], .inr ⟨w.heap.size, _, _, rfl, Nat.le_refl _, heap_alloc_new _ _, Nat.zero_le _, hle, ?_, by simp [u8s]⟩⟩, below_drew ((Below.refl _ _).alloc (Nat.le_refl _) _)⟩
  simp only [Array.size_append, size_zeroCells, List.size_toArray, List.length_cons, List.length_nil]
  omega

set_option maxRecDepth 100000 in
set_option maxHeartbeats 1000000 in
theorem grow_none (w : World) :
    Calls Tryz.prog 40 #[.slice none 0 0, .int .i64 0] w fun e w' => e = .returned (.slice none 0 0) ∧ w = w' := by
  go_enter Tryz.func40, Tryz.ntmps40
  go_wp2
  go_ret
  exact ⟨rfl, rfl⟩

theorem grow_any (n : Nat) (w : World) (hn2 : n ≤ 1000000000) :
    Calls Tryz.prog 40 #[.slice none 0 0, .int .i64 n] w fun e w' => ∃ v, e = .returned v ∧ OwnU8 w' w.heap.size v [] ∧ Below w.heap.size w w' := by
  rcases Nat.eq_zero_or_pos n with rfl | h
  · exact (grow_none w).mono fun e w' ⟨h1, h2⟩ => ⟨_, h1, ownU8_nil _ _, h2 ▸ Below.refl _ _⟩
  · exact grow_u8 n w h hn2

/-- A row of bytes as it lies. -/
structure RowU where
  A : Option Addr
  n : Nat
  c : Nat
  xs : List Nat

def flat (rows : List RowU) : List Nat := rows.flatMap (·.xs)

/-- Rows of bytes, one behind another. -/
def RdRows (w : World) (B : Nat) (ad : Addr) (rows : List RowU) : Prop :=
  ∀ (j : Nat) (r : RowU), rows[j]? = some r → w.cell? (ad.add j) = some (.slice r.A r.n r.c) ∧ RdB w B r.A r.n r.xs ∧ r.n ≤ r.c

theorem RdRows.below {w w' : World} {B C : Nat} {ad : Addr} {rows : List RowU} (h : RdRows w B ad rows) (hb : Below C w w') (hB : B ≤ C) (ha : ad.block < C) : RdRows w' B ad rows := by
  intro j r hj
  obtain ⟨h1, h2, h3⟩ := h j r hj
  exact ⟨(hb.cell (p := ad.add j) (by rw [block_add]; exact ha)).trans h1, h2.below hb hB, h3⟩

theorem flat_take {rows : List RowU} {k : Nat} {r : RowU} (h : rows[k]? = some r) : flat (rows.take (k + 1)) = flat (rows.take k) ++ r.xs := by
  obtain ⟨hl, e⟩ := List.getElem?_eq_some_iff.1 h
  unfold flat
  rw [List.take_succ_eq_append_getElem hl, List.flatMap_append, e]
  simp

theorem flat_take_le (rows : List RowU) (k : Nat) : (flat (rows.take k)).length ≤ (flat rows).length := by
  have : flat rows = flat (rows.take k) ++ flat (rows.drop k) := by
    unfold flat
    rw [← List.flatMap_append, List.take_append_drop]
  rw [this]
  simp

set_option maxRecDepth 100000 in
set_option maxHeartbeats 1000000 in
theorem concat_any {B : Nat} (ad : Addr) (m c : Nat) (rows : List RowU) (w : World) (hr : RdRows w B ad rows) (hm : rows.length = m) (hm2 : m ≤ 1000000) (ha : ad.block < w.heap.size) (hB : B ≤ w.heap.size) (hlen : (flat rows).length ≤ 1000000000) :
    Calls Tryz.prog 26 #[.slice (some ad) m c] w fun e w' => ∃ v, e = .returned v ∧ OwnU8 w' w.heap.size v (flat rows) ∧ Below w.heap.size w w' := by
  go_enter Tryz.func26, Tryz.ntmps26
  go_wp2
  go_loop [3, 11] (fun s i => ∃ k : Nat, k ≤ m ∧ i = .int .i64 k ∧ s = .int .i64 ((flat (rows.take k)).length : Nat)) (fun _ i => m - (intOf i).toNat)
  case atStart => exact ⟨0, by omega, rfl, rfl⟩
  case round =>
    obtain ⟨k, hk, rfl, rfl⟩ := hrel
    by_cases hlt : k < m
    · obtain ⟨r, hrk⟩ : ∃ r, rows[k]? = some r := ⟨_, List.getElem?_eq_getElem (by omega)⟩
      obtain ⟨hc, hrd, hnc⟩ := hr k r hrk
      have hx := flat_take hrk
      have hx2 := flat_take_le rows (k + 1)
      have hxl := congrArg List.length hx
      rw [List.length_append, hrd.len] at hxl
      have HRK := Lib.hid hrk
      have HXL := Lib.hid hxl
      have hs1 : (flat (rows.take k)).length ≤ 1000000000 := Nat.le_trans (flat_take_le rows k) hlen
      have hs2 : (flat (rows.take k)).length + r.n ≤ 1000000000 := by omega
      clear hrk hx hxl hx2
      generalize hL : (flat (rows.take k)).length = L at *
      have HL := Lib.hid hL
      clear hL
      have hneg : ¬ ((L : Int) + (r.n : Int) < 0) := by omega
      go_wp2
      go_round
      case rel => exact ⟨k + 1, by omega, by go_num, by rw [HXL.out]; go_num⟩
      case measure => simp [intOf]; omega
    · obtain rfl : k = m := by omega
      have hall : rows.take k = rows := List.take_of_length_le (by omega)
      rw [hall]
      clear hall
      go_wp2_with fail
      refine (grow_any _ _ hlen).mono ?_
      rintro e w1 ⟨v1, rfl, hown, hb⟩
      obtain ⟨A1, c1, rfl, hc1, _⟩ := hown.rd
      go_wp2
      go_loopw [6, 8, 27] (fun v _ i wr => ∃ j : Nat, j ≤ k ∧ i = .int .i64 j ∧ OwnU8 wr w.heap.size v (flat (rows.take j)) ∧ Below w.heap.size w wr) (fun _ _ i _ => k - (intOf i).toNat)
      case atStart => exact ⟨0, by omega, rfl, hown, hb⟩
      case round =>
        obtain ⟨j, hj, rfl, hown2, hb2⟩ := hrel
        by_cases hlt2 : j < k
        · obtain ⟨r, hrk⟩ : ∃ r, rows[j]? = some r := ⟨_, List.getElem?_eq_getElem (by omega)⟩
          obtain ⟨hc, hrd, hnc⟩ := (hr.below hb2 hB ha) j r hrk
          have HX := Lib.hid (flat_take hrk)
          have hx2 := flat_take_le rows (j + 1)
          rw [HX.out, List.length_append] at hx2
          have hsz := hb2.size
          clear hrk
          go_wp2_with (at_builtin; refine app_u8 rfl _ _ rfl _ _ _ rfl hown2 _ _ _ _ r.xs rfl hrd.rd (by omega) hsz ?_; intro v2 w2 hown3 hg3 _)
          go_roundw
          case rel => exact ⟨j + 1, by omega, by go_num, by rw [HX.out]; exact hown3, hb2.grown hg3 hsz hown2.ge⟩
          case measure => simp [intOf]; omega
        · obtain rfl : j = k := by omega
          have hall : rows.take j = rows := List.take_of_length_le (by omega)
          rw [hall] at hown2
          go_wp2
          go_ret
          exact ⟨_, rfl, hown2, hb2⟩

end Go.Proofs.YtloopkmmpfghfaaGreat
