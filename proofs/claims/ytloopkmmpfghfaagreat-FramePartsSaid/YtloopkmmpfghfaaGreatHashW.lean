/-
  The walks of chapter 2's small functions: numbers out of bytes, turning, stirring.
-/
import Derived.Test.YtloopkmmpfghfaaGreatHashP
namespace Go.Proofs.YtloopkmmpfghfaaGreat
open Go.RowKit
open Mg (leN rotI rotI_range wr64 wr64_range stirI)

theorem ret_u64 {a b : Int} (h : a = b) : Ending.returned (.int .u64 a) = .returned (.int .u64 b) := by rw [h]

set_option maxRecDepth 100000 in
set_option maxHeartbeats 400000 in
theorem rot_any (x k : Int) (w : World) (k0 : 1 ≤ k) (k1 : k ≤ 63) :
    Calls Tryz.prog 42 #[.int .u64 x, .int .i64 k] w fun e w' => e = .returned (.int .u64 (rotI x k)) ∧ w = w' := by
  have e := Mg.and63 k k0 k1
  go_enter Tryz.func42, Tryz.ntmps42
  go_wp2
  go_ret
  exact ⟨rfl, rfl⟩

set_option maxRecDepth 100000 in
set_option maxHeartbeats 400000 in
theorem left_any (x k : Int) (w : World) (k0 : 1 ≤ k) (k1 : k ≤ 63) :
    Calls Tryz.prog 47 #[.int .u64 x, .int .u64 k] w fun e w' => e = .returned (.int .u64 (rotI x k)) ∧ w = w' := by
  go_enter Tryz.func47, Tryz.ntmps47
  go_wp2
  go_ret
  exact ⟨rfl, rfl⟩

set_option maxRecDepth 100000 in
set_option maxHeartbeats 400000 in
theorem stir_any (x y : Int) (w : World) :
    Calls Tryz.prog 43 #[.int .u64 x, .int .u64 y] w fun e w' => e = .returned (.int .u64 (stirI x y)) ∧ w = w' := by
  go_enter Tryz.func43, Tryz.ntmps43
  go_wp2_with (go_at_call 42; refine (rot_any _ _ _ (by omega) (by omega)).mono ?_; rintro e w' ⟨rfl, rfl⟩)
  go_ret
  exact ⟨rfl, rfl⟩

set_option maxRecDepth 100000 in
set_option maxHeartbeats 400000 in
theorem stir2_any (x y : Int) (w : World) :
    Calls Tryz.prog 45 #[.int .u64 x, .int .u64 y] w fun e w' => e = .returned (.int .u64 (stirI x y)) ∧ w = w' := by
  go_enter Tryz.func45, Tryz.ntmps45
  go_wp2_with (go_at_call 47; refine (left_any _ _ _ (by omega) (by omega)).mono ?_; rintro e w' ⟨rfl, rfl⟩)
  go_ret
  exact ⟨rfl, rfl⟩

set_option maxRecDepth 100000 in
set_option maxHeartbeats 400000 in
theorem number_any {B : Nat} (A : Option Addr) (n c : Nat) (xs : List Nat) (w : World) (hr : RdB w B A n xs) (hn : n ≤ 8) :
    Calls Tryz.prog 44 #[.slice A n c] w fun e w' => e = .returned (.int .u64 (leN xs : Nat)) ∧ w = w' := by
  go_enter Tryz.func44, Tryz.ntmps44
  go_wp2
  go_loop [3, 4, 5, 8] (fun v _ _ i => ∃ k : Nat, k ≤ n ∧ i = .int .i64 k ∧ v = .int .u64 (leN (xs.take k) : Nat)) (fun _ _ _ i => n - (intOf i).toNat)
  case atStart => exact ⟨0, by omega, rfl, rfl⟩
  case round =>
    obtain ⟨k, hk, rfl, rfl⟩ := hrel
    by_cases hlt : k < n
    · obtain ⟨ad, x, rfl, _, hx, hc, hx2⟩ := hr.at_ hlt
      go_wp2
      go_round
      case rel =>
        refine ⟨k + 1, by omega, by go_num, ?_⟩
        have h1 := Mg.leN_lt (xs.take k) fun y hy => hr.lt y (List.mem_of_mem_take hy)
        have h2 : (xs.take k).length = k := by have := hr.len; simp; omega
        rw [h2] at h1
        rw [Mg.leN_take_succ hx.out, ← Mg.or_shl _ x k (by omega) h1 hx2]
      case measure => simp [intOf]; omega
    · go_wp2
      go_ret
      obtain rfl : k = n := by omega
      exact ⟨ret_u64 (by rw [List.take_of_length_le (by have := hr.len; omega)]), rfl⟩

set_option maxRecDepth 100000 in
set_option maxHeartbeats 400000 in
theorem word_any {B : Nat} (A : Option Addr) (m c : Nat) (xs : List Nat) (n : Nat) (w : World) (hr : RdB w B A m xs) (hn : n ≤ m) (hn8 : n ≤ 8) :
    Calls Tryz.prog 46 #[.slice A m c, .int .i64 n] w fun e w' => e = .returned (.int .u64 (leN (xs.take n) : Nat)) ∧ w = w' := by
  go_enter Tryz.func46, Tryz.ntmps46
  go_wp2
  go_loop [5, 6] (fun v i => ∃ k : Nat, k ≤ n ∧ i = .int .i64 ((k : Int) - 1) ∧ v = .int .u64 (leN ((xs.take n).drop k) : Nat)) (fun _ i => (intOf i + 1).toNat)
  case atStart => exact ⟨n, by omega, rfl, by rw [List.drop_of_length_le (by simp; omega)]; rfl⟩
  case round =>
    obtain ⟨k, hk, rfl, rfl⟩ := hrel
    cases k with
    | zero =>
      have e0 : ((0 : Nat) : Int) - 1 = -1 := rfl
      go_wp2
      go_ret
      exact ⟨rfl, rfl⟩
    | succ j =>
      have e0 : ((j + 1 : Nat) : Int) - 1 = (j : Int) := by omega
      rw [e0]
      have e1 : (0 : Int) ≤ (j : Int) := by omega
      obtain ⟨ad, x, rfl, _, hx, hc, hx2⟩ := hr.at_ (show j < m by omega)
      go_wp2
      go_round
      case rel =>
        have g : (xs.take n)[j]? = some x := by rw [List.getElem?_take, if_pos (by omega)]; exact hx.out
        refine ⟨j, by omega, rfl, ?_⟩
        have h1 := Mg.leN_lt ((xs.take n).drop (j + 1)) fun y hy => hr.lt y (List.mem_of_mem_take (List.mem_of_mem_drop hy))
        have h2 : ((xs.take n).drop (j + 1)).length ≤ 7 := by simp; omega
        have h3 : 256 ^ ((xs.take n).drop (j + 1)).length ≤ 256 ^ 7 := Nat.pow_le_pow_right (by omega) h2
        rw [Mg.drop_cons g, leN, ← Mg.shl_or _ x (by omega) hx2]
      case measure => simp [intOf]

end Go.Proofs.YtloopkmmpfghfaaGreat
