/-
  The walks of frame.low.
-/
import Derived.Test.YtloopkmmpfghfaaGreatW
import Derived.Test.YtloopkmmpfghfaaGreatFrame
namespace Go.Proofs.YtloopkmmpfghfaaGreat
open Go.RowKit

theorem le4_take (n k : Nat) (hk : k < 4) : (Mg.le4 n).take k ++ [n / 256 ^ k % 256] = (Mg.le4 n).take (k + 1) := by
  unfold Mg.le4
  match k, hk with
  | 0, _ => simp
  | 1, _ => simp
  | 2, _ => simp
  | 3, _ => simp

set_option maxRecDepth 100000 in
set_option maxHeartbeats 400000 in
theorem low_any (n : Nat) (w : World) :
    Calls Tryz.prog 27 #[.int .u64 n] w fun e w' => ∃ v, e = .returned v ∧ OwnU8 w' w.heap.size v (Mg.le4 n) ∧ Below w.heap.size w w' := by
  go_enter Tryz.func27, Tryz.ntmps27
  go_wp2
  go_loopw [3, 4, 5] (fun b _ i wr => ∃ k : Nat, k ≤ 4 ∧ i = .int .i64 k ∧ OwnU8 wr w.heap.size b ((Mg.le4 n).take k) ∧ Below w.heap.size w wr) (fun _ _ i _ => 4 - (intOf i).toNat)
  case atStart => exact ⟨0, by omega, rfl, ownU8_nil _ _, Below.refl _ _⟩
  case round =>
    obtain ⟨k, hk, rfl, hown, hb⟩ := hrel
    by_cases hlt : k < 4
    · go_wp2_with (at_builtin; refine app_u8 rfl _ _ rfl _ _ _ rfl (hown.alloc _) _ _ _ _ [n / 2 ^ (8 * k) % 256] rfl (rd_u8 _ _ _ (by simp)) (by simp; omega) (by have := hb.size; simp; omega) ?_; intro v1 w1 hown1 hg1 _)
      go_roundw
      case rel =>
        refine ⟨k + 1, by omega, by go_num, ?_, ?_⟩
        · rw [← le4_take n k hlt]
          rw [show 256 ^ k = 2 ^ (8 * k) from by rw [Nat.pow_mul]]
          exact hown1
        · exact (hb.alloc hb.size _).grown hg1 (by have := hb.size; simp; omega) hown.ge
      case measure => simp [intOf]; omega
    · go_wp2
      go_ret
      obtain rfl : k = 4 := by omega
      exact ⟨_, rfl, hown, hb⟩

end Go.Proofs.YtloopkmmpfghfaaGreat
