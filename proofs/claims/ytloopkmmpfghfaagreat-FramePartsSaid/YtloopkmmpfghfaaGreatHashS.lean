/-
  The walk of hash.Sum.
-/
import Derived.Test.YtloopkmmpfghfaaGreatFrameA
namespace Go.Proofs.YtloopkmmpfghfaaGreat
open Go.RowKit
open Mg

set_option maxRecDepth 100000 in
set_option maxHeartbeats 1000000 in
/-- **The program's sum, of one row.** -/
theorem hsum_any {B : Nat} (s : Int) (ad : Addr) (c : Nat) (r : RowU) (w : World) (hr : RdRows w B ad [r]) (ha : ad.block < w.heap.size) (hB : B ≤ w.heap.size) (hlen : r.xs.length ≤ 1000000000) :
    Calls Tryz.prog 29 #[.int .u64 s, .slice (some ad) 1 c] w fun e w' => e = .returned (.int .u64 (sumI s r.xs)) ∧ Below w.heap.size w w' := by
  have hcut := cut_u8
  have hupto := upto_u8
  have hlt : ∀ x ∈ r.xs, x < 256 := (hr 0 r rfl).2.1.lt
  have hfl : flat [r] = r.xs := by simp [flat]
  have HFL := Lib.hid hfl
  clear hfl
  go_enter Tryz.func29, Tryz.ntmps29
  go_wp2_with fail
  refine (concat_any ad 1 c [r] w hr rfl (by omega) ha hB (by rw [HFL.out]; exact hlen)).mono ?_
  rintro e w1 ⟨v1, rfl, hown, hb1⟩
  rw [HFL.out] at hown
  obtain ⟨A1, c1, rfl, hc1, hrd1⟩ := hown.rd
  have hrb : RdB w1 w1.heap.size A1 r.xs.length r.xs := ⟨hrd1, hlt⟩
  generalize hn1 : r.xs.length = n1 at *
  have HN := Lib.hid hn1
  clear hn1
  go_wp2_with fail
  refine (begins_any s A1 n1 c1 r.xs w1 hrb (Nat.le_refl _) hc1).mono ?_
  rintro e w2 ⟨A3, n3, c3, rfl, hr3, hnc3, hb3⟩
  generalize hh0 : (beginI s r.xs).1 = H0 at *
  generalize hy0 : (beginI s r.xs).2 = ys at *
  have HBEG : Hid (beginI s r.xs = (H0, ys)) := Lib.hid (by rw [← hh0, ← hy0])
  clear hh0 hy0
  have hl3 : Hid (ys.length = n3) := Lib.hid hr3.len
  have hb03 : Below w.heap.size w w2 := hb1.trans (hb3.mono hb1.size)
  have hle3 : n3 ≤ n1 := by
    have := beginI_len s r.xs
    rw [HBEG.out] at this
    rw [← hl3.out, ← HN.out]; exact this
  go_wp2
  go_loop [6, 7] (fun h b => ∃ (A2 : Option Addr) (n2 c2 : Nat) (zs : List Nat) (h2 : Int) (f2 : Nat), b = .slice A2 n2 c2 ∧ h = .int .u64 h2 ∧ RdB w2 w1.heap.size A2 n2 zs ∧ n2 ≤ c2 ∧ n2 ≤ f2 ∧ Hid (go8 n1 (wr64 (H0 + n1)) ys = go8 f2 h2 zs)) (fun _ b => lenOf b)
  case atStart => exact ⟨A3, n3, c3, ys, _, n1, rfl, rfl, hr3.below hb3 (Nat.le_refl _), hnc3, hle3, Lib.hid rfl⟩
  case round =>
    obtain ⟨A2, n2, c2, zs, h2, f2, rfl, rfl, hr2, hnc2, hf2, HG⟩ := hrel
    by_cases h8 : 8 ≤ n2
    · have hd8 : decide (8 ≤ (n2 : Int)) = true := by simp; omega
      have hi8 : (8 : Int) ≤ (n2 : Int) := by omega
      have hj8 : (8 : Int) ≤ (c2 : Int) := by omega
      have hm8 := hr2.mid (k := 0) (m := 8) (by omega) hnc2
      go_wp2_with fail
      refine (number_any (cutA A2 c2 0) 8 c2 (zs.take 8) _ hm8 (by omega)).mono ?_
      rintro e w' ⟨rfl, rfl⟩
      go_wp2_with fail
      refine (stir_any _ _ _).mono ?_
      rintro e w' ⟨rfl, rfl⟩
      go_wp2_with fail
      refine (rot_any _ _ _ (by omega) (by omega)).mono ?_
      rintro e w' ⟨rfl, rfl⟩
      go_wp2
      go_round
      case rel =>
        refine ⟨_, _, _, zs.drop 8, step8 h2 zs, f2 - 1, rfl, rfl, hr2.cutA (k := 8) h8 hnc2, by omega, by omega, ?_⟩
        have hl := hr2.len
        obtain ⟨f', rfl⟩ : ∃ f', f2 = f' + 1 := ⟨f2 - 1, by omega⟩
        refine Lib.hid ?_
        rw [HG.out]
        simp only [go8, Nat.add_sub_cancel]
        rw [if_neg (by omega)]
      case measure => simp [lenOf]; omega
    · have hd8 : decide (8 ≤ (n2 : Int)) = false := by simp; omega
      have HG8 : Hid (go8 n1 (wr64 (H0 + n1)) ys = (h2, zs)) := Lib.hid (by
        have hl := hr2.len
        rw [HG.out]
        cases f2 with
        | zero => rfl
        | succ f2 => simp only [go8]; rw [if_pos (by omega)])
      clear HG
      by_cases h4 : 4 ≤ n2
      · have hd4 : decide (4 ≤ (n2 : Int)) = true := by simp; omega
        have hi4 : (4 : Int) ≤ (n2 : Int) := by omega
        have hj4 : (4 : Int) ≤ (c2 : Int) := by omega
        have hm4 := hr2.mid (k := 0) (m := 4) (by omega) hnc2
        go_wp2_with fail
        refine (number_any (cutA A2 c2 0) 4 c2 (zs.take 4) _ hm4 (by omega)).mono ?_
        rintro e w' ⟨rfl, rfl⟩
        go_wp2_with fail
        refine (rot_any _ _ _ (by omega) (by omega)).mono ?_
        rintro e w' ⟨rfl, rfl⟩
        go_wp2
        have HG4 : Hid (go4 h2 zs = (step4 h2 zs, zs.drop 4)) := Lib.hid (by
          have hl := hr2.len
          unfold go4
          rw [if_neg (by omega)])
        have hr4 := hr2.cutA (k := 4) h4 hnc2
        generalize cutA A2 c2 4 = A4 at *
        go_loop [6, 53] (fun h i => ∃ k : Nat, k ≤ n2 - 4 ∧ i = .int .i64 k ∧ h = .int .u64 (go1 (step4 h2 zs) ((zs.drop 4).take k))) (fun _ i => n2 - 4 - (intOf i).toNat)
        case atStart => exact ⟨0, by omega, rfl, rfl⟩
        case round =>
          obtain ⟨k, hk, rfl, rfl⟩ := hrel
          by_cases hlt : k < n2 - 4
          · obtain ⟨ad4, x, rfl, _, hx, hc, hx2⟩ := hr4.at_ hlt
            go_wp2_with fail
            refine (rot_any _ _ _ (by omega) (by omega)).mono ?_
            rintro e w' ⟨rfl, rfl⟩
            go_wp2
            go_round
            case rel => exact ⟨k + 1, by omega, by go_num, by rw [go1_take hx.out]; rfl⟩
            case measure => simp [intOf]; omega
          · go_wp2
            go_ret
            obtain rfl : k = n2 - 4 := by omega
            refine ⟨ret_u64 ?_, hb03⟩
            rw [List.take_of_length_le (by have := hr4.len; omega)]
            exact (sum_of HBEG.out HN.out HG8.out HG4.out).symm
      · have hd4 : decide (4 ≤ (n2 : Int)) = false := by simp; omega
        have HG4 : Hid (go4 h2 zs = (h2, zs)) := Lib.hid (by
          have hl := hr2.len
          unfold go4
          rw [if_pos (by omega)])
        go_wp2
        go_loop [6, 53] (fun h i => ∃ k : Nat, k ≤ n2 ∧ i = .int .i64 k ∧ h = .int .u64 (go1 h2 (zs.take k))) (fun _ i => n2 - (intOf i).toNat)
        case atStart => exact ⟨0, by omega, rfl, rfl⟩
        case round =>
          obtain ⟨k, hk, rfl, rfl⟩ := hrel
          by_cases hlt : k < n2
          · obtain ⟨ad4, x, rfl, _, hx, hc, hx2⟩ := hr2.at_ hlt
            go_wp2_with fail
            refine (rot_any _ _ _ (by omega) (by omega)).mono ?_
            rintro e w' ⟨rfl, rfl⟩
            go_wp2
            go_round
            case rel => exact ⟨k + 1, by omega, by go_num, by rw [go1_take hx.out]; rfl⟩
            case measure => simp [intOf]; omega
          · go_wp2
            go_ret
            obtain rfl : k = n2 := by omega
            refine ⟨ret_u64 ?_, hb03⟩
            rw [List.take_of_length_le (by have := hr2.len; omega)]
            exact (sum_of HBEG.out HN.out HG8.out HG4.out).symm

end Go.Proofs.YtloopkmmpfghfaaGreat
