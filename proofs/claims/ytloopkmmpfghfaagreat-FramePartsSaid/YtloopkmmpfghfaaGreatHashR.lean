/-
  The walks of chapter 2's sum by the document (mangleref2).
-/
import Derived.Test.YtloopkmmpfghfaaGreatHashW
namespace Go.Proofs.YtloopkmmpfghfaaGreat
open Go.RowKit
open Mg
def arr4 (l : L4) : Array Value := #[.int .u64 l.1, .int .u64 l.2.1, .int .u64 l.2.2.1, .int .u64 l.2.2.2]
def partL (l : L4) (b : List Nat) : Nat → L4
  | 0 => l
  | 1 => (stirI l.1 (laneW b 0), l.2)
  | 2 => (stirI l.1 (laneW b 0), stirI l.2.1 (laneW b 1), l.2.2)
  | 3 => (stirI l.1 (laneW b 0), stirI l.2.1 (laneW b 1), stirI l.2.2.1 (laneW b 2), l.2.2.2)
  | _ => roundL l b
theorem still_word {B : Nat} (A : Option Addr) (m c : Nat) (xs : List Nat) (n : Nat) (w : World) (hr : RdB w B A m xs) (hn : n ≤ m) (hn8 : n ≤ 8) :
    Calls Tryz.prog 46 #[.slice A m c, .int .i64 n] w fun e w' => e = .returned (.int .u64 (leN (xs.take n) : Nat)) ∧ w' = w :=
  (word_any A m c xs n w hr hn hn8).mono fun _ _ ⟨a, b⟩ => ⟨a, b.symm⟩
theorem still_stir2 (x y : Int) (w : World) : Calls Tryz.prog 45 #[.int .u64 x, .int .u64 y] w fun e w' => e = .returned (.int .u64 (stirI x y)) ∧ w' = w :=
  (stir2_any x y w).mono fun _ _ ⟨a, b⟩ => ⟨a, b.symm⟩
theorem still_left (x k : Int) (w : World) (k0 : 1 ≤ k) (k1 : k ≤ 63) : Calls Tryz.prog 47 #[.int .u64 x, .int .u64 k] w fun e w' => e = .returned (.int .u64 (rotI x k)) ∧ w' = w :=
  (left_any x k w k0 k1).mono fun _ _ ⟨a, b⟩ => ⟨a, b.symm⟩
def foldP (l : L4) : Nat → Int
  | 0 => mixL l
  | 1 => foldL (mixL l) l.1
  | 2 => foldL (foldL (mixL l) l.1) l.2.1
  | 3 => foldL (foldL (foldL (mixL l) l.1) l.2.1) l.2.2.1
  | _ => foldL (foldL (foldL (foldL (mixL l) l.1) l.2.1) l.2.2.1) l.2.2.2
theorem go1_take {h : Int} {xs : List Nat} {k x : Nat} (hx : xs[k]? = some x) : go1 h (xs.take (k + 1)) = step1 (go1 h (xs.take k)) x := by
  obtain ⟨hl, e⟩ := List.getElem?_eq_some_iff.1 hx
  rw [List.take_succ_eq_append_getElem hl, e]
  simp [go1, List.foldl_append]
theorem sum_of {s : Int} {xs ys zs us : List Nat} {h0 h2 h4 : Int} {n : Nat} (hb : beginI s xs = (h0, ys)) (hl : xs.length = n) (h8 : go8 n (wr64 (h0 + n)) ys = (h2, zs)) (h4' : go4 h2 zs = (h4, us)) : sumI s xs = lastI (go1 h4 us) := by
  unfold sumI
  simp only [hb, hl, h8, h4']
set_option maxRecDepth 100000 in
set_option maxHeartbeats 1000000 in
theorem sum2_long {B : Nat} (s : Int) (A : Option Addr) (n c : Nat) (xs : List Nat) (w : World) (hr : RdB w B A n xs) (hB : B ≤ w.heap.size) (hnc : n ≤ c) (hn : 32 ≤ n) :
    Calls Tryz.prog 30 #[.int .u64 s, .slice A n c] w fun e w' => e = .returned (.int .u64 (sumI s xs)) ∧ Below w.heap.size w w' := by
  have hd : decide (32 ≤ (n : Int)) = true := by simp; omega
  have hcut := cut_u8
  have hmx : n ≤ 9223372036854775807 := by have := hr.rd.2.1; unfold maxLen at this; exact this
  go_enter Tryz.func30, Tryz.ntmps30
  go_wp2
  have hlen := hr.len
  go_loopw [1] (fun b wr => ∃ (A' : Option Addr) (n' c' : Nat) (ys : List Nat) (l : L4) (f : Nat), b = .slice A' n' c' ∧ RdB w B A' n' ys ∧ n' ≤ c' ∧ n' ≤ f ∧ lanesGo n (lanes0 s) xs = lanesGo f l ys ∧ Blk wr w.heap.size 52 (arr4 l) ∧ Below w.heap.size w wr ∧ wr.heap.size = w.heap.size + 1) (fun b _ => lenOf b)
  case atStart => exact ⟨A, n, c, xs, lanes0 s, n, rfl, hr, hnc, Nat.le_refl _, rfl, Blk.new _ _ _, (Below.refl _ _).alloc (Nat.le_refl _) _, by simp⟩
  case round =>
    obtain ⟨A', n', c', ys, l, f, rfl, hr', hnc', hf, hgo, hblk, hb, hsz⟩ := hrel
    have HGO := Lib.hid hgo
    have HSZ := Lib.hid hsz
    clear hgo hsz
    by_cases h32 : 32 ≤ n'
    · obtain ⟨wo, rfl⟩ : ∃ wo : World, wo = wr := ⟨_, rfl⟩
      have hi32 : (32 : Int) ≤ (n' : Int) := by omega
      have hd2 : decide (32 ≤ (n' : Int)) = true := by simp; omega
      go_wp2
      go_loopw [9] (fun i wi => ∃ k : Nat, k ≤ 4 ∧ i = .int .i64 k ∧ Blk wi w.heap.size 52 (arr4 (partL l ys k)) ∧ Below w.heap.size w wi ∧ wi.heap.size = w.heap.size + 1) (fun i _ => 4 - (intOf i).toNat)
      case atStart => exact ⟨0, by omega, rfl, hblk, hb, HSZ.out⟩
      case round =>
        obtain ⟨k, hk, rfl, hblk', hb', hsz'⟩ := hrel
        have HSZ' := Lib.hid hsz'
        clear hsz'
        obtain rfl | rfl | rfl | rfl | rfl : k = 0 ∨ k = 1 ∨ k = 2 ∨ k = 3 ∨ k = 4 := by omega
        · have hcl := hblk'.cell 0
          have hfz := hblk'.frozen 0
          simp [arr4, partL] at hcl
          have ew : IntKind.i64.wrap 0 = 0 := by decide
          have hle : (0 : Int) ≤ (n' : Int) := by omega
          have hw := still_word (cutA A' c' 0) n' c' ys 8 wr.drew ((show RdB wr B (cutA A' c' 0) n' ys from (hr'.below hb' hB).cutA (k := 0) (by omega) hnc').drew) (by omega) (by omega)
          go_wp2
          refine wp_region_tail 13 (by kernel_rfl) (by kernel_rfl) ?_
          simp only [List.take_succ_cons, List.take_zero, List.drop_succ_cons, List.drop_zero]
          repeat still_step
          still_call hw
          still_call (still_stir2 _ _ _)
          repeat still_step
          refine wpStill_nil ?_
          go_wp2
          go_roundw
          case rel => exact ⟨1, by omega, rfl, by simpa [arr4, partL, laneW, roundL] using (hblk'.set_ 0 _).drew, below_drew (hb'.setCell (p := ⟨w.heap.size, 0, none⟩) (Nat.le_refl _) _), by simpa using HSZ'.out⟩
          case measure => simp [intOf]
        · have hcl := hblk'.cell 1
          have hfz := hblk'.frozen 1
          simp [arr4, partL] at hcl
          have ew : IntKind.i64.wrap 8 = 8 := by decide
          have hle : (8 : Int) ≤ (n' : Int) := by omega
          have hw := still_word (cutA A' c' 8) (n' - 8) (c' - 8) (ys.drop 8) 8 wr.drew ((hr'.below hb' hB).cutA (k := 8) (by omega) hnc').drew (by omega) (by omega)
          go_wp2
          refine wp_region_tail 13 (by kernel_rfl) (by kernel_rfl) ?_
          simp only [List.take_succ_cons, List.take_zero, List.drop_succ_cons, List.drop_zero]
          repeat still_step
          still_call hw
          still_call (still_stir2 _ _ _)
          repeat still_step
          refine wpStill_nil ?_
          go_wp2
          go_roundw
          case rel => exact ⟨2, by omega, rfl, by simpa [arr4, partL, laneW, roundL] using (hblk'.set_ 1 _).drew, below_drew (hb'.setCell (p := ⟨w.heap.size, 1, none⟩) (Nat.le_refl _) _), by simpa using HSZ'.out⟩
          case measure => simp [intOf]
        · have hcl := hblk'.cell 2
          have hfz := hblk'.frozen 2
          simp [arr4, partL] at hcl
          have ew : IntKind.i64.wrap 16 = 16 := by decide
          have hle : (16 : Int) ≤ (n' : Int) := by omega
          have hw := still_word (cutA A' c' 16) (n' - 16) (c' - 16) (ys.drop 16) 8 wr.drew ((hr'.below hb' hB).cutA (k := 16) (by omega) hnc').drew (by omega) (by omega)
          go_wp2
          refine wp_region_tail 13 (by kernel_rfl) (by kernel_rfl) ?_
          simp only [List.take_succ_cons, List.take_zero, List.drop_succ_cons, List.drop_zero]
          repeat still_step
          still_call hw
          still_call (still_stir2 _ _ _)
          repeat still_step
          refine wpStill_nil ?_
          go_wp2
          go_roundw
          case rel => exact ⟨3, by omega, rfl, by simpa [arr4, partL, laneW, roundL] using (hblk'.set_ 2 _).drew, below_drew (hb'.setCell (p := ⟨w.heap.size, 2, none⟩) (Nat.le_refl _) _), by simpa using HSZ'.out⟩
          case measure => simp [intOf]
        · have hcl := hblk'.cell 3
          have hfz := hblk'.frozen 3
          simp [arr4, partL] at hcl
          have ew : IntKind.i64.wrap 24 = 24 := by decide
          have hle : (24 : Int) ≤ (n' : Int) := by omega
          have hw := still_word (cutA A' c' 24) (n' - 24) (c' - 24) (ys.drop 24) 8 wr.drew ((hr'.below hb' hB).cutA (k := 24) (by omega) hnc').drew (by omega) (by omega)
          go_wp2
          refine wp_region_tail 13 (by kernel_rfl) (by kernel_rfl) ?_
          simp only [List.take_succ_cons, List.take_zero, List.drop_succ_cons, List.drop_zero]
          repeat still_step
          still_call hw
          still_call (still_stir2 _ _ _)
          repeat still_step
          refine wpStill_nil ?_
          go_wp2
          go_roundw
          case rel => exact ⟨4, by omega, rfl, by simpa [arr4, partL, laneW, roundL] using (hblk'.set_ 3 _).drew, below_drew (hb'.setCell (p := ⟨w.heap.size, 3, none⟩) (Nat.le_refl _) _), by simpa using HSZ'.out⟩
          case measure => simp [intOf]
        · go_wp2
          go_roundw
          case rel =>
            refine ⟨_, _, _, ys.drop 32, roundL l ys, f - 1, rfl, hr'.cutA (k := 32) h32 hnc', by omega, by omega, ?_, hblk', hb', HSZ'.out⟩
            have hl := hr'.len
            obtain ⟨f', rfl⟩ : ∃ f', f = f' + 1 := ⟨f - 1, by omega⟩
            rw [HGO.out]
            simp only [lanesGo, Nat.add_sub_cancel]
            rw [if_neg (by omega)]
          case measure => simp [lenOf]; omega
    · have hd3 : decide (32 ≤ (n' : Int)) = false := by simp; omega
      have c0 := hblk.cell 0
      have c1 := hblk.cell 1
      have c2 := hblk.cell 2
      have c3 := hblk.cell 3
      simp [arr4] at c0 c1 c2 c3
      go_wp2
      refine wp_region_reads (by kernel_rfl) (by kernel_rfl) ?_
      repeat still_step
      still_call (still_left _ 1 _ (by omega) (by omega))
      repeat still_step
      still_call (still_left _ 7 _ (by omega) (by omega))
      repeat still_step
      still_call (still_left _ 12 _ (by omega) (by omega))
      repeat still_step
      still_call (still_left _ 18 _ (by omega) (by omega))
      repeat still_step
      refine wpStill_nil ?_
      go_wp2
      go_loopw [6, 10] (fun h i wt => ∃ k : Nat, k ≤ 4 ∧ i = .int .i64 k ∧ h = .int .u64 (foldP l k) ∧ Blk wt w.heap.size 52 (arr4 l) ∧ Below w.heap.size w wt) (fun _ i _ => 4 - (intOf i).toNat)
      case atStart => exact ⟨0, by omega, rfl, rfl, hblk.drew, below_drew hb⟩
      case round =>
        obtain ⟨k, hk, rfl, rfl, hblk', hb'⟩ := hrel
        obtain rfl | rfl | rfl | rfl | rfl : k = 0 ∨ k = 1 ∨ k = 2 ∨ k = 3 ∨ k = 4 := by omega
        · have hcl := hblk'.cell 0
          simp [arr4] at hcl
          go_wp2_with (go_at_call 45; refine (stir2_any _ _ _).mono ?_; rintro e w' ⟨rfl, rfl⟩)
          go_roundw
          case rel => exact ⟨1, by omega, rfl, rfl, hblk', hb'⟩
          case measure => simp [intOf]
        · have hcl := hblk'.cell 1
          simp [arr4] at hcl
          go_wp2_with (go_at_call 45; refine (stir2_any _ _ _).mono ?_; rintro e w' ⟨rfl, rfl⟩)
          go_roundw
          case rel => exact ⟨2, by omega, rfl, rfl, hblk', hb'⟩
          case measure => simp [intOf]
        · have hcl := hblk'.cell 2
          simp [arr4] at hcl
          go_wp2_with (go_at_call 45; refine (stir2_any _ _ _).mono ?_; rintro e w' ⟨rfl, rfl⟩)
          go_roundw
          case rel => exact ⟨3, by omega, rfl, rfl, hblk', hb'⟩
          case measure => simp [intOf]
        · have hcl := hblk'.cell 3
          simp [arr4] at hcl
          go_wp2_with (go_at_call 45; refine (stir2_any _ _ _).mono ?_; rintro e w' ⟨rfl, rfl⟩)
          go_roundw
          case rel => exact ⟨4, by omega, rfl, rfl, hblk', hb'⟩
          case measure => simp [intOf]
        · have HBEG : Hid (beginI s xs = (foldP l 4, ys)) := Lib.hid (by
            have hg := HGO.out
            have hl := hr'.len
            obtain ⟨f', rfl⟩ | rfl : (∃ f', f = f' + 1) ∨ f = 0 := by
              cases f with
              | zero => exact .inr rfl
              | succ f => exact .inl ⟨f, rfl⟩
            all_goals
              simp only [lanesGo] at hg
              try rw [if_pos (by omega)] at hg
              unfold beginI
              rw [if_neg (by omega), hlen, hg]
              rfl)
          rw [show ((4 : Nat) : Int) = 4 from rfl]
          go_wp2
          go_loopw [1, 6] (fun b h wt => ∃ (A2 : Option Addr) (n2 c2 : Nat) (zs : List Nat) (h2 : Int) (f2 : Nat), b = .slice A2 n2 c2 ∧ h = .int .u64 h2 ∧ RdB w B A2 n2 zs ∧ n2 ≤ c2 ∧ n2 ≤ f2 ∧ Hid (go8 n (wr64 (foldP l 4 + n)) ys = go8 f2 h2 zs) ∧ Below w.heap.size w wt) (fun b _ _ => lenOf b)
          case atStart => exact ⟨A', n', c', ys, _, n, rfl, rfl, hr', hnc', by have := hr'.len; omega, Lib.hid rfl, hb'⟩
          case round =>
            obtain ⟨A2, n2, c2, zs, h2, f2, rfl, rfl, hr2, hnc2, hf2, HG, hb2⟩ := hrel
            by_cases h8 : 8 ≤ n2
            · have hd8 : decide (8 ≤ (n2 : Int)) = true := by simp; omega
              have hi8 : (8 : Int) ≤ (n2 : Int) := by omega
              go_wp2_with fail
              refine (word_any A2 n2 c2 zs 8 _ (hr2.below hb2 hB) (by omega) (by omega)).mono ?_
              rintro e w' ⟨rfl, rfl⟩
              go_wp2_with fail
              refine (stir2_any _ _ _).mono ?_
              rintro e w' ⟨rfl, rfl⟩
              go_wp2_with fail
              refine (left_any _ _ _ (by omega) (by omega)).mono ?_
              rintro e w' ⟨rfl, rfl⟩
              go_wp2
              go_roundw
              case rel =>
                refine ⟨_, _, _, zs.drop 8, step8 h2 zs, f2 - 1, rfl, rfl, hr2.cutA (k := 8) h8 hnc2, by omega, by omega, ?_, hb2⟩
                have hl := hr2.len
                obtain ⟨f', rfl⟩ : ∃ f', f2 = f' + 1 := ⟨f2 - 1, by omega⟩
                refine Lib.hid ?_
                rw [HG.out]
                simp only [go8, Nat.add_sub_cancel]
                rw [if_neg (by omega)]
              case measure => simp [lenOf]; omega
            · have hd8 : decide (8 ≤ (n2 : Int)) = false := by simp; omega
              have HG8 : Hid (go8 n (wr64 (foldP l 4 + n)) ys = (h2, zs)) := Lib.hid (by
                have hl := hr2.len
                rw [HG.out]
                cases f2 with
                | zero => rfl
                | succ f2 => simp only [go8]; rw [if_pos (by omega)])
              clear HG
              obtain ⟨wo2, rfl⟩ : ∃ wo : World, wo = wr := ⟨_, rfl⟩
              by_cases h4 : 4 ≤ n2
              · have hd4 : decide (4 ≤ (n2 : Int)) = true := by simp; omega
                have hi4 : (4 : Int) ≤ (n2 : Int) := by omega
                go_wp2_with (first | (go_at_call 46; refine (word_any A2 n2 c2 zs 4 _ (hr2.below hb2 hB) (by omega) (by omega)).mono ?_; rintro e w' ⟨rfl, rfl⟩) | (go_at_call 47; refine (left_any _ _ _ (by omega) (by omega)).mono ?_; rintro e w' ⟨rfl, rfl⟩))
                have HG4 : Hid (go4 h2 zs = (step4 h2 zs, zs.drop 4)) := Lib.hid (by
                  have hl := hr2.len
                  unfold go4
                  rw [if_neg (by omega)])
                have hr4 := (hr2.below hb2 hB).cutA (k := 4) h4 hnc2
                generalize cutA A2 c2 4 = A4 at *
                go_loop [6, 11] (fun h i => ∃ k : Nat, k ≤ n2 - 4 ∧ i = .int .i64 k ∧ h = .int .u64 (go1 (step4 h2 zs) ((zs.drop 4).take k))) (fun _ i => n2 - 4 - (intOf i).toNat)
                case atStart => exact ⟨0, by omega, rfl, rfl⟩
                case round =>
                  obtain ⟨k, hk, rfl, rfl⟩ := hrel
                  by_cases hlt : k < n2 - 4
                  · obtain ⟨ad, x, rfl, _, hx, hc, hx2⟩ := hr4.at_ hlt
                    go_wp2_with fail
                    refine (left_any _ _ _ (by omega) (by omega)).mono ?_
                    rintro e w' ⟨rfl, rfl⟩
                    go_wp2
                    go_round
                    case rel => exact ⟨k + 1, by omega, by go_num, by rw [go1_take hx.out]; rfl⟩
                    case measure => simp [intOf]; omega
                  · go_wp2
                    go_ret
                    obtain rfl : k = n2 - 4 := by omega
                    refine ⟨ret_u64 ?_, hb2⟩
                    rw [List.take_of_length_le (by have := hr4.len; omega)]
                    exact (sum_of HBEG.out hlen HG8.out HG4.out).symm
              · have hd4 : decide (4 ≤ (n2 : Int)) = false := by simp; omega
                have HG4 : Hid (go4 h2 zs = (h2, zs)) := Lib.hid (by
                  have hl := hr2.len
                  unfold go4
                  rw [if_pos (by omega)])
                go_wp2
                go_loop [6, 11] (fun h i => ∃ k : Nat, k ≤ n2 ∧ i = .int .i64 k ∧ h = .int .u64 (go1 h2 (zs.take k))) (fun _ i => n2 - (intOf i).toNat)
                case atStart => exact ⟨0, by omega, rfl, rfl⟩
                case round =>
                  obtain ⟨k, hk, rfl, rfl⟩ := hrel
                  by_cases hlt : k < n2
                  · obtain ⟨ad, x, rfl, _, hx, hc, hx2⟩ := (hr2.below hb2 hB).at_ hlt
                    go_wp2_with fail
                    refine (left_any _ _ _ (by omega) (by omega)).mono ?_
                    rintro e w' ⟨rfl, rfl⟩
                    go_wp2
                    go_round
                    case rel => exact ⟨k + 1, by omega, by go_num, by rw [go1_take hx.out]; rfl⟩
                    case measure => simp [intOf]; omega
                  · go_wp2
                    go_ret
                    obtain rfl : k = n2 := by omega
                    refine ⟨ret_u64 ?_, hb2⟩
                    rw [List.take_of_length_le (by have := hr2.len; omega)]
                    exact (sum_of HBEG.out hlen HG8.out HG4.out).symm

set_option maxRecDepth 100000 in
set_option maxHeartbeats 1000000 in
theorem sum2_short {B : Nat} (s : Int) (A : Option Addr) (n c : Nat) (xs : List Nat) (w : World) (hr : RdB w B A n xs) (hB : B ≤ w.heap.size) (hnc : n ≤ c) (hn : n < 32) :
    Calls Tryz.prog 30 #[.int .u64 s, .slice A n c] w fun e w' => e = .returned (.int .u64 (sumI s xs)) ∧ Below w.heap.size w w' := by
  have hd : decide (32 ≤ (n : Int)) = false := by simp; omega
  have hcut := cut_u8
  have hmx : n ≤ 9223372036854775807 := by have := hr.rd.2.1; unfold maxLen at this; exact this
  have hlen := hr.len
  have HBEG : Hid (beginI s xs = (wr64 (s + 2870177450012600261), xs)) := Lib.hid (by unfold beginI; rw [if_pos (by omega)])
  go_enter Tryz.func30, Tryz.ntmps30
  go_wp2
  go_loopw [1, 6] (fun b h wt => ∃ (A2 : Option Addr) (n2 c2 : Nat) (zs : List Nat) (h2 : Int) (f2 : Nat), b = .slice A2 n2 c2 ∧ h = .int .u64 h2 ∧ RdB w B A2 n2 zs ∧ n2 ≤ c2 ∧ n2 ≤ f2 ∧ Hid (go8 n (wr64 (wr64 (s + 2870177450012600261) + n)) xs = go8 f2 h2 zs) ∧ Below w.heap.size w wt) (fun b _ _ => lenOf b)
  case atStart => exact ⟨A, n, c, xs, _, n, rfl, rfl, hr, hnc, by omega, Lib.hid rfl, Below.refl _ _⟩
  case round =>
    obtain ⟨A2, n2, c2, zs, h2, f2, rfl, rfl, hr2, hnc2, hf2, HG, hb2⟩ := hrel
    by_cases h8 : 8 ≤ n2
    · have hd8 : decide (8 ≤ (n2 : Int)) = true := by simp; omega
      have hi8 : (8 : Int) ≤ (n2 : Int) := by omega
      go_wp2_with fail
      refine (word_any A2 n2 c2 zs 8 _ (hr2.below hb2 hB) (by omega) (by omega)).mono ?_
      rintro e w' ⟨rfl, rfl⟩
      go_wp2_with fail
      refine (stir2_any _ _ _).mono ?_
      rintro e w' ⟨rfl, rfl⟩
      go_wp2_with fail
      refine (left_any _ _ _ (by omega) (by omega)).mono ?_
      rintro e w' ⟨rfl, rfl⟩
      go_wp2
      go_roundw
      case rel =>
        refine ⟨_, _, _, zs.drop 8, step8 h2 zs, f2 - 1, rfl, rfl, hr2.cutA (k := 8) h8 hnc2, by omega, by omega, ?_, hb2⟩
        have hl := hr2.len
        obtain ⟨f', rfl⟩ : ∃ f', f2 = f' + 1 := ⟨f2 - 1, by omega⟩
        refine Lib.hid ?_
        rw [HG.out]
        simp only [go8, Nat.add_sub_cancel]
        rw [if_neg (by omega)]
      case measure => simp [lenOf]; omega
    · have hd8 : decide (8 ≤ (n2 : Int)) = false := by simp; omega
      have HG8 : Hid (go8 n (wr64 (wr64 (s + 2870177450012600261) + n)) xs = (h2, zs)) := Lib.hid (by
        have hl := hr2.len
        rw [HG.out]
        cases f2 with
        | zero => rfl
        | succ f2 => simp only [go8]; rw [if_pos (by omega)])
      clear HG
      obtain ⟨wo2, rfl⟩ : ∃ wo : World, wo = wr := ⟨_, rfl⟩
      by_cases h4 : 4 ≤ n2
      · have hd4 : decide (4 ≤ (n2 : Int)) = true := by simp; omega
        have hi4 : (4 : Int) ≤ (n2 : Int) := by omega
        go_wp2_with (first | (go_at_call 46; refine (word_any A2 n2 c2 zs 4 _ (hr2.below hb2 hB) (by omega) (by omega)).mono ?_; rintro e w' ⟨rfl, rfl⟩) | (go_at_call 47; refine (left_any _ _ _ (by omega) (by omega)).mono ?_; rintro e w' ⟨rfl, rfl⟩))
        have HG4 : Hid (go4 h2 zs = (step4 h2 zs, zs.drop 4)) := Lib.hid (by
          have hl := hr2.len
          unfold go4
          rw [if_neg (by omega)])
        have hr4 := (hr2.below hb2 hB).cutA (k := 4) h4 hnc2
        generalize cutA A2 c2 4 = A4 at *
        go_loop [6, 11] (fun h i => ∃ k : Nat, k ≤ n2 - 4 ∧ i = .int .i64 k ∧ h = .int .u64 (go1 (step4 h2 zs) ((zs.drop 4).take k))) (fun _ i => n2 - 4 - (intOf i).toNat)
        case atStart => exact ⟨0, by omega, rfl, rfl⟩
        case round =>
          obtain ⟨k, hk, rfl, rfl⟩ := hrel
          by_cases hlt : k < n2 - 4
          · obtain ⟨ad, x, rfl, _, hx, hc, hx2⟩ := hr4.at_ hlt
            go_wp2_with fail
            refine (left_any _ _ _ (by omega) (by omega)).mono ?_
            rintro e w' ⟨rfl, rfl⟩
            go_wp2
            go_round
            case rel => exact ⟨k + 1, by omega, by go_num, by rw [go1_take hx.out]; rfl⟩
            case measure => simp [intOf]; omega
          · go_wp2
            go_ret
            obtain rfl : k = n2 - 4 := by omega
            refine ⟨ret_u64 ?_, hb2⟩
            rw [List.take_of_length_le (by have := hr4.len; omega)]
            exact (sum_of HBEG.out hlen HG8.out HG4.out).symm
      · have hd4 : decide (4 ≤ (n2 : Int)) = false := by simp; omega
        have HG4 : Hid (go4 h2 zs = (h2, zs)) := Lib.hid (by
          have hl := hr2.len
          unfold go4
          rw [if_pos (by omega)])
        go_wp2
        go_loop [6, 11] (fun h i => ∃ k : Nat, k ≤ n2 ∧ i = .int .i64 k ∧ h = .int .u64 (go1 h2 (zs.take k))) (fun _ i => n2 - (intOf i).toNat)
        case atStart => exact ⟨0, by omega, rfl, rfl⟩
        case round =>
          obtain ⟨k, hk, rfl, rfl⟩ := hrel
          by_cases hlt : k < n2
          · obtain ⟨ad, x, rfl, _, hx, hc, hx2⟩ := (hr2.below hb2 hB).at_ hlt
            go_wp2_with fail
            refine (left_any _ _ _ (by omega) (by omega)).mono ?_
            rintro e w' ⟨rfl, rfl⟩
            go_wp2
            go_round
            case rel => exact ⟨k + 1, by omega, by go_num, by rw [go1_take hx.out]; rfl⟩
            case measure => simp [intOf]; omega
          · go_wp2
            go_ret
            obtain rfl : k = n2 := by omega
            refine ⟨ret_u64 ?_, hb2⟩
            rw [List.take_of_length_le (by have := hr2.len; omega)]
            exact (sum_of HBEG.out hlen HG8.out HG4.out).symm

/-- **The document's sum.** -/
theorem sum2_any {B : Nat} (s : Int) (A : Option Addr) (n c : Nat) (xs : List Nat) (w : World) (hr : RdB w B A n xs) (hB : B ≤ w.heap.size) (hnc : n ≤ c) :
    Calls Tryz.prog 30 #[.int .u64 s, .slice A n c] w fun e w' => e = .returned (.int .u64 (sumI s xs)) ∧ Below w.heap.size w w' := by
  by_cases h : 32 ≤ n
  · exact sum2_long s A n c xs w hr hB hnc h
  · exact sum2_short s A n c xs w hr hB hnc (by omega)

end Go.Proofs.YtloopkmmpfghfaaGreat
