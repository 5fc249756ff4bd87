/-
  The walks of hash.begins.
-/
import Derived.Test.YtloopkmmpfghfaaGreatHashR
namespace Go.Proofs.YtloopkmmpfghfaaGreat
open Go.RowKit
open Mg
theorem still_number {B : Nat} (A : Option Addr) (m c : Nat) (xs : List Nat) (w : World) (hr : RdB w B A m xs) (hn : m ≤ 8) :
    Calls Tryz.prog 44 #[.slice A m c] w fun e w' => e = .returned (.int .u64 (leN xs : Nat)) ∧ w' = w :=
  (number_any A m c xs w hr hn).mono fun _ _ ⟨a, b⟩ => ⟨a, b.symm⟩
theorem still_stir (x y : Int) (w : World) : Calls Tryz.prog 43 #[.int .u64 x, .int .u64 y] w fun e w' => e = .returned (.int .u64 (stirI x y)) ∧ w' = w :=
  (stir_any x y w).mono fun _ _ ⟨a, b⟩ => ⟨a, b.symm⟩
def BeginPost (B : Nat) (s : Int) (xs : List Nat) (w : World) (e : Ending) (w' : World) : Prop :=
  ∃ (A' : Option Addr) (n' c' : Nat), e = .returned (.tuple #[.int .u64 (beginI s xs).1, .slice A' n' c']) ∧ RdB w B A' n' (beginI s xs).2 ∧ n' ≤ c' ∧ Below w.heap.size w w'
def mixP (l : L4) : Nat → Int
  | 0 => 0
  | 1 => rotI l.1 1
  | 2 => wr64 (rotI l.1 1 + rotI l.2.1 7)
  | 3 => wr64 (wr64 (rotI l.1 1 + rotI l.2.1 7) + rotI l.2.2.1 12)
  | _ => mixL l
theorem ix0 (a0 a1 a2 a3 : Int) (w : World) : (Instr.index 89 (.agg #[.int .u64 a0, .int .u64 a1, .int .u64 a2, .int .u64 a3]) (.int .i64 0)).run Tryz.prog w = .ok (.int .u64 a0) w := by kernel_rfl
theorem ix1 (a0 a1 a2 a3 : Int) (w : World) : (Instr.index 89 (.agg #[.int .u64 a0, .int .u64 a1, .int .u64 a2, .int .u64 a3]) (.int .i64 1)).run Tryz.prog w = .ok (.int .u64 a1) w := by kernel_rfl
theorem ix2 (a0 a1 a2 a3 : Int) (w : World) : (Instr.index 89 (.agg #[.int .u64 a0, .int .u64 a1, .int .u64 a2, .int .u64 a3]) (.int .i64 2)).run Tryz.prog w = .ok (.int .u64 a2) w := by kernel_rfl
theorem ix3 (a0 a1 a2 a3 : Int) (w : World) : (Instr.index 89 (.agg #[.int .u64 a0, .int .u64 a1, .int .u64 a2, .int .u64 a3]) (.int .i64 3)).run Tryz.prog w = .ok (.int .u64 a3) w := by kernel_rfl
theorem wrap_rot (x k : Int) : IntKind.u64.wrap (rotI x k) = rotI x k := by
  have := rotI_range x k
  rw [IntKind.wrap_u64]; omega
set_option maxRecDepth 100000 in
set_option maxHeartbeats 1000000 in
theorem begins_long {B : Nat} (s : Int) (A : Option Addr) (n c : Nat) (xs : List Nat) (w : World) (hr : RdB w B A n xs) (hB : B ≤ w.heap.size) (hnc : n ≤ c) (hn : 32 ≤ n) :
    Calls Tryz.prog 41 #[.int .u64 s, .slice A n c] w (BeginPost B s xs w) := by
  have hd : decide ((n : Int) < 32) = false := by simp; omega
  have hcut := cut_u8
  have hmid := mid_u8
  have hlen := hr.len
  go_enter Tryz.func41, Tryz.ntmps41
  go_wp2
  go_loopw [1] (fun b wr => ∃ (A' : Option Addr) (n' c' : Nat) (ys : List Nat) (l : L4) (f : Nat), b = .slice A' n' c' ∧ RdB w B A' n' ys ∧ n' ≤ c' ∧ n' ≤ f ∧ lanesGo n (lanes0 s) xs = lanesGo f l ys ∧ Blk wr w.heap.size 89 (arr4 l) ∧ Below w.heap.size w wr ∧ wr.heap.size = w.heap.size + 1) (fun b _ => lenOf b)
  case atStart => exact ⟨A, n, c, xs, lanes0 s, n, rfl, hr, hnc, Nat.le_refl _, rfl, Blk.new _ _ _, (Below.refl _ _).alloc (Nat.le_refl _) _, by simp⟩
  case round =>
    obtain ⟨A', n', c', ys, l, f, rfl, hr', hnc', hf, hgo, hblk, hb, hsz⟩ := hrel
    have HGO := Lib.hid hgo
    have HSZ := Lib.hid hsz
    clear hgo hsz
    by_cases h32 : 32 ≤ n'
    · obtain ⟨wo, rfl⟩ : ∃ wo : World, wo = wr := ⟨_, rfl⟩
      have hi32 : (32 : Int) ≤ (n' : Int) := by omega
      have hd2 : decide (32 ≤ (n' : Int)) = true := by simp; omega
      go_wp2
      go_loopw [36] (fun i wi => ∃ k : Nat, k ≤ 4 ∧ i = .int .i64 k ∧ Blk wi w.heap.size 89 (arr4 (partL l ys k)) ∧ Below w.heap.size w wi ∧ wi.heap.size = w.heap.size + 1) (fun i _ => 4 - (intOf i).toNat)
      case atStart => exact ⟨0, by omega, rfl, hblk, hb, HSZ.out⟩
      case round =>
        obtain ⟨k, hk, rfl, hblk', hb', hsz'⟩ := hrel
        have HSZ' := Lib.hid hsz'
        clear hsz'
        obtain rfl | rfl | rfl | rfl | rfl : k = 0 ∨ k = 1 ∨ k = 2 ∨ k = 3 ∨ k = 4 := by omega
        · have hcl := hblk'.cell 0
          have hfz := hblk'.frozen 0
          simp [arr4, partL] at hcl
          have ew : IntKind.i64.wrap 0 = 0 := by decide
          have ew2 : IntKind.i64.wrap 8 = 8 := by decide
          have ew3 : IntKind.i64.wrap 1 = 1 := by decide
          have hle : (8 : Int) ≤ (c' : Int) := by omega
          have hw := still_number (cutA A' c' 0) 8 (c' - 0) ((ys.drop 0).take 8) wr.drew ((hr'.below hb' hB).mid (k := 0) (m := 8) (by omega) hnc').drew (Nat.le_refl _)
          go_wp2
          refine wp_region_tail 14 (by kernel_rfl) (by kernel_rfl) ?_
          simp only [List.take_succ_cons, List.take_zero, List.drop_succ_cons, List.drop_zero]
          repeat still_step
          still_call hw
          still_call (still_stir _ _ _)
          repeat still_step
          refine wpStill_nil ?_
          go_wp2
          go_roundw
          case rel => exact ⟨1, by omega, rfl, by simpa [arr4, partL, laneW, roundL] using (hblk'.set_ 0 _).drew, below_drew (hb'.setCell (p := ⟨w.heap.size, 0, none⟩) (Nat.le_refl _) _), by simpa using HSZ'.out⟩
          case measure => simp [intOf]
        · have hcl := hblk'.cell 1
          have hfz := hblk'.frozen 1
          simp [arr4, partL] at hcl
          have ew : IntKind.i64.wrap 8 = 8 := by decide
          have ew2 : IntKind.i64.wrap 16 = 16 := by decide
          have ew3 : IntKind.i64.wrap 2 = 2 := by decide
          have hle : (16 : Int) ≤ (c' : Int) := by omega
          have hw := still_number (cutA A' c' 8) 8 (c' - 8) ((ys.drop 8).take 8) wr.drew ((hr'.below hb' hB).mid (k := 8) (m := 8) (by omega) hnc').drew (Nat.le_refl _)
          go_wp2
          refine wp_region_tail 14 (by kernel_rfl) (by kernel_rfl) ?_
          simp only [List.take_succ_cons, List.take_zero, List.drop_succ_cons, List.drop_zero]
          repeat still_step
          still_call hw
          still_call (still_stir _ _ _)
          repeat still_step
          refine wpStill_nil ?_
          go_wp2
          go_roundw
          case rel => exact ⟨2, by omega, rfl, by simpa [arr4, partL, laneW, roundL] using (hblk'.set_ 1 _).drew, below_drew (hb'.setCell (p := ⟨w.heap.size, 1, none⟩) (Nat.le_refl _) _), by simpa using HSZ'.out⟩
          case measure => simp [intOf]
        · have hcl := hblk'.cell 2
          have hfz := hblk'.frozen 2
          simp [arr4, partL] at hcl
          have ew : IntKind.i64.wrap 16 = 16 := by decide
          have ew2 : IntKind.i64.wrap 24 = 24 := by decide
          have ew3 : IntKind.i64.wrap 3 = 3 := by decide
          have hle : (24 : Int) ≤ (c' : Int) := by omega
          have hw := still_number (cutA A' c' 16) 8 (c' - 16) ((ys.drop 16).take 8) wr.drew ((hr'.below hb' hB).mid (k := 16) (m := 8) (by omega) hnc').drew (Nat.le_refl _)
          go_wp2
          refine wp_region_tail 14 (by kernel_rfl) (by kernel_rfl) ?_
          simp only [List.take_succ_cons, List.take_zero, List.drop_succ_cons, List.drop_zero]
          repeat still_step
          still_call hw
          still_call (still_stir _ _ _)
          repeat still_step
          refine wpStill_nil ?_
          go_wp2
          go_roundw
          case rel => exact ⟨3, by omega, rfl, by simpa [arr4, partL, laneW, roundL] using (hblk'.set_ 2 _).drew, below_drew (hb'.setCell (p := ⟨w.heap.size, 2, none⟩) (Nat.le_refl _) _), by simpa using HSZ'.out⟩
          case measure => simp [intOf]
        · have hcl := hblk'.cell 3
          have hfz := hblk'.frozen 3
          simp [arr4, partL] at hcl
          have ew : IntKind.i64.wrap 24 = 24 := by decide
          have ew2 : IntKind.i64.wrap 32 = 32 := by decide
          have ew3 : IntKind.i64.wrap 4 = 4 := by decide
          have hle : (32 : Int) ≤ (c' : Int) := by omega
          have hw := still_number (cutA A' c' 24) 8 (c' - 24) ((ys.drop 24).take 8) wr.drew ((hr'.below hb' hB).mid (k := 24) (m := 8) (by omega) hnc').drew (Nat.le_refl _)
          go_wp2
          refine wp_region_tail 14 (by kernel_rfl) (by kernel_rfl) ?_
          simp only [List.take_succ_cons, List.take_zero, List.drop_succ_cons, List.drop_zero]
          repeat still_step
          still_call hw
          still_call (still_stir _ _ _)
          repeat still_step
          refine wpStill_nil ?_
          go_wp2
          go_roundw
          case rel => exact ⟨4, by omega, rfl, by simpa [arr4, partL, laneW, roundL] using (hblk'.set_ 3 _).drew, below_drew (hb'.setCell (p := ⟨w.heap.size, 3, none⟩) (Nat.le_refl _) _), by simpa using HSZ'.out⟩
          case measure => simp [intOf]
        · go_wp2
          go_roundw
          case rel =>
            refine ⟨_, _, _, ys.drop 32, roundL l ys, f - 1, rfl, hr'.cutA (k := 32) h32 hnc', by omega, by omega, ?_, hblk', hb', HSZ'.out⟩
            have hl := hr'.len
            obtain ⟨f', rfl⟩ : ∃ f', f = f' + 1 := ⟨f - 1, by omega⟩
            rw [HGO.out]
            simp only [lanesGo, Nat.add_sub_cancel]
            rw [if_neg (by omega)]
          case measure => simp [lenOf]; omega
    · have hd3 : decide (32 ≤ (n' : Int)) = false := by simp; omega
      have c0 := hblk.cell 0
      have c1 := hblk.cell 1
      have c2 := hblk.cell 2
      have c3 := hblk.cell 3
      simp [arr4] at c0 c1 c2 c3
      obtain ⟨wo, rfl⟩ : ∃ wo : World, wo = wr := ⟨_, rfl⟩
      go_wp2
      go_loopw [9, 56] (fun h i wt => ∃ k : Nat, k ≤ 4 ∧ i = .int .i64 k ∧ h = .int .u64 (mixP l k) ∧ Blk wt w.heap.size 89 (arr4 l) ∧ Blk wt wo.heap.size 3 #[.int .i64 1, .int .i64 7, .int .i64 12, .int .i64 18] ∧ Below w.heap.size w wt) (fun _ i _ => 4 - (intOf i).toNat)
      case atStart => exact ⟨0, by omega, rfl, rfl, hblk.alloc _, Blk.new _ _ _, hb.alloc hb.size _⟩
      case round =>
        obtain ⟨k, hk, rfl, rfl, hblk', hlit, hb'⟩ := hrel
        obtain rfl | rfl | rfl | rfl | rfl : k = 0 ∨ k = 1 ∨ k = 2 ∨ k = 3 ∨ k = 4 := by omega
        · have hcl := hblk'.cell 0
          have hcm := hlit.cell 0
          simp [arr4] at hcl hcm
          have hrr := rotI_range l.1 1
          go_wp2_with (go_at_call 42; refine (rot_any _ _ _ (by omega) (by omega)).mono ?_; rintro e w' ⟨rfl, rfl⟩)
          go_roundw
          case rel => exact ⟨1, by omega, rfl, by show Value.int .u64 (IntKind.u64.wrap (0 + rotI l.1 1)) = _; rw [Int.zero_add, wrap_rot]; rfl, hblk', hlit, hb'⟩
          case measure => simp [intOf]
        · have hcl := hblk'.cell 1
          have hcm := hlit.cell 1
          simp [arr4] at hcl hcm
          have hrr := rotI_range l.2.1 7
          go_wp2_with (go_at_call 42; refine (rot_any _ _ _ (by omega) (by omega)).mono ?_; rintro e w' ⟨rfl, rfl⟩)
          go_roundw
          case rel => exact ⟨2, by omega, rfl, rfl, hblk', hlit, hb'⟩
          case measure => simp [intOf]
        · have hcl := hblk'.cell 2
          have hcm := hlit.cell 2
          simp [arr4] at hcl hcm
          have hrr := rotI_range l.2.2.1 12
          go_wp2_with (go_at_call 42; refine (rot_any _ _ _ (by omega) (by omega)).mono ?_; rintro e w' ⟨rfl, rfl⟩)
          go_roundw
          case rel => exact ⟨3, by omega, rfl, rfl, hblk', hlit, hb'⟩
          case measure => simp [intOf]
        · have hcl := hblk'.cell 3
          have hcm := hlit.cell 3
          simp [arr4] at hcl hcm
          have hrr := rotI_range l.2.2.2 18
          go_wp2_with (go_at_call 42; refine (rot_any _ _ _ (by omega) (by omega)).mono ?_; rintro e w' ⟨rfl, rfl⟩)
          go_roundw
          case rel => exact ⟨4, by omega, rfl, rfl, hblk', hlit, hb'⟩
          case measure => simp [intOf]
        · rw [show ((4 : Nat) : Int) = 4 from rfl]
          have c0 := hblk'.cell 0
          have c1 := hblk'.cell 1
          have c2 := hblk'.cell 2
          have c3 := hblk'.cell 3
          simp [arr4] at c0 c1 c2 c3
          go_wp2
          go_loopw [9, 70] (fun h i wt => ∃ k : Nat, k ≤ 4 ∧ i = .int .i64 k ∧ h = .int .u64 (foldP l k) ∧ Below w.heap.size w wt) (fun _ i _ => 4 - (intOf i).toNat)
          case atStart => exact ⟨0, by omega, rfl, rfl, hb'⟩
          case round =>
            obtain ⟨k, hk, rfl, rfl, hb2⟩ := hrel
            obtain rfl | rfl | rfl | rfl | rfl : k = 0 ∨ k = 1 ∨ k = 2 ∨ k = 3 ∨ k = 4 := by omega
            · have ix := fun w => ix0 l.1 l.2.1 l.2.2.1 l.2.2.2 w
              go_wp2_with (go_at_call 43; refine (stir_any _ _ _).mono ?_; rintro e w' ⟨rfl, rfl⟩)
              go_roundw
              case rel => exact ⟨1, by omega, rfl, rfl, hb2⟩
              case measure => simp [intOf]
            · have ix := fun w => ix1 l.1 l.2.1 l.2.2.1 l.2.2.2 w
              go_wp2_with (go_at_call 43; refine (stir_any _ _ _).mono ?_; rintro e w' ⟨rfl, rfl⟩)
              go_roundw
              case rel => exact ⟨2, by omega, rfl, rfl, hb2⟩
              case measure => simp [intOf]
            · have ix := fun w => ix2 l.1 l.2.1 l.2.2.1 l.2.2.2 w
              go_wp2_with (go_at_call 43; refine (stir_any _ _ _).mono ?_; rintro e w' ⟨rfl, rfl⟩)
              go_roundw
              case rel => exact ⟨3, by omega, rfl, rfl, hb2⟩
              case measure => simp [intOf]
            · have ix := fun w => ix3 l.1 l.2.1 l.2.2.1 l.2.2.2 w
              go_wp2_with (go_at_call 43; refine (stir_any _ _ _).mono ?_; rintro e w' ⟨rfl, rfl⟩)
              go_roundw
              case rel => exact ⟨4, by omega, rfl, rfl, hb2⟩
              case measure => simp [intOf]
            · have HBEG : Hid (beginI s xs = (foldP l 4, ys)) := Lib.hid (by
                have hg := HGO.out
                have hl := hr'.len
                obtain ⟨f', rfl⟩ | rfl : (∃ f', f = f' + 1) ∨ f = 0 := by
                  cases f with
                  | zero => exact .inr rfl
                  | succ f => exact .inl ⟨f, rfl⟩
                all_goals
                  simp only [lanesGo] at hg
                  try rw [if_pos (by omega)] at hg
                  unfold beginI
                  rw [if_neg (by omega), hlen, hg]
                  rfl)
              go_wp2
              go_ret2
              exact ⟨A', n', c', by rw [HBEG.out]; rfl, by rw [HBEG.out]; exact hr', hnc', hb2⟩

set_option maxRecDepth 100000 in
set_option maxHeartbeats 1000000 in
theorem begins_short {B : Nat} (s : Int) (A : Option Addr) (n c : Nat) (xs : List Nat) (w : World) (hr : RdB w B A n xs) (hnc : n ≤ c) (hn : n < 32) :
    Calls Tryz.prog 41 #[.int .u64 s, .slice A n c] w (BeginPost B s xs w) := by
  have hd : decide ((n : Int) < 32) = true := by simp; omega
  have hlen := hr.len
  have HBEG : Hid (beginI s xs = (wr64 (s + 2870177450012600261), xs)) := Lib.hid (by unfold beginI; rw [if_pos (by omega)])
  go_enter Tryz.func41, Tryz.ntmps41
  go_wp2
  go_ret2
  exact ⟨A, n, c, by rw [HBEG.out]; rfl, by rw [HBEG.out]; exact hr, hnc, Below.refl _ _⟩

theorem begins_any {B : Nat} (s : Int) (A : Option Addr) (n c : Nat) (xs : List Nat) (w : World) (hr : RdB w B A n xs) (hB : B ≤ w.heap.size) (hnc : n ≤ c) :
    Calls Tryz.prog 41 #[.int .u64 s, .slice A n c] w (BeginPost B s xs w) := by
  by_cases h : 32 ≤ n
  · exact begins_long s A n c xs w hr hB hnc h
  · exact begins_short s A n c xs w hr hnc (by omega)

end Go.Proofs.YtloopkmmpfghfaaGreat
