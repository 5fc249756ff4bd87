/-
  The walks of a frame's head being read (chapter 8, the program).
-/
import Derived.Test.YtloopkmmpfghfaaGreatW3
import Derived.Test.YtloopkmmpfghfaaGreatFrameC
namespace Go.Proofs.YtloopkmmpfghfaaGreat
open Go.RowKit

/-- The cells of a frame.reader. -/
def frC (dict b data : Value) (h : Mg.H3) (k : Nat) (last : Bool) : Array Value := #[dict, b, data, .int .i64 h.1, .int .i64 h.2.1, .int .i64 h.2.2, .int .i64 k, .bool last]

set_option maxRecDepth 100000 in
set_option maxHeartbeats 400000 in
theorem begin_any (w : World) : Calls Tryz.prog 48 #[] w fun e w' => e = .returned (.agg #[.int .i64 1, .int .i64 4, .int .i64 8]) ∧ Below w.heap.size w w' := by
  go_enter Tryz.func48, Tryz.ntmps48
  go_wp2
  exact bodyPost_ret (v := .agg #[.int .i64 1, .int .i64 4, .int .i64 8]) (by simp [results, Tryz.results48, go_sem]) rfl ⟨rfl, (Below.refl _ _).alloc (Nat.le_refl _) _⟩

set_option maxRecDepth 100000 in
set_option maxHeartbeats 400000 in
theorem frhead_short (g : Nat) (dict da : Value) (h : Mg.H3) (k : Nat) (l : Bool) (A : Option Addr) (n c : Nat) (id : Int) (w : World) (hg : Blk w g 60 (frC dict (.slice A n c) da h k l)) (hn : n < 8) :
    Calls Tryz.prog 49 #[.pointer (some ⟨g, 0, none⟩), .int .i64 id] w fun e w' => e = .returned (.int .i64 2) ∧ w = w' := by
  have c1 : w.cell? ⟨g, 1, none⟩ = some (.slice A n c) := hg.cell 1
  have hd : decide ((n : Int) < 8) = true := by simp; omega
  go_enter Tryz.func49, Tryz.ntmps49
  go_wp2
  go_ret
  exact ⟨rfl, rfl⟩

theorem title_rd (w : World) (mk : Nat × Nat) : RdB (w.alloc (.cells #[.int .u8 77, .int .u8 78, .int .u8 71, .int .u8 76] 5 mk)) (w.heap.size + 1) (some ⟨w.heap.size, 0, none⟩) 4 Mg.title :=
  ⟨rd_row w Mg.title _ _ mk 4 (by simp [u8s, Mg.title]) rfl (by simp [maxLen]), by simp [Mg.title]⟩

set_option maxRecDepth 100000 in
set_option maxHeartbeats 400000 in
theorem frhead_pre {B : Nat} (g : Nat) (dict da : Value) (h : Mg.H3) (k : Nat) (l : Bool) (A : Option Addr) (n c : Nat) (xs : List Nat) (id : Int) (w : World) (hg : Blk w g 60 (frC dict (.slice A n c) da h k l)) (hr : RdB w B A n xs) (hB : B ≤ w.heap.size) (hnc : n ≤ c) (hn : 8 ≤ n) (hp : preB xs Mg.title = false) :
    Calls Tryz.prog 49 #[.pointer (some ⟨g, 0, none⟩), .int .i64 id] w fun e w' => e = .returned (.int .i64 2) ∧ Below w.heap.size w w' := by
  have c1 : w.cell? ⟨g, 1, none⟩ = some (.slice A n c) := hg.cell 1
  have hd : decide ((n : Int) < 8) = false := by simp; omega
  have kc := bytes_const
  go_enter Tryz.func49, Tryz.ntmps49
  go_wp2_with fail
  refine (hasPrefix_any A _ n 4 c 4 xs Mg.title _ ((hr.alloc hB _).more (B' := w.heap.size + 1) (by omega)) (title_rd w (4, 5)) hnc).mono ?_
  rintro e w1 ⟨rfl, rfl⟩
  rw [hp]
  go_wp2
  go_ret
  exact ⟨rfl, (Below.refl _ _).alloc (Nat.le_refl _) _⟩

theorem or_shl64 (a x k : Nat) (hk : k < 4) (ha : a < 256 ^ k) (hx : x < 256) :
    bits .or .i64 (a : Int) ((x : Int) * 2 ^ (8 * k)) = ((a + 256 ^ k * x : Nat) : Int) := by
  have h1 : 256 ^ k * x < 256 ^ (k + 1) := by
    rw [Nat.pow_succ]
    exact Nat.mul_lt_mul_of_pos_left hx (Nat.pow_pos (by omega))
  have h2 : 256 ^ (k + 1) ≤ 256 ^ 4 := Nat.pow_le_pow_right (by omega) hk
  have h3 : 256 ^ k ≤ 256 ^ 4 := Nat.pow_le_pow_right (by omega) (by omega)
  have e : (x : Int) * 2 ^ (8 * k) = ((256 ^ k * x : Nat) : Int) := by
    rw [Mg.pow_256]
    push_cast
    rw [Int.mul_comm]
  have hb := bits_nat .i64 62 (by decide) (fun n h0 h1 => by rw [IntKind.wrap_i64]; omega) a (256 ^ k * x) (by omega) (by omega)
  rw [e, hb.2, Nat.or_comm, nat_join (8 * k) _ _ (by rw [Mg.pow_256]; exact Nat.mul_mod_right _ _) (by rw [← Mg.pow_256]; exact ha), Nat.add_comm]

theorem num4_le (xs : List Nat) (h : 8 ≤ xs.length) : Mg.leN ((xs.drop 4).take 4) = Mg.num4 (xs.drop 4) := by
  match xs, h with
  | a0 :: a1 :: a2 :: a3 :: a4 :: a5 :: a6 :: a7 :: l, _ =>
    simp [Mg.leN, Mg.num4]
    omega

theorem wrap_shl (x k : Nat) (hk : k < 4) (hx : x < 256) : wrap64 ((x : Int) * 2 ^ (8 * k)) = (x : Int) * 2 ^ (8 * k) := by
  have h1 : 256 ^ k ≤ 256 ^ 3 := Nat.pow_le_pow_right (by omega) (by omega)
  have h2 : x * 256 ^ k ≤ 255 * 256 ^ 3 := Nat.mul_le_mul (by omega) h1
  have e : (x : Int) * 2 ^ (8 * k) = ((x * 256 ^ k : Nat) : Int) := by
    rw [Mg.pow_256]
    push_cast
    rfl
  rw [e]
  unfold wrap64; omega
set_option maxRecDepth 100000 in
set_option maxHeartbeats 800000 in
theorem frhead_id {B : Nat} (g : Nat) (dict da : Value) (h : Mg.H3) (k : Nat) (l : Bool) (A : Option Addr) (n c : Nat) (xs : List Nat) (id : Int) (w : World) (hg : Blk w g 60 (frC dict (.slice A n c) da h k l)) (hr : RdB w B A n xs) (hB : B ≤ w.heap.size) (hnc : n ≤ c) (hn : 8 ≤ n) (hp : preB xs Mg.title = true) :
    Calls Tryz.prog 49 #[.pointer (some ⟨g, 0, none⟩), .int .i64 id] w fun e w' => ((Mg.num4 (xs.drop 4) : Int) ≠ id ∧ e = .returned (.int .i64 4) ∧ Below w.heap.size w w') ∨ ((Mg.num4 (xs.drop 4) : Int) = id ∧ e = .returned (.int .i64 0) ∧ Blk w' g 60 (frC dict (.slice (cutA A c 8) (n - 8) (c - 8)) da h k l) ∧ w.grownBy w' (some g)) := by
  have c1 : w.cell? ⟨g, 1, none⟩ = some (.slice A n c) := hg.cell 1
  have hd : decide ((n : Int) < 8) = false := by simp; omega
  have hi8 : (8 : Int) ≤ (n : Int) := by omega
  have hj8 : (8 : Int) ≤ (c : Int) := by omega
  have hi48 : (4 : Int) ≤ 8 := by omega
  have kc := bytes_const
  have hmid := mid_u8
  have hcut := cut_u8
  have hg1 := hg.alloc (.cells #[.int .u8 77, .int .u8 78, .int .u8 71, .int .u8 76] 5 (4, 5))
  have hr1 := hr.alloc hB (.cells #[.int .u8 77, .int .u8 78, .int .u8 71, .int .u8 76] 5 (4, 5))
  have hm := hr1.mid (k := 4) (m := 4) (by omega) hnc
  have hz := hg.lt
  have hu1 : w.grownBy (w.alloc (.cells #[.int .u8 77, .int .u8 78, .int .u8 71, .int .u8 76] 5 (4, 5))) (some g) := upd_of_below ((Below.refl _ _).alloc (Nat.le_refl _) _)
  have hb1 : Below w.heap.size w (w.alloc (.cells #[.int .u8 77, .int .u8 78, .int .u8 71, .int .u8 76] 5 (4, 5))) := (Below.refl _ _).alloc (Nat.le_refl _) _
  have hlen := hr.len
  have hnum : Hid (Mg.leN ((xs.drop 4).take 4) = Mg.num4 (xs.drop 4)) := Lib.hid (num4_le xs (by omega))
  have HX := Lib.hid hlen
  clear hlen
  generalize Mg.num4 (xs.drop 4) = N at *
  go_enter Tryz.func49, Tryz.ntmps49
  go_wp2_with fail
  refine (hasPrefix_any A _ n 4 c 4 xs Mg.title _ (hr1.more (B' := w.heap.size + 1) (by omega)) (title_rd w (4, 5)) hnc).mono ?_
  rintro e w1 ⟨rfl, rfl⟩
  rw [hp]
  generalize hw1 : w.alloc (.cells #[.int .u8 77, .int .u8 78, .int .u8 71, .int .u8 76] 5 (4, 5)) = w1 at *
  have c1 : w1.cell? ⟨g, 1, none⟩ = some (.slice A n c) := hg1.cell 1
  have fz1 : w1.frozen? ⟨g, 1, none⟩ = false := hg1.frozen 1
  have hset := hg1.set_ 1 (.slice (cutA A c 8) (n - 8) (c - 8))
  clear hw1
  go_wp2
  generalize hA4 : cutA A c 4 = A4 at *
  have HA4 := Lib.hid hA4
  clear hA4
  generalize hys : List.take 4 (List.drop 4 xs) = ys at *
  clear hys
  go_loop [6, 7, 5, 30] (fun _ _ v i => ∃ k : Nat, k ≤ 4 ∧ i = .int .i64 k ∧ v = .int .i64 (Mg.leN (ys.take k) : Nat)) (fun _ _ _ i => 4 - (intOf i).toNat)
  case atStart => exact ⟨0, by omega, rfl, rfl⟩
  case round =>
    obtain ⟨j, hj, rfl, rfl⟩ := hrel
    by_cases hlt : j < 4
    · obtain ⟨ad, x, hA, _, hx, hc, hx2⟩ := hm.at_ hlt
      subst hA
      go_wp2
      go_round
      case rel =>
        refine ⟨j + 1, by omega, by go_num, ?_⟩
        have h1 := Mg.leN_lt (ys.take j) fun y hy => hm.lt y (List.mem_of_mem_take hy)
        have h2 : (ys.take j).length = j := by have := hm.len; simp; omega
        rw [h2] at h1
        rw [Mg.leN_take_succ hx.out, ← or_shl64 _ x j (by omega) h1 hx2, wrap_shl x j (by omega) hx2]
      case measure => simp [intOf]; omega
    · obtain rfl : j = 4 := by omega
      have hyt : ys.take 4 = ys := List.take_of_length_le (by have := hm.len; omega)
      rw [hyt, hnum.out]
      by_cases hid : (N : Int) = id
      · have hid' : decide ((N : Int) = id) = true := by simp [hid]
        go_wp2
        go_ret
        exact ⟨rfl, hset, upd_trans hu1 (upd_set 1 _)⟩
      · have hid' : decide ((N : Int) = id) = false := by simp [hid]
        go_wp2
        go_ret
        exact ⟨rfl, hb1⟩

end Go.Proofs.YtloopkmmpfghfaaGreat
