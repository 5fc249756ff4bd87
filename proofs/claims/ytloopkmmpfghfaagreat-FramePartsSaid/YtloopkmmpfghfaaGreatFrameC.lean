/-
  The walks of windows and sums of data, of the program and of the document.
-/
import Derived.Test.YtloopkmmpfghfaaGreatHashS
namespace Go.Proofs.YtloopkmmpfghfaaGreat
open Go.RowKit
open Mg (sumI)

/-- The sum's four bytes. -/
def sum4 (xs : List Nat) : List Nat := Mg.le4 (sumI 0 xs).toNat
theorem sum4_len (xs : List Nat) : (sum4 xs).length = 4 := rfl

theorem sumI_range (s : Int) (xs : List Nat) : 0 ≤ sumI s xs ∧ sumI s xs < 18446744073709551616 := by
  unfold sumI Mg.lastI
  exact Mg.xorI_range _ _

theorem cutA_zero (A : Option Addr) (c : Nat) : cutA A c 0 = A := by
  unfold cutA
  split
  · rfl
  · cases A <;> simp [Addr.add]

/-- It hands back the end of new bytes. -/
def RetEnd (w : World) (xs : List Nat) (e : Ending) (w' : World) : Prop :=
  ∃ A n c k all, OwnU8 w' w.heap.size (.slice A n c) all ∧ k ≤ n ∧ xs = all.drop k ∧ e = .returned (.slice (cutA A c k) (n - k) (c - k)) ∧ Below w.heap.size w w'

theorem window_of {xs ys : List Nat} {L : Nat} (h : (xs ++ ys).length = L) : Mg.window xs ys = (xs ++ ys).drop (L - 2000) := by
  unfold Mg.window
  rw [h]

theorem max_sub (n : Nat) : max ((n : Int) - 2000) 0 = ((n - 2000 : Nat) : Int) := by omega
theorem max_sub' (n : Nat) : max 0 ((n : Int) - 2000) = ((n - 2000 : Nat) : Int) := by omega

theorem rows2 {w : World} {B : Nat} {A1 A2 : Option Addr} {n1 n2 c1 c2 : Nat} {xs ys : List Nat} (hx : RdB w B A1 n1 xs) (hy : RdB w B A2 n2 ys) (h1 : n1 ≤ c1) (h2 : n2 ≤ c2) (hB : B ≤ w.heap.size) (t : TypeId) :
    RdRows (w.alloc (.cells #[.slice A1 n1 c1, .slice A2 n2 c2] t)) B ⟨w.heap.size, 0, none⟩ [⟨A1, n1, c1, xs⟩, ⟨A2, n2, c2, ys⟩] := by
  have hb := Blk.new w t #[.slice A1 n1 c1, .slice A2 n2 c2]
  intro j r hj
  match j, hj with
  | 0, hj =>
    simp only [List.getElem?_cons_zero, Option.some.injEq] at hj
    subst hj
    exact ⟨by simp [Addr.add, hb.cell], hx.alloc hB _, h1⟩
  | 1, hj =>
    simp only [List.getElem?_cons_succ, List.getElem?_cons_zero, Option.some.injEq] at hj
    subst hj
    exact ⟨by simp [Addr.add, hb.cell], hy.alloc hB _, h2⟩
  | j + 2, hj => simp at hj

theorem rows1 {w : World} {B : Nat} {A1 : Option Addr} {n1 c1 : Nat} {xs : List Nat} (hx : RdB w B A1 n1 xs) (h1 : n1 ≤ c1) (hB : B ≤ w.heap.size) (t : TypeId) :
    RdRows (w.alloc (.cells #[.slice A1 n1 c1] t)) B ⟨w.heap.size, 0, none⟩ [⟨A1, n1, c1, xs⟩] := by
  have hb := Blk.new w t #[.slice A1 n1 c1]
  intro j r hj
  match j, hj with
  | 0, hj =>
    simp only [List.getElem?_cons_zero, Option.some.injEq] at hj
    subst hj
    exact ⟨by simp [Addr.add, hb.cell], hx.alloc hB _, h1⟩
  | j + 1, hj => simp at hj

set_option maxRecDepth 100000 in
set_option maxHeartbeats 400000 in
theorem window_any {B : Nat} (A1 A2 : Option Addr) (n1 n2 c1 c2 : Nat) (xs ys : List Nat) (w : World) (hx : RdB w B A1 n1 xs) (hy : RdB w B A2 n2 ys) (h1 : n1 ≤ c1) (h2 : n2 ≤ c2) (hB : B ≤ w.heap.size) (hlen : n1 + n2 ≤ 1000000000) :
    Calls Tryz.prog 13 #[.slice A1 n1 c1, .slice A2 n2 c2] w (RetEnd w (Mg.window xs ys)) := by
  have hcut := cut_u8
  go_enter Tryz.func13, Tryz.ntmps13
  go_wp2_with fail
  refine (concat_any _ 2 2 _ _ (rows2 hx hy h1 h2 hB _) rfl (by omega) (by simp) (by simp; omega) ?_).mono ?_
  · simp [flat, hx.len, hy.len]; omega
  rintro e w1 ⟨v, rfl, hown, hb⟩
  have hb0 : Below w.heap.size w w1 := ((Below.refl w.heap.size w).alloc (Nat.le_refl _) _).trans (hb.mono (by simp))
  have hf : flat [⟨A1, n1, c1, xs⟩, ⟨A2, n2, c2, ys⟩] = xs ++ ys := by simp [flat]
  rw [hf] at hown
  clear hf
  have hown' := hown.lower (B' := w.heap.size) (by simp)
  obtain ⟨A3, c3, rfl, hc3, hr3⟩ := hown.rd
  have hLb : (xs ++ ys).length ≤ 1000000000 := by simp [hx.len, hy.len]; omega
  generalize hL : (xs ++ ys).length = L at *
  have HL := Lib.hid hL
  clear hL
  by_cases hbig : 2000 < L
  · have ha1 : (2000 : Int) ≤ (L : Int) := by omega
    have ha2 : (L : Int) - 2000 ≤ (L : Int) := by omega
    go_wp2
    go_ret
    exact ⟨A3, L, c3, L - 2000, _, hown', by omega, window_of HL.out, rfl, hb0⟩
  · have ha1 : (L : Int) ≤ 2000 := by omega
    have ha3 : (0 : Int) ≤ (L : Int) := by omega
    have hz : Hid (L - 2000 = 0) := Lib.hid (by omega)
    go_wp2
    all_goals
      go_ret
      exact ⟨A3, L, c3, 0, _, hown', by omega, by rw [window_of HL.out, hz.out], by simp [cutA_zero, show ((L : Int) - 2000).toNat = 0 from by omega, *] <;> first | done | (cases A3 <;> simp [Addr.add]), hb0⟩

set_option maxRecDepth 100000 in
set_option maxHeartbeats 400000 in
theorem window8_any {B : Nat} (A1 A2 : Option Addr) (n1 n2 c1 c2 : Nat) (xs ys : List Nat) (w : World) (hx : RdB w B A1 n1 xs) (hy : RdB w B A2 n2 ys) (hB : B ≤ w.heap.size) (hlen : n1 + n2 ≤ 1000000000) :
    Calls Tryz.prog 16 #[.slice A1 n1 c1, .slice A2 n2 c2] w (RetEnd w (Mg.window xs ys)) := by
  have hcut := cut_u8
  have hlx := hx.len
  have hly := hy.len
  have HX := Lib.hid hlx
  have HY := Lib.hid hly
  have hi1 : xs.length ≤ 1000000000 := by omega
  have hi2 : xs.length + ys.length ≤ 1000000000 := by omega
  clear hlx hly
  have hb1 : Below w.heap.size w (w.alloc (.cells #[] 5)) := (Below.refl _ _).alloc (Nat.le_refl _) _
  have h0 := ownU8_new w w.heap.size 0 [] #[] (by simp [u8s]) rfl (Nat.le_refl _) (by simp [maxLen])
  have hLb : (xs ++ ys).length ≤ 1000000000 := by rw [List.length_append]; exact hi2
  by_cases hbig : 2000 < (xs ++ ys).length
  · have ha1 : (2000 : Int) ≤ (((xs ++ ys).length : Nat) : Int) := by omega
    have ha2 : (((xs ++ ys).length : Nat) : Int) - 2000 ≤ (((xs ++ ys).length : Nat) : Int) := by omega
    go_enter Tryz.func16, Tryz.ntmps16
    go_wp2_with (first | (at_builtin; refine app_u8 rfl (.tmp 6) (.tmp 7) rfl _ _ _ rfl h0 _ _ _ _ xs rfl (hx.rd.alloc hB _) (by simp; omega) (by simp) ?_; intro v2 w2 hown2 hg2 _; have hb2 : Below w.heap.size w w2 := hb1.grown hg2 hb1.size h0.ge) | (at_builtin; refine app_u8 rfl (.tmp 8) (.tmp 9) rfl _ _ _ rfl hown2 _ _ _ _ ys rfl (hy.rd.below hb2 hB) (by simp only [List.nil_append]; omega) hb2.size ?_; intro v3 w3 hown3 hg3 _; have hb3 : Below w.heap.size w w3 := hb2.grown hg3 hb2.size hown2.ge; rw [List.nil_append] at hown3; obtain ⟨A3, c3, rfl, hc3, hr3⟩ := hown3.rd; generalize hL : (xs ++ ys).length = L at *; have HL := Lib.hid hL; clear hL))
    go_ret
    exact ⟨A3, L, c3, L - 2000, _, hown3, by omega, window_of HL.out, rfl, hb3⟩
  · have ha1 : (((xs ++ ys).length : Nat) : Int) ≤ 2000 := by omega
    have ha3 : (0 : Int) ≤ (((xs ++ ys).length : Nat) : Int) := by omega
    have hz : Hid ((xs ++ ys).length - 2000 = 0) := Lib.hid (by omega)
    go_enter Tryz.func16, Tryz.ntmps16
    go_wp2_with (first | (at_builtin; refine app_u8 rfl (.tmp 6) (.tmp 7) rfl _ _ _ rfl h0 _ _ _ _ xs rfl (hx.rd.alloc hB _) (by simp; omega) (by simp) ?_; intro v2 w2 hown2 hg2 _; have hb2 : Below w.heap.size w w2 := hb1.grown hg2 hb1.size h0.ge) | (at_builtin; refine app_u8 rfl (.tmp 8) (.tmp 9) rfl _ _ _ rfl hown2 _ _ _ _ ys rfl (hy.rd.below hb2 hB) (by simp only [List.nil_append]; omega) hb2.size ?_; intro v3 w3 hown3 hg3 _; have hb3 : Below w.heap.size w w3 := hb2.grown hg3 hb2.size hown2.ge; rw [List.nil_append] at hown3; obtain ⟨A3, c3, rfl, hc3, hr3⟩ := hown3.rd; generalize hL : (xs ++ ys).length = L at *; have HL := Lib.hid hL; clear hL))
    all_goals
      go_ret
      exact ⟨A3, L, c3, 0, _, hown3, by omega, by rw [window_of HL.out, hz.out], by simp [cutA_zero, *], hb3⟩

set_option maxRecDepth 100000 in
set_option maxHeartbeats 400000 in
theorem fsum_any {B : Nat} (A : Option Addr) (n c : Nat) (xs : List Nat) (w : World) (hx : RdB w B A n xs) (hnc : n ≤ c) (hB : B ≤ w.heap.size) (hlen : n ≤ 1000000000) :
    Calls Tryz.prog 17 #[.slice A n c] w (RetOwn w (sum4 xs)) := by
  have hrg := sumI_range 0 xs
  go_enter Tryz.func17, Tryz.ntmps17
  go_wp2_with fail
  refine (hsum_any 0 _ 1 _ _ (rows1 hx hnc hB _) (by simp) (by simp; omega) (by simp [hx.len]; omega)).mono ?_
  rintro e w1 ⟨rfl, hb⟩
  have hb0 : Below w.heap.size w w1 := ((Below.refl w.heap.size w).alloc (Nat.le_refl _) _).trans (hb.mono (by simp))
  obtain ⟨m, hm⟩ : ∃ m : Nat, sumI 0 xs = (m : Int) := ⟨(sumI 0 xs).toNat, by omega⟩
  have HM : Hid (sum4 xs = Mg.le4 m) := Lib.hid (by unfold sum4; rw [hm, Int.toNat_natCast])
  rw [hm]
  clear hm hrg
  go_wp2_with fail
  refine (low_any m _).mono ?_
  rintro e w2 ⟨v, rfl, hown, hb2⟩
  go_wp2
  go_ret
  exact ⟨v, rfl, by rw [HM.out]; exact hown.lower hb0.size, hb0.trans (hb2.mono hb0.size)⟩

theorem and_mask (m : Nat) (h : m < 18446744073709551616) : bits .and .u64 (m : Int) 4294967295 = ((m % 4294967296 : Nat) : Int) := by
  rw [show (4294967295 : Int) = ((4294967295 : Nat) : Int) from rfl, u64_and_nat _ _ h (by omega), show (4294967295 : Nat) = 2 ^ 32 - 1 from rfl, Nat.and_two_pow_sub_one_eq_mod]

theorem le4_mod (m : Nat) : Mg.le4 (m % 4294967296) = Mg.le4 m := by
  unfold Mg.le4
  congr 1
  · omega
  · congr 1
    · omega
    · congr 1
      · omega
      · congr 1; omega

set_option maxRecDepth 100000 in
set_option maxHeartbeats 400000 in
theorem fsum8_any {B : Nat} (A : Option Addr) (n c : Nat) (xs : List Nat) (w : World) (hx : RdB w B A n xs) (hnc : n ≤ c) (hB : B ≤ w.heap.size) :
    Calls Tryz.prog 18 #[.slice A n c] w (RetOwn w (sum4 xs)) := by
  have hrg := sumI_range 0 xs
  go_enter Tryz.func18, Tryz.ntmps18
  go_wp2_with fail
  refine (sum2_any 0 A n c xs _ hx hB hnc).mono ?_
  rintro e w1 ⟨rfl, hb0⟩
  obtain ⟨m, hm⟩ : ∃ m : Nat, sumI 0 xs = (m : Int) := ⟨(sumI 0 xs).toNat, by omega⟩
  rw [hm] at hrg
  have HA := and_mask m (by omega)
  have HM : Hid (sum4 xs = Mg.le4 (m % 4294967296)) := Lib.hid (by unfold sum4; rw [hm, Int.toNat_natCast, le4_mod])
  rw [hm]
  clear hm hrg
  have hlt : m % 4294967296 < 4294967296 := Nat.mod_lt _ (by omega)
  generalize m % 4294967296 = q at *
  go_wp2_with fail
  refine (four_any q _).mono ?_
  rintro e w2 ⟨v, rfl, hown, hb2⟩
  go_wp2
  go_ret
  exact ⟨v, rfl, by rw [HM.out]; exact hown.lower hb0.size, hb0.trans (hb2.mono hb0.size)⟩

end Go.Proofs.YtloopkmmpfghfaaGreat
