import Derived.Test.YtloopkmmpfghfaaGreatFrameD
namespace Go.Proofs.YtloopkmmpfghfaaGreat
open Go.RowKit

def HeadPost (w : World) (dict : Value) (e : Ending) (w' : World) : Prop :=
  ∃ g u, e = .returned (.tuple #[.pointer (some ⟨g, 0, none⟩), .int .i64 0]) ∧ w.heap.size ≤ g ∧ Blk w' g 60 (frC dict u (.slice none 0 0) (1, 4, 8) 0 false) ∧ Below w.heap.size w w'
theorem known_str : ((strN (Mg.headB 258)).toList == [77, 78, 71, 76, 2, 1, 0, 0]) = true := by decide +kernel
theorem preB_head (id : Nat) : preB (Mg.headB id) Mg.title = true := by simp [preB, Mg.headB, Mg.title]
theorem headB_len (id : Nat) : (Mg.headB id).length = 8 := by simp [Mg.headB, Mg.title, Mg.le4]
theorem num4_head (id : Nat) (h : id < 4294967296) : Mg.num4 ((Mg.headB id).drop 4) = id := by
  simp [Mg.headB, Mg.title, Mg.le4, Mg.num4]
  omega

set_option maxRecDepth 100000 in
set_option maxHeartbeats 800000 in
theorem frread_head {B : Nat} (D : Option Addr) (dn dc : Nat) (A : Option Addr) (n c : Nat) (id : Nat) (w : World) (hr : RdB w B A n (Mg.headB id)) (hB : B ≤ w.heap.size) (hnc : n ≤ c) (hid : id < 4294967296) :
    Calls Tryz.prog 31 #[.slice D dn dc, .int .i64 id, .slice A n c, .bool true] w (HeadPost w (.slice D dn dc)) := by
  have hn : n = 8 := by rw [← hr.len, headB_len]
  subst hn
  have hp := preB_head id
  have hnum : Hid (Mg.num4 ((Mg.headB id).drop 4) = id) := Lib.hid (num4_head id hid)
  generalize Mg.headB id = xs at *
  clear hid
  go_enter Tryz.func31, Tryz.ntmps31
  go_wp2_with fail
  refine (begin_any _).mono ?_
  rintro e w1 ⟨rfl, hb1⟩
  have hz := hb1.size
  have hr1 := hr.below hb1 hB
  go_wp2_with fail
  have hblk := Blk.new w1 60 (frC (.slice D dn dc) (.slice A 8 c) (.slice none 0 0) (1, 4, 8) 0 false)
  refine (frhead_id w1.heap.size (.slice D dn dc) (.slice none 0 0) (1, 4, 8) 0 false A 8 c xs id _ hblk (hr1.alloc (by omega) _) (by simp; omega) hnc (Nat.le_refl _) hp).mono ?_
  rintro e w2 (⟨hne, _⟩ | ⟨_, rfl, hblk2, hu⟩)
  · exact absurd (by rw [hnum.out]) hne
  have c1 : w2.cell? ⟨w1.heap.size, 1, none⟩ = some (.slice (cutA A c 8) (8 - 8) (c - 8)) := hblk2.cell 1
  have c5 : w2.cell? ⟨w1.heap.size, 7, none⟩ = some (.bool false) := hblk2.cell 7
  have hb2 : Below w.heap.size w w2 := (hb1.alloc hz _).trans (upd_below hu hz (by simp; omega))
  clear hp
  go_wp2_with fail
  go_loop [12] (fun _ => True) (fun _ => 0)
  case atStart => trivial
  case round =>
    go_wp2
    go_ret2
    exact ⟨_, _, rfl, hz, hblk2, hb2⟩

set_option maxRecDepth 100000 in
set_option maxHeartbeats 800000 in
theorem frpartial_head {B : Nat} (D : Option Addr) (dn dc : Nat) (A : Option Addr) (n c : Nat) (id : Nat) (w : World) (hr : RdB w B A n (Mg.headB id)) (hB : B ≤ w.heap.size) (hnc : n ≤ c) (hid : id < 4294967296) :
    Calls Tryz.prog 22 #[.slice D dn dc, .int .i64 id, .slice A n c] w fun e w' => e = .returned (.tuple #[.slice none 0 0, .int .i64 0, .int .i64 0]) ∧ Below w.heap.size w w' := by
  go_enter Tryz.func22, Tryz.ntmps22
  go_wp2_with fail
  refine (frread_head D dn dc A n c id w hr hB hnc hid).mono ?_
  rintro e w2 ⟨g, u, rfl, hz, hblk2, hb2⟩
  have c1 : w2.cell? ⟨g, 2, none⟩ = some (.slice none 0 0) := hblk2.cell 2
  have c5 : w2.cell? ⟨g, 6, none⟩ = some (.int .i64 0) := hblk2.cell 6
  go_wp2_with fail
  refine wp_region_reads (by kernel_rfl) (by kernel_rfl) ?_
  repeat still_step
  refine wpStill_nil ?_
  go_wp2
  go_ret3
  exact ⟨rfl, below_drew hb2⟩

set_option maxRecDepth 100000 in
set_option maxHeartbeats 800000 in
theorem known8_any (w : World) :
    Calls Tryz.prog 19 #[] w fun e w' => e = .returned (.bool true) ∧ Below w.heap.size w w' := by
  go_enter Tryz.func19, Tryz.ntmps19
  go_wp2_with fail
  refine (head_any 7 _ (by decide)).mono ?_
  rintro e w1 ⟨v, rfl, hown, hb1⟩
  obtain ⟨A, c, rfl, hc, hrd⟩ := hown.rd
  have hr : RdB w1 w1.heap.size A (Mg.headB 7).length (Mg.headB 7) := ⟨hrd, by decide⟩
  go_wp2_with fail
  refine (frpartial_head none 0 0 A (Mg.headB 7).length c 7 w1 hr (Nat.le_refl _) hc (by decide)).mono ?_
  rintro e w2 ⟨rfl, hb2⟩
  go_wp2_with fail
  refine (head_any 258 _ (by decide)).mono ?_
  rintro e w3 ⟨v, rfl, hown3, hb3⟩
  obtain ⟨A3, c3, rfl, hc3, hrd3⟩ := hown3.rd
  have hcv := conv_str (⟨hrd3, by decide⟩ : RdB w3 w3.heap.size A3 (Mg.headB 258).length (Mg.headB 258)) c3
  go_wp2_with fail
  rw [known_str]
  go_ret
  exact ⟨rfl, (hb1.trans (hb2.mono hb1.size)).trans (hb3.mono (Nat.le_trans hb1.size hb2.size))⟩
end Go.Proofs.YtloopkmmpfghfaaGreat
