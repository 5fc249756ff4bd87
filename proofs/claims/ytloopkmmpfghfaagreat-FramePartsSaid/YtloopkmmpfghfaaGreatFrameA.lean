/-
  The walks of heads, windows and sums (chapters 2 and 8), of the program and of the document.
-/
import Derived.Test.YtloopkmmpfghfaaGreatHashB
import Derived.Test.YtloopkmmpfghfaaGreatConcat
import Derived.Test.YtloopkmmpfghfaaGreatA1
import Derived.Test.YtloopkmmpfghfaaGreatW2
namespace Go.Proofs.YtloopkmmpfghfaaGreat
open Go.RowKit
open Mg (sumI)

/-- A row of bytes just made. -/
theorem ownU8_new (w : World) (B n : Nat) (xs : List Nat) (vs : Array Value) (h : vs = (u8s xs).toArray) (hn : n = xs.length) (hB : B ≤ w.heap.size) (hm : n ≤ maxLen) :
    OwnU8 (w.alloc (.cells vs 5)) B (.slice (some ⟨w.heap.size, 0, none⟩) n n) xs := by
  subst h hn
  exact ⟨by simp [u8s], .inr ⟨w.heap.size, _, _, rfl, hB, heap_alloc_new _ _, Nat.le_refl _, hm, by simp [u8s], by rw [Nat.mul_one]; exact List.take_of_length_le (by simp [u8s])⟩⟩

theorem OwnU8.lower {w : World} {B B' : Nat} {v : Value} {xs : List Nat} (h : OwnU8 w B v xs) (hB : B' ≤ B) : OwnU8 w B' v xs := by
  rcases h.2 with h' | ⟨g, cap, cur, h1, h2, h3⟩
  · exact ⟨h.1, .inl h'⟩
  · exact ⟨h.1, .inr ⟨g, cap, cur, h1, Nat.le_trans hB h2, h3⟩⟩

/-- It hands back new bytes. -/
def RetOwn (w : World) (xs : List Nat) (e : Ending) (w' : World) : Prop := ∃ v, e = .returned v ∧ OwnU8 w' w.heap.size v xs ∧ Below w.heap.size w w'

theorem OwnU8.len {w : World} {B n c : Nat} {A : Option Addr} {xs : List Nat} (h : OwnU8 w B (.slice A n c) xs) : n = xs.length := by
  obtain ⟨A', c', e, _, _⟩ := h.rd
  injection e

theorem OwnU8.rdB {w : World} {B n c : Nat} {A : Option Addr} {xs : List Nat} (h : OwnU8 w B (.slice A n c) xs) (hx : ∀ x ∈ xs, x < 256) : RdB w w.heap.size A n xs ∧ n ≤ c := by
  obtain ⟨A', c', e, h1, h2⟩ := h.rd
  injection e with e1 e2 e3
  subst e1 e2 e3
  exact ⟨⟨h2, hx⟩, h1⟩

set_option maxRecDepth 100000 in
set_option maxHeartbeats 400000 in
theorem four_any (n : Nat) (w : World) :
    Calls Tryz.prog 28 #[.int .i64 n] w (RetOwn w (Mg.le4 n)) := by
  go_enter Tryz.func28, Tryz.ntmps28
  go_wp2
  go_ret
  exact ⟨_, rfl, ownU8_new _ _ _ _ _ (by simp [u8s, Mg.le4]) rfl (Nat.le_refl _) (by simp [maxLen]), (Below.refl _ _).alloc (Nat.le_refl _) _⟩

set_option maxRecDepth 100000 in
set_option maxHeartbeats 400000 in
theorem head_any (id : Nat) (w : World) (_hn : id < 9223372036854775808) :
    Calls Tryz.prog 14 #[.int .i64 id] w (RetOwn w (Mg.headB id)) := by
  have kc := bytes_const
  go_enter Tryz.func14, Tryz.ntmps14
  go_wp2_with fail
  refine (low_any id _).mono ?_
  rintro e w1 ⟨v, rfl, hown, hb⟩
  have hb0 : Below w.heap.size w w1 := ((Below.refl w.heap.size w).alloc (Nat.le_refl _) _).trans (hb.mono (by simp))
  have ht := (rd_row w Mg.title #[.int .u8 77, .int .u8 78, .int .u8 71, .int .u8 76] 5 (4, 5) 4 (by simp [u8s, Mg.title]) rfl (by simp [maxLen])).below hb (by simp)
  obtain ⟨A1, c1, rfl, hc1, hr1⟩ := hown.rd
  go_wp2_with (at_builtin; refine appG_u8 rfl _ _ rfl _ _ _ _ Mg.title rfl ht (by simp) _ _ _ _ (Mg.le4 id) rfl hr1 (by simp [Mg.le4]) (by simp [Mg.le4]) (by simp [Mg.le4]) ?_; intro v2 w2 hown2 hg2)
  go_ret
  exact ⟨_, rfl, OwnU8.lower hown2 hb0.size, hb0.grown hg2 hb0.size (fun k hk => by cases hk)⟩

set_option maxRecDepth 100000 in
set_option maxHeartbeats 400000 in
theorem head8_any (id : Nat) (w : World) :
    Calls Tryz.prog 15 #[.int .i64 id] w (RetOwn w (Mg.headB id)) := by
  have kc := bytes_const
  go_enter Tryz.func15, Tryz.ntmps15
  go_wp2_with fail
  refine (four_any id _).mono ?_
  rintro e w1 ⟨v, rfl, hown, hb⟩
  have hb0 : Below w.heap.size w w1 := ((Below.refl w.heap.size w).alloc (Nat.le_refl _) _).trans (hb.mono (by simp))
  have ht := (rd_row w Mg.title #[.int .u8 77, .int .u8 78, .int .u8 71, .int .u8 76] 5 (4, 5) 4 (by simp [u8s, Mg.title]) rfl (by simp [maxLen])).below hb (by simp)
  obtain ⟨A1, c1, rfl, hc1, hr1⟩ := hown.rd
  go_wp2_with (at_builtin; refine appG_u8 rfl _ _ rfl _ _ _ _ Mg.title rfl ht (by simp) _ _ _ _ (Mg.le4 id) rfl hr1 (by simp [Mg.le4]) (by simp [Mg.le4]) (by simp [Mg.le4]) ?_; intro v2 w2 hown2 hg2)
  go_ret
  exact ⟨_, rfl, OwnU8.lower hown2 hb0.size, hb0.grown hg2 hb0.size (fun k hk => by cases hk)⟩

end Go.Proofs.YtloopkmmpfghfaaGreat
