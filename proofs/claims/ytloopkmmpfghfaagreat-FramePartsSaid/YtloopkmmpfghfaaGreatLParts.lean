/-
  The walk of manglelaw8.FrameParts: a head, a window, a sum are the document's.
-/
import Derived.Test.YtloopkmmpfghfaaGreatFrameE
import Derived.Test.YtloopkmmpfghfaaGreatMono
import Derived.Test.YtloopkmmpfghfaaGreatOpen
import Derived.IntWalk
namespace Go.Proofs.YtloopkmmpfghfaaGreat
open Go.RowKit

structure PB (w v : World) : Prop where
  b : Below w.heap.size w v
/-- It hands back a row of bytes. -/
def RetRow (w : World) (xs : List Nat) (e : Ending) (w' : World) : Prop := ∃ A n c, e = .returned (.slice A n c) ∧ RdB w' w'.heap.size A n xs ∧ n ≤ c ∧ Below w.heap.size w w'
theorem retRow_own {w w' : World} {xs : List Nat} {e : Ending} (hx : ∀ x ∈ xs, x < 256) (h : RetOwn w xs e w') : RetRow w xs e w' := by
  obtain ⟨v, rfl, hown, hb⟩ := h
  obtain ⟨A, c, rfl, hc, hrd⟩ := hown.rd
  exact ⟨A, _, c, rfl, ⟨hrd, hx⟩, hc, hb⟩
theorem retRow_end {w w' : World} {xs : List Nat} {e : Ending} (hx : ∀ x ∈ xs, x < 256) (h : RetEnd w xs e w') : RetRow w xs e w' := by
  obtain ⟨A, n, c, k, all, hown, hk, rfl, rfl, hb⟩ := h
  obtain ⟨A', c', e, hc, hrd⟩ := hown.rd
  injection e with e1 e2 e3
  subst e1 e2 e3
  refine ⟨_, _, _, rfl, ⟨by simpa [u8s, List.map_drop, cutA] using hrd.cut hk hc, hx⟩, by omega, hb⟩
theorem headB_lt (id : Nat) : ∀ x ∈ Mg.headB id, x < 256 := by
  intro x hx
  simp [Mg.headB, Mg.title, Mg.le4] at hx
  omega
theorem sum4_lt (xs : List Nat) : ∀ x ∈ sum4 xs, x < 256 := by
  intro x hx
  simp [sum4, Mg.le4] at hx
  omega
theorem window_lt {xs ys : List Nat} (hx : ∀ x ∈ xs, x < 256) (hy : ∀ x ∈ ys, x < 256) : ∀ x ∈ Mg.window xs ys, x < 256 := by
  intro x h
  unfold Mg.window at h
  rcases List.mem_append.1 (List.mem_of_mem_drop h) with h | h
  · exact hx x h
  · exact hy x h
theorem window_len {w : World} {B n1 n2 : Nat} {A1 A2 : Option Addr} {xs ys : List Nat} (hx : RdB w B A1 n1 xs) (hy : RdB w B A2 n2 ys) : (Mg.window xs ys).length = min (n1 + n2) 2000 := by
  have h1 := hx.len
  have h2 := hy.len
  simp only [Mg.window, List.length_drop, List.length_append]
  omega
theorem headR_any (id : Nat) (w : World) (hn : id < 9223372036854775808) : Calls Tryz.prog 14 #[.int .i64 id] w (RetRow w (Mg.headB id)) := (head_any id w hn).mono fun _ _ h => retRow_own (headB_lt id) h
theorem head8R_any (id : Nat) (w : World) : Calls Tryz.prog 15 #[.int .i64 id] w (RetRow w (Mg.headB id)) := (head8_any id w).mono fun _ _ h => retRow_own (headB_lt id) h

def RowV (xs : List Nat) (v : Value) (w : World) : Prop := ∃ A n c, v = .slice A n c ∧ RdB w w.heap.size A n xs ∧ n ≤ c
theorem RowV.mono {xs : List Nat} {v : Value} {w w' : World} (h : RowV xs v w) (hb : Below w.heap.size w w') : RowV xs v w' := by
  obtain ⟨A, n, c, rfl, hr, hc⟩ := h
  exact ⟨A, n, c, rfl, (hr.below hb (Nat.le_refl _)).more hb.size, hc⟩
theorem RowV.conv {xs : List Nat} {v : Value} {w : World} (h : RowV xs v w) : (convert 22 9 v).run Tryz.prog w = .ok (.string (strN xs)) w := by
  obtain ⟨A, n, c, rfl, hr, hc⟩ := h
  exact conv_str hr c

/-- Slots as rows of bytes, or as values. -/
def slotS (row : Nat → Option (List Nat)) (val : Nat → Value) (d : Nat) (v : Value) (w : World) : Prop :=
  match row d with
  | some xs => RowV xs v w
  | none => v = val d
theorem slotS_mono (row : Nat → Option (List Nat)) (val : Nat → Value) (d : Nat) (v : Value) (w w' : World) (h : slotS row val d v w) (hb : Below w.heap.size w w') : slotS row val d v w' := by
  unfold slotS at *
  cases hr : row d with
  | none => rw [hr] at h; exact h
  | some xs => rw [hr] at h; exact h.mono hb

def rowParts (k : Nat) (xs ws : List Nat) : Nat → Option (List Nat)
  | 28 | 31 => some (Mg.headB k)
  | 39 => some ws
  | 56 | 59 => some (sum4 xs)
  | _ => none
def valParts (k : Nat) (v1 v2 v3 : Value) (n1 n2 n3 : Nat) (xs ws : List Nat) : Nat → Value
  | 0 | 27 | 30 => .int .i64 k
  | 1 | 37 | 46 | 55 | 58 => v1
  | 2 | 38 | 48 => v2
  | 7 | 35 | 44 => v3
  | 29 | 32 => .string (strN (Mg.headB k))
  | 36 | 40 => .string (strN ws)
  | 45 | 51 => .int .i64 n3
  | 47 => .int .i64 n1
  | 49 => .int .i64 n2
  | 50 => .int .i64 ((n1 : Int) + (n2 : Int))
  | 57 | 60 => .string (strN (sum4 xs))
  | _ => .bool true

theorem yielded_bool {ops : Array Oper} {a : Act} {g d : Nat} {b : Bool} (h : ((ops[g]?).bind (·.dst)) = some d) (hv : a.tmps.getD d undef = .bool b) : yielded ops a.tmps g = some b := by
  unfold yielded
  rw [h]
  simp only [Option.bind_some]
  cases hx : a.tmps[d]? with
  | none => rw [Array.getD_eq_getD_getElem?, hx] at hv; simp [undef] at hv
  | some u => rw [Array.getD_eq_getD_getElem?, hx] at hv; simp at hv; subst hv; rfl
theorem wanted_g {ops : Array Oper} {o : Oper} {a : Act} {g d : Nat} {b : Bool} (hg : o.guard = some (g, b)) (h : ((ops[g]?).bind (·.dst)) = some d) (hv : a.tmps.getD d undef = .bool b) : Region.wanted o (yielded ops a.tmps) = true := by
  unfold Region.wanted
  rw [hg]
  simp [yielded_bool h hv]

set_option maxRecDepth 100000 in
set_option maxHeartbeats 4000000 in
theorem frameParts_in {B : Nat} (A1 A2 : Option Addr) (n1 n2 c1 c2 : Nat) (xs ys : List Nat) (k : Nat) (w : World) (hx : RdB w B A1 n1 xs) (hy : RdB w B A2 n2 ys) (h1 : n1 ≤ c1) (h2 : n2 ≤ c2) (hB : B ≤ w.heap.size) (hk : k < 2147483648) (hl1 : n1 ≤ 3000) (hl2 : n2 ≤ 3000) :
    Calls Tryz.prog 3 #[.int .i64 k, .slice A1 n1 c1, .slice A2 n2 c2] w fun e w' => e = .returned (.bool true) ∧ Below w.heap.size w w' := by
  have d0 : decide ((k : Int) < 0) = false := by simp
  have d1 : decide (2147483648 ≤ (k : Int)) = false := by simp; omega
  have d2 : decide (3000 < (n1 : Int)) = false := by simp; omega
  have d3 : decide (3000 < (n2 : Int)) = false := by simp; omega
  have hlen : n1 + n2 ≤ 1000000000 := by omega
  have hk63 : k < 9223372036854775808 := by omega
  have hwl := window_lt hx.lt hy.lt
  have hwn := window_len hx hy
  go_enter Tryz.func3, Tryz.ntmps3
  go_wp2_with fail
  refine (window_any A1 A2 n1 n2 c1 c2 xs ys w hx hy h1 h2 hB hlen).mono ?_
  intro e w1 hret
  obtain ⟨A3, n3, c3, rfl, hr3, hc3, hb1⟩ := retRow_end hwl hret
  clear hret
  have hz1 := hb1.size
  have hn3 : n3 = min (n1 + n2) 2000 := by rw [← hr3.len, hwn]
  obtain ⟨ws, hws⟩ : ∃ ws, ws = Mg.window xs ys := ⟨_, rfl⟩
  rw [← hws] at hr3 hwl hwn
  have hW8 : ∀ (v : World) (e : Ending) (v' : World), RetEnd v (Mg.window xs ys) e v' → RetRow v ws e v' := fun v e v' h => by
    rw [← hws] at h
    exact retRow_end hwl h
  clear hws
  have HN3 := Lib.hid hn3
  clear hn3
  have hxd : ∀ v : World, Below w1.drew.heap.size w1.drew v → RdB v B A1 n1 xs := fun v hv => (hx.below hb1 hB).drew.below hv (Nat.le_trans hB hz1)
  have hyd : ∀ v : World, Below w1.drew.heap.size w1.drew v → RdB v B A2 n2 ys := fun v hv => (hy.below hb1 hB).drew.below hv (Nat.le_trans hB hz1)
  have hBd : ∀ v : World, Below w1.drew.heap.size w1.drew v → B ≤ v.heap.size := fun v hv => Nat.le_trans (Nat.le_trans hB hz1) hv.size
  have hn1 : n1 ≤ 1000000000 := by omega
  go_wp2_with fail
  refine wp_region_mono [0, 1, 2, 7] (slotS (rowParts k xs ws) (valParts k (.slice A1 n1 c1) (.slice A2 n2 c2) (.slice A3 n3 c3) n1 n2 n3 xs ws)) (by kernel_rfl) (by kernel_rfl) (slotS_mono _ _) ?_ ?_ ?_
  · simp [slotS, rowParts, valParts]
  · simp only [List.forall_mem_cons]
    refine ⟨?_, ?_, ?_, ?_, ?_, ?_, ?_, ?_, ?_, ?_, ?_, ?_, ?_, ?_, ?_, ?_, ?_, ?_, ?_, ?_, ?_, ?_, ?_, ?_, ?_, ?_, ?_, ?_, ?_, ?_, ?_, ?_, ?_, ?_, ?_, ?_, ?_, ?_, ?_, ?_, fun _ h => absurd h List.not_mem_nil⟩
    all_goals (try (intro a w2 hb hl d hd K hK))
    all_goals (try (simp [Oper.looksAt, Op.operands, Call.operands, slotS, rowParts, valParts] at hl))
    all_goals (try (simp only [Option.some.injEq] at hd; subst hd))
    all_goals (first | rw [if_pos (show Region.wanted _ _ = true from rfl)] | rw [if_pos (wanted_g rfl rfl (by simp [hl]))])
    all_goals (try (unfold Oper.wp; go_simp; refine hK _ _ ?_ (Below.refl _ _); simp [slotS, rowParts, valParts]; done))
    · unfold Oper.wp
      go_simp
      refine (headR_any k _ hk63).mono ?_
      rintro e w3 ⟨A4, n4, c4, rfl, hr4, hc4, hb4⟩
      exact hK _ _ ⟨A4, n4, c4, rfl, hr4, hc4⟩ hb4
    · have hcv := RowV.conv hl
      unfold Oper.wp
      go_simp
      refine hK _ _ ?_ (Below.refl _ _)
      simp [slotS, rowParts, valParts]
    · unfold Oper.wp
      go_simp
      refine (head8R_any k _).mono ?_
      rintro e w3 ⟨A4, n4, c4, rfl, hr4, hc4, hb4⟩
      exact hK _ _ ⟨A4, n4, c4, rfl, hr4, hc4⟩ hb4
    · have hcv := RowV.conv hl
      unfold Oper.wp
      go_simp
      refine hK _ _ ?_ (Below.refl _ _)
      simp [slotS, rowParts, valParts]
    · have hcv := conv_str (hr3.drew.below hb (Nat.le_refl _)) c3
      unfold Oper.wp
      go_simp
      refine hK _ _ ?_ (Below.refl _ _)
      simp [slotS, rowParts, valParts]
    · unfold Oper.wp
      go_simp
      refine ((window8_any A1 A2 n1 n2 c1 c2 xs ys w2 (hxd w2 hb) (hyd w2 hb) (hBd w2 hb) hlen).mono fun _ _ h => hW8 _ _ _ h).mono ?_
      rintro e w3 ⟨A4, n4, c4, rfl, hr4, hc4, hb4⟩
      exact hK _ _ ⟨A4, n4, c4, rfl, hr4, hc4⟩ hb4
    · have hcv := RowV.conv hl.1
      unfold Oper.wp
      go_simp
      refine hK _ _ ?_ (Below.refl _ _)
      simp [slotS, rowParts, valParts]
    · unfold Oper.wp
      go_simp
      refine hK _ _ ?_ (Below.refl _ _)
      simp [slotS, rowParts, valParts]
      exact IntWalk.i64_in _ ⟨by omega, by omega⟩
    · unfold Oper.wp
      go_simp
      refine hK _ _ ?_ (Below.refl _ _)
      simp [slotS, rowParts, valParts]
      have := HN3.out
      omega
    · unfold Oper.wp
      go_simp
      refine ((fsum_any A1 n1 c1 xs w2 (hxd w2 hb) h1 (hBd w2 hb) hn1).mono fun _ _ h => retRow_own (sum4_lt xs) h).mono ?_
      rintro e w3 ⟨A4, n4, c4, rfl, hr4, hc4, hb4⟩
      exact hK _ _ ⟨A4, n4, c4, rfl, hr4, hc4⟩ hb4
    · have hcv := RowV.conv hl.1
      unfold Oper.wp
      go_simp
      refine hK _ _ ?_ (Below.refl _ _)
      simp [slotS, rowParts, valParts]
    · unfold Oper.wp
      go_simp
      refine ((fsum8_any A1 n1 c1 xs w2 (hxd w2 hb) h1 (hBd w2 hb)).mono fun _ _ h => retRow_own (sum4_lt xs) h).mono ?_
      rintro e w3 ⟨A4, n4, c4, rfl, hr4, hc4, hb4⟩
      exact hK _ _ ⟨A4, n4, c4, rfl, hr4, hc4⟩ hb4
    · have hcv := RowV.conv hl.1
      unfold Oper.wp
      go_simp
      refine hK _ _ ?_ (Below.refl _ _)
      simp [slotS, rowParts, valParts]
    · unfold Oper.wp
      go_simp
      refine (known8_any _).mono ?_
      rintro e w3 ⟨rfl, hb4⟩
      exact hK _ _ (by simp [slotS, rowParts, valParts]) hb4
  · intro a w2 hsz hdf hb hS
    have h6 := hS _ (List.mem_of_getElem? (i := 39) rfl) 6 rfl
    simp only [slotS, rowParts, valParts] at h6
    have hbb : Below w.heap.size w w2 := hb1.trans ((show Below w1.heap.size w1 w2 from (below_drew (Below.refl _ _)).trans hb).mono hz1)
    clear hS
    go_wp2
    refine bodyPost_ret (results_tmp rfl _ _ _) hdf ⟨by rw [h6], hbb⟩

set_option maxRecDepth 100000 in
set_option maxHeartbeats 1600000 in
theorem frameParts_any {B : Nat} (A1 A2 : Option Addr) (n1 n2 c1 c2 : Nat) (xs ys : List Nat) (id : Int) (w : World) (hx : RdB w B A1 n1 xs) (hy : RdB w B A2 n2 ys) (h1 : n1 ≤ c1) (h2 : n2 ≤ c2) (hB : B ≤ w.heap.size) :
    Calls Tryz.prog 3 #[.int .i64 id, .slice A1 n1 c1, .slice A2 n2 c2] w fun e w' => e = .returned (.bool true) ∧ Below w.heap.size w w' := by
  by_cases hi0 : id < 0
  · have d0 : decide (id < 0) = true := by simp [hi0]
    go_enter Tryz.func3, Tryz.ntmps3
    go_wp2
    go_ret
    exact ⟨rfl, Below.refl _ _⟩
  have d0 : decide (id < 0) = false := by simp; omega
  by_cases hi1 : 2147483648 ≤ id
  · have d1 : decide (2147483648 ≤ id) = true := by simp [hi1]
    go_enter Tryz.func3, Tryz.ntmps3
    go_wp2
    go_ret
    exact ⟨rfl, Below.refl _ _⟩
  have d1 : decide (2147483648 ≤ id) = false := by simp; omega
  by_cases hi2 : 3000 < (n1 : Int)
  · have d2 : decide (3000 < (n1 : Int)) = true := by simp [hi2]
    go_enter Tryz.func3, Tryz.ntmps3
    go_wp2
    go_ret
    exact ⟨rfl, Below.refl _ _⟩
  have d2 : decide (3000 < (n1 : Int)) = false := by simp; omega
  by_cases hi3 : 3000 < (n2 : Int)
  · have d3 : decide (3000 < (n2 : Int)) = true := by simp [hi3]
    go_enter Tryz.func3, Tryz.ntmps3
    go_wp2
    go_ret
    exact ⟨rfl, Below.refl _ _⟩
  obtain ⟨k, rfl⟩ : ∃ k : Nat, id = (k : Int) := ⟨id.toNat, by omega⟩
  exact frameParts_in A1 A2 n1 n2 c1 c2 xs ys k w hx hy h1 h2 hB (by omega) (by omega) (by omega)

end Go.Proofs.YtloopkmmpfghfaaGreat
