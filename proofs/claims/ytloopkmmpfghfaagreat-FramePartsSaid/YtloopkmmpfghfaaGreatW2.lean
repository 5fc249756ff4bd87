/-
  More words: append that must grow; bytes of a constant string.
-/
import Derived.Test.YtloopkmmpfghfaaGreatW
import Derived.Lib.SlBytesConst
namespace Go.Proofs.YtloopkmmpfghfaaGreat
open Go.RowKit

set_option maxRecDepth 100000 in
/-- append onto bytes that have no room. -/
theorem appG_u8 {ops : Array Oper} {rest : List Oper} {o : Oper} {a : Act} {Q : Exit → Act → World → Prop} {w : World} (hgd : o.guard = none) (s x : Operand)
    (ho : o.op = .call { callee := .builtin .append, args := #[s, x], argTypes := #[22, 22] }) (B0 : Nat) (A0 : Option Addr) (n cap : Nat) (xs : List Nat) (hs : a.eval s = .slice A0 n cap) (hr0 : Rd w B0 1 A0 n (u8s xs)) (hA : A0 = none → cap = 0)
    (B' : Nat) (A : Option Addr) (m c : Nat) (ys : List Nat) (hx : a.eval x = .slice A m c) (hr : Rd w B' 1 A m (u8s ys)) (hm : 0 < m) (hfull : cap < n + m) (hlen : n + m ≤ 140737488355328)
    (h : ∀ v' w', OwnU8 w' w.heap.size v' (xs ++ ys) → w.grownBy w' none → wpList Tryz.prog ops Q rest (a.put o.dst v') w') : wpList Tryz.prog ops Q (o :: rest) a w := by
  obtain ⟨i0, hi, hz0, hz1, hz2⟩ := info_parts Tryz.info_u8
  obtain ⟨ad, rfl, _, hc⟩ := hr.2.2 hm
  have e1 : m = ys.length := by have := hr.1; rw [u8s_length] at this; omega
  have e0 : n = xs.length := by have := hr0.1; rw [u8s_length] at this; omega
  refine wpList_append_grows w hgd s x _ ho 5 i0 (.int .u8 0) 1 1 Tryz.underlying22 hi hz0 hz1 hz2 rfl (by decide) A0 n cap (u8s xs) hs (fun e => ⟨?_, hA e⟩) hr0.1 ?_ ad m c (u8s ys) hx hr.1 hc (u8s_one _) hfull (by simp only [maxLen]; omega) (by omega) ?_
  · rcases Nat.eq_zero_or_pos n with h0 | h0
    · exact h0
    · obtain ⟨ad', h', _⟩ := hr0.2.2 h0
      rw [e] at h'; cases h'
  · intro b hb j u hu
    rcases Nat.eq_zero_or_pos n with h0 | h0
    · have : xs = [] := List.eq_nil_of_length_eq_zero (by omega)
      subst this; simp [u8s] at hu
    · obtain ⟨ad', h', _, hc'⟩ := hr0.2.2 h0
      rw [hb] at h'
      injection h' with h'
      subst h'
      exact hc' j u hu
  · intro v' w' h1 h2
    exact h v' w' (by unfold OwnU8; rw [List.length_append, u8s_append, ← e0, ← e1]; exact h1) h2

/-- '[]byte("..")': to lay ahead of a walk. -/
theorem bytes_const (w : World) (C : Array Value) (n c : Nat) :
    (convert 22 22 (.slice (some ⟨w.heap.size, 0, none⟩) n c)).run Tryz.prog (w.alloc (.cells C 5)) = .ok (.slice (some ⟨w.heap.size, 0, none⟩) n c) (w.alloc (.cells C 5 (C.size, C.size + 1))) :=
  Lib.run_convert_bytes_const w 22 5 C n c Tryz.underlying22 Tryz.underlying5

/-- A new row of bytes, marked or not, reads as they are. -/
theorem rd_row (w : World) (xs : List Nat) (vs : Array Value) (e : TypeId) (mk : Nat × Nat) (n : Nat) (h : vs = (u8s xs).toArray) (hn : n = xs.length) (hm : n ≤ maxLen) :
    Rd (w.alloc (.cells vs e mk)) (w.heap.size + 1) 1 (some ⟨w.heap.size, 0, none⟩) n (u8s xs) := by
  subst h hn
  refine ⟨by simp [u8s], hm, fun _ => ⟨_, rfl, by simp, fun j u hu => ?_⟩⟩
  have hb : (w.alloc (.cells (u8s xs).toArray e mk)).heap[w.heap.size]? = some (.cells (u8s xs).toArray e mk) := heap_alloc_new _ _
  have ha : (⟨w.heap.size, 0, none⟩ : Addr).add j = ⟨w.heap.size, j, none⟩ := by unfold Addr.add; split <;> simp_all
  rw [ha]
  unfold World.cell?
  rw [hb]
  simpa using hu

end Go.Proofs.YtloopkmmpfghfaaGreat
