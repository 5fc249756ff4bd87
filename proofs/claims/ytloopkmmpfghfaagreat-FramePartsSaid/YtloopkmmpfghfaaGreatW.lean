/-
  Words for memory: lists of bytes and numbers as cells; a slice that reads as a list.
-/
import Derived.Test.YtloopkmmpfghfaaGreatProg
import Derived.WalkKit
import Derived.WalkSpells
import Derived.WalkLawsBesides
import Derived.Maps.AppendAt
import Derived.Deep.AppendLies
import Derived.Deep.Draws
import Derived.Laws.OwnMore
import Derived.Lib.Hide
import Derived.Deep.QuietTactic
import Derived.BigQuiet
import Derived.StillTailTactics
namespace Go.Proofs.YtloopkmmpfghfaaGreat
open Go.RowKit

/-- Bytes, numbers, bits as cells. -/
def u8s (xs : List Nat) : List Value := xs.map fun (x : Nat) => .int .u8 (x : Int)
def i64s (xs : List Nat) : List Value := xs.map fun (x : Nat) => .int .i64 (x : Int)
def bools (xs : List Bool) : List Value := xs.map fun x => .bool x

theorem u8s_length (xs : List Nat) : (u8s xs).length = xs.length := by simp [u8s]
theorem i64s_length (xs : List Nat) : (i64s xs).length = xs.length := by simp [i64s]
theorem u8s_append (xs ys : List Nat) : u8s (xs ++ ys) = u8s xs ++ u8s ys := by simp [u8s]
theorem i64s_append (xs ys : List Nat) : i64s (xs ++ ys) = i64s xs ++ i64s ys := by simp [i64s]

theorem Tryz.info_u8 : (Tryz.prog.info? 5).map (fun i => (i.zero, i.size, i.bytes)) = some (some (.int .u8 0), 1, 1) := by kernel_rfl
theorem Tryz.info_i64 : (Tryz.prog.info? 3).map (fun i => (i.zero, i.size, i.bytes)) = some (some (.int .i64 0), 1, 8) := by kernel_rfl

/-! ### A slice that reads as cells, nil let in -/
theorem block_add (a : Addr) (n : Nat) : (a.add n).block = a.block := by unfold Addr.add; split <;> rfl
theorem add_add' (a : Addr) (i j : Nat) : (a.add i).add j = a.add (i + j) := by
  unfold Addr.add
  by_cases hi : i = 0 <;> by_cases hj : j = 0 <;> simp [hi, hj, Nat.add_assoc]

/-- The slice at A of n elements, each of 'size' cells, holds the cells xs, below block B. -/
def Rd (w : World) (B size : Nat) (A : Option Addr) (n : Nat) (xs : List Value) : Prop :=
  xs.length = n * size ∧ n ≤ maxLen ∧ (0 < n → ∃ ad, A = some ad ∧ ad.block < B ∧ ∀ j u, xs[j]? = some u → w.cell? (ad.add j) = some u)

section
variable {w w' : World} {B B' size n : Nat} {A : Option Addr} {xs : List Value}
theorem Rd.at1 {k : Nat} (h : Rd w B 1 A n xs) (hk : k < n) : ∃ ad u, A = some ad ∧ ad.block < B ∧ xs[k]? = some u ∧ w.cell? (ad.add k) = some u := by
  obtain ⟨ad, e, hb, hc⟩ := h.2.2 (by omega)
  have hl : k < xs.length := by have := h.1; omega
  exact ⟨ad, xs[k], e, hb, List.getElem?_eq_getElem hl, hc k _ (List.getElem?_eq_getElem hl)⟩
theorem Rd.keep (h : Rd w B size A n xs) (hk : ∀ p : Addr, p.block < B → w'.cell? p = w.cell? p) : Rd w' B size A n xs :=
  ⟨h.1, h.2.1, fun hn => by
    obtain ⟨ad, e, hb, hc⟩ := h.2.2 hn
    exact ⟨ad, e, hb, fun j u hu => (hk _ (by rw [block_add]; exact hb)).trans (hc j u hu)⟩⟩
theorem Rd.more (h : Rd w B size A n xs) (hB : B ≤ B') : Rd w B' size A n xs :=
  ⟨h.1, h.2.1, fun hn => by
    obtain ⟨ad, e, hb, hc⟩ := h.2.2 hn
    exact ⟨ad, e, by omega, hc⟩⟩
theorem Rd.below {C : Nat} (h : Rd w B size A n xs) (hb : Below C w w') (hC : B ≤ C) : Rd w' B size A n xs := h.keep fun _ hp => hb.cell (by omega)
theorem Rd.drewN (h : Rd w B size A n xs) (k : Nat) : Rd (w.drewN k) B size A n xs := h
theorem Rd.alloc (h : Rd w B size A n xs) (hB : B ≤ w.heap.size) (o : Obj) : Rd (w.alloc o) B size A n xs := h.keep fun p hp => World.cell?_alloc_lt w o p (by omega)
theorem Rd.setCell (h : Rd w B size A n xs) {p : Addr} (hB : B ≤ p.block) (u : Value) : Rd (w.setCell p u) B size A n xs :=
  h.keep fun q hq => World.cell?_setCell_other w p q u (fun e => by subst e; omega)
theorem Rd.cut (h : Rd w B size A n xs) {k cap : Nat} (hk : k ≤ n) (hc : n ≤ cap) :
    Rd w B size (if cap = k then A else A.map (·.add (k * size))) (n - k) (xs.drop (k * size)) := by
  refine ⟨by rw [List.length_drop, h.1, Nat.sub_mul], by have := h.2.1; omega, fun hn => ?_⟩
  obtain ⟨ad, rfl, hb, hcell⟩ := h.2.2 (by omega)
  rw [if_neg (by omega)]
  refine ⟨ad.add (k * size), rfl, by rw [block_add]; exact hb, fun j u hu => ?_⟩
  rw [add_add']
  exact hcell _ u (by rw [← hu, List.getElem?_drop])
theorem Rd.upto (h : Rd w B size A n xs) {k : Nat} (hk : k ≤ n) : Rd w B size A k (xs.take (k * size)) := by
  have hl : k * size ≤ n * size := Nat.mul_le_mul_right _ hk
  refine ⟨by rw [List.length_take, h.1]; omega, by have := h.2.1; omega, fun hn => ?_⟩
  obtain ⟨ad, rfl, hb, hcell⟩ := h.2.2 (by omega)
  refine ⟨ad, rfl, hb, fun j u hu => hcell j u ?_⟩
  rw [List.getElem?_take] at hu
  split at hu
  · exact hu
  · cases hu
theorem Rd.of_own {base : Nat} {e : TypeId} {c : Nat} (h : w.ownsRow base e size (.slice A n c) n xs) : Rd w w.heap.size size A n xs := by
  have hm : n ≤ maxLen := by
    rcases h.2 with ⟨_, h0⟩ | ⟨g, cap, cur, _, _, _, h1, h2, _⟩
    · rw [h0]; exact Nat.zero_le _
    · omega
  refine ⟨h.1, hm, fun hn => ?_⟩
  obtain ⟨g, cap, hv, _, hlt⟩ := h.form hn
  have hA : A = some ⟨g, 0, none⟩ := by injection hv
  subst hA
  exact ⟨_, rfl, hlt, h.cells (g := g) rfl⟩
/-- What is owned is a slice, and reads as what it owns. -/
theorem own_rd {base : Nat} {e : TypeId} {v : Value} (h : w.ownsRow base e size v n xs) : ∃ A c, v = .slice A n c ∧ n ≤ c ∧ Rd w w.heap.size size A n xs := by
  rcases h.2 with ⟨rfl, rfl⟩ | ⟨g, cap, cur, rfl, _, _, h1, _⟩
  · exact ⟨none, 0, rfl, Nat.le_refl _, Rd.of_own h⟩
  · exact ⟨_, cap, rfl, h1, Rd.of_own h⟩
theorem rd_nil (w : World) (B size : Nat) (A : Option Addr) : Rd w B size A 0 [] := ⟨by simp, Nat.zero_le _, fun h => absurd h (by omega)⟩
/-- One new cell. -/
theorem rd_one (w : World) (u : Value) (e : TypeId) : Rd (w.alloc (.cells #[u] e)) (w.heap.size + 1) 1 (some ⟨w.heap.size, 0, none⟩) 1 [u] :=
  ⟨by simp, by simp [maxLen], fun _ => ⟨_, rfl, by simp, cell_one_new _ _ _⟩⟩
end

section
variable {P : Program} (w : World)

theorem run_append_none (base : Nat) (t ty e : TypeId) (i : TypeInfo) (size : Nat) (ht : P.underlying t = some (.slice e)) (hi : P.info? e = some i)
    (v : Value) (n : Nat) (xs : List Value) (hown : w.ownsRow base e size v n xs) (c : Nat) : (Builtin.append_ #[t, t] ty #[v, .slice none 0 c]).run P w = .ok v w := by
  rcases hown.2 with ⟨rfl, rfl⟩ | ⟨g, cap, cur, rfl, _, _, hnc, _⟩
  · simp [Builtin.append_, run_underlying ht, sizeOf, typeInfo, hi, Builtin.lenOf, Builtin.firstCells]
  · simp [Builtin.append_, run_underlying ht, sizeOf, typeInfo, hi, Builtin.lenOf, Builtin.firstCells, hnc, storeCells]

theorem run_append_rd (base : Nat) (t ty e : TypeId) (i : TypeInfo) (z : Value) (size bytes : Nat) (ht : P.underlying t = some (.slice e)) (hi : P.info? e = some i) (hz : i.zero = some z)
    (hsize : i.size = size) (hby : i.bytes = bytes) (hzs : z.cells.size = size) (hsz : 0 < size)
    (v : Value) (n : Nat) (xs : List Value) (hown : w.ownsRow base e size v n xs)
    (B : Nat) (A : Option Addr) (m c : Nat) (news : List Value) (hr : Rd w B size A m news) (h1 : ∀ u ∈ news, u.oneCell' = true)
    (h63 : n + m ≤ maxLen) (hbytes : (n + m) * bytes ≤ 140737488355328) (hbase : base ≤ w.heap.size) :
    ∃ v' w', (Builtin.append_ #[t, t] ty #[v, .slice A m c]).run P w = .ok v' w' ∧ w'.ownsRow base e size v' (n + m) (xs ++ news) ∧ w.grownBy w' v.ownBlock ∧
      (v'.ownBlock = v.ownBlock ∨ v'.ownBlock = some w.heap.size) := by
  rcases A with _ | ad
  · have hm : m = 0 := by
      rcases Nat.eq_zero_or_pos m with h0 | h0
      · exact h0
      · obtain ⟨ad, h, _⟩ := hr.2.2 h0
        cases h
    subst hm
    have hn : news = [] := List.eq_nil_of_length_eq_zero (by simpa using hr.1)
    subst hn
    exact ⟨v, w, run_append_none w base t ty e i size ht hi v n xs hown c, by simpa using hown, World.grownBy.refl w _, .inl rfl⟩
  · have hcells : ∀ j u, news[j]? = some u → w.cell? (ad.add j) = some u := by
      intro j u hu
      rcases Nat.eq_zero_or_pos m with h0 | h0
      · subst h0
        have hn : news = [] := List.eq_nil_of_length_eq_zero (by simpa using hr.1)
        subst hn
        simp at hu
      · obtain ⟨ad', h, _, hc⟩ := hr.2.2 h0
        injection h with h
        subst h
        exact hc j u hu
    obtain ⟨v', w', hrun, h2, h3, _, h5⟩ := run_append_own_at (P := P) w base t ty e i z size bytes ht hi hz hsize hby hzs hsz v n xs hown ad m c news hr.1 hcells h1 h63 hbytes hbase
    exact ⟨v', w', hrun, h2, h3, h5⟩

theorem wpList_append_rd {ops : Array Oper} {rest : List Oper} {o : Oper} {a : Act} {Q : Exit → Act → World → Prop} (hgd : o.guard = none) (s x : Operand) (t : TypeId)
    (ho : o.op = .call { callee := .builtin .append, args := #[s, x], argTypes := #[t, t] })
    (base : Nat) (e : TypeId) (i : TypeInfo) (z : Value) (size bytes : Nat) (ht : P.underlying t = some (.slice e)) (hi : P.info? e = some i) (hz : i.zero = some z)
    (hsize : i.size = size) (hby : i.bytes = bytes) (hzs : z.cells.size = size) (hsz : 0 < size)
    (v : Value) (n : Nat) (xs : List Value) (hs : a.eval s = v) (hown : w.ownsRow base e size v n xs)
    (B : Nat) (A : Option Addr) (m c : Nat) (news : List Value) (hx : a.eval x = .slice A m c) (hr : Rd w B size A m news) (h1 : ∀ u ∈ news, u.oneCell' = true)
    (h63 : n + m ≤ maxLen) (hbytes : (n + m) * bytes ≤ 140737488355328) (hbase : base ≤ w.heap.size)
    (h : ∀ v' w', w'.ownsRow base e size v' (n + m) (xs ++ news) → w.grownBy w' v.ownBlock → (v'.ownBlock = v.ownBlock ∨ v'.ownBlock = some w.heap.size) → wpList P ops Q rest (a.put o.dst v') w') : wpList P ops Q (o :: rest) a w :=
  wpList_plain hgd fun K hK => by
    obtain ⟨v', w', hrun, h2, h3, h4⟩ := run_append_rd (P := P) w base t o.type e i z size bytes ht hi hz hsize hby hzs hsz v n xs hown B A m c news hr h1 h63 hbytes hbase
    unfold Oper.wp execOp
    simp only [ho, resolve, invoke, builtin, Sem.run_bind, Sem.run_pure, Result.andThen_ok, List.map_toArray, List.map_cons, List.map_nil, hs, hx, hrun]
    exact hK _ _ (h v' w' h2 h3 h4)
end

/-! ### A region that draws its order: the first n operations only read -/
theorem wp_region_tail {P : Program} {id : Nat} {Q : Exit → Act → World → Prop} {a : Act} {w : World} {l : List Oper} (n : Nat) (hm : P.follows .mixedOrders = true) (hB : Region.lexTailB .any l.toArray n = true)
    (h : wpStill P l.toArray w.drew (fun a' => wpList P l.toArray Q (l.drop n) a' w.drew) (l.take n) a) : (Code.region id l.toArray true).wp P Q a w := wp_region_still_tail n hm hB h

theorem wp_region_reads {P : Program} {id : Nat} {Q : Exit → Act → World → Prop} {a : Act} {w : World} {l : List Oper} (hm : P.follows .mixedOrders = true) (hB : Region.lexB .any l.toArray = true)
    (h : wpStill P l.toArray w.drew (fun a' => Q .normal a' w.drew) l a) : (Code.region id l.toArray true).wp P Q a w := wp_region_still_lit hm hB h
theorem below_drew {B : Nat} {w W : World} (h : Below B w W) : Below B w W.drew := ⟨h.os, h.tape, h.output, h.size, h.block⟩

/-! ### A block that is known whole -/
def Blk (w : World) (g : Nat) (t : TypeId) (cs : Array Value) : Prop := w.heap[g]? = some (.cells cs t (0, 0))
section
variable {w w' : World} {g : Nat} {t : TypeId} {cs : Array Value}
theorem Blk.lt (h : Blk w g t cs) : g < w.heap.size := by
  rcases Nat.lt_or_ge g w.heap.size with hlt | hge
  · exact hlt
  · unfold Blk at h; rw [Array.getElem?_eq_none hge] at h; cases h
theorem Blk.cell (h : Blk w g t cs) (i : Nat) : w.cell? ⟨g, i, none⟩ = cs[i]? := by unfold Blk at h; simp [World.cell?, h]
theorem Blk.frozen (h : Blk w g t cs) (i : Nat) : w.frozen? ⟨g, i, none⟩ = false := by
  unfold Blk at h
  simp [World.frozen?, h]
theorem Blk.new (w : World) (t : TypeId) (cs : Array Value) : Blk (w.alloc (.cells cs t)) w.heap.size t cs := heap_alloc_new w _
theorem Blk.drew (h : Blk w g t cs) : Blk w.drew g t cs := h
theorem Blk.drewN (h : Blk w g t cs) (n : Nat) : Blk (w.drewN n) g t cs := h
theorem Blk.alloc (h : Blk w g t cs) (o : Obj) : Blk (w.alloc o) g t cs := (Below.heap_alloc w o g h.lt).trans h
theorem Blk.set_ (h : Blk w g t cs) (i : Nat) (u : Value) : Blk (w.setCell ⟨g, i, none⟩ u) g t (cs.setIfInBounds i u) := by
  unfold Blk at h ⊢
  simp [World.setCell, Array.getElem?_modify, h]
theorem Blk.far (h : Blk w g t cs) {p : Addr} (hp : g ≠ p.block) (u : Value) : Blk (w.setCell p u) g t cs := (Below.heap_setCell w p u g hp).trans h
theorem Blk.below {B : Nat} (h : Blk w g t cs) (hb : Below B w w') (hg : g < B) : Blk w' g t cs := (hb.block g hg).trans h
theorem Blk.grown {row : Option Nat} (h : Blk w g t cs) (hb : w.grownBy w' row) (hg : some g ≠ row) : Blk w' g t cs := (hb.block g h.lt hg).trans h
end

/-! ### A slice of bytes that is read -/
structure RdB (w : World) (B : Nat) (A : Option Addr) (n : Nat) (xs : List Nat) : Prop where
  rd : Rd w B 1 A n (u8s xs)
  lt : ∀ x ∈ xs, x < 256

section
variable {w w' : World} {B B' n : Nat} {A : Option Addr} {xs : List Nat}
theorem RdB.len (h : RdB w B A n xs) : xs.length = n := by have := h.rd.1; rw [u8s_length] at this; omega
theorem RdB.at_ {k : Nat} (h : RdB w B A n xs) (hk : k < n) : ∃ ad x, A = some ad ∧ ad.block < B ∧ Hid (xs[k]? = some x) ∧ w.cell? (ad.add k) = some (.int .u8 (x : Nat)) ∧ x < 256 := by
  obtain ⟨ad, u, e, hb, hu, hc⟩ := h.rd.at1 hk
  have hl := h.len
  have hg : xs[k]? = some (xs[k]'(by omega)) := List.getElem?_eq_getElem (by omega)
  have : u = .int .u8 ((xs[k]'(by omega) : Nat) : Int) := by
    rw [u8s, List.getElem?_map, hg] at hu
    simpa using hu.symm
  subst this
  exact ⟨ad, _, e, hb, Lib.hid hg, hc, h.lt _ (List.getElem_mem _)⟩
theorem RdB.keep (h : RdB w B A n xs) (hk : ∀ p : Addr, p.block < B → w'.cell? p = w.cell? p) : RdB w' B A n xs := ⟨h.rd.keep hk, h.lt⟩
theorem RdB.more (h : RdB w B A n xs) (hB : B ≤ B') : RdB w B' A n xs := ⟨h.rd.more hB, h.lt⟩
theorem RdB.below {C : Nat} (h : RdB w B A n xs) (hb : Below C w w') (hC : B ≤ C) : RdB w' B A n xs := ⟨h.rd.below hb hC, h.lt⟩
theorem RdB.drewN (h : RdB w B A n xs) (k : Nat) : RdB (w.drewN k) B A n xs := ⟨h.rd, h.lt⟩
theorem RdB.drew (h : RdB w B A n xs) : RdB w.drew B A n xs := ⟨h.rd, h.lt⟩
theorem RdB.alloc (h : RdB w B A n xs) (hB : B ≤ w.heap.size) (o : Obj) : RdB (w.alloc o) B A n xs := ⟨h.rd.alloc hB o, h.lt⟩
theorem RdB.setCell (h : RdB w B A n xs) {p : Addr} (hB : B ≤ p.block) (u : Value) : RdB (w.setCell p u) B A n xs := ⟨h.rd.setCell hB u, h.lt⟩
theorem RdB.cut (h : RdB w B A n xs) {k cap : Nat} (hk : k ≤ n) (hc : n ≤ cap) : RdB w B (if cap = k then A else A.map (·.add k)) (n - k) (xs.drop k) := by
  have := h.rd.cut hk hc
  rw [Nat.mul_one] at this
  exact ⟨by rw [u8s, List.map_drop]; exact this, fun x hx => h.lt x (List.mem_of_mem_drop hx)⟩
theorem RdB.cutM (h : RdB w B A n xs) {k : Nat} (hk : k ≤ n) : RdB w B (A.map (·.add k)) (n - k) (xs.drop k) := by
  have := h.cut (cap := n + k + 1) hk (by omega)
  rwa [if_neg (by omega)] at this
theorem RdB.upto (h : RdB w B A n xs) {k : Nat} (hk : k ≤ n) : RdB w B A k (xs.take k) := by
  have := h.rd.upto hk
  rw [Nat.mul_one] at this
  exact ⟨by rw [u8s, List.map_take]; exact this, fun x hx => h.lt x (List.mem_of_mem_take hx)⟩
theorem rdB_nil (w : World) (B : Nat) (A : Option Addr) : RdB w B A 0 [] := ⟨rd_nil _ _ _ _, by simp⟩
end

/-- Where s[k:] lies. -/
def cutA (A : Option Addr) (c k : Nat) : Option Addr := if c = k then A else A.map (·.add k)
theorem RdB.cutA {w : World} {B n c k : Nat} {A : Option Addr} {xs : List Nat} (h : RdB w B A n xs) (hk : k ≤ n) (hc : n ≤ c) : RdB w B (cutA A c k) (n - k) (xs.drop k) := h.cut hk hc
/-- 's[k:]' of bytes: an equation to lay ahead of a walk, so that no case on the capacity is left. -/
theorem cut_u8 (A : Option Addr) (n c : Nat) (kl : IntKind) (l : Int) (w : World) (h0 : 0 ≤ l) (h1 : l ≤ n) :
    (Instr.slice 22 (.slice A n c) (some (.int kl l)) none none).run Tryz.prog w = .ok (.slice (cutA A c l.toNat) (n - l.toNat) (c - l.toNat)) w := by
  obtain ⟨i0, hi, hz0, hz1, hz2⟩ := info_parts Tryz.info_u8
  simp [Instr.slice, run_underlying Tryz.underlying22, Instr.sliceBounds, run_sliceBound, sizeOf, typeInfo, hi, hz1, h0, h1, cutA]

/-- 's[k:m]' of bytes. -/
theorem mid_u8 (A : Option Addr) (n c : Nat) (kl kh : IntKind) (l h : Int) (w : World) (h0 : 0 ≤ l) (h1 : l ≤ h) (h2 : h ≤ c) :
    (Instr.slice 22 (.slice A n c) (some (.int kl l)) (some (.int kh h)) none).run Tryz.prog w = .ok (.slice (cutA A c l.toNat) (h.toNat - l.toNat) (c - l.toNat)) w := by
  obtain ⟨i0, hi, hz0, hz1, hz2⟩ := info_parts Tryz.info_u8
  have eh : (h.toNat : Int) = h := Int.toNat_of_nonneg (by omega)
  simp [Instr.slice, run_underlying Tryz.underlying22, Instr.sliceBounds, run_sliceBound, sizeOf, typeInfo, hi, hz1, h0, h1, h2, eh, (by omega : 0 ≤ h), cutA]
/-- 's[:m]' of bytes. -/
theorem upto_u8 (A : Option Addr) (n c : Nat) (kh : IntKind) (h : Int) (w : World) (h0 : 0 ≤ h) (h2 : h ≤ c) :
    (Instr.slice 22 (.slice A n c) none (some (.int kh h)) none).run Tryz.prog w = .ok (.slice (cutA A c 0) h.toNat c) w := by
  obtain ⟨i0, hi, hz0, hz1, hz2⟩ := info_parts Tryz.info_u8
  simp [Instr.slice, run_underlying Tryz.underlying22, Instr.sliceBounds, run_sliceBound, sizeOf, typeInfo, hi, h0, h2, cutA]
theorem RdB.mid {w : World} {B n c k m : Nat} {A : Option Addr} {xs : List Nat} (h : RdB w B A n xs) (hk : k + m ≤ n) (hc : n ≤ c) : RdB w B (Go.Proofs.YtloopkmmpfghfaaGreat.cutA A c k) m ((xs.drop k).take m) := by
  have h1 : RdB w B (Go.Proofs.YtloopkmmpfghfaaGreat.cutA A c k) (n - k) (xs.drop k) := h.cut (by omega) hc
  exact h1.upto (by omega)

/-- A slice's length, for a loop's measure. -/
def lenOf : Value → Nat
  | .slice _ n _ => n
  | _ => 0

/-! ### Rows of bytes, of the call's own -/
def OwnU8 (w : World) (B : Nat) (v : Value) (xs : List Nat) : Prop := w.ownsRow B 5 1 v xs.length (u8s xs)
theorem u8s_one (xs : List Nat) : ∀ u ∈ u8s xs, u.oneCell' = true := by
  intro u hu
  simp only [u8s, List.mem_map] at hu
  obtain ⟨x, _, rfl⟩ := hu
  rfl

theorem ownU8_nil (w : World) (B : Nat) : OwnU8 w B (.slice none 0 0) [] := World.ownsRow_nil _ _ _ _

theorem OwnU8.alloc {w : World} {B : Nat} {v : Value} {xs : List Nat} (h : OwnU8 w B v xs) (o : Obj) : OwnU8 (w.alloc o) B v xs := World.ownsRow.alloc h o
theorem OwnU8.drewN {w : World} {B : Nat} {v : Value} {xs : List Nat} (h : OwnU8 w B v xs) (n : Nat) : OwnU8 (w.drewN n) B v xs := h
theorem OwnU8.rd {w : World} {B : Nat} {v : Value} {xs : List Nat} (h : OwnU8 w B v xs) : ∃ A c, v = .slice A xs.length c ∧ xs.length ≤ c ∧ Rd w w.heap.size 1 A xs.length (u8s xs) := own_rd h
theorem OwnU8.below {w w1 : World} {B : Nat} {v : Value} {xs : List Nat} (h : OwnU8 w B v xs) (hb : Below w.heap.size w w1) : OwnU8 w1 B v xs := by
  refine World.ownsRow.kept (row := none) h ⟨hb.os, hb.tape, hb.output, hb.size, fun i hi _ => hb.block i hi⟩ ?_
  cases v.ownBlock <;> simp
theorem OwnU8.ge {w : World} {B : Nat} {v : Value} {xs : List Nat} (h : OwnU8 w B v xs) : ∀ k, v.ownBlock = some k → B ≤ k := fun k hk => (World.ownsRow.lt h k hk).1
theorem rd_u8 (w : World) (x : Nat) (u : Value) (h : u = .int .u8 (x : Int)) : Rd (w.alloc (.cells #[u] 5)) (w.heap.size + 1) 1 (some ⟨w.heap.size, 0, none⟩) 1 (u8s [x]) := by
  subst h; exact rd_one w _ _

/-- append onto a row of bytes of the call's own. -/
theorem app_u8 {ops : Array Oper} {rest : List Oper} {o : Oper} {a : Act} {Q : Exit → Act → World → Prop} {w : World} (hgd : o.guard = none) (s x : Operand)
    (ho : o.op = .call { callee := .builtin .append, args := #[s, x], argTypes := #[22, 22] }) (B : Nat) (v : Value) (xs : List Nat) (hs : a.eval s = v) (hown : OwnU8 w B v xs)
    (B' : Nat) (A : Option Addr) (m c : Nat) (ys : List Nat) (hx : a.eval x = .slice A m c) (hr : Rd w B' 1 A m (u8s ys)) (hlen : xs.length + ys.length ≤ 140737488355328) (hB : B ≤ w.heap.size)
    (h : ∀ v' w', OwnU8 w' B v' (xs ++ ys) → w.grownBy w' v.ownBlock → (v'.ownBlock = v.ownBlock ∨ v'.ownBlock = some w.heap.size) → wpList Tryz.prog ops Q rest (a.put o.dst v') w') : wpList Tryz.prog ops Q (o :: rest) a w := by
  obtain ⟨i0, hi, hz0, hz1, hz2⟩ := info_parts Tryz.info_u8
  have hm : m = ys.length := by have := hr.1; rw [u8s_length] at this; omega
  subst hm
  refine wpList_append_rd w hgd s x _ ho B 5 i0 (.int .u8 0) 1 1 Tryz.underlying22 hi hz0 hz1 hz2 rfl (by decide) v xs.length (u8s xs) hs hown B' A ys.length c (u8s ys) hx hr (u8s_one _) (by simp only [maxLen]; omega) (by omega) hB ?_
  intro v' w' h1 h2 h3
  exact h v' w' (by unfold OwnU8; rw [List.length_append, u8s_append]; exact h1) h2 h3

end Go.Proofs.YtloopkmmpfghfaaGreat
