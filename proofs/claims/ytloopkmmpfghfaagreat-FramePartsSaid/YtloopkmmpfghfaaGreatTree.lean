/-
  Plain lists: the lengths of symbols' codes by how often they stand (chapter 3): trees that are joined. No Go and no memory here.
-/
import Derived.Test.YtloopkmmpfghfaaGreatHuff
import Derived.Test.YtloopkmmpfghfaaGreatNorm
namespace Go.Proofs.YtloopkmmpfghfaaGreat
namespace Mg

/-- Symbols that were joined: how many times they stand together, the symbols rising. -/
structure Tr where
  n : Nat
  syms : List Nat
deriving DecidableEq

def Tr.least (t : Tr) : Nat := t.syms.headD 0
/-- Does a tree come ahead of another one? -/
def Tr.less (a b : Tr) : Bool := decide (a.n < b.n) || (decide (a.n = b.n) && decide (a.least < b.least))

/-- A tree at its place in a row that is in order. -/
def ins (t : Tr) : List Tr → List Tr
  | [] => [t]
  | x :: l => if t.less x then t :: x :: l else x :: ins t l

def insN (s : Nat) : List Nat → List Nat
  | [] => [s]
  | x :: l => if s ≤ x then s :: x :: l else x :: insN s l
def sortN : List Nat → List Nat
  | [] => []
  | x :: l => insN x (sortN l)

def merge (a b : Tr) : Tr := ⟨a.n + b.n, sortN (a.syms ++ b.syms)⟩

/-- Each of the symbols goes through one joining more. -/
def bump (syms lens : List Nat) : List Nat := syms.foldl (fun l s => l.set s (l.getD s 0 + 1)) lens

/-- Joinings till one tree is left. -/
def joinGo : Nat → List Tr → List Nat → List Nat
  | n + 1, a :: b :: r, lens => joinGo n (ins (merge a b) r) (bump (merge a b).syms lens)
  | _, _, lens => lens

/-- The trees of one symbol each, in order. -/
def leaves : Nat → List Nat → List Tr
  | _, [] => []
  | s, c :: l => if c = 0 then leaves (s + 1) l else ins ⟨c, [s]⟩ (leaves (s + 1) l)

/-- How many joinings each symbol goes through. -/
def joined (counts : List Nat) : List Nat :=
  match leaves 0 counts with
  | [t] => (List.replicate counts.length 0).set t.least 1
  | l => joinGo l.length l (List.replicate counts.length 0)

def half (c : Nat) : Nat := (c + 1) / 2
def lensGo : Nat → List Nat → List Nat
  | 0, counts => joined counts
  | n + 1, counts => if greatest (joined counts) ≤ 11 then joined counts else lensGo n (counts.map half)
/-- The lengths of symbols' codes. -/
def huffLens (counts : List Nat) : List Nat := lensGo 3 counts

theorem insN_perm (s : Nat) : ∀ l, (insN s l).Perm (s :: l)
  | [] => by simp [insN]
  | x :: l => by
    simp only [insN]
    split
    · exact List.Perm.refl _
    · exact ((insN_perm s l).cons x).trans (List.Perm.swap s x l)
theorem sortN_perm : ∀ l, (sortN l).Perm l
  | [] => List.Perm.refl _
  | x :: l => (insN_perm x _).trans ((sortN_perm l).cons x)
theorem insN_sorted (s : Nat) : ∀ l, l.Pairwise (· ≤ ·) → (insN s l).Pairwise (· ≤ ·)
  | [], _ => by simp [insN]
  | x :: l, h => by
    simp only [insN]
    split
    · rename_i hx
      refine List.pairwise_cons.2 ⟨fun y hy => ?_, h⟩
      rcases List.mem_cons.1 hy with rfl | hy
      · exact hx
      · exact Nat.le_trans hx ((List.pairwise_cons.1 h).1 y hy)
    · refine List.pairwise_cons.2 ⟨fun y hy => ?_, insN_sorted s l (List.pairwise_cons.1 h).2⟩
      rcases List.mem_cons.1 ((insN_perm s l).mem_iff.1 hy) with rfl | hy
      · omega
      · exact (List.pairwise_cons.1 h).1 y hy
theorem sortN_sorted : ∀ l, (sortN l).Pairwise (· ≤ ·)
  | [] => List.Pairwise.nil
  | x :: l => insN_sorted x _ (sortN_sorted l)

theorem ins_perm (t : Tr) : ∀ l, (ins t l).Perm (t :: l)
  | [] => by simp [ins]
  | x :: l => by
    simp only [ins]
    split
    · exact List.Perm.refl _
    · exact ((ins_perm t l).cons x).trans (List.Perm.swap t x l)

theorem less_trans {a b c : Tr} (h1 : a.less b = true) (h2 : b.less c = true) : a.less c = true := by
  simp only [Tr.less, Bool.or_eq_true, Bool.and_eq_true, decide_eq_true_eq] at *
  omega
theorem less_total {a b : Tr} (h : a.least ≠ b.least) (h1 : a.less b = false) : b.less a = true := by
  simp only [Tr.less, Bool.or_eq_true, Bool.and_eq_true, decide_eq_true_eq, Bool.or_eq_false_iff, Bool.and_eq_false_iff, decide_eq_false_iff_not] at *
  omega
theorem less_irrefl (a : Tr) : a.less a = false := by simp [Tr.less]
theorem less_asymm {a b : Tr} (h1 : a.less b = true) : b.less a = false := by
  cases h : b.less a with
  | false => rfl
  | true => have := less_trans h1 h; rw [less_irrefl] at this; cases this

/-- In order: each ahead of all behind it. -/
def Ordered (l : List Tr) : Prop := l.Pairwise fun a b => a.less b = true

theorem ins_ordered (t : Tr) : ∀ l, Ordered l → (∀ x ∈ l, x.least ≠ t.least) → Ordered (ins t l)
  | [], _, _ => by simp [ins, Ordered]
  | x :: l, h, hd => by
    simp only [ins]
    have hx := List.pairwise_cons.1 h
    split
    · rename_i hlt
      refine List.pairwise_cons.2 ⟨fun y hy => ?_, h⟩
      rcases List.mem_cons.1 hy with rfl | hy
      · exact hlt
      · exact less_trans hlt (hx.1 y hy)
    · rename_i hlt
      refine List.pairwise_cons.2 ⟨fun y hy => ?_, ins_ordered t l hx.2 fun y hy => hd y (List.mem_cons_of_mem _ hy)⟩
      rcases List.mem_cons.1 ((ins_perm t l).mem_iff.1 hy) with rfl | hy
      · exact less_total (fun e => hd x List.mem_cons_self e.symm) (by simpa using hlt)
      · exact hx.1 y hy

/-- Two rows in order of the same trees are one. -/
theorem ordered_unique : ∀ {l m : List Tr}, Ordered l → Ordered m → l.Perm m → l = m
  | [], m, _, _, h => (List.nil_perm.1 h).symm ▸ rfl
  | a :: l, [], _, _, h => by have := h.length_eq; simp at this
  | a :: l, b :: m, h1, h2, h => by
    have g1 := List.pairwise_cons.1 h1
    have g2 := List.pairwise_cons.1 h2
    have e : a = b := by
      have ha : a ∈ b :: m := h.mem_iff.1 List.mem_cons_self
      have hb : b ∈ a :: l := h.mem_iff.2 List.mem_cons_self
      rcases List.mem_cons.1 ha with e | ha
      · exact e
      · rcases List.mem_cons.1 hb with e | hb
        · exact e.symm
        · have := less_asymm (g1.1 b hb)
          rw [g2.1 a ha] at this
          cases this
    subst e
    rw [ordered_unique g1.2 g2.2 (List.Perm.cons_inv h)]

/-! ### What holds of trees between two joinings -/
def allSyms (l : List Tr) : List Nat := l.flatMap (·.syms)

structure Inv (m : Nat) (l : List Tr) (lens : List Nat) : Prop where
  ord : Ordered l
  rising : ∀ t ∈ l, t.syms.Pairwise (· ≤ ·)
  some_ : ∀ t ∈ l, t.syms ≠ []
  nodup : (allSyms l).Nodup
  below : ∀ s ∈ allSyms l, s < m
  len : lens.length = m
  pos : ∀ t ∈ l, 1 ≤ t.n

theorem headD_mem {l : List Nat} (h : l ≠ []) : l.headD 0 ∈ l := by
  cases l with
  | nil => exact absurd rfl h
  | cons x l => simp

theorem allSyms_perm {l m : List Tr} (h : l.Perm m) : (allSyms l).Perm (allSyms m) := h.flatMap_right _

theorem merge_syms (a b : Tr) : (merge a b).syms.Perm (a.syms ++ b.syms) := sortN_perm _

theorem allSyms_join (a b : Tr) (r : List Tr) : (allSyms (ins (merge a b) r)).Perm (allSyms (a :: b :: r)) := by
  refine (allSyms_perm (ins_perm _ r)).trans ?_
  simp only [allSyms, List.flatMap_cons]
  rw [← List.append_assoc]
  exact (merge_syms a b).append_right _

theorem least_ne {l : List Tr} (hn : (allSyms l).Nodup) (hs : ∀ t ∈ l, t.syms ≠ []) {a b : Tr} {r : List Tr} (h : l.Perm (a :: r)) (hb : b ∈ r) : b.least ≠ a.least := by
  intro e
  have hp := (allSyms_perm h).nodup_iff.1 hn
  simp only [allSyms, List.flatMap_cons] at hp
  have hd := (List.nodup_append.1 hp).2.2
  have ha := headD_mem (hs a (h.mem_iff.2 List.mem_cons_self))
  have hb' := headD_mem (hs b (h.mem_iff.2 (List.mem_cons_of_mem _ hb)))
  exact hd _ ha _ (List.mem_flatMap.2 ⟨b, hb, hb'⟩) e.symm

theorem bump_length : ∀ (syms lens : List Nat), (bump syms lens).length = lens.length
  | [], _ => rfl
  | s :: l, lens => by
    have := bump_length l (lens.set s (lens.getD s 0 + 1))
    simp only [bump, List.foldl_cons] at *
    rw [this]; simp

theorem bump_get : ∀ (syms lens : List Nat) (t : Nat), syms.Nodup → (∀ s ∈ syms, s < lens.length) →
    (bump syms lens).getD t 0 = lens.getD t 0 + if t ∈ syms then 1 else 0
  | [], lens, t, _, _ => by simp [bump]
  | s :: l, lens, t, hn, hb => by
    have h1 := List.nodup_cons.1 hn
    have ih := bump_get l (lens.set s (lens.getD s 0 + 1)) t h1.2 (fun x hx => by simpa using hb x (List.mem_cons_of_mem _ hx))
    have e : bump (s :: l) lens = bump l (lens.set s (lens.getD s 0 + 1)) := rfl
    have hs := hb s List.mem_cons_self
    rw [e, ih]
    by_cases h : s = t
    · subst h
      have hg : (lens.set s (lens.getD s 0 + 1)).getD s 0 = lens.getD s 0 + 1 := by
        rw [List.getD_eq_getElem?_getD, List.getElem?_set_self (by omega)]; rfl
      rw [hg, if_neg h1.1, if_pos List.mem_cons_self]
    · have hg : (lens.set s (lens.getD s 0 + 1)).getD t 0 = lens.getD t 0 := by
        rw [List.getD_eq_getElem?_getD, List.getElem?_set_ne h, ← List.getD_eq_getElem?_getD]
      have : t ∈ s :: l ↔ t ∈ l := by
        refine ⟨fun h' => ?_, List.mem_cons_of_mem _⟩
        rcases List.mem_cons.1 h' with e | e
        · exact absurd e.symm h
        · exact e
      rw [hg]
      simp only [this]

/-- A joining keeps all that. -/
theorem Inv.join {m : Nat} {a b : Tr} {r : List Tr} {lens : List Nat} (h : Inv m (a :: b :: r) lens) :
    Inv m (ins (merge a b) r) (bump (merge a b).syms lens) := by
  have hp := allSyms_join a b r
  have hmem : ∀ t, t ∈ ins (merge a b) r → t = merge a b ∨ t ∈ r := fun t ht => List.mem_cons.1 ((ins_perm _ r).mem_iff.1 ht)
  have hne : (merge a b).syms ≠ [] := by
    intro e
    have := (merge_syms a b).length_eq
    rw [e] at this
    simp only [List.length_nil, List.length_append] at this
    exact h.some_ a List.mem_cons_self (List.eq_nil_of_length_eq_zero (by omega))
  have hnd : (allSyms (merge a b :: r)).Nodup := by
    have := (allSyms_perm (ins_perm (merge a b) r)).symm.trans hp
    exact this.nodup_iff.2 h.nodup
  have hall : ∀ t ∈ merge a b :: r, t.syms ≠ [] := by
    intro t ht
    rcases List.mem_cons.1 ht with rfl | ht
    · exact hne
    · exact h.some_ t (List.mem_cons_of_mem _ (List.mem_cons_of_mem _ ht))
  refine ⟨?_, ?_, ?_, hp.nodup_iff.2 h.nodup, fun s hs => h.below s (hp.mem_iff.1 hs), by rw [bump_length]; exact h.len, ?_⟩
  · refine ins_ordered _ _ (List.pairwise_cons.1 (List.pairwise_cons.1 h.ord).2).2 fun x hx => ?_
    exact least_ne hnd hall (List.Perm.refl _) hx
  · intro t ht
    rcases hmem t ht with rfl | ht
    · exact sortN_sorted _
    · exact h.rising t (List.mem_cons_of_mem _ (List.mem_cons_of_mem _ ht))
  · intro t ht
    exact hall t ((ins_perm _ r).mem_iff.1 ht)
  · intro t ht
    rcases hmem t ht with rfl | ht
    · have := h.pos a List.mem_cons_self
      simp only [merge]; omega
    · exact h.pos t (List.mem_cons_of_mem _ (List.mem_cons_of_mem _ ht))

/-! ### The sum of all codes' parts; how deep they lie -/
def fib : Nat → Nat
  | 0 => 1
  | 1 => 1
  | n + 2 => fib n + fib (n + 1)

theorem fib_pos : ∀ n, 1 ≤ fib n
  | 0 => by simp [fib]
  | 1 => by simp [fib]
  | n + 2 => by have := fib_pos n; simp only [fib]; omega

theorem fib_mono (n : Nat) : ∀ k, fib n ≤ fib (n + k)
  | 0 => Nat.le_refl _
  | k + 1 => by
    have ih := fib_mono n k
    have : fib (n + k) ≤ fib (n + k + 1) := by
      cases h : n + k with
      | zero => simp [fib]
      | succ j => have := fib_pos j; simp only [fib]; omega
    exact Nat.le_trans ih this

/-- A tree's sum of parts, of 2 to the K-th. -/
def part (K : Nat) (lens : List Nat) (syms : List Nat) : Nat := (syms.map fun s => 2 ^ (K - lens.getD s 0)).sum

theorem part_perm {K : Nat} {lens a b : List Nat} (h : a.Perm b) : part K lens a = part K lens b := (h.map _).sum_nat

theorem part_append (K : Nat) (lens a b : List Nat) : part K lens (a ++ b) = part K lens a + part K lens b := by simp [part]

theorem part_congr {K : Nat} {l1 l2 : List Nat} : ∀ {syms : List Nat}, (∀ s ∈ syms, l1.getD s 0 = l2.getD s 0) → part K l1 syms = part K l2 syms
  | [], _ => rfl
  | s :: l, h => by
    have := part_congr (K := K) fun x hx => h x (List.mem_cons_of_mem s hx)
    simp only [part, List.map_cons, List.sum_cons] at *
    rw [h s List.mem_cons_self, this]

theorem part_bumped {K : Nat} {l1 l2 : List Nat} : ∀ {syms : List Nat}, (∀ s ∈ syms, l2.getD s 0 = l1.getD s 0 + 1 ∧ l1.getD s 0 < K) → 2 * part K l2 syms = part K l1 syms
  | [], _ => rfl
  | s :: l, h => by
    have ih := part_bumped fun x hx => h x (List.mem_cons_of_mem s hx)
    obtain ⟨e, hk⟩ := h s List.mem_cons_self
    have hp : 2 ^ (K - l1.getD s 0) = 2 * 2 ^ (K - l2.getD s 0) := by
      rw [e, show K - l1.getD s 0 = (K - (l1.getD s 0 + 1)) + 1 from by omega, Nat.pow_succ, Nat.mul_comm]
    simp only [part, List.map_cons, List.sum_cons] at *
    rw [hp]; omega

/-- Between two joinings, with d joinings done at most: each tree's parts are a whole; each tree is heavy as its symbols lie deep, and so are all others. -/
structure Deep (K d : Nat) (l : List Tr) (lens : List Nat) : Prop where
  whole : ∀ t ∈ l, part K lens t.syms = 2 ^ K
  few : ∀ s, lens.getD s 0 ≤ d
  heavy : ∀ t ∈ l, ∀ s ∈ t.syms, fib (lens.getD s 0 + 1) ≤ t.n ∧ ∀ u ∈ l, u ≠ t → fib (lens.getD s 0) ≤ u.n

theorem Deep.join {K d m : Nat} {a b : Tr} {r : List Tr} {lens : List Nat} (h : Inv m (a :: b :: r) lens) (g : Deep K d (a :: b :: r) lens) (hK : d < K) :
    Deep K (d + 1) (ins (merge a b) r) (bump (merge a b).syms lens) := by
  have hcn : (merge a b).syms.Nodup := by
    have := (allSyms_join a b r).nodup_iff.2 h.nodup
    have := (allSyms_perm (ins_perm (merge a b) r)).nodup_iff.1 this
    simp only [allSyms, List.flatMap_cons] at this
    exact (List.nodup_append.1 this).1
  have hmemc : ∀ s, s ∈ (merge a b).syms ↔ s ∈ a.syms ∨ s ∈ b.syms := fun s => by rw [(merge_syms a b).mem_iff, List.mem_append]
  have hcb : ∀ s ∈ (merge a b).syms, s < lens.length := fun s hs => by
    rw [h.len]
    refine h.below s ?_
    simp only [allSyms, List.flatMap_cons, List.mem_append]
    rcases (hmemc s).1 hs with hs | hs
    · exact .inl hs
    · exact .inr (.inl hs)
  have hget := fun t => bump_get (merge a b).syms lens t hcn hcb
  have hout : ∀ t ∈ r, ∀ s ∈ t.syms, s ∉ (merge a b).syms := by
    intro t ht s hs hc
    have hn := h.nodup
    simp only [allSyms, List.flatMap_cons] at hn
    have h1 := List.nodup_append.1 hn
    have h2 := List.nodup_append.1 h1.2.1
    have hr : s ∈ r.flatMap (·.syms) := List.mem_flatMap.2 ⟨t, ht, hs⟩
    rcases (hmemc s).1 hc with hc | hc
    · exact h1.2.2 s hc s (List.mem_append_right _ hr) rfl
    · exact h2.2.2 s hc s hr rfl
  have hmem : ∀ t, t ∈ ins (merge a b) r → t = merge a b ∨ t ∈ r := fun t ht => List.mem_cons.1 ((ins_perm _ r).mem_iff.1 ht)
  have ha := g.whole a List.mem_cons_self
  have hb := g.whole b (List.mem_cons_of_mem _ List.mem_cons_self)
  have hab : a.n ≤ b.n := by
    have := (List.pairwise_cons.1 h.ord).1 b List.mem_cons_self
    simp only [Tr.less, Bool.or_eq_true, Bool.and_eq_true, decide_eq_true_eq] at this
    omega
  have hbr : ∀ t ∈ r, b.n ≤ t.n := by
    intro t ht
    have := (List.pairwise_cons.1 (List.pairwise_cons.1 h.ord).2).1 t ht
    simp only [Tr.less, Bool.or_eq_true, Bool.and_eq_true, decide_eq_true_eq] at this
    omega
  have hne : a ≠ b := by
    intro e
    have := (List.pairwise_cons.1 h.ord).1 b List.mem_cons_self
    rw [e, less_irrefl] at this
    cases this
  refine ⟨?_, ?_, ?_⟩
  · intro t ht
    rcases hmem t ht with rfl | ht
    · have h2 : 2 * part K (bump (merge a b).syms lens) (merge a b).syms = part K lens (merge a b).syms :=
        part_bumped fun s hs => ⟨by rw [hget, if_pos hs], by have := g.few s; omega⟩
      have h3 : part K lens (merge a b).syms = part K lens a.syms + part K lens b.syms := by rw [part_perm (merge_syms a b), part_append]
      rw [h3, ha, hb] at h2
      omega
    · rw [part_congr (l2 := lens) fun s hs => by rw [hget, if_neg (hout t ht s hs)]; rfl]
      exact g.whole t (List.mem_cons_of_mem _ (List.mem_cons_of_mem _ ht))
  · intro s
    rw [hget]
    have := g.few s
    split <;> omega
  · intro t ht s hs
    rcases hmem t ht with rfl | ht
    · have hs' := hs
      rw [hget, if_pos hs]
      have key : fib (lens.getD s 0 + 1 + 1) ≤ a.n + b.n ∧ fib (lens.getD s 0 + 1) ≤ b.n := by
        have e : fib (lens.getD s 0 + 1 + 1) = fib (lens.getD s 0) + fib (lens.getD s 0 + 1) := rfl
        rcases (hmemc s).1 hs with hs | hs
        · obtain ⟨k1, k2⟩ := g.heavy a List.mem_cons_self s hs
          have := k2 b (List.mem_cons_of_mem _ List.mem_cons_self) hne.symm
          omega
        · obtain ⟨k1, k2⟩ := g.heavy b (List.mem_cons_of_mem _ List.mem_cons_self) s hs
          have := k2 a List.mem_cons_self hne
          omega
      refine ⟨key.1, fun u hu hne => ?_⟩
      rcases hmem u hu with rfl | hu
      · exact absurd rfl hne
      · have := hbr u hu; omega
    · have e0 : (bump (merge a b).syms lens).getD s 0 = lens.getD s 0 := by rw [hget, if_neg (hout t ht s hs)]; rfl
      rw [e0]
      obtain ⟨k1, k2⟩ := g.heavy t (List.mem_cons_of_mem _ (List.mem_cons_of_mem _ ht)) s hs
      refine ⟨k1, fun u hu hne' => ?_⟩
      rcases hmem u hu with rfl | hu
      · have hat : a ≠ t := by
          intro e
          have := (List.pairwise_cons.1 h.ord).1 t (List.mem_cons_of_mem _ ht)
          rw [e, less_irrefl] at this
          cases this
        have := k2 a List.mem_cons_self hat
        simp only [merge]; omega
      · exact k2 u (List.mem_cons_of_mem _ (List.mem_cons_of_mem _ hu)) hne'

theorem sum_n_ins (t : Tr) (l : List Tr) : ((ins t l).map (·.n)).sum = t.n + (l.map (·.n)).sum := by
  have := ((ins_perm t l).map (·.n)).sum_nat
  simpa using this

/-- All joinings: one tree is left, of all symbols. -/
theorem joinGo_spec {K m : Nat} : ∀ (n d : Nat) (l : List Tr) (lens : List Nat), Inv m l lens → Deep K d l lens → l.length ≤ n + 1 → l ≠ [] → d + n < K →
    ∃ t d', Inv m [t] (joinGo n l lens) ∧ Deep K d' [t] (joinGo n l lens) ∧ t.syms.Perm (allSyms l) ∧ t.n = (l.map (·.n)).sum ∧
      (∀ s, lens.getD s 0 ≤ (joinGo n l lens).getD s 0) ∧ (2 ≤ l.length → ∀ s ∈ allSyms l, lens.getD s 0 < (joinGo n l lens).getD s 0) ∧
      ∀ s, s ∉ allSyms l → (joinGo n l lens).getD s 0 = lens.getD s 0
  | n, d, [], lens, _, _, _, h, _ => absurd rfl h
  | n, d, [t], lens, h, g, _, _, _ => by
    refine ⟨t, d, ?_, ?_, by simp [allSyms], by simp, ?_, fun h => by simp at h, ?_⟩ <;> cases n <;> simp_all [joinGo]
  | 0, d, a :: b :: r, lens, _, _, hl, _, _ => by simp at hl
  | n + 1, d, a :: b :: r, lens, h, g, hl, _, hK => by
    have h' := h.join
    have g' := g.join h (by omega)
    have hlen : (ins (merge a b) r).length = r.length + 1 := (ins_perm _ r).length_eq
    have hp := allSyms_join a b r
    obtain ⟨t, d', i1, i2, i3, i4, i5, i6, i7⟩ := joinGo_spec n (d + 1) _ _ h' g' (by rw [hlen]; simp at hl; omega) (by intro e; rw [e] at hlen; simp at hlen) (by omega)
    have hcn : (merge a b).syms.Nodup := by
      have := (allSyms_perm (ins_perm (merge a b) r)).nodup_iff.1 (hp.nodup_iff.2 h.nodup)
      simp only [allSyms, List.flatMap_cons] at this
      exact (List.nodup_append.1 this).1
    have hcs : ∀ s ∈ (merge a b).syms, s ∈ allSyms (a :: b :: r) := fun s hs => by
      refine hp.mem_iff.1 ((allSyms_perm (ins_perm (merge a b) r)).mem_iff.2 ?_)
      simp only [allSyms, List.flatMap_cons, List.mem_append]
      exact .inl hs
    have hcb : ∀ s ∈ (merge a b).syms, s < lens.length := fun s hs => by rw [h.len]; exact h.below s (hcs s hs)
    have hget := fun t => bump_get (merge a b).syms lens t hcn hcb
    simp only [joinGo]
    refine ⟨t, d', i1, i2, i3.trans hp, ?_, ?_, ?_, ?_⟩
    · rw [i4, sum_n_ins]; simp [merge]; omega
    · intro s
      have := i5 s
      rw [hget] at this
      omega
    · intro _ s hs
      have h5 := i5 s
      rw [hget] at h5
      by_cases hm : s ∈ (merge a b).syms
      · rw [if_pos hm] at h5; omega
      · rw [if_neg hm] at h5
        have hs' := hp.mem_iff.2 hs
        have : 2 ≤ (ins (merge a b) r).length := by
          rw [hlen]
          have := (allSyms_perm (ins_perm (merge a b) r)).mem_iff.1 hs'
          simp only [allSyms, List.flatMap_cons, List.mem_append] at this
          rcases this with h' | h'
          · exact absurd h' hm
          · cases r with
            | nil => simp at h'
            | cons x r => simp
        have h6 := i6 this s hs'
        rw [hget, if_neg hm] at h6
        omega
    · intro s hs
      rw [i7 s (fun h' => hs (hp.mem_iff.1 h')), hget, if_neg fun h' => hs (hcs s h'), Nat.add_zero]

/-! ### The trees of one symbol each -/
def leavesF : Nat → List Nat → List Tr
  | _, [] => []
  | s, c :: l => if c = 0 then leavesF (s + 1) l else ⟨c, [s]⟩ :: leavesF (s + 1) l

theorem leaves_perm : ∀ (l : List Nat) (s : Nat), (leaves s l).Perm (leavesF s l)
  | [], _ => List.Perm.refl _
  | c :: l, s => by
    simp only [leaves, leavesF]
    split
    · exact leaves_perm l (s + 1)
    · exact (ins_perm _ _).trans ((leaves_perm l (s + 1)).cons _)

theorem leavesF_mem : ∀ (l : List Nat) (s : Nat) (t : Tr), t ∈ leavesF s l → ∃ k, k < l.length ∧ t.syms = [s + k] ∧ t.n = l.getD k 0 ∧ t.n ≠ 0
  | [], _, t, h => by simp [leavesF] at h
  | c :: l, s, t, h => by
    simp only [leavesF] at h
    split at h
    · obtain ⟨k, h1, h2, h3⟩ := leavesF_mem l (s + 1) t h
      exact ⟨k + 1, by simp; omega, by rw [h2]; congr 1; omega, by simpa using h3⟩
    · rename_i hc
      rcases List.mem_cons.1 h with rfl | h
      · exact ⟨0, by simp, by simp, by simp, hc⟩
      · obtain ⟨k, h1, h2, h3⟩ := leavesF_mem l (s + 1) t h
        exact ⟨k + 1, by simp; omega, by rw [h2]; congr 1; omega, by simpa using h3⟩

theorem leavesF_syms : ∀ (l : List Nat) (s t : Nat), t ∈ allSyms (leavesF s l) ↔ s ≤ t ∧ l.getD (t - s) 0 ≠ 0
  | [], s, t => by simp [leavesF, allSyms]
  | c :: l, s, t => by
    have ih := leavesF_syms l (s + 1) t
    simp only [leavesF]
    by_cases h : s = t
    · subst h
      have : ¬ (s + 1 ≤ s ∧ l.getD (s - (s + 1)) 0 ≠ 0) := by omega
      split
      · rename_i hc
        rw [ih]; exact ⟨fun h => absurd h this, fun h => by simp [hc] at h⟩
      · rename_i hc
        simp only [allSyms, List.flatMap_cons, List.mem_append, List.mem_singleton]
        simp [hc]
    · have e : (s ≤ t ∧ (c :: l).getD (t - s) 0 ≠ 0) ↔ (s + 1 ≤ t ∧ l.getD (t - (s + 1)) 0 ≠ 0) := by
        by_cases h' : s + 1 ≤ t
        · rw [show t - s = (t - (s + 1)) + 1 from by omega]
          simp only [List.getD_cons_succ]
          exact ⟨fun ⟨_, b⟩ => ⟨h', b⟩, fun ⟨_, b⟩ => ⟨by omega, b⟩⟩
        · exact ⟨fun ⟨a, _⟩ => by omega, fun ⟨a, _⟩ => by omega⟩
      rw [e, ← ih]
      split
      · exact Iff.rfl
      · simp only [allSyms, List.flatMap_cons, List.mem_append, List.mem_singleton]
        exact ⟨fun h' => h'.resolve_left fun e => h e.symm, .inr⟩

theorem leavesF_nodup : ∀ (l : List Nat) (s : Nat), (allSyms (leavesF s l)).Nodup
  | [], _ => by simp [leavesF, allSyms]
  | c :: l, s => by
    simp only [leavesF]
    split
    · exact leavesF_nodup l (s + 1)
    · simp only [allSyms, List.flatMap_cons, List.singleton_append]
      refine List.nodup_cons.2 ⟨fun h => ?_, leavesF_nodup l (s + 1)⟩
      have := (leavesF_syms l (s + 1) s).1 h
      omega

theorem leavesF_sum : ∀ (l : List Nat) (s : Nat), ((leavesF s l).map (·.n)).sum = l.sum
  | [], _ => rfl
  | c :: l, s => by
    simp only [leavesF]
    split
    · rename_i h; rw [leavesF_sum l (s + 1)]; simp [h]
    · simp [leavesF_sum l (s + 1)]

theorem leavesF_length : ∀ (l : List Nat) (s : Nat), (leavesF s l).length ≤ l.length
  | [], _ => by simp [leavesF]
  | c :: l, s => by
    have := leavesF_length l (s + 1)
    simp only [leavesF]
    split <;> simp <;> omega

theorem leaves_ord : ∀ (l : List Nat) (s : Nat), Ordered (leaves s l)
  | [], _ => List.Pairwise.nil
  | c :: l, s => by
    simp only [leaves]
    split
    · exact leaves_ord l (s + 1)
    · refine ins_ordered _ _ (leaves_ord l (s + 1)) fun x hx => ?_
      obtain ⟨k, _, h2, _⟩ := leavesF_mem l (s + 1) x ((leaves_perm l (s + 1)).mem_iff.1 hx)
      simp only [Tr.least, h2, List.headD_cons]
      omega

theorem getD_replicate0 (n s : Nat) : (List.replicate n 0).getD s 0 = 0 := by
  rw [List.getD_eq_getElem?_getD, List.getElem?_replicate]
  split <;> rfl

theorem leaves_inv (counts : List Nat) : Inv counts.length (leaves 0 counts) (List.replicate counts.length 0) := by
  have hp := leaves_perm counts 0
  refine ⟨leaves_ord counts 0, ?_, ?_, (allSyms_perm hp).nodup_iff.2 (leavesF_nodup counts 0), ?_, by simp, ?_⟩
  · intro t ht
    obtain ⟨k, _, h2, _⟩ := leavesF_mem counts 0 t (hp.mem_iff.1 ht)
    rw [h2]; simp
  · intro t ht
    obtain ⟨k, _, h2, _⟩ := leavesF_mem counts 0 t (hp.mem_iff.1 ht)
    rw [h2]; simp
  · intro s hs
    have := (leavesF_syms counts 0 s).1 ((allSyms_perm hp).mem_iff.1 hs)
    exact getD_lt (by simpa using this.2)
  · intro t ht
    obtain ⟨k, _, _, h3, h4⟩ := leavesF_mem counts 0 t (hp.mem_iff.1 ht)
    omega

theorem leaves_deep (counts : List Nat) (K : Nat) : Deep K 0 (leaves 0 counts) (List.replicate counts.length 0) := by
  have hp := leaves_perm counts 0
  refine ⟨?_, fun s => by rw [getD_replicate0]; exact Nat.le_refl _, ?_⟩
  · intro t ht
    obtain ⟨k, _, h2, _⟩ := leavesF_mem counts 0 t (hp.mem_iff.1 ht)
    rw [h2]
    simp only [part, List.map_cons, List.map_nil, List.sum_cons, List.sum_nil, getD_replicate0]
    simp
  · intro t ht s _
    rw [getD_replicate0]
    have hpos := (leaves_inv counts).pos
    refine ⟨?_, fun u hu _ => ?_⟩
    · have := hpos t ht; simp only [fib]; omega
    · have := hpos u hu; simp only [fib]; omega

/-- The sum of parts over all symbols. -/
theorem kraft_filter_range (lens : List Nat) : kraft lens = (((List.range lens.length).filter fun s => decide (lens.getD s 0 ≠ 0)).map fun s => 2 ^ (11 - lens.getD s 0)).sum := by
  have e : lens = (List.range lens.length).map fun s => lens.getD s 0 := (map_getD_range lens).symm
  have : ∀ l : List Nat, ((l.map fun s => lens.getD s 0).map fun n => if n = 0 then 0 else 2 ^ (11 - n)).sum = ((l.filter fun s => decide (lens.getD s 0 ≠ 0)).map fun s => 2 ^ (11 - lens.getD s 0)).sum := by
    intro l
    induction l with
    | nil => rfl
    | cons s l ih =>
      by_cases h : lens.getD s 0 = 0
      · rw [List.filter_cons_of_neg (by rw [decide_eq_true_eq]; exact fun h' => h' h)]
        simp only [List.map_cons, List.sum_cons, if_pos h, Nat.zero_add]
        exact ih
      · rw [List.filter_cons_of_pos (by rw [decide_eq_true_eq]; exact h)]
        simp only [List.map_cons, List.sum_cons, if_neg h]
        rw [ih]
  have h2 := this (List.range lens.length)
  rw [← e] at h2
  exact h2

/-- **The lengths of joined trees.** -/
theorem joined_spec (counts : List Nat) : (joined counts).length = counts.length ∧ (∀ s, counts.getD s 0 = 0 → (joined counts).getD s 0 = 0) ∧
    (∀ s, counts.getD s 0 ≠ 0 → (joined counts).getD s 0 ≠ 0) ∧ (counts.length ≤ 256 → 0 < counts.sum → (∀ s, (joined counts).getD s 0 ≤ 11) → huffIs (joined counts) = true) ∧
    ∀ s, fib ((joined counts).getD s 0 + 1) ≤ counts.sum ∨ (joined counts).getD s 0 ≤ 1 := by
  have hp := leaves_perm counts 0
  have hsyms : ∀ t, t ∈ allSyms (leaves 0 counts) ↔ counts.getD t 0 ≠ 0 := fun t => by
    rw [(allSyms_perm hp).mem_iff, leavesF_syms]; simp
  have hsum : ((leaves 0 counts).map (·.n)).sum = counts.sum := by rw [(hp.map _).sum_nat, leavesF_sum]
  have hll : (leaves 0 counts).length ≤ counts.length := by rw [hp.length_eq]; exact leavesF_length counts 0
  have hinv := leaves_inv counts
  have hdeep := leaves_deep counts (counts.length + 12)
  unfold joined
  generalize leaves 0 counts = L at *
  rcases L with _ | ⟨a, _ | ⟨b, r⟩⟩
  · -- no symbol
    have hall : ∀ t, counts.getD t 0 = 0 := fun t => Classical.byContradiction fun h => by
      have := (hsyms t).2 h
      simp [allSyms] at this
    simp only [List.map_nil, List.sum_nil] at hsum
    simp only [joinGo, List.length_nil]
    refine ⟨by simp, fun s _ => getD_replicate0 _ _, fun s h => absurd (hall s) h, fun _ h => by omega, fun s => .inr (by rw [getD_replicate0]; omega)⟩
  · -- one
    have ha : a.syms = [a.least] := by
      have h1 := hinv.some_ a List.mem_cons_self
      obtain ⟨k, _, h2, _⟩ := leavesF_mem counts 0 a (hp.mem_iff.1 List.mem_cons_self)
      rw [h2]; simp [Tr.least, h2]
    have hlt : a.least < counts.length := hinv.below _ (by simp [allSyms, ha])
    have hget : ∀ s, ((List.replicate counts.length 0).set a.least 1).getD s 0 = if a.least = s then 1 else 0 := by
      intro s
      rw [List.getD_eq_getElem?_getD, List.getElem?_set]
      split
      · rename_i e; rw [if_pos (by simp; omega)]; rfl
      · rw [List.getElem?_replicate]; split <;> rfl
    have hs1 : ∀ t, t = a.least ↔ counts.getD t 0 ≠ 0 := fun t => by rw [← hsyms]; simp [allSyms, ha]
    refine ⟨by simp, fun s h => ?_, fun s h => ?_, fun h1 _ _ => ?_, fun s => .inr (by rw [hget]; split <;> omega)⟩
    · rw [hget, if_neg fun e => absurd h ((hs1 s).1 e.symm)]
    · rw [hget, if_pos ((hs1 s).2 h).symm]; omega
    · simp only [huffIs, Bool.and_eq_true, Bool.or_eq_true, decide_eq_true_eq, beq_iff_eq, List.all_eq_true]
      refine ⟨⟨by simpa using h1, fun x hx => ?_⟩, .inr ?_⟩
      · obtain ⟨i, hi, rfl⟩ := List.getElem_of_mem hx
        have := hget i
        rw [List.getD_eq_getElem?_getD, List.getElem?_eq_getElem hi] at this
        simp only [Option.getD_some] at this
        rw [this]; split <;> omega
      · have : ∀ (n k : Nat), k < n → ((List.replicate n 0).set k 1).filter (fun n => decide (n ≠ 0)) = [1] := by
          intro n
          induction n with
          | zero => intro k h; omega
          | succ n ih =>
            intro k h
            cases k with
            | zero => simp [List.replicate_succ]
            | succ k => simp [List.replicate_succ]; simpa using ih k (by omega)
        exact this _ _ hlt
  · -- two or more
    dsimp only
    obtain ⟨t, d', i1, i2, i3, i4, i5, i6, i7⟩ := joinGo_spec (K := counts.length + 12) (a :: b :: r).length 0 (a :: b :: r) _ hinv hdeep (by omega) (by simp) (by omega)
    generalize joinGo (a :: b :: r).length (a :: b :: r) (List.replicate counts.length 0) = lens at *
    have hz : ∀ s, counts.getD s 0 = 0 → lens.getD s 0 = 0 := fun s h => by
      rw [i7 s fun h' => absurd h ((hsyms s).1 h'), getD_replicate0]
    have hnz : ∀ s, counts.getD s 0 ≠ 0 → lens.getD s 0 ≠ 0 := fun s h => by
      have := i6 (by simp) s ((hsyms s).2 h)
      omega
    refine ⟨i1.len, hz, hnz, fun h1 h2 h3 => ?_, fun s => ?_⟩
    · have hk : kraft lens = 2048 := by
        have hperm : t.syms.Perm ((List.range lens.length).filter fun s => decide (lens.getD s 0 ≠ 0)) := by
          refine (List.perm_ext_iff_of_nodup (i3.nodup_iff.2 hinv.nodup) (List.nodup_range.filter _)).2 fun s => ?_
          rw [i3.mem_iff, hsyms, List.mem_filter, List.mem_range, decide_eq_true_eq]
          constructor
          · intro h; exact ⟨getD_lt (hnz s h), hnz s h⟩
          · intro h e; exact h.2 (hz s e)
        have hw := i2.whole t List.mem_cons_self
        have hscale : ∀ l : List Nat, part (counts.length + 12) lens l = 2 ^ (counts.length + 1) * (l.map fun s => 2 ^ (11 - lens.getD s 0)).sum := by
          intro l
          induction l with
          | nil => rfl
          | cons s l ih =>
            simp only [part, List.map_cons, List.sum_cons, Nat.mul_add] at *
            rw [ih, ← Nat.pow_add]
            have := h3 s
            rw [show counts.length + 1 + (11 - lens.getD s 0) = counts.length + 12 - lens.getD s 0 from by omega]
        rw [hscale, (hperm.map _).sum_nat, ← kraft_filter_range] at hw
        have e12 : 2 ^ (counts.length + 12) = 2 ^ (counts.length + 1) * 2048 := by rw [show counts.length + 12 = (counts.length + 1) + 11 from by omega, Nat.pow_add (a := 2) (m := counts.length + 1) (n := 11)]
        rw [e12] at hw
        exact Nat.eq_of_mul_eq_mul_left (Nat.two_pow_pos (counts.length + 1)) hw
      simp only [huffIs, Bool.and_eq_true, Bool.or_eq_true, decide_eq_true_eq, List.all_eq_true]
      refine ⟨⟨by rw [i1.len]; exact h1, fun x hx => ?_⟩, .inl hk⟩
      obtain ⟨i, hi, rfl⟩ := List.getElem_of_mem hx
      have := h3 i
      rw [List.getD_eq_getElem?_getD, List.getElem?_eq_getElem hi] at this
      exact this
    · by_cases h : counts.getD s 0 = 0
      · exact .inr (by rw [hz s h]; omega)
      · refine .inl ?_
        have := (i2.heavy t List.mem_cons_self s (i3.mem_iff.2 ((hsyms s).2 h))).1
        rw [i4, hsum] at this
        exact this

theorem half_pos (c : Nat) : half c = 0 ↔ c = 0 := by unfold half; omega

theorem half_sum : ∀ l : List Nat, 2 * (l.map half).sum ≤ l.sum + l.length
  | [] => by simp
  | c :: l => by
    have := half_sum l
    simp only [List.map_cons, List.sum_cons, List.length_cons]
    unfold half
    unfold half at this
    omega

theorem getD_map_half (l : List Nat) (s : Nat) : (l.map half).getD s 0 = half (l.getD s 0) := by
  simp only [List.getD_eq_getElem?_getD, List.getElem?_map]
  cases l[s]? <;> simp [half]

theorem light (counts : List Nat) (h : counts.sum < 377) : ∀ s, (joined counts).getD s 0 ≤ 11 := by
  intro s
  rcases (joined_spec counts).2.2.2.2 s with h' | h'
  · rcases Nat.lt_or_ge 11 ((joined counts).getD s 0) with h2 | h2
    · have := fib_mono 13 ((joined counts).getD s 0 + 1 - 13)
      rw [show 13 + ((joined counts).getD s 0 + 1 - 13) = (joined counts).getD s 0 + 1 from by omega] at this
      have e : fib 13 = 377 := rfl
      omega
    · exact h2
  · omega

theorem greatest_le_iff (l : List Nat) (n : Nat) : greatest l ≤ n ↔ ∀ s, l.getD s 0 ≤ n := by
  constructor
  · intro h s
    rw [List.getD_eq_getElem?_getD]
    cases hg : l[s]? with
    | none => simp
    | some x => have := le_greatest l x (List.mem_of_getElem? hg); simp; omega
  · intro h
    rcases Nat.eq_zero_or_pos l.length with h0 | h0
    · rw [List.eq_nil_of_length_eq_zero h0]; simp [greatest]
    · have hne : l ≠ [] := by intro e; rw [e] at h0; simp at h0
      have := argmax_get l hne
      have h2 := h (argmax l)
      rw [List.getD_eq_getElem?_getD, this] at h2
      exact h2

theorem lensGo_spec : ∀ (n : Nat) (counts : List Nat), counts.length ≤ 256 → 0 < counts.sum → counts.sum < 377 + 61 * n → n ≤ 3 →
    (lensGo n counts).length = counts.length ∧ (∀ s, counts.getD s 0 = 0 → (lensGo n counts).getD s 0 = 0) ∧ (∀ s, counts.getD s 0 ≠ 0 → (lensGo n counts).getD s 0 ≠ 0) ∧ huffIs (lensGo n counts) = true
  | 0, counts, h1, h2, h3, _ => by
    obtain ⟨a, b, c, d, _⟩ := joined_spec counts
    exact ⟨a, b, c, d h1 h2 (light counts (by omega))⟩
  | n + 1, counts, h1, h2, h3, h4 => by
    simp only [lensGo]
    split
    · rename_i hg
      obtain ⟨a, b, c, d, _⟩ := joined_spec counts
      exact ⟨a, b, c, d h1 h2 ((greatest_le_iff _ _).1 hg)⟩
    · have hs := half_sum counts
      have hpos : 0 < (counts.map half).sum := by
        rcases Nat.eq_zero_or_pos (counts.map half).sum with e | e
        · exfalso
          have : ∀ l : List Nat, (l.map half).sum = 0 → l.sum = 0 := by
            intro l
            induction l with
            | nil => intro _; rfl
            | cons c l ih =>
              intro h
              simp only [List.map_cons, List.sum_cons] at h ⊢
              have h5 := ih (by omega)
              have h6 := (half_pos c).1 (by omega)
              omega
          have := this counts e
          omega
        · exact e
      obtain ⟨a, b, c, d⟩ := lensGo_spec n (counts.map half) (by simpa using h1) hpos (by omega) (by omega)
      refine ⟨by simpa using a, fun s h => b s ?_, fun s h => c s ?_, d⟩
      · rw [getD_map_half]; exact (half_pos _).2 h
      · rw [getD_map_half]; exact fun e => h ((half_pos _).1 e)

/-- **The lengths may be, and just the symbols that stand have one.** -/
theorem huffLens_spec (counts : List Nat) (h1 : counts.length ≤ 256) (h2 : 0 < counts.sum) (h3 : counts.sum ≤ 500) :
    (huffLens counts).length = counts.length ∧ (∀ s, counts.getD s 0 = 0 → (huffLens counts).getD s 0 = 0) ∧ (∀ s, counts.getD s 0 ≠ 0 → (huffLens counts).getD s 0 ≠ 0) ∧ huffIs (huffLens counts) = true :=
  lensGo_spec 3 counts h1 h2 (by omega) (Nat.le_refl _)

end Mg
end Go.Proofs.YtloopkmmpfghfaaGreat
