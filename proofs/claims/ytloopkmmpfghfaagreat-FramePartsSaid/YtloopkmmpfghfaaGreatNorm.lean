/-
  Plain lists: what chapter 4 gives as shares of a table of 64 states. No Go and no memory here.
-/
import Derived.Test.YtloopkmmpfghfaaGreatFse
namespace Go.Proofs.YtloopkmmpfghfaaGreat
namespace Mg

/-- The greatest of numbers, and where it stands first. -/
def greatest : List Nat → Nat
  | [] => 0
  | x :: l => max x (greatest l)
def argmax (l : List Nat) : Nat := l.findIdx (· == greatest l)

theorem le_greatest : ∀ (l : List Nat), ∀ x ∈ l, x ≤ greatest l
  | [], x, h => by simp at h
  | y :: l, x, h => by
    simp only [greatest]
    rcases List.mem_cons.1 h with rfl | h
    · omega
    · have := le_greatest l x h; omega

theorem greatest_mem : ∀ (l : List Nat), l ≠ [] → greatest l ∈ l
  | [], h => absurd rfl h
  | [x], _ => by simp [greatest]
  | x :: y :: l, _ => by
    have := greatest_mem (y :: l) (by simp)
    rw [greatest]
    rcases Nat.le_total x (greatest (y :: l)) with h | h
    · rw [Nat.max_eq_right h]; exact List.mem_cons_of_mem _ this
    · rw [Nat.max_eq_left h]; exact List.mem_cons_self

theorem argmax_lt (l : List Nat) (h : l ≠ []) : argmax l < l.length := by
  unfold argmax
  rw [List.findIdx_lt_length]
  exact ⟨_, greatest_mem l h, by simp⟩

theorem argmax_get (l : List Nat) (h : l ≠ []) : l[argmax l]? = some (greatest l) := by
  have hlt := argmax_lt l h
  rw [List.getElem?_eq_getElem hlt]
  have := List.findIdx_getElem (p := (· == greatest l)) (xs := l) (w := hlt)
  simp only [beq_iff_eq] at this
  exact congrArg some this

/-- The first shares. -/
def share (all c : Nat) : Nat := if c = 0 then 0 else max 1 (c * 64 / all)

/-- The greatest share grows or shrinks till all shares together are 64. -/
def settle : Nat → List Nat → List Nat
  | 0, l => l
  | n + 1, l =>
    if l.sum = 64 then l
    else if l.sum < 64 then settle n (l.set (argmax l) (greatest l + 1))
    else settle n (l.set (argmax l) (greatest l - 1))

/-- Counts as shares. -/
def fseNorm (counts : List Nat) : List Nat := settle 200 (counts.map (share counts.sum))

theorem sum_set : ∀ (l : List Nat) (i x y : Nat), l[i]? = some x → (l.set i y).sum + x = l.sum + y
  | [], i, x, y, h => by simp at h
  | a :: l, 0, x, y, h => by simp at h; subst h; simp; omega
  | a :: l, i + 1, x, y, h => by
    have := sum_set l i x y (by simpa using h)
    simp; omega

theorem greatest_sum : ∀ (l : List Nat), l.sum ≤ l.length * greatest l
  | [] => by simp
  | x :: l => by
    have h1 := greatest_sum l
    have h2 : l.length * greatest l ≤ l.length * max x (greatest l) := Nat.mul_le_mul_left _ (by omega)
    simp only [List.sum_cons, List.length_cons, greatest, Nat.succ_mul]
    omega

theorem le_sum : ∀ (l : List Nat), ∀ x ∈ l, x ≤ l.sum
  | [], x, h => by simp at h
  | y :: l, x, h => by
    simp only [List.sum_cons]
    rcases List.mem_cons.1 h with rfl | h
    · omega
    · have := le_sum l x h; omega

/-- It ends at 64, and no share comes or goes. -/
theorem settle_spec : ∀ (n : Nat) (l : List Nat), l.length ≤ 32 → 0 < l.sum → (l.sum - 64) + (64 - l.sum) ≤ n →
    (settle n l).sum = 64 ∧ (settle n l).length = l.length ∧ ∀ s, (0 < (settle n l).getD s 0 ↔ 0 < l.getD s 0)
  | 0, l, _, _, h => by
    refine ⟨?_, rfl, fun _ => Iff.rfl⟩
    simp only [settle]; omega
  | n + 1, l, hl, h0, h => by
    simp only [settle]
    have hne : l ≠ [] := by rintro rfl; simp at h0
    have hg := argmax_get l hne
    have hgs := greatest_sum l
    have hpos : 0 < greatest l := by
      rcases Nat.eq_zero_or_pos (greatest l) with e | e
      · rw [e] at hgs; omega
      · exact e
    have key : ∀ y, 0 < y → ∀ s, (0 < (l.set (argmax l) y).getD s 0 ↔ 0 < l.getD s 0) := by
      intro y hy s
      simp only [List.getD_eq_getElem?_getD, List.getElem?_set]
      split
      · rename_i e
        subst e
        rw [if_pos (argmax_lt l hne), hg]
        simp [hy, hpos]
      · exact Iff.rfl
    split
    · rename_i e
      exact ⟨e, rfl, fun _ => Iff.rfl⟩
    · rename_i e
      split
      · rename_i e2
        have hs := sum_set l _ _ (greatest l + 1) hg
        obtain ⟨a, b, c⟩ := settle_spec n (l.set (argmax l) (greatest l + 1)) (by simpa using hl) (by omega) (by omega)
        exact ⟨a, by simpa using b, fun s => (c s).trans (key _ (by omega) s)⟩
      · rename_i e2
        have hs := sum_set l _ _ (greatest l - 1) hg
        have h3 : 2 < greatest l := by
          rcases Nat.lt_or_ge 2 (greatest l) with h | h
          · exact h
          · have : l.length * greatest l ≤ 32 * 2 := Nat.mul_le_mul hl h
            omega
        obtain ⟨a, b, c⟩ := settle_spec n (l.set (argmax l) (greatest l - 1)) (by simpa using hl) (by omega) (by omega)
        exact ⟨a, by simpa using b, fun s => (c s).trans (key _ (by omega) s)⟩

theorem share_sum (all : Nat) (h : 0 < all) : ∀ (l : List Nat), (l.map (share all)).sum * all ≤ l.sum * 64 + l.length * all
  | [] => by simp
  | c :: l => by
    have ih := share_sum all h l
    have hc : share all c * all ≤ c * 64 + all := by
      unfold share
      split
      · omega
      · have := Nat.div_mul_le_self (c * 64) all
        rcases Nat.le_total 1 (c * 64 / all) with e | e
        · rw [Nat.max_eq_right e]; omega
        · rw [Nat.max_eq_left e]; omega
    simp only [List.map_cons, List.sum_cons, List.length_cons, Nat.add_mul, Nat.one_mul]
    omega

theorem share_pos (all c : Nat) : 0 < share all c ↔ 0 < c := by
  unfold share
  split <;> omega

/-- **Shares: 64 in all, as many numbers, each one's is positive just where its count is.** -/
theorem fseNorm_spec (counts : List Nat) (hl : counts.length ≤ 32) (h0 : 0 < counts.sum) :
    (fseNorm counts).sum = 64 ∧ (fseNorm counts).length = counts.length ∧ ∀ s, (0 < (fseNorm counts).getD s 0 ↔ 0 < counts.getD s 0) := by
  have h1 := share_sum counts.sum h0 counts
  have h2 : counts.length * counts.sum ≤ 32 * counts.sum := Nat.mul_le_mul_right _ hl
  have h3 : (counts.map (share counts.sum)).sum ≤ 96 := by
    have : (counts.map (share counts.sum)).sum * counts.sum ≤ 96 * counts.sum := by omega
    exact Nat.le_of_mul_le_mul_right this h0
  have hex : ∃ c ∈ counts, 0 < c := by
    rcases Classical.em (∃ c ∈ counts, 0 < c) with h | h
    · exact h
    · have : ∀ l : List Nat, (∀ x ∈ l, ¬ 0 < x) → l.sum = 0 := by
        intro l
        induction l with
        | nil => intro _; rfl
        | cons x l ih =>
          intro hx
          have h1 := hx x List.mem_cons_self
          have h2 := ih fun y hy => hx y (List.mem_cons_of_mem _ hy)
          simp only [List.sum_cons]; omega
      have := this counts fun x hx hp => h ⟨x, hx, hp⟩
      omega
  obtain ⟨c, hc, hcp⟩ := hex
  have h4 : 0 < (counts.map (share counts.sum)).sum := by
    have := le_sum (counts.map (share counts.sum)) (share counts.sum c) (List.mem_map_of_mem hc)
    have := (share_pos counts.sum c).2 hcp
    omega
  obtain ⟨a, b, d⟩ := settle_spec 200 (counts.map (share counts.sum)) (by simpa using hl) h4 (by omega)
  refine ⟨a, b.trans (by simp), fun s => (d s).trans ?_⟩
  simp only [List.getD_eq_getElem?_getD, List.getElem?_map]
  cases counts[s]? with
  | none => simp
  | some x => simpa using share_pos counts.sum x

theorem fseNorm_is (counts : List Nat) (hl : counts.length ≤ 32) (h0 : 0 < counts.sum) : fseIs (fseNorm counts) = true := by
  obtain ⟨a, b, _⟩ := fseNorm_spec counts hl h0
  simp only [fseIs, Bool.and_eq_true, decide_eq_true_eq, List.all_eq_true]
  refine ⟨⟨by omega, fun x hx => ?_⟩, a⟩
  have := le_sum _ x hx
  omega

end Mg
end Go.Proofs.YtloopkmmpfghfaaGreat
