/-
  Plain lists: what chapter 5 (match) computes, and that steps and literals give data back. No Go and no memory here.
-/
namespace Go.Proofs.YtloopkmmpfghfaaGreat
namespace Mg

/-- A step: so many literals, then Len bytes again from Off ahead. -/
structure Seq3 where
  lit : Nat
  off : Nat
  len : Nat
deriving DecidableEq

/-- How long two lists begin alike. -/
def lcp : List Nat → List Nat → Nat
  | x :: xs, y :: ys => if x = y then lcp xs ys + 1 else 0
  | _, _ => 0

theorem lcp_le_right : ∀ xs ys : List Nat, lcp xs ys ≤ ys.length
  | [], _ => by simp [lcp]
  | _ :: _, [] => by simp [lcp]
  | x :: xs, y :: ys => by
    simp only [lcp]
    split
    · have := lcp_le_right xs ys
      simp; omega
    · simp

theorem lcp_le_left : ∀ xs ys : List Nat, lcp xs ys ≤ xs.length
  | [], _ => by simp [lcp]
  | _ :: _, [] => by simp [lcp]
  | x :: xs, y :: ys => by
    simp only [lcp]
    split
    · have := lcp_le_left xs ys
      simp; omega
    · simp

theorem lcp_get : ∀ (xs ys : List Nat) (k : Nat), k < lcp xs ys → xs[k]? = ys[k]?
  | [], _, k, h => by simp [lcp] at h
  | _ :: _, [], k, h => by simp [lcp] at h
  | x :: xs, y :: ys, k, h => by
    simp only [lcp] at h
    split at h
    · rename_i e
      cases k with
      | zero => simp [e]
      | succ k => simpa using lcp_get xs ys k (by omega)
    · omega

def long (all : List Nat) (j i : Nat) : Nat := lcp (all.drop j) (all.drop i)

theorem long_le (all : List Nat) (j i : Nat) : long all j i ≤ all.length - i := by
  have := lcp_le_right (all.drop j) (all.drop i)
  simpa [long] using this

theorem long_get (all : List Nat) (j i k : Nat) (h : k < long all j i) : all[j + k]? = all[i + k]? := by
  have := lcp_get (all.drop j) (all.drop i) k h
  simpa using this

/-- The longest place among j - 1, .., 0. -/
def bestGo (all : List Nat) (i depth : Nat) : Nat → Nat → Nat → Nat → Nat × Nat
  | 0, off, size, _ => (off, size)
  | j + 1, off, size, tried =>
    if long all j i < 4 then bestGo all i depth j off size tried
    else
      let o := if size < long all j i then i - j else off
      let s := if size < long all j i then long all j i else size
      if tried + 1 = depth then (o, s) else bestGo all i depth j o s (tried + 1)

def best (all : List Nat) (i depth : Nat) : Nat × Nat := bestGo all i depth i 0 0 0

/-- What a match is good for. -/
def GoodAt (all : List Nat) (i off size : Nat) : Prop :=
  size = 0 ∨ (4 ≤ size ∧ 1 ≤ off ∧ off ≤ i ∧ size ≤ all.length - i ∧ ∀ k, k < size → all[i - off + k]? = all[i + k]?)

theorem bestGo_good (all : List Nat) (i depth : Nat) : ∀ (j off size tried : Nat), j ≤ i → GoodAt all i off size →
    GoodAt all i (bestGo all i depth j off size tried).1 (bestGo all i depth j off size tried).2
  | 0, off, size, tried, _, h => h
  | j + 1, off, size, tried, hj, h => by
    simp only [bestGo]
    split
    · exact bestGo_good all i depth j off size tried (by omega) h
    · rename_i hl
      have hg : GoodAt all i (if size < long all j i then i - j else off) (if size < long all j i then long all j i else size) := by
        split
        · refine .inr ⟨by omega, by omega, by omega, long_le all j i, fun k hk => ?_⟩
          have := long_get all j i k hk
          rw [show i - (i - j) + k = j + k from by omega]
          exact this
        · exact h
      split
      · exact hg
      · exact bestGo_good all i depth j _ _ _ (by omega) hg

theorem best_good (all : List Nat) (i depth : Nat) : GoodAt all i (best all i depth).1 (best all i depth).2 :=
  bestGo_good all i depth i 0 0 0 (Nat.le_refl _) (.inl rfl)

/-- The steps from a place on; the first number bounds what is left. -/
def parseGo (all : List Nat) (depth : Nat) : Nat → Nat → Nat → List Seq3
  | 0, _, _ => []
  | n + 1, i, lit =>
    if all.length - i < 4 then []
    else if (best all i depth).2 = 0 then parseGo all depth n (i + 1) (lit + 1)
    else ⟨lit, (best all i depth).1, (best all i depth).2⟩ :: parseGo all depth n (i + (best all i depth).2) 0

def parse (pre data : List Nat) (depth : Nat) : List Seq3 := parseGo (pre ++ data) depth data.length pre.length 0

/-- More rounds than bytes left change nothing. -/
theorem parseGo_fuel (all : List Nat) (depth : Nat) : ∀ (n m i lit : Nat), all.length - i ≤ n → all.length - i ≤ m →
    parseGo all depth n i lit = parseGo all depth m i lit
  | 0, 0, _, _, _, _ => rfl
  | 0, m + 1, i, lit, h, _ => by simp only [parseGo]; rw [if_pos (by omega)]
  | n + 1, 0, i, lit, _, h => by simp only [parseGo]; rw [if_pos (by omega)]
  | n + 1, m + 1, i, lit, h1, h2 => by
    simp only [parseGo]
    split
    · rfl
    · split
      · exact parseGo_fuel all depth n m (i + 1) (lit + 1) (by omega) (by omega)
      · rename_i hz
        have h := best_good all i depth
        rcases h with h | h
        · exact absurd h hz
        · rw [parseGo_fuel all depth n m (i + (best all i depth).2) 0 (by omega) (by omega)]

/-- The literals of steps; none: the steps go beyond. -/
def literals : List Nat → List Seq3 → Option (List Nat)
  | data, [] => some data
  | data, x :: l =>
    if x.lit ≤ data.length ∧ x.len ≤ data.length - x.lit then
      (literals (data.drop (x.lit + x.len)) l).map (data.take x.lit ++ ·)
    else none

/-- A byte from so far ahead, so often. -/
def copyN (off : Nat) : Nat → List Nat → List Nat
  | 0, all => all
  | n + 1, all => copyN off n (all ++ [all.getD (all.length - off) 0])

/-- What steps make: 'all' has the prefix, too. -/
def expandGo (p most : Nat) : List Nat → List Nat → List Seq3 → Option (List Nat)
  | all, lits, [] => if (all ++ lits).length - p ≤ most then some (all ++ lits) else none
  | all, lits, x :: l =>
    if x.lit ≤ lits.length ∧ x.lit ≤ most - (all.length - p) ∧ x.len ≤ most - (all.length - p) - x.lit ∧ 1 ≤ x.off ∧ x.off ≤ all.length + x.lit then
      expandGo p most (copyN x.off x.len (all ++ lits.take x.lit)) (lits.drop x.lit) l
    else none

def expand (pre lits : List Nat) (l : List Seq3) (most : Nat) : Option (List Nat) :=
  (expandGo pre.length most pre lits l).map (·.drop pre.length)

theorem copyN_length (off : Nat) : ∀ (n : Nat) (all : List Nat), (copyN off n all).length = all.length + n
  | 0, all => rfl
  | n + 1, all => by simp only [copyN]; rw [copyN_length off n]; simp; omega

/-- Copying gives back what a match stands for. -/
theorem copyN_match (full : List Nat) (off : Nat) : ∀ (n i : Nat), 1 ≤ off → off ≤ i → i + n ≤ full.length →
    (∀ k, k < n → full[i - off + k]? = full[i + k]?) → copyN off n (full.take i) = full.take (i + n)
  | 0, i, _, _, _, _ => rfl
  | n + 1, i, h1, h2, h3, h4 => by
    simp only [copyN]
    have hlen : (full.take i).length = i := by simp; omega
    have hk := h4 0 (by omega)
    simp only [Nat.add_zero] at hk
    have hlt : i < full.length := by omega
    have hx : (full.take i).getD ((full.take i).length - off) 0 = full[i] := by
      rw [hlen]
      have e : (full.take i)[i - off]? = full[i - off]? := by rw [List.getElem?_take, if_pos (by omega)]
      rw [List.getD_eq_getElem?_getD, e, hk, List.getElem?_eq_getElem hlt]
      rfl
    rw [hx, show full.take i ++ [full[i]] = full.take (i + 1) from by rw [List.take_succ_eq_append_getElem hlt]]
    rw [copyN_match full off n (i + 1) h1 (by omega) (by omega) (fun k hk => by
      have := h4 (k + 1) (by omega)
      rw [show i + 1 - off + k = i - off + (k + 1) from by omega, show i + 1 + k = i + (k + 1) from by omega]
      exact this)]
    rw [show i + 1 + n = i + (n + 1) from by omega]

theorem take_append_drop_take (l : List Nat) (i k : Nat) : l.take i ++ (l.drop i).take k = l.take (i + k) := by
  rw [List.take_add]

/-- The parse from place i, lit literals behind: its literals and what they expand to. -/
theorem parse_back (full : List Nat) (depth p most : Nat) (hm : full.length - p ≤ most) : ∀ (n i lit : Nat), p ≤ i - lit → lit ≤ i → i ≤ full.length →
    ∃ lits, literals (full.drop (i - lit)) (parseGo full depth n i lit) = some lits ∧
      expandGo p most (full.take (i - lit)) lits (parseGo full depth n i lit) = some full
  | 0, i, lit, h1, h2, h3 => by
    refine ⟨full.drop (i - lit), rfl, ?_⟩
    simp only [parseGo, expandGo, List.take_append_drop]
    rw [if_pos (by omega)]
  | n + 1, i, lit, h1, h2, h3 => by
    simp only [parseGo]
    split
    · refine ⟨full.drop (i - lit), rfl, ?_⟩
      simp only [expandGo, List.take_append_drop]
      rw [if_pos (by omega)]
    · rename_i h4
      split
      · have := parse_back full depth p most hm n (i + 1) (lit + 1) (by omega) (by omega) (by omega)
        rw [show i + 1 - (lit + 1) = i - lit from by omega] at this
        exact this
      · rename_i hz
        rcases best_good full i depth with h | ⟨g1, g2, g3, g4, g5⟩
        · exact absurd h hz
        · generalize (best full i depth).1 = off at *
          generalize (best full i depth).2 = len at *
          obtain ⟨lits, e1, e2⟩ := parse_back full depth p most hm n (i + len) 0 (by omega) (by omega) (by omega)
          have c1 : lit ≤ (full.drop (i - lit)).length ∧ len ≤ (full.drop (i - lit)).length - lit := by simp; omega
          have e0 : (full.drop (i - lit)).drop (lit + len) = full.drop (i + len - 0) := by rw [List.drop_drop]; congr 1; omega
          have hpre : ((full.drop (i - lit)).take lit).length = lit := by simp; omega
          refine ⟨(full.drop (i - lit)).take lit ++ lits, ?_, ?_⟩
          · simp only [literals]
            rw [if_pos c1, e0, e1]
            rfl
          · simp only [expandGo]
            have hl : (full.take (i - lit)).length = i - lit := by simp; omega
            have t1 : ((full.drop (i - lit)).take lit ++ lits).take lit = (full.drop (i - lit)).take lit := by
              rw [List.take_append_of_le_length (by omega), List.take_of_length_le (by omega)]
            have t2 : ((full.drop (i - lit)).take lit ++ lits).drop lit = lits := by
              rw [List.drop_append_of_le_length (by omega), List.drop_of_length_le (by omega), List.nil_append]
            rw [if_pos ⟨by simp [hpre], by rw [hl]; omega, by rw [hl]; omega, g2, by rw [hl]; omega⟩, t1, t2, take_append_drop_take,
              show i - lit + lit = i from by omega, copyN_match full off len i g2 g3 (by omega) g5]
            exact e2

/-- **Steps and literals give data back.** -/
theorem parse_round (pre data : List Nat) (depth most : Nat) (hm : data.length ≤ most) :
    ∃ lits, literals data (parse pre data depth) = some lits ∧ expand pre lits (parse pre data depth) most = some data := by
  obtain ⟨lits, e1, e2⟩ := parse_back (pre ++ data) depth pre.length most (by simp; omega) data.length pre.length 0 (by omega) (by omega) (by simp)
  refine ⟨lits, ?_, ?_⟩
  · simpa [parse] using e1
  · unfold expand
    have : expandGo pre.length most pre lits (parse pre data depth) = some (pre ++ data) := by simpa [parse] using e2
    rw [this]
    simp

end Mg
end Go.Proofs.YtloopkmmpfghfaaGreat
