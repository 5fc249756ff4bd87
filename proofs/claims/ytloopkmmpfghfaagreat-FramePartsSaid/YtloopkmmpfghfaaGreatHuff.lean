/-
  Plain lists: what chapter 3 (huff) computes: codes by lengths, bytes as codes and back. No Go and no memory here.
-/
import Derived.Test.YtloopkmmpfghfaaGreatBits
namespace Go.Proofs.YtloopkmmpfghfaaGreat
namespace Mg

/-- May lengths be? -/
def kraft (lens : List Nat) : Nat := (lens.map fun n => if n = 0 then 0 else 2 ^ (11 - n)).sum
def huffIs (lens : List Nat) : Bool :=
  decide (lens.length ≤ 256) && lens.all (fun n => decide (n ≤ 11)) && (decide (kraft lens = 2048) || lens.filter (fun n => decide (n ≠ 0)) == [1])

/-- The first code of a length; a symbol's code. -/
def startOf (lens : List Nat) : Nat → Nat
  | 0 => 0
  | n + 1 => 2 * (startOf lens n + if n = 0 then 0 else lens.count n)
def codeOf (lens : List Nat) (s : Nat) : Nat := startOf lens (lens.getD s 0) + (lens.take s).count (lens.getD s 0)

/-- The part of the sum that lengths up to n have. -/
theorem start_kraft (lens : List Nat) : ∀ n, 1 ≤ n → n ≤ 11 → (startOf lens n + lens.count n) * 2 ^ (11 - n) = (lens.map fun k => if k = 0 ∨ n < k then 0 else 2 ^ (11 - k)).sum
  | 0, h, _ => by omega
  | 1, _, _ => by
    simp only [startOf, if_true, Nat.add_zero, Nat.mul_zero, Nat.zero_add]
    induction lens with
    | nil => simp
    | cons k l ih =>
      simp only [List.map_cons, List.sum_cons, List.count_cons, Nat.add_mul]
      rw [← ih]
      by_cases e : k = 1
      · subst e
        rw [if_neg (show ¬ (1 = 0 ∨ 1 < 1) by omega), show ((1 : Nat) == 1) = true from rfl, if_pos rfl, Nat.one_mul, Nat.add_comm]
      · have : k = 0 ∨ 1 < k := by omega
        rw [if_pos this]; simp [e]
  | n + 2, _, h => by
    have ih := start_kraft lens (n + 1) (by omega) (by omega)
    have e : 2 ^ (11 - (n + 1)) = 2 * 2 ^ (11 - (n + 2)) := by rw [show 11 - (n + 1) = (11 - (n + 2)) + 1 from by omega, Nat.pow_succ]; omega
    have split : ∀ l : List Nat, (l.map fun k => if k = 0 ∨ n + 2 < k then 0 else 2 ^ (11 - k)).sum = (l.map fun k => if k = 0 ∨ n + 1 < k then 0 else 2 ^ (11 - k)).sum + l.count (n + 2) * 2 ^ (11 - (n + 2)) := by
      intro l
      induction l with
      | nil => simp
      | cons k l ih =>
        simp only [List.map_cons, List.sum_cons, List.count_cons, ih, Nat.add_mul]
        by_cases e : k = n + 2
        · subst e
          rw [if_neg (by omega), if_pos (by omega)]; simp; omega
        · by_cases h0 : k = 0 ∨ n + 1 < k
          · rw [if_pos (by omega), if_pos h0]; simp [e]
          · rw [if_neg (by omega), if_neg h0]; simp [e]; omega
    rw [split, ← ih, startOf, if_neg (by omega), e, Nat.add_mul]
    rw [show 2 * (startOf lens (n + 1) + lens.count (n + 1)) * 2 ^ (11 - (n + 2)) = (startOf lens (n + 1) + lens.count (n + 1)) * (2 * 2 ^ (11 - (n + 2))) from by
      rw [Nat.mul_comm 2, Nat.mul_assoc]]

theorem part_le (lens : List Nat) (n : Nat) : (lens.map fun k => if k = 0 ∨ n < k then 0 else 2 ^ (11 - k)).sum ≤ kraft lens := by
  unfold kraft
  induction lens with
  | nil => simp
  | cons k l ih =>
    simp only [List.map_cons, List.sum_cons]
    have : (if k = 0 ∨ n < k then 0 else 2 ^ (11 - k)) ≤ (if k = 0 then 0 else 2 ^ (11 - k)) := by
      by_cases h0 : k = 0
      · simp [h0]
      · rw [if_neg h0]
        split
        · exact Nat.zero_le _
        · exact Nat.le_refl _
    omega

theorem kraft_filter (lens : List Nat) : kraft lens = kraft (lens.filter fun n => decide (n ≠ 0)) := by
  unfold kraft
  induction lens with
  | nil => rfl
  | cons k l ih =>
    by_cases h : k = 0
    · subst h; simp at ih ⊢; exact ih
    · simp [h] at ih ⊢; exact ih

theorem kraft_le {lens : List Nat} (h : huffIs lens = true) : kraft lens ≤ 2048 := by
  simp only [huffIs, Bool.and_eq_true, Bool.or_eq_true, decide_eq_true_eq, beq_iff_eq] at h
  rcases h.2 with h | h
  · omega
  · rw [kraft_filter, h]; decide

theorem len_le {lens : List Nat} (h : huffIs lens = true) (s : Nat) : lens.getD s 0 ≤ 11 := by
  simp only [huffIs, Bool.and_eq_true, List.all_eq_true, decide_eq_true_eq] at h
  rw [List.getD_eq_getElem?_getD]
  cases hg : lens[s]? with
  | none => simp
  | some x => exact h.1.2 x (List.mem_of_getElem? hg)

/-- No code is beyond its length. -/
theorem start_le {lens : List Nat} (h : huffIs lens = true) (n : Nat) (h1 : 1 ≤ n) (h2 : n ≤ 11) : startOf lens n + lens.count n ≤ 2 ^ n := by
  have a := start_kraft lens n h1 h2
  have b := part_le lens n
  have c := kraft_le h
  have e : 2 ^ n * 2 ^ (11 - n) = 2048 := by rw [← Nat.pow_add, show n + (11 - n) = 11 from by omega]
  have : (startOf lens n + lens.count n) * 2 ^ (11 - n) ≤ 2 ^ n * 2 ^ (11 - n) := by omega
  exact Nat.le_of_mul_le_mul_right this (Nat.two_pow_pos _)

theorem getD_lt {l : List Nat} {s : Nat} (h : l.getD s 0 ≠ 0) : s < l.length := by
  rcases Nat.lt_or_ge s l.length with h' | h'
  · exact h'
  · rw [List.getD_eq_getElem?_getD, List.getElem?_eq_none h'] at h; simp at h

/-- How many of a kind stand ahead: fewer than in all; fewer for the first of two. -/
theorem count_take_lt (l : List Nat) (s : Nat) (h : s < l.length) : (l.take s).count (l.getD s 0) < l.count (l.getD s 0) := by
  have e : l = l.take s ++ l.drop s := (List.take_append_drop s l).symm
  have hd : l.drop s = l.getD s 0 :: l.drop (s + 1) := by
    rw [List.drop_eq_getElem_cons h, List.getD_eq_getElem?_getD, List.getElem?_eq_getElem h]; rfl
  have : l.count (l.getD s 0) = (l.take s).count (l.getD s 0) + (l.drop s).count (l.getD s 0) := by
    rw [← List.count_append, List.take_append_drop]
  rw [this, hd]
  simp

theorem count_take_mono (l : List Nat) (x : Nat) {i j : Nat} (h : i ≤ j) : (l.take i).count x ≤ (l.take j).count x := by
  have : l.take i = (l.take j).take i := by rw [List.take_take, Nat.min_eq_left h]
  rw [this]
  exact (List.take_sublist _ _).count_le _

theorem count_take_strict (l : List Nat) {s t : Nat} (h : s < t) (ht : s < l.length) : (l.take s).count (l.getD s 0) < (l.take t).count (l.getD s 0) := by
  have h1 : (l.take (s + 1)).count (l.getD s 0) = (l.take s).count (l.getD s 0) + 1 := by
    rw [List.take_succ_eq_append_getElem ht, List.count_append, List.getD_eq_getElem?_getD, List.getElem?_eq_getElem ht]
    simp
  have := count_take_mono l (l.getD s 0) (show s + 1 ≤ t by omega)
  omega

theorem code_lt {lens : List Nat} (h : huffIs lens = true) (s : Nat) (hs : lens.getD s 0 ≠ 0) : codeOf lens s < 2 ^ lens.getD s 0 := by
  have a := start_le h (lens.getD s 0) (by omega) (len_le h s)
  have b := count_take_lt lens s (getD_lt hs)
  unfold codeOf
  omega

theorem start_grow (lens : List Nat) (n : Nat) (hn : 1 ≤ n) : ∀ k, 2 ^ k * (startOf lens n + lens.count n) ≤ startOf lens (n + k) + lens.count (n + k)
  | 0 => by simp
  | k + 1 => by
    have ih := start_grow lens n hn k
    rw [show n + (k + 1) = (n + k) + 1 from by omega, startOf, if_neg (by omega), Nat.pow_succ, Nat.mul_comm (2 ^ k) 2, Nat.mul_assoc]
    omega

/-- **No code begins another one; no two are one.** -/
theorem code_apart {lens : List Nat} (s t k : Nat) (hs : lens.getD s 0 ≠ 0) (ht : lens.getD t 0 = lens.getD s 0 + k) (he : codeOf lens t / 2 ^ k = codeOf lens s) : s = t := by
  have bs := count_take_lt lens s (getD_lt hs)
  cases k with
  | zero =>
    simp only [Nat.pow_zero, Nat.div_one, Nat.add_zero] at he ht
    unfold codeOf at he
    rw [ht] at he
    have hc : (lens.take t).count (lens.getD s 0) = (lens.take s).count (lens.getD s 0) := by omega
    rcases Nat.lt_trichotomy s t with h | h | h
    · have := count_take_strict lens h (getD_lt hs); omega
    · exact h
    · have := count_take_strict lens h (getD_lt (by omega)); rw [ht] at this; omega
  | succ k =>
    exfalso
    have g := start_grow lens (lens.getD s 0) (by omega) k
    have e : startOf lens (lens.getD t 0) = 2 * (startOf lens (lens.getD s 0 + k) + lens.count (lens.getD s 0 + k)) := by
      rw [ht, ← Nat.add_assoc, startOf, if_neg (by omega)]
    have hge : 2 ^ (k + 1) * (startOf lens (lens.getD s 0) + lens.count (lens.getD s 0)) ≤ codeOf lens t := by
      unfold codeOf
      rw [e, Nat.pow_succ, Nat.mul_comm (2 ^ k) 2, Nat.mul_assoc]
      omega
    have hq : startOf lens (lens.getD s 0) + lens.count (lens.getD s 0) ≤ codeOf lens t / 2 ^ (k + 1) :=
      (Nat.le_div_iff_mul_le (Nat.two_pow_pos _)).2 (by rw [Nat.mul_comm]; exact hge)
    rw [he] at hq
    unfold codeOf at hq
    omega

/-- Bytes as codes, from the last byte on. -/
def encBits (lens : List Nat) : List Nat → Option (List Bool)
  | [] => some []
  | c :: b =>
    match encBits lens b with
    | none => none
    | some bs => if lens.getD c 0 = 0 then none else some (bs ++ bitsOf (lens.getD c 0) (codeOf lens c))

def huffEnc (lens b : List Nat) : Option (List Nat) := if huffIs lens then (encBits lens b).map bytesOf else none

/-- The symbol of a code of a length. -/
def found (lens : List Nat) (code n : Nat) : Option Nat := (List.range lens.length).find? fun s => lens.getD s 0 == n && codeOf lens s == code

/-- A symbol, bit by bit. -/
def symGo (lens : List Nat) : Nat → Nat → Nat → List Bool → Option (Nat × List Bool)
  | 0, _, _, _ => none
  | f + 1, n, code, bs =>
    match take bs 1 with
    | none => none
    | some (v, bs') =>
      match found lens (code * 2 + v) n with
      | some s => some (s, bs')
      | none => symGo lens f (n + 1) (code * 2 + v) bs'

def symsGo (lens : List Nat) : Nat → List Bool → Option (List Nat × List Bool)
  | 0, bs => some ([], bs)
  | n + 1, bs =>
    match symGo lens 11 1 0 bs with
    | none => none
    | some (s, bs') => (symsGo lens n bs').map fun r => (s :: r.1, r.2)

def huffDec (lens b : List Nat) (n : Nat) : Option (List Nat) :=
  match bitsIn b with
  | none => none
  | some bs =>
    if huffIs lens then
      match symsGo lens n bs with
      | none => none
      | some (l, bs') => if bs' = [] then some l else none
    else none

theorem found_spec {lens : List Nat} {code n s : Nat} (h : found lens code n = some s) : s < lens.length ∧ lens.getD s 0 = n ∧ codeOf lens s = code := by
  unfold found at h
  have h1 := List.find?_some h
  have h2 := List.mem_of_find?_eq_some h
  simp only [Bool.and_eq_true, beq_iff_eq] at h1
  exact ⟨by simpa using h2, h1.1, h1.2⟩

theorem found_none {lens : List Nat} {code n : Nat} (h : found lens code n = none) : ∀ s, s < lens.length → ¬ (lens.getD s 0 = n ∧ codeOf lens s = code) := by
  intro s hs ⟨a, b⟩
  unfold found at h
  rw [List.find?_eq_none] at h
  have := h s (by simpa using hs)
  rw [a, b] at this
  simp at this

theorem take_one (l : List Bool) (b : Bool) : take (l ++ [b]) 1 = some (b.toNat, l) := by
  have := take_put l 1 b.toNat (by omega) (by cases b <;> simp)
  have e : bitsOf 1 b.toNat = [b] := by cases b <;> rfl
  rw [e] at this
  exact this

/-- A symbol's code is read as that symbol. -/
theorem symGo_spec {lens : List Nat} (s : Nat) (hs : lens.getD s 0 ≠ 0) (more : List Bool) : ∀ (k n f : Nat), 1 ≤ n → lens.getD s 0 = n + k → k ≤ f →
    symGo lens (f + 1) n (codeOf lens s / 2 ^ (k + 1)) (more ++ bitsOf (k + 1) (codeOf lens s)) = some (s, more)
  | k, n, f, h1n, hn, hf => by
    have hbit : bitsOf (k + 1) (codeOf lens s) = bitsOf k (codeOf lens s) ++ [codeOf lens s / 2 ^ k % 2 == 1] := bitsOf_succ _ _
    have hv : (codeOf lens s / 2 ^ k % 2 == 1).toNat = codeOf lens s / 2 ^ k % 2 := by
      rcases Nat.mod_two_eq_zero_or_one (codeOf lens s / 2 ^ k) with e | e <;> rw [e] <;> rfl
    have hc : codeOf lens s / 2 ^ (k + 1) * 2 + codeOf lens s / 2 ^ k % 2 = codeOf lens s / 2 ^ k := by
      rw [Nat.pow_succ, ← Nat.div_div_eq_div_mul]
      have := Nat.div_add_mod (codeOf lens s / 2 ^ k) 2
      omega
    rw [hbit, ← List.append_assoc]
    simp only [symGo, take_one, hv, hc]
    cases hfd : found lens (codeOf lens s / 2 ^ k) n with
    | some t =>
      obtain ⟨h1, h2, h3⟩ := found_spec hfd
      simp only
      cases k with
      | zero =>
        have : t = s := code_apart (lens := lens) t s 0 (by omega) (by omega) (by simpa using h3.symm)
        subst this
        simp [bitsOf]
      | succ k =>
        have : t = s := code_apart (lens := lens) t s (k + 1) (by omega) (by omega) h3.symm
        subst this
        omega
    | none =>
      simp only
      cases k with
      | zero =>
        exact absurd ⟨hn, by simp⟩ (found_none hfd s (getD_lt hs))
      | succ k =>
        cases f with
        | zero => omega
        | succ f => exact symGo_spec s hs more k (n + 1) f (by omega) (by omega) (by omega)
termination_by k => k

theorem symGo_code {lens : List Nat} (h : huffIs lens = true) (s : Nat) (hs : lens.getD s 0 ≠ 0) (more : List Bool) :
    symGo lens 11 1 0 (more ++ bitsOf (lens.getD s 0) (codeOf lens s)) = some (s, more) := by
  have hl := len_le h s
  have hc := code_lt h s hs
  have := symGo_spec s hs more (lens.getD s 0 - 1) 1 10 (by omega) (by omega) (by omega)
  rw [show lens.getD s 0 - 1 + 1 = lens.getD s 0 from by omega, Nat.div_eq_of_lt hc] at this
  exact this

theorem encBits_some (lens : List Nat) : ∀ b : List Nat, (∀ c ∈ b, lens.getD c 0 ≠ 0) → ∃ bs, encBits lens b = some bs
  | [], _ => ⟨[], rfl⟩
  | c :: b, h => by
    obtain ⟨bs, e⟩ := encBits_some lens b fun c hc => h c (List.mem_cons_of_mem _ hc)
    refine ⟨bs ++ bitsOf (lens.getD c 0) (codeOf lens c), ?_⟩
    simp only [encBits, e]
    rw [if_neg (h c List.mem_cons_self)]

theorem symsGo_enc {lens : List Nat} (h : huffIs lens = true) : ∀ (b : List Nat) (bs : List Bool), encBits lens b = some bs →
    ∀ more, symsGo lens b.length (more ++ bs) = some (b, more)
  | [], bs, e, more => by
    simp only [encBits, Option.some.injEq] at e
    subst e
    simp [symsGo]
  | c :: b, bs, e, more => by
    simp only [encBits] at e
    cases h1 : encBits lens b with
    | none => rw [h1] at e; simp at e
    | some bs' =>
      rw [h1] at e
      simp only at e
      split at e
      · simp at e
      · rename_i hc
        simp only [Option.some.injEq] at e
        subst e
        simp only [List.length_cons, symsGo]
        rw [← List.append_assoc, symGo_code h c hc (more ++ bs')]
        simp only
        rw [symsGo_enc h b bs' h1 more]
        rfl

/-- **Bytes that have codes come back out of these.** -/
theorem huff_round (lens b : List Nat) (h : huffIs lens = true) (hb : ∀ c ∈ b, lens.getD c 0 ≠ 0) :
    ∃ e, huffEnc lens b = some e ∧ huffDec lens e b.length = some b := by
  obtain ⟨bs, he⟩ := encBits_some lens b hb
  refine ⟨bytesOf bs, by simp [huffEnc, h, he], ?_⟩
  unfold huffDec
  rw [bitsIn_bytesOf]
  simp only
  have := symsGo_enc h b bs he []
  simp only [List.nil_append] at this
  rw [if_pos h, this]
  simp

end Mg
end Go.Proofs.YtloopkmmpfghfaaGreat
