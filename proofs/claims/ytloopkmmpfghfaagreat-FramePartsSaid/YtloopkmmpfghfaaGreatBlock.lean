/-
  Plain lists: what chapter 7 (block) computes: a few bytes, pressed, and back. No Go and no memory here.
-/
import Derived.Test.YtloopkmmpfghfaaGreatTree
import Derived.Test.YtloopkmmpfghfaaGreatSeqs
namespace Go.Proofs.YtloopkmmpfghfaaGreat
namespace Mg

/-- Are there bytes, and all one? -/
def isRun (b : List Nat) : Bool := decide (b ≠ []) && b.all (fun c => c == b.headD 0)

def counts256 (b : List Nat) : List Nat := (List.range 256).map fun c => b.count c
/-- Lengths in bytes, two each; and back. -/
def nibbles (lens : List Nat) : List Nat := (List.range 128).map fun i => lens.getD (2 * i) 0 + 16 * lens.getD (2 * i + 1) 0
def unnib : List Nat → List Nat
  | [] => []
  | c :: l => c % 16 :: c / 16 :: unnib l

def coded (b : List Nat) : List Nat :=
  nibbles (huffLens (counts256 b)) ++ sized ((huffEnc (huffLens (counts256 b)) b).getD [])

/-- Bytes as a row. -/
def rowB (b : List Nat) : List Nat :=
  if isRun b then 1 :: (two b.length ++ [b.headD 0])
  else if (coded b).length < b.length then 2 :: (two b.length ++ coded b)
  else 0 :: (two b.length ++ b)

/-- Bytes out of codes, with the lengths ahead; what is behind them. -/
def uncoded (n : Nat) (b : List Nat) : Option (List Nat × List Nat) :=
  match cutN 128 b with
  | none => none
  | some (ls, b) =>
    match cut2 b with
    | none => none
    | some (m, b) =>
      match cutN m b with
      | none => none
      | some (e, b) => (huffDec (unnib ls) e n).map fun d => (d, b)

/-- A byte that stands so often. -/
def runP (n : Nat) (b : List Nat) : Option (List Nat × List Nat) :=
  match b with
  | [] => none
  | c :: b => if n = 0 then none else some (List.replicate n c, b)

/-- The row that bytes begin with; what is behind it. -/
def unrow (b : List Nat) : Option (List Nat × List Nat) :=
  match b with
  | [] => none
  | kind :: b =>
    match cut2 b with
    | none => none
    | some (n, b) =>
      if 500 < n then none
      else if kind = 0 then cutN n b
      else if kind = 1 then runP n b
      else if kind = 2 then uncoded n b
      else none

def lits (pre data : List Nat) (depth : Nat) : List Nat := (literals data (parse pre data depth)).getD []
def packed (pre data : List Nat) (depth : Nat) (h : H3) : List Nat := rowB (lits pre data depth) ++ ((pack h (parse pre data depth)).map (·.1)).getD []

/-- Data, pressed, and the last three offsets then. -/
def blockEnc (pre data : List Nat) (depth : Nat) (h : H3) : List Nat × H3 :=
  if isRun data then (two data.length ++ [1, data.headD 0], h)
  else if 2 + (packed pre data depth h).length < data.length then
    (two data.length ++ (2 :: (two (packed pre data depth h).length ++ packed pre data depth h)), ((pack h (parse pre data depth)).map (·.2)).getD h)
  else (two data.length ++ (0 :: data), h)

/-- What was pressed: data, the last three offsets, what is behind. -/
def unpacked (pre : List Nat) (n : Nat) (h : H3) (b : List Nat) : Option (List Nat × H3 × List Nat) :=
  match cut2 b with
  | none => none
  | some (m, b) =>
    match cutN m b with
    | none => none
    | some (p, b) =>
      match unrow p with
      | none => none
      | some (lit, q) =>
        match unpack h q with
        | none => none
        | some (l, h', size) =>
          if size = q.length then
            match expand pre lit l n with
            | none => none
            | some data => if data.length = n then some (data, h', b) else none
          else none

/-- The data that bytes begin with, the last three offsets then, what is behind. -/
def blockDec (pre : List Nat) (h : H3) (b : List Nat) : Option (List Nat × H3 × List Nat) :=
  match cut2 b with
  | none => none
  | some (n, b) =>
    if 500 < n then none
    else
      match b with
      | [] => none
      | kind :: b =>
        if kind = 0 then (cutN n b).map fun r => (r.1, h, r.2)
        else if kind = 1 then (runP n b).map fun r => (r.1, h, r.2)
        else if kind = 2 then unpacked pre n h b
        else none

theorem isRun_eq {b : List Nat} (h : isRun b = true) : b ≠ [] ∧ b = List.replicate b.length (b.headD 0) := by
  simp only [isRun, Bool.and_eq_true, decide_eq_true_eq, List.all_eq_true, beq_iff_eq] at h
  exact ⟨h.1, List.eq_replicate_iff.2 ⟨rfl, h.2⟩⟩

theorem cutN_take (n : Nat) (l m : List Nat) (h : l.length = n) : cutN n (l ++ m) = some (l, m) := by
  subst h; exact cutN_append l m

theorem nibbles_length (l : List Nat) : (nibbles l).length = 128 := by simp [nibbles]

theorem unnib_map (f : Nat → Nat) (g : Nat → Nat) (hf : ∀ i, f i < 16) : ∀ n : List Nat, unnib (n.map fun i => f i + 16 * g i) = n.flatMap fun i => [f i, g i]
  | [] => rfl
  | i :: n => by
    have := hf i
    simp only [List.map_cons, unnib, List.flatMap_cons, List.cons_append, List.nil_append]
    rw [unnib_map f g hf n]
    congr 1
    · omega
    · congr 1; omega

theorem pairs_range (l : List Nat) : ∀ n, 2 * n ≤ l.length → ((List.range n).flatMap fun i => [l.getD (2 * i) 0, l.getD (2 * i + 1) 0]) = l.take (2 * n)
  | 0, _ => by simp
  | n + 1, h => by
    have ih := pairs_range l n (by omega)
    have g : ∀ k, k < l.length → l.getD k 0 = l[k]! := by
      intro k hk
      rw [List.getD_eq_getElem?_getD, List.getElem?_eq_getElem hk, getElem!_pos l k hk]; rfl
    rw [List.range_succ, List.flatMap_append, ih]
    simp only [List.flatMap_cons, List.flatMap_nil, List.append_nil]
    rw [show 2 * (n + 1) = 2 * n + 1 + 1 from by omega, List.take_succ_eq_append_getElem (show 2 * n + 1 < l.length by omega), List.take_succ_eq_append_getElem (show 2 * n < l.length by omega), List.append_assoc]
    congr 1
    rw [g _ (by omega), g _ (by omega), getElem!_pos l (2 * n) (by omega), getElem!_pos l (2 * n + 1) (by omega)]
    rfl

theorem unnib_nibbles (l : List Nat) (hl : l.length = 256) (hs : ∀ s, l.getD s 0 ≤ 11) : unnib (nibbles l) = l := by
  unfold nibbles
  rw [unnib_map (fun i => l.getD (2 * i) 0) (fun i => l.getD (2 * i + 1) 0) fun i => by have := hs (2 * i); omega]
  rw [pairs_range l 128 (by omega), List.take_of_length_le (by omega)]

theorem count_sum (m : Nat) (b : List Nat) (h : ∀ c ∈ b, c < m) : ((List.range m).map fun c => b.count c).sum = b.length := by
  induction b with
  | nil => 
    have : ∀ n, ((List.range n).map fun c => ([] : List Nat).count c).sum = 0 := by
      intro n
      induction n with
      | zero => rfl
      | succ n ih => rw [List.range_succ, List.map_append, List.sum_append, ih]; simp
    rw [this]; rfl
  | cons x l ih =>
    have ih := ih fun y hy => h y (List.mem_cons_of_mem _ hy)
    have key : ∀ n, x < n → ((List.range n).map fun d => (x :: l).count d).sum = ((List.range n).map fun d => l.count d).sum + 1 := by
      intro n
      induction n with
      | zero => intro h; omega
      | succ n ihm =>
        intro h
        simp only [List.range_succ, List.map_append, List.map_cons, List.map_nil, List.sum_append, List.sum_cons, List.sum_nil, List.count_cons]
        by_cases e : x = n
        · subst e
          have : ((List.range x).map fun d => l.count d + if (x == d) = true then 1 else 0) = (List.range x).map fun d => l.count d := by
            apply List.map_congr_left
            intro d hd
            have := List.mem_range.1 hd
            rw [if_neg (by simp; omega)]; rfl
          simp only [this]
          simp; omega
        · have := ihm (by omega)
          simp only [List.count_cons] at this
          rw [this]
          simp [e]; omega
    rw [key m (h x List.mem_cons_self), ih]
    simp

theorem counts256_get (b : List Nat) (c : Nat) (h : c < 256) : (counts256 b).getD c 0 = b.count c := by
  simp [counts256, List.getD_eq_getElem?_getD, h]

theorem huffDec_length {lens b d : List Nat} {n : Nat} (h : huffDec lens b n = some d) : d.length = n := by
  have key : ∀ (n : Nat) (bs : List Bool) (l : List Nat) (r : List Bool), symsGo lens n bs = some (l, r) → l.length = n := by
    intro n
    induction n with
    | zero => intro bs l r h; simp only [symsGo, Option.some.injEq, Prod.mk.injEq] at h; rw [← h.1]; rfl
    | succ n ih =>
      intro bs l r h
      simp only [symsGo] at h
      cases h1 : symGo lens 11 1 0 bs with
      | none => rw [h1] at h; simp at h
      | some p =>
        obtain ⟨s, bs'⟩ := p
        rw [h1] at h
        simp only [Option.map_eq_some_iff] at h
        obtain ⟨⟨l', r'⟩, h2, h3⟩ := h
        simp only [Prod.mk.injEq] at h3
        rw [← h3.1, List.length_cons, ih _ _ _ h2]
  unfold huffDec at h
  cases h1 : bitsIn b with
  | none => rw [h1] at h; simp at h
  | some bs =>
    rw [h1] at h
    simp only at h
    split at h
    · cases h2 : symsGo lens n bs with
      | none => rw [h2] at h; simp at h
      | some p =>
        obtain ⟨l, r⟩ := p
        rw [h2] at h
        simp only at h
        split at h
        · simp only [Option.some.injEq] at h
          rw [← h]; exact key _ _ _ _ h2
        · simp at h
    · simp at h

/-- **A row comes back.** -/
theorem row_back (b more : List Nat) (hl : b.length ≤ 500) (hb : ∀ c ∈ b, c < 256) : unrow (rowB b ++ more) = some (b, more) := by
  have hlen : b.length < 65536 := by omega
  unfold rowB
  split
  · rename_i hr
    obtain ⟨hne, he⟩ := isRun_eq hr
    have h0 : b.length ≠ 0 := fun e => hne (List.eq_nil_of_length_eq_zero e)
    simp only [List.cons_append, List.append_assoc, unrow]
    rw [cut2_two _ _ hlen]
    simp only [List.nil_append]
    rw [if_neg (by omega), if_neg (by omega), if_pos trivial]
    simp only [runP]
    rw [if_neg h0, ← he]
  · split
    · rename_i _ hc
      have hne : b ≠ [] := by rintro rfl; simp at hc
      have hsum : (counts256 b).sum = b.length := count_sum 256 b hb
      have hl256 : (counts256 b).length = 256 := by simp [counts256]
      have hpos : 0 < b.length := List.length_pos_iff.2 hne
      obtain ⟨a1, _, a3, a4⟩ := huffLens_spec (counts256 b) (by omega) (by omega) (by omega)
      obtain ⟨e, e1, e2⟩ := huff_round (huffLens (counts256 b)) b a4 fun c hc' => a3 c (by
        rw [counts256_get _ _ (hb c hc')]
        have := List.count_pos_iff.2 hc'
        omega)
      simp only [List.cons_append, List.append_assoc, unrow]
      rw [cut2_two _ _ hlen]
      simp only
      rw [if_neg (by omega), if_neg (by omega), if_neg (by omega), if_pos trivial]
      have hcl : (coded b).length = 130 + e.length := by
        unfold coded
        rw [e1]
        simp [nibbles_length, sized, two]; omega
      unfold uncoded coded
      rw [e1]
      simp only [Option.getD_some, List.append_assoc]
      rw [cutN_take 128 _ _ (nibbles_length _)]
      simp only [sized, List.append_assoc]
      rw [cut2_two _ _ (by omega)]
      simp only
      rw [cutN_append]
      simp only
      rw [unnib_nibbles _ (by rw [a1]; exact hl256) (len_le a4), e2]
      rfl
    · simp only [List.cons_append, List.append_assoc, unrow]
      rw [cut2_two _ _ hlen]
      simp only
      rw [if_neg (by omega), if_pos trivial, cutN_append]

theorem parseGo_may (all : List Nat) (depth : Nat) (ha : all.length ≤ 2500) : ∀ (n i lit : Nat), i - lit ≥ all.length - 500 → lit ≤ i → i ≤ all.length →
    (parseGo all depth n i lit).all may = true ∧ 4 * (parseGo all depth n i lit).length ≤ all.length - i
  | 0, _, _, _, _, _ => by simp [parseGo]
  | n + 1, i, lit, h1, h2, h3 => by
    simp only [parseGo]
    split
    · simp
    · split
      · have := parseGo_may all depth ha n (i + 1) (lit + 1) (by omega) (by omega) (by omega)
        exact ⟨this.1, by omega⟩
      · rename_i hz
        rcases best_good all i depth with h | ⟨g1, g2, g3, g4, g5⟩
        · exact absurd h hz
        · obtain ⟨a, b⟩ := parseGo_may all depth ha n (i + (best all i depth).2) 0 (by omega) (by omega) (by omega)
          refine ⟨?_, by simp only [List.length_cons]; omega⟩
          simp only [List.all_cons, Bool.and_eq_true]
          refine ⟨?_, a⟩
          simp only [may, Bool.and_eq_true, decide_eq_true_eq]
          omega

theorem parse_pack (pre data : List Nat) (depth : Nat) (h : H3) (hp : pre.length ≤ 2000) (hd : data.length ≤ 500) : ∃ p h', pack h (parse pre data depth) = some (p, h') := by
  obtain ⟨a, b⟩ := parseGo_may (pre ++ data) depth (by simp; omega) data.length pre.length 0 (by simp; omega) (by omega) (by simp)
  unfold pack
  rw [if_pos ⟨by unfold parse; simp at b; omega, a⟩]
  split
  · exact ⟨_, _, rfl⟩
  · exact ⟨_, _, rfl⟩

theorem literals_sub : ∀ (l : List Seq3) (data out : List Nat), literals data l = some out → out.length ≤ data.length ∧ ∀ c ∈ out, c ∈ data
  | [], data, out, h => by simp only [literals, Option.some.injEq] at h; subst h; exact ⟨Nat.le_refl _, fun _ h => h⟩
  | x :: l, data, out, h => by
    simp only [literals] at h
    split at h
    · rename_i hc
      simp only [Option.map_eq_some_iff] at h
      obtain ⟨o, h1, rfl⟩ := h
      obtain ⟨a, b⟩ := literals_sub l _ o h1
      refine ⟨by simp at a ⊢; omega, fun c hc' => ?_⟩
      rcases List.mem_append.1 hc' with hc' | hc'
      · exact List.mem_of_mem_take hc'
      · exact List.mem_of_mem_drop (b c hc')
    · simp at h

/-- **Data come back, with the same last three offsets, whatever stands behind them.** -/
theorem block_round (pre data : List Nat) (depth : Nat) (h : H3) (more : List Nat) (hp : pre.length ≤ 2000) (hd : data.length ≤ 500) (hb : ∀ c ∈ data, c < 256) :
    blockDec pre h ((blockEnc pre data depth h).1 ++ more) = some (data, (blockEnc pre data depth h).2, more) := by
  have hlen : data.length < 65536 := by omega
  unfold blockEnc
  split
  · rename_i hr
    obtain ⟨hne, he⟩ := isRun_eq hr
    have h0 : data.length ≠ 0 := fun e => hne (List.eq_nil_of_length_eq_zero e)
    simp only [List.append_assoc, blockDec]
    rw [cut2_two _ _ hlen]
    simp only [List.cons_append, List.nil_append]
    rw [if_neg (by omega), if_neg (by omega), if_pos trivial]
    simp only [runP]
    rw [if_neg h0, ← he]
    rfl
  · split
    · rename_i _ hc
      obtain ⟨p, h', e⟩ := parse_pack pre data depth h hp hd
      obtain ⟨li, l1, l2⟩ := parse_round pre data depth data.length (Nat.le_refl _)
      have hpk : packed pre data depth h = rowB li ++ p := by simp [packed, lits, l1, e]
      obtain ⟨s1, s2⟩ := literals_sub _ _ _ l1
      simp only [List.append_assoc, blockDec]
      rw [cut2_two _ _ hlen]
      simp only [List.cons_append]
      rw [if_neg (by omega), if_neg (by omega), if_neg (by omega), if_pos trivial]
      unfold unpacked
      rw [List.append_assoc, cut2_two _ _ (by omega)]
      simp only
      rw [cutN_append]
      simp only
      rw [hpk, row_back li p (by omega) fun c hc' => hb c (s2 c hc')]
      simp only
      have := unpack_round h _ p h' e []
      rw [List.append_nil] at this
      rw [this]
      simp only [if_true, l2, e]
      simp
    · simp only [List.append_assoc, blockDec]
      rw [cut2_two _ _ hlen]
      simp only [List.cons_append]
      rw [if_neg (by omega), if_pos trivial, cutN_append]
      rfl

theorem blockEnc_length (pre data : List Nat) (depth : Nat) (h : H3) : 3 ≤ (blockEnc pre data depth h).1.length ∧ (blockEnc pre data depth h).1.length ≤ 3 + max data.length 1 := by
  unfold blockEnc
  split
  · simp [two]; omega
  · split
    · rename_i hc
      simp [two]; omega
    · simp [two]; omega

end Mg
end Go.Proofs.YtloopkmmpfghfaaGreat
