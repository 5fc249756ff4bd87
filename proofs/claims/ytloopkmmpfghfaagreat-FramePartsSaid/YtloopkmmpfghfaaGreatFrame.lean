/-
  Plain lists: what chapters 8 and 9 (frame, stream) compute: blocks as a whole, bit by bit, and back. The sum is a letter here. No Go and no memory.
-/
import Derived.Test.YtloopkmmpfghfaaGreatBlock
namespace Go.Proofs.YtloopkmmpfghfaaGreat
namespace Mg

def le4 (n : Nat) : List Nat := [n % 256, n / 256 % 256, n / 65536 % 256, n / 16777216 % 256]
def title : List Nat := [77, 78, 71, 76]
def headB (id : Nat) : List Nat := title ++ le4 id
def window (pre data : List Nat) : List Nat := (pre ++ data).drop ((pre ++ data).length - 2000)
def begin3 : H3 := (1, 4, 8)

theorem window_length (pre data : List Nat) : (window pre data).length = min (pre.length + data.length) 2000 := by
  simp [window]; omega

theorem drop_append_window (a b c : List Nat) : window (window a b) c = window a (b ++ c) := by
  unfold window
  rw [← List.append_assoc]
  generalize a ++ b = x
  have e : x.drop (x.length - 2000) ++ c = (x ++ c).drop (x.length - 2000) := by rw [List.drop_append_of_le_length (by omega)]
  have e2 : x.length - 2000 + (((x ++ c).drop (x.length - 2000)).length - 2000) = (x ++ c).length - 2000 := by
    simp only [List.length_append, List.length_drop]
    omega
  rw [e, List.drop_drop, e2]

/-- What stands behind the last block. -/
def endP (S : List Nat → List Nat) (data : List Nat) (k : Nat) (b : List Nat) : Nat × List Nat × Nat :=
  if b.length ≠ 4 then (2, [], 0) else if b ≠ S data then (3, [], 0) else (0, data, k)

/-- Blocks, one behind another: an error, the data, how many blocks. -/
def readGo (S : List Nat → List Nat) (dict : List Nat) (part : Bool) : Nat → List Nat → H3 → Nat → List Nat → Nat × List Nat × Nat
  | 0, _, _, _, _ => (2, [], 0)
  | n + 1, data, h, k, b =>
    match b with
    | [] => if part then (0, data, k) else (2, [], 0)
    | x :: b =>
      if 1 < x then (2, [], 0)
      else
        match blockDec (window dict data) h b with
        | none => (2, [], 0)
        | some (d, h', r) => if x = 1 then endP S (data ++ d) (k + 1) r else readGo S dict part n (data ++ d) h' (k + 1) r

def num4 (b : List Nat) : Nat := b.getD 0 0 + 256 * b.getD 1 0 + 65536 * b.getD 2 0 + 16777216 * b.getD 3 0

/-- A frame: an error, the data, how many blocks. -/
def frameP (S : List Nat → List Nat) (dict : List Nat) (id : Int) (part : Bool) (b : List Nat) : Nat × List Nat × Nat :=
  if b.length < 8 ∨ b.take 4 ≠ title then (2, [], 0)
  else if (num4 (b.drop 4) : Int) ≠ id then (4, [], 0)
  else readGo S dict part b.length [] begin3 0 (b.drop 8)

/-! ### A block takes some bytes -/
theorem cutN_len {n : Nat} {b x r : List Nat} (h : cutN n b = some (x, r)) : r.length ≤ b.length := by
  unfold cutN at h
  split at h
  · simp only [Option.some.injEq, Prod.mk.injEq] at h; rw [← h.2]; simp
  · simp at h
theorem cut2_len {b r : List Nat} {n : Nat} (h : cut2 b = some (n, r)) : r.length + 2 = b.length := by
  match b, h with
  | [], h => simp [cut2] at h
  | [_], h => simp [cut2] at h
  | a :: c :: l, h => simp only [cut2, Option.some.injEq, Prod.mk.injEq] at h; rw [← h.2]; simp
theorem runP_len {n : Nat} {b x r : List Nat} (h : runP n b = some (x, r)) : r.length ≤ b.length := by
  match b, h with
  | [], h => simp [runP] at h
  | c :: l, h =>
    simp only [runP] at h
    split at h
    · simp at h
    · simp only [Option.some.injEq, Prod.mk.injEq] at h; rw [← h.2]; simp

theorem blockDec_len {pre b d r : List Nat} {h h' : H3} (hd : blockDec pre h b = some (d, h', r)) : r.length < b.length := by
  unfold blockDec at hd
  cases h1 : cut2 b with
  | none => rw [h1] at hd; simp at hd
  | some p =>
    obtain ⟨n, b1⟩ := p
    have l1 := cut2_len h1
    rw [h1] at hd
    simp only at hd
    split at hd
    · simp at hd
    · match b1, hd with
      | [], hd => simp at hd
      | kind :: b2, hd =>
        simp only [List.length_cons] at l1
        simp only at hd
        split at hd
        · simp only [Option.map_eq_some_iff] at hd
          obtain ⟨⟨x, y⟩, h2, h3⟩ := hd
          have := cutN_len h2
          simp only [Prod.mk.injEq] at h3
          rw [← h3.2.2]; omega
        · split at hd
          · simp only [Option.map_eq_some_iff] at hd
            obtain ⟨⟨x, y⟩, h2, h3⟩ := hd
            have := runP_len h2
            simp only [Prod.mk.injEq] at h3
            rw [← h3.2.2]; omega
          · split at hd
            · unfold unpacked at hd
              cases h2 : cut2 b2 with
              | none => rw [h2] at hd; simp at hd
              | some q =>
                obtain ⟨m, b3⟩ := q
                have l2 := cut2_len h2
                rw [h2] at hd
                simp only at hd
                cases h3 : cutN m b3 with
                | none => rw [h3] at hd; simp at hd
                | some q =>
                  obtain ⟨p, b4⟩ := q
                  have l3 := cutN_len h3
                  rw [h3] at hd
                  simp only at hd
                  have : r = b4 := by
                    cases h4 : unrow p with
                    | none => rw [h4] at hd; simp at hd
                    | some q =>
                      obtain ⟨lit, q⟩ := q
                      rw [h4] at hd
                      simp only at hd
                      cases h5 : unpack h q with
                      | none => rw [h5] at hd; simp at hd
                      | some u =>
                        obtain ⟨l, h'', size⟩ := u
                        rw [h5] at hd
                        simp only at hd
                        split at hd
                        · cases h6 : expand pre lit l n with
                          | none => rw [h6] at hd; simp at hd
                          | some dd =>
                            rw [h6] at hd
                            simp only at hd
                            split at hd
                            · simp only [Option.some.injEq, Prod.mk.injEq] at hd
                              exact hd.2.2.symm
                            · simp at hd
                        · simp at hd
                  rw [this]; omega
            · simp at hd

/-- More rounds than bytes change nothing. -/
theorem readGo_fuel (S : List Nat → List Nat) (dict : List Nat) (part : Bool) : ∀ (n m : Nat) (data : List Nat) (h : H3) (k : Nat) (b : List Nat), b.length < n → b.length < m →
    readGo S dict part n data h k b = readGo S dict part m data h k b
  | 0, _, _, _, _, _, h, _ => by omega
  | _ + 1, 0, _, _, _, _, _, h => by omega
  | n + 1, m + 1, data, h, k, b, h1, h2 => by
    simp only [readGo]
    match b, h1, h2 with
    | [], _, _ => rfl
    | x :: b, h1, h2 =>
      simp only [List.length_cons] at h1 h2
      simp only
      split
      · rfl
      · cases hd : blockDec (window dict data) h b with
        | none => rfl
        | some p =>
          obtain ⟨d, h', r⟩ := p
          have := blockDec_len hd
          simp only
          split
          · rfl
          · exact readGo_fuel S dict part n m _ _ _ r (by omega) (by omega)

/-! ### What a stream gives -/
/-- Blocks that came out, none of them the last: the bytes, the data, the last three offsets, how many. -/
inductive Em (dict : List Nat) (depth : Nat) : List Nat → List Nat → H3 → Nat → Prop
  | nil : Em dict depth [] [] begin3 0
  | snoc {B data : List Nat} {h : H3} {k : Nat} (part : List Nat) (e : Em dict depth B data h k) (hl : part.length ≤ 500) (hb : ∀ c ∈ part, c < 256) :
      Em dict depth (B ++ 0 :: (blockEnc (window dict data) part depth h).1) (data ++ part) (blockEnc (window dict data) part depth h).2 (k + 1)

theorem window_le (pre data : List Nat) : (window pre data).length ≤ 2000 := by rw [window_length]; omega

theorem readGo_em {S : List Nat → List Nat} {dict : List Nat} {depth : Nat} {B data : List Nat} {h : H3} {k : Nat} (e : Em dict depth B data h k) (part : Bool) : ∀ (more : List Nat) (n m : Nat), (B ++ more).length < n → more.length < m →
    readGo S dict part n [] begin3 0 (B ++ more) = readGo S dict part m data h k more := by
  induction e with
  | nil => intro more n m h1 h2; exact readGo_fuel S dict part n m _ _ _ _ (by simpa using h1) h2
  | @snoc B data h k p e hl hb ih =>
    intro more n m h1 h2
    rw [List.append_assoc, List.cons_append] at h1 ⊢
    rw [ih (0 :: ((blockEnc (window dict data) p depth h).1 ++ more)) n (((blockEnc (window dict data) p depth h).1 ++ more).length + 2) h1 (by simp only [List.length_cons]; omega)]
    simp only [readGo]
    rw [if_neg (by omega), block_round _ p depth h more (window_le _ _) hl hb]
    simp only
    rw [if_neg (by omega)]
    exact readGo_fuel S dict part (((blockEnc (window dict data) p depth h).1 ++ more).length + 1) m _ _ _ more (by rw [List.length_append]; omega) h2

/-- The last block, and the sum. -/
theorem readGo_last {S : List Nat → List Nat} {dict : List Nat} {depth : Nat} {data : List Nat} {h : H3} {k : Nat} (part : Bool) (p more : List Nat) (n : Nat) (hl : p.length ≤ 500) (hb : ∀ c ∈ p, c < 256) :
    readGo S dict part (n + 1) data h k (1 :: ((blockEnc (window dict data) p depth h).1 ++ more)) = endP S (data ++ p) (k + 1) more := by
  simp only [readGo]
  rw [if_neg (by omega), block_round _ p depth h more (window_le _ _) hl hb]
  simp only [if_true]

theorem le4_length (n : Nat) : (le4 n).length = 4 := rfl
theorem headB_length (n : Nat) : (headB n).length = 8 := rfl

theorem num4_le4 (n : Nat) (h : n < 4294967296) (l : List Nat) : num4 (le4 n ++ l) = n := by
  simp only [num4, le4, List.cons_append, List.nil_append, List.getD_cons_zero, List.getD_cons_succ]
  omega

theorem frameP_head {S : List Nat → List Nat} (dict : List Nat) (id : Nat) (part : Bool) (b : List Nat) (h : id < 4294967296) (i : Int) :
    frameP S dict i part (headB id ++ b) = if (id : Int) ≠ i then (4, [], 0) else readGo S dict part (8 + b.length) [] begin3 0 b := by
  unfold frameP
  have h8 : (headB id ++ b).length = 8 + b.length := by simp [headB_length]
  have ht : (headB id ++ b).take 4 = title := rfl
  have hd : (headB id ++ b).drop 4 = le4 id ++ b := rfl
  have hd8 : (headB id ++ b).drop 8 = b := rfl
  rw [if_neg (by rw [h8, ht]; simp), hd, num4_le4 id h, h8, hd8]

/-- A stream: its dictionary, number, depth stand beside; what was written, how much of it is out, the last three offsets, is there a head? -/
structure St where
  all : List Nat
  out : Nat
  h : H3
  head : Bool

def st0 : St := ⟨[], 0, begin3, false⟩

def sBlock (dict : List Nat) (id depth : Nat) (s : St) (n last : Nat) : List Nat × St :=
  ((if s.head then [] else headB id) ++ last :: (blockEnc (window dict (s.all.take s.out)) ((s.all.drop s.out).take n) depth s.h).1,
    ⟨s.all, s.out + n, (blockEnc (window dict (s.all.take s.out)) ((s.all.drop s.out).take n) depth s.h).2, true⟩)

def sFull (dict : List Nat) (id depth : Nat) : Nat → St → List Nat × St
  | 0, s => ([], s)
  | n + 1, s =>
    if s.all.length - s.out < 500 then ([], s)
    else ((sBlock dict id depth s 500 0).1 ++ (sFull dict id depth n (sBlock dict id depth s 500 0).2).1, (sFull dict id depth n (sBlock dict id depth s 500 0).2).2)

def sWrite (dict : List Nat) (id depth : Nat) (s : St) (p : List Nat) : List Nat × St :=
  sFull dict id depth ((s.all ++ p).length) { s with all := s.all ++ p }

def sFlush (dict : List Nat) (id depth : Nat) (s : St) : List Nat × St :=
  if s.all.length = s.out then ([], s) else sBlock dict id depth s (s.all.length - s.out) 0

def sEnd (S : List Nat → List Nat) (dict : List Nat) (id depth : Nat) (s : St) : List Nat :=
  (sBlock dict id depth s (s.all.length - s.out) 1).1 ++ S s.all

/-- What came out so far is such and such blocks. -/
def Good (dict : List Nat) (id depth : Nat) (s : St) (E : List Nat) : Prop :=
  s.out ≤ s.all.length ∧ (∀ c ∈ s.all, c < 256) ∧ ∃ B k, Em dict depth B (s.all.take s.out) s.h k ∧ (s.head = false → B = [] ∧ E = [] ∧ k = 0 ∧ s.out = 0) ∧ (s.head = true → E = headB id ++ B ∧ 1 ≤ k)

theorem good0 (dict : List Nat) (id depth : Nat) : Good dict id depth st0 [] :=
  ⟨by simp [st0], by simp [st0], [], 0, Em.nil, fun _ => ⟨rfl, rfl, rfl, rfl⟩, fun h => by simp [st0] at h⟩

theorem good_block {dict : List Nat} {id depth : Nat} {s : St} {E : List Nat} (g : Good dict id depth s E) (n : Nat) (h1 : n ≤ 500) (h2 : s.out + n ≤ s.all.length) :
    Good dict id depth (sBlock dict id depth s n 0).2 (E ++ (sBlock dict id depth s n 0).1) := by
  obtain ⟨g1, g2, B, k, e, c1, c2⟩ := g
  have hp : ((s.all.drop s.out).take n).length ≤ 500 := by simp; omega
  have e' := Em.snoc ((s.all.drop s.out).take n) e hp fun c hc => g2 c (List.mem_of_mem_drop (List.mem_of_mem_take hc))
  rw [← List.take_add] at e'
  refine ⟨h2, g2, _, _, e', fun h => by simp [sBlock] at h, fun _ => ⟨?_, by omega⟩⟩
  unfold sBlock
  cases hh : s.head with
  | false =>
    obtain ⟨rfl, rfl, _, _⟩ := c1 hh
    simp
  | true =>
    obtain ⟨rfl, _⟩ := c2 hh
    simp

theorem good_full {dict : List Nat} {id depth : Nat} : ∀ (n : Nat) {s : St} {E : List Nat}, Good dict id depth s E →
    Good dict id depth (sFull dict id depth n s).2 (E ++ (sFull dict id depth n s).1) ∧ (sFull dict id depth n s).2.all = s.all ∧
      (s.all.length - s.out ≤ n → (sFull dict id depth n s).2.all.length - (sFull dict id depth n s).2.out < 500)
  | 0, s, E, g => by simp only [sFull, List.append_nil]; exact ⟨g, trivial, fun h => by omega⟩
  | n + 1, s, E, g => by
    simp only [sFull]
    split
    · rename_i h
      simp only [List.append_nil]
      exact ⟨g, trivial, fun _ => h⟩
    · rename_i h
      have g' := good_block g 500 (by omega) (by omega)
      obtain ⟨a, b, c⟩ := good_full n g'
      simp only [List.append_assoc] at a
      refine ⟨a, b, fun hn => c ?_⟩
      simp only [sBlock]
      omega

theorem good_more {dict : List Nat} {id depth : Nat} {s : St} {E : List Nat} (g : Good dict id depth s E) (p : List Nat) (hp : ∀ c ∈ p, c < 256) : Good dict id depth { s with all := s.all ++ p } E := by
  obtain ⟨g1, g2, B, k, e, c1, c2⟩ := g
  refine ⟨by simp; omega, fun c hc => ?_, B, k, ?_, c1, c2⟩
  · rcases List.mem_append.1 hc with h | h
    · exact g2 c h
    · exact hp c h
  · simp only
    rw [List.take_append_of_le_length g1]
    exact e

theorem good_write {dict : List Nat} {id depth : Nat} {s : St} {E : List Nat} (g : Good dict id depth s E) (p : List Nat) (hp : ∀ c ∈ p, c < 256) :
    Good dict id depth (sWrite dict id depth s p).2 (E ++ (sWrite dict id depth s p).1) ∧ (sWrite dict id depth s p).2.all = s.all ++ p ∧
      (sWrite dict id depth s p).2.all.length - (sWrite dict id depth s p).2.out < 500 := by
  obtain ⟨a, b, c⟩ := good_full ((s.all ++ p).length) (good_more g p hp)
  exact ⟨a, b, c (by simp)⟩

theorem good_flush {dict : List Nat} {id depth : Nat} {s : St} {E : List Nat} (g : Good dict id depth s E) (h : s.all.length - s.out < 500) :
    Good dict id depth (sFlush dict id depth s).2 (E ++ (sFlush dict id depth s).1) ∧ (sFlush dict id depth s).2.all = s.all ∧ (sFlush dict id depth s).2.out = s.all.length := by
  unfold sFlush
  have := g.1
  split
  · rename_i e
    simp only [List.append_nil]
    exact ⟨g, trivial, e.symm⟩
  · exact ⟨good_block g _ (by omega) (by omega), rfl, by simp only [sBlock]; omega⟩

/-- **A frame is read as what was written.** -/
theorem read_end {S : List Nat → List Nat} {dict : List Nat} {id depth : Nat} (hid : id < 4294967296) {s : St} {E : List Nat} (g : Good dict id depth s E) (h : s.all.length - s.out ≤ 500) (part : Bool) (x : List Nat) :
    ∃ body k, 1 ≤ k ∧ E ++ (sBlock dict id depth s (s.all.length - s.out) 1).1 = headB id ++ body ∧
      ∀ (i : Int), (i = id → frameP S dict i part (headB id ++ (body ++ x)) = endP S s.all k x) ∧ (i ≠ id → frameP S dict i part (headB id ++ (body ++ x)) = (4, [], 0)) := by
  obtain ⟨g1, g2, B, k, e, c1, c2⟩ := g
  have hp : ((s.all.drop s.out).take (s.all.length - s.out)).length ≤ 500 := by simp; omega
  have hall : s.all.take s.out ++ (s.all.drop s.out).take (s.all.length - s.out) = s.all := by
    rw [List.take_of_length_le (l := s.all.drop s.out) (by simp), List.take_append_drop]
  refine ⟨B ++ 1 :: (blockEnc (window dict (s.all.take s.out)) ((s.all.drop s.out).take (s.all.length - s.out)) depth s.h).1, k + 1, by omega, ?_, fun i => ⟨fun hi => ?_, fun hi => ?_⟩⟩
  · unfold sBlock
    cases hh : s.head with
    | false =>
      obtain ⟨rfl, rfl, _, _⟩ := c1 hh
      simp
    | true =>
      obtain ⟨rfl, _⟩ := c2 hh
      simp
  · rw [frameP_head _ _ _ _ hid, if_neg (by simp [hi]), List.append_assoc, List.cons_append]
    rw [readGo_em e part _ _ ((blockEnc (window dict (s.all.take s.out)) ((s.all.drop s.out).take (s.all.length - s.out)) depth s.h).1.length + x.length + 2) (by omega) (by simp)]
    rw [readGo_last part _ x _ hp fun c hc => g2 c (List.mem_of_mem_drop (List.mem_of_mem_take hc)), hall]
  · rw [frameP_head _ _ _ _ hid, if_pos fun e => hi e.symm]

/-- **What came out behind a flush is read as all that was written.** -/
theorem read_part {S : List Nat → List Nat} {dict : List Nat} {id depth : Nat} (hid : id < 4294967296) {s : St} {E : List Nat} (g : Good dict id depth s E) (ho : s.out = s.all.length) (hne : s.all ≠ []) :
    ∃ k, 1 ≤ k ∧ frameP S dict id true E = (0, s.all, k) ∧ frameP S dict id false E = (2, [], 0) := by
  obtain ⟨g1, g2, B, k, e, c1, c2⟩ := g
  have hh : s.head = true := by
    cases hh : s.head with
    | true => rfl
    | false =>
      obtain ⟨_, _, _, h0⟩ := c1 hh
      rw [h0] at ho
      exact absurd (List.eq_nil_of_length_eq_zero ho.symm) hne
  obtain ⟨rfl, hk⟩ := c2 hh
  rw [ho, List.take_length] at e
  have r := fun part => readGo_em (S := S) e part [] (8 + B.length) 1 (by simp) (by simp)
  simp only [List.append_nil] at r
  refine ⟨k, hk, ?_, ?_⟩
  · rw [frameP_head _ _ _ _ hid, if_neg (by simp), r]; simp [readGo]
  · rw [frameP_head _ _ _ _ hid, if_neg (by simp), r]; simp [readGo]

end Mg
end Go.Proofs.YtloopkmmpfghfaaGreat
