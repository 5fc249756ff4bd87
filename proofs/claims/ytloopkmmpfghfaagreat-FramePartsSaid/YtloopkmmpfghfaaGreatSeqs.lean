/-
  Plain lists: what chapter 6 (seqs) computes: steps as bytes and back. No Go and no memory here.
-/
import Derived.Test.YtloopkmmpfghfaaGreatNorm
import Derived.Test.YtloopkmmpfghfaaGreatMatch
namespace Go.Proofs.YtloopkmmpfghfaaGreat
namespace Mg

/-- What follows a number's code: how many bits, which. -/
def extraN (v : Nat) : Nat := digits v - 1
def extraV (v : Nat) : Nat := if v = 0 then 0 else v - 2 ^ (digits v - 1)
def valueOf (code extra : Nat) : Nat := if code = 0 then 0 else 2 ^ (code - 1) + extra

theorem digits_pos {v : Nat} (h : v ≠ 0) : 2 ^ (digits v - 1) ≤ v ∧ v < 2 ^ (digits v - 1 + 1) ∧ digits v ≠ 0 := by
  unfold digits
  rw [if_neg h]
  exact ⟨Nat.log2_self_le h, by rw [Nat.add_sub_cancel]; exact Nat.lt_log2_self, by omega⟩

theorem value_extra (v : Nat) : valueOf (digits v) (extraV v) = v := by
  by_cases h : v = 0
  · subst h; simp [valueOf, digits]
  · obtain ⟨a, _, c⟩ := digits_pos h
    simp only [valueOf, extraV, if_neg h, if_neg c]
    omega

theorem extraV_lt (v : Nat) : extraV v < 2 ^ extraN v := by
  by_cases h : v = 0
  · subst h; simp [extraV, extraN, digits]
  · obtain ⟨a, b, c⟩ := digits_pos h
    simp only [extraV, extraN, if_neg h]
    rw [Nat.pow_succ] at b
    omega

theorem digits_bound {v k : Nat} (h : v < 2 ^ k) : digits v ≤ k := by
  by_cases h0 : v = 0
  · subst h0; simp [digits]
  · unfold digits
    rw [if_neg h0]
    exact (Nat.log2_lt h0).2 h

abbrev H3 := Nat × Nat × Nat

def moved (h : H3) (v off : Nat) : H3 := if v = 0 then h else if v = 1 then (off, h.1, h.2.2) else (off, h.1, h.2.1)
/-- The value of an offset. -/
def offVal (h : H3) (off : Nat) : Nat := if off = h.1 then 0 else if off = h.2.1 then 1 else if off = h.2.2 then 2 else off + 2
/-- The offset of a value. -/
def valOff (h : H3) (v : Nat) : Nat := if v = 0 then h.1 else if v = 1 then h.2.1 else if v = 2 then h.2.2 else v - 2

theorem valOff_offVal (h : H3) (off : Nat) (h1 : 1 ≤ off) : valOff h (offVal h off) = off := by
  unfold offVal valOff
  by_cases a : off = h.1
  · simp [a]
  · by_cases b : off = h.2.1
    · rw [if_neg a, if_pos b]; simp [b]
    · by_cases c : off = h.2.2
      · rw [if_neg a, if_neg b, if_pos c]; simp [c]
      · rw [if_neg a, if_neg b, if_neg c, if_neg (by omega), if_neg (by omega), if_neg (by omega)]; omega

def offsets (h : H3) : List Seq3 → List Nat × H3
  | [] => ([], h)
  | x :: l => ((offVal h x.off) :: (offsets (moved h (offVal h x.off) x.off) l).1, (offsets (moved h (offVal h x.off) x.off) l).2)

def back (h : H3) : List Nat → List Nat × H3
  | [] => ([], h)
  | v :: l => ((valOff h v) :: (back (moved h v (valOff h v)) l).1, (back (moved h v (valOff h v)) l).2)

theorem offsets_length : ∀ (l : List Seq3) (h : H3), (offsets h l).1.length = l.length
  | [], _ => rfl
  | x :: l, h => by simp [offsets, offsets_length l]

theorem back_offsets : ∀ (l : List Seq3) (h : H3), (∀ x ∈ l, 1 ≤ x.off) → back h (offsets h l).1 = (l.map (·.off), (offsets h l).2)
  | [], _, _ => rfl
  | x :: l, h, hl => by
    have e := valOff_offVal h x.off (hl x List.mem_cons_self)
    simp only [offsets, back, e]
    rw [back_offsets l _ fun y hy => hl y (List.mem_cons_of_mem _ hy)]
    rfl

/-- A number in two bytes. -/
def two (n : Nat) : List Nat := [n % 256, n / 256 % 256]
def sized (b : List Nat) : List Nat := two b.length ++ b
/-- What two bytes say; what is behind them. -/
def cut2 : List Nat → Option (Nat × List Nat)
  | a :: b :: l => some (a + 256 * b, l)
  | _ => none
/-- So many bytes; what is behind them. -/
def cutN (n : Nat) (l : List Nat) : Option (List Nat × List Nat) := if n ≤ l.length then some (l.take n, l.drop n) else none

theorem cut2_two (n : Nat) (l : List Nat) (h : n < 65536) : cut2 (two n ++ l) = some (n, l) := by
  simp only [two, List.cons_append, List.nil_append, cut2]
  congr 2
  omega
theorem cutN_append (a l : List Nat) : cutN a.length (a ++ l) = some (a, l) := by simp [cutN]

/-- A row of numbers as bytes. -/
def counts16 (codes : List Nat) : List Nat := (List.range 16).map fun c => codes.count c
def rowBytes (values : List Nat) : List Nat :=
  fseNorm (counts16 (values.map digits)) ++ sized ((fseEnc (fseNorm (counts16 (values.map digits))) (values.map digits)).getD [])

/-- A row of so many codes out of bytes; what is behind them. -/
def rowP (n : Nat) (b : List Nat) : Option (List Nat × List Nat) :=
  match cutN 16 b with
  | none => none
  | some (norm, b) =>
    match cut2 b with
    | none => none
    | some (m, b) =>
      match cutN m b with
      | none => none
      | some (e, b) => (fseDec norm e n).map fun syms => (syms, b)

/-- All extras, the first step's at the end. -/
def extBits : List (Nat × Nat × Nat) → List Bool
  | [] => []
  | (a, b, c) :: l => extBits l ++ bitsOf (extraN c) (extraV c) ++ bitsOf (extraN b) (extraV b) ++ bitsOf (extraN a) (extraV a)

/-- A value out of its code and bits. -/
def valP (code : Nat) (bs : List Bool) : Option (Nat × List Bool) := (take bs (code - 1)).map fun p => (valueOf code p.1, p.2)
def valsP : List (Nat × Nat × Nat) → List Bool → Option (List (Nat × Nat × Nat) × List Bool)
  | [], bs => some ([], bs)
  | (a, b, c) :: l, bs =>
    match valP a bs with
    | none => none
    | some (x, bs) =>
      match valP b bs with
      | none => none
      | some (y, bs) =>
        match valP c bs with
        | none => none
        | some (z, bs) => (valsP l bs).map fun r => ((x, y, z) :: r.1, r.2)

def may (x : Seq3) : Bool := decide (x.lit ≤ 500) && decide (1 ≤ x.off) && decide (x.off ≤ 2500) && decide (4 ≤ x.len) && decide (x.len ≤ 500)

/-- Steps as rows of numbers. -/
def numbers (h : H3) (l : List Seq3) : List (Nat × Nat × Nat) := (l.zip (offsets h l).1).map fun p => (p.1.lit, p.2, p.1.len - 4)

def packBytes (h : H3) (l : List Seq3) : List Nat :=
  two l.length ++ (rowBytes (l.map (·.lit)) ++ (rowBytes (offsets h l).1 ++ (rowBytes (l.map fun x => x.len - 4) ++ sized (bytesOf (extBits (numbers h l))))))

def pack (h : H3) (l : List Seq3) : Option (List Nat × H3) :=
  if l.length ≤ 500 ∧ l.all may = true then
    if l = [] then some (two 0, h) else some (packBytes h l, (offsets h l).2)
  else none

/-- Steps out of their rows of numbers. -/
def stepsOf (h : H3) (vals : List (Nat × Nat × Nat)) : List Seq3 :=
  (vals.zip (back h (vals.map (·.2.1))).1).map fun p => ⟨p.1.1, p.2, p.1.2.2 + 4⟩

/-- Steps out of bytes; the last three offsets then; what is behind them. -/
def steps (h : H3) (b : List Nat) : Option (List Seq3 × H3 × List Nat) :=
  match cut2 b with
  | none => none
  | some (n, b) =>
    if 500 < n then none
    else if n = 0 then some ([], h, b)
    else
      match rowP n b with
      | none => none
      | some (r0, b) =>
        match rowP n b with
        | none => none
        | some (r1, b) =>
          match rowP n b with
          | none => none
          | some (r2, b) =>
            match cut2 b with
            | none => none
            | some (m, b) =>
              match cutN m b with
              | none => none
              | some (e, b) =>
                match bitsIn e with
                | none => none
                | some bs =>
                  match valsP (r0.zip (r1.zip r2)) bs with
                  | none => none
                  | some (vals, _) => some (stepsOf h vals, (back h (vals.map (·.2.1))).2, b)

def unpack (h : H3) (b : List Nat) : Option (List Seq3 × H3 × Nat) :=
  match steps h b with
  | none => none
  | some (l, _, _) =>
    match pack h l with
    | none => none
    | some (p, h') => if p <+: b then some (l, h', p.length) else none

/-! ### A row comes back -/
theorem counts16_sum (codes : List Nat) (h : ∀ c ∈ codes, c < 16) : (counts16 codes).sum = codes.length := by
  unfold counts16
  induction codes with
  | nil => rfl
  | cons c l ih =>
    have hc := h c List.mem_cons_self
    have ih := ih fun x hx => h x (List.mem_cons_of_mem _ hx)
    have key : ∀ m, c < m → ((List.range m).map fun d => (c :: l).count d).sum = ((List.range m).map fun d => l.count d).sum + 1 := by
      intro m
      induction m with
      | zero => intro h; omega
      | succ m ihm =>
        intro h
        simp only [List.range_succ, List.map_append, List.map_cons, List.map_nil, List.sum_append, List.sum_cons, List.sum_nil, List.count_cons]
        by_cases e : c = m
        · subst e
          have : ((List.range c).map fun d => l.count d + if (c == d) = true then 1 else 0) = (List.range c).map fun d => l.count d := by
            apply List.map_congr_left
            intro d hd
            have := List.mem_range.1 hd
            rw [if_neg (by simp; omega)]; rfl
          simp only [this]
          simp; omega
        · have := ihm (by omega)
          simp only [List.count_cons] at this
          rw [this]
          simp [e]; omega
    rw [key 16 hc, ih]
    simp

theorem counts16_get (codes : List Nat) (c : Nat) (h : c < 16) : (counts16 codes).getD c 0 = codes.count c := by
  simp [counts16, List.getD_eq_getElem?_getD, h]

theorem row_facts (values : List Nat) (hne : values ≠ []) (h : ∀ v ∈ values, v < 2 ^ 15) :
    fseIs (fseNorm (counts16 (values.map digits))) = true ∧ (fseNorm (counts16 (values.map digits))).length = 16 ∧
      ∀ s ∈ values.map digits, 1 ≤ (fseNorm (counts16 (values.map digits))).getD s 0 := by
  have hc : ∀ c ∈ values.map digits, c < 16 := by
    intro c hc
    obtain ⟨v, hv, rfl⟩ := List.mem_map.1 hc
    have := digits_bound (h v hv)
    omega
  have hs := counts16_sum _ hc
  have hl : (counts16 (values.map digits)).length = 16 := by simp [counts16]
  have hpos : 0 < (counts16 (values.map digits)).sum := by
    rw [hs, List.length_map]
    exact List.length_pos_iff.2 hne
  obtain ⟨a, b, c⟩ := fseNorm_spec _ (by omega) hpos
  refine ⟨fseNorm_is _ (by omega) hpos, by omega, fun s hs' => (c s).2 ?_⟩
  rw [counts16_get _ _ (hc s hs')]
  exact List.count_pos_iff.2 hs'

theorem encGo_length (T : List Ent) (hT : ∀ e ∈ T, e.bits ≤ 7) : ∀ (l : List Nat) (t : Nat) (bs : List Bool), encGo T l = some (t, bs) → bs.length ≤ 7 * l.length
  | [], t, bs, h => by simp only [encGo, Option.some.injEq, Prod.mk.injEq] at h; rw [← h.2]; simp
  | s :: l, t, bs, h => by
    simp only [encGo] at h
    cases h1 : encGo T l with
    | none => rw [h1] at h; simp at h
    | some p =>
      obtain ⟨t', bs'⟩ := p
      rw [h1] at h
      simp only at h
      cases h2 : findEnt T s t' with
      | none => rw [h2] at h; simp at h
      | some u =>
        rw [h2] at h
        simp only [Option.some.injEq, Prod.mk.injEq] at h
        have ih := encGo_length T hT l t' bs' h1
        rw [← h.2, List.length_append, bitsOf_length, List.length_cons]
        have : (Option.map (fun x => x.bits) T[u]?).getD 0 ≤ 7 := by
          cases hg : T[u]? with
          | none => simp
          | some e => simpa using hT e (List.mem_of_getElem? hg)
        omega

theorem row_round (values more : List Nat) (hne : values ≠ []) (h : ∀ v ∈ values, v < 2 ^ 15) (hl : values.length ≤ 500) :
    rowP values.length (rowBytes values ++ more) = some (values.map digits, more) := by
  obtain ⟨f1, f2, f3⟩ := row_facts values hne h
  obtain ⟨b, e1, e2⟩ := fse_round _ _ f1 f3
  have hb : b.length < 65536 := by
    unfold fseEnc at e1
    cases hg : encGo (table (fseNorm (counts16 (values.map digits)))) (values.map digits) with
    | none => rw [hg] at e1; simp at e1
    | some p =>
      obtain ⟨t, bs⟩ := p
      rw [hg] at e1
      simp only [Option.map_some, Option.some.injEq] at e1
      have := encGo_length _ (table_bits _) _ _ _ hg
      rw [List.length_map] at this
      rw [← e1, bytesOf_length, List.length_append, bitsOf_length]
      omega
  rw [List.length_map] at e2
  unfold rowBytes rowP
  rw [e1]
  simp only [Option.getD_some]
  have c1 := cutN_append (fseNorm (counts16 (values.map digits))) (sized b ++ more)
  rw [f2] at c1
  rw [List.append_assoc, c1]
  simp only [sized, List.append_assoc]
  rw [cut2_two _ _ hb]
  simp only
  rw [cutN_append]
  simp only [e2, Option.map_some]

/-! ### The extras come back -/
theorem valP_put (v : Nat) (h : v < 2 ^ 15) (bs : List Bool) : valP (digits v) (bs ++ bitsOf (extraN v) (extraV v)) = some (v, bs) := by
  have := digits_bound h
  unfold valP
  rw [show digits v - 1 = extraN v from rfl, take_put _ _ _ (by unfold extraN; omega) (extraV_lt v)]
  simp [value_extra]

theorem vals_round : ∀ (l : List (Nat × Nat × Nat)) (bs : List Bool), (∀ p ∈ l, p.1 < 2 ^ 15 ∧ p.2.1 < 2 ^ 15 ∧ p.2.2 < 2 ^ 15) →
    valsP (l.map fun p => (digits p.1, digits p.2.1, digits p.2.2)) (bs ++ extBits l) = some (l, bs)
  | [], bs, _ => by simp [valsP, extBits]
  | (a, b, c) :: l, bs, h => by
    obtain ⟨ha, hb, hc⟩ := h (a, b, c) List.mem_cons_self
    simp only [List.map_cons, valsP, extBits]
    rw [← List.append_assoc, ← List.append_assoc, ← List.append_assoc, valP_put a ha]
    simp only
    rw [valP_put b hb]
    simp only
    rw [valP_put c hc]
    simp only
    rw [vals_round l bs fun p hp => h p (List.mem_cons_of_mem _ hp)]
    rfl

theorem extBits_length : ∀ (l : List (Nat × Nat × Nat)), (∀ p ∈ l, p.1 < 2 ^ 15 ∧ p.2.1 < 2 ^ 15 ∧ p.2.2 < 2 ^ 15) → (extBits l).length ≤ 45 * l.length
  | [], _ => by simp [extBits]
  | (a, b, c) :: l, h => by
    obtain ⟨ha, hb, hc⟩ := h (a, b, c) List.mem_cons_self
    have ih := extBits_length l fun p hp => h p (List.mem_cons_of_mem _ hp)
    have h1 : digits a ≤ 15 := digits_bound ha
    have h2 : digits b ≤ 15 := digits_bound hb
    have h3 : digits c ≤ 15 := digits_bound hc
    simp only [extBits, List.length_append, bitsOf_length, List.length_cons, extraN]
    omega

theorem offVal_le (h : H3) (off : Nat) (h1 : 1 ≤ off) : offVal h off ≤ off + 2 := by
  unfold offVal
  split
  · omega
  · split
    · omega
    · split <;> omega

theorem offsets_le : ∀ (l : List Seq3) (h : H3), l.all may = true → ∀ v ∈ (offsets h l).1, v ≤ 2502
  | [], _, _, v, hv => by simp [offsets] at hv
  | x :: l, h, hl, v, hv => by
    rw [List.all_cons, Bool.and_eq_true] at hl
    have hx := hl.1
    simp only [Bool.and_eq_true, may, decide_eq_true_eq] at hx
    simp only [offsets, List.mem_cons] at hv
    rcases hv with rfl | hv
    · have := offVal_le h x.off (by omega); omega
    · exact offsets_le l _ hl.2 v hv

theorem zip_maps : ∀ (l : List Seq3) (o : List Nat), o.length = l.length →
    ((l.map (·.lit)).map digits).zip ((o.map digits).zip ((l.map fun x => x.len - 4).map digits)) = ((l.zip o).map fun p => (p.1.lit, p.2, p.1.len - 4)).map fun p => (digits p.1, digits p.2.1, digits p.2.2)
  | [], o, _ => by simp
  | x :: l, [], h => by simp at h
  | x :: l, v :: o, h => by
    have := zip_maps l o (by simpa using h)
    simp only [List.map_cons, List.zip_cons_cons]
    rw [← this]

theorem zip_back : ∀ (l : List Seq3) (o : List Nat), o.length = l.length → ((l.zip o).map fun p => (p.1.lit, p.2, p.1.len - 4)).map (·.2.1) = o
  | [], [], _ => rfl
  | [], _ :: _, h => by simp at h
  | x :: l, [], h => by simp at h
  | x :: l, v :: o, h => by
    have := zip_back l o (by simpa using h)
    simp only [List.zip_cons_cons, List.map_cons]
    rw [this]

theorem zip_steps : ∀ (l : List Seq3) (o : List Nat), o.length = l.length → (∀ x ∈ l, 4 ≤ x.len) →
    ((((l.zip o).map fun p => (p.1.lit, p.2, p.1.len - 4)).zip (l.map (·.off))).map fun p => (⟨p.1.1, p.2, p.1.2.2 + 4⟩ : Seq3)) = l
  | [], _, _, _ => by simp
  | x :: l, [], h, _ => by simp at h
  | x :: l, v :: o, h, hl => by
    have := zip_steps l o (by simpa using h) fun y hy => hl y (List.mem_cons_of_mem _ hy)
    have h4 := hl x List.mem_cons_self
    simp only [List.zip_cons_cons, List.map_cons]
    rw [this, show x.len - 4 + 4 = x.len from by omega]

/-- **Steps come back out of their bytes, and so do the last three offsets.** -/
theorem pack_round (h : H3) (l : List Seq3) (p : List Nat) (h' : H3) (hp : pack h l = some (p, h')) (more : List Nat) : steps h (p ++ more) = some (l, h', more) := by
  unfold pack at hp
  split at hp
  · rename_i hc
    obtain ⟨hlen, hall⟩ := hc
    split at hp
    · rename_i he
      subst he
      simp only [Option.some.injEq, Prod.mk.injEq] at hp
      obtain ⟨rfl, rfl⟩ := hp
      unfold steps
      rw [cut2_two 0 _ (by omega)]
      simp
    · rename_i he
      simp only [Option.some.injEq, Prod.mk.injEq] at hp
      obtain ⟨rfl, rfl⟩ := hp
      have hm : ∀ x ∈ l, x.lit ≤ 500 ∧ 1 ≤ x.off ∧ x.off ≤ 2500 ∧ 4 ≤ x.len ∧ x.len ≤ 500 := by
        intro x hx
        have := List.all_eq_true.1 hall x hx
        simp only [may, Bool.and_eq_true, decide_eq_true_eq] at this
        exact ⟨this.1.1.1.1, this.1.1.1.2, this.1.1.2, this.1.2, this.2⟩
      have ho := offsets_le l h hall
      have hol := offsets_length l h
      have b0 : ∀ v ∈ l.map (·.lit), v < 2 ^ 15 := by
        intro v hv
        obtain ⟨x, hx, rfl⟩ := List.mem_map.1 hv
        have := hm x hx
        omega
      have b1 : ∀ v ∈ (offsets h l).1, v < 2 ^ 15 := fun v hv => by have := ho v hv; omega
      have b2 : ∀ v ∈ l.map (fun x => x.len - 4), v < 2 ^ 15 := by
        intro v hv
        obtain ⟨x, hx, rfl⟩ := List.mem_map.1 hv
        have := hm x hx
        omega
      have bn : ∀ q ∈ numbers h l, q.1 < 2 ^ 15 ∧ q.2.1 < 2 ^ 15 ∧ q.2.2 < 2 ^ 15 := by
        intro q hq
        obtain ⟨⟨x, v⟩, hxv, rfl⟩ := List.mem_map.1 hq
        obtain ⟨hx, hv⟩ := List.of_mem_zip hxv
        have := hm x hx
        exact ⟨by simp; omega, b1 v hv, by simp; omega⟩
      have hnl : (numbers h l).length = l.length := by simp [numbers, hol]
      have hel := extBits_length _ bn
      have n0 : l.length ≠ 0 := fun e => he (List.eq_nil_of_length_eq_zero e)
      have hne : (offsets h l).1 ≠ [] := fun e => by rw [e] at hol; simp at hol; exact n0 hol.symm
      have r0 := fun m => row_round (l.map (·.lit)) m (by simpa using he) b0 (by simpa using hlen)
      have r1 := fun m => row_round (offsets h l).1 m hne b1 (by omega)
      have r2 := fun m => row_round (l.map fun x => x.len - 4) m (by simpa using he) b2 (by simpa using hlen)
      simp only [List.length_map] at r0 r2
      rw [hol] at r1
      unfold steps packBytes
      simp only [List.append_assoc]
      rw [cut2_two _ _ (by omega)]
      simp only
      rw [if_neg (by omega), if_neg n0, r0]
      simp only
      rw [r1]
      simp only
      rw [r2]
      simp only [sized, List.append_assoc]
      rw [cut2_two _ _ (by rw [bytesOf_length]; omega)]
      simp only
      rw [cutN_append]
      simp only
      rw [bitsIn_bytesOf]
      simp only
      have hz := zip_maps l (offsets h l).1 hol
      have hv := vals_round (numbers h l) [] bn
      rw [List.nil_append] at hv
      rw [hz]
      rw [show ((l.zip (offsets h l).1).map fun p => (p.1.lit, p.2, p.1.len - 4)) = numbers h l from rfl, hv]
      simp only
      have hb := zip_back l (offsets h l).1 hol
      have hbk := back_offsets l h fun x hx => (hm x hx).2.1
      rw [show ((numbers h l).map (·.2.1)) = (offsets h l).1 from hb, hbk]
      unfold stepsOf
      rw [show ((numbers h l).map (·.2.1)) = (offsets h l).1 from hb, hbk]
      have hst := zip_steps l (offsets h l).1 hol fun x hx => (hm x hx).2.2.2.1
      rw [show ((l.zip (offsets h l).1).map fun p => (p.1.lit, p.2, p.1.len - 4)) = numbers h l from rfl] at hst
      rw [hst]
  · simp at hp

theorem unpack_round (h : H3) (l : List Seq3) (p : List Nat) (h' : H3) (hp : pack h l = some (p, h')) (more : List Nat) : unpack h (p ++ more) = some (l, h', p.length) := by
  unfold unpack
  rw [pack_round h l p h' hp more]
  simp only [hp]
  rw [if_pos (List.prefix_append _ _)]

/-- **To hold the bytes that were read against those that steps make is to hold these against what the bytes begin with.** -/
theorem unpack_alt (h : H3) (b : List Nat) (l : List Seq3) (h' : H3) (rest : List Nat) (hs : steps h b = some (l, h', rest)) :
    unpack h b = match pack h l with
      | none => none
      | some (p, _) => if p = b.take (b.length - rest.length) then some (l, h', b.length - rest.length) else none := by
  unfold unpack
  rw [hs]
  simp only
  cases hp : pack h l with
  | none => rfl
  | some q =>
    obtain ⟨p, h''⟩ := q
    simp only
    by_cases hpre : p <+: b
    · obtain ⟨r, rfl⟩ := hpre
      have := pack_round h l p h'' hp r
      rw [hs] at this
      simp only [Option.some.injEq, Prod.mk.injEq] at this
      obtain ⟨_, rfl, rfl⟩ := this
      rw [if_pos (List.prefix_append _ _)]
      simp
    · rw [if_neg hpre, if_neg]
      intro e
      exact hpre (e ▸ List.take_prefix _ _)

end Mg
end Go.Proofs.YtloopkmmpfghfaaGreat
