/-
  Plain lists: what chapter 4 (fse) computes at tables of 64 states, and that symbols come back. No Go and no memory here.
-/
import Derived.Test.YtloopkmmpfghfaaGreatBits
namespace Go.Proofs.YtloopkmmpfghfaaGreat
namespace Mg

/-- A state: its symbol, how many bits follow, from where the next state counts. -/
structure Ent where
  sym : Nat
  bits : Nat
  base : Nat
deriving DecidableEq

/-- May shares be? -/
def fseIs (norm : List Nat) : Bool := decide (norm.length ≤ 32) && norm.all (fun n => decide (n ≤ 64)) && decide (norm.sum = 64)

/-- Each symbol as often as its share says; the number is the first one's symbol. -/
def expn : Nat → List Nat → List Nat
  | _, [] => []
  | s, n :: l => List.replicate n s ++ expn (s + 1) l

theorem expn_length : ∀ (s : Nat) (l : List Nat), (expn s l).length = l.sum
  | _, [] => rfl
  | s, n :: l => by simp [expn, expn_length (s + 1) l]

theorem expn_count : ∀ (l : List Nat) (s t : Nat), (expn s l).count t = if s ≤ t then l.getD (t - s) 0 else 0
  | [], s, t => by simp [expn]
  | n :: l, s, t => by
    simp only [expn, List.count_append, expn_count l (s + 1) t, List.count_replicate]
    by_cases h : s = t
    · subst h
      rw [if_neg (show ¬ s + 1 ≤ s by omega)]
      simp
    · have hb : (s == t) = false := by simpa using h
      rw [hb]
      by_cases h2 : s + 1 ≤ t
      · rw [if_pos h2, if_pos (show s ≤ t by omega), show t - s = (t - (s + 1)) + 1 from by omega]
        simp
      · rw [if_neg h2, if_neg (show ¬ s ≤ t by omega)]
        simp

/-- The symbols by state. -/
def spread (norm : List Nat) : List Nat := (List.range 64).map fun p => (expn 0 norm).getD (3 * p % 64) 0

/-- The table: a state's number is its share, and one more for each state ahead of the same symbol. -/
def entOf (x s : Nat) : Ent := ⟨s, 7 - digits x, x * 2 ^ (7 - digits x) - 64⟩
def table (norm : List Nat) : List Ent := (List.range 64).map fun u =>
  entOf (norm.getD ((spread norm).getD u 0) 0 + ((spread norm).take u).count ((spread norm).getD u 0)) ((spread norm).getD u 0)

theorem spread_length (norm : List Nat) : (spread norm).length = 64 := by simp [spread]
theorem table_length (norm : List Nat) : (table norm).length = 64 := by simp [table]

theorem perm3 : ((List.range 64).map fun p => 3 * p % 64).Perm (List.range 64) := by decide

theorem map_getD_range (l : List Nat) : (List.range l.length).map (fun k => l.getD k 0) = l := by
  apply List.ext_getElem?
  intro i
  by_cases h : i < l.length
  · simp [h, List.getD_eq_getElem?_getD]
  · rw [List.getElem?_eq_none (by simp; omega), List.getElem?_eq_none (by omega)]

theorem spread_count (norm : List Nat) (h : norm.sum = 64) (s : Nat) : (spread norm).count s = norm.getD s 0 := by
  have hl : (expn 0 norm).length = 64 := by rw [expn_length, h]
  have hp : (spread norm).Perm (expn 0 norm) := by
    have e1 : spread norm = ((List.range 64).map fun p => 3 * p % 64).map fun k => (expn 0 norm).getD k 0 := by
      simp [spread, List.map_map, Function.comp_def]
    have e2 : (List.range 64).map (fun k => (expn 0 norm).getD k 0) = expn 0 norm := by rw [← hl]; exact map_getD_range _
    rw [e1]
    exact (perm3.map _).trans (by rw [e2])
  rw [hp.count_eq, expn_count]
  simp

/-- The j-th one that is s. -/
theorem nth_count (s : Nat) : ∀ (l : List Nat) (j : Nat), j < l.count s → ∃ u, u < l.length ∧ l[u]? = some s ∧ (l.take u).count s = j
  | [], j, h => by simp at h
  | x :: l, j, h => by
    by_cases e : x = s
    · subst e
      cases j with
      | zero => exact ⟨0, by simp, by simp, by simp⟩
      | succ j =>
        obtain ⟨u, h1, h2, h3⟩ := nth_count x l j (by simpa using h)
        exact ⟨u + 1, by simp; omega, by simpa using h2, by simp [h3]⟩
    · have hb : (x == s) = false := by simpa using e
      have hc : l.count s = (x :: l).count s := by simp [e]
      obtain ⟨u, h1, h2, h3⟩ := nth_count s l j (by rw [hc]; exact h)
      exact ⟨u + 1, by simp; omega, by simpa using h2, by simp [e, h3]⟩

theorem digits_le7 (x : Nat) (h : x < 128) : digits x ≤ 7 := by
  unfold digits
  split
  · omega
  · rename_i h0
    have := (Nat.log2_lt h0 (k := 7)).2 (by omega)
    omega

/-- A number of 7 digits, cut from below to between m and 2 m. -/
theorem scale (m t : Nat) (h1 : 1 ≤ m) (h2 : m ≤ t) : ∃ b, m ≤ t / 2 ^ b ∧ t / 2 ^ b < 2 * m := by
  induction t using Nat.strongRecOn with
  | ind t ih =>
    by_cases h : t < 2 * m
    · exact ⟨0, by simpa using h2, by simpa using h⟩
    · obtain ⟨b, g1, g2⟩ := ih (t / 2) (by omega) (by omega)
      refine ⟨b + 1, ?_⟩
      rw [Nat.pow_succ, Nat.mul_comm, ← Nat.div_div_eq_div_mul]
      exact ⟨g1, g2⟩

theorem getD_of_get? {l : List Nat} {u s : Nat} (h : l[u]? = some s) : l.getD u 0 = s := by rw [List.getD_eq_getElem?_getD, h]; rfl

/-- **Each symbol that has a share has, for each number, a state whose span has it.** -/
theorem table_span (norm : List Nat) (hs : norm.sum = 64) (s t : Nat) (hm : 1 ≤ norm.getD s 0) (hmle : norm.getD s 0 ≤ 64) (ht : t < 64) :
    ∃ u e, u < 64 ∧ (table norm)[u]? = some e ∧ e.sym = s ∧ e.base ≤ t ∧ t < e.base + 2 ^ e.bits ∧ e.bits ≤ 6 := by
  obtain ⟨b, g1, g2⟩ := scale (norm.getD s 0) (t + 64) hm (by omega)
  have hj : (t + 64) / 2 ^ b - norm.getD s 0 < (spread norm).count s := by rw [spread_count norm hs]; omega
  obtain ⟨u, h1, h2, h3⟩ := nth_count s (spread norm) _ hj
  rw [spread_length] at h1
  have hx : norm.getD s 0 + ((spread norm).take u).count s = (t + 64) / 2 ^ b := by omega
  have hb0 : 0 < 2 ^ b := Nat.two_pow_pos b
  have hb : b ≤ 6 := by
    rcases Nat.lt_or_ge 6 b with hb | hb
    · have : 2 ^ 7 ≤ 2 ^ b := Nat.pow_le_pow_right (by omega) hb
      have : (t + 64) / 2 ^ b = 0 := Nat.div_eq_of_lt (by omega)
      omega
    · exact hb
  have hpow : 2 ^ (6 - b) * 2 ^ b = 64 := by rw [← Nat.pow_add, show 6 - b + b = 6 from by omega]
  have hpow' : 2 ^ (6 - b + 1) * 2 ^ b = 128 := by rw [← Nat.pow_add, show 6 - b + 1 + b = 7 from by omega]
  have hd : digits ((t + 64) / 2 ^ b) = 6 - b + 1 := by
    refine digits_spec _ _ ?_ ?_
    · exact (Nat.le_div_iff_mul_le hb0).2 (by omega)
    · exact (Nat.div_lt_iff_lt_mul hb0).2 (by omega)
  have hent : (table norm)[u]? = some (entOf ((t + 64) / 2 ^ b) s) := by
    simp only [table, List.getElem?_map, List.getElem?_range h1, Option.map_some]
    rw [getD_of_get? h2, hx]
  have hmod := Nat.div_add_mod (t + 64) (2 ^ b)
  have hlt := Nat.mod_lt (t + 64) hb0
  have hge : 64 ≤ (t + 64) / 2 ^ b * 2 ^ b := by
    have := (Nat.le_div_iff_mul_le hb0).2 (show 2 ^ (6 - b) * 2 ^ b ≤ t + 64 by omega)
    calc 64 = 2 ^ (6 - b) * 2 ^ b := hpow.symm
      _ ≤ (t + 64) / 2 ^ b * 2 ^ b := Nat.mul_le_mul_right _ this
  rw [Nat.mul_comm] at hmod
  refine ⟨u, _, h1, hent, rfl, ?_, ?_, ?_⟩
  · simp only [entOf, hd, show 7 - (6 - b + 1) = b from by omega]; omega
  · simp only [entOf, hd, show 7 - (6 - b + 1) = b from by omega]; omega
  · simp only [entOf, hd]; omega

/-- The state of a symbol whose span has a number. -/
def spans (s t : Nat) (e : Ent) : Bool := e.sym == s && decide (e.base ≤ t) && decide (t < e.base + 2 ^ e.bits)
def findEnt (T : List Ent) (s t : Nat) : Option Nat := T.findIdx? (spans s t)

/-- Symbols from the last one on: the state, the bits. -/
def encGo (T : List Ent) : List Nat → Option (Nat × List Bool)
  | [] => some (0, [])
  | s :: l =>
    match encGo T l with
    | none => none
    | some (t, bs) =>
      match findEnt T s t with
      | none => none
      | some u => some (u, bs ++ bitsOf ((T[u]?.map (·.bits)).getD 0) (t - (T[u]?.map (·.base)).getD 0))

def fseEnc (norm syms : List Nat) : Option (List Nat) :=
  (encGo (table norm) syms).map fun p => bytesOf (p.2 ++ bitsOf 6 p.1)

/-- Symbols out of a state and bits. -/
def decGo (T : List Ent) : Nat → Nat → List Bool → Option (List Nat × Nat × List Bool)
  | 0, u, bs => some ([], u, bs)
  | n + 1, u, bs =>
    match T[u]? with
    | none => none
    | some e =>
      match take bs e.bits with
      | none => none
      | some (v, bs') => (decGo T n (e.base + v) bs').map fun r => (e.sym :: r.1, r.2)

def fseDec (norm b : List Nat) (n : Nat) : Option (List Nat) :=
  if fseIs norm then
    match bitsIn b with
    | none => none
    | some bs =>
      match take bs 6 with
      | none => none
      | some (u, bs) =>
        match decGo (table norm) n u bs with
        | none => none
        | some (l, u, bs) => if u = 0 ∧ bs = [] then some l else none
  else none

theorem findEnt_spec {T : List Ent} {s t u : Nat} (h : findEnt T s t = some u) : ∃ e, T[u]? = some e ∧ e.sym = s ∧ e.base ≤ t ∧ t < e.base + 2 ^ e.bits := by
  unfold findEnt at h
  rw [List.findIdx?_eq_some_iff_getElem] at h
  obtain ⟨hu, hp, _⟩ := h
  simp only [spans, Bool.and_eq_true, beq_iff_eq, decide_eq_true_eq] at hp
  exact ⟨T[u], List.getElem?_eq_getElem hu, hp.1.1, hp.1.2, hp.2⟩

theorem findEnt_some {T : List Ent} {s t u : Nat} {e : Ent} (h : T[u]? = some e) (h1 : e.sym = s) (h2 : e.base ≤ t) (h3 : t < e.base + 2 ^ e.bits) : ∃ v, findEnt T s t = some v := by
  cases h' : findEnt T s t with
  | some v => exact ⟨v, rfl⟩
  | none =>
    unfold findEnt at h'
    rw [List.findIdx?_eq_none_iff] at h'
    have := h' e (List.mem_of_getElem? h)
    simp [spans, h1, h2, h3] at this

/-- All entries of a table take at most 7 bits. -/
theorem table_bits (norm : List Nat) : ∀ e ∈ table norm, e.bits ≤ 7 := by
  intro e he
  simp only [table, List.mem_map] at he
  obtain ⟨u, _, rfl⟩ := he
  simp [entOf]

theorem enc_total (norm : List Nat) (hs : norm.sum = 64) (hle : ∀ s, norm.getD s 0 ≤ 64) : ∀ (l : List Nat), (∀ s ∈ l, 1 ≤ norm.getD s 0) →
    ∃ t bs, encGo (table norm) l = some (t, bs) ∧ t < 64
  | [], _ => ⟨0, [], rfl, by omega⟩
  | s :: l, h => by
    obtain ⟨t, bs, e, ht⟩ := enc_total norm hs hle l (fun s hs => h s (List.mem_cons_of_mem _ hs))
    obtain ⟨u, en, hu, h1, h2, h3, h4, _⟩ := table_span norm hs s t (h s List.mem_cons_self) (hle s) ht
    obtain ⟨v, hv⟩ := findEnt_some h1 h2 h3 h4
    refine ⟨v, bs ++ bitsOf (((table norm)[v]?.map (·.bits)).getD 0) (t - ((table norm)[v]?.map (·.base)).getD 0), ?_, ?_⟩
    · simp only [encGo, e, hv]
    · obtain ⟨e', he', _⟩ := findEnt_spec hv
      have := (List.getElem?_eq_some_iff.1 he').1
      rw [table_length] at this
      exact this

theorem dec_enc (norm : List Nat) : ∀ (l : List Nat) (t : Nat) (bs : List Bool), encGo (table norm) l = some (t, bs) →
    ∀ more : List Bool, decGo (table norm) l.length t (more ++ bs) = some (l, 0, more)
  | [], t, bs, h, more => by
    simp only [encGo, Option.some.injEq, Prod.mk.injEq] at h
    obtain ⟨rfl, rfl⟩ := h
    simp [decGo]
  | s :: l, t, bs, h, more => by
    simp only [encGo] at h
    cases h1 : encGo (table norm) l with
    | none => rw [h1] at h; simp at h
    | some p =>
      obtain ⟨t', bs'⟩ := p
      rw [h1] at h
      simp only at h
      cases h2 : findEnt (table norm) s t' with
      | none => rw [h2] at h; simp at h
      | some u =>
        rw [h2] at h
        simp only [Option.some.injEq, Prod.mk.injEq] at h
        obtain ⟨rfl, rfl⟩ := h
        obtain ⟨e, he, hsym, hb1, hb2⟩ := findEnt_spec h2
        have hbits := table_bits norm e (List.mem_of_getElem? he)
        simp only [List.length_cons, decGo, he, Option.map_some, Option.getD_some]
        rw [← List.append_assoc, take_put _ _ _ (by omega) (by omega)]
        simp only
        rw [show e.base + (t' - e.base) = t' from by omega, dec_enc norm l t' bs' h1 more]
        simp [hsym]

/-- **Symbols that have shares come back out of their bytes.** -/
theorem fse_round (norm syms : List Nat) (hi : fseIs norm = true) (h : ∀ s ∈ syms, 1 ≤ norm.getD s 0) :
    ∃ b, fseEnc norm syms = some b ∧ fseDec norm b syms.length = some syms := by
  have hi' := hi
  simp only [fseIs, Bool.and_eq_true, decide_eq_true_eq] at hi'
  obtain ⟨⟨_, hall⟩, hsum⟩ := hi'
  have hle : ∀ s, norm.getD s 0 ≤ 64 := by
    intro s
    rw [List.getD_eq_getElem?_getD]
    cases hg : norm[s]? with
    | none => simp
    | some x =>
      have := List.all_eq_true.1 hall x (List.mem_of_getElem? hg)
      simpa using this
  obtain ⟨t, bs, he, ht⟩ := enc_total norm hsum hle syms h
  refine ⟨bytesOf (bs ++ bitsOf 6 t), by simp [fseEnc, he], ?_⟩
  unfold fseDec
  rw [if_pos hi, bitsIn_bytesOf]
  simp only
  rw [take_put _ _ _ (by omega) (by omega)]
  simp only
  have := dec_enc norm syms t bs he []
  simp only [List.nil_append] at this
  rw [this]
  simp

end Mg
end Go.Proofs.YtloopkmmpfghfaaGreat
