/-
  Numerals, plainly: what davitref32.Number comes to.
-/
import Derived.Test.YtlnemkdoknkhaaaDoorSh3
namespace Go.Proofs.YtlnemkdoknkhaaaDoor
open Go Go.RowKit
set_option linter.unusedVariables false
set_option linter.unusedSimpArgs false

/-! ### Numerals, plainly -/
def isDig (c : UInt8) : Prop := 48 ≤ c.toNat ∧ c.toNat ≤ 57
def dval (ds : List UInt8) : Nat := ds.foldl (fun a c => a * 10 + (c.toNat - 48)) 0
theorem dval_snoc (ds : List UInt8) (c : UInt8) : dval (ds ++ [c]) = dval ds * 10 + (c.toNat - 48) := by simp [dval, List.foldl_append]
theorem dval_lt_from (ds : List UInt8) : ∀ (a : Nat), (∀ c, c ∈ ds → isDig c) → ds.foldl (fun a c => a * 10 + (c.toNat - 48)) a < (a + 1) * 10 ^ ds.length := by
  induction ds with
  | nil => intro a _; simp
  | cons c ds ih =>
    intro a h
    have h2 := h c (by simp)
    have h1 := ih (a * 10 + (c.toNat - 48)) (fun x hx => h x (by simp [hx]))
    unfold isDig at h2
    rw [List.foldl_cons, List.length_cons, Nat.pow_succ]
    refine Nat.lt_of_lt_of_le h1 ?_
    rw [Nat.mul_comm (10 ^ ds.length) 10, ← Nat.mul_assoc]
    exact Nat.mul_le_mul_right _ (by omega)
theorem dval_lt (ds : List UInt8) (h : ∀ c, c ∈ ds → isDig c) : dval ds < 10 ^ ds.length := by
  have := dval_lt_from ds 0 h
  simpa [dval] using this

theorem digit_toNat (u : Nat) (h : u < 10) : (UInt8.ofNat (48 + u)).toNat = 48 + u := UInt8.toNat_ofNat_of_lt' (by show _ < 256; omega)

theorem dec_dig : ∀ (u : Nat), ∀ c, c ∈ Lib.decDigits u → isDig c := by
  intro u
  induction u using Nat.strongRecOn with
  | _ u ih =>
    intro c hc
    by_cases h : u < 10
    · rw [dec_small h] at hc; obtain rfl := List.mem_singleton.1 hc; unfold isDig; rw [digit_toNat u h]; omega
    · rw [dec_big h] at hc
      rcases List.mem_append.1 hc with hc | hc
      · exact ih (u / 10) (by omega) c hc
      · obtain rfl := List.mem_singleton.1 hc; unfold isDig; rw [digit_toNat _ (by omega)]; omega
theorem dec_val : ∀ (u : Nat), dval (Lib.decDigits u) = u := by
  intro u
  induction u using Nat.strongRecOn with
  | _ u ih =>
    by_cases h : u < 10
    · rw [dec_small h]; simp only [dval, List.foldl_cons, List.foldl_nil]; rw [digit_toNat u h]; omega
    · rw [dec_big h, dval_snoc, ih (u / 10) (by omega), digit_toNat _ (by omega)]; omega
theorem dec_len (u : Nat) (h : u < 10000000000000000000) : 1 ≤ (Lib.decDigits u).length ∧ (Lib.decDigits u).length ≤ 19 := by
  rw [Lib.decDigits_length]
  refine ⟨Lib.nDigits_pos u, ?_⟩
  have key : ∀ (k u : Nat), u < 10 ^ k → 1 ≤ k → Lib.nDigits u ≤ k := by
    intro k
    induction k with
    | zero => intro u _ h; omega
    | succ k ih =>
      intro u h _
      by_cases h10 : u < 10
      · rw [Lib.nDigits_small h10]; omega
      · rw [Lib.nDigits_big h10]
        have : u / 10 < 10 ^ k := by rw [Nat.pow_succ] at h; omega
        cases k with
        | zero => simp at this; omega
        | succ k => have := ih (u / 10) this (by omega); omega
  exact key 19 u (by simpa using h) (by omega)

theorem dec_head (u : Nat) : (Lib.decDigits u).getD 0 0 ≠ 45 := by
  have hl : 0 < (Lib.decDigits u).length := by rw [Lib.decDigits_length]; exact Lib.nDigits_pos u
  have h := dec_dig u ((Lib.decDigits u).getD 0 0) (by rw [List.getD_eq_getElem?_getD, List.getElem?_eq_getElem hl, Option.getD_some]; exact List.getElem_mem hl)
  intro e; rw [e] at h; unfold isDig at h; revert h; decide

/-- What a numeral looks like. -/
theorem itoa_neg {n : Int} (h : n < 0) : Lib.itoa n = 45 :: Lib.decDigits n.natAbs := by rw [Lib.itoa, if_pos h]
theorem itoa_pos {n : Int} (h : 0 ≤ n) : Lib.itoa n = Lib.decDigits n.toNat := by rw [Lib.itoa, if_neg (by omega)]
theorem itoa_head (n : Int) : (Lib.itoa n).getD 0 0 = 45 ↔ n < 0 := by
  by_cases h : n < 0
  · rw [itoa_neg h]; simp [h]
  · rw [itoa_pos (by omega)]; simp only [h, iff_false]; exact dec_head _

/-- A text is a numeral: what the reference's Number comes to. -/
def NumPost (l : List UInt8) (e : Ending) : Prop :=
  (∃ n, I64 n ∧ l = Lib.itoa n ∧ e = .returned (.tuple #[.int .i64 n, .bool true])) ∨ ((∀ n, I64 n → l ≠ Lib.itoa n) ∧ ∃ n, e = .returned (.tuple #[.int .i64 n, .bool false]))

/-- Where its digits begin. -/
def from_ (l : List UInt8) : Nat := if l.getD 0 0 = 45 then 1 else 0

theorem num_facts {l : List UInt8} {n : Int} (hn : I64 n) (h : l = Lib.itoa n) :
    from_ l + 1 ≤ l.length ∧ l.length - from_ l ≤ 19 ∧ (∀ j, from_ l ≤ j → j < l.length → isDig (l.getD j 0)) ∧
    (from_ l = 1 → (dval (l.drop 1) : Int) = -n ∧ n < 0) ∧ (from_ l = 0 → (dval (l.drop 0) : Int) = n ∧ 0 ≤ n) := by
  obtain ⟨hn1, hn2⟩ := hn
  have hh := itoa_head n
  rw [← h] at hh
  by_cases hneg : n < 0
  · have e1 : from_ l = 1 := by unfold from_; rw [if_pos (hh.2 hneg)]
    rw [itoa_neg hneg] at h
    have hd := dec_len n.natAbs (by omega)
    subst h
    refine ⟨by rw [e1]; simp; omega, by rw [e1]; simp; omega, ?_, ?_, by omega⟩
    · intro j h1 h2
      rw [e1] at h1
      obtain ⟨j, rfl⟩ : ∃ i, j = i + 1 := ⟨j - 1, by omega⟩
      have h3 : j < (Lib.decDigits n.natAbs).length := by simpa using h2
      have : (45 :: Lib.decDigits n.natAbs).getD (j + 1) 0 = (Lib.decDigits n.natAbs)[j] := by simp [List.getD_eq_getElem?_getD, h3]
      rw [this]; exact dec_dig _ _ (List.getElem_mem h3)
    · intro _
      refine ⟨?_, hneg⟩
      have : (45 :: Lib.decDigits n.natAbs).drop 1 = Lib.decDigits n.natAbs := rfl
      rw [this, dec_val]; omega
  · have e1 : from_ l = 0 := by unfold from_; rw [if_neg (fun h => hneg (hh.1 h))]
    rw [itoa_pos (by omega)] at h
    have hd := dec_len n.toNat (by omega)
    subst h
    refine ⟨by rw [e1]; omega, by rw [e1]; omega, ?_, by omega, ?_⟩
    · intro j h1 h2
      have : (Lib.decDigits n.toNat).getD j 0 = (Lib.decDigits n.toNat)[j] := by simp [List.getD_eq_getElem?_getD, h2]
      rw [this]; exact dec_dig _ _ (List.getElem_mem h2)
    · intro _
      refine ⟨?_, by omega⟩
      rw [List.drop_zero, dec_val]; omega

theorem NumPost.no {l : List UInt8} (m : Int) (h : ∀ n, I64 n → l ≠ Lib.itoa n) : NumPost l (.returned (.tuple #[.int .i64 m, .bool false])) := .inr ⟨h, m, rfl⟩
theorem NumPost.long {l : List UInt8} (m : Int) (h : l.length < from_ l + 1 ∨ 19 < l.length - from_ l) : NumPost l (.returned (.tuple #[.int .i64 m, .bool false])) :=
  .no m fun n hn e => by have := num_facts hn e; omega
theorem NumPost.bad {l : List UInt8} (m : Int) (j : Nat) (h1 : from_ l ≤ j) (h2 : j < l.length) (h3 : ¬ isDig (l.getD j 0)) : NumPost l (.returned (.tuple #[.int .i64 m, .bool false])) :=
  .no m fun n hn e => h3 ((num_facts hn e).2.2.1 j h1 h2)
theorem NumPost.end {l : List UInt8} (m : Int) (hm : I64 m) (h : ∀ n, I64 n → l = Lib.itoa n → n = m) (e : Ending) (he : e = .returned (.tuple #[.int .i64 m, .bool (Lib.itoa m == l)])) : NumPost l e := by
  by_cases hl : Lib.itoa m = l
  · exact .inl ⟨m, hm, hl.symm, by rw [he]; simp [hl]⟩
  · exact .inr ⟨fun n hn hh => hl (by rw [hh, h n hn hh]), m, by rw [he]; simp [hl]⟩
end Go.Proofs.YtlnemkdoknkhaaaDoor
