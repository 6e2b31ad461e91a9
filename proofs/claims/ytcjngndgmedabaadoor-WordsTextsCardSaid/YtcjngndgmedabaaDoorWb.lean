/-
  Lines of events, plainly: what a line is, and how it is read.
-/
import Derived.Test.YtcjngndgmedabaaDoorWa
import Derived.Laws.Bits64b
import Derived.Lib.SplitLaws
namespace Go.Proofs.YtcjngndgmedabaaDoor
open Go Go.RowKit
set_option linter.unusedVariables false
set_option linter.unusedSimpArgs false

def bitsF : Nat → Nat → Nat → List Nat
  | 0, _, _ => []
  | n + 1, o, m => if m % 2 = 1 then o :: bitsF n (o + 1) (m / 2) else bitsF n (o + 1) (m / 2)
def bitsUp (m : Nat) : List Nat := bitsF 64 0 m

theorem land_pred (m : Nat) (h : m ≠ 0) : m &&& (m - 1) = if m % 2 = 1 then m - 1 else 2 * ((m / 2) &&& (m / 2 - 1)) := by
  split
  · rename_i h1
    apply Nat.eq_of_testBit_eq
    intro i
    rw [Nat.testBit_and]
    cases i with
    | zero => simp [Nat.testBit_zero]; omega
    | succ i => rw [Nat.testBit_succ, Nat.testBit_succ, show (m - 1) / 2 = m / 2 by omega]; simp
  · rename_i h1
    apply Nat.eq_of_testBit_eq
    intro i
    rw [Nat.testBit_and]
    cases i with
    | zero => simp [Nat.testBit_zero]; omega
    | succ i => rw [Nat.testBit_succ, Nat.testBit_succ, Nat.testBit_succ, show (m - 1) / 2 = m / 2 - 1 by omega, show 2 * (m / 2 &&& (m / 2 - 1)) / 2 = (m / 2 &&& (m / 2 - 1)) by omega, Nat.testBit_and]
theorem bitsF_zero : ∀ (n o : Nat), bitsF n o 0 = [] := by
  intro n
  induction n with
  | zero => intro o; rfl
  | succ n ih => intro o; rw [bitsF, if_neg (by decide)]; exact ih _
theorem bitsF_step : ∀ (n o m : Nat), m ≠ 0 → m < 2 ^ n → bitsF n o m = (o + Lib.ctzFrom n m) :: bitsF n o (m &&& (m - 1)) := by
  intro n
  induction n with
  | zero => intro o m h1 h2; simp at h2; omega
  | succ n ih =>
    intro o m h1 h2
    rw [Nat.pow_succ] at h2
    rw [land_pred m h1]
    by_cases hm : m % 2 = 1
    · rw [if_pos hm, bitsF, if_pos hm, bitsF, if_neg (by omega), Lib.ctzFrom, if_pos hm, show (m - 1) / 2 = m / 2 by omega]; rfl
    · rw [if_neg hm, bitsF, if_neg hm, bitsF, if_neg (by omega), Lib.ctzFrom, if_neg hm, show 2 * (m / 2 &&& (m / 2 - 1)) / 2 = (m / 2 &&& (m / 2 - 1)) by omega]
      rw [ih (o + 1) (m / 2) (by omega) (by omega)]
      congr 1; omega
theorem bitsUp_step (m : Nat) (h : m ≠ 0) (h2 : m < 18446744073709551616) : bitsUp m = Lib.ctz 64 m :: bitsUp (m &&& (m - 1)) := by
  have := bitsF_step 64 0 m h (by simpa using h2)
  rw [Nat.zero_add] at this
  unfold bitsUp Lib.ctz
  rw [if_neg h]; exact this
theorem bitsF_len : ∀ (n o m : Nat), (bitsF n o m).length ≤ n := by
  intro n
  induction n with
  | zero => intro o m; exact Nat.le_refl _
  | succ n ih => intro o m; rw [bitsF]; have := ih (o + 1) (m / 2); split <;> simp <;> omega

theorem join_len (l : List (List UInt8)) (c : UInt8) (N : Nat) (h : ∀ x, x ∈ l → x.length ≤ N) : (Lib.join l [c]).length ≤ l.length * (N + 1) := by
  unfold Lib.join
  induction l with
  | nil => simp [List.intercalate]
  | cons x l ih =>
    have hx := h x (by simp)
    cases l with
    | nil => simp [List.intercalate]; omega
    | cons y l =>
      have := ih (fun z hz => h z (by simp [hz]))
      have e : [c].intercalate (x :: y :: l) = x ++ [c] ++ [c].intercalate (y :: l) := by simp [List.intercalate]
      rw [e, List.length_append, List.length_append, List.length_singleton, List.length_cons, Nat.succ_mul]
      omega

def maskL (l : List Nat) : List UInt8 := Lib.join (l.map fun (i : Nat) => Lib.itoa i) [44]
theorem idx_one (c : UInt8) (l : List UInt8) : (c ∈ l → Lib.index l [c] = ((l.takeWhile (· ≠ c)).length : Int)) ∧ (c ∉ l → Lib.index l [c] = -1) := by
  induction l with
  | nil => exact ⟨fun h => by simp at h, fun _ => rfl⟩
  | cons b l ih =>
    by_cases hb : c = b
    · subst hb
      exact ⟨fun _ => by simp [Lib.index], fun h => by simp at h⟩
    · refine ⟨fun h => ?_, fun h => ?_⟩
      · have hm : c ∈ l := by simpa [hb] using h
        have := ih.1 hm
        have hne : ¬ b = c := fun e => hb e.symm
        simp only [Lib.index, this]
        rw [if_neg (by simp [hb]), if_neg (by simp)]
        simp [hne]
      · have hm : c ∉ l := fun x => h (by simp [x])
        have := ih.2 hm
        simp only [Lib.index, this]
        rw [if_neg (by simp [hb])]
        rfl
theorem takeDrop (c : UInt8) (l : List UInt8) : l.take (l.takeWhile (· ≠ c)).length = l.takeWhile (· ≠ c) ∧ l.drop ((l.takeWhile (· ≠ c)).length + 1) = (l.dropWhile (· ≠ c)).drop 1 := by
  induction l with
  | nil => simp
  | cons b l ih =>
    by_cases hb : b = c
    · subst hb; simp
    · obtain ⟨h1, h2⟩ := ih
      simp [hb] at h1 h2 ⊢
      exact ⟨h1, h2⟩
theorem take_all (c : UInt8) (l : List UInt8) (h : c ∉ l) : l.takeWhile (· ≠ c) = l ∧ (l.dropWhile (· ≠ c)).drop 1 = [] :=
  take_none l c fun j hj e => h (by rw [← e, List.getD_eq_getElem?_getD, List.getElem?_eq_getElem hj, Option.getD_some]; exact List.getElem_mem hj)

/-! ### Texts in parts -/
def spl (c : UInt8) : List UInt8 → List (List UInt8)
  | [] => [[]]
  | b :: t => if b = c then [] :: spl c t else match spl c t with
    | [] => [[b]]
    | x :: xs => (b :: x) :: xs
theorem spl_ne (c : UInt8) (l : List UInt8) : spl c l ≠ [] := by
  cases l with
  | nil => simp [spl]
  | cons b t => rw [spl]; split
                · simp
                · split <;> simp
theorem spl_hit (c : UInt8) (t : List UInt8) : spl c (c :: t) = [] :: spl c t := by rw [spl, if_pos rfl]
theorem spl_miss {c b : UInt8} (h : b ≠ c) (t : List UInt8) : ∃ x xs, spl c t = x :: xs ∧ spl c (b :: t) = (b :: x) :: xs := by
  cases hs : spl c t with
  | nil => exact absurd hs (spl_ne c t)
  | cons x xs => exact ⟨x, xs, rfl, by rw [spl, if_neg h, hs]⟩
theorem spl_none {c : UInt8} {l : List UInt8} (h : c ∉ l) : spl c l = [l] := by
  induction l with
  | nil => rfl
  | cons b t ih =>
    have h1 : b ≠ c := fun e => h (by simp [e])
    rw [spl, if_neg h1, ih (fun e => h (by simp [e]))]
theorem spl_app {c : UInt8} (a b : List UInt8) (h : c ∉ a) : spl c (a ++ c :: b) = a :: spl c b := by
  induction a with
  | nil => exact spl_hit c b
  | cons x a ih =>
    have h1 : x ≠ c := fun e => h (by simp [e])
    rw [List.cons_append, spl, if_neg h1, ih (fun e => h (by simp [e]))]
theorem spl_yes {c : UInt8} {l : List UInt8} (h : c ∈ l) : spl c l = l.takeWhile (· ≠ c) :: spl c ((l.dropWhile (· ≠ c)).drop 1) := by
  induction l with
  | nil => simp at h
  | cons b t ih =>
    by_cases hb : b = c
    · subst hb; rw [spl_hit]; simp
    · have ht : c ∈ t := by simpa [Ne.symm hb] using h
      rw [spl, if_neg hb, ih ht]; simp [hb]
theorem spl_snoc_hit (c : UInt8) (l : List UInt8) : spl c (l ++ [c]) = spl c l ++ [[]] := by
  induction l with
  | nil => simp [spl]
  | cons b t ih =>
    by_cases hb : b = c
    · subst hb; rw [List.cons_append, spl_hit, spl_hit, ih]; rfl
    · obtain ⟨x, xs, h1, h2⟩ := spl_miss hb t
      rw [List.cons_append, spl, if_neg hb, ih, h1, h2]; rfl
theorem spl_snoc_miss {c b : UInt8} (h : b ≠ c) (l : List UInt8) : ∃ xs x, spl c l = xs ++ [x] ∧ spl c (l ++ [b]) = xs ++ [x ++ [b]] := by
  induction l with
  | nil => exact ⟨[], [], rfl, by simp [spl, h]⟩
  | cons a t ih =>
    obtain ⟨xs, x, h1, h2⟩ := ih
    by_cases ha : a = c
    · subst ha; exact ⟨[] :: xs, x, by rw [spl_hit, h1]; rfl, by rw [List.cons_append, spl_hit, h2]; rfl⟩
    · cases xs with
      | nil => exact ⟨[], a :: x, by rw [spl, if_neg ha, h1]; rfl, by rw [List.cons_append, spl, if_neg ha, h2]; rfl⟩
      | cons y ys => exact ⟨(a :: y) :: ys, x, by rw [spl, if_neg ha, h1]; rfl, by rw [List.cons_append, spl, if_neg ha, h2]; rfl⟩
theorem spl_len_le (c : UInt8) (l : List UInt8) : (spl c l).length ≤ l.length + 1 := by
  induction l with
  | nil => simp [spl]
  | cons b t ih =>
    by_cases hb : b = c
    · subst hb; rw [spl_hit]; simp; exact ih
    · obtain ⟨x, xs, h1, h2⟩ := spl_miss hb t
      rw [h2]; rw [h1] at ih; simp at ih ⊢; omega
theorem spl_part_le (c : UInt8) (l : List UInt8) : ∀ x, x ∈ spl c l → x.length ≤ l.length := by
  induction l with
  | nil => intro x hx; simp [spl] at hx; subst hx; simp
  | cons b t ih =>
    intro x hx
    by_cases hb : b = c
    · subst hb; rw [spl_hit] at hx
      rcases List.mem_cons.1 hx with rfl | hx
      · simp
      · have := ih x hx; simp; omega
    · obtain ⟨y, ys, h1, h2⟩ := spl_miss hb t
      rw [h2] at hx
      rcases List.mem_cons.1 hx with rfl | hx
      · have := ih y (by rw [h1]; simp); simp; omega
      · have := ih x (by rw [h1]; simp [hx]); simp; omega
theorem tw_no (c : UInt8) (l : List UInt8) : c ∉ l.takeWhile (· ≠ c) := by
  induction l with
  | nil => simp
  | cons b t ih =>
    by_cases hb : b = c
    · simp [hb]
    · intro h
      rw [List.takeWhile_cons_of_pos (by simpa using hb)] at h
      rcases List.mem_cons.1 h with h | h
      · exact hb h.symm
      · exact ih h
theorem tw_split {c : UInt8} {l : List UInt8} (h : c ∈ l) : l = l.takeWhile (· ≠ c) ++ c :: (l.dropWhile (· ≠ c)).drop 1 := by
  induction l with
  | nil => simp at h
  | cons b t ih =>
    by_cases hb : b = c
    · simp [hb]
    · have := ih (by simpa [Ne.symm hb] using h)
      rw [List.takeWhile_cons_of_pos (by simpa using hb), List.dropWhile_cons_of_pos (by simpa using hb), List.cons_append, ← this]
theorem splitK_spl (c : UInt8) : ∀ (k : Nat) (l : List UInt8), l.count c = k → Lib.splitK [c] 0 k l = spl c l := by
  intro k
  induction k with
  | zero =>
    intro l h
    have hn : c ∉ l := List.count_eq_zero.1 h
    rw [spl_none hn]; rfl
  | succ k ih =>
    intro l h
    have hm : c ∈ l := List.count_pos_iff.1 (by omega)
    have hi := (idx_one c l).1 hm
    rw [spl_yes hm, Lib.splitK, if_neg (by rw [hi]; simp), hi]
    have e : ((l.takeWhile (· ≠ c)).length : Int).toNat = (l.takeWhile (· ≠ c)).length := Int.toNat_natCast _
    rw [e]
    obtain ⟨h1, h2⟩ := takeDrop c l
    rw [Nat.add_zero, h1]
    have h3 : l.drop ((l.takeWhile (· ≠ c)).length + [c].length) = (l.dropWhile (· ≠ c)).drop 1 := h2
    rw [h3]
    congr 1
    apply ih
    have h4 := tw_split hm
    rw [h4, List.count_append, List.count_eq_zero.2 (tw_no c l), List.count_cons_self] at h
    omega
theorem spl_part_no (c : UInt8) (l : List UInt8) : ∀ x, x ∈ spl c l → c ∉ x := by
  induction l with
  | nil => intro x hx; simp [spl] at hx; subst hx; simp
  | cons b t ih =>
    intro x hx
    by_cases hb : b = c
    · subst hb; rw [spl_hit] at hx
      rcases List.mem_cons.1 hx with rfl | hx
      · simp
      · exact ih x hx
    · obtain ⟨y, ys, h1, h2⟩ := spl_miss hb t
      rw [h2] at hx
      rcases List.mem_cons.1 hx with rfl | hx
      · have := ih y (by rw [h1]; simp); simp [this, Ne.symm hb]
      · exact ih x (by rw [h1]; simp [hx])

/-! ### Kinds -/
def kinds : List (List UInt8 × List UInt8) := [([], []), ([115, 116, 101, 112], [99]), ([116, 105, 99, 107], [110]), ([115, 112, 97, 119, 110], [105, 109]), ([101, 120, 105, 116], [105]), ([121, 105, 101, 108, 100], [105]), ([115, 108, 101, 101, 112], [105, 110]), ([119, 97, 107, 101], [105]), ([97, 102, 102, 105, 110], [105, 109]), ([119, 104, 101, 114, 101], [105]), ([97, 114, 109], [99, 110]), ([99, 97, 110, 99, 101, 108], [105]), ([114, 101, 113, 117, 101, 115, 116], [105, 109]), ([102, 114, 101, 101], [105]), ([114, 111, 117, 116, 101], [105, 109]), ([109, 97, 115, 107], [105]), ([117, 110, 109, 97, 115, 107], [105]), ([114, 97, 105, 115, 101], [105]), ([113, 117, 101, 117, 101], [99]), ([102, 108, 117, 115, 104], [105]), ([99, 97, 108, 108], [99]), ([97, 108, 108, 111, 99], [99]), ([103, 105, 118, 101], [99, 105]), ([111, 110, 108, 105, 110, 101], [99]), ([111, 102, 102, 108, 105, 110, 101], [99]), ([102, 97, 105, 108], [110]), ([104, 111, 108, 100], [99]), ([100, 114, 111, 112], [99]), ([108, 105, 109, 105, 116], [110]), ([115, 112, 101, 101, 100], [105, 110]), ([98, 97, 108, 97, 110, 99, 101], [])]
def kw (n : Int) : List UInt8 := if n < 0 then [] else (kinds.getD n.toNat ([], [])).1
def kf (n : Int) : List UInt8 := if n < 0 then [] else (kinds.getD n.toNat ([], [])).2
theorem kinds_len : kinds.length = 31 := rfl
theorem kw_out {n : Int} (h : n < 1 ∨ 30 < n) : kw n = [] ∧ kf n = [] := by
  unfold kw kf
  by_cases h0 : n < 0
  · simp [h0]
  · rw [if_neg h0, if_neg h0]
    by_cases h1 : n < 1
    · obtain rfl : n = 0 := by omega
      exact ⟨rfl, rfl⟩
    · have : kinds.length ≤ n.toNat := by rw [kinds_len]; omega
      rw [List.getD_eq_getElem?_getD, List.getElem?_eq_none this]; exact ⟨rfl, rfl⟩
theorem kw_at (k : Nat) : kw (k : Int) = (kinds.getD k ([], [])).1 ∧ kf (k : Int) = (kinds.getD k ([], [])).2 := by
  unfold kw kf; rw [if_neg (by omega), if_neg (by omega)]; exact ⟨rfl, rfl⟩
def isF (c : UInt8) : Bool := c == 99 || c == 105 || c == 109 || c == 110
theorem kinds_all : kinds.all (fun p => decide (p.1.length ≤ 7) && decide (p.2.length ≤ 2) && !p.1.contains 32 && !p.1.contains 10 && p.2.all isF) = true := by decide
theorem kind_facts (n : Int) : (kw n).length ≤ 7 ∧ (kf n).length ≤ 2 ∧ (32 : UInt8) ∉ kw n ∧ (10 : UInt8) ∉ kw n ∧ ∀ c, c ∈ kf n → isF c = true := by
  by_cases h0 : n < 0
  · simp [kw, kf, h0]
  · by_cases h : n.toNat < kinds.length
    · have h1 := List.all_eq_true.1 kinds_all (kinds[n.toNat]) (List.getElem_mem h)
      have e : kinds.getD n.toNat ([], []) = kinds[n.toNat] := by rw [List.getD_eq_getElem?_getD, List.getElem?_eq_getElem h, Option.getD_some]
      unfold kw kf
      rw [if_neg h0, if_neg h0, e]
      simp only [Bool.and_eq_true, decide_eq_true_eq, Bool.not_eq_true', List.all_eq_true] at h1
      obtain ⟨⟨⟨⟨h1, h2⟩, h3⟩, h4⟩, h5⟩ := h1
      refine ⟨h1, h2, ?_, ?_, h5⟩
      · intro hm; rw [List.contains_iff_mem.2 hm] at h3; cases h3
      · intro hm; rw [List.contains_iff_mem.2 hm] at h4; cases h4
    · have := kw_out (n := n) (.inr (by rw [kinds_len] at h; omega))
      rw [this.1, this.2]; simp
def kindF (w : List UInt8) : Nat → Nat → Int
  | 0, _ => 0
  | f + 1, k => if kw (k : Int) = w then k else kindF w f (k + 1)
/-- The kind whose word it is. -/
def kindOf (w : List UInt8) : Int := kindF w 30 1
theorem kindF_step (w : List UInt8) (k : Nat) (h : k ≤ 30) : kindF w (31 - k) k = if kw (k : Int) = w then (k : Int) else kindF w (31 - (k + 1)) (k + 1) := by
  rw [show 31 - k = (30 - k) + 1 by omega, kindF, show 31 - (k + 1) = 30 - k by omega]
theorem kindOf_kw_fin : ∀ k : Fin 31, 1 ≤ k.val → kindOf (kw (k.val : Int)) = (k.val : Int) ∧ kw (k.val : Int) ≠ [] := by decide +kernel
theorem kindOf_kw {n : Int} (h : 1 ≤ n ∧ n ≤ 30) : kindOf (kw n) = n ∧ kw n ≠ [] := by
  have := kindOf_kw_fin ⟨n.toNat, by omega⟩ (by show 1 ≤ n.toNat; omega)
  have e : ((n.toNat : Nat) : Int) = n := by omega
  simp only [e] at this; exact this
theorem kindF_le (w : List UInt8) : ∀ (f k : Nat), f + k = 31 → kindF w f k = 0 ∨ (k ≤ kindF w f k ∧ kindF w f k ≤ 30) := by
  intro f
  induction f with
  | zero => intro k _; exact .inl rfl
  | succ f ih =>
    intro k h
    rw [kindF]
    split
    · right; omega
    · have := ih (k + 1) (by omega); omega
theorem kindOf_le (w : List UInt8) : 0 ≤ kindOf w ∧ kindOf w ≤ 30 := by have := kindF_le w 30 1 (by decide); unfold kindOf; omega

/-! ### Events -/
structure EV where
  k : Int
  c : Int
  i : Int
  m : Nat
  n : Int
def EV.zero : EV := ⟨0, 0, 0, 0, 0⟩
def EV.cells (e : EV) : Array Value := #[.int .i64 e.k, .int .i64 e.c, .int .i64 e.i, .int .u64 e.m, .int .i64 e.n]
def EV.agg (e : EV) : Value := .agg e.cells
structure EV.Ok (e : EV) : Prop where
  k : I64 e.k
  c : I64 e.c
  i : I64 e.i
  m : e.m < 18446744073709551616
  n : I64 e.n
theorem I64_zero : I64 0 := by unfold I64; omega
theorem EV.zero_ok : EV.zero.Ok := ⟨I64_zero, I64_zero, I64_zero, by decide, I64_zero⟩
def EV.same (a b : EV) : Bool := a.k == b.k && a.c == b.c && a.i == b.i && a.m == b.m && a.n == b.n
theorem EV.same_iff (a b : EV) : a.same b = true ↔ a = b := by
  cases a; cases b; simp [EV.same, and_assoc]
/-- A field's text. -/
def ftext (e : EV) (f : UInt8) : List UInt8 := if f = 99 then Lib.itoa e.c else if f = 105 then Lib.itoa e.i else if f = 109 then maskL (bitsUp e.m) else Lib.itoa e.n
/-- One field of an event in another one. -/
def EV.cp (e x : EV) (f : UInt8) : EV := if f = 99 then { x with c := e.c } else if f = 105 then { x with i := e.i } else if f = 109 then { x with m := e.m } else { x with n := e.n }
def EV.only (e : EV) : EV := (kf e.k).foldl e.cp { EV.zero with k := e.k }
def EV.bytes (e : EV) : List UInt8 := kw e.k ++ (kf e.k).flatMap fun f => 32 :: ftext e f
/-- An event as a line. -/
def EV.line (e : EV) : Option (List UInt8) := if kw e.k = [] ∨ e.only.same e = false then none else some e.bytes
def lineV (o : Option (List UInt8)) : Value := match o with
  | none => .tuple #[St [], .int .i64 2]
  | some l => .tuple #[St l, .int .i64 0]

/-! ### Back -/
def orBits : List Int → Nat → Nat
  | [], m => m
  | n :: ns, m => orBits ns (m ||| 2 ^ n.toNat)
def masks : List (List UInt8) → Nat → Option Nat
  | [], m => some m
  | w :: ws, m => match numOf w with
    | none => none
    | some n => if 0 ≤ n ∧ n < 64 then masks ws (m ||| 2 ^ n.toNat) else none
def maskOf (l : List UInt8) : Option Nat := if l = [] then some 0 else match masks (spl 44 l) 0 with
  | none => none
  | some m => if maskL (bitsUp m) = l then some m else none
def setF (e : EV) (f : UInt8) (w : List UInt8) : Option EV :=
  if f = 99 then (numOf w).map fun n => { e with c := n } else if f = 105 then (numOf w).map fun n => { e with i := n }
  else if f = 109 then (maskOf w).map fun m => { e with m := m } else (numOf w).map fun n => { e with n := n }
def setAll : List UInt8 → List (List UInt8) → EV → Option EV
  | [], _, e => some e
  | _ :: _, [], _ => none
  | f :: fs, w :: ws, e => match setF e f w with
    | none => none
    | some e' => setAll fs ws e'
/-- A line as an event. -/
def parse (l : List UInt8) : Option EV :=
  let ws := spl 32 l
  let k := kindOf (ws.headD [])
  if k = 0 ∨ ws.length ≠ (kf k).length + 1 then none else setAll (kf k) ws.tail { EV.zero with k := k }
def parseE (l : List UInt8) : EV × Int := if 300 < l.length then (EV.zero, 15) else match parse l with
  | none => (EV.zero, 13)
  | some e => (e, 0)
def parseV (l : List UInt8) : Value := .tuple #[(parseE l).1.agg, .int .i64 (parseE l).2]

/-! ### Texts -/
def readGo : List EV → Nat → List (List UInt8) → List EV × Nat × Int
  | acc, _, [] => (acc, 0, 0)
  | acc, at_, x :: rest => if rest = [] then (if x = [] then (acc, 0, 0) else ([], at_, 13)) else
    if (parseE x).2 ≠ 0 then ([], at_, 13) else if 600 ≤ acc.length then ([], at_, 15) else readGo (acc ++ [(parseE x).1]) (at_ + 1) rest
def readE (t : List UInt8) : List EV × Nat × Int := if 16000 < t.length then ([], 0, 15) else readGo [] 0 (spl 10 t)
def textGo : List EV → List UInt8 → Option (List UInt8)
  | [], acc => some acc
  | e :: es, acc => match e.line with
    | none => none
    | some l => textGo es (acc ++ l ++ [10])
def textE (l : List EV) : List UInt8 × Int := if 600 < l.length then ([], 15) else match textGo l [] with
  | none => ([], 2)
  | some t => (t, 0)

end Go.Proofs.YtcjngndgmedabaaDoor
