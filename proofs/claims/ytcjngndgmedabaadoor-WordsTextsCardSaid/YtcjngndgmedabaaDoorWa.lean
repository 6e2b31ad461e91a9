/-
  Numerals: davitref32.Number, plainly and walked; what the library variables hold.
-/
import Derived.Test.YtcjngndgmedabaaDoorTx
import Derived.Test.YtcjngndgmedabaaDoorShelf
import Derived.Lib.AppendIntMem
import Derived.Lib.AtoiErrMem
import Derived.Shelf.Spec.TrailingZeros
import Derived.Deep.RegionWith
import Derived.WalkSmall
import Derived.Handy
import Derived.Deep.QuietTactic
import Derived.BigQuiet
import Derived.Lib.ParseIntBTie
namespace Go.Proofs.YtcjngndgmedabaaDoor
open Go Go.RowKit
set_option linter.unusedVariables false
set_option linter.unusedSimpArgs false

/-- What the library's variables hold. -/
structure GW (w : World) : Prop where
  pow : Lib.TabIs Tryd.prog w "internal/strconv.uint64pow10" .u64 Lib.pow10Tab
  mx : ∃ m, w.cell? ⟨0, 0, none⟩ = some (.int .i64 m)
  syn : ∃ tp p, w.cell? ⟨3, 0, none⟩ = some (.iface tp p)
  rng : ∃ tp p, w.cell? ⟨4, 0, none⟩ = some (.iface tp p)
  tz : TabAt 1 Lib.deBruijn64tab w
  sz : 8 ≤ w.heap.size

theorem gPow : Tryd.prog.globalNamed "internal/strconv.uint64pow10" = some 2 := by kernel_rfl

theorem GW.below {w w' : World} {B : Nat} (h : GW w) (hb : Below B w w') (hB : 8 ≤ B) : GW w' where
  pow := var?_below hb gPow (by omega) h.pow
  mx := h.mx.imp fun m hm => (hb.cell (p := ⟨0, 0, none⟩) (by show 0 < B; omega)).trans hm
  syn := h.syn.imp fun _ x => x.imp fun _ y => (hb.cell (p := ⟨3, 0, none⟩) (by show 3 < B; omega)).trans y
  rng := h.rng.imp fun _ x => x.imp fun _ y => (hb.cell (p := ⟨4, 0, none⟩) (by show 4 < B; omega)).trans y
  tz := fun j hj => (hb.cell (p := ⟨1, j, none⟩) (by show 1 < B; omega)).trans (h.tz j hj)
  sz := Nat.le_trans h.sz hb.size

theorem GW.next {w w' : World} (h : GW w) (hb : Below w.heap.size w w') : GW w' := h.below hb h.sz
def I64 (n : Int) : Prop := -9223372036854775808 ≤ n ∧ n ≤ 9223372036854775807

theorem bcell {W w1 : World} (hb : Below W.heap.size W w1) : (∀ b o, b < W.heap.size → w1.cell? ⟨b, o, none⟩ = W.cell? ⟨b, o, none⟩) ∧ (∀ b o, b < W.heap.size → w1.frozen? ⟨b, o, none⟩ = W.frozen? ⟨b, o, none⟩) :=
  ⟨fun b o h => hb.cell (p := ⟨b, o, none⟩) h, fun b o h => hb.frozen (p := ⟨b, o, none⟩) h⟩

theorem bsz (l : List UInt8) : (⟨l.toArray⟩ : ByteArray).size = l.length := by simp [ByteArray.size]
theorem bget (l : List UInt8) (k : Nat) (hp : k < (⟨l.toArray⟩ : ByteArray).size) : (⟨l.toArray⟩ : ByteArray)[k] = l.getD k 0 := by
  have h : k < l.length := by rw [bsz] at hp; exact hp
  show l.toArray[k] = _
  simp [List.getD_eq_getElem?_getD, h]
theorem bget_is {l : List UInt8} {k : Nat} {hp : k < (⟨l.toArray⟩ : ByteArray).size} {c : Nat} (hc : c < 256) (h : ((((⟨l.toArray⟩ : ByteArray)[k]).toNat : Int) == (c : Int)) = true) : l.getD k 0 = UInt8.ofNat c := by
  rw [bget, beq_iff_eq] at h
  apply UInt8.toNat_inj.1
  rw [UInt8.toNat_ofNat_of_lt' (by simpa using hc)]; omega
theorem bget_no {l : List UInt8} {k : Nat} {hp : k < (⟨l.toArray⟩ : ByteArray).size} {c : Nat} (hc : c < 256) (h : ((((⟨l.toArray⟩ : ByteArray)[k]).toNat : Int) == (c : Int)) = false) : l.getD k 0 ≠ UInt8.ofNat c := by
  rw [bget, beq_eq_false_iff_ne] at h
  intro e; apply h; rw [e, UInt8.toNat_ofNat_of_lt' (by simpa using hc)]

theorem take_upto (l : List UInt8) (c : UInt8) : ∀ (k : Nat), k < l.length → (∀ j, j < k → l.getD j 0 ≠ c) → l.getD k 0 = c → l.takeWhile (· ≠ c) = l.take k ∧ (l.dropWhile (· ≠ c)).drop 1 = l.drop (k + 1) := by
  induction l with
  | nil => intro k h; simp at h
  | cons x l ih =>
    intro k hk hj hc
    cases k with
    | zero => simp at hc; subst hc; simp
    | succ k =>
      have hx : x ≠ c := by simpa using hj 0 (by omega)
      obtain ⟨h1, h2⟩ := ih k (by simpa using hk) (fun j hjk => by simpa using hj (j + 1) (by omega)) (by simpa using hc)
      simp [hx] at h1 h2 ⊢
      exact ⟨h1, h2⟩
theorem take_none (l : List UInt8) (c : UInt8) (h : ∀ j, j < l.length → l.getD j 0 ≠ c) : l.takeWhile (· ≠ c) = l ∧ (l.dropWhile (· ≠ c)).drop 1 = [] := by
  induction l with
  | nil => simp
  | cons x l ih =>
    have hx : x ≠ c := by simpa using h 0 (by simp)
    obtain ⟨h1, h2⟩ := ih (fun j hj => by simpa using h (j + 1) (by simp; omega))
    simp [hx] at h1 h2 ⊢
    exact ⟨h1, h2⟩

def isDig (c : UInt8) : Prop := 48 ≤ c.toNat ∧ c.toNat ≤ 57
def dval (ds : List UInt8) : Nat := ds.foldl (fun a c => a * 10 + (c.toNat - 48)) 0
theorem dval_snoc (ds : List UInt8) (c : UInt8) : dval (ds ++ [c]) = dval ds * 10 + (c.toNat - 48) := by simp [dval, List.foldl_append]
theorem dval_lt_from (ds : List UInt8) : ∀ (a : Nat), (∀ c, c ∈ ds → isDig c) → ds.foldl (fun a c => a * 10 + (c.toNat - 48)) a < (a + 1) * 10 ^ ds.length := by
  induction ds with
  | nil => intro a _; simp
  | cons c ds ih =>
    intro a h
    have h2 := h c (by simp)
    have h1 := ih (a * 10 + (c.toNat - 48)) (fun x hx => h x (by simp [hx]))
    unfold isDig at h2
    rw [List.foldl_cons, List.length_cons, Nat.pow_succ]
    refine Nat.lt_of_lt_of_le h1 ?_
    rw [Nat.mul_comm (10 ^ ds.length) 10, ← Nat.mul_assoc]
    exact Nat.mul_le_mul_right _ (by omega)
theorem dval_lt (ds : List UInt8) (h : ∀ c, c ∈ ds → isDig c) : dval ds < 10 ^ ds.length := by
  have := dval_lt_from ds 0 h
  simpa [dval] using this

theorem digit_toNat (u : Nat) (h : u < 10) : (UInt8.ofNat (48 + u)).toNat = 48 + u := UInt8.toNat_ofNat_of_lt' (by show _ < 256; omega)

theorem dec_dig : ∀ (u : Nat), ∀ c, c ∈ Lib.decDigits u → isDig c := by
  intro u
  induction u using Nat.strongRecOn with
  | _ u ih =>
    intro c hc
    by_cases h : u < 10
    · rw [dec_small h] at hc; obtain rfl := List.mem_singleton.1 hc; unfold isDig; rw [digit_toNat u h]; omega
    · rw [dec_big h] at hc
      rcases List.mem_append.1 hc with hc | hc
      · exact ih (u / 10) (by omega) c hc
      · obtain rfl := List.mem_singleton.1 hc; unfold isDig; rw [digit_toNat _ (by omega)]; omega
theorem dec_val : ∀ (u : Nat), dval (Lib.decDigits u) = u := by
  intro u
  induction u using Nat.strongRecOn with
  | _ u ih =>
    by_cases h : u < 10
    · rw [dec_small h]; simp only [dval, List.foldl_cons, List.foldl_nil]; rw [digit_toNat u h]; omega
    · rw [dec_big h, dval_snoc, ih (u / 10) (by omega), digit_toNat _ (by omega)]; omega
theorem dec_len (u : Nat) (h : u < 10000000000000000000) : 1 ≤ (Lib.decDigits u).length ∧ (Lib.decDigits u).length ≤ 19 := by
  rw [Lib.decDigits_length]
  refine ⟨Lib.nDigits_pos u, ?_⟩
  have key : ∀ (k u : Nat), u < 10 ^ k → 1 ≤ k → Lib.nDigits u ≤ k := by
    intro k
    induction k with
    | zero => intro u _ h; omega
    | succ k ih =>
      intro u h _
      by_cases h10 : u < 10
      · rw [Lib.nDigits_small h10]; omega
      · rw [Lib.nDigits_big h10]
        have : u / 10 < 10 ^ k := by rw [Nat.pow_succ] at h; omega
        cases k with
        | zero => simp at this; omega
        | succ k => have := ih (u / 10) this (by omega); omega
  exact key 19 u (by simpa using h) (by omega)

theorem dec_head (u : Nat) : (Lib.decDigits u).getD 0 0 ≠ 45 := by
  have hl : 0 < (Lib.decDigits u).length := by rw [Lib.decDigits_length]; exact Lib.nDigits_pos u
  have h := dec_dig u ((Lib.decDigits u).getD 0 0) (by rw [List.getD_eq_getElem?_getD, List.getElem?_eq_getElem hl, Option.getD_some]; exact List.getElem_mem hl)
  intro e; rw [e] at h; unfold isDig at h; revert h; decide

/-- What a numeral looks like. -/
theorem itoa_neg {n : Int} (h : n < 0) : Lib.itoa n = 45 :: Lib.decDigits n.natAbs := by rw [Lib.itoa, if_pos h]
theorem itoa_pos {n : Int} (h : 0 ≤ n) : Lib.itoa n = Lib.decDigits n.toNat := by rw [Lib.itoa, if_neg (by omega)]
theorem itoa_head (n : Int) : (Lib.itoa n).getD 0 0 = 45 ↔ n < 0 := by
  by_cases h : n < 0
  · rw [itoa_neg h]; simp [h]
  · rw [itoa_pos (by omega)]; simp only [h, iff_false]; exact dec_head _

/-- A text is a numeral: what the reference's Number comes to. -/
def NumPost (l : List UInt8) (e : Ending) : Prop :=
  (∃ n, I64 n ∧ l = Lib.itoa n ∧ e = .returned (.tuple #[.int .i64 n, .bool true])) ∨ ((∀ n, I64 n → l ≠ Lib.itoa n) ∧ ∃ n, e = .returned (.tuple #[.int .i64 n, .bool false]))

/-- Where its digits begin. -/
def from_ (l : List UInt8) : Nat := if l.getD 0 0 = 45 then 1 else 0

theorem num_facts {l : List UInt8} {n : Int} (hn : I64 n) (h : l = Lib.itoa n) :
    from_ l + 1 ≤ l.length ∧ l.length - from_ l ≤ 19 ∧ (∀ j, from_ l ≤ j → j < l.length → isDig (l.getD j 0)) ∧
    (from_ l = 1 → (dval (l.drop 1) : Int) = -n ∧ n < 0) ∧ (from_ l = 0 → (dval (l.drop 0) : Int) = n ∧ 0 ≤ n) := by
  obtain ⟨hn1, hn2⟩ := hn
  have hh := itoa_head n
  rw [← h] at hh
  by_cases hneg : n < 0
  · have e1 : from_ l = 1 := by unfold from_; rw [if_pos (hh.2 hneg)]
    rw [itoa_neg hneg] at h
    have hd := dec_len n.natAbs (by omega)
    subst h
    refine ⟨by rw [e1]; simp; omega, by rw [e1]; simp; omega, ?_, ?_, by omega⟩
    · intro j h1 h2
      rw [e1] at h1
      obtain ⟨j, rfl⟩ : ∃ i, j = i + 1 := ⟨j - 1, by omega⟩
      have h3 : j < (Lib.decDigits n.natAbs).length := by simpa using h2
      have : (45 :: Lib.decDigits n.natAbs).getD (j + 1) 0 = (Lib.decDigits n.natAbs)[j] := by simp [List.getD_eq_getElem?_getD, h3]
      rw [this]; exact dec_dig _ _ (List.getElem_mem h3)
    · intro _
      refine ⟨?_, hneg⟩
      have : (45 :: Lib.decDigits n.natAbs).drop 1 = Lib.decDigits n.natAbs := rfl
      rw [this, dec_val]; omega
  · have e1 : from_ l = 0 := by unfold from_; rw [if_neg (fun h => hneg (hh.1 h))]
    rw [itoa_pos (by omega)] at h
    have hd := dec_len n.toNat (by omega)
    subst h
    refine ⟨by rw [e1]; omega, by rw [e1]; omega, ?_, by omega, ?_⟩
    · intro j h1 h2
      have : (Lib.decDigits n.toNat).getD j 0 = (Lib.decDigits n.toNat)[j] := by simp [List.getD_eq_getElem?_getD, h2]
      rw [this]; exact dec_dig _ _ (List.getElem_mem h2)
    · intro _
      refine ⟨?_, by omega⟩
      rw [List.drop_zero, dec_val]; omega

theorem NumPost.no {l : List UInt8} (m : Int) (h : ∀ n, I64 n → l ≠ Lib.itoa n) : NumPost l (.returned (.tuple #[.int .i64 m, .bool false])) := .inr ⟨h, m, rfl⟩
theorem NumPost.long {l : List UInt8} (m : Int) (h : l.length < from_ l + 1 ∨ 19 < l.length - from_ l) : NumPost l (.returned (.tuple #[.int .i64 m, .bool false])) :=
  .no m fun n hn e => by have := num_facts hn e; omega
theorem NumPost.bad {l : List UInt8} (m : Int) (j : Nat) (h1 : from_ l ≤ j) (h2 : j < l.length) (h3 : ¬ isDig (l.getD j 0)) : NumPost l (.returned (.tuple #[.int .i64 m, .bool false])) :=
  .no m fun n hn e => h3 ((num_facts hn e).2.2.1 j h1 h2)
theorem NumPost.end {l : List UInt8} (m : Int) (hm : I64 m) (h : ∀ n, I64 n → l = Lib.itoa n → n = m) (e : Ending) (he : e = .returned (.tuple #[.int .i64 m, .bool (Lib.itoa m == l)])) : NumPost l e := by
  by_cases hl : Lib.itoa m = l
  · exact .inl ⟨m, hm, hl.symm, by rw [he]; simp [hl]⟩
  · exact .inr ⟨fun n hn hh => hl (by rw [hh, h n hn hh]), m, by rw [he]; simp [hl]⟩
theorem number_nil (w : World) : Calls Tryd.prog 34 #[St []] w fun e w' => e = .returned (.tuple #[.int .i64 0, .bool false]) ∧ w' = w := by
  go_enter Tryd.func34, Tryd.ntmps34
  go_wp2
  go_ret2
  exact ⟨rfl, rfl⟩

/-- The digits so far. -/
def upTo (l : List UInt8) (f k : Nat) : List UInt8 := (l.drop f).take (k - f)
theorem upTo_dig {l : List UInt8} {f k : Nat} (hk : k ≤ l.length) (h : ∀ j, f ≤ j → j < k → isDig (l.getD j 0)) : ∀ c, c ∈ upTo l f k → isDig c := by
  intro c hc
  obtain ⟨i, hi, rfl⟩ := List.getElem_of_mem hc
  have hi2 : i < k - f ∧ i < l.length - f := by simp [upTo] at hi; omega
  have := h (f + i) (by omega) (by omega)
  have e : l.getD (f + i) 0 = (upTo l f k)[i] := by
    simp [upTo, List.getD_eq_getElem?_getD, show f + i < l.length by omega]
  rw [← e]; exact this
theorem upTo_snoc (l : List UInt8) (f k : Nat) (h1 : f ≤ k) (h2 : k < l.length) : upTo l f (k + 1) = upTo l f k ++ [l.getD k 0] := by
  unfold upTo
  rw [show k + 1 - f = (k - f) + 1 by omega, List.take_add_one]
  congr 1
  simp [List.getD_eq_getElem?_getD, show f + (k - f) = k by omega, h2]
theorem upTo_len (l : List UInt8) (f k : Nat) : (upTo l f k).length ≤ k - f := by simp [upTo]; omega
theorem upTo_val {l : List UInt8} {f k : Nat} (hk : k ≤ l.length) (h : ∀ j, f ≤ j → j < k → isDig (l.getD j 0)) (hlen : k - f ≤ 19) : dval (upTo l f k) < 10000000000000000000 := by
  have h1 := dval_lt _ (upTo_dig hk h)
  have h2 := upTo_len l f k
  have h3 : 10 ^ (upTo l f k).length ≤ 10 ^ 19 := Nat.pow_le_pow_right (by decide) (by omega)
  have h4 : (10 : Nat) ^ 19 = 10000000000000000000 := by decide
  omega

def DigTo (l : List UInt8) (f k : Nat) : Prop := ∀ j, f ≤ j → j < k → isDig (l.getD j 0)
theorem DigTo.step {l : List UInt8} {f k : Nat} (h : DigTo l f k) (h2 : isDig (l.getD k 0)) : DigTo l f (k + 1) := fun j h1 hj => by
  by_cases e : j = k
  · subst e; exact h2
  · exact h j h1 (by omega)
theorem wrap64_I64 (x : Int) : I64 (wrap64 x) := by unfold wrap64 I64; omega
theorem bget_ge {l : List UInt8} {k : Nat} {hp : k < (⟨l.toArray⟩ : ByteArray).size} {c : Nat} (h : (c : Int) ≤ (((⟨l.toArray⟩ : ByteArray)[k]).toNat : Int)) : c ≤ (l.getD k 0).toNat := by
  rw [bget] at h; omega
theorem bget_le {l : List UInt8} {k : Nat} {hp : k < (⟨l.toArray⟩ : ByteArray).size} {c : Nat} (h : (((⟨l.toArray⟩ : ByteArray)[k]).toNat : Int) ≤ (c : Int)) : (l.getD k 0).toNat ≤ c := by
  rw [bget] at h; omega
theorem bget_lt {l : List UInt8} {k : Nat} {hp : k < (⟨l.toArray⟩ : ByteArray).size} {c : Nat} (h : (((⟨l.toArray⟩ : ByteArray)[k]).toNat : Int) < (c : Int)) : (l.getD k 0).toNat < c := by
  rw [bget] at h; omega
theorem bget_gt {l : List UInt8} {k : Nat} {hp : k < (⟨l.toArray⟩ : ByteArray).size} {c : Nat} (h : (c : Int) < (((⟨l.toArray⟩ : ByteArray)[k]).toNat : Int)) : c < (l.getD k 0).toNat := by
  rw [bget] at h; omega

theorem long1 {l : List UInt8} (h : (((l.length : Int) == 1) = true) ∨ 19 < (l.length : Int) - 1) : l.length < 1 + 1 ∨ 19 < l.length - 1 := by
  rcases h with h | h
  · rw [beq_iff_eq] at h; omega
  · omega
theorem long0 {l : List UInt8} (hpos : 0 < l.length) (h : (((l.length : Int) == 0) = true) ∨ 19 < (l.length : Int)) : l.length < 0 + 1 ∨ 19 < l.length - 0 := by
  rcases h with h | h
  · rw [beq_iff_eq] at h; omega
  · omega

theorem dig_next (u c : Nat) (h : 48 ≤ c) : Value.int .u64 ((u : Int) * 10 + ((c : Int) - 48)) = .int .u64 ((u * 10 + (c - 48) : Nat) : Int) := by congr 1; omega
theorem upTo_all (l : List UInt8) (f : Nat) : upTo l f l.length = l.drop f := by unfold upTo; exact List.take_of_length_le (by simp)
theorem back_neg {l : List UInt8} (hf : from_ l = 1) (n : Int) (hn : I64 n) (h : l = Lib.itoa n) : n = wrap64 (IntKind.u64.wrap (-((dval (upTo l 1 l.length) : Nat) : Int))) := by
  obtain ⟨e, hneg⟩ := (num_facts hn h).2.2.2.1 hf
  rw [upTo_all, e]
  unfold I64 at hn
  simp only [IntKind.wrap_u64, wrap64]; omega
theorem back_pos {l : List UInt8} (hf : from_ l = 0) (n : Int) (hn : I64 n) (h : l = Lib.itoa n) : n = wrap64 ((dval (upTo l 0 l.length) : Nat) : Int) := by
  obtain ⟨e, hneg⟩ := (num_facts hn h).2.2.2.2 hf
  rw [upTo_all, e]
  unfold I64 at hn
  simp only [wrap64]; omega

set_option maxRecDepth 100000 in
set_option maxHeartbeats 2000000 in
theorem number_any (l : List UInt8) (hl : l.length ≤ 4000) (hpos : 0 < l.length) (w : World) : Calls Tryd.prog 34 #[St l] w fun e w' => NumPost l e ∧ w' = w := by
  have hne : l ≠ [] := by intro e; subst e; simp at hpos
  go_enter Tryd.func34, Tryd.ntmps34
  go_wp2
  · have hm : l.getD 0 0 = 45 := bget_is (hp := by rw [bsz]; exact hpos) (c := 45) (by decide) (by assumption)
    go_ret2
    exact ⟨NumPost.long _ (by unfold from_; rw [if_pos hm]; omega), rfl⟩
  · have hm : l.getD 0 0 = 45 := bget_is (hp := by rw [bsz]; exact hpos) (c := 45) (by decide) (by assumption)
    have h : (((l.length : Int) == 1) = true) ∨ 19 < (l.length : Int) - 1 := by assumption
    have HL := Lib.hid (long1 h)
    clear h
    go_ret2
    exact ⟨NumPost.long _ (by unfold from_; rw [if_pos hm]; exact HL.out), rfl⟩
  · have hm : l.getD 0 0 = 45 := bget_is (hp := by rw [bsz]; exact hpos) (c := 45) (by decide) (by assumption)
    have hlen : ((l.length : Int) == 1) = false ∧ (l.length : Int) - 1 ≤ 19 := by assumption
    have hl20 : l.length ≤ 20 := by omega
    have hf : from_ l = 1 := by unfold from_; rw [if_pos hm]
    have HF := Lib.hid hf; clear hf
    have hl19 : l.length - 1 ≤ 19 := by omega
    go_loop [2, 3, 4, 6] (fun _ _ a b => ∃ k : Nat, 1 ≤ k ∧ k ≤ l.length ∧ a = .int .u64 (dval (upTo l 1 k)) ∧ b = .int .i64 k ∧ DigTo l 1 k) (fun _ _ _ b => l.length - (intOf b).toNat)
    case atStart => exact ⟨1, by omega, by omega, by simp [upTo, dval], rfl, fun j h1 h2 => by omega⟩
    case round =>
      obtain ⟨k, hk1, hk, rfl, rfl, H⟩ := hrel
      have hv := upTo_val hk H (by omega)
      by_cases hlt : k < l.length
      · have HS := Lib.hid (upTo_snoc l 1 k hk1 hlt)
        have hv2 := upTo_val (k := k) (f := 1) hk H (by omega)
        have hv3 : dval (upTo l 1 k) ≤ 1000000000000000000 := by
          have h1 := dval_lt _ (upTo_dig hk H)
          have h2 := upTo_len l 1 k
          have h3 : 10 ^ (upTo l 1 k).length ≤ 10 ^ 18 := Nat.pow_le_pow_right (by decide) (by omega)
          have h4 : (10 : Nat) ^ 18 = 1000000000000000000 := by decide
          omega
        clear hv hv2
        generalize hu : dval (upTo l 1 k) = u at *
        have HU := Lib.hid hu; clear hu
        have HH := Lib.hid H; clear H
        go_wp2
        · go_ret2
          exact ⟨NumPost.bad _ k (by rw [HF.out]; exact hk1) hlt (fun hd => by
            have h1 : (((⟨l.toArray⟩ : ByteArray)[k]'(by rw [bsz]; exact hlt)).toNat : Int) < 48 ∨ 57 < (((⟨l.toArray⟩ : ByteArray)[k]'(by rw [bsz]; exact hlt)).toNat : Int) := by assumption
            unfold isDig at hd
            rcases h1 with h1 | h1
            · have := bget_lt (c := 48) h1; omega
            · have := bget_gt (c := 57) h1; omega), rfl⟩
        · have h1 : 48 ≤ (((⟨l.toArray⟩ : ByteArray)[k]'(by rw [bsz]; exact hlt)).toNat : Int) ∧ (((⟨l.toArray⟩ : ByteArray)[k]'(by rw [bsz]; exact hlt)).toNat : Int) ≤ 57 := by assumption
          have hd : isDig (l.getD k 0) := ⟨bget_ge (c := 48) h1.1, bget_le (c := 57) h1.2⟩
          go_round
          case rel => exact ⟨_, _, .int .u64 ((dval (upTo l 1 (k + 1)) : Nat) : Int), .int .i64 ((k + 1 : Nat) : Int), ⟨k + 1, by omega, by omega, rfl, rfl, HH.out.step hd⟩, rfl, rfl, by rw [HS.out, dval_snoc, HU.out, bget]; exact dig_next _ _ hd.1, by go_num⟩
          case measure => simp [intOf]; omega
        · go_ret2
          exact ⟨NumPost.bad _ k (by rw [HF.out]; exact hk1) hlt (fun hd => by
            have h1 : (((⟨l.toArray⟩ : ByteArray)[k]'(by rw [bsz]; exact hlt)).toNat : Int) < 48 := by assumption
            unfold isDig at hd
            have := bget_lt (c := 48) h1; omega), rfl⟩
      · obtain rfl : k = l.length := by omega
        have HH := Lib.hid H; clear H
        go_wp2_with fail
        refine (num_any _ (wrap64_I64 _).1 (wrap64_I64 _).2 _).mono ?_
        rintro e w' ⟨rfl, rfl⟩
        go_wp2
        go_ret2
        exact ⟨NumPost.end _ (wrap64_I64 _) (back_neg HF.out) _ rfl, rfl⟩
  · have hm : l.getD 0 0 ≠ 45 := bget_no (hp := by rw [bsz]; exact hpos) (c := 45) (by decide) (by assumption)
    have h : (((l.length : Int) == 0) = true) ∨ 19 < (l.length : Int) := by assumption
    have HL := Lib.hid (long0 hpos h)
    clear h
    go_ret2
    exact ⟨NumPost.long _ (by unfold from_; rw [if_neg hm]; exact HL.out), rfl⟩
  · have hm : l.getD 0 0 ≠ 45 := bget_no (hp := by rw [bsz]; exact hpos) (c := 45) (by decide) (by assumption)
    have hlen : ((l.length : Int) == 0) = false ∧ (l.length : Int) ≤ 19 := by assumption
    have hl20 : l.length ≤ 20 := by omega
    have hf : from_ l = 0 := by unfold from_; rw [if_neg hm]
    have HF := Lib.hid hf; clear hf
    have hl19 : l.length - 0 ≤ 19 := by omega
    go_loop [2, 3, 4, 6] (fun _ _ a b => ∃ k : Nat, 0 ≤ k ∧ k ≤ l.length ∧ a = .int .u64 (dval (upTo l 0 k)) ∧ b = .int .i64 k ∧ DigTo l 0 k) (fun _ _ _ b => l.length - (intOf b).toNat)
    case atStart => exact ⟨0, by omega, by omega, by simp [upTo, dval], rfl, fun j h1 h2 => by omega⟩
    case round =>
      obtain ⟨k, hk1, hk, rfl, rfl, H⟩ := hrel
      have hv := upTo_val hk H (by omega)
      by_cases hlt : k < l.length
      · have HS := Lib.hid (upTo_snoc l 0 k hk1 hlt)
        have hv2 := upTo_val (k := k) (f := 0) hk H (by omega)
        have hv3 : dval (upTo l 0 k) ≤ 1000000000000000000 := by
          have h1 := dval_lt _ (upTo_dig hk H)
          have h2 := upTo_len l 0 k
          have h3 : 10 ^ (upTo l 0 k).length ≤ 10 ^ 18 := Nat.pow_le_pow_right (by decide) (by omega)
          have h4 : (10 : Nat) ^ 18 = 1000000000000000000 := by decide
          omega
        clear hv hv2
        generalize hu : dval (upTo l 0 k) = u at *
        have HU := Lib.hid hu; clear hu
        have HH := Lib.hid H; clear H
        go_wp2
        · go_ret2
          exact ⟨NumPost.bad _ k (by rw [HF.out]; exact hk1) hlt (fun hd => by
            have h1 : (((⟨l.toArray⟩ : ByteArray)[k]'(by rw [bsz]; exact hlt)).toNat : Int) < 48 ∨ 57 < (((⟨l.toArray⟩ : ByteArray)[k]'(by rw [bsz]; exact hlt)).toNat : Int) := by assumption
            unfold isDig at hd
            rcases h1 with h1 | h1
            · have := bget_lt (c := 48) h1; omega
            · have := bget_gt (c := 57) h1; omega), rfl⟩
        · have h1 : 48 ≤ (((⟨l.toArray⟩ : ByteArray)[k]'(by rw [bsz]; exact hlt)).toNat : Int) ∧ (((⟨l.toArray⟩ : ByteArray)[k]'(by rw [bsz]; exact hlt)).toNat : Int) ≤ 57 := by assumption
          have hd : isDig (l.getD k 0) := ⟨bget_ge (c := 48) h1.1, bget_le (c := 57) h1.2⟩
          go_round
          case rel => exact ⟨_, _, .int .u64 ((dval (upTo l 0 (k + 1)) : Nat) : Int), .int .i64 ((k + 1 : Nat) : Int), ⟨k + 1, by omega, rfl, rfl, HH.out.step hd⟩, rfl, rfl, by rw [HS.out, dval_snoc, HU.out, bget]; exact dig_next _ _ hd.1, by go_num⟩
          case measure => simp [intOf]; omega
        · go_ret2
          exact ⟨NumPost.bad _ k (by rw [HF.out]; exact hk1) hlt (fun hd => by
            have h1 : (((⟨l.toArray⟩ : ByteArray)[k]'(by rw [bsz]; exact hlt)).toNat : Int) < 48 := by assumption
            unfold isDig at hd
            have := bget_lt (c := 48) h1; omega), rfl⟩
      · obtain rfl : k = l.length := by omega
        have HH := Lib.hid H; clear H
        go_wp2_with fail
        refine (num_any _ (wrap64_I64 _).1 (wrap64_I64 _).2 _).mono ?_
        rintro e w' ⟨rfl, rfl⟩
        go_wp2
        go_ret2
        exact ⟨NumPost.end _ (wrap64_I64 _) (back_pos HF.out) _ rfl, rfl⟩
theorem parseM_ok (ds : List UInt8) : ∀ (acc : Nat), (∀ c, c ∈ ds → isDig c) → ds.foldl (fun a c => a * 10 + (c.toNat - 48)) acc ≤ 9223372036854775808 → Lib.parseUintM (2 ^ 64 - 1) acc ds = .ok (ds.foldl (fun a c => a * 10 + (c.toNat - 48)) acc) := by
  induction ds with
  | nil => intro acc _ _; rfl
  | cons c ds ih =>
    intro acc h hle
    have hd := h c (by simp)
    rw [List.foldl_cons] at hle ⊢
    have hge : ∀ (ds : List UInt8) (a : Nat), a ≤ ds.foldl (fun a c => a * 10 + (c.toNat - 48)) a := by
      intro ds
      induction ds with
      | nil => intro a; exact Nat.le_refl _
      | cons x ds ihh => intro a; rw [List.foldl_cons]; exact Nat.le_trans (by omega) (ihh _)
    have h2 := hge ds (acc * 10 + (c.toNat - 48))
    unfold isDig at hd
    rw [Lib.parseUintM, if_pos hd, if_neg (by omega), if_neg (by omega)]
    exact ih _ (fun x hx => h x (by simp [hx])) hle

theorem parse_itoa (n : Int) (hn : I64 n) : Lib.parseIntB 64 (Lib.itoa n) = .ok n := by
  obtain ⟨h1, h2⟩ := hn
  have hU : ∀ u : Nat, u ≤ 9223372036854775808 → Lib.parseUintB 64 (Lib.decDigits u) = .ok u := by
    intro u hu
    have hl := (dec_len u (by omega)).1
    rw [Lib.parseUintB, if_neg (by intro e; rw [e] at hl; simp at hl)]
    have := parseM_ok (Lib.decDigits u) 0 (dec_dig u) (by have := dec_val u; unfold dval at this; omega)
    rw [this]; congr 1; exact dec_val u
  by_cases h : n < 0
  · rw [itoa_neg h]
    have := hU n.natAbs (by omega)
    simp only [Lib.parseIntB]
    rw [if_pos (Or.inr (by decide)), this]
    simp only []
    rw [if_neg (by simp), if_neg (by simp; omega)]
    simp; omega
  · rw [itoa_pos (by omega)]
    have hl := (dec_len n.toNat (by omega)).1
    have hne := dec_dig n.toNat
    have hU' := hU n.toNat (by omega)
    revert hl hne hU'
    cases hc : Lib.decDigits n.toNat with
    | nil => intro hl; simp at hl
    | cons c r =>
      intro hl hne hU'
      have hd := hne c (by simp)
      unfold isDig at hd
      simp only [Lib.parseIntB]
      rw [if_neg (by omega), hU']
      simp only []
      rw [if_neg (by simp; omega), if_neg (by simp; omega), if_neg (by omega)]
      congr 1; omega

/-- The number that a text is, if it is one. -/
def numOf (t : List UInt8) : Option Int := match Lib.parseIntB 64 t with
  | .ok v => if Lib.itoa v = t then some v else none
  | _ => none
theorem numOf_itoa {n : Int} (h : I64 n) : numOf (Lib.itoa n) = some n := by unfold numOf; rw [parse_itoa n h]; simp
theorem numOf_some {t : List UInt8} {v : Int} (h : numOf t = some v) : I64 v ∧ Lib.itoa v = t := by
  unfold numOf at h
  split at h
  · rename_i u hu
    split at h
    · cases h
      have hb := Lib.parseIntB_bounds hu
      have : (2 : Nat) ^ (64 - 1) = 9223372036854775808 := by decide
      exact ⟨⟨by omega, by omega⟩, ‹_›⟩
    · cases h
  · cases h
theorem NumPost.cases {t : List UInt8} {e : Ending} (h : NumPost t e) : (∃ n, I64 n ∧ numOf t = some n ∧ e = .returned (.tuple #[.int .i64 n, .bool true])) ∨ (numOf t = none ∧ ∃ n, e = .returned (.tuple #[.int .i64 n, .bool false])) := by
  rcases h with ⟨n, hn, rfl, he⟩ | ⟨hno, n, he⟩
  · exact .inl ⟨n, hn, numOf_itoa hn, he⟩
  · refine .inr ⟨?_, n, he⟩
    cases hc : numOf t with
    | none => rfl
    | some v => exact absurd (numOf_some hc).2.symm (hno v (numOf_some hc).1)

theorem number_all (d : List UInt8) (hd : d.length ≤ 4000) (w : World) : Calls Tryd.prog 34 #[St d] w fun e w' => ((∃ n, I64 n ∧ numOf d = some n ∧ e = .returned (.tuple #[.int .i64 n, .bool true])) ∨ (numOf d = none ∧ ∃ n, e = .returned (.tuple #[.int .i64 n, .bool false]))) ∧ w' = w := by
  cases d with
  | nil => exact (number_nil w).mono fun e w' ⟨he, hw⟩ => ⟨.inr ⟨rfl, 0, he⟩, hw⟩
  | cons x t => exact (number_any (x :: t) hd (by simp) w).mono fun e w' ⟨he, hw⟩ => ⟨he.cases, hw⟩

end Go.Proofs.YtcjngndgmedabaaDoor
