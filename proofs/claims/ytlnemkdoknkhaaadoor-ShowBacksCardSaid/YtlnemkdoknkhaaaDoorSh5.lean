/-
  davitref32.Number tells whether a text is a numeral, and which number it is.
-/
import Derived.Test.YtlnemkdoknkhaaaDoorSh4
namespace Go.Proofs.YtlnemkdoknkhaaaDoor
open Go Go.RowKit
set_option linter.unusedVariables false
set_option linter.unusedSimpArgs false

theorem number_nil (w : World) : Calls Tryd.prog 14 #[St []] w fun e w' => e = .returned (.tuple #[.int .i64 0, .bool false]) ∧ w' = w := by
  go_enter Tryd.func14, Tryd.ntmps14
  go_wp2
  go_ret2
  exact ⟨rfl, rfl⟩

/-- The digits so far. -/
def upTo (l : List UInt8) (f k : Nat) : List UInt8 := (l.drop f).take (k - f)
theorem upTo_dig {l : List UInt8} {f k : Nat} (hk : k ≤ l.length) (h : ∀ j, f ≤ j → j < k → isDig (l.getD j 0)) : ∀ c, c ∈ upTo l f k → isDig c := by
  intro c hc
  obtain ⟨i, hi, rfl⟩ := List.getElem_of_mem hc
  have hi2 : i < k - f ∧ i < l.length - f := by simp [upTo] at hi; omega
  have := h (f + i) (by omega) (by omega)
  have e : l.getD (f + i) 0 = (upTo l f k)[i] := by
    simp [upTo, List.getD_eq_getElem?_getD, show f + i < l.length by omega]
  rw [← e]; exact this
theorem upTo_snoc (l : List UInt8) (f k : Nat) (h1 : f ≤ k) (h2 : k < l.length) : upTo l f (k + 1) = upTo l f k ++ [l.getD k 0] := by
  unfold upTo
  rw [show k + 1 - f = (k - f) + 1 by omega, List.take_add_one]
  congr 1
  simp [List.getD_eq_getElem?_getD, show f + (k - f) = k by omega, h2]
theorem upTo_len (l : List UInt8) (f k : Nat) : (upTo l f k).length ≤ k - f := by simp [upTo]; omega
theorem upTo_val {l : List UInt8} {f k : Nat} (hk : k ≤ l.length) (h : ∀ j, f ≤ j → j < k → isDig (l.getD j 0)) (hlen : k - f ≤ 19) : dval (upTo l f k) < 10000000000000000000 := by
  have h1 := dval_lt _ (upTo_dig hk h)
  have h2 := upTo_len l f k
  have h3 : 10 ^ (upTo l f k).length ≤ 10 ^ 19 := Nat.pow_le_pow_right (by decide) (by omega)
  have h4 : (10 : Nat) ^ 19 = 10000000000000000000 := by decide
  omega

def DigTo (l : List UInt8) (f k : Nat) : Prop := ∀ j, f ≤ j → j < k → isDig (l.getD j 0)
theorem DigTo.step {l : List UInt8} {f k : Nat} (h : DigTo l f k) (h2 : isDig (l.getD k 0)) : DigTo l f (k + 1) := fun j h1 hj => by
  by_cases e : j = k
  · subst e; exact h2
  · exact h j h1 (by omega)
theorem wrap64_I64 (x : Int) : I64 (wrap64 x) := by unfold wrap64 I64; omega
theorem bget_ge {l : List UInt8} {k : Nat} {hp : k < (⟨l.toArray⟩ : ByteArray).size} {c : Nat} (h : (c : Int) ≤ (((⟨l.toArray⟩ : ByteArray)[k]).toNat : Int)) : c ≤ (l.getD k 0).toNat := by
  rw [bget] at h; omega
theorem bget_le {l : List UInt8} {k : Nat} {hp : k < (⟨l.toArray⟩ : ByteArray).size} {c : Nat} (h : (((⟨l.toArray⟩ : ByteArray)[k]).toNat : Int) ≤ (c : Int)) : (l.getD k 0).toNat ≤ c := by
  rw [bget] at h; omega
theorem bget_lt {l : List UInt8} {k : Nat} {hp : k < (⟨l.toArray⟩ : ByteArray).size} {c : Nat} (h : (((⟨l.toArray⟩ : ByteArray)[k]).toNat : Int) < (c : Int)) : (l.getD k 0).toNat < c := by
  rw [bget] at h; omega
theorem bget_gt {l : List UInt8} {k : Nat} {hp : k < (⟨l.toArray⟩ : ByteArray).size} {c : Nat} (h : (c : Int) < (((⟨l.toArray⟩ : ByteArray)[k]).toNat : Int)) : c < (l.getD k 0).toNat := by
  rw [bget] at h; omega

theorem long1 {l : List UInt8} (h : (((l.length : Int) == 1) = true) ∨ 19 < (l.length : Int) - 1) : l.length < 1 + 1 ∨ 19 < l.length - 1 := by
  rcases h with h | h
  · rw [beq_iff_eq] at h; omega
  · omega
theorem long0 {l : List UInt8} (hpos : 0 < l.length) (h : (((l.length : Int) == 0) = true) ∨ 19 < (l.length : Int)) : l.length < 0 + 1 ∨ 19 < l.length - 0 := by
  rcases h with h | h
  · rw [beq_iff_eq] at h; omega
  · omega

theorem dig_next (u c : Nat) (h : 48 ≤ c) : Value.int .u64 ((u : Int) * 10 + ((c : Int) - 48)) = .int .u64 ((u * 10 + (c - 48) : Nat) : Int) := by congr 1; omega
theorem upTo_all (l : List UInt8) (f : Nat) : upTo l f l.length = l.drop f := by unfold upTo; exact List.take_of_length_le (by simp)
theorem back_neg {l : List UInt8} (hf : from_ l = 1) (n : Int) (hn : I64 n) (h : l = Lib.itoa n) : n = wrap64 (IntKind.u64.wrap (-((dval (upTo l 1 l.length) : Nat) : Int))) := by
  obtain ⟨e, hneg⟩ := (num_facts hn h).2.2.2.1 hf
  rw [upTo_all, e]
  unfold I64 at hn
  simp only [IntKind.wrap_u64, wrap64]; omega
theorem back_pos {l : List UInt8} (hf : from_ l = 0) (n : Int) (hn : I64 n) (h : l = Lib.itoa n) : n = wrap64 ((dval (upTo l 0 l.length) : Nat) : Int) := by
  obtain ⟨e, hneg⟩ := (num_facts hn h).2.2.2.2 hf
  rw [upTo_all, e]
  unfold I64 at hn
  simp only [wrap64]; omega

set_option maxRecDepth 100000 in
set_option maxHeartbeats 2000000 in
theorem number_any (l : List UInt8) (hl : l.length ≤ 4000) (hpos : 0 < l.length) (w : World) : Calls Tryd.prog 14 #[St l] w fun e w' => NumPost l e ∧ w' = w := by
  have hne : l ≠ [] := by intro e; subst e; simp at hpos
  go_enter Tryd.func14, Tryd.ntmps14
  go_wp2
  · have hm : l.getD 0 0 = 45 := bget_is (hp := by rw [bsz]; exact hpos) (c := 45) (by decide) (by assumption)
    go_ret2
    exact ⟨NumPost.long _ (by unfold from_; rw [if_pos hm]; omega), rfl⟩
  · have hm : l.getD 0 0 = 45 := bget_is (hp := by rw [bsz]; exact hpos) (c := 45) (by decide) (by assumption)
    have h : (((l.length : Int) == 1) = true) ∨ 19 < (l.length : Int) - 1 := by assumption
    have HL := Lib.hid (long1 h)
    clear h
    go_ret2
    exact ⟨NumPost.long _ (by unfold from_; rw [if_pos hm]; exact HL.out), rfl⟩
  · have hm : l.getD 0 0 = 45 := bget_is (hp := by rw [bsz]; exact hpos) (c := 45) (by decide) (by assumption)
    have hlen : ((l.length : Int) == 1) = false ∧ (l.length : Int) - 1 ≤ 19 := by assumption
    have hl20 : l.length ≤ 20 := by omega
    have hf : from_ l = 1 := by unfold from_; rw [if_pos hm]
    have HF := Lib.hid hf; clear hf
    have hl19 : l.length - 1 ≤ 19 := by omega
    go_loop [2, 3, 4, 6] (fun _ _ a b => ∃ k : Nat, 1 ≤ k ∧ k ≤ l.length ∧ a = .int .u64 (dval (upTo l 1 k)) ∧ b = .int .i64 k ∧ DigTo l 1 k) (fun _ _ _ b => l.length - (intOf b).toNat)
    case atStart => exact ⟨1, by omega, by omega, by simp [upTo, dval], rfl, fun j h1 h2 => by omega⟩
    case round =>
      obtain ⟨k, hk1, hk, rfl, rfl, H⟩ := hrel
      have hv := upTo_val hk H (by omega)
      by_cases hlt : k < l.length
      · have HS := Lib.hid (upTo_snoc l 1 k hk1 hlt)
        have hv2 := upTo_val (k := k) (f := 1) hk H (by omega)
        have hv3 : dval (upTo l 1 k) ≤ 1000000000000000000 := by
          have h1 := dval_lt _ (upTo_dig hk H)
          have h2 := upTo_len l 1 k
          have h3 : 10 ^ (upTo l 1 k).length ≤ 10 ^ 18 := Nat.pow_le_pow_right (by decide) (by omega)
          have h4 : (10 : Nat) ^ 18 = 1000000000000000000 := by decide
          omega
        clear hv hv2
        generalize hu : dval (upTo l 1 k) = u at *
        have HU := Lib.hid hu; clear hu
        have HH := Lib.hid H; clear H
        go_wp2
        · go_ret2
          exact ⟨NumPost.bad _ k (by rw [HF.out]; exact hk1) hlt (fun hd => by
            have h1 : (((⟨l.toArray⟩ : ByteArray)[k]'(by rw [bsz]; exact hlt)).toNat : Int) < 48 ∨ 57 < (((⟨l.toArray⟩ : ByteArray)[k]'(by rw [bsz]; exact hlt)).toNat : Int) := by assumption
            unfold isDig at hd
            rcases h1 with h1 | h1
            · have := bget_lt (c := 48) h1; omega
            · have := bget_gt (c := 57) h1; omega), rfl⟩
        · have h1 : 48 ≤ (((⟨l.toArray⟩ : ByteArray)[k]'(by rw [bsz]; exact hlt)).toNat : Int) ∧ (((⟨l.toArray⟩ : ByteArray)[k]'(by rw [bsz]; exact hlt)).toNat : Int) ≤ 57 := by assumption
          have hd : isDig (l.getD k 0) := ⟨bget_ge (c := 48) h1.1, bget_le (c := 57) h1.2⟩
          go_round
          case rel => exact ⟨_, _, .int .u64 ((dval (upTo l 1 (k + 1)) : Nat) : Int), .int .i64 ((k + 1 : Nat) : Int), ⟨k + 1, by omega, by omega, rfl, rfl, HH.out.step hd⟩, rfl, rfl, by rw [HS.out, dval_snoc, HU.out, bget]; exact dig_next _ _ hd.1, by go_num⟩
          case measure => simp [intOf]; omega
        · go_ret2
          exact ⟨NumPost.bad _ k (by rw [HF.out]; exact hk1) hlt (fun hd => by
            have h1 : (((⟨l.toArray⟩ : ByteArray)[k]'(by rw [bsz]; exact hlt)).toNat : Int) < 48 := by assumption
            unfold isDig at hd
            have := bget_lt (c := 48) h1; omega), rfl⟩
      · obtain rfl : k = l.length := by omega
        have HH := Lib.hid H; clear H
        go_wp2_with fail
        refine (num_any _ (wrap64_I64 _).1 (wrap64_I64 _).2 _).mono ?_
        rintro e w' ⟨rfl, rfl⟩
        go_wp2
        go_ret2
        exact ⟨NumPost.end _ (wrap64_I64 _) (back_neg HF.out) _ rfl, rfl⟩
  · have hm : l.getD 0 0 ≠ 45 := bget_no (hp := by rw [bsz]; exact hpos) (c := 45) (by decide) (by assumption)
    have h : (((l.length : Int) == 0) = true) ∨ 19 < (l.length : Int) := by assumption
    have HL := Lib.hid (long0 hpos h)
    clear h
    go_ret2
    exact ⟨NumPost.long _ (by unfold from_; rw [if_neg hm]; exact HL.out), rfl⟩
  · have hm : l.getD 0 0 ≠ 45 := bget_no (hp := by rw [bsz]; exact hpos) (c := 45) (by decide) (by assumption)
    have hlen : ((l.length : Int) == 0) = false ∧ (l.length : Int) ≤ 19 := by assumption
    have hl20 : l.length ≤ 20 := by omega
    have hf : from_ l = 0 := by unfold from_; rw [if_neg hm]
    have HF := Lib.hid hf; clear hf
    have hl19 : l.length - 0 ≤ 19 := by omega
    go_loop [2, 3, 4, 6] (fun _ _ a b => ∃ k : Nat, 0 ≤ k ∧ k ≤ l.length ∧ a = .int .u64 (dval (upTo l 0 k)) ∧ b = .int .i64 k ∧ DigTo l 0 k) (fun _ _ _ b => l.length - (intOf b).toNat)
    case atStart => exact ⟨0, by omega, by omega, by simp [upTo, dval], rfl, fun j h1 h2 => by omega⟩
    case round =>
      obtain ⟨k, hk1, hk, rfl, rfl, H⟩ := hrel
      have hv := upTo_val hk H (by omega)
      by_cases hlt : k < l.length
      · have HS := Lib.hid (upTo_snoc l 0 k hk1 hlt)
        have hv2 := upTo_val (k := k) (f := 0) hk H (by omega)
        have hv3 : dval (upTo l 0 k) ≤ 1000000000000000000 := by
          have h1 := dval_lt _ (upTo_dig hk H)
          have h2 := upTo_len l 0 k
          have h3 : 10 ^ (upTo l 0 k).length ≤ 10 ^ 18 := Nat.pow_le_pow_right (by decide) (by omega)
          have h4 : (10 : Nat) ^ 18 = 1000000000000000000 := by decide
          omega
        clear hv hv2
        generalize hu : dval (upTo l 0 k) = u at *
        have HU := Lib.hid hu; clear hu
        have HH := Lib.hid H; clear H
        go_wp2
        · go_ret2
          exact ⟨NumPost.bad _ k (by rw [HF.out]; exact hk1) hlt (fun hd => by
            have h1 : (((⟨l.toArray⟩ : ByteArray)[k]'(by rw [bsz]; exact hlt)).toNat : Int) < 48 ∨ 57 < (((⟨l.toArray⟩ : ByteArray)[k]'(by rw [bsz]; exact hlt)).toNat : Int) := by assumption
            unfold isDig at hd
            rcases h1 with h1 | h1
            · have := bget_lt (c := 48) h1; omega
            · have := bget_gt (c := 57) h1; omega), rfl⟩
        · have h1 : 48 ≤ (((⟨l.toArray⟩ : ByteArray)[k]'(by rw [bsz]; exact hlt)).toNat : Int) ∧ (((⟨l.toArray⟩ : ByteArray)[k]'(by rw [bsz]; exact hlt)).toNat : Int) ≤ 57 := by assumption
          have hd : isDig (l.getD k 0) := ⟨bget_ge (c := 48) h1.1, bget_le (c := 57) h1.2⟩
          go_round
          case rel => exact ⟨_, _, .int .u64 ((dval (upTo l 0 (k + 1)) : Nat) : Int), .int .i64 ((k + 1 : Nat) : Int), ⟨k + 1, by omega, rfl, rfl, HH.out.step hd⟩, rfl, rfl, by rw [HS.out, dval_snoc, HU.out, bget]; exact dig_next _ _ hd.1, by go_num⟩
          case measure => simp [intOf]; omega
        · go_ret2
          exact ⟨NumPost.bad _ k (by rw [HF.out]; exact hk1) hlt (fun hd => by
            have h1 : (((⟨l.toArray⟩ : ByteArray)[k]'(by rw [bsz]; exact hlt)).toNat : Int) < 48 := by assumption
            unfold isDig at hd
            have := bget_lt (c := 48) h1; omega), rfl⟩
      · obtain rfl : k = l.length := by omega
        have HH := Lib.hid H; clear H
        go_wp2_with fail
        refine (num_any _ (wrap64_I64 _).1 (wrap64_I64 _).2 _).mono ?_
        rintro e w' ⟨rfl, rfl⟩
        go_wp2
        go_ret2
        exact ⟨NumPost.end _ (wrap64_I64 _) (back_pos HF.out) _ rfl, rfl⟩
end Go.Proofs.YtlnemkdoknkhaaaDoor
