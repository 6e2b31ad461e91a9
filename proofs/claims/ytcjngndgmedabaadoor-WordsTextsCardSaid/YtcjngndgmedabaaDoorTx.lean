/-
  What davitref32.Num writes is the decimal numeral of its argument, for every int64; and small facts on texts as lists of bytes.
-/
import Derived.Test.YtcjngndgmedabaaDoorProg
import Derived.WalkKit
import Derived.KernelRfl
import Derived.Lib.ItoaNum
import Derived.Lib.ItoaLen
import Derived.Lib.Hide
import Derived.Laws.DeepStrings4
namespace Go.Proofs.YtcjngndgmedabaaDoor
open Go Go.RowKit
set_option linter.unusedVariables false
set_option linter.unusedSimpArgs false

abbrev St (l : List UInt8) : Value := .string ⟨l.toArray⟩

theorem ba_app (a b : List UInt8) : (⟨a.toArray⟩ : ByteArray) ++ ⟨b.toArray⟩ = ⟨(a ++ b).toArray⟩ := by
  apply ByteArray.ext; simp

theorem dec_big {u : Nat} (h : ¬ u < 10) : Lib.decDigits u = Lib.decDigits (u / 10) ++ [UInt8.ofNat (48 + u % 10)] := by rw [Lib.decDigits, dif_neg h]
theorem dec_small {u : Nat} (h : u < 10) : Lib.decDigits u = [UInt8.ofNat (48 + u)] := by rw [Lib.decDigits, dif_pos h]

theorem dig_cut_fin : ∀ d : Fin 10, ((⟨#[48, 49, 50, 51, 52, 53, 54, 55, 56, 57]⟩ : ByteArray).extract d.val (d.val + 1)).data.toList = [UInt8.ofNat (48 + d.val)] := by decide +kernel
theorem dig_cut (d : Nat) (h : d < 10) (s : List UInt8) : ((⟨#[48, 49, 50, 51, 52, 53, 54, 55, 56, 57]⟩ : ByteArray).extract d (d + 1)) ++ ⟨s.toArray⟩ = ⟨(UInt8.ofNat (48 + d) :: s).toArray⟩ := by
  have := dig_cut_fin ⟨d, h⟩
  apply ByteArray.ext
  apply Array.ext'
  rw [ByteArray.data_append, Array.toList_append, this]; simp

/-- what the digits' loop has at its head -/
def DigRel (n k u : Nat) (s : List UInt8) : Prop :=
  s.length ≤ k ∧ u < 10 ^ (20 - k) ∧ ((k = 0 ∧ u = n ∧ s = []) ∨ (0 < k ∧ (u ≠ 0 → Lib.decDigits u ++ s = Lib.decDigits n) ∧ (u = 0 → s = Lib.decDigits n)))

theorem DigRel.step {n k u : Nat} {s : List UInt8} (h : DigRel n k u s) (hk : k < 20) (hu : k = 0 ∨ u ≠ 0) :
    DigRel n (k + 1) (u / 10) (UInt8.ofNat (48 + u % 10) :: s) := by
  obtain ⟨h1, h2, h3⟩ := h
  refine ⟨by simp; omega, ?_, .inr ⟨by omega, ?_, ?_⟩⟩
  · have : 10 ^ (20 - k) = 10 ^ (20 - (k + 1)) * 10 := by rw [← Nat.pow_succ]; congr 1; omega
    omega
  all_goals
    intro hz
    have e : Lib.decDigits u ++ s = Lib.decDigits n := by
      rcases h3 with ⟨_, rfl, rfl⟩ | ⟨h0, h4, _⟩
      · simp
      · exact h4 (by omega)
    rw [← e]
  · have : ¬ u < 10 := by omega
    rw [dec_big this]; simp
  · have : u < 10 := by omega
    rw [dec_small this, Nat.mod_eq_of_lt this]; simp

set_option maxRecDepth 100000 in
theorem digits_any (n : Nat) (hn : n < 18446744073709551616) (w : World) : Calls Tryd.prog 68 #[.int .u64 n] w fun e w' => e = .returned (St (Lib.decDigits n)) ∧ w' = w := by
  go_enter Tryd.func68, Tryd.ntmps68
  go_wp2
  go_loop [0, 3, 4] (fun a b c => ∃ k u : Nat, ∃ s : List UInt8, DigRel n k u s ∧ k ≤ 20 ∧ u ≤ n ∧ a = .int .u64 u ∧ b = St s ∧ c = .int .i64 k) (fun _ _ i => 20 - (intOf i).toNat)
  case atStart => exact ⟨0, n, [], ⟨by simp, by simp; omega, .inl ⟨rfl, rfl, rfl⟩⟩, by omega, by omega, rfl, rfl, rfl⟩
  case round =>
    obtain ⟨k, u, s, hd, hk, hun, rfl, rfl, rfl⟩ := hrel
    have H := Lib.hid hd; clear hd
    by_cases hlt : k < 20 ∧ (k = 0 ∨ u ≠ 0)
    · have H2 := H.out.step hlt.1 hlt.2
      have H2 := Lib.hid H2
      obtain ⟨hk20, hor⟩ := hlt
      have hr1 : (u : Int) % 10 < 10 := by omega
      have hr0 : 0 ≤ (u : Int) % 10 := by omega
      have hr2 : (u : Int) % 10 ≤ (u : Int) % 10 + 1 := by omega
      have hr3 : (u : Int) % 10 + 1 ≤ 10 := by omega
      have hsl : s.length ≤ 20 := by have := H.out.1; omega
      have HD := Lib.hid (dig_cut (u % 10) (by omega) s)
      by_cases hk0 : k = 0
      · subst hk0
        go_wp2
        go_round
        case rel => exact ⟨1, u / 10, _, H2.out, by omega, by omega, by go_num, by rw [HD.out], by go_num⟩
        case measure => simp [intOf]
      · have hu0 : 0 < u := by omega
        have hk1 : ((k : Int) == 0) = false := by simp; omega
        go_wp2
        go_round
        case rel => exact ⟨k + 1, u / 10, _, H2.out, by omega, by omega, by go_num, by rw [HD.out], by go_num⟩
        case measure => simp [intOf]; omega
    · have hu : u = 0 := by
        by_cases e : k = 20
        · have := H.out.2.1; subst e; simpa using this
        · omega
      subst hu
      have hk1 : ((k : Int) == 0) = false := by simp; omega
      have hf : s = Lib.decDigits n := by
        rcases H.out.2.2 with ⟨h, _⟩ | ⟨_, _, h⟩
        · omega
        · exact h rfl
      have HF := Lib.hid hf
      clear hf
      by_cases h20 : k < 20
      all_goals
        go_wp2
        go_ret
        exact ⟨by rw [HF.out]; rfl, rfl⟩

theorem digits_of (a : Int) (h0 : 0 ≤ a) (h1 : a < 18446744073709551616) (w : World) : Calls Tryd.prog 68 #[.int .u64 a] w fun e w' => e = .returned (St (Lib.decDigits a.toNat)) ∧ w' = w := by
  obtain ⟨m, rfl⟩ := Int.eq_ofNat_of_zero_le h0
  exact digits_any m (by omega) w

theorem u64_neg (n : Int) (h0 : -9223372036854775808 ≤ n) (hn : n < 0) : IntKind.u64.wrap (-IntKind.u64.wrap n) = -n := by
  simp only [IntKind.wrap_u64]; omega

theorem num_any (n : Int) (h0 : -9223372036854775808 ≤ n) (h1 : n ≤ 9223372036854775807) (w : World) : Calls Tryd.prog 48 #[.int .i64 n] w fun e w' => e = .returned (St (Lib.itoa n)) ∧ w' = w := by
  by_cases hn : n < 0
  · have HU := Lib.hid (u64_neg n h0 hn)
    have hl : (Lib.decDigits (-n).toNat).length ≤ 20 := by
      rw [Lib.decDigits_length]; exact Lib.nDigits_le20 _ (by omega)
    go_enter Tryd.func48, Tryd.ntmps48
    go_wp2_with fail
    rw [HU.out]
    refine (digits_of (-n) (by omega) (by omega) w).mono ?_
    rintro e w' ⟨rfl, rfl⟩
    go_wp2
    go_ret
    refine ⟨?_, rfl⟩
    show Ending.returned (.string ((⟨[45].toArray⟩ : ByteArray) ++ ⟨(Lib.decDigits (-n).toNat).toArray⟩)) = _
    rw [ba_app, Lib.itoa, if_pos hn, show (-n).toNat = n.natAbs by omega]; rfl
  · go_enter Tryd.func48, Tryd.ntmps48
    go_wp2_with (go_at_call 68; refine (digits_of _ (by omega) (by omega) _).mono ?_; rintro e w' ⟨rfl, rfl⟩)
    go_ret
    exact ⟨by rw [Lib.itoa, if_neg (by omega)]; rfl, rfl⟩

#print axioms num_any
end Go.Proofs.YtcjngndgmedabaaDoor
