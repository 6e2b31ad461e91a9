/-
  The reference: Has, With, List and Cpus of masks.
-/
import Derived.Test.YtcjngndgmedabaaDoorWk
namespace Go.Proofs.YtcjngndgmedabaaDoor
open Go Go.RowKit
set_option linter.unusedVariables false
set_option linter.unusedSimpArgs false


theorem has_any (m k : Nat) (hm : m < 18446744073709551616) (hk : k < 64) (w : World) : Calls Tryd.prog 69 #[.int .u64 m, .int .i64 k] w fun e w' => e = .returned (.bool (m.testBit k)) ∧ w' = w := by
  have h1 : (k : Int) < 64 := by omega
  have h0 : ¬ (k : Int) < 0 := by omega
  go_enter Tryd.func69, Tryd.ntmps69
  go_wp2
  go_ret
  have e : (((m : Int) / 2 ^ k).tmod 2 == 1) = m.testBit k := by
    have e1 : (m : Int) / 2 ^ k = ((m / 2 ^ k : Nat) : Int) := by simp
    rw [e1, Int.tmod_eq_emod_of_nonneg (Int.natCast_nonneg _), Nat.testBit_eq_decide_div_mod_eq]
    generalize m / 2 ^ k = q
    rw [Bool.eq_iff_iff, beq_iff_eq, decide_eq_true_eq]; omega
  rw [← e]
  exact ⟨rfl, rfl⟩

theorem or_bit : ∀ (k m : Nat), m.testBit k = false → m + 2 ^ k = m ||| 2 ^ k
  | 0, m, h => by
    rw [Nat.testBit_zero] at h
    have h2 : m % 2 = 0 := by have := of_decide_eq_false h; omega
    apply Nat.eq_of_testBit_eq
    intro i
    rw [Nat.testBit_or]
    cases i with
    | zero => simp [Nat.testBit_zero]; omega
    | succ i => rw [Nat.testBit_succ, Nat.testBit_succ, Nat.testBit_succ]; simp; congr 1; omega
  | k + 1, m, h => by
    rw [Nat.testBit_succ] at h
    have ih := or_bit k (m / 2) h
    apply Nat.eq_of_testBit_eq
    intro i
    rw [Nat.testBit_or]
    have hp : 2 ^ (k + 1) = 2 * 2 ^ k := by rw [Nat.pow_succ]; omega
    cases i with
    | zero => simp [Nat.testBit_zero, hp]
    | succ i =>
      rw [Nat.testBit_succ, Nat.testBit_succ, Nat.testBit_succ]
      have e1 : (m + 2 ^ (k + 1)) / 2 = m / 2 + 2 ^ k := by rw [hp]; omega
      have e2 : 2 ^ (k + 1) / 2 = 2 ^ k := by rw [hp]; omega
      rw [e1, e2, ih, Nat.testBit_or]

theorem or_bit_on (k m : Nat) (h : m.testBit k = true) : m ||| 2 ^ k = m := by
  apply Nat.eq_of_testBit_eq
  intro i
  rw [Nat.testBit_or, Nat.testBit_two_pow]
  by_cases e : k = i
  · subst e; simp [h]
  · simp [e]
theorem refWith_any (m k : Nat) (hm : m < 18446744073709551616) (hk : k < 64) (w : World) : Calls Tryd.prog 49 #[.int .u64 m, .int .i64 k] w fun e w' => e = .returned (.int .u64 ((m ||| 2 ^ k : Nat) : Int)) ∧ w' = w := by
  have h1 : (k : Int) ≤ 63 := by omega
  have h0 : ¬ (k : Int) < 0 := by omega
  cases hb : m.testBit k with
  | true =>
    have HB := Lib.hid hb
    have HO := Lib.hid (or_bit_on k m hb)
    go_enter Tryd.func49, Tryd.ntmps49
    go_wp2_with fail
    refine (has_any m k hm hk _).mono ?_
    rw [HB.out]
    rintro _ w1 ⟨rfl, rfl⟩
    clear hb
    go_wp2
    go_ret
    exact ⟨by rw [HO.out]; rfl, rfl⟩
  | false =>
    have HB := Lib.hid hb
    have HO := Lib.hid (or_bit k m hb)
    go_enter Tryd.func49, Tryd.ntmps49
    go_wp2_with fail
    refine (has_any m k hm hk _).mono ?_
    rw [HB.out]
    rintro _ w1 ⟨rfl, rfl⟩
    clear hb
    go_wp2
    go_ret
    have hp : (2 : Nat) ^ k < 2 ^ 64 := Nat.pow_lt_pow_right (by decide) hk
    have e1 : IntKind.u64.wrap (2 ^ k) = ((2 ^ k : Nat) : Int) := by
      have e2 : (2 : Int) ^ k = ((2 ^ k : Nat) : Int) := by simp
      rw [e2, IntKind.wrap_u64]
      have h3 : (2 : Nat) ^ k < 18446744073709551616 := hp
      generalize (2 : Nat) ^ k = p at h3 ⊢
      omega
    have hs : m ||| 2 ^ k < 2 ^ 64 := Nat.or_lt_two_pow (n := 64) (by simpa using hm) hp
    have e3 : IntKind.u64.wrap ((m : Int) + IntKind.u64.wrap (2 ^ k)) = ((m ||| 2 ^ k : Nat) : Int) := by
      rw [e1, ← HO.out, IntKind.wrap_u64]
      rw [← HO.out] at hs
      have h3 : m + (2 : Nat) ^ k < 18446744073709551616 := hs
      generalize (2 : Nat) ^ k = p at h3 ⊢
      omega
    rw [e3]
    exact ⟨rfl, rfl⟩

theorem bitsF_filter : ∀ (n o m : Nat), bitsF n o m = ((List.range n).filter fun i => m.testBit i).map (o + ·)
  | 0, o, m => rfl
  | n + 1, o, m => by
    rw [bitsF, bitsF_filter n (o + 1) (m / 2), List.range_succ_eq_map, List.filter_cons, List.filter_map, Nat.testBit_zero]
    have e : ((fun i => m.testBit i) ∘ Nat.succ) = fun i => (m / 2).testBit i := by funext i; exact Nat.testBit_succ ..
    rw [e]
    by_cases h : m % 2 = 1
    · simp [h, List.map_map, Function.comp_def]; intro a _ _; omega
    · simp [h, List.map_map, Function.comp_def]; intro a _ _; omega
def lowBits (m k : Nat) : List Nat := (List.range k).filter fun i => m.testBit i
theorem lowBits_all (m : Nat) : lowBits m 64 = bitsUp m := by
  unfold bitsUp; rw [bitsF_filter]; simp [lowBits]
theorem lowBits_yes {m k : Nat} (h : m.testBit k = true) : lowBits m (k + 1) = lowBits m k ++ [k] := by
  unfold lowBits; rw [List.range_succ, List.filter_append]; simp [h]
theorem lowBits_no {m k : Nat} (h : m.testBit k = false) : lowBits m (k + 1) = lowBits m k := by
  unfold lowBits; rw [List.range_succ, List.filter_append]; simp [h]
theorem lowBits_len (m k : Nat) : (lowBits m k).length ≤ k := by
  unfold lowBits; have := List.length_filter_le (fun i => m.testBit i) (List.range k); simpa using this
set_option maxRecDepth 100000 in
set_option maxHeartbeats 1000000 in
theorem refList_any (m : Nat) (hm : m < 18446744073709551616) (w : World) : Calls Tryd.prog 70 #[.int .u64 m] w fun e w' => ∃ v, e = .returned v ∧ w'.ownsRow w.heap.size 3 1 v (bitsUp m).length (intVs (bitsUp m)) ∧ Below w.heap.size w w' := by
  obtain ⟨i0, hi, hz0, hz1, hz2⟩ := info_parts info3
  go_enter Tryd.func70, Tryd.ntmps70
  go_wp2
  go_loopw [3, 4] (fun v a wr => ∃ k : Nat, k ≤ 64 ∧ a = .int .i64 k ∧ wr.ownsRow w.heap.size 3 1 v (lowBits m k).length (intVs (lowBits m k)) ∧ Hid (Below w.heap.size w wr)) (fun _ a _ => 64 - (intOf a).toNat)
  case atStart => exact ⟨0, by omega, rfl, World.ownsRow_nil _ _ _ _, Below.refl _ _⟩
  case round =>
    obtain ⟨k, hk, rfl, hown, HB⟩ := hrel
    have hlen := lowBits_len m k
    have hsz := HB.out.size
    by_cases hlt : k < 64
    · have hlt2 : (k : Int) < 64 := by omega
      go_wp2_with fail
      refine (has_any m k hm hlt _).mono ?_
      rintro _ w1 ⟨rfl, rfl⟩
      cases hb : m.testBit k with
      | true =>
        have HS := Lib.hid (lowBits_yes hb)
        clear hb
        go_wp2_with (at_builtin; refine wpList_append_own _ rfl _ _ 77 rfl w.heap.size 3 i0 (.int .i64 0) 1 8 Tryd.underlying77 hi hz0 hz1 hz2 rfl (by decide) _ _ _ rfl (hown.alloc _) ⟨w1.heap.size, 0, none⟩ 1 1 [.int .i64 k] rfl rfl ?c1 ?c2 ?c3 ?c4 ?c5 ?_)
        case c1 => exact cell_one_new _ _ _
        case c2 => simp [Value.oneCell']
        case c3 => unfold maxLen; omega
        case c4 => omega
        case c5 => simp; omega
        intro v' w3 hown3 hgrow _
        have HB3 := Lib.hid ((HB.out.alloc hsz _).grown hgrow (by simp; omega) (own_ge hown))
        have HO := Lib.hid hown3
        clear hown3 hgrow hown
        go_wp2
        go_roundw
        case rel => exact ⟨k + 1, by omega, by go_num, by rw [HS.out]; have := HO.out; rw [List.length_append, List.length_singleton]; simpa [intVs] using this, HB3.out⟩
        case measure => simp [intOf]; omega
      | false =>
        have HS := Lib.hid (lowBits_no hb)
        have HO := Lib.hid hown
        clear hb hown
        go_wp2
        go_roundw
        case rel => exact ⟨k + 1, by omega, by go_num, by rw [HS.out]; exact HO.out, HB⟩
        case measure => simp [intOf]; omega
    · obtain rfl : k = 64 := by omega
      rw [lowBits_all] at hown
      rw [show ((64 : Nat) : Int) = 64 from rfl]
      go_wp2
      go_ret
      exact ⟨_, rfl, hown, HB.out⟩

end Go.Proofs.YtcjngndgmedabaaDoor
