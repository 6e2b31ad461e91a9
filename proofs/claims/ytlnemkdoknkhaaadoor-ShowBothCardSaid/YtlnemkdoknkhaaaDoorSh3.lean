/-
  davitref33.Line writes lineOf of its record; davitref33.word cuts a line at its first blank.
-/
import Derived.Test.YtlnemkdoknkhaaaDoorSh2
import Derived.Deep.RegionWith
import Derived.Deep.QuietTactic
import Derived.BigQuiet
namespace Go.Proofs.YtlnemkdoknkhaaaDoor
open Go Go.RowKit
set_option linter.unusedVariables false
set_option linter.unusedSimpArgs false

theorem field_zero (s L : List UInt8) (w : World) : Calls Tryd.prog 26 #[St s, St L, .int .i64 0] w fun e w' => e = .returned (St s) ∧ w' = w := by
  go_enter Tryd.func26, Tryd.ntmps26
  go_wp2
  go_ret
  exact ⟨rfl, rfl⟩
theorem field_some (s L : List UInt8) (n : Int) (hn : I64 n) (h0 : n ≠ 0) (hs : s.length ≤ 200) (hL : L.length ≤ 200) (w : World) : Calls Tryd.prog 26 #[St s, St L, .int .i64 n] w fun e w' => e = .returned (St (s ++ (32 :: L ++ Lib.itoa n))) ∧ w' = w := by
  have h0' : (n == 0) = false := by simpa using h0
  have hl := Lib.itoa_length_le n hn.1 hn.2
  go_enter Tryd.func26, Tryd.ntmps26
  go_wp2_with (go_at_call 25; refine (num_any n hn.1 hn.2 _).mono ?_; rintro e w' ⟨rfl, rfl⟩)
  go_ret
  refine ⟨?_, rfl⟩
  show Ending.returned (.string ((⟨s.toArray⟩ : ByteArray) ++ ⟨#[32]⟩ ++ ⟨L.toArray⟩ ++ ⟨(Lib.itoa n).toArray⟩)) = _
  congr 2
  apply ByteArray.ext; apply Array.ext'; simp

theorem bsz (l : List UInt8) : (⟨l.toArray⟩ : ByteArray).size = l.length := by simp [ByteArray.size]
theorem bget (l : List UInt8) (k : Nat) (hp : k < (⟨l.toArray⟩ : ByteArray).size) : (⟨l.toArray⟩ : ByteArray)[k] = l.getD k 0 := by
  have h : k < l.length := by rw [bsz] at hp; exact hp
  show l.toArray[k] = _
  simp [List.getD_eq_getElem?_getD, h]
theorem bget_is {l : List UInt8} {k : Nat} {hp : k < (⟨l.toArray⟩ : ByteArray).size} {c : Nat} (hc : c < 256) (h : ((((⟨l.toArray⟩ : ByteArray)[k]).toNat : Int) == (c : Int)) = true) : l.getD k 0 = UInt8.ofNat c := by
  rw [bget, beq_iff_eq] at h
  apply UInt8.toNat_inj.1
  rw [UInt8.toNat_ofNat_of_lt' (by simpa using hc)]; omega
theorem bget_no {l : List UInt8} {k : Nat} {hp : k < (⟨l.toArray⟩ : ByteArray).size} {c : Nat} (hc : c < 256) (h : ((((⟨l.toArray⟩ : ByteArray)[k]).toNat : Int) == (c : Int)) = false) : l.getD k 0 ≠ UInt8.ofNat c := by
  rw [bget, beq_eq_false_iff_ne] at h
  intro e; apply h; rw [e, UInt8.toNat_ofNat_of_lt' (by simpa using hc)]

theorem take_upto (l : List UInt8) (c : UInt8) : ∀ (k : Nat), k < l.length → (∀ j, j < k → l.getD j 0 ≠ c) → l.getD k 0 = c → l.takeWhile (· ≠ c) = l.take k ∧ (l.dropWhile (· ≠ c)).drop 1 = l.drop (k + 1) := by
  induction l with
  | nil => intro k h; simp at h
  | cons x l ih =>
    intro k hk hj hc
    cases k with
    | zero => simp at hc; subst hc; simp
    | succ k =>
      have hx : x ≠ c := by simpa using hj 0 (by omega)
      obtain ⟨h1, h2⟩ := ih k (by simpa using hk) (fun j hjk => by simpa using hj (j + 1) (by omega)) (by simpa using hc)
      simp [hx] at h1 h2 ⊢
      exact ⟨h1, h2⟩
theorem take_none (l : List UInt8) (c : UInt8) (h : ∀ j, j < l.length → l.getD j 0 ≠ c) : l.takeWhile (· ≠ c) = l ∧ (l.dropWhile (· ≠ c)).drop 1 = [] := by
  induction l with
  | nil => simp
  | cons x l ih =>
    have hx : x ≠ c := by simpa using h 0 (by simp)
    obtain ⟨h1, h2⟩ := ih (fun j hj => by simpa using h (j + 1) (by simp; omega))
    simp [hx] at h1 h2 ⊢
    exact ⟨h1, h2⟩

def W1 (l : List UInt8) : List UInt8 := l.takeWhile (· ≠ 32)
def R1 (l : List UInt8) : List UInt8 := (l.dropWhile (· ≠ 32)).drop 1

set_option maxHeartbeats 1000000 in
theorem word1_any (l : List UInt8) (hl : l.length ≤ 4000) (w : World) : Calls Tryd.prog 12 #[St l] w fun e w' => e = .returned (.tuple #[St (W1 l), St (R1 l)]) ∧ ∃ n, w' = w.drewN n := by
  go_enter Tryd.func12, Tryd.ntmps12
  go_wp2
  go_loop [4] (fun i => ∃ k : Nat, k ≤ l.length ∧ i = .int .i64 k ∧ Hid (∀ j, j < k → l.getD j 0 ≠ 32)) (fun i => l.length - (intOf i).toNat)
  case atStart => exact ⟨0, by omega, rfl, fun j hj => by omega⟩
  case round =>
    obtain ⟨k, hk, rfl, H⟩ := hrel
    by_cases hlt : k < l.length
    · go_wp2
      · have hE := Lib.hid (take_upto l 32 k hlt H.out (bget_is (hp := by rw [bsz]; exact hlt) (c := 32) (by decide) (by assumption)))
        go_quiet (fail)
        go_wp2
        go_ret2
        refine ⟨?_, _, rfl⟩
        rw [W1, R1, hE.out.1, hE.out.2]
        show Ending.returned (.tuple #[.string ((⟨l.toArray⟩ : ByteArray).extract 0 k), .string ((⟨l.toArray⟩ : ByteArray).extract (k + 1) l.length)]) = _
        rw [ByteArray.extract_mk, ByteArray.extract_mk, List.drop_zero, Nat.sub_zero, List.take_of_length_le (l := l.drop (k + 1)) (by simp)]
      · have hN := bget_no (hp := by rw [bsz]; exact hlt) (c := 32) (by decide) (by assumption)
        go_round
        case rel => exact ⟨k + 1, by omega, by go_num, fun j hj => by
          by_cases e : j = k
          · subst e; exact hN
          · exact H.out j (by omega)⟩
        case measure => simp [intOf]; omega
    · have hE := Lib.hid (take_none l 32 (fun j hj => H.out j (by omega)))
      go_wp2
      go_ret2
      exact ⟨by rw [W1, R1, hE.out.1, hE.out.2]; rfl, 0, rfl⟩

theorem field_any (s : List UInt8) (L : UInt8) (n : Int) (hn : I64 n) (hs : s.length ≤ 200) (w : World) : Calls Tryd.prog 26 #[St s, St [L], .int .i64 n] w fun e w' => e = .returned (St (s ++ fld L n)) ∧ w' = w := by
  by_cases h : n = 0
  · subst h
    have : s ++ fld L 0 = s := by simp [fld]
    rw [this]; exact field_zero s [L] w
  · have : s ++ fld L n = s ++ (32 :: [L] ++ Lib.itoa n) := by simp [fld, h]
    rw [this]; exact field_some s [L] n hn h hs (by simp) w

set_option maxRecDepth 100000 in
set_option maxHeartbeats 1000000 in
theorem refLine_any (k c i n e : Int) (hc : I64 c) (hi : I64 i) (hn : I64 n) (he : I64 e) (w : World) :
    Calls Tryd.prog 15 #[.agg #[.int .i64 k, .int .i64 c, .int .i64 i, .int .i64 n, .int .i64 e]] w fun r w' => r = .returned (St (lineOf k c i n e)) ∧ Below w.heap.size w w' := by
  by_cases hk : kw k = []
  · have HL := Lib.hid (show lineOf k c i n e = [] by unfold lineOf; rw [if_pos hk])
    have HK := Lib.hid hk; clear hk
    go_enter Tryd.func15, Tryd.ntmps15
    go_wp2_with fail
    refine (name_any k _).mono ?_
    rw [HK.out]
    rintro _ w1 ⟨rfl, hb1⟩
    go_wp2
    go_ret
    refine ⟨by rw [HL.out]; rfl, ?_⟩
    exact ((Below.refl _ _).alloc (Nat.le_refl _) _).trans (hb1.mono (by simp))
  · have HL := Lib.hid (show lineOf k c i n e = kw k ++ fld 99 c ++ fld 105 i ++ fld 110 n ++ fld 101 e by unfold lineOf; rw [if_neg hk])
    have he0 : (kw k).isEmpty = false := by cases h : kw k <;> simp_all
    have HK := Lib.hid hk; clear hk
    have h1 := kw_len k
    have h2 := fld_len 99 c hc
    have h3 := fld_len 105 i hi
    have h4 := fld_len 110 n hn
    have s1 : (kw k).length ≤ 200 := by omega
    have s2 : (kw k ++ fld 99 c).length ≤ 200 := by simp only [List.length_append]; omega
    have s3 : (kw k ++ fld 99 c ++ fld 105 i).length ≤ 200 := by simp only [List.length_append]; omega
    have s4 : (kw k ++ fld 99 c ++ fld 105 i ++ fld 110 n).length ≤ 200 := by simp only [List.length_append]; omega
    obtain ⟨t2, ht2⟩ : ∃ t, t = kw k ++ fld 99 c := ⟨_, rfl⟩
    obtain ⟨t3, ht3⟩ : ∃ t, t = t2 ++ fld 105 i := ⟨_, rfl⟩
    obtain ⟨t4, ht4⟩ : ∃ t, t = t3 ++ fld 110 n := ⟨_, rfl⟩
    rw [← ht2] at s2 s3 s4
    rw [← ht3] at s3 s4
    rw [← ht4] at s4
    have H2 := Lib.hid ht2; have H3 := Lib.hid ht3; have H4 := Lib.hid ht4
    clear ht2 ht3 ht4 h1 h2 h3 h4
    go_enter Tryd.func15, Tryd.ntmps15
    go_wp2_with fail
    refine (name_any k _).mono ?_
    rintro _ w1 ⟨rfl, hb1⟩
    obtain ⟨hc1, hf1⟩ := bcell hb1
    go_wp2_with fail
    refine (field_any (kw k) 99 c hc s1 _).mono ?_
    rw [← H2.out]
    rintro _ w2 ⟨rfl, rfl⟩
    go_wp2_with fail
    refine (field_any t2 105 i hi s2 _).mono ?_
    rw [← H3.out]
    rintro _ w2 ⟨rfl, rfl⟩
    go_wp2_with fail
    refine (field_any t3 110 n hn s3 _).mono ?_
    rw [← H4.out]
    rintro _ w2 ⟨rfl, rfl⟩
    go_wp2_with fail
    refine (field_any t4 101 e he s4 _).mono ?_
    rintro _ w2 ⟨rfl, rfl⟩
    go_wp2
    go_ret
    refine ⟨by rw [HL.out, ← H2.out, ← H3.out, ← H4.out]; rfl, ?_⟩
    exact ((Below.refl _ _).alloc (Nat.le_refl _) _).trans (hb1.mono (by simp))
end Go.Proofs.YtlnemkdoknkhaaaDoor
