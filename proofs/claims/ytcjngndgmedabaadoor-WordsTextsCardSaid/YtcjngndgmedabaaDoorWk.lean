/-
  The reference: kind, Name and Kind.
-/
import Derived.Test.YtcjngndgmedabaaDoorWj
import Derived.Deep.QuietTactic
import Derived.BigQuiet
namespace Go.Proofs.YtcjngndgmedabaaDoor
open Go Go.RowKit
set_option linter.unusedVariables false
set_option linter.unusedSimpArgs false


def ktexts : List (List UInt8) := [[], [115, 116, 101, 112, 32, 99], [116, 105, 99, 107, 32, 110], [115, 112, 97, 119, 110, 32, 105, 109], [101, 120, 105, 116, 32, 105], [121, 105, 101, 108, 100, 32, 105], [115, 108, 101, 101, 112, 32, 105, 110], [119, 97, 107, 101, 32, 105], [97, 102, 102, 105, 110, 32, 105, 109], [119, 104, 101, 114, 101, 32, 105], [97, 114, 109, 32, 99, 110], [99, 97, 110, 99, 101, 108, 32, 105], [114, 101, 113, 117, 101, 115, 116, 32, 105, 109], [102, 114, 101, 101, 32, 105], [114, 111, 117, 116, 101, 32, 105, 109], [109, 97, 115, 107, 32, 105], [117, 110, 109, 97, 115, 107, 32, 105], [114, 97, 105, 115, 101, 32, 105], [113, 117, 101, 117, 101, 32, 99], [102, 108, 117, 115, 104, 32, 105], [99, 97, 108, 108, 32, 99], [97, 108, 108, 111, 99, 32, 99], [103, 105, 118, 101, 32, 99, 105], [111, 110, 108, 105, 110, 101, 32, 99], [111, 102, 102, 108, 105, 110, 101, 32, 99], [102, 97, 105, 108, 32, 110], [104, 111, 108, 100, 32, 99], [100, 114, 111, 112, 32, 99], [108, 105, 109, 105, 116, 32, 110], [115, 112, 101, 101, 100, 32, 105, 110], [98, 97, 108, 97, 110, 99, 101, 32]]
def kt (m : Nat) : List UInt8 := ktexts.getD m []
theorem kt_spl : ∀ m : Fin 31, 1 ≤ m.val → spl 32 (kt m.val) = [kw (m.val : Int), kf (m.val : Int)] := by decide +kernel
theorem kt_len : ∀ m : Fin 31, (kt m.val).length ≤ 16 := by decide +kernel
def kcell : Array Value := #[.string ⟨#[]⟩, .string ⟨#[115, 116, 101, 112, 32, 99]⟩, .string ⟨#[116, 105, 99, 107, 32, 110]⟩, .string ⟨#[115, 112, 97, 119, 110, 32, 105, 109]⟩, .string ⟨#[101, 120, 105, 116, 32, 105]⟩, .string ⟨#[121, 105, 101, 108, 100, 32, 105]⟩, .string ⟨#[115, 108, 101, 101, 112, 32, 105, 110]⟩, .string ⟨#[119, 97, 107, 101, 32, 105]⟩, .string ⟨#[97, 102, 102, 105, 110, 32, 105, 109]⟩, .string ⟨#[119, 104, 101, 114, 101, 32, 105]⟩, .string ⟨#[97, 114, 109, 32, 99, 110]⟩, .string ⟨#[99, 97, 110, 99, 101, 108, 32, 105]⟩, .string ⟨#[114, 101, 113, 117, 101, 115, 116, 32, 105, 109]⟩, .string ⟨#[102, 114, 101, 101, 32, 105]⟩, .string ⟨#[114, 111, 117, 116, 101, 32, 105, 109]⟩, .string ⟨#[109, 97, 115, 107, 32, 105]⟩, .string ⟨#[117, 110, 109, 97, 115, 107, 32, 105]⟩, .string ⟨#[114, 97, 105, 115, 101, 32, 105]⟩, .string ⟨#[113, 117, 101, 117, 101, 32, 99]⟩, .string ⟨#[102, 108, 117, 115, 104, 32, 105]⟩, .string ⟨#[99, 97, 108, 108, 32, 99]⟩, .string ⟨#[97, 108, 108, 111, 99, 32, 99]⟩, .string ⟨#[103, 105, 118, 101, 32, 99, 105]⟩, .string ⟨#[111, 110, 108, 105, 110, 101, 32, 99]⟩, .string ⟨#[111, 102, 102, 108, 105, 110, 101, 32, 99]⟩, .string ⟨#[102, 97, 105, 108, 32, 110]⟩, .string ⟨#[104, 111, 108, 100, 32, 99]⟩, .string ⟨#[100, 114, 111, 112, 32, 99]⟩, .string ⟨#[108, 105, 109, 105, 116, 32, 110]⟩, .string ⟨#[115, 112, 101, 101, 100, 32, 105, 110]⟩, .string ⟨#[98, 97, 108, 97, 110, 99, 101, 32]⟩]
theorem kcell_at : ∀ m : Fin 31, kcell[m.val]? = some (St (kt m.val)) ∧ True := by
  intro m
  match m with
  | ⟨0, _⟩ | ⟨1, _⟩ | ⟨2, _⟩ | ⟨3, _⟩ | ⟨4, _⟩ | ⟨5, _⟩ | ⟨6, _⟩ | ⟨7, _⟩ | ⟨8, _⟩ | ⟨9, _⟩ | ⟨10, _⟩ | ⟨11, _⟩ | ⟨12, _⟩ | ⟨13, _⟩ | ⟨14, _⟩ | ⟨15, _⟩ | ⟨16, _⟩ | ⟨17, _⟩ | ⟨18, _⟩ | ⟨19, _⟩ | ⟨20, _⟩ | ⟨21, _⟩ | ⟨22, _⟩ | ⟨23, _⟩ | ⟨24, _⟩ | ⟨25, _⟩ | ⟨26, _⟩ | ⟨27, _⟩ | ⟨28, _⟩ | ⟨29, _⟩ | ⟨30, _⟩ => exact ⟨by kernel_rfl, trivial⟩
  | ⟨k + 31, h⟩ => omega
theorem refKinds_any' (w : World) : Calls Tryd.prog 47 #[] w fun e w' => e = .returned (.slice (some ⟨w.heap.size, 0, none⟩) 31 31) ∧ Below w.heap.size w w' ∧ ∀ m : Nat, m < 31 → w'.cell? ⟨w.heap.size, m, none⟩ = some (St (kt m)) :=
  (refKinds_any w).mono fun e w' ⟨he, hw⟩ => by
    have hw : w' = w.alloc (.cells kcell 9) := hw
    subst hw
    exact ⟨he, (Below.refl _ w).alloc (Nat.le_refl _) _, fun m hm => (blk_cell (heap_alloc_last w (.cells kcell 9)) m).trans (kcell_at ⟨m, hm⟩).1⟩
set_option maxRecDepth 100000 in
set_option maxHeartbeats 2000000 in
theorem refKind_any (n : Int) (w : World) : Calls Tryd.prog 33 #[.int .i64 n] w fun e w' => e = .returned (.tuple #[St (kw n), St (kf n)]) ∧ Below w.heap.size w w' := by
  have hkk := refKinds_any' w
  go_enter Tryd.func33, Tryd.ntmps33
  go_wp2_with fail
  refine hkk.mono ?_
  rintro _ w1 ⟨rfl, hb1, hc1⟩
  have HW := Lib.hid hb1
  have HC := Lib.hid hc1
  clear hb1 hc1 hkk
  by_cases h1 : n < 1
  · have hk := Lib.hid (kw_out (n := n) (.inl h1))
    go_wp2
    go_ret2
    exact ⟨by rw [hk.out.1, hk.out.2]; rfl, HW.out⟩
  · by_cases h31 : 31 ≤ n
    · have hk := Lib.hid (kw_out (n := n) (.inr (by omega)))
      go_wp2
      go_ret2
      exact ⟨by rw [hk.out.1, hk.out.2]; rfl, HW.out⟩
    · obtain ⟨m, rfl⟩ := Int.eq_ofNat_of_zero_le (by omega : 0 ≤ n)
      have h4 : m < 31 := by omega
      have h0 : (0 : Int) ≤ m := by omega
      have hcell : w1.cell? ⟨w.heap.size, m, none⟩ = some (St (kt m)) := HC.out m h4
      have HS := Lib.hid (kt_spl ⟨m, h4⟩ (by show 1 ≤ m; omega))
      have hlen := kt_len ⟨m, h4⟩
      have hlen2 : (kt m).length ≤ 16000 := Nat.le_trans hlen (by decide)
      clear hlen
      generalize kt m = tx at *
      go_wp2_with fail
      refine (refSplit_any tx 32 hlen2 _).mono ?_
      rintro _ w2 ⟨v, rfl, hown, hb2⟩
      rw [HS.out] at hown
      obtain ⟨g, cap, rfl, hbg, hgw, hcap, hcl⟩ := own_cells hown (by simp)
      have c0 : w2.cell? ⟨g, 0, none⟩ = some (St (kw m)) := hcl 0 (by simp)
      have c1 : w2.cell? ⟨g, 1, none⟩ = some (St (kf m)) := hcl 1 (by simp)
      have HB := Lib.hid (HW.out.trans (hb2.mono HW.out.size))
      clear hown hb2 hcl hcell
      go_wp2
      go_quiet (fail)
      go_wp2
      go_ret2
      exact ⟨rfl, below_drewN HB.out _⟩
set_option maxRecDepth 100000 in
theorem refName_any (n : Int) (w : World) : Calls Tryd.prog 38 #[.int .i64 n] w fun e w' => e = .returned (St (kw n)) ∧ Below w.heap.size w w' := by
  go_enter Tryd.func38, Tryd.ntmps38
  go_wp2_with fail
  refine (refKind_any n _).mono ?_
  rintro _ w1 ⟨rfl, hb⟩
  go_wp2
  go_ret
  exact ⟨rfl, hb⟩
set_option maxRecDepth 100000 in
theorem refKindOf_any (l : List UInt8) (w : World) : Calls Tryd.prog 32 #[St l] w fun e w' => e = .returned (.int .i64 (kindOf l)) ∧ Below w.heap.size w w' := by
  have hkk := refKinds_any' w
  go_enter Tryd.func32, Tryd.ntmps32
  go_wp2_with fail
  refine hkk.mono ?_
  rintro _ w1 ⟨rfl, hb1, hc1⟩
  have HW := Lib.hid hb1
  clear hb1 hc1 hkk
  go_wp2
  go_loopw [4] (fun a wr => ∃ k : Nat, 1 ≤ k ∧ k ≤ 31 ∧ a = .int .i64 k ∧ Hid (kindF l (31 - k) k = kindOf l) ∧ Hid (Below w.heap.size w wr)) (fun a _ => 31 - (intOf a).toNat)
  case atStart => exact ⟨1, by omega, by omega, rfl, rfl, HW⟩
  case round =>
    clear HW
    obtain ⟨k, hk1, hk, rfl, HK, HB⟩ := hrel
    by_cases hlt : k ≤ 30
    · have HS := Lib.hid (kindF_step l k hlt)
      have hlt31 : (k : Int) < 31 := by omega
      go_wp2_with fail
      refine (refName_any k _).mono ?_
      rintro _ w1 ⟨rfl, hb1⟩
      have HB1 := Lib.hid (HB.out.trans (hb1.mono HB.out.size)); clear hb1
      by_cases hw : kw (k : Int) = l
      · have hw' : (kw (k : Int) == l) = true := by simpa using hw
        have HE := Lib.hid (show kindOf l = (k : Int) by rw [← HK.out, HS.out, if_pos hw])
        clear hw
        go_wp2
        go_ret
        exact ⟨by rw [HE.out]; rfl, HB1.out⟩
      · have hw' : (kw (k : Int) == l) = false := by simpa using hw
        have HE := Lib.hid (show kindF l (31 - (k + 1)) (k + 1) = kindOf l by rw [← HK.out, HS.out, if_neg hw])
        clear hw
        go_wp2
        go_roundw
        case rel => exact ⟨k + 1, by omega, by omega, by go_num, HE, HB1⟩
        case measure => simp [intOf]; omega
    · obtain rfl : k = 31 := by omega
      have HE := Lib.hid (show kindOf l = 0 by rw [← HK.out]; rfl)
      rw [show ((31 : Nat) : Int) = 31 from rfl]
      go_wp2
      go_ret
      exact ⟨by rw [HE.out]; rfl, HB.out⟩

end Go.Proofs.YtcjngndgmedabaaDoor
