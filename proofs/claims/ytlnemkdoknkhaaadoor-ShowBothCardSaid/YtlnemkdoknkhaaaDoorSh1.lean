/-
  The words of the kinds of records (show.word, davitref33.name), the fields of a record, and what the library's variables hold.
-/
import Derived.Test.YtlnemkdoknkhaaaDoorTx
import Derived.Test.YtlnemkdoknkhaaaDoorRf
import Derived.Test.YtlnemkdoknkhaaaDoorShelf
import Derived.Lib.AppendIntMem
import Derived.Lib.AtoiErrMem
import Derived.Shelf.Spec.TrailingZeros
import Derived.Deep.RegionWith
import Derived.WalkSmall
namespace Go.Proofs.YtlnemkdoknkhaaaDoor
open Go Go.RowKit
set_option linter.unusedVariables false
set_option linter.unusedSimpArgs false

/-- The words of the kinds of records. -/
def kw (n : Int) : List UInt8 :=
  if n = 1 then [114, 101, 116] else if n = 2 then [114, 117, 110] else if n = 3 then [102, 105, 114, 101]
  else if n = 4 then [104, 97, 110, 100, 108, 101] else if n = 5 then [119, 111, 114, 107] else if n = 6 then [99, 97, 108, 108]
  else if n = 7 then [104, 111, 116] else []

theorem kw_out (n : Int) (h : n < 1 ∨ 7 < n) : kw n = [] := by
  unfold kw
  repeat (rw [if_neg (by omega)])
theorem kw_len (n : Int) : (kw n).length ≤ 6 := by unfold kw; (repeat' split) <;> decide

theorem word_any (n : Int) (w : World) : Calls Tryd.prog 16 #[.int .i64 n] w fun e w' => e = .returned (St (kw n)) ∧ Below w.heap.size w w' := by
  by_cases h : n < 0
  · have hk := Lib.hid (kw_out n (by omega))
    go_enter Tryd.func16, Tryd.ntmps16
    go_wp2
    go_ret
    exact ⟨by rw [hk.out]; rfl, ((Below.refl _ _).alloc (Nat.le_refl _) _)⟩
  · by_cases h8 : n < 8
    · obtain ⟨m, rfl⟩ := Int.eq_ofNat_of_zero_le (Int.not_lt.1 h)
      have h2 : ¬ 8 ≤ (m : Int) := by omega
      have h3 : ¬ (m : Int) < 0 := by omega
      have h4 : m < 8 := by omega
      go_enter Tryd.func16, Tryd.ntmps16
      go_wp2
      go_ret
      refine ⟨?_, ((Below.refl _ _).alloc (Nat.le_refl _) _)⟩
      clear h h8 h2 h3
      match m, h4 with
      | 0, _ | 1, _ | 2, _ | 3, _ | 4, _ | 5, _ | 6, _ | 7, _ => rfl
    · have hk := Lib.hid (kw_out n (by omega))
      go_enter Tryd.func16, Tryd.ntmps16
      go_wp2
      go_ret
      exact ⟨by rw [hk.out]; rfl, ((Below.refl _ _).alloc (Nat.le_refl _) _)⟩

theorem name_any (n : Int) (w : World) : Calls Tryd.prog 13 #[.int .i64 n] w fun e w' => e = .returned (St (kw n)) ∧ Below w.heap.size w w' := by
  by_cases h : n < 1
  · have hk := Lib.hid (kw_out n (by omega))
    go_enter Tryd.func13, Tryd.ntmps13
    go_wp2
    go_ret
    exact ⟨by rw [hk.out]; rfl, ((Below.refl _ _).alloc (Nat.le_refl _) _)⟩
  · by_cases h8 : n < 8
    · obtain ⟨m, rfl⟩ := Int.eq_ofNat_of_zero_le (by omega : 0 ≤ n)
      have h2 : ¬ 8 ≤ (m : Int) := by omega
      have h3 : ¬ (m : Int) < 1 := by omega
      have h4 : m < 8 := by omega
      have h5 : (0 : Int) ≤ m := by omega
      go_enter Tryd.func13, Tryd.ntmps13
      go_wp2
      go_ret
      refine ⟨?_, ((Below.refl _ _).alloc (Nat.le_refl _) _)⟩
      clear h h8 h2 h3 h5
      match m, h4 with
      | 0, _ | 1, _ | 2, _ | 3, _ | 4, _ | 5, _ | 6, _ | 7, _ => rfl
    · have hk := Lib.hid (kw_out n (by omega))
      go_enter Tryd.func13, Tryd.ntmps13
      go_wp2
      go_ret
      exact ⟨by rw [hk.out]; rfl, ((Below.refl _ _).alloc (Nat.le_refl _) _)⟩


/-- What the library's variables hold. -/
structure GW (w : World) : Prop where
  pow : Lib.TabIs Tryd.prog w "internal/strconv.uint64pow10" .u64 Lib.pow10Tab
  mx : ∃ m, w.cell? ⟨2, 0, none⟩ = some (.int .i64 m)
  syn : ∃ tp p, w.cell? ⟨3, 0, none⟩ = some (.iface tp p)
  rng : ∃ tp p, w.cell? ⟨4, 0, none⟩ = some (.iface tp p)
  tz : TabAt 0 Lib.deBruijn64tab w
  sz : 6 ≤ w.heap.size

theorem gPow : Tryd.prog.globalNamed "internal/strconv.uint64pow10" = some 1 := by kernel_rfl

theorem GW.below {w w' : World} {B : Nat} (h : GW w) (hb : Below B w w') (hB : 6 ≤ B) : GW w' where
  pow := var?_below hb gPow (by omega) h.pow
  mx := h.mx.imp fun m hm => (hb.cell (p := ⟨2, 0, none⟩) (by show 2 < B; omega)).trans hm
  syn := h.syn.imp fun _ x => x.imp fun _ y => (hb.cell (p := ⟨3, 0, none⟩) (by show 3 < B; omega)).trans y
  rng := h.rng.imp fun _ x => x.imp fun _ y => (hb.cell (p := ⟨4, 0, none⟩) (by show 4 < B; omega)).trans y
  tz := fun j hj => (hb.cell (p := ⟨0, j, none⟩) (by show 0 < B; omega)).trans (h.tz j hj)
  sz := Nat.le_trans h.sz hb.size

theorem GW.next {w w' : World} (h : GW w) (hb : Below w.heap.size w w') : GW w' := h.below hb h.sz

def I64 (n : Int) : Prop := -9223372036854775808 ≤ n ∧ n ≤ 9223372036854775807

theorem fmt_any (n : Int) (hn : I64 n) (w : World) (hg : GW w) : Calls Tryd.prog 18 #[.int .i64 n, .int .i64 10] w fun e w' => e = .returned (St (Lib.itoa n)) ∧ Below w.heap.size w w' :=
  (Tryd.strconv_FormatInt_10 n hn.1 hn.2 w hg.pow).mono fun e w' ⟨he, k, os, hw⟩ => ⟨he, hw ▸ Lib.below_grow _ w (Nat.le_refl _) k os⟩
theorem itoa_any (n : Int) (hn : I64 n) (w : World) (hg : GW w) : Calls Tryd.prog 20 #[.int .i64 n] w fun e w' => e = .returned (St (Lib.itoa n)) ∧ Below w.heap.size w w' :=
  (Tryd.strconv_Itoa n hn.1 hn.2 w hg.pow).mono fun e w' ⟨he, k, os, hw⟩ => ⟨he, hw ▸ Lib.below_grow _ w (Nat.le_refl _) k os⟩

theorem fields_any (k c i n e : Int) (w : World) : Calls Tryd.prog 17 #[.agg #[.int .i64 k, .int .i64 c, .int .i64 i, .int .i64 n, .int .i64 e]] w fun r w' =>
    r = .returned (.agg #[.int .u8 99, .int .i64 c, .int .u8 105, .int .i64 i, .int .u8 110, .int .i64 n, .int .u8 101, .int .i64 e]) ∧ Below w.heap.size w w' := by
  go_enter Tryd.func17, Tryd.ntmps17
  go_wp2
  refine bodyPost_ret (v := .agg #[.int .u8 99, .int .i64 c, .int .u8 105, .int .i64 i, .int .u8 110, .int .i64 n, .int .u8 101, .int .i64 e]) (by simp [results, Tryd.results17, go_sem]) rfl ⟨rfl, ?_⟩
  exact ((Below.refl _ _).alloc (Nat.le_refl _) _).alloc (by simp) _
end Go.Proofs.YtlnemkdoknkhaaaDoor
