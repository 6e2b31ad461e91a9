/-
  show.Line writes lineOf of its record.
-/
import Derived.Test.YtlnemkdoknkhaaaDoorSh1
import Derived.Handy
import Derived.Deep.RegionWith
namespace Go.Proofs.YtlnemkdoknkhaaaDoor
open Go Go.RowKit
set_option linter.unusedVariables false
set_option linter.unusedSimpArgs false

/-- One field more, if it is not 0. -/
def fld (L : UInt8) (n : Int) : List UInt8 := if n = 0 then [] else 32 :: L :: Lib.itoa n
theorem fld_len (L : UInt8) (n : Int) (h : I64 n) : (fld L n).length ≤ 23 := by
  unfold fld; split
  · simp
  · have := Lib.itoa_length_le n h.1 h.2; simp; omega

/-- A record as a line. -/
def lineOf (k c i n e : Int) : List UInt8 := if kw k = [] then [] else kw k ++ fld 99 c ++ fld 105 i ++ fld 110 n ++ fld 101 e

/-- What stands behind j fields. -/
def accOf (k c i n e : Int) (j : Nat) : List UInt8 :=
  kw k ++ (if 0 < j then fld 99 c else []) ++ (if 1 < j then fld 105 i else []) ++ (if 2 < j then fld 110 n else []) ++ (if 3 < j then fld 101 e else [])
theorem accOf_len (k c i n e : Int) (hc : I64 c) (hi : I64 i) (hn : I64 n) (he : I64 e) (j : Nat) : (accOf k c i n e j).length ≤ 98 := by
  have h1 := kw_len k
  have h2 := fld_len 99 c hc
  have h3 := fld_len 105 i hi
  have h4 := fld_len 110 n hn
  have h5 := fld_len 101 e he
  unfold accOf
  simp only [List.length_append]
  (repeat' split) <;> (try simp only [List.length_nil]) <;> omega

theorem bcell {W w1 : World} (hb : Below W.heap.size W w1) : (∀ b o, b < W.heap.size → w1.cell? ⟨b, o, none⟩ = W.cell? ⟨b, o, none⟩) ∧ (∀ b o, b < W.heap.size → w1.frozen? ⟨b, o, none⟩ = W.frozen? ⟨b, o, none⟩) :=
  ⟨fun b o h => hb.cell (p := ⟨b, o, none⟩) h, fun b o h => hb.frozen (p := ⟨b, o, none⟩) h⟩

theorem ix0 (c i n e : Int) : ∀ w, (Instr.index 45 (.agg #[.int .u8 99, .int .i64 c, .int .u8 105, .int .i64 i, .int .u8 110, .int .i64 n, .int .u8 101, .int .i64 e]) (.int .i64 0)).run Tryd.prog w = .ok (.agg #[.int .u8 99, .int .i64 c]) w := fun _ => by kernel_rfl
theorem ix1 (c i n e : Int) : ∀ w, (Instr.index 45 (.agg #[.int .u8 99, .int .i64 c, .int .u8 105, .int .i64 i, .int .u8 110, .int .i64 n, .int .u8 101, .int .i64 e]) (.int .i64 1)).run Tryd.prog w = .ok (.agg #[.int .u8 105, .int .i64 i]) w := fun _ => by kernel_rfl
theorem ix2 (c i n e : Int) : ∀ w, (Instr.index 45 (.agg #[.int .u8 99, .int .i64 c, .int .u8 105, .int .i64 i, .int .u8 110, .int .i64 n, .int .u8 101, .int .i64 e]) (.int .i64 2)).run Tryd.prog w = .ok (.agg #[.int .u8 110, .int .i64 n]) w := fun _ => by kernel_rfl
theorem ix3 (c i n e : Int) : ∀ w, (Instr.index 45 (.agg #[.int .u8 99, .int .i64 c, .int .u8 105, .int .i64 i, .int .u8 110, .int .i64 n, .int .u8 101, .int .i64 e]) (.int .i64 3)).run Tryd.prog w = .ok (.agg #[.int .u8 101, .int .i64 e]) w := fun _ => by kernel_rfl

theorem acc_step (s : List UInt8) (L : UInt8) (t : List UInt8) : ((⟨s.toArray⟩ : ByteArray) ++ (⟨#[32]⟩ ++ ⟨#[L]⟩ ++ ⟨t.toArray⟩)) = ⟨(s ++ (32 :: L :: t)).toArray⟩ := by
  apply ByteArray.ext; apply Array.ext'; simp

set_option maxRecDepth 100000 in
set_option maxHeartbeats 4000000 in
theorem line_any (k c i n e : Int) (hc : I64 c) (hi : I64 i) (hn : I64 n) (he : I64 e) (w : World) (hg : GW w) :
    Calls Tryd.prog 8 #[.agg #[.int .i64 k, .int .i64 c, .int .i64 i, .int .i64 n, .int .i64 e]] w fun r w' => r = .returned (St (lineOf k c i n e)) ∧ Below w.heap.size w w' := by
  have Hg := Lib.hid hg; clear hg
  by_cases hk : kw k = []
  · have HL := Lib.hid (show lineOf k c i n e = [] by unfold lineOf; rw [if_pos hk])
    have HK := Lib.hid hk; clear hk
    go_enter Tryd.func8, Tryd.ntmps8
    go_wp2_with fail
    refine (word_any k _).mono ?_
    rw [HK.out]
    rintro _ w1 ⟨rfl, hb1⟩
    go_wp2
    go_ret
    refine ⟨by rw [HL.out]; rfl, ?_⟩
    exact ((Below.refl _ _).alloc (Nat.le_refl _) _).trans (hb1.mono (by simp))
  · have HL := Lib.hid (show lineOf k c i n e = accOf k c i n e 4 by unfold lineOf accOf; rw [if_neg hk]; rfl)
    have he0 : (kw k).isEmpty = false := by cases h : kw k <;> simp_all
    have HK := Lib.hid hk; clear hk
    go_enter Tryd.func8, Tryd.ntmps8
    go_wp2_with fail
    refine (word_any k _).mono ?_
    rintro _ w1 ⟨rfl, hb1⟩
    obtain ⟨hc1, hf1⟩ := bcell hb1
    go_wp2_with fail
    refine (fields_any k c i n e _).mono ?_
    rintro _ w2 ⟨rfl, hb2⟩
    have hB : Below w.heap.size w w2 := (((Below.refl _ w).alloc (Nat.le_refl _) _).trans (hb1.mono (by simp))).trans (hb2.mono (by have := hb1.size; simp at this; omega))
    clear hb1 hb2 hc1 hf1
    have hB := Lib.hid hB
    go_wp2
    go_loopw [3, 13] (fun a b wr => ∃ j : Nat, j ≤ 4 ∧ a = St (accOf k c i n e j) ∧ b = .int .i64 j ∧ Hid (GW wr) ∧ Hid (Below w.heap.size w wr)) (fun _ b _ => 4 - (intOf b).toNat)
    case atStart => exact ⟨0, by omega, by simp [accOf], rfl, Hg.out.next hB.out, hB⟩
    case round =>
      clear hB
      obtain ⟨j, hj, rfl, rfl, Hw, hB⟩ := hrel
      have hal := accOf_len k c i n e hc hi hn he j
      have hcases : j = 0 ∨ j = 1 ∨ j = 2 ∨ j = 3 ∨ j = 4 := by omega
      rcases hcases with rfl | rfl | rfl | rfl | rfl
      · by_cases h0 : c = 0
        · subst h0
          have hix := ix0 0 i n e
          go_wp2
          go_roundw
          case rel => exact ⟨1, by omega, by simp [accOf, fld], by go_num, Hw.out.next ((Below.refl _ _).alloc (Nat.le_refl _) _), hB.out.alloc (by exact hB.out.size) _⟩
          case measure => simp [intOf]
        · have h0' : (c == 0) = false := by simpa using h0
          have hix := ix0 c i n e
          have hil := Lib.itoa_length_le c hc.1 hc.2
          have hu : Utf8.encode 99 = ⟨#[99]⟩ := by kernel_rfl
          have hv : IntKind.i32.wrap 99 = 99 := by decide
          have HA := Lib.hid (show accOf k c i n e 1 = accOf k c i n e 0 ++ (32 :: 99 :: Lib.itoa c) by simp [accOf, fld, h0])
          go_wp2
          go_region_with (go_at_call 18; refine (fmt_any c hc _ (Hw.out.next (((Below.refl _ _).alloc (Nat.le_refl _) _).drew))).mono ?_; rintro _ w3 ⟨rfl, hb3⟩; obtain ⟨hc3, hf3⟩ := bcell hb3)
          all_goals
            have HB := Lib.hid hb3
            clear hc3 hf3 hb3
            go_wp2
            go_roundw
            case rel => exact ⟨1, by omega, by rw [acc_step, HA.out], by go_num, (Hw.out.next (((Below.refl _ _).alloc (Nat.le_refl _) _).drew)).next HB.out, ((hB.out.alloc hB.out.size _).drew).trans (HB.out.mono (by have := hB.out.size; simp; omega))⟩
            case measure => simp [intOf]
      · by_cases h0 : i = 0
        · subst h0
          have hix := ix1 c 0 n e
          go_wp2
          go_roundw
          case rel => exact ⟨2, by omega, by simp [accOf, fld], by go_num, Hw.out.next ((Below.refl _ _).alloc (Nat.le_refl _) _), hB.out.alloc (by exact hB.out.size) _⟩
          case measure => simp [intOf]
        · have h0' : (i == 0) = false := by simpa using h0
          have hix := ix1 c i n e
          have hil := Lib.itoa_length_le i hi.1 hi.2
          have hu : Utf8.encode 105 = ⟨#[105]⟩ := by kernel_rfl
          have hv : IntKind.i32.wrap 105 = 105 := by decide
          have HA := Lib.hid (show accOf k c i n e 2 = accOf k c i n e 1 ++ (32 :: 105 :: Lib.itoa i) by simp [accOf, fld, h0])
          go_wp2
          go_region_with (go_at_call 18; refine (fmt_any i hi _ (Hw.out.next (((Below.refl _ _).alloc (Nat.le_refl _) _).drew))).mono ?_; rintro _ w3 ⟨rfl, hb3⟩; obtain ⟨hc3, hf3⟩ := bcell hb3)
          all_goals
            have HB := Lib.hid hb3
            clear hc3 hf3 hb3
            go_wp2
            go_roundw
            case rel => exact ⟨2, by omega, by rw [acc_step, HA.out], by go_num, (Hw.out.next (((Below.refl _ _).alloc (Nat.le_refl _) _).drew)).next HB.out, ((hB.out.alloc hB.out.size _).drew).trans (HB.out.mono (by have := hB.out.size; simp; omega))⟩
            case measure => simp [intOf]
      · by_cases h0 : n = 0
        · subst h0
          have hix := ix2 c i 0 e
          go_wp2
          go_roundw
          case rel => exact ⟨3, by omega, by simp [accOf, fld], by go_num, Hw.out.next ((Below.refl _ _).alloc (Nat.le_refl _) _), hB.out.alloc (by exact hB.out.size) _⟩
          case measure => simp [intOf]
        · have h0' : (n == 0) = false := by simpa using h0
          have hix := ix2 c i n e
          have hil := Lib.itoa_length_le n hn.1 hn.2
          have hu : Utf8.encode 110 = ⟨#[110]⟩ := by kernel_rfl
          have hv : IntKind.i32.wrap 110 = 110 := by decide
          have HA := Lib.hid (show accOf k c i n e 3 = accOf k c i n e 2 ++ (32 :: 110 :: Lib.itoa n) by simp [accOf, fld, h0])
          go_wp2
          go_region_with (go_at_call 18; refine (fmt_any n hn _ (Hw.out.next (((Below.refl _ _).alloc (Nat.le_refl _) _).drew))).mono ?_; rintro _ w3 ⟨rfl, hb3⟩; obtain ⟨hc3, hf3⟩ := bcell hb3)
          all_goals
            have HB := Lib.hid hb3
            clear hc3 hf3 hb3
            go_wp2
            go_roundw
            case rel => exact ⟨3, by omega, by rw [acc_step, HA.out], by go_num, (Hw.out.next (((Below.refl _ _).alloc (Nat.le_refl _) _).drew)).next HB.out, ((hB.out.alloc hB.out.size _).drew).trans (HB.out.mono (by have := hB.out.size; simp; omega))⟩
            case measure => simp [intOf]
      · by_cases h0 : e = 0
        · subst h0
          have hix := ix3 c i n 0
          go_wp2
          go_roundw
          case rel => exact ⟨4, by omega, by simp [accOf, fld], by go_num, Hw.out.next ((Below.refl _ _).alloc (Nat.le_refl _) _), hB.out.alloc (by exact hB.out.size) _⟩
          case measure => simp [intOf]
        · have h0' : (e == 0) = false := by simpa using h0
          have hix := ix3 c i n e
          have hil := Lib.itoa_length_le e he.1 he.2
          have hu : Utf8.encode 101 = ⟨#[101]⟩ := by kernel_rfl
          have hv : IntKind.i32.wrap 101 = 101 := by decide
          have HA := Lib.hid (show accOf k c i n e 4 = accOf k c i n e 3 ++ (32 :: 101 :: Lib.itoa e) by simp [accOf, fld, h0])
          go_wp2
          go_region_with (go_at_call 18; refine (fmt_any e he _ (Hw.out.next (((Below.refl _ _).alloc (Nat.le_refl _) _).drew))).mono ?_; rintro _ w3 ⟨rfl, hb3⟩; obtain ⟨hc3, hf3⟩ := bcell hb3)
          all_goals
            have HB := Lib.hid hb3
            clear hc3 hf3 hb3
            go_wp2
            go_roundw
            case rel => exact ⟨4, by omega, by rw [acc_step, HA.out], by go_num, (Hw.out.next (((Below.refl _ _).alloc (Nat.le_refl _) _).drew)).next HB.out, ((hB.out.alloc hB.out.size _).drew).trans (HB.out.mono (by have := hB.out.size; simp; omega))⟩
            case measure => simp [intOf]
      · go_wp2
        go_ret
        exact ⟨by rw [HL.out]; rfl, hB.out⟩
end Go.Proofs.YtlnemkdoknkhaaaDoor
