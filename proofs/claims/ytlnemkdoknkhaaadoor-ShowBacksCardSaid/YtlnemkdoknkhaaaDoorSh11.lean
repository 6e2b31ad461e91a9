/-
  The cores of a mask as a word (mask.List, show.Mask).
-/
import Derived.Test.YtlnemkdoknkhaaaDoorSh10
import Derived.Laws.Bits64b
import Derived.Maps.AppendAt
namespace Go.Proofs.YtlnemkdoknkhaaaDoor
open Go Go.RowKit
set_option linter.unusedVariables false
set_option linter.unusedSimpArgs false

set_option maxHeartbeats 1000000 in
theorem tz64_core (x k idx : Nat) (w : World) (hx0 : ((x : Int) == 0) = false)
    (key : IntKind.u64.wrap (bits BinOp.and IntKind.u64 (x : Int) (IntKind.u64.wrap (-(x : Int))) * 285870213051353865) / 288230376151711744 = (idx : Int))
    (hi : idx < 64) (hcell : w.cell? ⟨0, idx, none⟩ = some (.int .u8 k)) (hk : k < 64) :
    Calls Tryd.prog 28 #[.int .u64 x] w fun e w' => e = .returned (.int .i64 k) ∧ w' = w := by
  go_enter Tryd.func28, Tryd.ntmps28
  go_wp2_with (simp only [key])
  go_ret
  exact ⟨rfl, rfl⟩
theorem tz64_any (x : Nat) (hx : x < 18446744073709551616) (hx0 : x ≠ 0) (w : World) (hg : GW w) : Calls Tryd.prog 28 #[.int .u64 x] w fun e w' => e = .returned (.int .i64 (Lib.ctz 64 x)) ∧ w' = w := by
  obtain ⟨hlow, hk⟩ := Lib.lowest_bit 64 x hx0 hx
  obtain ⟨hi, htab⟩ := Lib.deBruijn64_at _ hk
  have hcell := hg.tz _ hi
  rw [htab] at hcell
  exact tz64_core x _ _ w (by simp; omega) (tz64_key x _ hx hx0 hlow) hi hcell hk

/-! ### The bits of a mask -/
def bitsF : Nat → Nat → Nat → List Nat
  | 0, _, _ => []
  | n + 1, o, m => if m % 2 = 1 then o :: bitsF n (o + 1) (m / 2) else bitsF n (o + 1) (m / 2)
def bitsUp (m : Nat) : List Nat := bitsF 64 0 m

theorem land_pred (m : Nat) (h : m ≠ 0) : m &&& (m - 1) = if m % 2 = 1 then m - 1 else 2 * ((m / 2) &&& (m / 2 - 1)) := by
  split
  · rename_i h1
    apply Nat.eq_of_testBit_eq
    intro i
    rw [Nat.testBit_and]
    cases i with
    | zero => simp [Nat.testBit_zero]; omega
    | succ i => rw [Nat.testBit_succ, Nat.testBit_succ, show (m - 1) / 2 = m / 2 by omega]; simp
  · rename_i h1
    apply Nat.eq_of_testBit_eq
    intro i
    rw [Nat.testBit_and]
    cases i with
    | zero => simp [Nat.testBit_zero]; omega
    | succ i => rw [Nat.testBit_succ, Nat.testBit_succ, Nat.testBit_succ, show (m - 1) / 2 = m / 2 - 1 by omega, show 2 * (m / 2 &&& (m / 2 - 1)) / 2 = (m / 2 &&& (m / 2 - 1)) by omega, Nat.testBit_and]
theorem bitsF_zero : ∀ (n o : Nat), bitsF n o 0 = [] := by
  intro n
  induction n with
  | zero => intro o; rfl
  | succ n ih => intro o; rw [bitsF, if_neg (by decide)]; exact ih _
theorem bitsF_step : ∀ (n o m : Nat), m ≠ 0 → m < 2 ^ n → bitsF n o m = (o + Lib.ctzFrom n m) :: bitsF n o (m &&& (m - 1)) := by
  intro n
  induction n with
  | zero => intro o m h1 h2; simp at h2; omega
  | succ n ih =>
    intro o m h1 h2
    rw [Nat.pow_succ] at h2
    rw [land_pred m h1]
    by_cases hm : m % 2 = 1
    · rw [if_pos hm, bitsF, if_pos hm, bitsF, if_neg (by omega), Lib.ctzFrom, if_pos hm, show (m - 1) / 2 = m / 2 by omega]; rfl
    · rw [if_neg hm, bitsF, if_neg hm, bitsF, if_neg (by omega), Lib.ctzFrom, if_neg hm, show 2 * (m / 2 &&& (m / 2 - 1)) / 2 = (m / 2 &&& (m / 2 - 1)) by omega]
      rw [ih (o + 1) (m / 2) (by omega) (by omega)]
      congr 1; omega
theorem bitsUp_step (m : Nat) (h : m ≠ 0) (h2 : m < 18446744073709551616) : bitsUp m = Lib.ctz 64 m :: bitsUp (m &&& (m - 1)) := by
  have := bitsF_step 64 0 m h (by simpa using h2)
  rw [Nat.zero_add] at this
  unfold bitsUp Lib.ctz
  rw [if_neg h]; exact this
theorem bitsF_len : ∀ (n o m : Nat), (bitsF n o m).length ≤ n := by
  intro n
  induction n with
  | zero => intro o m; exact Nat.le_refl _
  | succ n ih => intro o m; rw [bitsF]; have := ih (o + 1) (m / 2); split <;> simp <;> omega

theorem info3 : (Tryd.prog.info? 3).map (fun i => (i.zero, i.size, i.bytes)) = some (some (.int .i64 0), 1, 8) := by kernel_rfl

theorem own_ge {w : World} {base : Nat} {e : TypeId} {size n : Nat} {v : Value} {xs : List Value} (h : w.ownsRow base e size v n xs) : ∀ k, v.ownBlock = some k → base ≤ k := by
  intro k hk
  rcases h.2 with ⟨rfl, _⟩ | ⟨g, cap, cur, rfl, hb, _⟩
  · simp [Value.ownBlock] at hk
  · have : g = k := by simpa [Value.ownBlock] using hk
    omega

def intVs (l : List Nat) : List Value := l.map fun (i : Nat) => Value.int .i64 i
set_option maxRecDepth 100000 in
set_option maxHeartbeats 1000000 in
theorem list_any (m0 : Nat) (hm0 : m0 < 18446744073709551616) (w : World) (hg : GW w) : Calls Tryd.prog 19 #[.int .u64 m0] w fun e w' => ∃ v, e = .returned v ∧ w'.ownsRow w.heap.size 3 1 v (bitsUp m0).length (intVs (bitsUp m0)) ∧ Below w.heap.size w w' := by
  obtain ⟨i0, hi, hz0, hz1, hz2⟩ := info_parts info3
  have Hg := Lib.hid hg; clear hg
  have Hm := Lib.hid hm0; clear hm0
  go_enter Tryd.func19, Tryd.ntmps19
  go_wp2
  go_loopw [0, 3] (fun a v wr => ∃ (m : Nat) (done : List Nat), a = .int .u64 m ∧ Hid (m < 18446744073709551616) ∧ Hid (done ++ bitsUp m = bitsUp m0) ∧ wr.ownsRow w.heap.size 3 1 v done.length (intVs done) ∧ Hid (Below w.heap.size w wr)) (fun a _ _ => (bitsUp (intOf a).toNat).length)
  case atStart => exact ⟨m0, [], rfl, Hm, rfl, World.ownsRow_nil _ _ _ _, Below.refl _ _⟩
  case round =>
    obtain ⟨m, done, rfl, HM, HD, hown, HB⟩ := hrel
    have hlen : done.length ≤ 64 := by
      have h1 := bitsF_len 64 0 m0
      have h2 : (bitsUp m0).length = done.length + (bitsUp m).length := by rw [← HD.out, List.length_append]
      unfold bitsUp at h2 h1; omega
    have hsz := HB.out.size
    by_cases h0 : m = 0
    · subst h0
      have HE := Lib.hid (show done = bitsUp m0 by rw [← HD.out]; unfold bitsUp; rw [bitsF_zero]; simp)
      go_wp2
      go_ret
      exact ⟨_, rfl, by rw [← HE.out]; exact hown, HB.out⟩
    · have h0' : ((m : Int) != 0) = true := by simpa using h0
      have hpos : 1 ≤ (m : Int) := by omega
      have HS := Lib.hid (bitsUp_step m h0 HM.out)
      have HA := Lib.hid (show bits .and .u64 (m : Int) ((m : Int) - 1) = ((m &&& (m - 1) : Nat) : Int) by
        have h := HM.out
        rw [show (m : Int) - 1 = ((m - 1 : Nat) : Int) by omega]
        exact bits_and_u64_nat m (m - 1) h (by omega))
      have hM2 : (m : Int) < 18446744073709551616 := by have := HM.out; omega
      go_wp2_with fail
      refine (tz64_any m HM.out h0 _ (Hg.out.next HB.out)).mono ?_
      rintro _ w2 ⟨rfl, rfl⟩
      go_wp2_with (at_builtin; refine wpList_append_own _ rfl _ _ 49 rfl w.heap.size 3 i0 (.int .i64 0) 1 8 Tryd.underlying49 hi hz0 hz1 hz2 rfl (by decide) _ _ _ rfl (hown.alloc _) ⟨w2.heap.size, 0, none⟩ 1 1 [.int .i64 (Lib.ctz 64 m)] rfl rfl ?c1 ?c2 ?c3 ?c4 ?c5 ?_)
      case c1 => exact cell_one_new _ _ _
      case c2 => simp [Value.oneCell']
      case c3 => unfold maxLen; omega
      case c4 => omega
      case c5 => simp; omega
      intro v' w3 hown3 hgrow _
      have HB3 := Lib.hid ((HB.out.alloc hsz _).grown hgrow (by simp; omega) (own_ge hown))
      have HO := Lib.hid hown3
      clear hown3 hgrow
      go_wp2
      go_roundw
      case rel =>
        refine ⟨m &&& (m - 1), done ++ [Lib.ctz 64 m], by rw [HA.out], ?_, ?_, ?_, HB3.out⟩
        · exact Nat.lt_of_le_of_lt Nat.and_le_left HM.out
        · show done ++ [Lib.ctz 64 m] ++ bitsUp (m &&& (m - 1)) = bitsUp m0
          rw [← HD.out, HS.out]; simp
        · have := HO.out; rw [List.length_append, List.length_singleton]; simpa [intVs] using this
      case measure =>
        rw [HA.out]; simp only [intOf, Int.toNat_natCast]; rw [HS.out]; simp
#print axioms list_any

theorem info9 : (Tryd.prog.info? 9).map (fun i => (i.zero, i.size, i.bytes)) = some (some (.string ⟨#[]⟩), 1, 16) := by kernel_rfl
theorem own_cells {w : World} {base : Nat} {e : TypeId} {n : Nat} {v : Value} {xs : List Value} (h : w.ownsRow base e 1 v n xs) (hn : 0 < n) :
    ∃ g cap, v = .slice (some ⟨g, 0, none⟩) n cap ∧ base ≤ g ∧ g < w.heap.size ∧ n ≤ cap ∧ ∀ j, j < n → w.cell? ⟨g, j, none⟩ = xs[j]? := by
  obtain ⟨hlen, ⟨rfl, hx⟩ | ⟨g, cap, cur, rfl, hb, hh, hrest⟩⟩ := h
  · simp at hlen; subst hx; simp at hlen; omega
  · obtain ⟨hcap, _, hsz, htk⟩ := hrest
    refine ⟨g, cap, rfl, hb, (Array.getElem?_eq_some_iff.1 hh).1, hcap, fun j hj => ?_⟩
    rw [blk_cell hh j, ← htk, List.getElem?_take, if_pos (by omega), Array.getElem?_toList]
/-- What is written of cores. -/
def strVs (l : List Nat) : List Value := l.map fun (i : Nat) => St (Lib.itoa i)
def strBs (l : List Nat) : List ByteArray := l.map fun (i : Nat) => (⟨(Lib.itoa i).toArray⟩ : ByteArray)
def maskL (l : List Nat) : List UInt8 := Lib.join (l.map fun (i : Nat) => Lib.itoa i) [44]
theorem join_len (l : List (List UInt8)) (c : UInt8) (N : Nat) (h : ∀ x, x ∈ l → x.length ≤ N) : (Lib.join l [c]).length ≤ l.length * (N + 1) := by
  unfold Lib.join
  induction l with
  | nil => simp [List.intercalate]
  | cons x l ih =>
    have hx := h x (by simp)
    cases l with
    | nil => simp [List.intercalate]; omega
    | cons y l =>
      have := ih (fun z hz => h z (by simp [hz]))
      have e : [c].intercalate (x :: y :: l) = x ++ [c] ++ [c].intercalate (y :: l) := by simp [List.intercalate]
      rw [e, List.length_append, List.length_append, List.length_singleton, List.length_cons, Nat.succ_mul]
      omega

set_option maxRecDepth 100000 in
set_option maxHeartbeats 2000000 in
theorem mask_any (m0 : Nat) (hm0 : m0 < 18446744073709551616) (hne : 0 < (bitsUp m0).length) (hbig : ∀ i, i ∈ bitsUp m0 → i ≤ 64) (w : World) (hg : GW w) : Calls Tryd.prog 9 #[.int .u64 m0] w fun e w' => e = .returned (St (maskL (bitsUp m0))) ∧ Below w.heap.size w w' := by
  obtain ⟨i0, hi, hz0, hz1, hz2⟩ := info_parts info9
  have Hg := Lib.hid hg; clear hg
  have Hm := Lib.hid hm0; clear hm0
  have hlen : (bitsUp m0).length ≤ 64 := bitsF_len 64 0 m0
  go_enter Tryd.func9, Tryd.ntmps9
  go_wp2_with fail
  refine (list_any m0 Hm.out _ Hg.out).mono ?_
  rintro _ w1 ⟨v1, rfl, hown1, hb1⟩
  obtain ⟨g, cap, rfl, hbg, hgw, hcap, hcell⟩ := own_cells hown1 hne
  have HB1 := Lib.hid hb1
  have HC := Lib.hid hcell
  have Hbig := Lib.hid hbig
  clear hown1 hb1 hcell hbig
  generalize hL : bitsUp m0 = L at *
  have HL := Lib.hid hL; clear hL
  go_wp2
  go_loopw [3, 5, 9] (fun v _ a wr => ∃ k : Nat, k ≤ L.length ∧ a = .int .i64 k ∧ wr.ownsRow w1.heap.size 9 1 v k (strVs (L.take k)) ∧ Hid (Below w1.heap.size w1 wr)) (fun _ _ a _ => L.length - (intOf a).toNat)
  case atStart => exact ⟨0, by omega, rfl, World.ownsRow_nil _ _ _ _, Below.refl _ _⟩
  case round =>
    obtain ⟨k, hk, rfl, hown, HB⟩ := hrel
    by_cases hlt : k < L.length
    · have hcl : wr.cell? ⟨g, k, none⟩ = some (.int .i64 (L[k] : Nat)) := by
        have h1 := HC.out k hlt
        rw [HB.out.cell (p := ⟨g, k, none⟩) hgw, h1]; simp [intVs, hlt]
      have hi64 : I64 ((L[k] : Nat) : Int) := by have := Hbig.out L[k] (List.getElem_mem hlt); unfold I64; omega
      have HT := Lib.hid (show strVs (L.take (k + 1)) = strVs (L.take k) ++ [St (Lib.itoa (L[k] : Nat))] by
        unfold strVs; rw [List.take_succ_eq_append_getElem hlt, List.map_append]; rfl)
      generalize L[k] = x at *
      go_wp2_with fail
      refine (itoa_any x hi64 _ ((Hg.out.next HB1.out).next HB.out)).mono ?_
      rintro _ w2 ⟨rfl, hb2⟩
      have hown2 : w2.ownsRow w1.heap.size 9 1 u3 k (strVs (L.take k)) := World.ownsRow.kept (row := none) hown ⟨hb2.os, hb2.tape, hb2.output, hb2.size, fun i hi _ => hb2.block i hi⟩ (by cases u3.ownBlock <;> simp)
      have hs2 : w1.heap.size ≤ w2.heap.size := Nat.le_trans HB.out.size hb2.size
      have HB2 := Lib.hid (HB.out.trans (hb2.mono HB.out.size))
      clear hown hb2
      go_wp2_with (at_builtin; refine wpList_append_own _ rfl _ _ 48 rfl w1.heap.size 9 i0 (.string ⟨#[]⟩) 1 16 Tryd.underlying48 hi hz0 hz1 hz2 rfl (by decide) _ _ _ rfl (hown2.alloc _) ⟨w2.heap.size, 0, none⟩ 1 1 [St (Lib.itoa x)] rfl rfl ?c1 ?c2 ?c3 ?c4 ?c5 ?_)
      case c1 => exact cell_one_new _ _ _
      case c2 => simp [Value.oneCell']
      case c3 => unfold maxLen; omega
      case c4 => omega
      case c5 => simp; omega
      intro v' w3 hown3 hgrow _
      have HB3 := Lib.hid ((HB2.out.alloc hs2 _).grown hgrow (by simp; omega) (own_ge hown2))
      have HO := Lib.hid hown3
      clear hown3 hgrow hown2
      go_wp2
      go_roundw
      case rel => exact ⟨k + 1, by omega, by go_num, by rw [HT.out]; exact HO.out, HB3.out⟩
      case measure => simp [intOf]; omega
    · obtain rfl : k = L.length := by omega
      rw [List.take_length] at hown
      obtain ⟨g2, cap2, rfl, hbg2, hgw2, hcap2, hcell2⟩ := own_cells hown hne
      have HO := Lib.hid hown
      have HC2 := Lib.hid hcell2
      clear hown hcell2
      go_wp2_with fail
      have hJ := Tryd.strings_Join g2 0 cap2 (strBs L) ⟨#[44]⟩ wr (by
        intro j x hx
        have hj : j < L.length := by have := (List.getElem?_eq_some_iff.1 hx).1; simpa [strBs] using this
        rw [Nat.zero_add, HC2.out j hj]
        simp only [strBs, strVs, List.getElem?_map] at hx ⊢
        rw [List.getElem?_eq_getElem hj] at hx ⊢
        simp at hx ⊢
        exact hx) hgw2 (by simp [strBs]; omega) (by simpa [strBs] using hcap2) (by
        have := join_len (L.map fun (i : Nat) => Lib.itoa i) 44 21 (by
          intro y hy
          obtain ⟨i, hil, rfl⟩ := List.mem_map.1 hy
          exact Lib.itoa_length_le i (by omega) (by have := Hbig.out i hil; omega))
        simp only [List.length_map] at this
        have e : (strBs L).map (·.data.toList) = L.map fun (i : Nat) => Lib.itoa i := by simp [strBs, Function.comp_def]
        rw [e]; show (Lib.join _ [44]).length ≤ _; omega)
      have e : (strBs L).map (·.data.toList) = L.map fun (i : Nat) => Lib.itoa i := by simp [strBs, Function.comp_def]
      rw [e] at hJ
      have e2 : (strBs L).length = L.length := by simp [strBs]
      rw [e2] at hJ
      refine hJ.mono ?_
      rintro _ w4 ⟨rfl, hb4⟩
      go_wp2
      go_ret
      exact ⟨by rw [HL.out]; rfl, (HB1.out.trans (HB.out.mono HB1.out.size)).trans (hb4.mono (Nat.le_trans HB1.out.size HB.out.size))⟩
#print axioms mask_any
end Go.Proofs.YtlnemkdoknkhaaaDoor
