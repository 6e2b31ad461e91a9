/-
  Masks: mask.List, words.cores, mask.With and words.masked.
-/
import Derived.Test.YtcjngndgmedabaaDoorWd
namespace Go.Proofs.YtcjngndgmedabaaDoor
open Go Go.RowKit
set_option linter.unusedVariables false
set_option linter.unusedSimpArgs false

set_option maxHeartbeats 1000000 in
theorem tz64_core (x k idx : Nat) (w : World) (hx0 : ((x : Int) == 0) = false)
    (key : IntKind.u64.wrap (bits BinOp.and IntKind.u64 (x : Int) (IntKind.u64.wrap (-(x : Int))) * 285870213051353865) / 288230376151711744 = (idx : Int))
    (hi : idx < 64) (hcell : w.cell? ⟨1, idx, none⟩ = some (.int .u8 k)) (hk : k < 64) :
    Calls Tryd.prog 52 #[.int .u64 x] w fun e w' => e = .returned (.int .i64 k) ∧ w' = w := by
  go_enter Tryd.func52, Tryd.ntmps52
  go_wp2_with (simp only [key])
  go_ret
  exact ⟨rfl, rfl⟩
theorem tz64_any (x : Nat) (hx : x < 18446744073709551616) (hx0 : x ≠ 0) (w : World) (hg : GW w) : Calls Tryd.prog 52 #[.int .u64 x] w fun e w' => e = .returned (.int .i64 (Lib.ctz 64 x)) ∧ w' = w := by
  obtain ⟨hlow, hk⟩ := Lib.lowest_bit 64 x hx0 hx
  obtain ⟨hi, htab⟩ := Lib.deBruijn64_at _ hk
  have hcell := hg.tz _ hi
  rw [htab] at hcell
  exact tz64_core x _ _ w (by simp; omega) (tz64_key x _ hx hx0 hlow) hi hcell hk

theorem info3 : (Tryd.prog.info? 3).map (fun i => (i.zero, i.size, i.bytes)) = some (some (.int .i64 0), 1, 8) := by kernel_rfl

def intVs (l : List Nat) : List Value := l.map fun (i : Nat) => Value.int .i64 i
set_option maxRecDepth 100000 in
set_option maxHeartbeats 1000000 in
theorem list_any (m0 : Nat) (hm0 : m0 < 18446744073709551616) (w : World) (hg : GW w) : Calls Tryd.prog 40 #[.int .u64 m0] w fun e w' => ∃ v, e = .returned v ∧ w'.ownsRow w.heap.size 3 1 v (bitsUp m0).length (intVs (bitsUp m0)) ∧ Below w.heap.size w w' := by
  obtain ⟨i0, hi, hz0, hz1, hz2⟩ := info_parts info3
  have Hg := Lib.hid hg; clear hg
  have Hm := Lib.hid hm0; clear hm0
  go_enter Tryd.func40, Tryd.ntmps40
  go_wp2
  go_loopw [0, 3] (fun a v wr => ∃ (m : Nat) (done : List Nat), a = .int .u64 m ∧ Hid (m < 18446744073709551616) ∧ Hid (done ++ bitsUp m = bitsUp m0) ∧ wr.ownsRow w.heap.size 3 1 v done.length (intVs done) ∧ Hid (Below w.heap.size w wr)) (fun a _ _ => (bitsUp (intOf a).toNat).length)
  case atStart => exact ⟨m0, [], rfl, Hm, rfl, World.ownsRow_nil _ _ _ _, Below.refl _ _⟩
  case round =>
    obtain ⟨m, done, rfl, HM, HD, hown, HB⟩ := hrel
    have hlen : done.length ≤ 64 := by
      have h1 := bitsF_len 64 0 m0
      have h2 : (bitsUp m0).length = done.length + (bitsUp m).length := by rw [← HD.out, List.length_append]
      unfold bitsUp at h2 h1; omega
    have hsz := HB.out.size
    by_cases h0 : m = 0
    · subst h0
      have HE := Lib.hid (show done = bitsUp m0 by rw [← HD.out]; unfold bitsUp; rw [bitsF_zero]; simp)
      go_wp2
      go_ret
      exact ⟨_, rfl, by rw [← HE.out]; exact hown, HB.out⟩
    · have h0' : ((m : Int) != 0) = true := by simpa using h0
      have hpos : 1 ≤ (m : Int) := by omega
      have HS := Lib.hid (bitsUp_step m h0 HM.out)
      have HA := Lib.hid (show bits .and .u64 (m : Int) ((m : Int) - 1) = ((m &&& (m - 1) : Nat) : Int) by
        have h := HM.out
        rw [show (m : Int) - 1 = ((m - 1 : Nat) : Int) by omega]
        exact bits_and_u64_nat m (m - 1) h (by omega))
      have hM2 : (m : Int) < 18446744073709551616 := by have := HM.out; omega
      go_wp2_with fail
      refine (tz64_any m HM.out h0 _ (Hg.out.next HB.out)).mono ?_
      rintro _ w2 ⟨rfl, rfl⟩
      go_wp2_with (at_builtin; refine wpList_append_own _ rfl _ _ 77 rfl w.heap.size 3 i0 (.int .i64 0) 1 8 Tryd.underlying77 hi hz0 hz1 hz2 rfl (by decide) _ _ _ rfl (hown.alloc _) ⟨w2.heap.size, 0, none⟩ 1 1 [.int .i64 (Lib.ctz 64 m)] rfl rfl ?c1 ?c2 ?c3 ?c4 ?c5 ?_)
      case c1 => exact cell_one_new _ _ _
      case c2 => simp [Value.oneCell']
      case c3 => unfold maxLen; omega
      case c4 => omega
      case c5 => simp; omega
      intro v' w3 hown3 hgrow _
      have HB3 := Lib.hid ((HB.out.alloc hsz _).grown hgrow (by simp; omega) (own_ge hown))
      have HO := Lib.hid hown3
      clear hown3 hgrow
      go_wp2
      go_roundw
      case rel =>
        refine ⟨m &&& (m - 1), done ++ [Lib.ctz 64 m], by rw [HA.out], ?_, ?_, ?_, HB3.out⟩
        · exact Nat.lt_of_le_of_lt Nat.and_le_left HM.out
        · show done ++ [Lib.ctz 64 m] ++ bitsUp (m &&& (m - 1)) = bitsUp m0
          rw [← HD.out, HS.out]; simp
        · have := HO.out; rw [List.length_append, List.length_singleton]; simpa [intVs] using this
      case measure =>
        rw [HA.out]; simp only [intOf, Int.toNat_natCast]; rw [HS.out]; simp
theorem info9 : (Tryd.prog.info? 9).map (fun i => (i.zero, i.size, i.bytes)) = some (some (.string ⟨#[]⟩), 1, 16) := by kernel_rfl
/-- What is written of cores. -/
def strVs (l : List Nat) : List Value := l.map fun (i : Nat) => St (Lib.itoa i)
def strBs (l : List Nat) : List ByteArray := l.map fun (i : Nat) => (⟨(Lib.itoa i).toArray⟩ : ByteArray)
set_option maxRecDepth 100000 in
set_option maxHeartbeats 2000000 in
theorem cores_some (m0 : Nat) (hm0 : m0 < 18446744073709551616) (hne : 0 < (bitsUp m0).length) (hbig : ∀ i, i ∈ bitsUp m0 → i ≤ 64) (w : World) (hg : GW w) : Calls Tryd.prog 23 #[.int .u64 m0] w fun e w' => e = .returned (St (maskL (bitsUp m0))) ∧ Below w.heap.size w w' := by
  obtain ⟨i0, hi, hz0, hz1, hz2⟩ := info_parts info9
  have Hg := Lib.hid hg; clear hg
  have Hm := Lib.hid hm0; clear hm0
  have hlen : (bitsUp m0).length ≤ 64 := bitsF_len 64 0 m0
  go_enter Tryd.func23, Tryd.ntmps23
  go_wp2_with fail
  refine (list_any m0 Hm.out _ Hg.out).mono ?_
  rintro _ w1 ⟨v1, rfl, hown1, hb1⟩
  obtain ⟨g, cap, rfl, hbg, hgw, hcap, hcell⟩ := own_cells hown1 hne
  have HB1 := Lib.hid hb1
  have HC := Lib.hid hcell
  have Hbig := Lib.hid hbig
  clear hown1 hb1 hcell hbig
  generalize hL : bitsUp m0 = L at *
  have HL := Lib.hid hL; clear hL
  go_wp2
  go_loopw [3, 5, 9] (fun v _ a wr => ∃ k : Nat, k ≤ L.length ∧ a = .int .i64 k ∧ wr.ownsRow w1.heap.size 9 1 v k (strVs (L.take k)) ∧ Hid (Below w1.heap.size w1 wr)) (fun _ _ a _ => L.length - (intOf a).toNat)
  case atStart => exact ⟨0, by omega, rfl, World.ownsRow_nil _ _ _ _, Below.refl _ _⟩
  case round =>
    obtain ⟨k, hk, rfl, hown, HB⟩ := hrel
    by_cases hlt : k < L.length
    · have hcl : wr.cell? ⟨g, k, none⟩ = some (.int .i64 (L[k] : Nat)) := by
        have h1 := HC.out k hlt
        rw [HB.out.cell (p := ⟨g, k, none⟩) hgw, h1]; simp [intVs, hlt]
      have hi64 : I64 ((L[k] : Nat) : Int) := by have := Hbig.out L[k] (List.getElem_mem hlt); unfold I64; omega
      have HT := Lib.hid (show strVs (L.take (k + 1)) = strVs (L.take k) ++ [St (Lib.itoa (L[k] : Nat))] by
        unfold strVs; rw [List.take_succ_eq_append_getElem hlt, List.map_append]; rfl)
      generalize L[k] = x at *
      go_wp2_with fail
      refine (itoa_any x hi64 _ ((Hg.out.next HB1.out).next HB.out)).mono ?_
      rintro _ w2 ⟨rfl, hb2⟩
      have hown2 : w2.ownsRow w1.heap.size 9 1 u3 k (strVs (L.take k)) := World.ownsRow.kept (row := none) hown ⟨hb2.os, hb2.tape, hb2.output, hb2.size, fun i hi _ => hb2.block i hi⟩ (by cases u3.ownBlock <;> simp)
      have hs2 : w1.heap.size ≤ w2.heap.size := Nat.le_trans HB.out.size hb2.size
      have HB2 := Lib.hid (HB.out.trans (hb2.mono HB.out.size))
      clear hown hb2
      go_wp2_with (at_builtin; refine wpList_append_own _ rfl _ _ 43 rfl w1.heap.size 9 i0 (.string ⟨#[]⟩) 1 16 Tryd.underlying43 hi hz0 hz1 hz2 rfl (by decide) _ _ _ rfl (hown2.alloc _) ⟨w2.heap.size, 0, none⟩ 1 1 [St (Lib.itoa x)] rfl rfl ?c1 ?c2 ?c3 ?c4 ?c5 ?_)
      case c1 => exact cell_one_new _ _ _
      case c2 => simp [Value.oneCell']
      case c3 => unfold maxLen; omega
      case c4 => omega
      case c5 => simp; omega
      intro v' w3 hown3 hgrow _
      have HB3 := Lib.hid ((HB2.out.alloc hs2 _).grown hgrow (by simp; omega) (own_ge hown2))
      have HO := Lib.hid hown3
      clear hown3 hgrow hown2
      go_wp2
      go_roundw
      case rel => exact ⟨k + 1, by omega, by go_num, by rw [HT.out]; exact HO.out, HB3.out⟩
      case measure => simp [intOf]; omega
    · obtain rfl : k = L.length := by omega
      rw [List.take_length] at hown
      obtain ⟨g2, cap2, rfl, hbg2, hgw2, hcap2, hcell2⟩ := own_cells hown hne
      have HO := Lib.hid hown
      have HC2 := Lib.hid hcell2
      clear hown hcell2
      go_wp2_with fail
      have hJ := Tryd.strings_Join g2 0 cap2 (strBs L) ⟨#[44]⟩ wr (by
        intro j x hx
        have hj : j < L.length := by have := (List.getElem?_eq_some_iff.1 hx).1; simpa [strBs] using this
        rw [Nat.zero_add, HC2.out j hj]
        simp only [strBs, strVs, List.getElem?_map] at hx ⊢
        rw [List.getElem?_eq_getElem hj] at hx ⊢
        simp at hx ⊢
        exact hx) hgw2 (by simp [strBs]; omega) (by simpa [strBs] using hcap2) (by
        have := join_len (L.map fun (i : Nat) => Lib.itoa i) 44 21 (by
          intro y hy
          obtain ⟨i, hil, rfl⟩ := List.mem_map.1 hy
          exact Lib.itoa_length_le i (by omega) (by have := Hbig.out i hil; omega))
        simp only [List.length_map] at this
        have e : (strBs L).map (·.data.toList) = L.map fun (i : Nat) => Lib.itoa i := by simp [strBs, Function.comp_def]
        rw [e]; show (Lib.join _ [44]).length ≤ _; omega)
      have e : (strBs L).map (·.data.toList) = L.map fun (i : Nat) => Lib.itoa i := by simp [strBs, Function.comp_def]
      rw [e] at hJ
      have e2 : (strBs L).length = L.length := by simp [strBs]
      rw [e2] at hJ
      refine hJ.mono ?_
      rintro _ w4 ⟨rfl, hb4⟩
      go_wp2
      go_ret
      exact ⟨by rw [HL.out]; rfl, (HB1.out.trans (HB.out.mono HB1.out.size)).trans (hb4.mono (Nat.le_trans HB1.out.size HB.out.size))⟩

theorem list_zero (w : World) : Calls Tryd.prog 40 #[.int .u64 0] w fun e w' => e = .returned (.slice none 0 0) ∧ w' = w := by
  go_enter Tryd.func40, Tryd.ntmps40
  go_wp2
  go_loop [0, 3] (fun a v => a = .int .u64 0 ∧ v = .slice none 0 0) (fun _ _ => 0)
  case atStart => exact ⟨rfl, rfl⟩
  case round =>
    obtain ⟨rfl, rfl⟩ := hrel
    go_wp2
    go_ret
    exact ⟨rfl, rfl⟩
theorem cores_zero (w : World) : Calls Tryd.prog 23 #[.int .u64 0] w fun e w' => e = .returned (St []) ∧ Below w.heap.size w w' := by
  go_enter Tryd.func23, Tryd.ntmps23
  go_wp2_with fail
  refine (list_zero _).mono ?_
  rintro _ w1 ⟨rfl, rfl⟩
  go_wp2
  go_loop [3, 5, 9] (fun v _ a => a = .int .i64 0 ∧ v = .slice none 0 0) (fun _ _ _ => 0)
  case atStart => exact ⟨rfl, rfl⟩
  case round =>
    obtain ⟨rfl, rfl⟩ := hrel
    go_wp2_with fail
    refine (Tryd.strings_Join_none none 0 ⟨#[44]⟩ _).mono ?_
    rintro _ w2 ⟨rfl, rfl⟩
    go_wp2
    go_ret
    exact ⟨rfl, Below.refl _ _⟩
theorem bitsUp_ne {m : Nat} (h : m < 18446744073709551616) (h0 : m ≠ 0) : 0 < (bitsUp m).length := by
  rw [bitsUp_step m h0 h]; simp
theorem cores_any (m : Nat) (hm : m < 18446744073709551616) (w : World) (hg : GW w) : Calls Tryd.prog 23 #[.int .u64 m] w fun e w' => e = .returned (St (maskL (bitsUp m))) ∧ Below w.heap.size w w' := by
  by_cases h : m = 0
  · subst h; exact cores_zero w
  · exact cores_some m hm (bitsUp_ne hm h) (fun i hi => by have := bitsUp_lt m i hi; omega) w hg

theorem one_any (k : Nat) (h : k < 64) (w : World) : Calls Tryd.prog 63 #[.int .i64 k] w fun e w' => e = .returned (.int .u64 ((2 ^ k : Nat) : Int)) ∧ w' = w := by
  go_enter Tryd.func63, Tryd.ntmps63
  go_wp2
  go_ret
  refine ⟨?_, rfl⟩
  have hp : (2 : Nat) ^ k < 2 ^ 64 := Nat.pow_lt_pow_right (by decide) h
  have e : IntKind.u64.wrap (2 ^ k) = ((2 ^ k : Nat) : Int) := by
    have e2 : (2 : Int) ^ k = ((2 ^ k : Nat) : Int) := by simp
    rw [e2, IntKind.wrap_u64]
    have h3 : (2 : Nat) ^ k < 18446744073709551616 := hp
    generalize (2 : Nat) ^ k = p at h3 ⊢
    omega
  rw [e]; rfl
theorem with_any (m k b : Nat) (hm : m < 18446744073709551616) (h : k < 64) (w : World) (hc : w.cell? ⟨b, 0, none⟩ = some (.int .i64 k)) : Calls Tryd.prog 45 #[.int .u64 m, .slice (some ⟨b, 0, none⟩) 1 1] w fun e w' => e = .returned (.int .u64 ((m ||| 2 ^ k : Nat) : Int)) ∧ w' = w := by
  have HC := Lib.hid hc
  have hp : (2 : Nat) ^ k < 18446744073709551616 := by have := Nat.pow_lt_pow_right (a := 2) (by decide) h; simpa using this
  have HO := Lib.hid (bits_or_u64_nat m (2 ^ k) hm hp)
  go_enter Tryd.func45, Tryd.ntmps45
  go_wp2
  go_loop [0, 6, 9] (fun a _ c => (a = .int .u64 m ∧ c = .int .i64 0) ∨ (a = .int .u64 ((m ||| 2 ^ k : Nat) : Int) ∧ c = .int .i64 1)) (fun _ _ c => 1 - (intOf c).toNat)
  case atStart => exact .inl ⟨rfl, rfl⟩
  case round =>
    rcases hrel with ⟨rfl, rfl⟩ | ⟨rfl, rfl⟩
    · go_wp2_with fail
      refine (one_any k h _).mono ?_
      rintro _ w2 ⟨rfl, rfl⟩
      go_wp2
      go_round
      case rel => exact .inr ⟨by rw [show ((2 : Int) ^ k) = ((2 ^ k : Nat) : Int) by simp, HO.out], rfl⟩
      case measure => simp [intOf]
    · go_wp2
      go_ret
      exact ⟨rfl, rfl⟩

end Go.Proofs.YtcjngndgmedabaaDoor
