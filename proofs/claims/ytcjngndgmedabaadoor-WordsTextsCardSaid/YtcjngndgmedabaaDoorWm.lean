/-
  The reference: Cpus, mask, write and Line.
-/
import Derived.Test.YtcjngndgmedabaaDoorWl
namespace Go.Proofs.YtcjngndgmedabaaDoor
open Go Go.RowKit
set_option linter.unusedVariables false
set_option linter.unusedSimpArgs false


theorem maskL_snoc : ∀ (l : List Nat) (x : Nat), l ≠ [] → maskL (l ++ [x]) = maskL l ++ 44 :: Lib.itoa x
  | [], _, h => absurd rfl h
  | [i], x, _ => by rw [List.singleton_append, maskL_cons, maskL_one, maskL_one]
  | i :: j :: l, x, _ => by
    have ih := maskL_snoc (j :: l) x (by simp)
    rw [List.cons_append, List.cons_append, maskL_cons, maskL_cons, ← List.cons_append, ih]; simp
set_option maxRecDepth 100000 in
set_option maxHeartbeats 1000000 in
theorem cpus_any (m : Nat) (hm : m < 18446744073709551616) (w : World) : Calls Tryd.prog 50 #[.int .u64 m] w fun e w' => e = .returned (St (maskL (bitsUp m))) ∧ Below w.heap.size w w' := by
  have hlen := bitsUp_len m
  have HB64 := Lib.hid (bitsUp_lt m)
  go_enter Tryd.func50, Tryd.ntmps50
  go_wp2_with fail
  refine (refList_any m hm _).mono ?_
  rintro _ w1 ⟨v, rfl, hown, hb1⟩
  generalize hL : bitsUp m = L at *
  have HL := Lib.hid hL
  have HB1 := Lib.hid hb1
  clear hL hb1
  by_cases h0 : L = []
  · subst h0
    have hz : maskL (bitsUp m) = [] := by rw [HL.out]; rfl
    have HZ := Lib.hid hz
    rcases hown.2 with ⟨rfl, _⟩ | ⟨g, cap, cur, rfl, _⟩
    all_goals
      clear hown
      go_wp2
      go_loop [3, 5] (fun a b => a = St [] ∧ b = .int .i64 0) (fun _ _ => 0)
      case atStart => exact ⟨rfl, rfl⟩
      case round =>
        obtain ⟨rfl, rfl⟩ := hrel
        go_wp2
        go_ret
        exact ⟨rfl, HB1.out⟩
  · obtain ⟨g, cap, rfl, hbg, hgw, hcap, hcl⟩ := own_cells hown (by cases L <;> simp_all)
    have HC := Lib.hid hcl
    clear hown hcl
    go_wp2
    go_loop [3, 5] (fun a b => ∃ k : Nat, k ≤ L.length ∧ a = St (maskL (L.take k)) ∧ b = .int .i64 k) (fun _ b => L.length - (intOf b).toNat)
    case atStart => exact ⟨0, by omega, rfl, rfl⟩
    case round =>
      obtain ⟨k, hk, rfl, rfl⟩ := hrel
      by_cases hlt : k < L.length
      · have hcell : w1.cell? ⟨g, k, none⟩ = some (.int .i64 (L[k] : Nat)) := by have := HC.out k hlt; simpa [intVs, hlt] using this
        have hx := HB64.out L[k] (List.getElem_mem hlt)
        have HT := Lib.hid (List.take_succ_eq_append_getElem hlt)
        have hml := maskL_len (L.take k) (fun i hi => HB64.out i (List.mem_of_mem_take hi))
        have htk : (L.take k).length ≤ 64 := by simp; omega
        have hml2 : (maskL (L.take k)).length ≤ 192 := by omega
        clear hml htk
        by_cases hk0 : k = 0
        · subst hk0
          have HM := Lib.hid (show maskL (L.take (0 + 1)) = Lib.itoa (L[0] : Nat) by rw [HT.out]; simp [maskL_one])
          generalize L[0] = x at *
          rw [show maskL (L.take 0) = [] from rfl, show ((0 : Nat) : Int) = 0 from rfl]
          go_wp2_with fail
          refine (num_any x (by omega) (by omega) _).mono ?_
          rintro _ w2 ⟨rfl, rfl⟩
          have hil := Lib.itoa_length_le (x : Int) (by omega) (by omega)
          go_wp2
          go_round
          case rel => exact ⟨1, by omega, by rw [HM.out]; show Value.string ((⟨([] : List UInt8).toArray⟩ : ByteArray) ++ ⟨(Lib.itoa (x : Int)).toArray⟩) = _; rw [ba_app]; rfl, by go_num⟩
          case measure => simp [intOf]; omega
        · have HM := Lib.hid (show maskL (L.take (k + 1)) = maskL (L.take k) ++ 44 :: Lib.itoa (L[k] : Nat) by rw [HT.out, maskL_snoc]; intro e; have := congrArg List.length e; rw [List.length_take, List.length_nil] at this; omega)
          have hk1 : 0 < (k : Int) := by omega
          generalize L[k] = x at *
          generalize maskL (L.take k) = tx at *
          go_wp2_with fail
          refine (num_any x (by omega) (by omega) _).mono ?_
          rintro _ w2 ⟨rfl, rfl⟩
          have hil := Lib.itoa_length_le (x : Int) (by omega) (by omega)
          go_wp2
          go_round
          case rel => exact ⟨k + 1, by omega, by rw [HM.out]; show Value.string ((⟨tx.toArray⟩ : ByteArray) ++ ⟨#[44]⟩ ++ ⟨(Lib.itoa (x : Int)).toArray⟩) = _; rw [ba_app tx [44], ba_app]; simp, by go_num⟩
          case measure => simp [intOf]; omega
      · obtain rfl : k = L.length := by omega
        rw [List.take_length]
        go_wp2
        go_ret
        exact ⟨by rw [HL.out]; rfl, HB1.out⟩

set_option maxRecDepth 100000 in
set_option maxHeartbeats 2000000 in
theorem refMask_any (l : List UInt8) (hl : l.length ≤ 4000) (w : World) : Calls Tryd.prog 35 #[St l] w fun e w' =>
    ((∃ m, maskOf l = some m ∧ e = .returned (.tuple #[.int .u64 m, .bool true])) ∨ (maskOf l = none ∧ ∃ m : Int, e = .returned (.tuple #[.int .u64 m, .bool false]))) ∧ Below w.heap.size w w' := by
  by_cases hnil : l = []
  · subst hnil
    go_enter Tryd.func35, Tryd.ntmps35
    go_wp2
    go_ret2
    exact ⟨.inl ⟨0, by unfold maskOf; rw [if_pos rfl], rfl⟩, Below.refl _ _⟩
  · have hne : (l.isEmpty) = false := by cases l <;> simp_all
    have HN := Lib.hid hnil
    clear hnil
    go_enter Tryd.func35, Tryd.ntmps35
    go_wp2_with fail
    refine (refSplit_any l 44 (by omega) _).mono ?_
    rintro _ w1 ⟨v, rfl, hown, hb1⟩
    obtain ⟨g, cap, rfl, hbg, hgw, hcap, hcl⟩ := own_cells hown (by cases h : spl 44 l with
      | nil => exact absurd h (spl_ne _ _)
      | cons x xs => simp)
    have HB0 := Lib.hid hb1
    have HC0 := Lib.hid hcl
    have hlen := spl_len_le 44 l
    clear hown hcl hb1
    go_wp2
    go_loopw [5, 6, 7, 8] (fun a b _ _ wr => ∃ k m : Nat, k ≤ (spl 44 l).length ∧ a = .int .u64 m ∧ b = .int .i64 k ∧ m < 18446744073709551616 ∧ Hid (masks ((spl 44 l).drop k) m = masks (spl 44 l) 0) ∧ Hid (Below w1.heap.size w1 wr)) (fun _ b _ _ _ => (spl 44 l).length - (intOf b).toNat)
    case atStart => exact ⟨0, 0, by omega, rfl, rfl, by decide, rfl, Below.refl _ _⟩
    case round =>
      obtain ⟨k, m, hk, rfl, rfl, hm, HM, HB⟩ := hrel
      by_cases hlt : k < (spl 44 l).length
      · have hcell : wr.cell? ⟨g, k, none⟩ = some (St (spl 44 l)[k]) := by
          rw [HB.out.cell (p := ⟨g, k, none⟩) hgw, HC0.out k hlt]; simp [hlt]
        have HST := Lib.hid (masks_step (m := m) hlt)
        have hwl := spl_part_le 44 l (spl 44 l)[k] (List.getElem_mem hlt)
        have hwl2 : (spl 44 l)[k].length ≤ 4000 := by omega
        generalize (spl 44 l)[k] = x at *
        go_wp2_with fail
        refine (number_all x hwl2 _).mono ?_
        rintro _ w2 ⟨⟨n, hn, hN, rfl⟩ | ⟨hN, n, rfl⟩, rfl⟩
        · have HN2 := Lib.hid hN
          clear hN
          unfold I64 at hn
          by_cases hr : 0 ≤ n ∧ n < 64
          · obtain ⟨q, rfl⟩ := Int.eq_ofNat_of_zero_le hr.1
            have hq : q < 64 := by omega
            have hr2 : (q : Int) ≤ 63 := by omega
            have hr1 : ¬ (q : Int) < 0 := by omega
            clear hr hn
            go_wp2_with fail
            refine (refWith_any m q hm hq _).mono ?_
            rintro _ w3 ⟨rfl, rfl⟩
            go_wp2
            go_roundw
            case rel =>
              refine ⟨k + 1, m ||| 2 ^ q, by omega, rfl, by go_num, ?_, ?_, HB⟩
              · exact Nat.or_lt_two_pow (n := 64) (by simpa using hm) (Nat.pow_lt_pow_right (by decide) hq)
              · show masks _ _ = _
                rw [← HM.out, HST.out, HN2.out]
                simp only []
                rw [if_pos (by omega)]; rfl
            case measure => simp [intOf]; omega
          · have HE := Lib.hid (show maskOf l = none by
              unfold maskOf; rw [if_neg HN.out, ← HM.out, HST.out, HN2.out]; simp only []; rw [if_neg hr])
            by_cases h0 : n < 0
            · clear hr
              go_wp2
              go_ret2
              exact ⟨.inr ⟨HE.out, 0, rfl⟩, HB0.out.trans (HB.out.mono HB0.out.size)⟩
            · have h64 : 63 < n := by omega
              clear hr
              go_wp2
              go_ret2
              exact ⟨.inr ⟨HE.out, 0, rfl⟩, HB0.out.trans (HB.out.mono HB0.out.size)⟩
        · have HE := Lib.hid (show maskOf l = none by
            unfold maskOf; rw [if_neg HN.out, ← HM.out, HST.out, hN])
          clear hN
          go_wp2
          go_ret2
          exact ⟨.inr ⟨HE.out, 0, rfl⟩, HB0.out.trans (HB.out.mono HB0.out.size)⟩
      · obtain rfl : k = (spl 44 l).length := by omega
        have HE := Lib.hid (show masks (spl 44 l) 0 = some m by rw [← HM.out, List.drop_length]; rfl)
        go_wp2_with fail
        refine (cpus_any m hm _).mono ?_
        rintro _ w2 ⟨rfl, hb2⟩
        have HB2 := Lib.hid (HB0.out.trans ((HB.out.trans (hb2.mono HB.out.size)).mono HB0.out.size))
        clear hb2
        by_cases he : maskL (bitsUp m) = l
        · have he' : (maskL (bitsUp m) == l) = true := by simpa using he
          have HF := Lib.hid (show maskOf l = some m by unfold maskOf; rw [if_neg HN.out, HE.out]; simp only []; rw [if_pos he])
          clear he
          go_wp2
          go_ret2
          exact ⟨.inl ⟨m, HF.out, rfl⟩, HB2.out⟩
        · have he' : (maskL (bitsUp m) == l) = false := by simpa using he
          have HF := Lib.hid (show maskOf l = none by unfold maskOf; rw [if_neg HN.out, HE.out]; simp only []; rw [if_neg he])
          clear he
          go_wp2
          go_ret2
          exact ⟨.inr ⟨HF.out, m, rfl⟩, HB2.out⟩

end Go.Proofs.YtcjngndgmedabaaDoor
