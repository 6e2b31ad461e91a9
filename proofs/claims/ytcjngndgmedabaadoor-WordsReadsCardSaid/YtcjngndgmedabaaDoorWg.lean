/-
  strings.Split at one byte, and words.masked.
-/
import Derived.Test.YtcjngndgmedabaaDoorWf
import Derived.Deep.WholeRow
namespace Go.Proofs.YtcjngndgmedabaaDoor
open Go Go.RowKit
set_option linter.unusedVariables false
set_option linter.unusedSimpArgs false


theorem countB_one (c : UInt8) (l : List UInt8) : Lib.countB ⟨l.toArray⟩ ⟨#[c]⟩ = l.count c := by
  have : Lib.countB ⟨l.toArray⟩ ⟨#[c]⟩ = Lib.count l [c] := rfl
  rw [this, Lib.count_one]
theorem splitB_spl (c : UInt8) (l : List UInt8) : (Lib.splitB ⟨#[c]⟩ 0 (Lib.countB ⟨l.toArray⟩ ⟨#[c]⟩) ⟨l.toArray⟩).map Value.string = (spl c l).map St ∧ Lib.countB ⟨l.toArray⟩ ⟨#[c]⟩ + 1 = (spl c l).length := by
  have h1 := Lib.splitB_data ⟨#[c]⟩ 0 (Lib.countB ⟨l.toArray⟩ ⟨#[c]⟩) ⟨l.toArray⟩
  rw [countB_one] at h1 ⊢
  have h2 : Lib.splitK [c] 0 (l.count c) l = spl c l := splitK_spl c _ l rfl
  have h3 : (Lib.splitB ⟨#[c]⟩ 0 (l.count c) ⟨l.toArray⟩).map (·.data.toList) = spl c l := h1.trans h2
  constructor
  · rw [← h3, List.map_map]
    apply List.map_congr_left
    intro b _
    show Value.string b = Value.string ⟨b.data.toList.toArray⟩
    simp
  · rw [← h3, List.length_map]
    exact (Lib.splitB_all ⟨#[c]⟩ (Nat.le_refl 1) 0 _ _ (countB_one c l)).symm
def splBlk (c : UInt8) (l : List UInt8) : Obj := .cells ((spl c l).map St).toArray 9 (0, 0)
theorem split_any (c : UInt8) (l : List UInt8) (hl : l.length ≤ 16000) (w : World) (hg : GW w) : Calls Tryd.prog 27 #[St l, St [c]] w fun e w' =>
    e = .returned (.slice (some ⟨w.heap.size, 0, none⟩) (spl c l).length (spl c l).length) ∧ w' = w.alloc (splBlk c l) := by
  obtain ⟨m, hm⟩ := hg.mx
  have h := Tryd.strings_Split ⟨l.toArray⟩ ⟨#[c]⟩ m w (by rw [bsz]; omega) hm (Nat.le_refl 1)
  obtain ⟨h1, h2⟩ := splitB_spl c l
  rw [h1, h2] at h
  exact h
theorem spl_cell {c : UInt8} {l : List UInt8} {w : World} {b : Nat} (h : w.heap[b]? = some (splBlk c l)) {k : Nat} (hk : k < (spl c l).length) : w.cell? ⟨b, k, none⟩ = some (St (spl c l)[k]) := by
  have : w.cell? ⟨b, k, none⟩ = (((spl c l).map St).toArray)[k]? := blk_cell h k
  rw [this]; simp [hk]

theorem masks_step {ws : List (List UInt8)} {k m : Nat} (hk : k < ws.length) : masks (ws.drop k) m = match numOf ws[k] with
    | none => none
    | some n => if 0 ≤ n ∧ n < 64 then masks (ws.drop (k + 1)) (m ||| 2 ^ n.toNat) else none := by
  rw [List.drop_eq_getElem_cons hk, masks]; cases numOf ws[k] <;> rfl

set_option maxRecDepth 100000 in
set_option maxHeartbeats 2000000 in
theorem masked_any (l : List UInt8) (hl : l.length ≤ 4000) (w : World) (hg : GW w) : Calls Tryd.prog 30 #[St l] w fun e w' =>
    ((∃ m, maskOf l = some m ∧ e = .returned (.int .u64 m)) ∨ (maskOf l = none ∧ e = never)) ∧ Below w.heap.size w w' := by
  by_cases hnil : l = []
  · subst hnil
    go_enter Tryd.func30, Tryd.ntmps30
    go_wp2
    go_ret
    exact ⟨.inl ⟨0, by unfold maskOf; rw [if_pos rfl], rfl⟩, Below.refl _ _⟩
  · have hne : (l.isEmpty) = false := by cases l <;> simp_all
    have Hg := Lib.hid hg
    have HN := Lib.hid hnil
    clear hg hnil
    go_enter Tryd.func30, Tryd.ntmps30
    go_wp2_with fail
    refine (split_any 44 l (by omega) _ Hg.out).mono ?_
    rintro _ w1 ⟨rfl, rfl⟩
    have HB0 := Lib.hid (Below.alloc (Below.refl w.heap.size w) (Nat.le_refl _) (splBlk 44 l))
    have HS0 := Lib.hid (heap_alloc_last w (splBlk 44 l))
    generalize hw1 : w.alloc (splBlk 44 l) = w1 at *
    clear hw1
    have hlen := spl_len_le 44 l
    go_wp2
    go_loopw [3, 5, 6, 12] (fun a _ _ c wr => ∃ k m : Nat, k ≤ (spl 44 l).length ∧ a = .int .u64 m ∧ c = .int .i64 k ∧ m < 18446744073709551616 ∧ Hid (masks ((spl 44 l).drop k) m = masks (spl 44 l) 0) ∧ Hid (Below w.heap.size w wr) ∧ Hid (wr.heap[w.heap.size]? = some (splBlk 44 l))) (fun _ _ _ c _ => (spl 44 l).length - (intOf c).toNat)
    case atStart => exact ⟨0, 0, by omega, rfl, rfl, by decide, rfl, HB0, HS0⟩
    case round =>
      clear HB0 HS0
      obtain ⟨k, m, hk, rfl, rfl, hm, HM, HB, HS⟩ := hrel
      by_cases hlt : k < (spl 44 l).length
      · have hcl := spl_cell HS.out hlt
        have HST := Lib.hid (masks_step (m := m) hlt)
        have hwl := spl_part_le 44 l (spl 44 l)[k] (List.getElem_mem hlt)
        have hwl2 : (spl 44 l)[k].length ≤ 4000 := by omega
        generalize (spl 44 l)[k] = x at *
        go_wp2_with fail
        refine (number_w x hwl2 _ (Hg.out.next HB.out)).mono ?_
        rintro _ w2 ⟨⟨n, hn, hN, rfl⟩ | ⟨hN, rfl⟩, hb2⟩
        · have HN2 := Lib.hid hN
          have HB2 := Lib.hid (HB.out.trans (hb2.mono HB.out.size))
          have HS2 := Lib.hid ((hb2.block _ (Array.getElem?_eq_some_iff.1 HS.out).1).trans HS.out)
          clear hN hb2
          unfold I64 at hn
          by_cases hr : 0 ≤ n ∧ n < 64
          · obtain ⟨q, rfl⟩ := Int.eq_ofNat_of_zero_le hr.1
            have hq : q < 64 := by omega
            have hr2 : (q : Int) < 64 := by omega
            go_wp2_with fail
            refine (must_true _).mono ?_
            rintro _ w3 ⟨rfl, rfl⟩
            go_wp2_with fail
            refine (with_any m q w3.heap.size hm hq (w3.alloc (.cells #[.int .i64 q] 3)) (blk_cell (heap_alloc_last w3 _) 0)).mono ?_
            rintro _ w4 ⟨rfl, rfl⟩
            go_wp2
            go_roundw
            case rel =>
              refine ⟨k + 1, m ||| 2 ^ q, by omega, rfl, by go_num, ?_, ?_, HB2.out.alloc HB2.out.size _, ?_⟩
              · exact Nat.or_lt_two_pow (n := 64) (by simpa using hm) (Nat.pow_lt_pow_right (by decide) hq)
              · show masks _ _ = _
                rw [← HM.out, HST.out, HN2.out]
                simp only []
                rw [if_pos (by omega)]; rfl
              · exact (Below.heap_alloc _ _ _ (Array.getElem?_eq_some_iff.1 HS2.out).1).trans HS2.out
            case measure => simp [intOf]; omega
          · have HE := Lib.hid (show maskOf l = none by
              unfold maskOf; rw [if_neg HN.out, ← HM.out, HST.out, HN2.out]; simp only []; rw [if_neg hr])
            by_cases h0 : 0 ≤ n
            · have h64 : 64 ≤ n := by omega
              clear hr
              have hd : decide (n < 64) = false := decide_eq_false (by omega)
              go_wp2_with fail
              refine (must_false _).mono ?_
              rintro _ w3 ⟨rfl, rfl⟩
              go_wp2
              exact ⟨rfl, .inr ⟨HE.out, rfl⟩, HB2.out⟩
            · clear hr
              go_wp2_with fail
              refine (must_false _).mono ?_
              rintro _ w3 ⟨rfl, rfl⟩
              go_wp2
              exact ⟨rfl, .inr ⟨HE.out, rfl⟩, HB2.out⟩
        · have HE := Lib.hid (show maskOf l = none by
            unfold maskOf; rw [if_neg HN.out, ← HM.out, HST.out, hN])
          go_wp2
          exact ⟨rfl, .inr ⟨HE.out, rfl⟩, HB.out.trans (hb2.mono HB.out.size)⟩
      · obtain rfl : k = (spl 44 l).length := by omega
        have HE := Lib.hid (show masks (spl 44 l) 0 = some m by rw [← HM.out, List.drop_length]; rfl)
        go_wp2_with fail
        refine (cores_any m hm _ (Hg.out.next HB.out)).mono ?_
        rintro _ w2 ⟨rfl, hb2⟩
        have HB2 := Lib.hid (HB.out.trans (hb2.mono HB.out.size))
        clear hb2
        by_cases he : maskL (bitsUp m) = l
        · have he' : (maskL (bitsUp m) == l) = true := by simpa using he
          have HF := Lib.hid (show maskOf l = some m by unfold maskOf; rw [if_neg HN.out, HE.out]; simp only []; rw [if_pos he])
          clear he
          go_wp2_with fail
          refine (must_true _).mono ?_
          rintro _ w3 ⟨rfl, rfl⟩
          go_wp2
          go_ret
          exact ⟨.inl ⟨m, HF.out, rfl⟩, HB2.out⟩
        · have he' : (maskL (bitsUp m) == l) = false := by simpa using he
          have HF := Lib.hid (show maskOf l = none by unfold maskOf; rw [if_neg HN.out, HE.out]; simp only []; rw [if_neg he])
          clear he
          go_wp2_with fail
          refine (must_false _).mono ?_
          rintro _ w3 ⟨rfl, rfl⟩
          go_wp2
          exact ⟨rfl, .inr ⟨HF.out, rfl⟩, HB2.out⟩

end Go.Proofs.YtcjngndgmedabaaDoor
