/-
  The walks of ShowBacks and ShowBoth: both return true, whatever the input.
-/
import Derived.Test.YtlnemkdoknkhaaaDoorSh11
namespace Go.Proofs.YtlnemkdoknkhaaaDoor
open Go Go.RowKit
set_option linter.unusedVariables false
set_option linter.unusedSimpArgs false

theorem d0 : Lib.itoa 0 = [48] := by rw [itoa_pos (by decide), dec_small (by decide)]; rfl
theorem d1 : Lib.itoa 1 = [49] := by rw [itoa_pos (by decide), dec_small (by decide)]; rfl
theorem d2 : Lib.itoa 2 = [50] := by rw [itoa_pos (by decide), dec_small (by decide)]; rfl
theorem d5 : Lib.itoa 5 = [53] := by rw [itoa_pos (by decide), dec_small (by decide)]; rfl
theorem d11 : Lib.itoa 11 = [49, 49] := by rw [itoa_pos (by decide), dec_big (by decide), dec_small (by decide)]; rfl
theorem lineA : (RV.mk 7 1 0 0 11).line = [104, 111, 116, 32, 99, 49, 32, 101, 49, 49] := by
  simp [RV.line, lineOf, kw, fld, d1, d11]
theorem lineB : lineOf 3 2 5 0 0 = [102, 105, 114, 101, 32, 99, 50, 32, 105, 53] := by
  simp [lineOf, kw, fld, d2, d5]
theorem backA : backV [104, 111, 116, 32, 99, 49, 32, 101, 49, 49] = .tuple #[.agg #[.int .i64 7, .int .i64 1, .int .i64 0, .int .i64 0, .int .i64 11], .int .i64 0] := by
  have hok : (RV.mk 7 1 0 0 11).Ok := ⟨by decide, by decide, by decide, by decide, by decide⟩
  have h := read_line hok (by decide)
  rw [lineA] at h
  have hb : backOk [104, 111, 116, 32, 99, 49, 32, 101, 49, 49] = true := by
    unfold backOk; rw [h, lineA]; rfl
  unfold backV; rw [hb, h]; rfl
theorem bits37 : bitsUp 37 = [0, 2, 5] := by decide
theorem maskA : maskL (bitsUp 37) = [48, 44, 50, 44, 53] := by
  rw [bits37]
  show Lib.join [Lib.itoa 0, Lib.itoa 2, Lib.itoa 5] [44] = _
  rw [d0, d2, d5]; rfl

set_option maxRecDepth 100000 in
set_option maxHeartbeats 1000000 in
theorem known_any (w : World) (hg : GW w) : Calls Tryd.prog 5 #[] w fun e w' => e = .returned (.bool true) ∧ Below w.heap.size w w' := by
  have Hg := Lib.hid hg; clear hg
  have B := Lib.hid (back_any [104, 111, 116, 32, 99, 49, 32, 101, 49, 49] (by decide) w Hg.out)
  go_enter Tryd.func5, Tryd.ntmps5
  go_wp2_with fail
  refine B.out.mono ?_
  rw [backA]
  rintro _ w1 ⟨rfl, hb1⟩
  have Hg1 := Lib.hid (Hg.out.next hb1)
  have HB1 := Lib.hid hb1
  clear hb1
  go_wp2_with fail
  refine (line_any 3 2 5 0 0 (by decide) (by decide) (by decide) (by decide) _ (Hg1.out.next ((Below.refl _ _).alloc (Nat.le_refl _) _))).mono ?_
  rw [lineB]
  rintro _ w2 ⟨rfl, hb2⟩
  obtain ⟨hc2, hf2⟩ := bcell hb2
  have HB2 := Lib.hid hb2
  clear hb2
  have hM := mask_any 37 (by decide) (by rw [bits37]; decide) (by rw [bits37]; decide) w2 ((Hg1.out.next ((Below.refl _ _).alloc (Nat.le_refl _) _)).next HB2.out)
  rw [maskA] at hM
  have HM := Lib.hid hM; clear hM
  go_wp2_with fail
  refine HM.out.mono ?_
  rintro _ w3 ⟨rfl, hb3⟩
  have HB3 := Lib.hid hb3; clear hb3
  go_wp2
  go_ret
  refine ⟨rfl, ?_⟩
  have h1 := HB1.out
  have h2 := HB2.out
  have h3 := HB3.out
  have s2 := h2.size
  rw [World.size_alloc] at s2
  exact ((h1.trans (((Below.refl _ _).alloc (Nat.le_refl _) _).mono h1.size)).trans (h2.mono (by rw [World.size_alloc]; have := h1.size; omega))).trans (h3.mono (by have := h1.size; omega))

theorem backV_form (l : List UInt8) : ∃ (r : RV) (e : Int), backV l = .tuple #[.agg #[.int .i64 r.k, .int .i64 r.c, .int .i64 r.i, .int .i64 r.n, .int .i64 r.e], .int .i64 e] := ⟨if backOk l then readL l else RV.zero, if backOk l then 0 else 13, by unfold backV; split <;> rfl⟩

set_option maxRecDepth 100000 in
set_option maxHeartbeats 1000000 in
theorem showBacks_any (l : List UInt8) (hmax : l.length ≤ 140737488355328) (w : World) (hg : GW w) : Calls Tryd.prog 3 #[St l] w fun e w' => e = .returned (.bool true) ∧ Below w.heap.size w w' := by
  have Hg := Lib.hid hg; clear hg
  by_cases hl : l.length ≤ 200
  · have hle : ¬ 200 < l.length := by omega
    obtain ⟨r, e, hV⟩ := backV_form l
    have B := back_any l (by omega) w Hg.out
    rw [hV] at B
    have BB := Lib.hid B
    clear B
    have hR : refV l = backV l := refV_eq l
    rw [hV] at hR
    have HR := Lib.hid hR
    clear hV hR
    go_enter Tryd.func3, Tryd.ntmps3
    go_wp2_with fail
    refine BB.out.mono ?_
    rintro _ w1 ⟨rfl, hb1⟩
    have Hg1 := Lib.hid (Hg.out.next hb1)
    have HB1 := Lib.hid hb1
    clear hb1
    go_wp2_with fail
    refine (refBack_any l hl _).mono ?_
    rw [HR.out]
    rintro _ w2 ⟨rfl, hb2⟩
    have hr2 : w2.heap[w1.heap.size]? = some (.cells r.cells 25 (0, 0)) := (hb2.block _ (by simp)).trans (World.alloc_heap_new w1 _)
    obtain ⟨⟨d0, f0⟩, ⟨d1, f1⟩, ⟨d2, f2⟩, ⟨d3, f3⟩, ⟨d4, f4⟩⟩ := rec_cells hr2
    have hlt2 : w1.heap.size < w2.heap.size := (Array.getElem?_eq_some_iff.1 hr2).1
    have hne2 : ¬ w1.heap.size = w2.heap.size := by omega
    clear hr2
    have HB2 := Lib.hid hb2
    have hs2 : w1.heap.size + 1 ≤ w2.heap.size := by have := hb2.size; rw [World.size_alloc] at this; exact this
    have Hg2 := Lib.hid ((Hg1.out.next ((Below.refl _ _).alloc (Nat.le_refl _) _)).next hb2)
    clear hb2
    go_wp2_with fail
    refine (known_any _ (Hg2.out.next ((Below.refl _ _).alloc (Nat.le_refl _) _))).mono ?_
    rintro _ w3 ⟨rfl, hb3⟩
    have HB3 := Lib.hid hb3; clear hb3
    go_wp2
    go_ret
    refine ⟨rfl, ?_⟩
    have h1 := HB1.out
    have h2 := HB2.out
    have h3 := HB3.out
    have s2 := h2.size
    have s3 := h3.size
    rw [World.size_alloc] at s2 s3
    have s1 := h1.size
    exact (((h1.trans (((Below.refl _ _).alloc (Nat.le_refl _) _).mono h1.size)).trans (h2.mono (by rw [World.size_alloc]; omega))).trans (((Below.refl _ _).alloc (Nat.le_refl _) _).mono (by omega))).trans (h3.mono (by rw [World.size_alloc]; omega))
  · have hle : 200 < l.length := by omega
    go_enter Tryd.func3, Tryd.ntmps3
    go_wp2_with fail
    refine (known_any w Hg.out).mono ?_
    rintro _ w1 ⟨rfl, hb1⟩
    go_wp2
    go_ret
    exact ⟨rfl, hb1⟩

theorem backV_line {r : RV} (h : r.Ok) (hk : 1 ≤ r.k) : backV r.line = .tuple #[.agg #[.int .i64 r.k, .int .i64 r.c, .int .i64 r.i, .int .i64 r.n, .int .i64 r.e], .int .i64 0] := by
  have h1 := read_line h hk
  have hb : backOk r.line = true := by unfold backOk; rw [h1]; simp; omega
  unfold backV; rw [hb, h1]; rfl
theorem backV_nil : backV [] = .tuple #[.agg #[.int .i64 0, .int .i64 0, .int .i64 0, .int .i64 0, .int .i64 0], .int .i64 13] := by
  have h1 : readL [] = RV.zero := by unfold readL; rw [splitW_no (by simp)]; rfl
  have hb : backOk [] = false := by unfold backOk; rw [h1]; rfl
  unfold backV; rw [hb]; rfl
theorem line_out {k c i n e : Int} (h : k < 1 ∨ 7 < k) : lineOf k c i n e = [] := by unfold lineOf; rw [if_pos (kw_out k h)]
theorem line_ne {k c i n e : Int} (h : 1 ≤ k ∧ k ≤ 7) : (lineOf k c i n e).isEmpty = false := by
  unfold lineOf
  have := kw_ne h
  rw [if_neg this]
  cases hk : kw k with
  | nil => exact absurd hk this
  | cons x t => rfl
theorem line_len (k c i n e : Int) (hc : I64 c) (hi : I64 i) (hn : I64 n) (he : I64 e) : (lineOf k c i n e).length ≤ 98 := by
  unfold lineOf
  split
  · simp
  · have := kw_len k
    have := fld_len 99 c hc
    have := fld_len 105 i hi
    have := fld_len 110 n hn
    have := fld_len 101 e he
    simp only [List.length_append]; omega

/-- The part of ShowBoth behind the record: any line. -/
def bothOk (l : List UInt8) : Prop := ∃ r : RV, ∃ e : Int, backV l = .tuple #[.agg #[.int .i64 r.k, .int .i64 r.c, .int .i64 r.i, .int .i64 r.n, .int .i64 r.e], .int .i64 e] ∧ I64 r.c ∧ I64 r.i ∧ I64 r.n ∧ I64 r.e ∧ (e ≠ 0 ∨ e = 0 ∧ lineOf r.k r.c r.i r.n r.e = l)
theorem both_all (l : List UInt8) : bothOk l := by
  unfold bothOk
  by_cases hb : backOk l = true
  · have hok : (readL l).Ok := readV_ok _
    refine ⟨readL l, 0, by unfold backV; rw [hb]; rfl, hok.c, hok.i, hok.n, hok.e, .inr ⟨rfl, ?_⟩⟩
    unfold backOk at hb
    simp at hb
    exact hb.2
  · have hb' : backOk l = false := by simpa using hb
    exact ⟨RV.zero, 13, by unfold backV; rw [hb']; rfl, by decide, by decide, by decide, by decide, .inl (by decide)⟩

set_option maxRecDepth 100000 in
set_option maxHeartbeats 2000000 in
theorem showBoth_any (k c i n e : Int) (hc : I64 c) (hi : I64 i) (hn : I64 n) (he : I64 e) (l : List UInt8) (hmax : l.length ≤ 140737488355328) (w : World) (hg : GW w) :
    Calls Tryd.prog 4 #[.agg #[.int .i64 k, .int .i64 c, .int .i64 i, .int .i64 n, .int .i64 e], St l] w fun r w' => r = .returned (.bool true) ∧ Below w.heap.size w w' := by
  have Hg := Lib.hid hg; clear hg
  have hlen := line_len k c i n e hc hi hn he
  go_enter Tryd.func4, Tryd.ntmps4
  go_wp2_with fail
  refine (line_any k c i n e hc hi hn he _ (Hg.out.next ((Below.refl _ _).alloc (Nat.le_refl _) _))).mono ?_
  rintro _ w1 ⟨rfl, hb1⟩
  have hr1 : w1.heap[w.heap.size]? = some (.cells (RV.mk k c i n e).cells 25 (0, 0)) := (hb1.block _ (by simp)).trans (World.alloc_heap_new w _)
  have HB1 := Lib.hid hb1
  have HR1 := Lib.hid hr1
  have hs1 : w.heap.size < w1.heap.size := (Array.getElem?_eq_some_iff.1 hr1).1
  have Hg1 := Lib.hid ((Hg.out.next ((Below.refl _ _).alloc (Nat.le_refl _) _)).next hb1)
  clear hb1 hr1
  by_cases hk : 1 ≤ k ∧ k ≤ 7
  · have hV := backV_line (r := ⟨k, c, i, n, e⟩) ⟨hc, hi, hn, he, by show 0 ≤ k ∧ k ≤ 7; omega⟩ hk.1
    have HE := line_ne (c := c) (i := i) (n := n) (e := e) hk
    have B := back_any (lineOf k c i n e) (by omega) w1 Hg1.out
    rw [show lineOf k c i n e = (RV.mk k c i n e).line from rfl, hV] at B
    have BB := Lib.hid B; clear B hV
    obtain ⟨hk1, hk7⟩ := hk
    go_wp2_with fail
    refine BB.out.mono ?_
    rintro _ w2 ⟨rfl, hb2⟩
    have hr2 := (hb2.block _ hs1).trans HR1.out
    obtain ⟨⟨d0, f0⟩, ⟨d1, f1⟩, ⟨d2, f2⟩, ⟨d3, f3⟩, ⟨d4, f4⟩⟩ := rec_cells hr2
    have hs2 : w.heap.size < w2.heap.size := (Array.getElem?_eq_some_iff.1 hr2).1
    have hne2 : ¬ w.heap.size = w2.heap.size := by omega
    have Hg2 := Lib.hid (Hg1.out.next hb2)
    have HBw2 := Lib.hid ((((Below.refl _ w).alloc (Nat.le_refl _) _).trans (HB1.out.mono (by simp))).trans (hb2.mono (by omega)))
    clear hb2 hr2
    have Hg3 := Lib.hid (Hg2.out.next ((Below.refl _ w2).alloc (Nat.le_refl _) (.cells #[.int .i64 k, .int .i64 c, .int .i64 i, .int .i64 n, .int .i64 e] 25)))
    have HB3 := Lib.hid (HBw2.out.trans (((Below.refl _ w2).alloc (Nat.le_refl _) (.cells #[.int .i64 k, .int .i64 c, .int .i64 i, .int .i64 n, .int .i64 e] 25)).mono HBw2.out.size))
    by_cases hl : l.length ≤ 200
    · obtain ⟨r, e', hV, gc, gi, gn, ge, hcase⟩ := both_all l
      have B := back_any l (by omega) _ Hg3.out
      rw [hV] at B
      have BB3 := Lib.hid B; clear B hV
      have hle : ¬ 200 < l.length := by omega
      go_wp2_with fail
      refine BB3.out.mono ?_
      rintro _ w4 ⟨rfl, hb4⟩
      have Hg4 := Lib.hid (Hg3.out.next hb4)
      have HB4 := Lib.hid (HB3.out.trans (hb4.mono HB3.out.size))
      clear hb4
      rcases hcase with h0 | ⟨rfl, hline⟩
      · have h0' : (e' != 0) = true := by simpa using h0
        go_wp2_with fail
        refine (known_any _ (Hg4.out.next ((Below.refl _ _).alloc (Nat.le_refl _) _))).mono ?_
        rintro _ w5 ⟨rfl, hb5⟩
        have HB5 := Lib.hid hb5; clear hb5
        go_wp2
        go_ret
        exact ⟨rfl, (HB4.out.trans (((Below.refl _ _).alloc (Nat.le_refl _) _).mono HB4.out.size)).trans (HB5.out.mono (by rw [World.size_alloc]; have := HB4.out.size; omega))⟩
      · have HL := Lib.hid hline; clear hline
        go_wp2_with fail
        refine (line_any r.k r.c r.i r.n r.e gc gi gn ge _ (Hg4.out.next ((Below.refl _ _).alloc (Nat.le_refl _) _))).mono ?_
        rw [HL.out]
        rintro _ w5 ⟨rfl, hb5⟩
        have HB5 := Lib.hid ((HB4.out.trans (((Below.refl _ _).alloc (Nat.le_refl _) _).mono HB4.out.size)).trans (hb5.mono (by rw [World.size_alloc]; have := HB4.out.size; omega)))
        have Hg5 := Lib.hid ((Hg4.out.next ((Below.refl _ _).alloc (Nat.le_refl _) _)).next hb5)
        clear hb5
        go_wp2_with fail
        refine (known_any _ Hg5.out).mono ?_
        rintro _ w6 ⟨rfl, hb6⟩
        have HB6 := Lib.hid hb6; clear hb6
        go_wp2
        go_ret
        exact ⟨rfl, HB5.out.trans (HB6.out.mono HB5.out.size)⟩
    · have hle : 200 < l.length := by omega
      go_wp2_with fail
      refine (known_any _ Hg3.out).mono ?_
      rintro _ w6 ⟨rfl, hb6⟩
      have HB6 := Lib.hid hb6; clear hb6
      go_wp2
      go_ret
      exact ⟨rfl, HB3.out.trans (HB6.out.mono HB3.out.size)⟩
  · have hko : k < 1 ∨ 7 < k := by omega
    have HE := Lib.hid (line_out (c := c) (i := i) (n := n) (e := e) hko)
    have B := back_any [] (by simp) w1 Hg1.out
    rw [backV_nil] at B
    have BB := Lib.hid B; clear B
    rw [HE.out]
    have hkk : ¬ (1 ≤ k ∧ k ≤ 7) := hk
    clear hk hlen
    by_cases hk1 : 1 ≤ k
    · have hk7 : ¬ k ≤ 7 := by omega
      clear hkk hko
      go_wp2_with fail
      refine BB.out.mono ?_
      rintro _ w2 ⟨rfl, hb2⟩
      have hr2 := (hb2.block _ hs1).trans HR1.out
      obtain ⟨⟨d0, f0⟩, ⟨d1, f1⟩, ⟨d2, f2⟩, ⟨d3, f3⟩, ⟨d4, f4⟩⟩ := rec_cells hr2
      have hs2 : w.heap.size < w2.heap.size := (Array.getElem?_eq_some_iff.1 hr2).1
      have hne2 : ¬ w.heap.size = w2.heap.size := by omega
      have Hg2 := Lib.hid (Hg1.out.next hb2)
      have HBw2 := Lib.hid ((((Below.refl _ w).alloc (Nat.le_refl _) _).trans (HB1.out.mono (by simp))).trans (hb2.mono (by omega)))
      clear hb2 hr2
      have Hg3 := Lib.hid (Hg2.out.next ((Below.refl _ w2).alloc (Nat.le_refl _) (.cells #[.int .i64 0, .int .i64 0, .int .i64 0, .int .i64 0, .int .i64 0] 25)))
      have HB3 := Lib.hid (HBw2.out.trans (((Below.refl _ w2).alloc (Nat.le_refl _) (.cells #[.int .i64 0, .int .i64 0, .int .i64 0, .int .i64 0, .int .i64 0] 25)).mono HBw2.out.size))
      by_cases hl : l.length ≤ 200
      · obtain ⟨r, e', hV, gc, gi, gn, ge, hcase⟩ := both_all l
        have B := back_any l (by omega) _ Hg3.out
        rw [hV] at B
        have BB3 := Lib.hid B; clear B hV
        have hle : ¬ 200 < l.length := by omega
        go_wp2_with fail
        refine BB3.out.mono ?_
        rintro _ w4 ⟨rfl, hb4⟩
        have Hg4 := Lib.hid (Hg3.out.next hb4)
        have HB4 := Lib.hid (HB3.out.trans (hb4.mono HB3.out.size))
        clear hb4
        rcases hcase with h0 | ⟨rfl, hline⟩
        · have h0' : (e' != 0) = true := by simpa using h0
          go_wp2_with fail
          refine (known_any _ (Hg4.out.next ((Below.refl _ _).alloc (Nat.le_refl _) _))).mono ?_
          rintro _ w5 ⟨rfl, hb5⟩
          have HB5 := Lib.hid hb5; clear hb5
          go_wp2
          go_ret
          exact ⟨rfl, (HB4.out.trans (((Below.refl _ _).alloc (Nat.le_refl _) _).mono HB4.out.size)).trans (HB5.out.mono (by rw [World.size_alloc]; have := HB4.out.size; omega))⟩
        · have HL := Lib.hid hline; clear hline
          go_wp2_with fail
          refine (line_any r.k r.c r.i r.n r.e gc gi gn ge _ (Hg4.out.next ((Below.refl _ _).alloc (Nat.le_refl _) _))).mono ?_
          rw [HL.out]
          rintro _ w5 ⟨rfl, hb5⟩
          have HB5 := Lib.hid ((HB4.out.trans (((Below.refl _ _).alloc (Nat.le_refl _) _).mono HB4.out.size)).trans (hb5.mono (by rw [World.size_alloc]; have := HB4.out.size; omega)))
          have Hg5 := Lib.hid ((Hg4.out.next ((Below.refl _ _).alloc (Nat.le_refl _) _)).next hb5)
          clear hb5
          go_wp2_with fail
          refine (known_any _ Hg5.out).mono ?_
          rintro _ w6 ⟨rfl, hb6⟩
          have HB6 := Lib.hid hb6; clear hb6
          go_wp2
          go_ret
          exact ⟨rfl, HB5.out.trans (HB6.out.mono HB5.out.size)⟩
      · have hle : 200 < l.length := by omega
        go_wp2_with fail
        refine (known_any _ Hg3.out).mono ?_
        rintro _ w6 ⟨rfl, hb6⟩
        have HB6 := Lib.hid hb6; clear hb6
        go_wp2
        go_ret
        exact ⟨rfl, HB3.out.trans (HB6.out.mono HB3.out.size)⟩
    · clear hkk hko
      go_wp2_with fail
      refine BB.out.mono ?_
      rintro _ w2 ⟨rfl, hb2⟩
      have hr2 := (hb2.block _ hs1).trans HR1.out
      obtain ⟨⟨d0, f0⟩, ⟨d1, f1⟩, ⟨d2, f2⟩, ⟨d3, f3⟩, ⟨d4, f4⟩⟩ := rec_cells hr2
      have hs2 : w.heap.size < w2.heap.size := (Array.getElem?_eq_some_iff.1 hr2).1
      have hne2 : ¬ w.heap.size = w2.heap.size := by omega
      have Hg2 := Lib.hid (Hg1.out.next hb2)
      have HBw2 := Lib.hid ((((Below.refl _ w).alloc (Nat.le_refl _) _).trans (HB1.out.mono (by simp))).trans (hb2.mono (by omega)))
      clear hb2 hr2
      have Hg3 := Lib.hid (Hg2.out.next ((Below.refl _ w2).alloc (Nat.le_refl _) (.cells #[.int .i64 0, .int .i64 0, .int .i64 0, .int .i64 0, .int .i64 0] 25)))
      have HB3 := Lib.hid (HBw2.out.trans (((Below.refl _ w2).alloc (Nat.le_refl _) (.cells #[.int .i64 0, .int .i64 0, .int .i64 0, .int .i64 0, .int .i64 0] 25)).mono HBw2.out.size))
      by_cases hl : l.length ≤ 200
      · obtain ⟨r, e', hV, gc, gi, gn, ge, hcase⟩ := both_all l
        have B := back_any l (by omega) _ Hg3.out
        rw [hV] at B
        have BB3 := Lib.hid B; clear B hV
        have hle : ¬ 200 < l.length := by omega
        go_wp2_with fail
        refine BB3.out.mono ?_
        rintro _ w4 ⟨rfl, hb4⟩
        have Hg4 := Lib.hid (Hg3.out.next hb4)
        have HB4 := Lib.hid (HB3.out.trans (hb4.mono HB3.out.size))
        clear hb4
        rcases hcase with h0 | ⟨rfl, hline⟩
        · have h0' : (e' != 0) = true := by simpa using h0
          go_wp2_with fail
          refine (known_any _ (Hg4.out.next ((Below.refl _ _).alloc (Nat.le_refl _) _))).mono ?_
          rintro _ w5 ⟨rfl, hb5⟩
          have HB5 := Lib.hid hb5; clear hb5
          go_wp2
          go_ret
          exact ⟨rfl, (HB4.out.trans (((Below.refl _ _).alloc (Nat.le_refl _) _).mono HB4.out.size)).trans (HB5.out.mono (by rw [World.size_alloc]; have := HB4.out.size; omega))⟩
        · have HL := Lib.hid hline; clear hline
          go_wp2_with fail
          refine (line_any r.k r.c r.i r.n r.e gc gi gn ge _ (Hg4.out.next ((Below.refl _ _).alloc (Nat.le_refl _) _))).mono ?_
          rw [HL.out]
          rintro _ w5 ⟨rfl, hb5⟩
          have HB5 := Lib.hid ((HB4.out.trans (((Below.refl _ _).alloc (Nat.le_refl _) _).mono HB4.out.size)).trans (hb5.mono (by rw [World.size_alloc]; have := HB4.out.size; omega)))
          have Hg5 := Lib.hid ((Hg4.out.next ((Below.refl _ _).alloc (Nat.le_refl _) _)).next hb5)
          clear hb5
          go_wp2_with fail
          refine (known_any _ Hg5.out).mono ?_
          rintro _ w6 ⟨rfl, hb6⟩
          have HB6 := Lib.hid hb6; clear hb6
          go_wp2
          go_ret
          exact ⟨rfl, HB5.out.trans (HB6.out.mono HB5.out.size)⟩
      · have hle : 200 < l.length := by omega
        go_wp2_with fail
        refine (known_any _ Hg3.out).mono ?_
        rintro _ w6 ⟨rfl, hb6⟩
        have HB6 := Lib.hid hb6; clear hb6
        go_wp2
        go_ret
        exact ⟨rfl, HB3.out.trans (HB6.out.mono HB3.out.size)⟩
#print axioms showBoth_any
end Go.Proofs.YtlnemkdoknkhaaaDoor
