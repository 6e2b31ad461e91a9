/-
  davitref33.Back comes to refV: what the document says of a line.
-/
import Derived.Test.YtlnemkdoknkhaaaDoorSh9
namespace Go.Proofs.YtlnemkdoknkhaaaDoor
open Go Go.RowKit
set_option linter.unusedVariables false
set_option linter.unusedSimpArgs false

/-- Reading the record that the reference returns. -/
theorem resR {W : World} {b : Nat} {r : RV} {tm : Array Value} {e : Int} (h : W.heap[b]? = some (.cells r.cells 25 (0, 0))) (h2 : tm[2]?.getD undef = .pointer (some ⟨b, 0, none⟩)) (h3 : tm[3]?.getD undef = .int .i64 e) :
    (results Tryd.f7 tm).run Tryd.prog W = .ok (.tuple #[r.agg, .int .i64 e]) W := by
  obtain ⟨⟨d0, f0⟩, ⟨d1, f1⟩, ⟨d2, f2⟩, ⟨d3, f3⟩, ⟨d4, f4⟩⟩ := rec_cells h
  simp [results, Tryd.results7, go_sem, h2, h3, d0, d1, d2, d3, d4, RV.agg, RV.cells]
theorem ref_fin (B : Nat) (w W4 : World) (b : Nat) (r : RV) (er : Int) (V : Value) (tm : Array Value) (h : W4.heap[b]? = some (.cells r.cells 25 (0, 0))) (hB : Below B w W4)
    (hV : V = .tuple #[r.agg, .int .i64 er]) (h2 : tm[2]?.getD undef = .pointer (some ⟨b, 0, none⟩)) (h3 : tm[3]?.getD undef = .int .i64 er) :
    bodyPost Tryd.prog Tryd.f7 (fun e w' => e = Ending.returned V ∧ Below B w w') Exit.ret { tmps := tm, defers := [] } W4 :=
  bodyPost_ret (resR (r := r) (e := er) h h2 h3) rfl ⟨by rw [hV], hB⟩

/-- The kinds' loop so far. -/
def KUp (w : List UInt8) (i : Nat) (kk : Int) : Prop := (∃ j : Nat, 1 ≤ j ∧ j < i ∧ kw j = w ∧ kk = j) ∨ (NoKind w i ∧ kk = 0)
theorem KUp.start (w : List UInt8) : KUp w 1 0 := .inr ⟨fun j h1 h2 => by omega, rfl⟩
theorem KUp.yes {w : List UInt8} {i : Nat} {kk : Int} (h : KUp w i kk) (h1 : 1 ≤ i) (hw : kw i = w) : KUp w (i + 1) i := .inl ⟨i, h1, by omega, hw, rfl⟩
theorem KUp.no {w : List UInt8} {i : Nat} {kk : Int} (h : KUp w i kk) (hw : kw i ≠ w) : KUp w (i + 1) kk := by
  rcases h with ⟨j, h1, h2, h3, h4⟩ | ⟨h1, h2⟩
  · exact .inl ⟨j, h1, by omega, h3, h4⟩
  · refine .inr ⟨fun j hj1 hj2 => ?_, h2⟩
    by_cases e : j = i
    · subst e; exact hw
    · exact h1 j hj1 (by omega)
theorem KUp.end {w : List UInt8} {kk : Int} (h : KUp w 8 kk) : kk = kindOf w := by
  rcases h with ⟨j, h1, h2, h3, h4⟩ | ⟨h1, h2⟩
  · rw [← h3, kindOf_kw h1 (by omega), h4]
  · rw [kindOf_none h1, h2]

theorem number_all (d : List UInt8) (hd : d.length ≤ 4000) (w : World) : Calls Tryd.prog 14 #[St d] w fun e w' => ((∃ n, I64 n ∧ numOf d = some n ∧ e = .returned (.tuple #[.int .i64 n, .bool true])) ∨ (numOf d = none ∧ ∃ n, e = .returned (.tuple #[.int .i64 n, .bool false]))) ∧ w' = w := by
  cases d with
  | nil => exact (number_nil w).mono fun e w' ⟨he, hw⟩ => ⟨.inr ⟨rfl, 0, he⟩, hw⟩
  | cons x t => exact (number_any (x :: t) hd (by simp) w).mono fun e w' ⟨he, hw⟩ => ⟨he.cases, hw⟩
theorem refV_none {l : List UInt8} (h : refR l = none) : refV l = .tuple #[RV.zero.agg, .int .i64 13] := by unfold refV refOk; rw [h]
theorem refV_bad {l : List UInt8} {r : RV} (h : refR l = some r) (h2 : r.k = 0 ∨ r.line ≠ l) : refV l = .tuple #[RV.zero.agg, .int .i64 13] := by unfold refV refOk; rw [h]; simp only []; rw [if_pos h2]
theorem refV_good {l : List UInt8} {r : RV} (h : refR l = some r) (h1 : ¬ r.k = 0) (h2 : r.line = l) : refV l = .tuple #[r.agg, .int .i64 0] := by unfold refV refOk; rw [h]; simp [h1, h2]
theorem parse_step {f : Nat} {x : UInt8} {t : List UInt8} {r : RV} {L : UInt8} {d : List UInt8} (h : W1 (x :: t) = L :: d) : parse (f + 1) (x :: t) r = match numOf d with | none => none | some n => if isLetter L then parse f (R1 (x :: t)) (r.set L n) else none := by rw [parse, h]; rfl

set_option maxRecDepth 100000 in
set_option maxHeartbeats 4000000 in
theorem refBack_any (l : List UInt8) (hl : l.length ≤ 200) (w : World) : Calls Tryd.prog 7 #[St l] w fun e w' => e = .returned (refV l) ∧ Below w.heap.size w w' := by
  go_enter Tryd.func7, Tryd.ntmps7
  go_wp2_with fail
  refine (word1_any l (by omega) _).mono ?_
  rintro _ w1 ⟨rfl, k1, rfl⟩
  go_wp2
  go_loopw [7] (fun a wr => ∃ (i : Nat) (kk : Int), 1 ≤ i ∧ i ≤ 8 ∧ a = .int .i64 i ∧ KUp (W1 l) i kk ∧ wr.heap[w.heap.size]? = some (.cells RV.zero.cells 25 (0, 0)) ∧ wr.heap[w.heap.size + 1]? = some (.cells (RV.mk kk 0 0 0 0).cells 25 (0, 0)) ∧ Below w.heap.size w wr) (fun a _ => 8 - (intOf a).toNat)
  case atStart =>
    have hsz : ((w.alloc (.cells #[.int .i64 0, .int .i64 0, .int .i64 0, .int .i64 0, .int .i64 0] 25)).drewN k1).heap.size = w.heap.size + 1 := by
      show (w.alloc (.cells #[.int .i64 0, .int .i64 0, .int .i64 0, .int .i64 0, .int .i64 0] 25)).heap.size = _
      rw [World.size_alloc]
    refine ⟨1, 0, by omega, by omega, rfl, KUp.start _, ?_, ?_, ?_⟩
    · exact (Below.heap_alloc _ _ _ (by rw [hsz]; omega)).trans (World.alloc_heap_new w _)
    · have := World.alloc_heap_new ((w.alloc (.cells #[.int .i64 0, .int .i64 0, .int .i64 0, .int .i64 0, .int .i64 0] 25)).drewN k1) (.cells #[.int .i64 0, .int .i64 0, .int .i64 0, .int .i64 0, .int .i64 0] 25)
      rw [hsz] at this; exact this
    · exact (below_drewN ((Below.refl _ _).alloc (Nat.le_refl _) _) k1).alloc (by rw [hsz]; omega) _
  case round =>
    obtain ⟨i, kk, hi1, hi, rfl, hku, hz, hr, hB⟩ := hrel
    have HKU := Lib.hid hku; have HZ := Lib.hid hz; have HR := Lib.hid hr; have HB := Lib.hid hB
    have hsz : w.heap.size + 1 < wr.heap.size := (Array.getElem?_eq_some_iff.1 hr).1
    clear hku hz hr hB
    by_cases hlt : i < 8
    · go_wp2_with fail
      refine (name_any i _).mono ?_
      rintro _ w2 ⟨rfl, hb2⟩
      have HZ2 := Lib.hid ((hb2.block _ (by omega)).trans HZ.out)
      have HR2 := Lib.hid ((hb2.block _ (by omega)).trans HR.out)
      have HB2 := Lib.hid (HB.out.trans (hb2.mono (by omega)))
      obtain ⟨⟨d0, f0⟩, _⟩ := rec_cells HR2.out
      clear hb2
      by_cases hw : kw i = W1 l
      · have hw' : (kw i == W1 l) = true := by simpa using hw
        have HW := Lib.hid hw; clear hw
        go_wp2
        go_roundw
        case rel => exact ⟨i + 1, i, by omega, by omega, by go_num, HKU.out.yes hi1 HW.out, (Below.heap_setCell _ _ _ _ (by show w.heap.size ≠ w.heap.size + 1; omega)).trans HZ2.out, blk_set HR2.out 0 _, HB2.out.setCell (p := ⟨w.heap.size + 1, 0, none⟩) (by show w.heap.size ≤ w.heap.size + 1; omega) _⟩
        case measure => simp [intOf]; omega
      · have hw' : (kw i == W1 l) = false := by simpa using hw
        have HW := Lib.hid hw; clear hw
        go_wp2
        go_roundw
        case rel => exact ⟨i + 1, kk, by omega, by omega, by go_num, HKU.out.no HW.out, HZ2.out, HR2.out, HB2.out⟩
        case measure => simp [intOf]; omega
    · obtain rfl : i = 8 := by omega
      have hkk := HKU.out.end
      subst hkk
      have H0 := Lib.hid (show parse (5 - 0) (R1 l) (RV.mk (kindOf (W1 l)) 0 0 0 0) = refR l from rfl)
      have hrl : (R1 l).length ≤ 200 := by have := R1_le l; omega
      rw [show ((8 : Nat) : Int) = 8 from rfl]
      go_wp2
      go_loopw [3, 4, 5, 8, 9, 10] (fun _ _ b c _ _ wx => ∃ (j : Nat) (rest : List UInt8) (r : RV), j ≤ 5 ∧ b = St rest ∧ c = .int .i64 j ∧ rest.length ≤ 200 ∧ Hid (parse (5 - j) rest r = refR l) ∧ Hid (wx.heap[w.heap.size]? = some (.cells RV.zero.cells 25 (0, 0))) ∧ Hid (wx.heap[w.heap.size + 1]? = some (.cells r.cells 25 (0, 0))) ∧ Hid (Below w.heap.size w wx)) (fun _ _ _ c _ _ _ => 5 - (intOf c).toNat)
      case atStart => exact ⟨0, R1 l, _, by omega, rfl, rfl, hrl, H0, HZ, HR, HB⟩
      case round =>
        clear HZ HR HB H0
        obtain ⟨j, rest, r, hj, rfl, rfl, hrest, HP, HZ, HR, HB⟩ := hrel
        by_cases hj5 : j < 5
        · cases rest with
          | nil =>
            have HRR := Lib.hid (show refR l = some r by rw [← HP.out, show 5 - j = (4 - j) + 1 by omega]; rfl)
            obtain ⟨⟨d0, f0⟩, ⟨d1, f1⟩, ⟨d2, f2⟩, ⟨d3, f3⟩, ⟨d4, f4⟩⟩ := rec_cells HR.out
            obtain ⟨⟨z0, y0⟩, ⟨z1, y1⟩, ⟨z2, y2⟩, ⟨z3, y3⟩, ⟨z4, y4⟩⟩ := rec_cells HZ.out
            have hok := refR_ok HRR.out
            have hszx : w.heap.size + 1 < wr.heap.size := (Array.getElem?_eq_some_iff.1 HR.out).1
            by_cases hk : r.k = 0
            · have hk' : (r.k == 0) = true := by simpa using hk
              have HV := Lib.hid (refV_bad HRR.out (.inl hk))
              clear hk
              go_wp2
              exact ref_fin _ w _ _ RV.zero 13 _ _ (set5 0 0 0 0 0 HZ.out) (HB.out.trans (set5_below _ w.heap.size 0 0 0 0 0)) HV.out rfl rfl
            · have hk' : (r.k == 0) = false := by simpa using hk
              have HKn := Lib.hid hk; clear hk
              have H8 := Lib.hid (refLine_any r.k _ _ _ _ hok.c hok.i hok.n hok.e wr)
              go_wp2_with fail
              refine H8.out.mono ?_
              rintro _ W3 ⟨rfl, hb3⟩
              have HR3 := Lib.hid ((hb3.block (w.heap.size + 1) (by omega)).trans HR.out)
              have HZ3 := Lib.hid ((hb3.block w.heap.size (by omega)).trans HZ.out)
              have HBB := Lib.hid (HB.out.trans (hb3.mono (by omega : w.heap.size ≤ wr.heap.size)))
              clear d0 f0 d1 f1 d2 f2 d3 f3 d4 f4 z0 y0 z1 y1 z2 y2 z3 y3 z4 y4 hb3 H8
              obtain ⟨⟨d0, f0⟩, ⟨d1, f1⟩, ⟨d2, f2⟩, ⟨d3, f3⟩, ⟨d4, f4⟩⟩ := rec_cells HR3.out
              obtain ⟨⟨z0, y0⟩, ⟨z1, y1⟩, ⟨z2, y2⟩, ⟨z3, y3⟩, ⟨z4, y4⟩⟩ := rec_cells HZ3.out
              by_cases hline : r.line = l
              · have hl' : (lineOf r.k r.c r.i r.n r.e == l) = true := by simpa [RV.line] using hline
                have HV := Lib.hid (refV_good HRR.out HKn.out hline)
                clear hline
                go_wp2
                exact ref_fin _ w _ _ r 0 _ _ (set5 _ _ _ _ _ HZ3.out) (HBB.out.trans (set5_below W3 w.heap.size _ _ _ _ _)) HV.out rfl rfl
              · have hl' : (lineOf r.k r.c r.i r.n r.e == l) = false := by simpa [RV.line] using hline
                have HV := Lib.hid (refV_bad HRR.out (.inr hline))
                clear hline
                go_wp2
                exact ref_fin _ w _ _ RV.zero 13 _ _ (set5 0 0 0 0 0 HZ3.out) (HBB.out.trans (set5_below W3 w.heap.size 0 0 0 0 0)) HV.out rfl rfl
          | cons x t =>
            go_wp2_with fail
            refine (word1_any (x :: t) (by omega) _).mono ?_
            rintro _ w3 ⟨rfl, k3, rfl⟩
            obtain ⟨j', rfl⟩ : ∃ i, j = i := ⟨j, rfl⟩
            have HP2 := HP
            have hW1 := W1_le (x :: t)
            cases hw : W1 (x :: t) with
            | nil =>
              have HV := Lib.hid (refV_none (show refR l = none by rw [← HP.out, show 5 - j = (4 - j) + 1 by omega, parse, hw]))
              obtain ⟨⟨z0, y0⟩, ⟨z1, y1⟩, ⟨z2, y2⟩, ⟨z3, y3⟩, ⟨z4, y4⟩⟩ := rec_cells HZ.out
              clear hw
              go_wp2
              exact ref_fin _ w _ _ RV.zero 13 _ _ (set5 0 0 0 0 0 HZ.out) (HB.out.trans (below_drewN (Below.refl _ _) k3) |>.trans (set5_below _ w.heap.size 0 0 0 0 0)) HV.out rfl rfl
            | cons L d =>
              have hd4 : d.length ≤ 4000 := by rw [hw] at hW1; simp only [List.length_cons] at hW1 hrest; omega
              have HW := Lib.hid hw; clear hw hW1
              have HX := Lib.hid (show ((⟨(L :: d).toArray⟩ : ByteArray).extract 1 (d.length + 1)) = ⟨d.toArray⟩ by rw [ByteArray.extract_mk]; simp)
              go_wp2_with fail
              rw [HX.out]
              refine (number_all d hd4 _).mono ?_
              rintro _ w4 ⟨⟨n, hn, hN, rfl⟩ | ⟨hN, n, rfl⟩, rfl⟩
              · have HN := Lib.hid hN; clear hN
                obtain ⟨⟨d0, f0⟩, ⟨d1, f1⟩, ⟨d2, f2⟩, ⟨d3, f3⟩, ⟨d4, f4⟩⟩ := rec_cells HR.out
                obtain ⟨⟨z0, y0⟩, ⟨z1, y1⟩, ⟨z2, y2⟩, ⟨z3, y3⟩, ⟨z4, y4⟩⟩ := rec_cells HZ.out
                go_wp2
                · have hL : L = 99 := bget_is (l := L :: d) (k := 0) (hp := by rw [bsz]; simp) (c := 99) (by decide) (by assumption)
                  subst hL
                  go_roundw
                  case rel => exact ⟨j + 1, R1 (x :: t), r.set 99 n, by omega, rfl, by go_num, by have := R1_le (x :: t); omega, by rw [← HP2.out, show 5 - j = (5 - (j + 1)) + 1 by omega, parse_step HW.out, HN.out]; rfl, (Below.heap_setCell _ _ _ _ (by show w.heap.size ≠ w.heap.size + 1; omega)).trans HZ.out, blk_set HR.out 1 _, (below_drewN HB.out k3).setCell (p := ⟨w.heap.size + 1, 1, none⟩) (by show w.heap.size ≤ w.heap.size + 1; omega) _⟩
                  case measure => simp [intOf]; omega
                · have hL : L = 105 := bget_is (l := L :: d) (k := 0) (hp := by rw [bsz]; simp) (c := 105) (by decide) (by assumption)
                  subst hL
                  go_roundw
                  case rel => exact ⟨j + 1, R1 (x :: t), r.set 105 n, by omega, rfl, by go_num, by have := R1_le (x :: t); omega, by rw [← HP2.out, show 5 - j = (5 - (j + 1)) + 1 by omega, parse_step HW.out, HN.out]; rfl, (Below.heap_setCell _ _ _ _ (by show w.heap.size ≠ w.heap.size + 1; omega)).trans HZ.out, blk_set HR.out 2 _, (below_drewN HB.out k3).setCell (p := ⟨w.heap.size + 1, 2, none⟩) (by show w.heap.size ≤ w.heap.size + 1; omega) _⟩
                  case measure => simp [intOf]; omega
                · have hL : L = 110 := bget_is (l := L :: d) (k := 0) (hp := by rw [bsz]; simp) (c := 110) (by decide) (by assumption)
                  subst hL
                  go_roundw
                  case rel => exact ⟨j + 1, R1 (x :: t), r.set 110 n, by omega, rfl, by go_num, by have := R1_le (x :: t); omega, by rw [← HP2.out, show 5 - j = (5 - (j + 1)) + 1 by omega, parse_step HW.out, HN.out]; rfl, (Below.heap_setCell _ _ _ _ (by show w.heap.size ≠ w.heap.size + 1; omega)).trans HZ.out, blk_set HR.out 3 _, (below_drewN HB.out k3).setCell (p := ⟨w.heap.size + 1, 3, none⟩) (by show w.heap.size ≤ w.heap.size + 1; omega) _⟩
                  case measure => simp [intOf]; omega
                · have hL : L = 101 := bget_is (l := L :: d) (k := 0) (hp := by rw [bsz]; simp) (c := 101) (by decide) (by assumption)
                  subst hL
                  go_roundw
                  case rel => exact ⟨j + 1, R1 (x :: t), r.set 101 n, by omega, rfl, by go_num, by have := R1_le (x :: t); omega, by rw [← HP2.out, show 5 - j = (5 - (j + 1)) + 1 by omega, parse_step HW.out, HN.out]; rfl, (Below.heap_setCell _ _ _ _ (by show w.heap.size ≠ w.heap.size + 1; omega)).trans HZ.out, blk_set HR.out 4 _, (below_drewN HB.out k3).setCell (p := ⟨w.heap.size + 1, 4, none⟩) (by show w.heap.size ≤ w.heap.size + 1; omega) _⟩
                  case measure => simp [intOf]; omega
                · have n1 : L ≠ 99 := bget_no (l := L :: d) (k := 0) (hp := by rw [bsz]; simp) (c := 99) (by decide) (by assumption)
                  have n2 : L ≠ 105 := bget_no (l := L :: d) (k := 0) (hp := by rw [bsz]; simp) (c := 105) (by decide) (by assumption)
                  have n3 : L ≠ 110 := bget_no (l := L :: d) (k := 0) (hp := by rw [bsz]; simp) (c := 110) (by decide) (by assumption)
                  have n4 : L ≠ 101 := bget_no (l := L :: d) (k := 0) (hp := by rw [bsz]; simp) (c := 101) (by decide) (by assumption)
                  have hno : isLetter L = false := by simp [isLetter, n1, n2, n3, n4]
                  have hV := refV_none (show refR l = none by rw [← HP.out, show 5 - j = (4 - j) + 1 by omega, parse_step HW.out, HN.out]; simp [hno])
                  exact ref_fin _ w _ _ RV.zero 13 _ _ (set5 0 0 0 0 0 HZ.out) (HB.out.trans (below_drewN (Below.refl _ _) k3) |>.trans (set5_below _ w.heap.size 0 0 0 0 0)) hV rfl rfl
              · have HV := Lib.hid (refV_none (show refR l = none by rw [← HP.out, show 5 - j = (4 - j) + 1 by omega, parse_step HW.out, hN]))
                obtain ⟨⟨z0, y0⟩, ⟨z1, y1⟩, ⟨z2, y2⟩, ⟨z3, y3⟩, ⟨z4, y4⟩⟩ := rec_cells HZ.out
                clear hN
                go_wp2
                exact ref_fin _ w _ _ RV.zero 13 _ _ (set5 0 0 0 0 0 HZ.out) (HB.out.trans (below_drewN (Below.refl _ _) k3) |>.trans (set5_below _ w.heap.size 0 0 0 0 0)) HV.out rfl rfl
        · obtain rfl : j = 5 := by omega
          have HRR := Lib.hid (show refR l = some r by rw [← HP.out]; rfl)
          obtain ⟨⟨d0, f0⟩, ⟨d1, f1⟩, ⟨d2, f2⟩, ⟨d3, f3⟩, ⟨d4, f4⟩⟩ := rec_cells HR.out
          obtain ⟨⟨z0, y0⟩, ⟨z1, y1⟩, ⟨z2, y2⟩, ⟨z3, y3⟩, ⟨z4, y4⟩⟩ := rec_cells HZ.out
          have hok := refR_ok HRR.out
          have hszx : w.heap.size + 1 < wr.heap.size := (Array.getElem?_eq_some_iff.1 HR.out).1
          by_cases hk : r.k = 0
          · have hk' : (r.k == 0) = true := by simpa using hk
            have HV := Lib.hid (refV_bad HRR.out (.inl hk))
            clear hk
            go_wp2
            exact ref_fin _ w _ _ RV.zero 13 _ _ (set5 0 0 0 0 0 HZ.out) (HB.out.trans (set5_below _ w.heap.size 0 0 0 0 0)) HV.out rfl rfl
          · have hk' : (r.k == 0) = false := by simpa using hk
            have HKn := Lib.hid hk; clear hk
            have H8 := Lib.hid (refLine_any r.k _ _ _ _ hok.c hok.i hok.n hok.e wr)
            go_wp2_with fail
            refine H8.out.mono ?_
            rintro _ W3 ⟨rfl, hb3⟩
            have HR3 := Lib.hid ((hb3.block (w.heap.size + 1) (by omega)).trans HR.out)
            have HZ3 := Lib.hid ((hb3.block w.heap.size (by omega)).trans HZ.out)
            have HBB := Lib.hid (HB.out.trans (hb3.mono (by omega : w.heap.size ≤ wr.heap.size)))
            clear d0 f0 d1 f1 d2 f2 d3 f3 d4 f4 z0 y0 z1 y1 z2 y2 z3 y3 z4 y4 hb3 H8
            obtain ⟨⟨d0, f0⟩, ⟨d1, f1⟩, ⟨d2, f2⟩, ⟨d3, f3⟩, ⟨d4, f4⟩⟩ := rec_cells HR3.out
            obtain ⟨⟨z0, y0⟩, ⟨z1, y1⟩, ⟨z2, y2⟩, ⟨z3, y3⟩, ⟨z4, y4⟩⟩ := rec_cells HZ3.out
            by_cases hline : r.line = l
            · have hl' : (lineOf r.k r.c r.i r.n r.e == l) = true := by simpa [RV.line] using hline
              have HV := Lib.hid (refV_good HRR.out HKn.out hline)
              clear hline
              go_wp2
              exact ref_fin _ w _ _ r 0 _ _ (set5 _ _ _ _ _ HZ3.out) (HBB.out.trans (set5_below W3 w.heap.size _ _ _ _ _)) HV.out rfl rfl
            · have hl' : (lineOf r.k r.c r.i r.n r.e == l) = false := by simpa [RV.line] using hline
              have HV := Lib.hid (refV_bad HRR.out (.inr hline))
              clear hline
              go_wp2
              exact ref_fin _ w _ _ RV.zero 13 _ _ (set5 0 0 0 0 0 HZ3.out) (HBB.out.trans (set5_below W3 w.heap.size 0 0 0 0 0)) HV.out rfl rfl
end Go.Proofs.YtlnemkdoknkhaaaDoor
