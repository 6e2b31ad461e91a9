/-
  Slices of events; words.Text and davitref32.Text.
-/
import Derived.Test.YtcjngndgmedabaaDoorWn
import Derived.Lib.UnsafeStr
namespace Go.Proofs
open Go.Shelf
def Tryd.lays166_ren : Go.Shelf.Ren := ⟨fun | 166 => 18 | 240 => 36 | 276 => 51 | n => n, fun | 70 => 45 | 9 => 9 | 0 => 0 | 72 => 48 | 37 => 46 | 3 => 3 | 4 => 4 | 5 => 5 | 20 => 20 | 75 => 50 | 164 => 89 | 80 => 53 | n => n, fun | n => n⟩
theorem Tryd.lays166 : Go.Proofs.Lays.n166 Tryd.prog Tryd.lays166_ren := {
  mixed := by kernel_rfl
  f166 := Tryd.func18.trans (congrArg some (by kernel_rfl))
  f240 := Tryd.func36.trans (congrArg some (by kernel_rfl))
  f276 := Tryd.func51.trans (congrArg some (by kernel_rfl))
  t0 := Tryd.underlying0
  a0 := Tryd.isAgg0
  z0 := Tryd.sizeOf0
  v0 := Tryd.zeroValue0
  t3 := Tryd.underlying3
  a3 := Tryd.isAgg3
  z3 := Tryd.sizeOf3
  v3 := Tryd.zeroValue3
  t4 := Tryd.underlying4
  a4 := Tryd.isAgg4
  z4 := Tryd.sizeOf4
  v4 := Tryd.zeroValue4
  t9 := Tryd.underlying9
  a9 := Tryd.isAgg9
  z9 := Tryd.sizeOf9
  v9 := Tryd.zeroValue9
  t20 := Tryd.underlying20
  a20 := Tryd.isAgg20
  z20 := Tryd.sizeOf20
  v20 := Tryd.zeroValue20
  t37 := Tryd.underlying46
  a37 := Tryd.isAgg46
  z37 := Tryd.sizeOf46
  v37 := Tryd.zeroValue46
  t70 := Tryd.underlying45
  a70 := Tryd.isAgg45
  z70 := Tryd.sizeOf45
  v70 := Tryd.zeroValue45
  t72 := Tryd.underlying48
  a72 := Tryd.isAgg48
  z72 := Tryd.sizeOf48
  v72 := Tryd.zeroValue48
  t75 := Tryd.underlying50
  a75 := Tryd.isAgg50
  z75 := Tryd.sizeOf50
  v75 := Tryd.zeroValue50
  t164 := Tryd.underlying89
  a164 := Tryd.isAgg89
  z164 := Tryd.sizeOf89
  v164 := Tryd.zeroValue89 }
theorem Tryd.Builder_Extra_166 : Builder.Extra Tryd.prog Tryd.lays166_ren := {
  sizeBuilder := by kernel_rfl
  liesBuilder := by kernel_rfl
  t5 := Tryd.underlying5
  a5 := Tryd.isAgg5
  z5 := Tryd.sizeOf5
  v5 := Tryd.zeroValue5
  infoByte := by kernel_rfl
  cellsByte := by kernel_rfl
  sizeByte := by kernel_rfl
  neB5 := by decide }
namespace YtcjngndgmedabaaDoor
open Go Go.RowKit
set_option linter.unusedVariables false
set_option linter.unusedSimpArgs false

theorem wstr (B b : Nat) (l s : List UInt8) (w : World) (h : Lib.IsBuilder 48 5 B b (Lib.byteCells l) w) (hl : l.length + s.length ≤ 1000000) (hBw : B ≤ w.heap.size) :
    Calls Tryd.prog 18 #[.pointer (some ⟨b, 0, none⟩), St s] w fun e w' => (∃ v, e = .returned v) ∧ Lib.IsBuilder 48 5 B b (Lib.byteCells (l ++ s)) w' ∧ Below B w w' :=
  (Any.Builder_WriteString Tryd.lays166 Tryd.Builder_Extra_166 B b (Lib.byteCells l) ⟨s.toArray⟩ w h (by rw [Lib.byteCells_length, bsz]; omega) hBw).mono fun e w' ⟨he, hb, hw⟩ =>
    ⟨⟨_, he⟩, .inr (by rw [Lib.byteCells_append]; exact hb), hw⟩
theorem bld_keep {B b : Nat} {bs : List Value} {w w' : World} (h : Lib.IsBuilder 48 5 B b bs w) (hb : Below w.heap.size w w') : Lib.IsBuilder 48 5 B b bs w' := by
  have k : ∀ p, Lib.BuilderAt 48 5 B b p bs w → Lib.BuilderAt 48 5 B b p bs w' := by
    rintro p ⟨h1, v, h2, h3, h4⟩
    exact ⟨h1, v, (hb.block _ (in_heap h2)).trans h2, World.ownsRow.kept (row := none) h3 ⟨hb.os, hb.tape, hb.output, hb.size, fun i hi _ => hb.block i hi⟩ (by cases v.ownBlock <;> simp), h4⟩
  exact h.imp (k _) (k _)

/-- A slice of events. -/
def EvsAt (w : World) (B : Nat) (A : Option Addr) (es : List EV) : Prop :=
  0 < es.length → ∃ b off, A = some ⟨b, off, none⟩ ∧ b < B ∧ ∀ (i : Nat) (h : i < es.length), w.cell? ⟨b, off + i * 5, none⟩ = some (.int .i64 es[i].k) ∧ w.cell? ⟨b, off + i * 5 + 1, none⟩ = some (.int .i64 es[i].c) ∧
    w.cell? ⟨b, off + i * 5 + 2, none⟩ = some (.int .i64 es[i].i) ∧ w.cell? ⟨b, off + i * 5 + 3, none⟩ = some (.int .u64 es[i].m) ∧ w.cell? ⟨b, off + i * 5 + 4, none⟩ = some (.int .i64 es[i].n)
theorem EvsAt.next {w w' : World} {B : Nat} {A : Option Addr} {es : List EV} (h : EvsAt w B A es) (hb : Below B w w') : EvsAt w' B A es := by
  intro hn
  obtain ⟨b, off, rfl, hlt, hc⟩ := h hn
  refine ⟨b, off, rfl, hlt, fun i hi => ?_⟩
  obtain ⟨h0, h1, h2, h3, h4⟩ := hc i hi
  have k : ∀ o, w'.cell? ⟨b, o, none⟩ = w.cell? ⟨b, o, none⟩ := fun o => hb.cell (p := ⟨b, o, none⟩) hlt
  exact ⟨(k _).trans h0, (k _).trans h1, (k _).trans h2, (k _).trans h3, (k _).trans h4⟩
theorem textGo_step {es : List EV} {k : Nat} (h : k < es.length) (acc : List UInt8) : textGo (es.drop k) acc = match es[k].line with
    | none => none
    | some l => textGo (es.drop (k + 1)) (acc ++ l ++ [10]) := by rw [List.drop_eq_getElem_cons h, textGo]; cases es[k].line <;> rfl
theorem EV.line_len {e : EV} (he : e.Ok) {l : List UInt8} (h : e.line = some l) : l.length ≤ 300 := by
  obtain ⟨_, _, rfl⟩ := line_some h; exact Go.Proofs.YtcjngndgmedabaaDoor.line_len he

set_option maxRecDepth 100000 in
set_option maxHeartbeats 2000000 in
theorem text_w (es : List EV) (hes : ∀ e, e ∈ es → e.Ok) (hn : es.length ≤ 1000) (A : Option Addr) (cap : Nat) (w : World) (hA : EvsAt w w.heap.size A es) (hg : GW w) :
    Calls Tryd.prog 9 #[.slice A es.length cap] w fun e w' => e = .returned (.tuple #[St (textE es).1, .int .i64 (textE es).2]) ∧ Below w.heap.size w w' := by
  by_cases h600 : 600 < es.length
  · have HT := Lib.hid (show textE es = ([], 15) by unfold textE; rw [if_pos h600])
    go_enter Tryd.func9, Tryd.ntmps9
    go_wp2
    go_ret2
    exact ⟨by rw [HT.out]; rfl, Below.refl _ _⟩
  · have HT := Lib.hid (show textE es = match textGo es [] with | none => ([], 2) | some t => (t, 0) by unfold textE; rw [if_neg h600]; cases textGo es [] <;> rfl)
    have h600' : es.length ≤ 600 := by omega
    have Hg := Lib.hid hg
    have HA := Lib.hid hA
    clear hg hA h600
    go_enter Tryd.func9, Tryd.ntmps9
    go_wp2
    have HB0 := Lib.hid ((Below.refl w.heap.size w).alloc (Nat.le_refl _) (.cells #[.pointer none, .slice none 0 0] 48))
    have HI0 := Lib.hid (Lib.fresh_isBuilder 48 5 w)
    go_loopw [14] (fun i wr => ∃ (k : Nat) (acc : List UInt8), k ≤ es.length ∧ i = .int .i64 k ∧ acc.length ≤ 301 * k ∧ Hid (textGo (es.drop k) acc = textGo es []) ∧ Hid (Below w.heap.size w wr) ∧ Hid (Lib.IsBuilder 48 5 w.heap.size w.heap.size (Lib.byteCells acc) wr)) (fun i _ => es.length - (intOf i).toNat)
    case atStart => exact ⟨0, [], by omega, rfl, by simp, rfl, HB0, HI0⟩
    case round =>
      clear HB0 HI0
      obtain ⟨k, acc, hk, rfl, hacc, HG, HB, HI⟩ := hrel
      by_cases hlt : k < es.length
      · obtain ⟨b, off, rfl, hbw, hc⟩ := HA.out.next HB.out (by omega)
        obtain ⟨h0, h1, h2, h3, h4⟩ := hc k hlt
        have HST := Lib.hid (textGo_step hlt acc)
        have hOk := hes _ (List.getElem_mem hlt)
        generalize es[k] = x at *
        have hsz := HB.out.size
        clear hc
        go_wp2_with fail
        have HB1 := Lib.hid (HB.out.alloc hsz (.cells #[.int .i64 x.k, .int .i64 x.c, .int .i64 x.i, .int .u64 x.m, .int .i64 x.n] 36))
        have HI1 := Lib.hid (bld_keep HI.out (Below.alloc (Below.refl _ _) (Nat.le_refl _) (.cells #[.int .i64 x.k, .int .i64 x.c, .int .i64 x.i, .int .u64 x.m, .int .i64 x.n] 36)))
        refine (line_w x hOk _ (Hg.out.next HB1.out)).mono ?_
        rintro _ w1 ⟨rfl, hb1⟩
        have HB2 := Lib.hid (HB1.out.trans (hb1.mono HB1.out.size))
        have HI2 := Lib.hid (bld_keep HI1.out hb1)
        clear hb1 h0 h1 h2 h3 h4 HB1 HI1 HI HB
        cases hx : x.line with
        | none =>
          rw [hx] at HST
          have HV := Lib.hid (show textE es = ([], 2) by rw [HT.out, ← HG.out, HST.out])
          unfold lineV
          go_wp2
          go_ret2
          exact ⟨by rw [HV.out]; rfl, HB2.out⟩
        | some t =>
          have htl := EV.line_len hOk hx
          rw [hx] at HST
          unfold lineV
          have hba := ba_app t [10]
          go_wp2_with fail
          refine (wstr w.heap.size w.heap.size acc (t ++ [10]) _ HI2.out (by simp; omega) HB2.out.size).mono ?_
          rintro _ w3 ⟨⟨v, rfl⟩, hi3, hb3⟩
          have HI3 := Lib.hid hi3
          have HB3 := Lib.hid (HB2.out.trans hb3)
          clear hi3 hb3
          go_wp2
          go_roundw
          case rel =>
            refine ⟨k + 1, acc ++ (t ++ [10]), by omega, by go_num, by simp; omega, ?_, HB3, HI3⟩
            show textGo _ _ = _
            rw [← HG.out, HST.out]; simp
          case measure => simp [intOf]; omega
      · obtain rfl : k = es.length := by omega
        have HV := Lib.hid (show textE es = (acc, 0) by rw [HT.out, ← HG.out, List.drop_length]; rfl)
        go_wp2_with fail
        refine (Tryd.Builder_String_any w.heap.size w.heap.size acc _ HI.out HB.out.size).mono ?_
        rintro _ w1 ⟨rfl, hb1⟩
        have HB1 := Lib.hid (HB.out.trans hb1)
        clear hb1
        go_wp2
        go_ret2
        exact ⟨by rw [HV.out]; rfl, HB1.out⟩

set_option maxRecDepth 100000 in
set_option maxHeartbeats 2000000 in
theorem refText_any (es : List EV) (hes : ∀ e, e ∈ es → e.Ok) (hn : es.length ≤ 1000) (A : Option Addr) (cap : Nat) (w : World) (hA : EvsAt w w.heap.size A es) :
    Calls Tryd.prog 10 #[.slice A es.length cap] w fun e w' => e = .returned (.tuple #[St (textE es).1, .int .i64 (textE es).2]) ∧ Below w.heap.size w w' := by
  by_cases h600 : 600 < es.length
  · have HT := Lib.hid (show textE es = ([], 15) by unfold textE; rw [if_pos h600])
    go_enter Tryd.func10, Tryd.ntmps10
    go_wp2
    go_ret2
    exact ⟨by rw [HT.out]; rfl, Below.refl _ _⟩
  · have HT := Lib.hid (show textE es = match textGo es [] with | none => ([], 2) | some t => (t, 0) by unfold textE; rw [if_neg h600]; cases textGo es [] <;> rfl)
    have h600' : es.length ≤ 600 := by omega
    have HA := Lib.hid hA
    clear hA h600
    go_enter Tryd.func10, Tryd.ntmps10
    go_wp2
    go_loopw [4, 5] (fun a i wr => ∃ (k : Nat) (acc : List UInt8), k ≤ es.length ∧ i = .int .i64 k ∧ a = St acc ∧ acc.length ≤ 301 * k ∧ Hid (textGo (es.drop k) acc = textGo es []) ∧ Hid (Below w.heap.size w wr)) (fun _ i _ => es.length - (intOf i).toNat)
    case atStart => exact ⟨0, [], by omega, rfl, rfl, by simp, rfl, Below.refl _ _⟩
    case round =>
      obtain ⟨k, acc, hk, rfl, rfl, hacc, HG, HB⟩ := hrel
      by_cases hlt : k < es.length
      · obtain ⟨b, off, rfl, hbw, hc⟩ := HA.out.next HB.out (by omega)
        obtain ⟨h0, h1, h2, h3, h4⟩ := hc k hlt
        have HST := Lib.hid (textGo_step hlt acc)
        have hOk := hes _ (List.getElem_mem hlt)
        generalize es[k] = x at *
        have hsz := HB.out.size
        clear hc
        go_wp2_with fail
        refine (refLine_any x hOk _).mono ?_
        rintro _ w1 ⟨rfl, hb1⟩
        have HB2 := Lib.hid (HB.out.trans (hb1.mono HB.out.size))
        clear hb1 h0 h1 h2 h3 h4 HB
        cases hx : x.line with
        | none =>
          rw [hx] at HST
          have HV := Lib.hid (show textE es = ([], 2) by rw [HT.out, ← HG.out, HST.out])
          unfold lineV
          go_wp2
          go_ret2
          exact ⟨by rw [HV.out]; rfl, HB2.out⟩
        | some t =>
          have htl := EV.line_len hOk hx
          rw [hx] at HST
          unfold lineV
          have hba := ba_app acc t
          have hbb := ba_app (acc ++ t) [10]
          go_wp2
          go_roundw
          case rel =>
            refine ⟨k + 1, acc ++ (t ++ [10]), by omega, by go_num, rfl, by simp; omega, ?_, HB2⟩
            show textGo _ _ = _
            rw [← HG.out, HST.out]; simp
          case measure => simp [intOf]; omega
      · obtain rfl : k = es.length := by omega
        have HV := Lib.hid (show textE es = (acc, 0) by rw [HT.out, ← HG.out, List.drop_length]; rfl)
        go_wp2
        go_ret2
        exact ⟨by rw [HV.out]; rfl, HB.out⟩

end YtcjngndgmedabaaDoor
end Go.Proofs
