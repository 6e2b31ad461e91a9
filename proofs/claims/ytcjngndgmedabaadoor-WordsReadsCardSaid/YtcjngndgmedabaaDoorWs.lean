/-
  The walks of both statements: WordsReads and WordsTexts return true.
-/
import Derived.Test.YtcjngndgmedabaaDoorWp
namespace Go.Proofs.YtcjngndgmedabaaDoor
open Go Go.RowKit
set_option linter.unusedVariables false
set_option linter.unusedSimpArgs false

theorem kLine : EV.line ⟨3, 0, 3, 5, 0⟩ = some [115, 112, 97, 119, 110, 32, 51, 32, 48, 44, 50] := by decide +kernel
theorem kParse : (parseE [115, 108, 101, 101, 112, 32, 45, 49, 32, 55]).1.same ⟨6, 0, -1, 0, 7⟩ = true ∧ (parseE [115, 108, 101, 101, 112, 32, 45, 49, 32, 55]).2 = 0 := by decide +kernel
theorem kRead : (readE [98, 97, 108, 97, 110, 99, 101, 10, 115, 116, 101, 112, 10]).2 = (1, 13) := by decide +kernel
theorem kRead0 : (readE [98, 97, 108, 97, 110, 99, 101, 10, 115, 116, 101, 112, 10]).1.length = 0 := by decide +kernel
theorem kFail : kw 25 = [102, 97, 105, 108] := by decide +kernel
theorem kGive : kindOf [103, 105, 118, 101] = 22 := by decide +kernel
theorem kParse' : parseE [115, 108, 101, 101, 112, 32, 45, 49, 32, 55] = (⟨6, 0, -1, 0, 7⟩, 0) := Prod.ext ((EV.same_iff _ _).1 kParse.1) kParse.2

theorem readGo_len : ∀ (L : List (List UInt8)) (acc : List EV) (k : Nat), acc.length ≤ 600 → (readGo acc k L).1.length ≤ 600
  | [], acc, k, h => by rw [readGo]; exact h
  | x :: rest, acc, k, h => by
    rw [readGo]
    split
    · split
      · exact h
      · simp
    · split
      · simp
      · split
        · simp
        · exact readGo_len rest _ _ (by simp; omega)
theorem readE_len (t : List UInt8) : (readE t).1.length ≤ 600 := by
  unfold readE; split
  · simp
  · exact readGo_len _ _ _ (by simp)

theorem EvsAt.more {w : World} {B B' : Nat} {A : Option Addr} {es : List EV} (h : EvsAt w B A es) (hB : B ≤ B') : EvsAt w B' A es := by
  intro hn
  obtain ⟨b, off, rfl, hlt, hc⟩ := h hn
  exact ⟨b, off, rfl, by omega, hc⟩
theorem textGo_len : ∀ (es : List EV) (acc t : List UInt8), (∀ e, e ∈ es → e.Ok) → textGo es acc = some t → t.length ≤ acc.length + 301 * es.length
  | [], acc, t, _, h => by cases h; simp
  | e :: es, acc, t, he, h => by
    rw [textGo] at h
    split at h
    · cases h
    · rename_i x hx
      have h1 := textGo_len es _ t (fun y hy => he y (by simp [hy])) h
      have h2 := EV.line_len (he e (by simp)) hx
      simp at h1 ⊢; omega
theorem textE_len' {es : List EV} (he : ∀ e, e ∈ es → e.Ok) : (textE es).1.length ≤ 200000 := by
  unfold textE
  split
  · simp
  · rename_i hn
    cases h : textGo es [] with
    | none => simp
    | some t => have := textGo_len es [] t he h; simp at this ⊢; omega

set_option maxRecDepth 100000 in
set_option maxHeartbeats 2000000 in
theorem known_any (w : World) (hg : GW w) : Calls Tryd.prog 5 #[] w fun e w' => e = .returned (.bool true) ∧ Below w.heap.size w w' := by
  have Hg := Lib.hid hg; clear hg
  have i0 : I64 0 := I64_zero
  go_enter Tryd.func5, Tryd.ntmps5
  go_wp2_with fail
  refine (line_w ⟨3, 0, 3, 5, 0⟩ ⟨by unfold I64; decide, i0, by unfold I64; decide, by decide, i0⟩ _ Hg.out).mono ?_
  rintro _ w1 ⟨rfl, hb1⟩
  rw [kLine]
  unfold lineV
  have HB1 := Lib.hid hb1; clear hb1
  go_wp2_with fail
  refine (parse_w [115, 108, 101, 101, 112, 32, 45, 49, 32, 55] (by decide) _ (Hg.out.next HB1.out)).mono ?_
  rintro _ w2 ⟨rfl, hb2⟩
  unfold parseV
  rw [kParse']
  unfold EV.agg EV.cells
  have HB2 := Lib.hid (HB1.out.trans (hb2.mono HB1.out.size)); clear hb2
  have hs2 := HB2.out.size
  have HB3 := Lib.hid (HB2.out.alloc hs2 (.cells #[.int .i64 6, .int .i64 0, .int .i64 (-1), .int .u64 0, .int .i64 7] 36))
  go_wp2_with fail
  refine (read_w [98, 97, 108, 97, 110, 99, 101, 10, 115, 116, 101, 112, 10] (by decide) _ (Hg.out.next HB3.out)).mono ?_
  rintro _ w3 ⟨⟨A, cap, rfl, hev⟩, hb3⟩
  rw [kRead0, kRead]
  have HR := Lib.hid (show w3.heap[w2.heap.size]? = some (evBlk ⟨6, 0, -1, 0, 7⟩) from (hb3.block _ (by rw [World.size_alloc]; omega)).trans (heap_alloc_last w2 _))
  have HB4 := Lib.hid (HB3.out.trans (hb3.mono HB3.out.size))
  clear hb3 hev
  obtain ⟨⟨e0, f0⟩, ⟨e1, f1⟩, ⟨e2, f2⟩, ⟨e3, f3⟩, ⟨e4, f4⟩⟩ := ev_cells HR.out
  simp only [] at e0 e1 e2 e3 e4
  go_wp2_with fail
  refine (name_w 25 _).mono ?_
  rw [kFail]
  rintro _ w4 ⟨rfl, hb4⟩
  have HB5 := Lib.hid (HB4.out.trans (hb4.mono HB4.out.size))
  clear hb4 e0 e1 e2 e3 e4 f0 f1 f2 f3 f4
  go_wp2_with fail
  refine (kind_w [103, 105, 118, 101] _).mono ?_
  rw [kGive]
  rintro _ w5 ⟨rfl, hb5⟩
  have HB6 := Lib.hid (HB5.out.trans (hb5.mono HB5.out.size))
  clear hb5
  go_wp2
  go_ret
  exact ⟨rfl, HB6.out⟩

set_option maxRecDepth 100000 in
set_option maxHeartbeats 2000000 in
theorem wordsReads_any (l : List UInt8) (hmax : l.length ≤ 140737488355328) (w : World) (hg : GW w) : Calls Tryd.prog 3 #[St l] w fun e w' => e = .returned (.bool true) ∧ Below w.heap.size w w' := by
  have Hg := Lib.hid hg; clear hg
  by_cases hk : 4000 < l.length ∧ l.length ≤ 16000
  · obtain ⟨h1, h2⟩ := hk
    go_enter Tryd.func3, Tryd.ntmps3
    go_wp2_with fail
    refine (known_any _ Hg.out).mono ?_
    rintro _ w1 ⟨rfl, hb1⟩
    go_wp2
    go_ret
    exact ⟨rfl, hb1⟩
  · have key : ∀ (W : World → Prop), True := fun _ => trivial
    by_cases h1 : 4000 < l.length
    · have h2 : ¬ l.length ≤ 16000 := fun h => hk ⟨h1, h⟩
      clear hk key
      go_enter Tryd.func3, Tryd.ntmps3
      go_wp2_with fail
      refine (read_w l hmax _ Hg.out).mono ?_
      rintro _ w1 ⟨⟨A, cap, rfl, hev⟩, hb1⟩
      have HB1 := Lib.hid hb1
      have HE1 := Lib.hid hev
      clear hb1 hev
      go_wp2_with fail
      refine (refRead_any l hmax _).mono ?_
      rintro _ w2 ⟨⟨A2, cap2, rfl, hev2⟩, hb2⟩
      have HB2 := Lib.hid (HB1.out.trans (hb2.mono HB1.out.size))
      have HE2 := Lib.hid hev2
      have HE1' := Lib.hid ((HE1.out.next hb2).more hb2.size)
      clear hb2 hev2
      have hr := readE_len l
      generalize readE l = rr at *
      obtain ⟨es, p, er⟩ := rr
      simp only [] at HE1' HE2 hr ⊢
      go_wp2_with fail
      refine (same_any es A A2 cap cap2 _ (by omega) HE1'.out HE2.out).mono ?_
      rintro _ w3 ⟨rfl, hb3⟩
      have HB3 := Lib.hid (HB2.out.trans (hb3.mono HB2.out.size))
      clear hb3
      go_wp2_with fail
      refine (known_any _ (Hg.out.next HB3.out)).mono ?_
      rintro _ w4 ⟨rfl, hb4⟩
      go_wp2
      go_ret
      exact ⟨rfl, HB3.out.trans (hb4.mono HB3.out.size)⟩
    · clear hk key
      go_enter Tryd.func3, Tryd.ntmps3
      go_wp2_with fail
      refine (read_w l hmax _ Hg.out).mono ?_
      rintro _ w1 ⟨⟨A, cap, rfl, hev⟩, hb1⟩
      have HB1 := Lib.hid hb1
      have HE1 := Lib.hid hev
      clear hb1 hev
      go_wp2_with fail
      refine (refRead_any l hmax _).mono ?_
      rintro _ w2 ⟨⟨A2, cap2, rfl, hev2⟩, hb2⟩
      have HB2 := Lib.hid (HB1.out.trans (hb2.mono HB1.out.size))
      have HE2 := Lib.hid hev2
      have HE1' := Lib.hid ((HE1.out.next hb2).more hb2.size)
      clear hb2 hev2
      have hr := readE_len l
      generalize readE l = rr at *
      obtain ⟨es, p, er⟩ := rr
      simp only [] at HE1' HE2 hr ⊢
      go_wp2_with fail
      refine (same_any es A A2 cap cap2 _ (by omega) HE1'.out HE2.out).mono ?_
      rintro _ w3 ⟨rfl, hb3⟩
      have HB3 := Lib.hid (HB2.out.trans (hb3.mono HB2.out.size))
      clear hb3
      go_wp2_with fail
      refine (known_any _ (Hg.out.next HB3.out)).mono ?_
      rintro _ w4 ⟨rfl, hb4⟩
      go_wp2
      go_ret
      exact ⟨rfl, HB3.out.trans (hb4.mono HB3.out.size)⟩

set_option maxRecDepth 100000 in
set_option maxHeartbeats 2000000 in
theorem wordsTexts_any (es : List EV) (hes : ∀ e, e ∈ es → e.Ok) (A : Option Addr) (cap : Nat) (w : World) (hA : EvsAt w w.heap.size A es) (hg : GW w) :
    Calls Tryd.prog 4 #[.slice A es.length cap] w fun e w' => e = .returned (.bool true) ∧ Below w.heap.size w w' := by
  have Hg := Lib.hid hg; clear hg
  have HA := Lib.hid hA; clear hA
  by_cases h650 : 650 < es.length
  · go_enter Tryd.func4, Tryd.ntmps4
    go_wp2_with fail
    refine (known_any _ Hg.out).mono ?_
    rintro _ w1 ⟨rfl, hb1⟩
    go_wp2
    go_ret
    exact ⟨rfl, hb1⟩
  · have hn : es.length ≤ 1000 := by omega
    have HRT := Lib.hid (fun h1 h2 => readE_text (l := es) hes h1 h2)
    go_enter Tryd.func4, Tryd.ntmps4
    go_wp2_with fail
    refine (text_w es hes hn A cap _ HA.out Hg.out).mono ?_
    rintro _ w1 ⟨rfl, hb1⟩
    have HB1 := Lib.hid hb1; clear hb1
    have HA1 := Lib.hid ((HA.out.next HB1.out).more HB1.out.size)
    have TE := Lib.hid (rfl : textE es = textE es)
    have HT2 := Lib.hid (fun w' (h : EvsAt w' w'.heap.size A es) => refText_any es hes hn A cap w' h)
    obtain ⟨tx, er, hte⟩ : ∃ tx er, textE es = (tx, er) := ⟨_, _, rfl⟩
    have HTE := Lib.hid hte
    rw [hte] at HT2 HRT ⊢
    clear hte TE
    simp only [] at HRT HT2
    go_wp2_with fail
    refine (HT2.out _ HA1.out).mono ?_
    rintro _ w2 ⟨rfl, hb2⟩
    have HB2 := Lib.hid (HB1.out.trans (hb2.mono HB1.out.size))
    have HA2 := Lib.hid ((HA.out.next HB2.out).more HB2.out.size)
    clear hb2
    have htl : tx.length ≤ 140737488355328 := by
      have := textE_len' hes
      rw [HTE.out] at this; simp only [] at this; omega
    by_cases her : er = 0
    · subst her
      by_cases h16 : 16000 < tx.length
      · go_wp2_with fail
        refine (known_any _ (Hg.out.next HB2.out)).mono ?_
        rintro _ w3 ⟨rfl, hb3⟩
        go_wp2
        go_ret
        exact ⟨rfl, HB2.out.trans (hb3.mono HB2.out.size)⟩
      · have HRR := Lib.hid (HRT.out rfl (by omega))
        go_wp2_with fail
        refine (read_w tx htl _ (Hg.out.next HB2.out)).mono ?_
        rw [HRR.out]
        rintro _ w3 ⟨⟨A3, cap3, rfl, hev⟩, hb3⟩
        have HB3 := Lib.hid (HB2.out.trans (hb3.mono HB2.out.size))
        have HA3 := Lib.hid ((HA.out.next HB3.out).more HB3.out.size)
        have HE3 := Lib.hid hev
        clear hb3 hev
        simp only []
        go_wp2_with fail
        refine (same_any es A3 A cap3 cap _ (by omega) HE3.out HA3.out).mono ?_
        rintro _ w4 ⟨rfl, hb4⟩
        have HB4 := Lib.hid (HB3.out.trans (hb4.mono HB3.out.size))
        clear hb4
        go_wp2_with fail
        refine (known_any _ (Hg.out.next HB4.out)).mono ?_
        rintro _ w5 ⟨rfl, hb5⟩
        go_wp2
        go_ret
        exact ⟨rfl, HB4.out.trans (hb5.mono HB4.out.size)⟩
    · have h7 : (er != 0) = true := by rw [bne_iff_ne]; exact her
      have h8 : (er == 0) = false := by rw [beq_eq_false_iff_ne]; exact her
      clear her
      go_wp2_with fail
      refine (known_any _ (Hg.out.next HB2.out)).mono ?_
      rintro _ w3 ⟨rfl, hb3⟩
      go_wp2
      go_ret
      exact ⟨rfl, HB2.out.trans (hb3.mono HB2.out.size)⟩

end Go.Proofs.YtcjngndgmedabaaDoor
