/-
  The reference: Parse.
-/
import Derived.Test.YtcjngndgmedabaaDoorWn
namespace Go.Proofs.YtcjngndgmedabaaDoor
open Go Go.RowKit
set_option linter.unusedVariables false
set_option linter.unusedSimpArgs false

/-- the memory of davitref32.Parse: w1 is the world behind the split -/
structure RP (w w1 : World) (nb : Nat) (x : EV) (wr : World) : Prop where
  b1 : w.heap.size < w1.heap.size
  bel0 : Below w.heap.size w w1
  bel : Below w1.heap.size w1 wr
  rs : w1.heap[w.heap.size]? = some (evBlk EV.zero)
  nbw : w1.heap.size ≤ nb
  nm : wr.heap[nb]? = some (evBlk x)
theorem RP.next {w w1 : World} {x : EV} {nb : Nat} {A B : World} (h : RP w w1 nb x A) (hb : Below A.heap.size A B) : RP w w1 nb x B :=
  ⟨h.b1, h.bel0, h.bel.trans (hb.mono h.bel.size), h.rs, h.nbw, (hb.block _ (in_heap h.nm)).trans h.nm⟩
theorem RP.set {w w1 : World} {x : EV} {nb : Nat} {A : World} (h : RP w w1 nb x A) (o : Nat) (v : Value) (y : EV) (hy : x.cells.setIfInBounds o v = y.cells) : RP w w1 nb y (A.setCell ⟨nb, o, none⟩ v) := by
  refine ⟨h.b1, h.bel0, h.bel.setCell (p := ⟨nb, o, none⟩) h.nbw v, h.rs, h.nbw, ?_⟩
  have := blk_set h.nm o v
  rw [hy] at this; exact this
theorem RP.res {w w1 : World} {x : EV} {nb : Nat} {A : World} (h : RP w w1 nb x A) : A.heap[w.heap.size]? = some (evBlk EV.zero) := (h.bel.block _ h.b1).trans h.rs
theorem RP.all {w w1 : World} {x : EV} {nb : Nat} {A : World} (h : RP w w1 nb x A) : Below w.heap.size w A := h.bel0.trans (h.bel.mono (by have := h.b1; omega))

theorem res17 {W : World} {b : Nat} {x : EV} {er : Int} {tm : Array Value} (h : W.heap[b]? = some (evBlk x))
    (h2 : tm[2]?.getD undef = .pointer (some ⟨b, 0, none⟩)) (h3 : tm[3]?.getD undef = .int .i64 er) :
    (results Tryd.f17 tm).run Tryd.prog W = .ok (.tuple #[x.agg, .int .i64 er]) W := by
  have p0 : W.cell? ⟨b, 0, none⟩ = some (.int .i64 x.k) := blk_cell h 0
  have p1 : W.cell? ⟨b, 1, none⟩ = some (.int .i64 x.c) := blk_cell h 1
  have p2 : W.cell? ⟨b, 2, none⟩ = some (.int .i64 x.i) := blk_cell h 2
  have p3 : W.cell? ⟨b, 3, none⟩ = some (.int .u64 x.m) := blk_cell h 3
  have p4 : W.cell? ⟨b, 4, none⟩ = some (.int .i64 x.n) := blk_cell h 4
  simp [results, Tryd.results17, go_sem, h2, h3, p0, p1, p2, p3, p4, EV.agg, EV.cells]

theorem RP.setAny {w w1 : World} {x : EV} {nb : Nat} {A : World} (h : RP w w1 nb x A) (o : Nat) (v : Value) : Below w.heap.size w (A.setCell ⟨nb, o, none⟩ v) ∧ (A.setCell ⟨nb, o, none⟩ v).heap[w.heap.size]? = some (evBlk EV.zero) := by
  have h1 := h.b1
  have h2 := h.nbw
  exact ⟨h.all.setCell (p := ⟨nb, o, none⟩) (by show _ ≤ nb; omega) v, (Below.heap_setCell A ⟨nb, o, none⟩ v w.heap.size (by show w.heap.size ≠ nb; omega)).trans h.res⟩
/-- the end with an error -/
theorem refParse_no' {w A : World} {l : List UInt8} {tm : Array Value} (h : Below w.heap.size w A ∧ A.heap[w.heap.size]? = some (evBlk EV.zero)) (hv : parseV l = .tuple #[EV.zero.agg, .int .i64 13])
    (h2 : tm[2]?.getD undef = .pointer (some ⟨w.heap.size, 0, none⟩)) (h3 : tm[3]?.getD undef = .int .i64 13) :
    bodyPost Tryd.prog Tryd.f17 (fun e w' => e = .returned (parseV l) ∧ Below w.heap.size w w') Exit.ret { tmps := tm, defers := [] }
      (((((A.setCell ⟨w.heap.size, 0, none⟩ (.int .i64 0)).setCell ⟨w.heap.size, 1, none⟩ (.int .i64 0)).setCell ⟨w.heap.size, 2, none⟩ (.int .i64 0)).setCell ⟨w.heap.size, 3, none⟩ (.int .u64 0)).setCell ⟨w.heap.size, 4, none⟩ (.int .i64 0)) :=
  bodyPost_ret (v := .tuple #[EV.zero.agg, .int .i64 13]) (res17 (b := w.heap.size) (x := ⟨0, 0, 0, 0, 0⟩) (ev5 0 0 0 0 0 h.2) h2 h3) rfl ⟨by rw [hv], h.1.trans (ev5_below A w.heap.size w.heap.size 0 0 0 0 0 (Nat.le_refl _))⟩
theorem refParse_no {w w1 : World} {x : EV} {nb : Nat} {A : World} {l : List UInt8} {tm : Array Value} (h : RP w w1 nb x A) (hv : parseV l = .tuple #[EV.zero.agg, .int .i64 13])
    (h2 : tm[2]?.getD undef = .pointer (some ⟨w.heap.size, 0, none⟩)) (h3 : tm[3]?.getD undef = .int .i64 13) :
    bodyPost Tryd.prog Tryd.f17 (fun e w' => e = .returned (parseV l) ∧ Below w.heap.size w w') Exit.ret { tmps := tm, defers := [] }
      (((((A.setCell ⟨w.heap.size, 0, none⟩ (.int .i64 0)).setCell ⟨w.heap.size, 1, none⟩ (.int .i64 0)).setCell ⟨w.heap.size, 2, none⟩ (.int .i64 0)).setCell ⟨w.heap.size, 3, none⟩ (.int .u64 0)).setCell ⟨w.heap.size, 4, none⟩ (.int .i64 0)) :=
  refParse_no' ⟨h.all, h.res⟩ hv h2 h3

set_option maxRecDepth 100000 in
set_option maxHeartbeats 4000000 in
theorem refParse_any (l : List UInt8) (hl : l.length ≤ 16000) (w : World) : Calls Tryd.prog 17 #[St l] w fun e w' => e = .returned (parseV l) ∧ Below w.heap.size w w' := by
  by_cases h300 : 300 < l.length
  · have HV := Lib.hid (show parseV l = .tuple #[EV.zero.agg, .int .i64 15] by unfold parseV parseE; rw [if_pos h300])
    go_enter Tryd.func17, Tryd.ntmps17
    go_wp2
    refine bodyPost_ret (v := .tuple #[EV.zero.agg, .int .i64 15]) (res17 (b := w.heap.size) (heap_alloc_last w (evBlk EV.zero)) rfl rfl) rfl ⟨by rw [HV.out], (Below.refl _ w).alloc (Nat.le_refl _) _⟩
  · have hl3 : l.length ≤ 300 := by omega
    go_enter Tryd.func17, Tryd.ntmps17
    go_wp2_with fail
    refine (refSplit_any l 32 hl _).mono ?_
    rintro _ w1 ⟨v, rfl, hown, hb1⟩
    have hpos : 0 < (spl 32 l).length := by cases h : spl 32 l with
      | nil => exact absurd h (spl_ne _ _)
      | cons x xs => simp
    obtain ⟨g, cap, rfl, hbg, hgw, hcap, hcl⟩ := own_cells hown hpos
    have HC := Lib.hid (show ∀ j (hj : j < (spl 32 l).length), w1.cell? ⟨g, j, none⟩ = some (St (spl 32 l)[j]) from fun j hj => by rw [hcl j hj]; simp [hj])
    have HB0 := Lib.hid (((Below.refl w.heap.size w).alloc (Nat.le_refl _) (evBlk EV.zero)).trans (hb1.mono (by simp)))
    have HR0 := Lib.hid (show w1.heap[w.heap.size]? = some (evBlk EV.zero) from (hb1.block _ (by rw [World.size_alloc]; omega)).trans (heap_alloc_last w _))
    have hs1 : w.heap.size < w1.heap.size := in_heap HR0.out
    clear hown hcl hb1
    have c0 := HC.out 0 hpos
    have HH := Lib.hid (show (spl 32 l).headD [] = (spl 32 l)[0] by rw [List.headD_eq_head?_getD, List.head?_eq_getElem?, List.getElem?_eq_getElem hpos]; rfl)
    go_wp2_with fail
    refine (refKindOf_any _ _).mono ?_
    rintro _ w2 ⟨rfl, hb2⟩
    rw [← HH.out]
    generalize hK : kindOf ((spl 32 l).headD []) = K
    have HKe := Lib.hid hK
    have HP2 := Lib.hid (show RP w w1 w2.heap.size ⟨K, 0, 0, 0, 0⟩ (w2.alloc (.cells #[.int .i64 K, .int .i64 0, .int .i64 0, .int .u64 0, .int .i64 0] 36)) from
      ⟨hs1, HB0.out, hb2.alloc hb2.size _, HR0.out, hb2.size, heap_alloc_last w2 _⟩)
    obtain ⟨nb, hnb⟩ : ∃ b, w2.heap.size = b := ⟨_, rfl⟩
    rw [hnb] at HP2
    have HPA := Lib.hid (show parse l = if K = 0 ∨ (spl 32 l).length ≠ (kf K).length + 1 then none else setAll (kf K) (spl 32 l).tail ⟨K, 0, 0, 0, 0⟩ by
      rw [← HKe.out]; rfl)
    have hK0 : 0 ≤ K ∧ K ≤ 30 := by rw [← HKe.out]; exact kindOf_le _
    have hlenS := spl_len_le 32 l
    have hlen2 := (kind_facts K).2.1
    clear hK hb2 c0
    have hca : (w2.alloc (.cells #[.int .i64 K, .int .i64 0, .int .i64 0, .int .u64 0, .int .i64 0] 36)).cell? ⟨nb, 0, none⟩ = some (.int .i64 K) := (ev_cells HP2.out.nm).1.1
    go_wp2_with fail
    generalize w2.alloc (.cells #[.int .i64 K, .int .i64 0, .int .i64 0, .int .u64 0, .int .i64 0] 36) = w3 at *
    clear hnb
    refine (refKind_any K _).mono ?_
    rintro _ w4 ⟨rfl, hb4⟩
    have HP4 := Lib.hid (HP2.out.next hb4)
    have hca4 : w4.cell? ⟨nb, 0, none⟩ = some (.int .i64 K) := (ev_cells HP4.out.nm).1.1
    clear hca HP2 hb4
    by_cases hKz : K = 0 ∨ (spl 32 l).length ≠ (kf K).length + 1
    · have HV := Lib.hid (show parseV l = .tuple #[EV.zero.agg, .int .i64 13] by unfold parseV parseE; rw [if_neg h300, HPA.out, if_pos hKz])
      by_cases hk : K = 0
      · have hk' : (K == 0) = true := by simpa using hk
        clear hKz hk
        obtain ⟨⟨z0, y0⟩, ⟨z1, y1⟩, ⟨z2, y2⟩, ⟨z3, y3⟩, ⟨z4, y4⟩⟩ := ev_cells HP4.out.res
        go_wp2
        exact refParse_no HP4.out HV.out rfl rfl
      · have hk' : (K == 0) = false := by simpa using hk
        have hL : (spl 32 l).length ≠ (kf K).length + 1 := hKz.resolve_left hk
        have hLf : (((spl 32 l).length : Int) == ((kf K).length : Int) + 1) = false := by rw [beq_eq_false_iff_ne]; omega
        have hLf2 : (((spl 32 l).length : Int) != ((kf K).length : Int) + 1) = true := by rw [bne_iff_ne]; omega
        clear hKz hk hL
        obtain ⟨⟨z0, y0⟩, ⟨z1, y1⟩, ⟨z2, y2⟩, ⟨z3, y3⟩, ⟨z4, y4⟩⟩ := ev_cells HP4.out.res
        go_wp2
        exact refParse_no HP4.out HV.out rfl rfl
    · have hk : K ≠ 0 := fun e => hKz (.inl e)
      have hk' : (K == 0) = false := by simpa using hk
      have hL : (spl 32 l).length = (kf K).length + 1 := by
        by_cases e : (spl 32 l).length = (kf K).length + 1
        · exact e
        · exact absurd (.inr e) hKz
      have HPA2 := Lib.hid (show parse l = setAll (kf K) (spl 32 l).tail ⟨K, 0, 0, 0, 0⟩ by rw [HPA.out, if_neg hKz])
      have hLt : (((spl 32 l).length : Int) == ((kf K).length : Int) + 1) = true := by rw [beq_iff_eq]; omega
      have hLt2 : (((spl 32 l).length : Int) != ((kf K).length : Int) + 1) = false := by rw [bne_eq_false_iff_eq]; omega
      have hLle : (kf K).length + 1 ≤ (spl 32 l).length := by omega
      clear hKz hk HPA hL
      have HPA := HPA2
      clear HPA2
      go_wp2
      clear hLt hLt2 hca4
      go_loopw [8, 9, 10] (fun a _ _ wr => ∃ (p : Nat) (x : EV), p ≤ (kf K).length ∧ a = .int .i64 p ∧ Hid (setAll ((kf K).drop p) ((spl 32 l).drop (p + 1)) x = setAll (kf K) (spl 32 l).tail ⟨K, 0, 0, 0, 0⟩) ∧ Hid (RP w w1 nb x wr)) (fun a _ _ _ => (kf K).length - (intOf a).toNat)
      case atStart => exact ⟨0, _, by omega, rfl, by show setAll _ _ _ = _; rw [List.drop_zero, List.drop_one], HP4⟩
      case round =>
        clear HP4
        obtain ⟨p, x, hp, rfl, HA, HP⟩ := hrel
        by_cases hlt : p < (kf K).length
        · have hfF := (kind_facts K).2.2.2.2 _ (List.getElem_mem hlt)
          have hcase : (kf K)[p] = 99 ∨ (kf K)[p] = 105 ∨ (kf K)[p] = 109 ∨ (kf K)[p] = 110 := by simpa [isF, or_assoc] using hfF
          have hp1 : p + 1 < (spl 32 l).length := by omega
          have HST := Lib.hid (setAll_step (x := x) hlt hp1)
          have hcell : wr.cell? ⟨g, p + 1, none⟩ = some (St (spl 32 l)[p + 1]) := (HP.out.bel.cell (p := ⟨g, p + 1, none⟩) hgw).trans (HC.out _ hp1)
          have hz4 : (spl 32 l)[p + 1].length ≤ 4000 := by have := spl_part_le 32 l _ (List.getElem_mem hp1); omega
          generalize (spl 32 l)[p + 1] = z at *
          obtain ⟨⟨n0, o0⟩, ⟨n1, o1⟩, ⟨n2, o2⟩, ⟨n3, o3⟩, ⟨n4, o4⟩⟩ := ev_cells HP.out.nm
          clear hfF
          rcases hcase with hf | hf | hf | hf
          · have hu : ((⟨(kf K).toArray⟩ : ByteArray)[p]'(by rw [bsz]; exact hlt)).toNat = 99 := by rw [letter_at hlt, hf]; rfl
            rw [hf] at HST
            clear hf
            go_wp2_with fail
            refine (number_all z hz4 _).mono ?_
            rintro _ w6 ⟨⟨n, hn, hN, rfl⟩ | ⟨hN, n, rfl⟩, rfl⟩
            · have hs := Lib.hid (show setF x 99 z = some { x with c := n } by show Option.map _ (numOf z) = _; rw [hN]; rfl)
              have HS := Lib.hid (HP.out.set 1 (.int .i64 n) { x with c := n } rfl)
              clear hN
              go_wp2
              go_roundw
              case rel =>
                refine ⟨p + 1, { x with c := n }, by omega, by go_num, ?_, HS⟩
                show setAll _ _ _ = _
                rw [← HA.out, HST.out, hs.out]
              case measure => simp [intOf]; omega
            · have hs := Lib.hid (show setF x 99 z = none by show Option.map _ (numOf z) = _; rw [hN]; rfl)
              have HV := Lib.hid (show parseV l = .tuple #[EV.zero.agg, .int .i64 13] by unfold parseV parseE; rw [if_neg h300, HPA.out, ← HA.out, HST.out, hs.out])
              have HS := Lib.hid (HP.out.set 1 (.int .i64 n) { x with c := n } rfl)
              clear hN
              obtain ⟨⟨z0, y0⟩, ⟨z1, y1⟩, ⟨z2, y2⟩, ⟨z3, y3⟩, ⟨z4, y4⟩⟩ := ev_cells HP.out.res
              have hne1 : w.heap.size ≠ nb := by have := HP.out.b1; have := HP.out.nbw; omega
              have hne2 : nb ≠ w.heap.size := by have := HP.out.b1; have := HP.out.nbw; omega
              go_wp2
              exact refParse_no' (HP.out.setAny _ _) HV.out rfl rfl

          · have hu : ((⟨(kf K).toArray⟩ : ByteArray)[p]'(by rw [bsz]; exact hlt)).toNat = 105 := by rw [letter_at hlt, hf]; rfl
            rw [hf] at HST
            clear hf
            go_wp2_with fail
            refine (number_all z hz4 _).mono ?_
            rintro _ w6 ⟨⟨n, hn, hN, rfl⟩ | ⟨hN, n, rfl⟩, rfl⟩
            · have hs := Lib.hid (show setF x 105 z = some { x with i := n } by show Option.map _ (numOf z) = _; rw [hN]; rfl)
              have HS := Lib.hid (HP.out.set 2 (.int .i64 n) { x with i := n } rfl)
              clear hN
              go_wp2
              go_roundw
              case rel =>
                refine ⟨p + 1, { x with i := n }, by omega, by go_num, ?_, HS⟩
                show setAll _ _ _ = _
                rw [← HA.out, HST.out, hs.out]
              case measure => simp [intOf]; omega
            · have hs := Lib.hid (show setF x 105 z = none by show Option.map _ (numOf z) = _; rw [hN]; rfl)
              have HV := Lib.hid (show parseV l = .tuple #[EV.zero.agg, .int .i64 13] by unfold parseV parseE; rw [if_neg h300, HPA.out, ← HA.out, HST.out, hs.out])
              have HS := Lib.hid (HP.out.set 2 (.int .i64 n) { x with i := n } rfl)
              clear hN
              obtain ⟨⟨z0, y0⟩, ⟨z1, y1⟩, ⟨z2, y2⟩, ⟨z3, y3⟩, ⟨z4, y4⟩⟩ := ev_cells HP.out.res
              have hne1 : w.heap.size ≠ nb := by have := HP.out.b1; have := HP.out.nbw; omega
              have hne2 : nb ≠ w.heap.size := by have := HP.out.b1; have := HP.out.nbw; omega
              go_wp2
              exact refParse_no' (HP.out.setAny _ _) HV.out rfl rfl

          · have hu : ((⟨(kf K).toArray⟩ : ByteArray)[p]'(by rw [bsz]; exact hlt)).toNat = 109 := by rw [letter_at hlt, hf]; rfl
            rw [hf] at HST
            clear hf
            have hms : ∀ m, maskOf z = some m → setF x 109 z = some { x with m := m } := fun m h => by show Option.map _ (maskOf z) = _; rw [h]; rfl
            have hmn : maskOf z = none → setF x 109 z = none := fun h => by show Option.map _ (maskOf z) = _; rw [h]; rfl
            have HMS := Lib.hid hms
            have HMN := Lib.hid hmn
            clear hms hmn
            go_wp2_with fail
            refine (number_all z hz4 _).mono ?_
            rintro _ w6 ⟨⟨n, hn, hN, rfl⟩ | ⟨hN, n, rfl⟩, rfl⟩
            all_goals
              clear hN
              go_wp2_with fail
              refine (refMask_any z hz4 _).mono ?_
              rintro _ w7 ⟨hMM, hb7⟩
              have HP7 := Lib.hid (HP.out.next hb7)
              have v3 := (ev_cells HP7.out.nm).2.2.2.1.1
              have q3 := (ev_cells HP7.out.nm).2.2.2.1.2
              clear hb7
              rcases hMM with ⟨m, hM, rfl⟩ | ⟨hM, m, rfl⟩
              · have hs := Lib.hid (HMS.out m hM)
                have HS := Lib.hid (HP7.out.set 3 (.int .u64 m) { x with m := m } rfl)
                clear hM
                go_wp2
                go_roundw
                case rel =>
                  refine ⟨p + 1, { x with m := m }, by omega, by go_num, ?_, HS⟩
                  show setAll _ _ _ = _
                  rw [← HA.out, HST.out, hs.out]
                case measure => simp [intOf]; omega
              · have hs := Lib.hid (HMN.out hM)
                have HV := Lib.hid (show parseV l = .tuple #[EV.zero.agg, .int .i64 13] by unfold parseV parseE; rw [if_neg h300, HPA.out, ← HA.out, HST.out, hs.out])
                have HS := Lib.hid (HP7.out.setAny 3 (.int .u64 m))
                clear hM
                obtain ⟨⟨z0, y0⟩, ⟨z1, y1⟩, ⟨z2, y2⟩, ⟨z3, y3⟩, ⟨z4, y4⟩⟩ := ev_cells HP7.out.res
                have hne1 : w.heap.size ≠ nb := by have := HP.out.b1; have := HP.out.nbw; omega
                have hne2 : nb ≠ w.heap.size := by have := HP.out.b1; have := HP.out.nbw; omega
                go_wp2
                exact refParse_no' (HP7.out.setAny _ _) HV.out rfl rfl

          · have hu : ((⟨(kf K).toArray⟩ : ByteArray)[p]'(by rw [bsz]; exact hlt)).toNat = 110 := by rw [letter_at hlt, hf]; rfl
            rw [hf] at HST
            clear hf
            go_wp2_with fail
            refine (number_all z hz4 _).mono ?_
            rintro _ w6 ⟨⟨n, hn, hN, rfl⟩ | ⟨hN, n, rfl⟩, rfl⟩
            · have hs := Lib.hid (show setF x 110 z = some { x with n := n } by show Option.map _ (numOf z) = _; rw [hN]; rfl)
              have HS := Lib.hid (HP.out.set 4 (.int .i64 n) { x with n := n } rfl)
              clear hN
              go_wp2
              go_roundw
              case rel =>
                refine ⟨p + 1, { x with n := n }, by omega, by go_num, ?_, HS⟩
                show setAll _ _ _ = _
                rw [← HA.out, HST.out, hs.out]
              case measure => simp [intOf]; omega
            · have hs := Lib.hid (show setF x 110 z = none by show Option.map _ (numOf z) = _; rw [hN]; rfl)
              have HV := Lib.hid (show parseV l = .tuple #[EV.zero.agg, .int .i64 13] by unfold parseV parseE; rw [if_neg h300, HPA.out, ← HA.out, HST.out, hs.out])
              have HS := Lib.hid (HP.out.set 4 (.int .i64 n) { x with n := n } rfl)
              clear hN
              obtain ⟨⟨z0, y0⟩, ⟨z1, y1⟩, ⟨z2, y2⟩, ⟨z3, y3⟩, ⟨z4, y4⟩⟩ := ev_cells HP.out.res
              have hne1 : w.heap.size ≠ nb := by have := HP.out.b1; have := HP.out.nbw; omega
              have hne2 : nb ≠ w.heap.size := by have := HP.out.b1; have := HP.out.nbw; omega
              go_wp2
              exact refParse_no' (HP.out.setAny _ _) HV.out rfl rfl

        · obtain rfl : p = (kf K).length := by omega
          have HV := Lib.hid (show parseV l = .tuple #[x.agg, .int .i64 0] by
            unfold parseV parseE; rw [if_neg h300, HPA.out, ← HA.out, List.drop_length]; rfl)
          obtain ⟨⟨n0, o0⟩, ⟨n1, o1⟩, ⟨n2, o2⟩, ⟨n3, o3⟩, ⟨n4, o4⟩⟩ := ev_cells HP.out.nm
          obtain ⟨⟨z0, y0⟩, ⟨z1, y1⟩, ⟨z2, y2⟩, ⟨z3, y3⟩, ⟨z4, y4⟩⟩ := ev_cells HP.out.res
          have HE := Lib.hid (ev5 x.k x.c x.i x.m x.n HP.out.res)
          have HBE := Lib.hid (HP.out.all.trans (ev5_below wr w.heap.size w.heap.size x.k x.c x.i x.m x.n (Nat.le_refl _)))
          go_wp2
          exact bodyPost_ret (v := .tuple #[x.agg, .int .i64 0]) (res17 (b := w.heap.size) HE.out rfl rfl) rfl ⟨by rw [HV.out], HBE.out⟩

end Go.Proofs.YtcjngndgmedabaaDoor
