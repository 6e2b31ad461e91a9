/-
  The reference: write and Line.
-/
import Derived.Test.YtcjngndgmedabaaDoorWm
import Derived.Test.YtcjngndgmedabaaDoorWi
namespace Go.Proofs.YtcjngndgmedabaaDoor
open Go Go.RowKit
set_option linter.unusedVariables false
set_option linter.unusedSimpArgs false

def wtx (e : EV) (p : Nat) : List UInt8 := kw e.k ++ ((kf e.k).take p).flatMap fun f => 32 :: ftext e f
theorem wtx_zero (e : EV) : wtx e 0 = kw e.k := by simp [wtx]
theorem wtx_next {e : EV} {p : Nat} (h : p < (kf e.k).length) : wtx e (p + 1) = wtx e p ++ 32 :: ftext e (kf e.k)[p] := by
  unfold wtx; rw [List.take_succ_eq_append_getElem h, List.flatMap_append]; simp
theorem wtx_all (e : EV) : wtx e (kf e.k).length = e.bytes := by unfold wtx EV.bytes; rw [List.take_length]
theorem wtx_len {e : EV} (he : e.Ok) (p : Nat) : (wtx e p).length ≤ 300 := by
  have h := line_len he
  have h2 : e.bytes = wtx e p ++ ((kf e.k).drop p).flatMap fun f => 32 :: ftext e f := by
    unfold wtx EV.bytes
    rw [List.append_assoc, ← List.flatMap_append, List.take_append_drop]
  rw [h2, List.length_append] at h
  omega

/-- the memory of davitref32.write -/
structure RW (w : World) (e : EV) (nb : Nat) (x : EV) (wr : World) : Prop where
  bel : Below w.heap.size w wr
  nbw : w.heap.size + 1 < nb
  rc : wr.heap[w.heap.size]? = some (evBlk e)
  rs : wr.heap[w.heap.size + 1]? = some (evBlk EV.zero)
  nm : wr.heap[nb]? = some (evBlk x)
theorem RW.next {w : World} {e x : EV} {nb : Nat} {A B : World} (h : RW w e nb x A) (hb : Below A.heap.size A B) : RW w e nb x B :=
  ⟨h.bel.trans (hb.mono h.bel.size), h.nbw, (hb.block _ (in_heap h.rc)).trans h.rc, (hb.block _ (in_heap h.rs)).trans h.rs, (hb.block _ (in_heap h.nm)).trans h.nm⟩
theorem RW.set {w : World} {e x : EV} {nb : Nat} {A : World} (h : RW w e nb x A) (o : Nat) (v : Value) (y : EV) (hy : x.cells.setIfInBounds o v = y.cells) : RW w e nb y (A.setCell ⟨nb, o, none⟩ v) := by
  have hk : ∀ b, b ≠ nb → (A.setCell ⟨nb, o, none⟩ v).heap[b]? = A.heap[b]? := fun b hb => Below.heap_setCell A ⟨nb, o, none⟩ v b hb
  have := h.nbw
  refine ⟨h.bel.setCell (p := ⟨nb, o, none⟩) (by show _ ≤ nb; omega) v, h.nbw, (hk _ (by omega)).trans h.rc, (hk _ (by omega)).trans h.rs, ?_⟩
  have := blk_set h.nm o v
  rw [hy] at this; exact this

set_option maxRecDepth 100000 in
set_option maxHeartbeats 2000000 in
theorem refWrite_any (e : EV) (he : e.Ok) (w : World) : Calls Tryd.prog 37 #[e.agg] w fun r w' => r = .returned (.tuple #[St e.bytes, e.only.agg]) ∧ Below w.heap.size w w' := by
  obtain ⟨k, c, i, m, n⟩ := e
  unfold EV.agg EV.cells
  go_enter Tryd.func37, Tryd.ntmps37
  go_wp2_with fail
  refine (refKind_any k _).mono ?_
  rintro _ w1 ⟨rfl, hb1⟩
  have HR1 := Lib.hid (show w1.heap[w.heap.size]? = some (evBlk ⟨k, c, i, m, n⟩) from (hb1.block w.heap.size (by rw [World.size_alloc, World.size_alloc]; omega)).trans (heap_new2 w _ _).1)
  have HS1 := Lib.hid (show w1.heap[w.heap.size + 1]? = some (evBlk EV.zero) from (hb1.block (w.heap.size + 1) (by rw [World.size_alloc, World.size_alloc]; omega)).trans (heap_new2 w _ _).2)
  have HB1 := Lib.hid (((Below.refl w.heap.size w).alloc (Nat.le_refl _) (.cells #[.int .i64 k, .int .i64 c, .int .i64 i, .int .u64 m, .int .i64 n] 36) |>.alloc (by simp) (.cells #[.int .i64 0, .int .i64 0, .int .i64 0, .int .u64 0, .int .i64 0] 36)).trans (hb1.mono (by simp; omega)))
  have hs1 : w.heap.size + 1 < w1.heap.size := in_heap HS1.out
  have hs1' : w.heap.size < w1.heap.size := by omega
  have d0 := (ev_cells HR1.out).1.1
  have f0 := (ev_cells HR1.out).1.2
  clear hb1
  have HW0 := Lib.hid (show RW w ⟨k, c, i, m, n⟩ w1.heap.size ⟨k, 0, 0, 0, 0⟩ (w1.alloc (.cells #[.int .i64 k, .int .i64 0, .int .i64 0, .int .u64 0, .int .i64 0] 36)) from
    ⟨HB1.out.alloc (by omega) _, hs1, (Below.heap_alloc _ _ _ hs1').trans HR1.out, (Below.heap_alloc _ _ _ hs1).trans HS1.out, heap_alloc_last _ _⟩)
  go_wp2
  clear d0 f0 HR1 HS1 HB1 hs1 hs1'
  generalize w1.alloc (.cells #[.int .i64 k, .int .i64 0, .int .i64 0, .int .u64 0, .int .i64 0] 36) = w2 at *
  generalize w1.heap.size = nb at *
  obtain ⟨E, hE⟩ : ∃ E : EV, E = ⟨k, c, i, m, n⟩ := ⟨_, rfl⟩
  rw [← hE] at HW0 he
  obtain ⟨hEk, hEc, hEi, hEm, hEn⟩ : E.k = k ∧ E.c = c ∧ E.i = i ∧ E.m = m ∧ E.n = n := by subst hE; exact ⟨rfl, rfl, rfl, rfl, rfl⟩
  have hlen2 := (kind_facts k).2.1
  go_loopw [4, 7] (fun a b wr => ∃ p : Nat, p ≤ (kf k).length ∧ a = St (wtx E p) ∧ b = .int .i64 p ∧ Hid (RW w E nb (nmOf E p) wr)) (fun _ b _ => (kf k).length - (intOf b).toNat)
  case atStart => exact ⟨0, by omega, by rw [wtx_zero, hEk], rfl, by subst hE; exact HW0⟩
  case round =>
    clear HW0
    obtain ⟨p, hp, rfl, rfl, HW⟩ := hrel
    have hwl := wtx_len he p
    by_cases hlt : p < (kf k).length
    · have hfF := (kind_facts k).2.2.2.2 _ (List.getElem_mem hlt)
      have hcase : (kf k)[p] = 99 ∨ (kf k)[p] = 105 ∨ (kf k)[p] = 109 ∨ (kf k)[p] = 110 := by simpa [isF, or_assoc] using hfF
      have HWN := Lib.hid (show wtx E (p + 1) = wtx E p ++ 32 :: ftext E (kf k)[p] by subst hE; exact wtx_next hlt)
      have HNN := Lib.hid (show nmOf E (p + 1) = E.cp (nmOf E p) (kf k)[p] by subst hE; exact nmOf_next hlt)
      obtain ⟨⟨e0, f0⟩, ⟨e1, f1⟩, ⟨e2, f2⟩, ⟨e3, f3⟩, ⟨e4, f4⟩⟩ := ev_cells HW.out.rc
      rw [hEk] at e0; rw [hEc] at e1; rw [hEi] at e2; rw [hEm] at e3; rw [hEn] at e4
      obtain ⟨⟨n0, o0⟩, ⟨n1, o1⟩, ⟨n2, o2⟩, ⟨n3, o3⟩, ⟨n4, o4⟩⟩ := ev_cells HW.out.nm
      have hc : I64 c := by rw [← hEc]; exact he.c
      have hi : I64 i := by rw [← hEi]; exact he.i
      have hn : I64 n := by rw [← hEn]; exact he.n
      unfold I64 at hc hi hn
      have lc := Lib.itoa_length_le c (by omega) (by omega)
      have li := Lib.itoa_length_le i (by omega) (by omega)
      have ln := Lib.itoa_length_le n (by omega) (by omega)
      clear hfF
      rcases hcase with hf | hf | hf | hf
      · have hu : ((⟨(kf k).toArray⟩ : ByteArray)[p]'(by rw [bsz]; exact hlt)).toNat = 99 := by rw [letter_at hlt, hf]; rfl
        rw [hf] at HWN HNN
        have HWC := Lib.hid (show wtx E (p + 1) = wtx E p ++ 32 :: Lib.itoa c by rw [HWN.out]; subst hE; rfl)
        have HNC := Lib.hid (show nmOf E (p + 1) = { nmOf E p with c := c } by rw [HNN.out]; subst hE; rfl)
        have HF := Lib.hid (HW.out.set 1 (.int .i64 c) { nmOf E p with c := c } rfl)
        generalize wtx E p = tx at *
        clear hf HWN HNN
        go_wp2_with fail
        refine (num_any c (by omega) (by omega) _).mono ?_
        rintro _ w3 ⟨rfl, rfl⟩
        go_wp2
        go_roundw
        case rel => exact ⟨p + 1, by omega, by rw [HWC.out]; show Value.string ((⟨tx.toArray⟩ : ByteArray) ++ ⟨#[32]⟩ ++ ⟨(Lib.itoa c).toArray⟩) = _; rw [ba_app tx [32], ba_app]; simp, by go_num, by rw [HNC.out]; exact HF⟩
        case measure => simp [intOf]; omega
      · have hu : ((⟨(kf k).toArray⟩ : ByteArray)[p]'(by rw [bsz]; exact hlt)).toNat = 105 := by rw [letter_at hlt, hf]; rfl
        rw [hf] at HWN HNN
        have HWC := Lib.hid (show wtx E (p + 1) = wtx E p ++ 32 :: Lib.itoa i by rw [HWN.out]; subst hE; rfl)
        have HNC := Lib.hid (show nmOf E (p + 1) = { nmOf E p with i := i } by rw [HNN.out]; subst hE; rfl)
        have HF := Lib.hid (HW.out.set 2 (.int .i64 i) { nmOf E p with i := i } rfl)
        generalize wtx E p = tx at *
        clear hf HWN HNN
        go_wp2_with fail
        refine (num_any i (by omega) (by omega) _).mono ?_
        rintro _ w3 ⟨rfl, rfl⟩
        go_wp2
        go_roundw
        case rel => exact ⟨p + 1, by omega, by rw [HWC.out]; show Value.string ((⟨tx.toArray⟩ : ByteArray) ++ ⟨#[32]⟩ ++ ⟨(Lib.itoa i).toArray⟩) = _; rw [ba_app tx [32], ba_app]; simp, by go_num, by rw [HNC.out]; exact HF⟩
        case measure => simp [intOf]; omega
      · have hu : ((⟨(kf k).toArray⟩ : ByteArray)[p]'(by rw [bsz]; exact hlt)).toNat = 109 := by rw [letter_at hlt, hf]; rfl
        rw [hf] at HWN HNN
        have HWC := Lib.hid (show wtx E (p + 1) = wtx E p ++ 32 :: maskL (bitsUp m) by rw [HWN.out]; subst hE; rfl)
        have HNC := Lib.hid (show nmOf E (p + 1) = { nmOf E p with m := m } by rw [HNN.out]; subst hE; rfl)
        have hml := maskL_bits_len m
        have hm := he.m
        rw [hEm] at hm
        generalize wtx E p = tx at *
        clear hf HWN HNN n0 n1 n2 n3 n4 o0 o1 o2 o3 o4
        go_wp2_with fail
        refine (cpus_any m hm _).mono ?_
        rintro _ w3 ⟨rfl, hb3⟩
        have HW3 := Lib.hid (HW.out.next hb3)
        have HF := Lib.hid (HW3.out.set 3 (.int .u64 m) { nmOf E p with m := m } rfl)
        have e3 := (ev_cells HW3.out.rc).2.2.2.1.1
        rw [hEm] at e3
        have n3 := (ev_cells HW3.out.nm).2.2.2.1.1
        have o3 := (ev_cells HW3.out.nm).2.2.2.1.2
        generalize maskL (bitsUp m) = mt at *
        go_wp2
        go_roundw
        case rel => exact ⟨p + 1, by omega, by rw [HWC.out]; show Value.string ((⟨tx.toArray⟩ : ByteArray) ++ ⟨#[32]⟩ ++ ⟨mt.toArray⟩) = _; rw [ba_app tx [32], ba_app]; simp, by go_num, by rw [HNC.out]; exact HF⟩
        case measure => simp [intOf]; omega
      · have hu : ((⟨(kf k).toArray⟩ : ByteArray)[p]'(by rw [bsz]; exact hlt)).toNat = 110 := by rw [letter_at hlt, hf]; rfl
        rw [hf] at HWN HNN
        have HWC := Lib.hid (show wtx E (p + 1) = wtx E p ++ 32 :: Lib.itoa n by rw [HWN.out]; subst hE; rfl)
        have HNC := Lib.hid (show nmOf E (p + 1) = { nmOf E p with n := n } by rw [HNN.out]; subst hE; rfl)
        have HF := Lib.hid (HW.out.set 4 (.int .i64 n) { nmOf E p with n := n } rfl)
        generalize wtx E p = tx at *
        clear hf HWN HNN
        go_wp2_with fail
        refine (num_any n (by omega) (by omega) _).mono ?_
        rintro _ w3 ⟨rfl, rfl⟩
        go_wp2
        go_roundw
        case rel => exact ⟨p + 1, by omega, by rw [HWC.out]; show Value.string ((⟨tx.toArray⟩ : ByteArray) ++ ⟨#[32]⟩ ++ ⟨(Lib.itoa n).toArray⟩) = _; rw [ba_app tx [32], ba_app]; simp, by go_num, by rw [HNC.out]; exact HF⟩
        case measure => simp [intOf]; omega
    · obtain rfl : p = (kf k).length := by omega
      have HWA := Lib.hid (show wtx E (kf k).length = E.bytes by subst hE; exact wtx_all _)
      have HNA := Lib.hid (show nmOf E (kf k).length = E.only by subst hE; exact nmOf_all _)
      rw [HNA.out] at HW
      obtain ⟨⟨n0, o0⟩, ⟨n1, o1⟩, ⟨n2, o2⟩, ⟨n3, o3⟩, ⟨n4, o4⟩⟩ := ev_cells HW.out.nm
      obtain ⟨⟨z0, y0⟩, ⟨z1, y1⟩, ⟨z2, y2⟩, ⟨z3, y3⟩, ⟨z4, y4⟩⟩ := ev_cells HW.out.rs
      generalize wtx E (kf k).length = tx at *
      have hnb := HW.out.nbw
      have hne0 : nb ≠ w.heap.size + 1 := by omega
      have HEq := Lib.hid hE
      clear hE hEk hEc hEi hEm hEn
      have HE := Lib.hid (ev5 E.only.k E.only.c E.only.i E.only.m E.only.n HW.out.rs)
      have HBE := Lib.hid (HW.out.bel.trans (ev5_below wr w.heap.size (w.heap.size + 1) E.only.k E.only.c E.only.i E.only.m E.only.n (by omega)))
      go_wp2
      go_big_region
      go_wp2
      have hres := HE.out
      revert hres
      generalize (((((wr.setCell ⟨w.heap.size + 1, 0, none⟩ (.int .i64 E.only.k)).setCell ⟨w.heap.size + 1, 1, none⟩ (.int .i64 E.only.c)).setCell ⟨w.heap.size + 1, 2, none⟩ (.int .i64 E.only.i)).setCell ⟨w.heap.size + 1, 3, none⟩ (.int .u64 E.only.m)).setCell ⟨w.heap.size + 1, 4, none⟩ (.int .i64 E.only.n)) = W5 at *
      intro hres
      refine bodyPost_ret (v := .tuple #[St tx, E.only.agg]) ?_ rfl ?_
      · have p0 : W5.cell? ⟨w.heap.size + 1, 0, none⟩ = some (.int .i64 E.only.k) := blk_cell hres 0
        have p1 : W5.cell? ⟨w.heap.size + 1, 1, none⟩ = some (.int .i64 E.only.c) := blk_cell hres 1
        have p2 : W5.cell? ⟨w.heap.size + 1, 2, none⟩ = some (.int .i64 E.only.i) := blk_cell hres 2
        have p3 : W5.cell? ⟨w.heap.size + 1, 3, none⟩ = some (.int .u64 E.only.m) := blk_cell hres 3
        have p4 : W5.cell? ⟨w.heap.size + 1, 4, none⟩ = some (.int .i64 E.only.n) := blk_cell hres 4
        simp [results, Tryd.results37, go_sem, EV.agg, EV.cells, p0, p1, p2, p3, p4]
      · exact ⟨by rw [HWA.out, ← HEq.out]; rfl, HBE.out.drew⟩


set_option maxRecDepth 100000 in
set_option maxHeartbeats 2000000 in
theorem refLine_any (e : EV) (he : e.Ok) (w : World) : Calls Tryd.prog 20 #[e.agg] w fun r w' => r = .returned (lineV e.line) ∧ Below w.heap.size w w' := by
  obtain ⟨k, c, i, m, n⟩ := e
  unfold EV.agg EV.cells
  go_enter Tryd.func20, Tryd.ntmps20
  go_wp2_with fail
  refine (refWrite_any ⟨k, c, i, m, n⟩ he _).mono ?_
  rintro _ w1 ⟨rfl, hb1⟩
  have HL := Lib.hid (show EV.line ⟨k, c, i, m, n⟩ = if kw k = [] ∨ (EV.only ⟨k, c, i, m, n⟩).same ⟨k, c, i, m, n⟩ = false then none else some (EV.bytes ⟨k, c, i, m, n⟩) by rfl)
  have HB1 := Lib.hid (((Below.refl w.heap.size w).alloc (Nat.le_refl _) (.cells #[.int .i64 k, .int .i64 c, .int .i64 i, .int .u64 m, .int .i64 n] 36)).trans (hb1.mono (by simp)))
  have HR1 := Lib.hid (show w1.heap[w.heap.size]? = some (evBlk ⟨k, c, i, m, n⟩) from (hb1.block w.heap.size (by rw [World.size_alloc]; omega)).trans (heap_alloc_last w _))
  have hs1 : w.heap.size < w1.heap.size := in_heap HR1.out
  clear hb1
  unfold EV.agg EV.cells
  generalize EV.only ⟨k, c, i, m, n⟩ = X at *
  obtain ⟨xk, xc, xi, xm, xn⟩ := X
  generalize EV.bytes ⟨k, c, i, m, n⟩ = tx at *
  obtain ⟨⟨e0, f0⟩, ⟨e1, f1⟩, ⟨e2, f2⟩, ⟨e3, f3⟩, ⟨e4, f4⟩⟩ := ev_cells HR1.out
  go_wp2_with fail
  refine (refName_any k _).mono ?_
  rintro _ w2 ⟨rfl, hb2⟩
  have HR2 := Lib.hid (show w2.heap[w.heap.size]? = some (evBlk ⟨k, c, i, m, n⟩) from (hb2.block w.heap.size (by rw [World.size_alloc]; omega)).trans ((Below.heap_alloc _ _ _ hs1).trans HR1.out))
  have HX2 := Lib.hid (show w2.heap[w1.heap.size]? = some (evBlk ⟨xk, xc, xi, xm, xn⟩) from (hb2.block w1.heap.size (by rw [World.size_alloc]; omega)).trans (heap_alloc_last w1 _))
  have HB2 := Lib.hid ((HB1.out.alloc (by omega) (.cells #[.int .i64 xk, .int .i64 xc, .int .i64 xi, .int .u64 xm, .int .i64 xn] 36)).trans (hb2.mono (by rw [World.size_alloc]; omega)))
  clear hb2 e0 e1 e2 e3 e4 f0 f1 f2 f3 f4 HR1
  obtain ⟨⟨e0, f0⟩, ⟨e1, f1⟩, ⟨e2, f2⟩, ⟨e3, f3⟩, ⟨e4, f4⟩⟩ := ev_cells HR2.out
  obtain ⟨⟨n0, o0⟩, ⟨n1, o1⟩, ⟨n2, o2⟩, ⟨n3, o3⟩, ⟨n4, o4⟩⟩ := ev_cells HX2.out
  simp only [] at e0 e1 e2 e3 e4 n0 n1 n2 n3 n4
  by_cases hk : kw k = []
  · have HLL := Lib.hid (show EV.line ⟨k, c, i, m, n⟩ = none by rw [HL.out, if_pos (.inl hk)])
    rw [hk]
    go_wp2
    go_ret2
    exact ⟨by rw [HLL.out]; rfl, HB2.out⟩
  · have hk' : (kw k).isEmpty = false := by cases h : kw k <;> simp_all
    have HK := Lib.hid hk; clear hk
    cases hs : EV.same ⟨xk, xc, xi, xm, xn⟩ ⟨k, c, i, m, n⟩ with
    | false =>
      have HLL := Lib.hid (show EV.line ⟨k, c, i, m, n⟩ = none by rw [HL.out, if_pos (.inr hs)])
      have HS := Lib.hid hs
      clear hs
      go_wp2
      all_goals first
        | (go_ret2; exact ⟨by rw [HLL.out]; rfl, HB2.out⟩)
        | (exfalso
           have hh := EV.same_of (a := ⟨xk, xc, xi, xm, xn⟩) (b := ⟨k, c, i, m, n⟩) (by assumption) (by assumption) (by assumption) (by assumption) (by assumption)
           rw [HS.out] at hh
           cases hh)
        | trace_state
    | true =>
      have HLL := Lib.hid (show EV.line ⟨k, c, i, m, n⟩ = some tx by rw [HL.out, if_neg (by rw [hs]; simp [HK.out])])
      have hx := (EV.same_iff _ _).1 hs
      cases hx
      clear hs
      go_wp2
      go_ret2
      exact ⟨by rw [HLL.out]; rfl, HB2.out⟩


end Go.Proofs.YtcjngndgmedabaaDoor
