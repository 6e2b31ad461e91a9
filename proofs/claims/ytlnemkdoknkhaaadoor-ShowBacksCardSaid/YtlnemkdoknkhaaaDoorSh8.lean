/-
  show.Back comes to backV: the record that its words spell, if it is written so.
-/
import Derived.Test.YtlnemkdoknkhaaaDoorSh7
import Derived.RangeFuncBound
namespace Go.Proofs.YtlnemkdoknkhaaaDoor
open Go Go.RowKit Go.Shelf
set_option linter.unusedVariables false
set_option linter.unusedSimpArgs false
attribute [local go_sem] Oper.semAt_some

instance (n : Int) : Decidable (I64 n) := by unfold I64; exact inferInstance
def RV.zero : RV := ⟨0, 0, 0, 0, 0⟩
def RV.agg (r : RV) : Value := .agg r.cells
def RV.line (r : RV) : List UInt8 := lineOf r.k r.c r.i r.n r.e
/-- The record that show.Back has put together. -/
def readV (ws : List (List UInt8)) : RV := ws.foldl RV.put RV.zero
def readL (l : List UInt8) : RV := readV (splitW l)
def backOk (l : List UInt8) : Bool := (!decide ((readL l).k = 0)) && decide ((readL l).line = l)
def backV (l : List UInt8) : Value := .tuple #[if backOk l then (readL l).agg else RV.zero.agg, .int .i64 (if backOk l then 0 else 13)]

theorem RV.zero_ok : RV.zero.Ok := ⟨by decide, by decide, by decide, by decide, by decide⟩
theorem kindOf_le (w : List UInt8) : 0 ≤ kindOf w ∧ kindOf w ≤ 7 := by
  unfold kindOf
  (repeat' split) <;> omega
theorem RV.put_ok {r : RV} (h : r.Ok) (w : List UInt8) : (r.put w).Ok := by
  unfold RV.put
  split
  · exact ⟨h.c, h.i, h.n, h.e, kindOf_le w⟩
  · split
    · exact h
    · split
      · rename_i L t v hv
        have hb := Lib.parseIntB_bounds hv
        have hi : I64 v := by unfold I64; have : (2 : Nat) ^ (64 - 1) = 9223372036854775808 := by decide
                              omega
        unfold RV.set
        (repeat' split) <;> first | exact ⟨hi, h.i, h.n, h.e, h.k⟩ | exact ⟨h.c, hi, h.n, h.e, h.k⟩ | exact ⟨h.c, h.i, hi, h.e, h.k⟩ | exact ⟨h.c, h.i, h.n, hi, h.k⟩ | exact h
      · exact h
theorem readV_ok (ws : List (List UInt8)) : (readV ws).Ok := by
  unfold readV
  have : ∀ (ws : List (List UInt8)) (r : RV), r.Ok → (ws.foldl RV.put r).Ok := by
    intro ws
    induction ws with
    | nil => intro r h; exact h
    | cons w ws ih => intro r h; exact ih _ (RV.put_ok h w)
  exact this ws _ RV.zero_ok
theorem readV_snoc (ws : List (List UInt8)) (x : List UInt8) : readV (ws ++ [x]) = (readV ws).put x := by simp [readV]

/-- What holds between two words of show.Back. -/
abbrev Wd := { x : List UInt8 // x.length ≤ 400 }
structure BackI (w : World) (pre : List (List UInt8)) (W : World) : Prop where
  g : GW W
  r : W.heap[w.heap.size + 1]? = some (.cells (readV pre).cells 25 (0, 0))
  z : W.heap[w.heap.size]? = some (.cells RV.zero.cells 25 (0, 0))
  b : Below w.heap.size w W

theorem BackI.of {w : World} (hg : GW w) {pre : List (List UInt8)} {A B : World} (h : BackI w pre A) (hos : B.os = A.os) (ht : B.tape = A.tape) (ho : B.output = A.output) (hsz : A.heap.size ≤ B.heap.size) (hk : ∀ k, k < w.heap.size + 2 → B.heap[k]? = A.heap[k]?) : BackI w pre B :=
  have hb : Below (w.heap.size) A B := ⟨hos, ht, ho, hsz, fun k hk' => hk k (by omega)⟩
  ⟨h.g.below hb hg.sz, (hk _ (by omega)).trans h.r, (hk _ (by omega)).trans h.z, h.b.trans hb⟩

theorem set5 {W : World} {b : Nat} {r : RV} (k c i n e : Int) (h : W.heap[b]? = some (.cells r.cells 25 (0, 0))) :
    (((((W.setCell ⟨b, 0, none⟩ (.int .i64 k)).setCell ⟨b, 1, none⟩ (.int .i64 c)).setCell ⟨b, 2, none⟩ (.int .i64 i)).setCell ⟨b, 3, none⟩ (.int .i64 n)).setCell ⟨b, 4, none⟩ (.int .i64 e)).heap[b]? = some (.cells (RV.mk k c i n e).cells 25 (0, 0)) := by
  have h0 := blk_set h 0 (.int .i64 k)
  have h1 := blk_set h0 1 (.int .i64 c)
  have h2 := blk_set h1 2 (.int .i64 i)
  have h3 := blk_set h2 3 (.int .i64 n)
  exact blk_set h3 4 (.int .i64 e)
theorem set5_other (W : World) (b : Nat) (k c i n e : Int) (j : Nat) (hk : j ≠ b) :
    (((((W.setCell ⟨b, 0, none⟩ (.int .i64 k)).setCell ⟨b, 1, none⟩ (.int .i64 c)).setCell ⟨b, 2, none⟩ (.int .i64 i)).setCell ⟨b, 3, none⟩ (.int .i64 n)).setCell ⟨b, 4, none⟩ (.int .i64 e)).heap[j]? = W.heap[j]? := by
  (repeat' rw [Below.heap_setCell _ _ _ _ hk])
theorem set5_below (W : World) (b : Nat) (k c i n e : Int) :
    Below b W (((((W.setCell ⟨b, 0, none⟩ (.int .i64 k)).setCell ⟨b, 1, none⟩ (.int .i64 c)).setCell ⟨b, 2, none⟩ (.int .i64 i)).setCell ⟨b, 3, none⟩ (.int .i64 n)).setCell ⟨b, 4, none⟩ (.int .i64 e)) :=
  (((((Below.refl _ _).setCell (p := ⟨b, 0, none⟩) (Nat.le_refl _) _).setCell (p := ⟨b, 1, none⟩) (Nat.le_refl _) _).setCell (p := ⟨b, 2, none⟩) (Nat.le_refl _) _).setCell (p := ⟨b, 3, none⟩) (Nat.le_refl _) _).setCell (p := ⟨b, 4, none⟩) (Nat.le_refl _) _
/-- Reading a record that a function returns. -/
theorem res5 {W : World} {b : Nat} {r : RV} {tm : Array Value} {e : Int} (h : W.heap[b]? = some (.cells r.cells 25 (0, 0))) (h2 : tm[2]?.getD undef = .pointer (some ⟨b, 0, none⟩)) (h3 : tm[3]?.getD undef = .int .i64 e) :
    (results Tryd.f6 tm).run Tryd.prog W = .ok (.tuple #[r.agg, .int .i64 e]) W := by
  obtain ⟨⟨d0, f0⟩, ⟨d1, f1⟩, ⟨d2, f2⟩, ⟨d3, f3⟩, ⟨d4, f4⟩⟩ := rec_cells h
  simp [results, Tryd.results6, go_sem, h2, h3, d0, d1, d2, d3, d4, RV.agg, RV.cells]

theorem back_fin (n B : Nat) (w W4 : World) (s b : Nat) (r : RV) (er : Int) (V : Value) (tm : Array Value) (h : W4.heap[b]? = some (.cells r.cells 25 (0, 0))) (hK : W4.heap[s]? = some (.deferred (some []))) (hbs : b ≠ s) (hB : Below B w W4) (hBs : B ≤ s)
    (hV : V = .tuple #[r.agg, .int .i64 er]) (h2 : tm[2]?.getD undef = .pointer (some ⟨b, 0, none⟩)) (h3 : tm[3]?.getD undef = .int .i64 er) :
    bodyPostM Fence.wide n Tryd.prog Tryd.f6 (fun e w' => e = Ending.returned V ∧ Below B w w') Exit.ret { tmps := tm, defers := [{ target := .collected s, args := #[] }] } W4 := by
  refine ⟨by simp, .inl ⟨_, _, rfl, run_takeDeferred hK, ?_⟩⟩
  refine ⟨_, res5 (r := r) (e := er) ((World.putObj_heap_other hbs).trans h) h2 h3, by rw [hV], ?_⟩
  exact hB.trans ⟨rfl, rfl, rfl, by simp, fun k hk => World.putObj_heap_other (by omega)⟩

set_option maxRecDepth 100000 in
set_option maxHeartbeats 2000000 in
theorem back_in (n : Nat) (hn : 4 ≤ n) (l : List UInt8) (hl : l.length ≤ 400) (w : World) (hg : GW w) :
    CallsIn Fence.wide n Tryd.prog 6 #[St l] w fun e w' => e = .returned (backV l) ∧ Below w.heap.size w w' := by
  have h1 : 1 ≤ n := by omega
  refine callsIn_of_wp_marks Tryd.func6 rfl trivial ?_ rfl
  simp only [Tryd.ntmps6, List.size_toArray, List.length_cons, List.length_nil, Nat.reduceAdd, Nat.reduceSub, Array.replicate_succ, Array.replicate_zero, List.push_toArray, List.append_toArray, List.nil_append, List.cons_append]
  gi_wp2_with fail
  refine ⟨trivial, (callsIn_wide.2 (words_any l _)).mono ?_⟩
  rintro _ w1 ⟨rfl, rfl⟩
  gi_wp2
  obtain ⟨w0, hw0⟩ : ∃ w0, w0 = ((w.alloc (.cells RV.zero.cells 25)).alloc (.cells RV.zero.cells 25)).alloc (.cells #[St l] 9) := ⟨_, rfl⟩
  show Code.wpIn Fence.wide n Tryd.prog _ _ _ (((w.alloc (.cells RV.zero.cells 25)).alloc (.cells RV.zero.cells 25)).alloc (.cells #[St l] 9))
  rw [← hw0]
  have hs0 : w0.heap.size = w.heap.size + 3 := by rw [hw0]; simp
  have hb0 : Below w.heap.size w w0 := by rw [hw0]; exact (((Below.refl _ _).alloc (Nat.le_refl _) _).alloc (by simp) _).alloc (by simp; omega) _
  have hk0 : w0.heap[w.heap.size]? = some (.cells RV.zero.cells 25 (0, 0)) := by
    rw [hw0]; exact (Below.heap_alloc _ _ _ (by simp; omega)).trans ((Below.heap_alloc _ _ _ (by simp)).trans (World.alloc_heap_new w _))
  have hk1 : w0.heap[w.heap.size + 1]? = some (.cells RV.zero.cells 25 (0, 0)) := by
    rw [hw0]; refine (Below.heap_alloc _ _ _ (by simp)).trans ?_
    have := World.alloc_heap_new (w.alloc (.cells RV.zero.cells 25)) (.cells RV.zero.cells 25); rwa [World.size_alloc] at this
  have hk2 : w0.heap[w.heap.size + 2]? = some (.cells #[St l] 9 (0, 0)) := by
    rw [hw0]
    have := World.alloc_heap_new ((w.alloc (.cells RV.zero.cells 25)).alloc (.cells RV.zero.cells 25)) (.cells #[St l] 9); rwa [World.size_alloc, World.size_alloc] at this
  have hi0 : BackI w [] w0 := ⟨hg.next hb0, hk1, hk0, hb0⟩
  have HW := Lib.hid hw0; clear hw0
  refine wpIn_rf rfl h1 (gf := 22) (lb := #[.pointer (some ⟨w.heap.size + 2, 0, none⟩)]) rfl trivial (enters_of Tryd.func22 (by kernel_rfl) rfl) (encs := fun x : Wd => #[St x.1]) (fun _ => rfl)
    (fun k => k = w.heap.size + 2) (fun k hk => by omega) (fun xs W => BackI w (xs.map (·.1)) W) (fun _ _ _ => False) ?abides (fun _ _ _ _ _ h _ _ => h) ?start (fun xs => xs.map (·.1) = splitW l) (fun _ => True) ?seq
    (fun x => { tmps := #[St l, undef, .pointer (some ⟨w.heap.size, 0, none⟩), .int .i64 0, .pointer (some ⟨w.heap.size + 1, 0, none⟩), St x.1, St l, .func (.func 22) #[] #[.pointer (some ⟨w.heap.size + 2, 0, none⟩)], St x.1, undef, undef, undef, undef, undef, undef, undef, undef, undef, undef, undef, undef, undef], defers := [] }) ?assign ?body ?done ?stop
  case abides =>
    intro xs A o ob h ho hlt
    exact BackI.of hg h rfl rfl rfl (by simp) (fun k hk => World.putObj_heap_other (by omega))
  case start =>
    intro W hsz hb
    exact BackI.of hg hi0 hb.os hb.tape hb.output hb.size (fun k hk => hb.block k (by omega))
  case seq =>
    intro Rc Rx W hb hsz hRc hRx hY hI hR
    refine (words1_in (n - 1) (by omega) (w.heap.size + 2) (w0.heap.size + 1) l hl (fun pre W => ∃ ys : List Wd, ys.map (·.1) = pre ∧ BackI w pre W) Rc ?_ ?_ ?_ ?_ (fun _ _ ⟨_, _, h⟩ => h.g) ?_ W ((hb.block _ (by omega)).trans hk2) ⟨[], rfl, hI⟩ hR).mono ?_
    · rintro pre A v ⟨ys, e, h⟩
      exact ⟨ys, e, BackI.of hg h rfl rfl rfl (by simp [World.setCell]) (fun k hk => Below.heap_setCell _ _ _ _ (by show k ≠ w.heap.size + 2; omega))⟩
    · intro A v h
      exact hRc _ _ (fun k hk => Below.heap_setCell _ _ _ _ (by show k ≠ w.heap.size + 2; omega)) h
    · rintro pre A k ⟨ys, e, h⟩
      exact ⟨ys, e, BackI.of hg h rfl rfl rfl (Nat.le_refl _) (fun k hk => rfl)⟩
    · intro A k h
      exact hRc A _ (fun k hk => rfl) h
    · rintro pre x W1 hx ⟨ys, e, hi⟩ hr
      subst e
      refine YieldAt.mono (hY ys ⟨x, hx⟩ W1 hi hr) ?_
      rintro e W' (⟨h1, h2, h3, h4⟩ | ⟨_, c, _, hf⟩)
      · exact ⟨h1, ⟨ys ++ [⟨x, hx⟩], by simp, by simpa using h2⟩, h3, h4 _ rfl⟩
      · exact hf.elim
    · rintro e W' ⟨h1, ⟨ys, e2, h2⟩, h3⟩
      exact ⟨h1, .inl ⟨ys, e2, by rw [e2]; exact h2, h3⟩⟩
  case assign =>
    intro lp x W K hK
    gi_wp2
    exact hK
  case body =>
    intro lp pre x W hI hsz
    have hI' := Lib.hid hI
    have hne : w.heap.size + 1 ≠ w.heap.size + 2 := by omega
    clear hI hi0 hk0 hk1 hk2 hb0
    gi_wp2_with fail
    refine ⟨trivial, (fun h => by cases h), (CallsIn.inRound lp (callsIn_wide.2 (put_any (w.heap.size + 1) (readV (pre.map (·.1))) x.1 x.2 W hI'.out.g hI'.out.r))).mono ?_⟩
    rintro _ W3 ⟨rfl, hr3, hg3⟩
    have HR3 := Lib.hid hr3; have HG3 := Lib.hid hg3; clear hr3 hg3
    gi_wp2
    refine ⟨fun k hk => HG3.out.block k (by rcases hk with rfl | rfl | rfl <;> omega) (fun e => by cases e; omega), ?_⟩
    have hI2 := hI'.out
    have hbl : ∀ k, k < w.heap.size + 1 → W3.heap[k]? = W.heap[k]? := fun k hk => HG3.out.block k (by omega) (fun e => by cases e; omega)
    have hbb : Below w.heap.size W W3 := ⟨HG3.out.os, HG3.out.tape, HG3.out.output, HG3.out.size, fun k hk => hbl k (by omega)⟩
    exact ⟨hI2.g.below hbb hg.sz, by rw [List.map_append, List.map_singleton, readV_snoc]; exact HR3.out, (hbl _ (by omega)).trans hI2.z, hI2.b.trans hbb⟩
  case done =>
    intro xs W hxs hI hK
    rw [hxs] at hI
    have HI := Lib.hid hI; have HK := Lib.hid hK
    have hok := readV_ok (splitW l)
    obtain ⟨⟨d0, f0⟩, ⟨d1, f1⟩, ⟨d2, f2⟩, ⟨d3, f3⟩, ⟨d4, f4⟩⟩ := rec_cells hI.r
    obtain ⟨⟨z0, y0⟩, ⟨z1, y1⟩, ⟨z2, y2⟩, ⟨z3, y3⟩, ⟨z4, y4⟩⟩ := rec_cells hI.z
    have hsz : w0.heap.size < W.heap.size := (Array.getElem?_eq_some_iff.1 hK).1
    clear hi0 hk0 hk1 hk2 hb0 hI hK
    by_cases hk : (readV (splitW l)).k = 0
    · have hk' : ((readV (splitW l)).k == 0) = true := by simpa using hk
      have HV := Lib.hid (show backV l = .tuple #[RV.zero.agg, .int .i64 13] by unfold backV backOk; simp [readL, hk])
      clear hk
      gi_wp2
      refine ⟨trivial, ?_⟩
      gi_wp2
      rw [hs0] at HK
      exact back_fin n _ w _ _ _ RV.zero 13 _ _ (set5 0 0 0 0 0 HI.out.z) ((set5_other W w.heap.size 0 0 0 0 0 (w.heap.size + 3) (by omega)).trans HK.out) (by omega) (HI.out.b.trans (set5_below W w.heap.size 0 0 0 0 0)) (by omega) HV.out rfl rfl
    · have hk' : ((readV (splitW l)).k == 0) = false := by simpa using hk
      have HKn := Lib.hid hk; clear hk
      have H8 := Lib.hid (line_any (readV (splitW l)).k _ _ _ _ hok.c hok.i hok.n hok.e W HI.out.g)
      gi_wp2_with fail
      refine ⟨trivial, (callsIn_wide.2 H8.out).mono ?_⟩
      rintro _ W3 ⟨rfl, hb3⟩
      have HB3 := Lib.hid hb3
      have HR3 := Lib.hid ((hb3.block (w.heap.size + 1) (by omega)).trans HI.out.r)
      have HZ3 := Lib.hid ((hb3.block w.heap.size (by omega)).trans HI.out.z)
      have HK3 := Lib.hid ((hb3.block (w.heap.size + 3) (by omega)).trans (hs0 ▸ HK.out))
      have HBB := Lib.hid (HI.out.b.trans (hb3.mono (by omega : w.heap.size ≤ W.heap.size)))
      clear d0 f0 d1 f1 d2 f2 d3 f3 d4 f4 z0 y0 z1 y1 z2 y2 z3 y3 z4 y4 hb3
      obtain ⟨⟨d0, f0⟩, ⟨d1, f1⟩, ⟨d2, f2⟩, ⟨d3, f3⟩, ⟨d4, f4⟩⟩ := rec_cells HR3.out
      obtain ⟨⟨z0, y0⟩, ⟨z1, y1⟩, ⟨z2, y2⟩, ⟨z3, y3⟩, ⟨z4, y4⟩⟩ := rec_cells HZ3.out
      by_cases hline : (readV (splitW l)).line = l
      · have hl' : (lineOf (readV (splitW l)).k (readV (splitW l)).c (readV (splitW l)).i (readV (splitW l)).n (readV (splitW l)).e == l) = true := by simpa [RV.line] using hline
        have HV := Lib.hid (show backV l = .tuple #[(readV (splitW l)).agg, .int .i64 0] by unfold backV backOk; simp [readL, HKn.out, hline])
        clear hline H8
        gi_wp2
        exact back_fin n _ w _ _ _ (readV (splitW l)) 0 _ _ (set5 _ _ _ _ _ HZ3.out) ((set5_other W3 w.heap.size _ _ _ _ _ (w.heap.size + 3) (by omega)).trans HK3.out) (by omega) (HBB.out.trans (set5_below W3 w.heap.size _ _ _ _ _)) (by omega) HV.out rfl rfl
      · have hl' : (lineOf (readV (splitW l)).k (readV (splitW l)).c (readV (splitW l)).i (readV (splitW l)).n (readV (splitW l)).e == l) = false := by simpa [RV.line] using hline
        have HV := Lib.hid (show backV l = .tuple #[RV.zero.agg, .int .i64 13] by unfold backV backOk; simp [readL, hline])
        clear hline H8
        gi_wp2
        exact back_fin n _ w _ _ _ RV.zero 13 _ _ (set5 0 0 0 0 0 HZ3.out) ((set5_other W3 w.heap.size 0 0 0 0 0 (w.heap.size + 3) (by omega)).trans HK3.out) (by omega) (HBB.out.trans (set5_below W3 w.heap.size 0 0 0 0 0)) (by omega) HV.out rfl rfl
  case stop =>
    intro c pre W _ h _
    exact h.elim

theorem back_any (l : List UInt8) (hl : l.length ≤ 400) (w : World) (hg : GW w) : Calls Tryd.prog 6 #[St l] w fun e w' => e = .returned (backV l) ∧ Below w.heap.size w w' :=
  callsIn_wide.1 (back_in 4 (Nat.le_refl _) l hl w hg)
#print axioms back_any
end Go.Proofs.YtlnemkdoknkhaaaDoor
