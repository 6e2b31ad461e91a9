/-
  words.Name, Kind and Line.
-/
import Derived.Test.YtcjngndgmedabaaDoorWg
import Derived.Test.YtcjngndgmedabaaDoorWe
import Derived.Lib.OthersKept
import Derived.Deep.RegionLaw
import Derived.BigRegion
namespace Go.Proofs.YtcjngndgmedabaaDoor
open Go Go.RowKit
set_option linter.unusedVariables false
set_option linter.unusedSimpArgs false


theorem fld55 (a b : Value) : ∀ w, (Instr.field 55 (.agg #[a, b]) 0).run Tryd.prog w = .ok a w := fun _ => by kernel_rfl
def evBlk (e : EV) : Obj := .cells e.cells 36 (0, 0)
theorem ev_cells {w : World} {b : Nat} {e : EV} (h : w.heap[b]? = some (evBlk e)) :
    (w.cell? ⟨b, 0, none⟩ = some (.int .i64 e.k) ∧ w.frozen? ⟨b, 0, none⟩ = false) ∧ (w.cell? ⟨b, 1, none⟩ = some (.int .i64 e.c) ∧ w.frozen? ⟨b, 1, none⟩ = false) ∧
    (w.cell? ⟨b, 2, none⟩ = some (.int .i64 e.i) ∧ w.frozen? ⟨b, 2, none⟩ = false) ∧ (w.cell? ⟨b, 3, none⟩ = some (.int .u64 e.m) ∧ w.frozen? ⟨b, 3, none⟩ = false) ∧ (w.cell? ⟨b, 4, none⟩ = some (.int .i64 e.n) ∧ w.frozen? ⟨b, 4, none⟩ = false) :=
  ⟨⟨blk_cell h 0, blk_free h 0⟩, ⟨blk_cell h 1, blk_free h 1⟩, ⟨blk_cell h 2, blk_free h 2⟩, ⟨blk_cell h 3, blk_free h 3⟩, ⟨blk_cell h 4, blk_free h 4⟩⟩
set_option maxRecDepth 100000 in
theorem name_w (n : Int) (w : World) : Calls Tryd.prog 13 #[.int .i64 n] w fun e w' => e = .returned (St (kw n)) ∧ Below w.heap.size w w' := by
  have hf := fld55
  go_enter Tryd.func13, Tryd.ntmps13
  go_wp2_with fail
  refine (of_any n _).mono ?_
  rintro _ w1 ⟨rfl, hb1⟩
  go_wp2
  go_ret
  exact ⟨rfl, hb1⟩
set_option maxRecDepth 100000 in
theorem kind_w (l : List UInt8) (w : World) : Calls Tryd.prog 14 #[St l] w fun e w' => e = .returned (.int .i64 (kindOf l)) ∧ Below w.heap.size w w' := by
  have hf := fld55
  go_enter Tryd.func14, Tryd.ntmps14
  go_wp2
  go_loopw [3] (fun a wr => ∃ k : Nat, 1 ≤ k ∧ k ≤ 31 ∧ a = .int .i64 k ∧ Hid (kindF l (31 - k) k = kindOf l) ∧ Hid (Below w.heap.size w wr)) (fun a _ => 31 - (intOf a).toNat)
  case atStart => exact ⟨1, by omega, by omega, rfl, rfl, Below.refl _ _⟩
  case round =>
    obtain ⟨k, hk1, hk, rfl, HK, HB⟩ := hrel
    by_cases hlt : k ≤ 30
    · have HS := Lib.hid (kindF_step l k hlt)
      go_wp2_with fail
      refine (of_any k _).mono ?_
      rintro _ w1 ⟨rfl, hb1⟩
      have HB1 := Lib.hid (HB.out.trans (hb1.mono HB.out.size)); clear hb1
      by_cases hw : kw (k : Int) = l
      · have hw' : (kw (k : Int) == l) = true := by simpa using hw
        have HE := Lib.hid (show kindOf l = (k : Int) by rw [← HK.out, HS.out, if_pos hw])
        clear hw
        go_wp2
        go_ret
        exact ⟨by rw [HE.out]; rfl, HB1.out⟩
      · have hw' : (kw (k : Int) == l) = false := by simpa using hw
        have HE := Lib.hid (show kindF l (31 - (k + 1)) (k + 1) = kindOf l by rw [← HK.out, HS.out, if_neg hw])
        clear hw
        go_wp2
        go_roundw
        case rel => exact ⟨k + 1, by omega, by omega, by go_num, HE, HB1⟩
        case measure => simp [intOf]; omega
    · obtain rfl : k = 31 := by omega
      have HE := Lib.hid (show kindOf l = 0 by rw [← HK.out]; rfl)
      rw [show ((31 : Nat) : Int) = 31 from rfl]
      go_wp2
      go_ret
      exact ⟨by rw [HE.out]; rfl, HB.out⟩


/-- append to a row of one's own, as one step of a region that draws. -/
theorem step_append_own {P : Program} {ops : Array Oper} {o : Oper} {a : Act} {w : World} {K : Act → World → Prop} {Q : Exit → Act → World → Prop} {E : Prop}
    (hg : o.guard = none) (s x : Operand) (t : TypeId) (ho : o.op = .call { callee := .builtin .append, args := #[s, x], argTypes := #[t, t] })
    (base : Nat) (e : TypeId) (i : TypeInfo) (z : Value) (size bytes : Nat) (ht : P.underlying t = some (.slice e)) (hi : P.info? e = some i) (hz : i.zero = some z)
    (hsize : i.size = size) (hby : i.bytes = bytes) (hzs : z.cells.size = size) (hsz : 0 < size)
    (v : Value) (n : Nat) (xs : List Value) (hs : a.eval s = v) (hown : w.ownsRow base e size v n xs)
    (ad : Addr) (m c : Nat) (news : List Value) (hx : a.eval x = .slice (some ad) m c) (hl : news.length = m * size) (hnews : ∀ j u, news[j]? = some u → w.cell? (ad.add j) = some u) (h1 : ∀ u ∈ news, u.oneCell' = true)
    (h63 : n + m ≤ maxLen) (hbytes : (n + m) * bytes ≤ 140737488355328) (hbase : base ≤ w.heap.size)
    (hK : ∀ v' w', w'.ownsRow base e size v' (n + m) (xs ++ news) → w.grownBy w' v.ownBlock → K (a.put o.dst v') w') :
    if Region.wanted o (yielded ops a.tmps) = true then Oper.wp P o a w K Q else E := by
  have hw : Region.wanted o (yielded ops a.tmps) = true := by simp [Region.wanted, hg]
  rw [if_pos hw]
  exact wp_append_own w s x t ho base e i z size bytes ht hi hz hsize hby hzs hsz v n xs hs hown ad m c news hx hl hnews h1 h63 hbytes hbase fun v' w' h2 h3 _ => hK v' w' h2 h3

/-! ### The memory of words.Line -/
structure LJ (w : World) (e : EV) (b1 b2 nb it : Nat) (x : EV) (p : Nat) (wr : World) : Prop where
  bel : Below w.heap.size w wr
  b1w : w.heap.size ≤ b1
  nbw : w.heap.size ≤ nb
  ne : b1 ≠ nb
  rc : wr.heap[b1]? = some (evBlk e)
  kb : wr.heap[b2]? = some (.cells #[St (kw e.k), St (kf e.k)] 55 (0, 0))
  nm : wr.heap[nb]? = some (evBlk x)
  itw : w.heap.size ≤ it
  iter : wr.heap[it]? = some (.stringIter ⟨(kf e.k).toArray⟩ p)
variable {w : World} {e : EV} {b1 b2 nb it : Nat} {x : EV} {p : Nat} {A B : World}
theorem in_heap {w : World} {b : Nat} {o : Obj} (h : w.heap[b]? = some o) : b < w.heap.size := (Array.getElem?_eq_some_iff.1 h).1
theorem LJ.next (h : LJ w e b1 b2 nb it x p A) (hb : Below A.heap.size A B) : LJ w e b1 b2 nb it x p B :=
  ⟨h.bel.trans (hb.mono h.bel.size), h.b1w, h.nbw, h.ne, (hb.block _ (in_heap h.rc)).trans h.rc, (hb.block _ (in_heap h.kb)).trans h.kb, (hb.block _ (in_heap h.nm)).trans h.nm, h.itw, (hb.block _ (in_heap h.iter)).trans h.iter⟩
theorem own_not {v : Value} {n : Nat} {xs : List Value} {base : Nat} (hown : A.ownsRow base 9 1 v n xs) {b : Nat} {o : Obj} (hb : A.heap[b]? = some o) (hne : ∀ cs fz, o ≠ .cells cs 9 fz) : some b ≠ v.ownBlock := by
  rcases hown.2 with ⟨rfl, _⟩ | ⟨g, cap, cur, rfl, _, hg, _⟩
  · simp [Value.ownBlock]
  · intro e
    have : b = g := by simpa [Value.ownBlock] using e
    subst this
    rw [hg] at hb
    exact hne _ _ (Option.some.inj hb).symm
theorem LJ.grow (h : LJ w e b1 b2 nb it x p A) {v : Value} {n : Nat} {xs : List Value} (hown : A.ownsRow w.heap.size 9 1 v n xs) (hg : A.grownBy B v.ownBlock) : LJ w e b1 b2 nb it x p B :=
  ⟨h.bel.grown hg h.bel.size (own_ge hown), h.b1w, h.nbw, h.ne, (hg.block _ (in_heap h.rc) (own_not hown h.rc (by simp [evBlk]))).trans h.rc, (hg.block _ (in_heap h.kb) (own_not hown h.kb (by simp))).trans h.kb,
   (hg.block _ (in_heap h.nm) (own_not hown h.nm (by simp [evBlk]))).trans h.nm, h.itw, (hg.block _ (in_heap h.iter) (own_not hown h.iter (by simp))).trans h.iter⟩
theorem LJ.step (h : LJ w e b1 b2 nb it x p A) (q : Nat) : LJ w e b1 b2 nb it x q (A.iterAt it ⟨(kf e.k).toArray⟩ q) := by
  have hn : ∀ b o, A.heap[b]? = some o → (∀ s k, o ≠ .stringIter s k) → b ≠ it := fun b o hb ho e => by
    subst e; rw [h.iter] at hb; exact ho _ _ (Option.some.inj hb).symm
  exact ⟨Lib.below_iterAt h.bel h.itw _ _, h.b1w, h.nbw, h.ne, (Lib.iterAt_other _ _ _ _ _ (hn _ _ h.rc (by simp [evBlk]))).trans h.rc, (Lib.iterAt_other _ _ _ _ _ (hn _ _ h.kb (by simp))).trans h.kb,
    (Lib.iterAt_other _ _ _ _ _ (hn _ _ h.nm (by simp [evBlk]))).trans h.nm, h.itw, Lib.iterAt_heap _ _ _ _ _ h.iter⟩
theorem own_iterAt {v : Value} {n : Nat} {xs : List Value} {base : Nat} (hown : A.ownsRow base 9 1 v n xs) {s : ByteArray} {k : Nat} (hi : A.heap[it]? = some (.stringIter s k)) (q : Nat) : (A.iterAt it s q).ownsRow base 9 1 v n xs := by
  have hne := own_not hown hi (by simp)
  obtain ⟨h1, h2⟩ := hown
  refine ⟨h1, ?_⟩
  rcases h2 with h2 | ⟨g, cap, cur, rfl, hb, hg, r⟩
  · exact .inl h2
  · exact .inr ⟨g, cap, cur, rfl, hb, (Lib.iterAt_other _ _ _ _ _ (fun e => hne (by simp [Value.ownBlock, e]))).trans hg, r⟩
theorem own_next {v : Value} {n : Nat} {xs : List Value} {base : Nat} (hown : A.ownsRow base 9 1 v n xs) (hb : Below A.heap.size A B) : B.ownsRow base 9 1 v n xs :=
  World.ownsRow.kept (row := none) hown ⟨hb.os, hb.tape, hb.output, hb.size, fun i hi _ => hb.block i hi⟩ (by cases v.ownBlock <;> simp)
theorem LJ.set (h : LJ w e b1 b2 nb it x p A) (o : Nat) (v : Value) (y : EV) (hy : x.cells.setIfInBounds o v = y.cells) : LJ w e b1 b2 nb it y p (A.setCell ⟨nb, o, none⟩ v) := by
  have hn : ∀ b ob, A.heap[b]? = some ob → ob ≠ evBlk x → b ≠ nb := fun b ob hb ho e => by
    subst e; rw [h.nm] at hb; exact ho (Option.some.inj hb).symm
  have hk : ∀ b, b ≠ nb → (A.setCell ⟨nb, o, none⟩ v).heap[b]? = A.heap[b]? := fun b hb => Below.heap_setCell A ⟨nb, o, none⟩ v b hb
  refine ⟨h.bel.setCell (p := ⟨nb, o, none⟩) h.nbw v, h.b1w, h.nbw, h.ne, (hk _ h.ne).trans h.rc, (hk _ (hn _ _ h.kb (by simp [evBlk]))).trans h.kb, ?_, h.itw, (hk _ (hn _ _ h.iter (by simp [evBlk]))).trans h.iter⟩
  have := blk_set h.nm o v
  rw [hy] at this; exact this
theorem own_set {v : Value} {n : Nat} {xs : List Value} {base : Nat} (hown : A.ownsRow base 9 1 v n xs) {nb : Nat} {x : EV} (hx : A.heap[nb]? = some (evBlk x)) (o : Nat) (u : Value) : (A.setCell ⟨nb, o, none⟩ u).ownsRow base 9 1 v n xs := by
  have hne := own_not hown hx (by simp [evBlk])
  obtain ⟨h1, h2⟩ := hown
  refine ⟨h1, ?_⟩
  rcases h2 with h2 | ⟨g, cap, cur, rfl, hb, hg, r⟩
  · exact .inl h2
  · exact .inr ⟨g, cap, cur, rfl, hb, (Below.heap_setCell A ⟨nb, o, none⟩ u g (fun e => hne (by simp [Value.ownBlock, e]))).trans hg, r⟩

theorem join_cons (a b : List UInt8) (l : List (List UInt8)) (c : UInt8) : Lib.join (a :: b :: l) [c] = a ++ c :: Lib.join (b :: l) [c] := by simp [Lib.join, List.intercalate]
theorem join_flat (c : UInt8) : ∀ (l : List (List UInt8)) (a : List UInt8), Lib.join (a :: l) [c] = a ++ l.flatMap fun x => c :: x
  | [], a => by simp [Lib.join, List.intercalate]
  | b :: l, a => by rw [join_cons, join_flat c l b, List.flatMap_cons]; simp
theorem join_bytes (e : EV) : Lib.join (kw e.k :: (kf e.k).map (ftext e)) [32] = e.bytes := by
  rw [join_flat]; unfold EV.bytes; rw [List.flatMap_map]
theorem EV.same_of {a b : EV} (h0 : a.k = b.k) (h1 : a.c = b.c) (h2 : a.i = b.i) (h3 : (a.m : Int) = (b.m : Int)) (h4 : a.n = b.n) : a.same b = true := by
  have h3 : a.m = b.m := Int.ofNat.inj h3
  simp [EV.same, h0, h1, h2, h3, h4]
theorem cp_kind (e x : EV) (f : UInt8) : (e.cp x f).k = x.k := by unfold EV.cp; split <;> (try rfl); split <;> (try rfl); split <;> rfl
def nmOf (e : EV) (p : Nat) : EV := ((kf e.k).take p).foldl e.cp ⟨e.k, 0, 0, 0, 0⟩
def vsOf (e : EV) (p : Nat) : List Value := St (kw e.k) :: ((kf e.k).take p).map fun f => St (ftext e f)
theorem nmOf_next {e : EV} {p : Nat} (h : p < (kf e.k).length) : nmOf e (p + 1) = e.cp (nmOf e p) (kf e.k)[p] := by
  unfold nmOf; rw [List.take_succ_eq_append_getElem h, List.foldl_append]; rfl
theorem vsOf_next {e : EV} {p : Nat} (h : p < (kf e.k).length) : vsOf e (p + 1) = vsOf e p ++ [St (ftext e (kf e.k)[p])] := by
  unfold vsOf; rw [List.take_succ_eq_append_getElem h, List.map_append]; rfl
theorem nmOf_all (e : EV) : nmOf e (kf e.k).length = e.only := by unfold nmOf EV.only; rw [List.take_length]; rfl
theorem letter_at {l : List UInt8} {p : Nat} (h : p < l.length) : (⟨l.toArray⟩ : ByteArray)[p]'(by rw [bsz]; exact h) = l[p] := by
  rw [bget]; simp [List.getD_eq_getElem?_getD, h]
theorem iterPos_of {A : World} {b p : Nat} {s : ByteArray} (h : A.heap[b]? = some (.stringIter s p)) : A.iterPos b = p := by simp [World.iterPos, h]

structure LS (w : World) (e : EV) (b1 b2 nb : Nat) (v : Value) (W : World) : Prop where
  bel : Below w.heap.size w W
  b1w : w.heap.size ≤ b1
  nbw : w.heap.size ≤ nb
  ne : b1 ≠ nb
  rc : W.heap[b1]? = some (evBlk e)
  kb : W.heap[b2]? = some (.cells #[St (kw e.k), St (kf e.k)] 55 (0, 0))
  nm : W.heap[nb]? = some (evBlk ⟨e.k, 0, 0, 0, 0⟩)
  own : W.ownsRow w.heap.size 9 1 v 1 [St (kw e.k)]
theorem own_one {W : World} {base g : Nat} {v : Value} (hb : base ≤ g) (hg : W.heap[g]? = some (.cells #[v] 9 (0, 0))) : W.ownsRow base 9 1 (.slice (some ⟨g, 0, none⟩) 1 1) 1 [v] :=
  ⟨rfl, .inr ⟨g, 1, #[v], rfl, hb, hg, Nat.le_refl _, by unfold maxLen; omega, rfl, rfl⟩⟩
theorem heap_new2 (w : World) (o o2 : Obj) : ((w.alloc o).alloc o2).heap[w.heap.size]? = some o ∧ ((w.alloc o).alloc o2).heap[w.heap.size + 1]? = some o2 := by
  refine ⟨(Below.heap_alloc _ _ _ (by simp)).trans (heap_alloc_last w o), ?_⟩
  have := heap_alloc_last (w.alloc o) o2
  rwa [World.size_alloc] at this
theorem heap_old2 (w : World) (o o2 : Obj) {b : Nat} {x : Obj} (h : w.heap[b]? = some x) : ((w.alloc o).alloc o2).heap[b]? = some x :=
  (Below.heap_alloc _ _ _ (by have := in_heap h; simp; omega)).trans ((Below.heap_alloc _ _ _ (in_heap h)).trans h)
theorem start1 {w w2 : World} {e : EV} {b1 b2 : Nat} (hb : Below w.heap.size w w2) (h1 : w.heap.size ≤ b1) (rc : w2.heap[b1]? = some (evBlk e)) (kb : w2.heap[b2]? = some (.cells #[St (kw e.k), St (kf e.k)] 55 (0, 0))) :
    LS w e b1 b2 (w2.heap.size + 1) (.slice (some ⟨w2.heap.size, 0, none⟩) 1 1) ((w2.alloc (.cells #[St (kw e.k)] 9)).alloc (.cells #[.int .i64 e.k, .int .i64 0, .int .i64 0, .int .u64 0, .int .i64 0] 36)).drew where
  bel := ((hb.alloc hb.size _).alloc (by have := hb.size; simp; omega) _).drew
  b1w := h1
  nbw := by have := hb.size; omega
  ne := by have := in_heap rc; omega
  rc := heap_old2 _ _ _ rc
  kb := heap_old2 _ _ _ kb
  nm := (heap_new2 _ _ _).2
  own := own_one hb.size (heap_new2 _ _ _).1
theorem start2 {w w2 : World} {e : EV} {b1 b2 : Nat} (hb : Below w.heap.size w w2) (h1 : w.heap.size ≤ b1) (rc : w2.heap[b1]? = some (evBlk e)) (kb : w2.heap[b2]? = some (.cells #[St (kw e.k), St (kf e.k)] 55 (0, 0))) :
    LS w e b1 b2 w2.heap.size (.slice (some ⟨w2.heap.size + 1, 0, none⟩) 1 1) ((w2.alloc (.cells #[.int .i64 e.k, .int .i64 0, .int .i64 0, .int .u64 0, .int .i64 0] 36)).alloc (.cells #[St (kw e.k)] 9)).drew where
  bel := ((hb.alloc hb.size _).alloc (by have := hb.size; simp; omega) _).drew
  b1w := h1
  nbw := hb.size
  ne := by have := in_heap rc; omega
  rc := heap_old2 _ _ _ rc
  kb := heap_old2 _ _ _ kb
  nm := (heap_new2 _ _ _).1
  own := own_one (by have := hb.size; omega) (heap_new2 _ _ _).2
theorem LS.go {w : World} {e : EV} {b1 b2 nb : Nat} {v : Value} {W : World} (h : LS w e b1 b2 nb v W) :
    LJ w e b1 b2 nb W.heap.size ⟨e.k, 0, 0, 0, 0⟩ 0 (W.iter ⟨(kf e.k).toArray⟩ 0) ∧ (W.iter ⟨(kf e.k).toArray⟩ 0).ownsRow w.heap.size 9 1 v 1 [St (kw e.k)] := by
  have hb : Below W.heap.size W (W.iter ⟨(kf e.k).toArray⟩ 0) := (Below.refl _ W).alloc (Nat.le_refl _) _
  exact ⟨⟨h.bel.trans (hb.mono h.bel.size), h.b1w, h.nbw, h.ne, (hb.block _ (in_heap h.rc)).trans h.rc, (hb.block _ (in_heap h.kb)).trans h.kb, (hb.block _ (in_heap h.nm)).trans h.nm, h.bel.size, World.iter_heap W _ 0⟩, own_next h.own hb⟩

set_option maxRecDepth 100000 in
set_option maxHeartbeats 4000000 in
theorem line_w (e : EV) (he : e.Ok) (w : World) (hg : GW w) : Calls Tryd.prog 11 #[e.agg] w fun r w' => r = .returned (lineV e.line) ∧ Below w.heap.size w w' := by
  obtain ⟨i0, hi, hz0, hz1, hz2⟩ := info_parts info9
  have Hg := Lib.hid hg; clear hg
  obtain ⟨k, c, i, m, n⟩ := e
  unfold EV.agg EV.cells
  go_enter Tryd.func11, Tryd.ntmps11
  go_wp2_with fail
  refine (of_any k _).mono ?_
  rintro _ w1 ⟨rfl, hb1⟩
  have HR1 := Lib.hid (show w1.heap[w.heap.size]? = some (evBlk ⟨k, c, i, m, n⟩) from (hb1.block w.heap.size (by rw [World.size_alloc]; omega)).trans (heap_alloc_last w _))
  have HB1 := Lib.hid (((Below.refl _ w).alloc (Nat.le_refl _) (.cells #[.int .i64 k, .int .i64 c, .int .i64 i, .int .u64 m, .int .i64 n] 36)).trans (hb1.mono (by simp)))
  have hs1 : w.heap.size < w1.heap.size := by have := hb1.size; rw [World.size_alloc] at this; omega
  clear hb1
  go_wp2
  have HB2 := Lib.hid (HB1.out.alloc (by omega) (.cells #[St (kw k), St (kf k)] 55))
  have HR2 := Lib.hid ((Below.heap_alloc w1 (.cells #[St (kw k), St (kf k)] 55) w.heap.size hs1).trans HR1.out)
  have HK2 := Lib.hid (heap_alloc_last w1 (.cells #[St (kw k), St (kf k)] 55))
  have hs2 : w1.heap.size < (w1.alloc (.cells #[St (kw k), St (kf k)] 55)).heap.size := by rw [World.size_alloc]; omega
  have hs3 : w.heap.size < (w1.alloc (.cells #[St (kw k), St (kf k)] 55)).heap.size := by rw [World.size_alloc]; omega
  have hn3 : w.heap.size ≠ w1.heap.size := by omega
  obtain ⟨b2, hb2⟩ : ∃ b, w1.heap.size = b := ⟨_, rfl⟩
  generalize hw2 : w1.alloc (.cells #[St (kw k), St (kf k)] 55) = w2 at *
  clear hw2
  rw [hb2] at hs2 HK2 hn3 ⊢
  obtain ⟨⟨d0, f0⟩, ⟨d1, f1⟩, ⟨d2, f2⟩, ⟨d3, f3⟩, ⟨d4, f4⟩⟩ := ev_cells HR2.out
  have k0 : w2.cell? ⟨b2, 0, none⟩ = some (St (kw k)) := blk_cell HK2.out 0
  have k1 : w2.cell? ⟨b2, 1, none⟩ = some (St (kf k)) := blk_cell HK2.out 1
  have hn1 : w.heap.size ≠ w2.heap.size := by omega
  have hn2 : b2 ≠ w2.heap.size := by omega
  go_big_region
  all_goals clear d0 d1 d2 d3 d4 f0 f1 f2 f3 f4 k0 k1 hn1 hn2 hn3
  · have HS := Lib.hid (start1 (e := ⟨k, c, i, m, n⟩) HB2.out (Nat.le_refl _) HR2.out HK2.out)
    revert HS
    generalize hnb : w2.heap.size + 1 = nb
    generalize hsb : Value.slice (some ⟨w2.heap.size, 0, none⟩) 1 1 = sv
    generalize hW3 : ((w2.alloc (.cells #[St (kw k)] 9)).alloc (.cells #[.int .i64 k, .int .i64 0, .int .i64 0, .int .u64 0, .int .i64 0] 36)).drew = W3
    clear hnb hsb hW3
    intro HS
    have hk0 : W3.cell? ⟨b2, 0, none⟩ = some (St (kw k)) := blk_cell HS.out.kb 0
    have hk1 : W3.cell? ⟨b2, 1, none⟩ = some (St (kf k)) := blk_cell HS.out.kb 1
    obtain ⟨E, hE⟩ : ∃ E : EV, E = ⟨k, c, i, m, n⟩ := ⟨_, rfl⟩
    have HJ0 := Lib.hid HS.out.go.1
    have HO0 := Lib.hid HS.out.go.2
    rw [← hE] at HJ0
    obtain ⟨hEk, hEc, hEi, hEm, hEn⟩ : E.k = k ∧ E.c = c ∧ E.i = i ∧ E.m = m ∧ E.n = n := by subst hE; exact ⟨rfl, rfl, rfl, rfl, rfl⟩
    go_wp2
    generalize hit : W3.heap.size = it at *
    go_loopw [5, 8] (fun v _ wr => ∃ p : Nat, p ≤ (kf k).length ∧ Hid (LJ w E w.heap.size b2 nb it (nmOf E p) p wr) ∧ Hid (wr.ownsRow w.heap.size 9 1 v (p + 1) (vsOf E p))) (fun _ _ wr => (kf k).length - wr.iterPos it)
    case atStart => exact ⟨0, by omega, by subst hE; exact HJ0, by subst hE; exact HO0⟩
    case round =>
      clear HJ0 HO0 hk0 hk1 HS
      obtain ⟨p, hp, HJ, HO⟩ := hrel
      have hlen2 := (kind_facts k).2.1
      by_cases hlt : p < (kf k).length
      · have hfF := (kind_facts k).2.2.2.2 _ (List.getElem_mem hlt)
        have hcase : (kf k)[p] = 99 ∨ (kf k)[p] = 105 ∨ (kf k)[p] = 109 ∨ (kf k)[p] = 110 := by simpa [isF, or_assoc] using hfF
        have hnext : ∀ ty, (Instr.next (.pointer (some ⟨it, 0, none⟩)) true ty).run Tryd.prog wr = _ := fun ty => Lib.run_next_ascii_at wr it ⟨(kf k).toArray⟩ p ty (by have := HJ.out.iter; rwa [hEk] at this) (by rw [bsz]; exact hlt) (by rw [letter_at hlt]; rcases hcase with h | h | h | h <;> rw [h] <;> decide)
        have hpos := iterPos_of HJ.out.iter
        have HJ1 := Lib.hid (HJ.out.step (p + 1))
        have HO1 := Lib.hid (own_iterAt HO.out HJ.out.iter (p + 1))
        rw [hEk] at HJ1 HO1
        generalize wr.iterAt it ⟨(kf k).toArray⟩ (p + 1) = W1 at *
        obtain ⟨⟨e0, f0⟩, ⟨e1, f1⟩, ⟨e2, f2⟩, ⟨e3, f3⟩, ⟨e4, f4⟩⟩ := ev_cells HJ1.out.rc
        rw [hEk] at e0
        rw [hEc] at e1
        rw [hEi] at e2
        rw [hEm] at e3
        rw [hEn] at e4
        clear hfF
        rcases hcase with hf | hf | hf | hf
        · have hu : ((⟨(kf k).toArray⟩ : ByteArray)[p]'(by rw [bsz]; exact hlt)).toNat = 99 := by rw [letter_at hlt, hf]; rfl
          rw [hu] at hnext
          have HNC := Lib.hid (show nmOf E (p + 1) = { nmOf E p with c := c } by subst hE; rw [nmOf_next hlt, hf]; rfl)
          have HVC := Lib.hid (show vsOf E (p + 1) = vsOf E p ++ [St (Lib.itoa c)] by subst hE; rw [vsOf_next hlt, hf]; rfl)
          clear hu hf
          go_wp2
          go_region_law (first
            | (refine step_append_own rfl (.tmp 27) (.tmp 31) 43 rfl w.heap.size 9 i0 (.string ⟨#[]⟩) 1 16 Tryd.underlying43 hi hz0 hz1 hz2 rfl (by decide) _ (p + 1) _ rfl (HO4.out.alloc _) ⟨w4.heap.size, 0, none⟩ 1 1 [St (Lib.itoa c)] rfl rfl (cell_one_new _ _ _) (by simp [Value.oneCell']) (by unfold maxLen; omega) (by omega) (by have := HJ4.out.bel.size; simp; omega) ?_
               intro v' w5 hown5 hgrow
               have HJ5 := Lib.hid ((HJ4.out.next (Below.alloc (Below.refl _ _) (Nat.le_refl _) (.cells #[St (Lib.itoa c)] 9))).grow (HO4.out.alloc _) hgrow)
               have HO5 := Lib.hid hown5
               obtain ⟨⟨r0, q0⟩, ⟨r1, q1⟩, ⟨r2, q2⟩, ⟨r3, q3⟩, ⟨r4, q4⟩⟩ := ev_cells HJ5.out.rc
               rw [hEk] at r0; rw [hEc] at r1; rw [hEi] at r2; rw [hEm] at r3; rw [hEn] at r4
               obtain ⟨⟨n0, o0⟩, ⟨n1, o1⟩, ⟨n2, o2⟩, ⟨n3, o3⟩, ⟨n4, o4⟩⟩ := ev_cells HJ5.out.nm
               clear hown5 hgrow)
            | (go_simp; go_at_call 22
               refine (itoa_any c he.c _ (Hg.out.next HJ1.out.bel.drew)).mono ?_
               rintro _ w4 ⟨rfl, hb4⟩
               have HB4 := Lib.hid ((Below.refl W1.heap.size W1).drew.trans hb4)
               have HJ4 := Lib.hid (HJ1.out.next HB4.out)
               have HO4 := Lib.hid (own_next HO1.out HB4.out)
               obtain ⟨⟨g0, h0⟩, ⟨g1, h1⟩, ⟨g2, h2⟩, ⟨g3, h3⟩, ⟨g4, h4⟩⟩ := ev_cells HJ4.out.rc
               rw [hEk] at g0; rw [hEc] at g1; rw [hEi] at g2; rw [hEm] at g3; rw [hEn] at g4
               have hsz4 : w.heap.size < w4.heap.size := in_heap HJ4.out.rc
               clear hb4))
          all_goals
            have HF := Lib.hid (HJ5.out.set 1 (.int .i64 c) { nmOf E p with c := c } rfl)
            have HG := Lib.hid (own_set HO5.out HJ5.out.nm 1 (.int .i64 c))
            clear e0 e1 e2 e3 e4 f0 f1 f2 f3 f4 g0 g1 g2 g3 g4 h0 h1 h2 h3 h4 r0 r1 r2 r3 r4 q0 q1 q2 q3 q4 n0 n1 n2 n3 n4 o0 o1 o2 o3 o4
            go_wp2
            go_roundw
            case rel => exact ⟨p + 1, by omega, by rw [HNC.out]; exact HF, by rw [HVC.out]; exact HG⟩
            case measure => rw [hpos, iterPos_of HF.out.iter]; omega
        · have hu : ((⟨(kf k).toArray⟩ : ByteArray)[p]'(by rw [bsz]; exact hlt)).toNat = 105 := by rw [letter_at hlt, hf]; rfl
          rw [hu] at hnext
          have HNC := Lib.hid (show nmOf E (p + 1) = { nmOf E p with i := i } by subst hE; rw [nmOf_next hlt, hf]; rfl)
          have HVC := Lib.hid (show vsOf E (p + 1) = vsOf E p ++ [St (Lib.itoa i)] by subst hE; rw [vsOf_next hlt, hf]; rfl)
          clear hu hf
          go_wp2
          go_region_law (first
            | (refine step_append_own rfl (.tmp 38) (.tmp 42) 43 rfl w.heap.size 9 i0 (.string ⟨#[]⟩) 1 16 Tryd.underlying43 hi hz0 hz1 hz2 rfl (by decide) _ (p + 1) _ rfl (HO4.out.alloc _) ⟨w4.heap.size, 0, none⟩ 1 1 [St (Lib.itoa i)] rfl rfl (cell_one_new _ _ _) (by simp [Value.oneCell']) (by unfold maxLen; omega) (by omega) (by have := HJ4.out.bel.size; simp; omega) ?_
               intro v' w5 hown5 hgrow
               have HJ5 := Lib.hid ((HJ4.out.next (Below.alloc (Below.refl _ _) (Nat.le_refl _) (.cells #[St (Lib.itoa i)] 9))).grow (HO4.out.alloc _) hgrow)
               have HO5 := Lib.hid hown5
               obtain ⟨⟨r0, q0⟩, ⟨r1, q1⟩, ⟨r2, q2⟩, ⟨r3, q3⟩, ⟨r4, q4⟩⟩ := ev_cells HJ5.out.rc
               rw [hEk] at r0; rw [hEc] at r1; rw [hEi] at r2; rw [hEm] at r3; rw [hEn] at r4
               obtain ⟨⟨n0, o0⟩, ⟨n1, o1⟩, ⟨n2, o2⟩, ⟨n3, o3⟩, ⟨n4, o4⟩⟩ := ev_cells HJ5.out.nm
               clear hown5 hgrow)
            | (go_simp; go_at_call 22
               refine (itoa_any i he.i _ (Hg.out.next HJ1.out.bel.drew)).mono ?_
               rintro _ w4 ⟨rfl, hb4⟩
               have HB4 := Lib.hid ((Below.refl W1.heap.size W1).drew.trans hb4)
               have HJ4 := Lib.hid (HJ1.out.next HB4.out)
               have HO4 := Lib.hid (own_next HO1.out HB4.out)
               obtain ⟨⟨g0, h0⟩, ⟨g1, h1⟩, ⟨g2, h2⟩, ⟨g3, h3⟩, ⟨g4, h4⟩⟩ := ev_cells HJ4.out.rc
               rw [hEk] at g0; rw [hEc] at g1; rw [hEi] at g2; rw [hEm] at g3; rw [hEn] at g4
               have hsz4 : w.heap.size < w4.heap.size := in_heap HJ4.out.rc
               clear hb4))
          all_goals
            have HF := Lib.hid (HJ5.out.set 2 (.int .i64 i) { nmOf E p with i := i } rfl)
            have HG := Lib.hid (own_set HO5.out HJ5.out.nm 2 (.int .i64 i))
            clear e0 e1 e2 e3 e4 f0 f1 f2 f3 f4 g0 g1 g2 g3 g4 h0 h1 h2 h3 h4 r0 r1 r2 r3 r4 q0 q1 q2 q3 q4 n0 n1 n2 n3 n4 o0 o1 o2 o3 o4
            go_wp2
            go_roundw
            case rel => exact ⟨p + 1, by omega, by rw [HNC.out]; exact HF, by rw [HVC.out]; exact HG⟩
            case measure => rw [hpos, iterPos_of HF.out.iter]; omega
        · have hu : ((⟨(kf k).toArray⟩ : ByteArray)[p]'(by rw [bsz]; exact hlt)).toNat = 109 := by rw [letter_at hlt, hf]; rfl
          rw [hu] at hnext
          have HNC := Lib.hid (show nmOf E (p + 1) = { nmOf E p with m := m } by subst hE; rw [nmOf_next hlt, hf]; rfl)
          have HVC := Lib.hid (show vsOf E (p + 1) = vsOf E p ++ [St (maskL (bitsUp m))] by subst hE; rw [vsOf_next hlt, hf]; rfl)
          clear hu hf
          go_wp2
          go_region_law (first
            | (refine step_append_own rfl (.tmp 49) (.tmp 53) 43 rfl w.heap.size 9 i0 (.string ⟨#[]⟩) 1 16 Tryd.underlying43 hi hz0 hz1 hz2 rfl (by decide) _ (p + 1) _ rfl (HO4.out.alloc _) ⟨w4.heap.size, 0, none⟩ 1 1 [St (maskL (bitsUp m))] rfl rfl (cell_one_new _ _ _) (by simp [Value.oneCell']) (by unfold maxLen; omega) (by omega) (by have := HJ4.out.bel.size; simp; omega) ?_
               intro v' w5 hown5 hgrow
               have HJ5 := Lib.hid ((HJ4.out.next (Below.alloc (Below.refl _ _) (Nat.le_refl _) (.cells #[St (maskL (bitsUp m))] 9))).grow (HO4.out.alloc _) hgrow)
               have HO5 := Lib.hid hown5
               obtain ⟨⟨r0, q0⟩, ⟨r1, q1⟩, ⟨r2, q2⟩, ⟨r3, q3⟩, ⟨r4, q4⟩⟩ := ev_cells HJ5.out.rc
               rw [hEk] at r0; rw [hEc] at r1; rw [hEi] at r2; rw [hEm] at r3; rw [hEn] at r4
               obtain ⟨⟨n0, o0⟩, ⟨n1, o1⟩, ⟨n2, o2⟩, ⟨n3, o3⟩, ⟨n4, o4⟩⟩ := ev_cells HJ5.out.nm
               clear hown5 hgrow)
            | (go_simp; go_at_call 23
               refine (cores_any m he.m _ (Hg.out.next HJ1.out.bel.drew)).mono ?_
               rintro _ w4 ⟨rfl, hb4⟩
               have HB4 := Lib.hid ((Below.refl W1.heap.size W1).drew.trans hb4)
               have HJ4 := Lib.hid (HJ1.out.next HB4.out)
               have HO4 := Lib.hid (own_next HO1.out HB4.out)
               obtain ⟨⟨g0, h0⟩, ⟨g1, h1⟩, ⟨g2, h2⟩, ⟨g3, h3⟩, ⟨g4, h4⟩⟩ := ev_cells HJ4.out.rc
               rw [hEk] at g0; rw [hEc] at g1; rw [hEi] at g2; rw [hEm] at g3; rw [hEn] at g4
               have hsz4 : w.heap.size < w4.heap.size := in_heap HJ4.out.rc
               clear hb4))
          all_goals
            have HF := Lib.hid (HJ5.out.set 3 (.int .u64 m) { nmOf E p with m := m } rfl)
            have HG := Lib.hid (own_set HO5.out HJ5.out.nm 3 (.int .u64 m))
            clear e0 e1 e2 e3 e4 f0 f1 f2 f3 f4 g0 g1 g2 g3 g4 h0 h1 h2 h3 h4 r0 r1 r2 r3 r4 q0 q1 q2 q3 q4 n0 n1 n2 n3 n4 o0 o1 o2 o3 o4
            go_wp2
            go_roundw
            case rel => exact ⟨p + 1, by omega, by rw [HNC.out]; exact HF, by rw [HVC.out]; exact HG⟩
            case measure => rw [hpos, iterPos_of HF.out.iter]; omega
        · have hu : ((⟨(kf k).toArray⟩ : ByteArray)[p]'(by rw [bsz]; exact hlt)).toNat = 110 := by rw [letter_at hlt, hf]; rfl
          rw [hu] at hnext
          have HNC := Lib.hid (show nmOf E (p + 1) = { nmOf E p with n := n } by subst hE; rw [nmOf_next hlt, hf]; rfl)
          have HVC := Lib.hid (show vsOf E (p + 1) = vsOf E p ++ [St (Lib.itoa n)] by subst hE; rw [vsOf_next hlt, hf]; rfl)
          clear hu hf
          go_wp2
          go_region_law (first
            | (refine step_append_own rfl (.tmp 60) (.tmp 64) 43 rfl w.heap.size 9 i0 (.string ⟨#[]⟩) 1 16 Tryd.underlying43 hi hz0 hz1 hz2 rfl (by decide) _ (p + 1) _ rfl (HO4.out.alloc _) ⟨w4.heap.size, 0, none⟩ 1 1 [St (Lib.itoa n)] rfl rfl (cell_one_new _ _ _) (by simp [Value.oneCell']) (by unfold maxLen; omega) (by omega) (by have := HJ4.out.bel.size; simp; omega) ?_
               intro v' w5 hown5 hgrow
               have HJ5 := Lib.hid ((HJ4.out.next (Below.alloc (Below.refl _ _) (Nat.le_refl _) (.cells #[St (Lib.itoa n)] 9))).grow (HO4.out.alloc _) hgrow)
               have HO5 := Lib.hid hown5
               obtain ⟨⟨r0, q0⟩, ⟨r1, q1⟩, ⟨r2, q2⟩, ⟨r3, q3⟩, ⟨r4, q4⟩⟩ := ev_cells HJ5.out.rc
               rw [hEk] at r0; rw [hEc] at r1; rw [hEi] at r2; rw [hEm] at r3; rw [hEn] at r4
               obtain ⟨⟨n0, o0⟩, ⟨n1, o1⟩, ⟨n2, o2⟩, ⟨n3, o3⟩, ⟨n4, o4⟩⟩ := ev_cells HJ5.out.nm
               clear hown5 hgrow)
            | (go_simp; go_at_call 24
               refine (fmt_any n he.n _ (Hg.out.next HJ1.out.bel.drew)).mono ?_
               rintro _ w4 ⟨rfl, hb4⟩
               have HB4 := Lib.hid ((Below.refl W1.heap.size W1).drew.trans hb4)
               have HJ4 := Lib.hid (HJ1.out.next HB4.out)
               have HO4 := Lib.hid (own_next HO1.out HB4.out)
               obtain ⟨⟨g0, h0⟩, ⟨g1, h1⟩, ⟨g2, h2⟩, ⟨g3, h3⟩, ⟨g4, h4⟩⟩ := ev_cells HJ4.out.rc
               rw [hEk] at g0; rw [hEc] at g1; rw [hEi] at g2; rw [hEm] at g3; rw [hEn] at g4
               have hsz4 : w.heap.size < w4.heap.size := in_heap HJ4.out.rc
               clear hb4))
          all_goals
            have HF := Lib.hid (HJ5.out.set 4 (.int .i64 n) { nmOf E p with n := n } rfl)
            have HG := Lib.hid (own_set HO5.out HJ5.out.nm 4 (.int .i64 n))
            clear e0 e1 e2 e3 e4 f0 f1 f2 f3 f4 g0 g1 g2 g3 g4 h0 h1 h2 h3 h4 r0 r1 r2 r3 r4 q0 q1 q2 q3 q4 n0 n1 n2 n3 n4 o0 o1 o2 o3 o4
            go_wp2
            go_roundw
            case rel => exact ⟨p + 1, by omega, by rw [HNC.out]; exact HF, by rw [HVC.out]; exact HG⟩
            case measure => rw [hpos, iterPos_of HF.out.iter]; omega
      · obtain rfl : p = (kf k).length := by omega
        have hnext : ∀ ty, (Instr.next (.pointer (some ⟨it, 0, none⟩)) true ty).run Tryd.prog wr = _ := fun ty => Lib.run_next_end_at wr it ⟨(kf k).toArray⟩ (kf k).length ty (by have := HJ.out.iter; rwa [hEk] at this) (by rw [bsz]; omega)
        have HX := Lib.hid (show nmOf E (kf k).length = E.only by subst hE; exact nmOf_all _)
        have HVX := Lib.hid (show vsOf E (kf k).length = St (kw k) :: (kf k).map fun f => St (ftext E f) by subst hE; unfold vsOf; rw [List.take_length])
        rw [HX.out] at HJ
        rw [HVX.out] at HO
        obtain ⟨⟨e0, f0⟩, ⟨e1, f1⟩, ⟨e2, f2⟩, ⟨e3, f3⟩, ⟨e4, f4⟩⟩ := ev_cells HJ.out.rc
        rw [hEk] at e0; rw [hEc] at e1; rw [hEi] at e2; rw [hEm] at e3; rw [hEn] at e4
        obtain ⟨⟨n0, o0⟩, ⟨n1, o1⟩, ⟨n2, o2⟩, ⟨n3, o3⟩, ⟨n4, o4⟩⟩ := ev_cells HJ.out.nm
        have kb0 : wr.cell? ⟨b2, 0, none⟩ = some (St (kw k)) := by have := blk_cell HJ.out.kb 0; rwa [hEk] at this
        by_cases hk : kw k = []
        · have HL := Lib.hid (show E.line = none by unfold EV.line; rw [if_pos (.inl (by rw [hEk]; exact hk))])
          rw [hk] at kb0
          go_wp2
          go_ret2
          exact ⟨by rw [← hE, HL.out]; rfl, HJ.out.bel⟩
        · have hk' : (kw k).isEmpty = false := by cases h : kw k <;> simp_all
          have HK := Lib.hid hk; clear hk
          cases hs : E.only.same E with
          | false =>
            have HL := Lib.hid (show E.line = none by unfold EV.line; rw [if_pos (.inr hs)])
            have HS := Lib.hid hs
            clear hs
            go_wp2
            all_goals first
              | (go_ret2; exact ⟨by rw [← hE, HL.out]; rfl, HJ.out.bel⟩)
              | (exfalso
                 have hh := EV.same_of (a := EV.only ⟨k, c, i, m, n⟩) (b := ⟨k, c, i, m, n⟩) (by assumption) (by assumption) (by assumption) (by assumption) (by assumption)
                 subst hE
                 rw [HS.out] at hh
                 cases hh)
          | true =>
            have HL := Lib.hid (show E.line = some E.bytes by unfold EV.line; rw [if_neg (by rw [hEk, hs]; simp [HK.out])])
            rw [(EV.same_iff _ _).1 hs] at n0 n1 n2 n3 n4
            rw [hEk] at n0; rw [hEc] at n1; rw [hEi] at n2; rw [hEm] at n3; rw [hEn] at n4
            have HC := Lib.hid (own_cells HO.out (by omega))
            clear hs
            obtain ⟨g, cap, rfl, hbg, hgw, hcap, hcell⟩ := HC.out
            have HCL := Lib.hid hcell; clear hcell
            go_wp2_with fail
            have hJ := Tryd.strings_Join g 0 cap (⟨(kw k).toArray⟩ :: (kf k).map fun f => (⟨(ftext E f).toArray⟩ : ByteArray)) ⟨#[32]⟩ wr (by
              intro j x hx
              have hj : j < (kf k).length + 1 := by have := (List.getElem?_eq_some_iff.1 hx).1; simpa using this
              rw [Nat.zero_add, HCL.out j hj]
              cases j with
              | zero => simp at hx ⊢; exact hx
              | succ j =>
                simp only [List.getElem?_cons_succ, List.getElem?_map] at hx ⊢
                rw [List.getElem?_eq_getElem (by omega : j < (kf k).length)] at hx ⊢
                simp at hx ⊢; exact hx) hgw (by simp; omega) (by simpa using hcap) (by
              have e : ((⟨(kw k).toArray⟩ : ByteArray) :: (kf k).map fun f => (⟨(ftext E f).toArray⟩ : ByteArray)).map (·.data.toList) = kw k :: (kf k).map (ftext E) := by simp [Function.comp_def]
              rw [e]
              have hb := join_bytes E
              rw [hEk] at hb
              show (Lib.join _ [32]).length ≤ _
              rw [hb]
              have := line_len (e := E) (by rw [hE]; exact he)
              omega)
            have e : ((⟨(kw k).toArray⟩ : ByteArray) :: (kf k).map fun f => (⟨(ftext E f).toArray⟩ : ByteArray)).map (·.data.toList) = kw k :: (kf k).map (ftext E) := by simp [Function.comp_def]
            rw [e] at hJ
            have hb := join_bytes E
            rw [hEk] at hb
            have e3 : Lib.join (kw k :: (kf k).map (ftext E)) (⟨#[32]⟩ : ByteArray).data.toList = E.bytes := hb
            rw [e3] at hJ
            have e2 : ((⟨(kw k).toArray⟩ : ByteArray) :: (kf k).map fun f => (⟨(ftext E f).toArray⟩ : ByteArray)).length = (kf k).length + 1 := by simp
            rw [e2] at hJ
            refine hJ.mono ?_
            rintro _ w4 ⟨rfl, hb4⟩
            go_wp2
            go_ret2
            exact ⟨by rw [← hE, HL.out]; rfl, HJ.out.bel.trans (hb4.mono HJ.out.bel.size)⟩
  · have HS := Lib.hid (start2 (e := ⟨k, c, i, m, n⟩) HB2.out (Nat.le_refl _) HR2.out HK2.out)
    revert HS
    generalize hW3 : ((w2.alloc (.cells #[.int .i64 k, .int .i64 0, .int .i64 0, .int .u64 0, .int .i64 0] 36)).alloc (.cells #[St (kw k)] 9)).drew = W3
    generalize hsb : Value.slice (some ⟨w2.heap.size + 1, 0, none⟩) 1 1 = sv
    generalize hnb : w2.heap.size = nb
    clear hnb hsb hW3
    intro HS
    have hk0 : W3.cell? ⟨b2, 0, none⟩ = some (St (kw k)) := blk_cell HS.out.kb 0
    have hk1 : W3.cell? ⟨b2, 1, none⟩ = some (St (kf k)) := blk_cell HS.out.kb 1
    obtain ⟨E, hE⟩ : ∃ E : EV, E = ⟨k, c, i, m, n⟩ := ⟨_, rfl⟩
    have HJ0 := Lib.hid HS.out.go.1
    have HO0 := Lib.hid HS.out.go.2
    rw [← hE] at HJ0
    obtain ⟨hEk, hEc, hEi, hEm, hEn⟩ : E.k = k ∧ E.c = c ∧ E.i = i ∧ E.m = m ∧ E.n = n := by subst hE; exact ⟨rfl, rfl, rfl, rfl, rfl⟩
    go_wp2
    generalize hit : W3.heap.size = it at *
    go_loopw [5, 8] (fun v _ wr => ∃ p : Nat, p ≤ (kf k).length ∧ Hid (LJ w E w.heap.size b2 nb it (nmOf E p) p wr) ∧ Hid (wr.ownsRow w.heap.size 9 1 v (p + 1) (vsOf E p))) (fun _ _ wr => (kf k).length - wr.iterPos it)
    case atStart => exact ⟨0, by omega, by subst hE; exact HJ0, by subst hE; exact HO0⟩
    case round =>
      clear HJ0 HO0 hk0 hk1 HS
      obtain ⟨p, hp, HJ, HO⟩ := hrel
      have hlen2 := (kind_facts k).2.1
      by_cases hlt : p < (kf k).length
      · have hfF := (kind_facts k).2.2.2.2 _ (List.getElem_mem hlt)
        have hcase : (kf k)[p] = 99 ∨ (kf k)[p] = 105 ∨ (kf k)[p] = 109 ∨ (kf k)[p] = 110 := by simpa [isF, or_assoc] using hfF
        have hnext : ∀ ty, (Instr.next (.pointer (some ⟨it, 0, none⟩)) true ty).run Tryd.prog wr = _ := fun ty => Lib.run_next_ascii_at wr it ⟨(kf k).toArray⟩ p ty (by have := HJ.out.iter; rwa [hEk] at this) (by rw [bsz]; exact hlt) (by rw [letter_at hlt]; rcases hcase with h | h | h | h <;> rw [h] <;> decide)
        have hpos := iterPos_of HJ.out.iter
        have HJ1 := Lib.hid (HJ.out.step (p + 1))
        have HO1 := Lib.hid (own_iterAt HO.out HJ.out.iter (p + 1))
        rw [hEk] at HJ1 HO1
        generalize wr.iterAt it ⟨(kf k).toArray⟩ (p + 1) = W1 at *
        obtain ⟨⟨e0, f0⟩, ⟨e1, f1⟩, ⟨e2, f2⟩, ⟨e3, f3⟩, ⟨e4, f4⟩⟩ := ev_cells HJ1.out.rc
        rw [hEk] at e0
        rw [hEc] at e1
        rw [hEi] at e2
        rw [hEm] at e3
        rw [hEn] at e4
        clear hfF
        rcases hcase with hf | hf | hf | hf
        · have hu : ((⟨(kf k).toArray⟩ : ByteArray)[p]'(by rw [bsz]; exact hlt)).toNat = 99 := by rw [letter_at hlt, hf]; rfl
          rw [hu] at hnext
          have HNC := Lib.hid (show nmOf E (p + 1) = { nmOf E p with c := c } by subst hE; rw [nmOf_next hlt, hf]; rfl)
          have HVC := Lib.hid (show vsOf E (p + 1) = vsOf E p ++ [St (Lib.itoa c)] by subst hE; rw [vsOf_next hlt, hf]; rfl)
          clear hu hf
          go_wp2
          go_region_law (first
            | (refine step_append_own rfl (.tmp 27) (.tmp 31) 43 rfl w.heap.size 9 i0 (.string ⟨#[]⟩) 1 16 Tryd.underlying43 hi hz0 hz1 hz2 rfl (by decide) _ (p + 1) _ rfl (HO4.out.alloc _) ⟨w4.heap.size, 0, none⟩ 1 1 [St (Lib.itoa c)] rfl rfl (cell_one_new _ _ _) (by simp [Value.oneCell']) (by unfold maxLen; omega) (by omega) (by have := HJ4.out.bel.size; simp; omega) ?_
               intro v' w5 hown5 hgrow
               have HJ5 := Lib.hid ((HJ4.out.next (Below.alloc (Below.refl _ _) (Nat.le_refl _) (.cells #[St (Lib.itoa c)] 9))).grow (HO4.out.alloc _) hgrow)
               have HO5 := Lib.hid hown5
               obtain ⟨⟨r0, q0⟩, ⟨r1, q1⟩, ⟨r2, q2⟩, ⟨r3, q3⟩, ⟨r4, q4⟩⟩ := ev_cells HJ5.out.rc
               rw [hEk] at r0; rw [hEc] at r1; rw [hEi] at r2; rw [hEm] at r3; rw [hEn] at r4
               obtain ⟨⟨n0, o0⟩, ⟨n1, o1⟩, ⟨n2, o2⟩, ⟨n3, o3⟩, ⟨n4, o4⟩⟩ := ev_cells HJ5.out.nm
               clear hown5 hgrow)
            | (go_simp; go_at_call 22
               refine (itoa_any c he.c _ (Hg.out.next HJ1.out.bel.drew)).mono ?_
               rintro _ w4 ⟨rfl, hb4⟩
               have HB4 := Lib.hid ((Below.refl W1.heap.size W1).drew.trans hb4)
               have HJ4 := Lib.hid (HJ1.out.next HB4.out)
               have HO4 := Lib.hid (own_next HO1.out HB4.out)
               obtain ⟨⟨g0, h0⟩, ⟨g1, h1⟩, ⟨g2, h2⟩, ⟨g3, h3⟩, ⟨g4, h4⟩⟩ := ev_cells HJ4.out.rc
               rw [hEk] at g0; rw [hEc] at g1; rw [hEi] at g2; rw [hEm] at g3; rw [hEn] at g4
               have hsz4 : w.heap.size < w4.heap.size := in_heap HJ4.out.rc
               clear hb4))
          all_goals
            have HF := Lib.hid (HJ5.out.set 1 (.int .i64 c) { nmOf E p with c := c } rfl)
            have HG := Lib.hid (own_set HO5.out HJ5.out.nm 1 (.int .i64 c))
            clear e0 e1 e2 e3 e4 f0 f1 f2 f3 f4 g0 g1 g2 g3 g4 h0 h1 h2 h3 h4 r0 r1 r2 r3 r4 q0 q1 q2 q3 q4 n0 n1 n2 n3 n4 o0 o1 o2 o3 o4
            go_wp2
            go_roundw
            case rel => exact ⟨p + 1, by omega, by rw [HNC.out]; exact HF, by rw [HVC.out]; exact HG⟩
            case measure => rw [hpos, iterPos_of HF.out.iter]; omega
        · have hu : ((⟨(kf k).toArray⟩ : ByteArray)[p]'(by rw [bsz]; exact hlt)).toNat = 105 := by rw [letter_at hlt, hf]; rfl
          rw [hu] at hnext
          have HNC := Lib.hid (show nmOf E (p + 1) = { nmOf E p with i := i } by subst hE; rw [nmOf_next hlt, hf]; rfl)
          have HVC := Lib.hid (show vsOf E (p + 1) = vsOf E p ++ [St (Lib.itoa i)] by subst hE; rw [vsOf_next hlt, hf]; rfl)
          clear hu hf
          go_wp2
          go_region_law (first
            | (refine step_append_own rfl (.tmp 38) (.tmp 42) 43 rfl w.heap.size 9 i0 (.string ⟨#[]⟩) 1 16 Tryd.underlying43 hi hz0 hz1 hz2 rfl (by decide) _ (p + 1) _ rfl (HO4.out.alloc _) ⟨w4.heap.size, 0, none⟩ 1 1 [St (Lib.itoa i)] rfl rfl (cell_one_new _ _ _) (by simp [Value.oneCell']) (by unfold maxLen; omega) (by omega) (by have := HJ4.out.bel.size; simp; omega) ?_
               intro v' w5 hown5 hgrow
               have HJ5 := Lib.hid ((HJ4.out.next (Below.alloc (Below.refl _ _) (Nat.le_refl _) (.cells #[St (Lib.itoa i)] 9))).grow (HO4.out.alloc _) hgrow)
               have HO5 := Lib.hid hown5
               obtain ⟨⟨r0, q0⟩, ⟨r1, q1⟩, ⟨r2, q2⟩, ⟨r3, q3⟩, ⟨r4, q4⟩⟩ := ev_cells HJ5.out.rc
               rw [hEk] at r0; rw [hEc] at r1; rw [hEi] at r2; rw [hEm] at r3; rw [hEn] at r4
               obtain ⟨⟨n0, o0⟩, ⟨n1, o1⟩, ⟨n2, o2⟩, ⟨n3, o3⟩, ⟨n4, o4⟩⟩ := ev_cells HJ5.out.nm
               clear hown5 hgrow)
            | (go_simp; go_at_call 22
               refine (itoa_any i he.i _ (Hg.out.next HJ1.out.bel.drew)).mono ?_
               rintro _ w4 ⟨rfl, hb4⟩
               have HB4 := Lib.hid ((Below.refl W1.heap.size W1).drew.trans hb4)
               have HJ4 := Lib.hid (HJ1.out.next HB4.out)
               have HO4 := Lib.hid (own_next HO1.out HB4.out)
               obtain ⟨⟨g0, h0⟩, ⟨g1, h1⟩, ⟨g2, h2⟩, ⟨g3, h3⟩, ⟨g4, h4⟩⟩ := ev_cells HJ4.out.rc
               rw [hEk] at g0; rw [hEc] at g1; rw [hEi] at g2; rw [hEm] at g3; rw [hEn] at g4
               have hsz4 : w.heap.size < w4.heap.size := in_heap HJ4.out.rc
               clear hb4))
          all_goals
            have HF := Lib.hid (HJ5.out.set 2 (.int .i64 i) { nmOf E p with i := i } rfl)
            have HG := Lib.hid (own_set HO5.out HJ5.out.nm 2 (.int .i64 i))
            clear e0 e1 e2 e3 e4 f0 f1 f2 f3 f4 g0 g1 g2 g3 g4 h0 h1 h2 h3 h4 r0 r1 r2 r3 r4 q0 q1 q2 q3 q4 n0 n1 n2 n3 n4 o0 o1 o2 o3 o4
            go_wp2
            go_roundw
            case rel => exact ⟨p + 1, by omega, by rw [HNC.out]; exact HF, by rw [HVC.out]; exact HG⟩
            case measure => rw [hpos, iterPos_of HF.out.iter]; omega
        · have hu : ((⟨(kf k).toArray⟩ : ByteArray)[p]'(by rw [bsz]; exact hlt)).toNat = 109 := by rw [letter_at hlt, hf]; rfl
          rw [hu] at hnext
          have HNC := Lib.hid (show nmOf E (p + 1) = { nmOf E p with m := m } by subst hE; rw [nmOf_next hlt, hf]; rfl)
          have HVC := Lib.hid (show vsOf E (p + 1) = vsOf E p ++ [St (maskL (bitsUp m))] by subst hE; rw [vsOf_next hlt, hf]; rfl)
          clear hu hf
          go_wp2
          go_region_law (first
            | (refine step_append_own rfl (.tmp 49) (.tmp 53) 43 rfl w.heap.size 9 i0 (.string ⟨#[]⟩) 1 16 Tryd.underlying43 hi hz0 hz1 hz2 rfl (by decide) _ (p + 1) _ rfl (HO4.out.alloc _) ⟨w4.heap.size, 0, none⟩ 1 1 [St (maskL (bitsUp m))] rfl rfl (cell_one_new _ _ _) (by simp [Value.oneCell']) (by unfold maxLen; omega) (by omega) (by have := HJ4.out.bel.size; simp; omega) ?_
               intro v' w5 hown5 hgrow
               have HJ5 := Lib.hid ((HJ4.out.next (Below.alloc (Below.refl _ _) (Nat.le_refl _) (.cells #[St (maskL (bitsUp m))] 9))).grow (HO4.out.alloc _) hgrow)
               have HO5 := Lib.hid hown5
               obtain ⟨⟨r0, q0⟩, ⟨r1, q1⟩, ⟨r2, q2⟩, ⟨r3, q3⟩, ⟨r4, q4⟩⟩ := ev_cells HJ5.out.rc
               rw [hEk] at r0; rw [hEc] at r1; rw [hEi] at r2; rw [hEm] at r3; rw [hEn] at r4
               obtain ⟨⟨n0, o0⟩, ⟨n1, o1⟩, ⟨n2, o2⟩, ⟨n3, o3⟩, ⟨n4, o4⟩⟩ := ev_cells HJ5.out.nm
               clear hown5 hgrow)
            | (go_simp; go_at_call 23
               refine (cores_any m he.m _ (Hg.out.next HJ1.out.bel.drew)).mono ?_
               rintro _ w4 ⟨rfl, hb4⟩
               have HB4 := Lib.hid ((Below.refl W1.heap.size W1).drew.trans hb4)
               have HJ4 := Lib.hid (HJ1.out.next HB4.out)
               have HO4 := Lib.hid (own_next HO1.out HB4.out)
               obtain ⟨⟨g0, h0⟩, ⟨g1, h1⟩, ⟨g2, h2⟩, ⟨g3, h3⟩, ⟨g4, h4⟩⟩ := ev_cells HJ4.out.rc
               rw [hEk] at g0; rw [hEc] at g1; rw [hEi] at g2; rw [hEm] at g3; rw [hEn] at g4
               have hsz4 : w.heap.size < w4.heap.size := in_heap HJ4.out.rc
               clear hb4))
          all_goals
            have HF := Lib.hid (HJ5.out.set 3 (.int .u64 m) { nmOf E p with m := m } rfl)
            have HG := Lib.hid (own_set HO5.out HJ5.out.nm 3 (.int .u64 m))
            clear e0 e1 e2 e3 e4 f0 f1 f2 f3 f4 g0 g1 g2 g3 g4 h0 h1 h2 h3 h4 r0 r1 r2 r3 r4 q0 q1 q2 q3 q4 n0 n1 n2 n3 n4 o0 o1 o2 o3 o4
            go_wp2
            go_roundw
            case rel => exact ⟨p + 1, by omega, by rw [HNC.out]; exact HF, by rw [HVC.out]; exact HG⟩
            case measure => rw [hpos, iterPos_of HF.out.iter]; omega
        · have hu : ((⟨(kf k).toArray⟩ : ByteArray)[p]'(by rw [bsz]; exact hlt)).toNat = 110 := by rw [letter_at hlt, hf]; rfl
          rw [hu] at hnext
          have HNC := Lib.hid (show nmOf E (p + 1) = { nmOf E p with n := n } by subst hE; rw [nmOf_next hlt, hf]; rfl)
          have HVC := Lib.hid (show vsOf E (p + 1) = vsOf E p ++ [St (Lib.itoa n)] by subst hE; rw [vsOf_next hlt, hf]; rfl)
          clear hu hf
          go_wp2
          go_region_law (first
            | (refine step_append_own rfl (.tmp 60) (.tmp 64) 43 rfl w.heap.size 9 i0 (.string ⟨#[]⟩) 1 16 Tryd.underlying43 hi hz0 hz1 hz2 rfl (by decide) _ (p + 1) _ rfl (HO4.out.alloc _) ⟨w4.heap.size, 0, none⟩ 1 1 [St (Lib.itoa n)] rfl rfl (cell_one_new _ _ _) (by simp [Value.oneCell']) (by unfold maxLen; omega) (by omega) (by have := HJ4.out.bel.size; simp; omega) ?_
               intro v' w5 hown5 hgrow
               have HJ5 := Lib.hid ((HJ4.out.next (Below.alloc (Below.refl _ _) (Nat.le_refl _) (.cells #[St (Lib.itoa n)] 9))).grow (HO4.out.alloc _) hgrow)
               have HO5 := Lib.hid hown5
               obtain ⟨⟨r0, q0⟩, ⟨r1, q1⟩, ⟨r2, q2⟩, ⟨r3, q3⟩, ⟨r4, q4⟩⟩ := ev_cells HJ5.out.rc
               rw [hEk] at r0; rw [hEc] at r1; rw [hEi] at r2; rw [hEm] at r3; rw [hEn] at r4
               obtain ⟨⟨n0, o0⟩, ⟨n1, o1⟩, ⟨n2, o2⟩, ⟨n3, o3⟩, ⟨n4, o4⟩⟩ := ev_cells HJ5.out.nm
               clear hown5 hgrow)
            | (go_simp; go_at_call 24
               refine (fmt_any n he.n _ (Hg.out.next HJ1.out.bel.drew)).mono ?_
               rintro _ w4 ⟨rfl, hb4⟩
               have HB4 := Lib.hid ((Below.refl W1.heap.size W1).drew.trans hb4)
               have HJ4 := Lib.hid (HJ1.out.next HB4.out)
               have HO4 := Lib.hid (own_next HO1.out HB4.out)
               obtain ⟨⟨g0, h0⟩, ⟨g1, h1⟩, ⟨g2, h2⟩, ⟨g3, h3⟩, ⟨g4, h4⟩⟩ := ev_cells HJ4.out.rc
               rw [hEk] at g0; rw [hEc] at g1; rw [hEi] at g2; rw [hEm] at g3; rw [hEn] at g4
               have hsz4 : w.heap.size < w4.heap.size := in_heap HJ4.out.rc
               clear hb4))
          all_goals
            have HF := Lib.hid (HJ5.out.set 4 (.int .i64 n) { nmOf E p with n := n } rfl)
            have HG := Lib.hid (own_set HO5.out HJ5.out.nm 4 (.int .i64 n))
            clear e0 e1 e2 e3 e4 f0 f1 f2 f3 f4 g0 g1 g2 g3 g4 h0 h1 h2 h3 h4 r0 r1 r2 r3 r4 q0 q1 q2 q3 q4 n0 n1 n2 n3 n4 o0 o1 o2 o3 o4
            go_wp2
            go_roundw
            case rel => exact ⟨p + 1, by omega, by rw [HNC.out]; exact HF, by rw [HVC.out]; exact HG⟩
            case measure => rw [hpos, iterPos_of HF.out.iter]; omega
      · obtain rfl : p = (kf k).length := by omega
        have hnext : ∀ ty, (Instr.next (.pointer (some ⟨it, 0, none⟩)) true ty).run Tryd.prog wr = _ := fun ty => Lib.run_next_end_at wr it ⟨(kf k).toArray⟩ (kf k).length ty (by have := HJ.out.iter; rwa [hEk] at this) (by rw [bsz]; omega)
        have HX := Lib.hid (show nmOf E (kf k).length = E.only by subst hE; exact nmOf_all _)
        have HVX := Lib.hid (show vsOf E (kf k).length = St (kw k) :: (kf k).map fun f => St (ftext E f) by subst hE; unfold vsOf; rw [List.take_length])
        rw [HX.out] at HJ
        rw [HVX.out] at HO
        obtain ⟨⟨e0, f0⟩, ⟨e1, f1⟩, ⟨e2, f2⟩, ⟨e3, f3⟩, ⟨e4, f4⟩⟩ := ev_cells HJ.out.rc
        rw [hEk] at e0; rw [hEc] at e1; rw [hEi] at e2; rw [hEm] at e3; rw [hEn] at e4
        obtain ⟨⟨n0, o0⟩, ⟨n1, o1⟩, ⟨n2, o2⟩, ⟨n3, o3⟩, ⟨n4, o4⟩⟩ := ev_cells HJ.out.nm
        have kb0 : wr.cell? ⟨b2, 0, none⟩ = some (St (kw k)) := by have := blk_cell HJ.out.kb 0; rwa [hEk] at this
        by_cases hk : kw k = []
        · have HL := Lib.hid (show E.line = none by unfold EV.line; rw [if_pos (.inl (by rw [hEk]; exact hk))])
          rw [hk] at kb0
          go_wp2
          go_ret2
          exact ⟨by rw [← hE, HL.out]; rfl, HJ.out.bel⟩
        · have hk' : (kw k).isEmpty = false := by cases h : kw k <;> simp_all
          have HK := Lib.hid hk; clear hk
          cases hs : E.only.same E with
          | false =>
            have HL := Lib.hid (show E.line = none by unfold EV.line; rw [if_pos (.inr hs)])
            have HS := Lib.hid hs
            clear hs
            go_wp2
            all_goals first
              | (go_ret2; exact ⟨by rw [← hE, HL.out]; rfl, HJ.out.bel⟩)
              | (exfalso
                 have hh := EV.same_of (a := EV.only ⟨k, c, i, m, n⟩) (b := ⟨k, c, i, m, n⟩) (by assumption) (by assumption) (by assumption) (by assumption) (by assumption)
                 subst hE
                 rw [HS.out] at hh
                 cases hh)
          | true =>
            have HL := Lib.hid (show E.line = some E.bytes by unfold EV.line; rw [if_neg (by rw [hEk, hs]; simp [HK.out])])
            rw [(EV.same_iff _ _).1 hs] at n0 n1 n2 n3 n4
            rw [hEk] at n0; rw [hEc] at n1; rw [hEi] at n2; rw [hEm] at n3; rw [hEn] at n4
            have HC := Lib.hid (own_cells HO.out (by omega))
            clear hs
            obtain ⟨g, cap, rfl, hbg, hgw, hcap, hcell⟩ := HC.out
            have HCL := Lib.hid hcell; clear hcell
            go_wp2_with fail
            have hJ := Tryd.strings_Join g 0 cap (⟨(kw k).toArray⟩ :: (kf k).map fun f => (⟨(ftext E f).toArray⟩ : ByteArray)) ⟨#[32]⟩ wr (by
              intro j x hx
              have hj : j < (kf k).length + 1 := by have := (List.getElem?_eq_some_iff.1 hx).1; simpa using this
              rw [Nat.zero_add, HCL.out j hj]
              cases j with
              | zero => simp at hx ⊢; exact hx
              | succ j =>
                simp only [List.getElem?_cons_succ, List.getElem?_map] at hx ⊢
                rw [List.getElem?_eq_getElem (by omega : j < (kf k).length)] at hx ⊢
                simp at hx ⊢; exact hx) hgw (by simp; omega) (by simpa using hcap) (by
              have e : ((⟨(kw k).toArray⟩ : ByteArray) :: (kf k).map fun f => (⟨(ftext E f).toArray⟩ : ByteArray)).map (·.data.toList) = kw k :: (kf k).map (ftext E) := by simp [Function.comp_def]
              rw [e]
              have hb := join_bytes E
              rw [hEk] at hb
              show (Lib.join _ [32]).length ≤ _
              rw [hb]
              have := line_len (e := E) (by rw [hE]; exact he)
              omega)
            have e : ((⟨(kw k).toArray⟩ : ByteArray) :: (kf k).map fun f => (⟨(ftext E f).toArray⟩ : ByteArray)).map (·.data.toList) = kw k :: (kf k).map (ftext E) := by simp [Function.comp_def]
            rw [e] at hJ
            have hb := join_bytes E
            rw [hEk] at hb
            have e3 : Lib.join (kw k :: (kf k).map (ftext E)) (⟨#[32]⟩ : ByteArray).data.toList = E.bytes := hb
            rw [e3] at hJ
            have e2 : ((⟨(kw k).toArray⟩ : ByteArray) :: (kf k).map fun f => (⟨(ftext E f).toArray⟩ : ByteArray)).length = (kf k).length + 1 := by simp
            rw [e2] at hJ
            refine hJ.mono ?_
            rintro _ w4 ⟨rfl, hb4⟩
            go_wp2
            go_ret2
            exact ⟨by rw [← hE, HL.out]; rfl, HJ.out.bel.trans (hb4.mono HJ.out.bel.size)⟩

end Go.Proofs.YtcjngndgmedabaaDoor
