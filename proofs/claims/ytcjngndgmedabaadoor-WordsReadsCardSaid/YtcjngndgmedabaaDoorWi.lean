/-
  words.Parse.
-/
import Derived.Test.YtcjngndgmedabaaDoorWh
import Derived.Lib.OthersKept
import Derived.Deep.WholeRow
import Derived.Defers
import Derived.Recover
import Derived.Laws.Pointers
namespace Go.Proofs.YtcjngndgmedabaaDoor
open Go Go.RowKit
set_option linter.unusedVariables false
set_option linter.unusedSimpArgs false


theorem in_heap' {w : World} {b : Nat} {o : Obj} (h : w.heap[b]? = some o) : b < w.heap.size := (Array.getElem?_eq_some_iff.1 h).1
theorem ev5 {W : World} {b : Nat} {e : EV} (k c i : Int) (m : Nat) (n : Int) (h : W.heap[b]? = some (.cells e.cells 36 (0, 0))) :
    (((((W.setCell ⟨b, 0, none⟩ (.int .i64 k)).setCell ⟨b, 1, none⟩ (.int .i64 c)).setCell ⟨b, 2, none⟩ (.int .i64 i)).setCell ⟨b, 3, none⟩ (.int .u64 m)).setCell ⟨b, 4, none⟩ (.int .i64 n)).heap[b]? = some (.cells (EV.mk k c i m n).cells 36 (0, 0)) :=
  blk_set (blk_set (blk_set (blk_set (blk_set h 0 _) 1 _) 2 _) 3 _) 4 _
theorem ev5_other (W : World) (b : Nat) (k c i : Int) (m : Nat) (n : Int) (j : Nat) (hk : j ≠ b) :
    (((((W.setCell ⟨b, 0, none⟩ (.int .i64 k)).setCell ⟨b, 1, none⟩ (.int .i64 c)).setCell ⟨b, 2, none⟩ (.int .i64 i)).setCell ⟨b, 3, none⟩ (.int .u64 m)).setCell ⟨b, 4, none⟩ (.int .i64 n)).heap[j]? = W.heap[j]? :=
  (Below.heap_setCell _ _ _ _ hk).trans ((Below.heap_setCell _ _ _ _ hk).trans ((Below.heap_setCell _ _ _ _ hk).trans ((Below.heap_setCell _ _ _ _ hk).trans (Below.heap_setCell _ _ _ _ hk))))
theorem ev5_below (W : World) (B b : Nat) (k c i : Int) (m : Nat) (n : Int) (hb : B ≤ b) :
    Below B W (((((W.setCell ⟨b, 0, none⟩ (.int .i64 k)).setCell ⟨b, 1, none⟩ (.int .i64 c)).setCell ⟨b, 2, none⟩ (.int .i64 i)).setCell ⟨b, 3, none⟩ (.int .u64 m)).setCell ⟨b, 4, none⟩ (.int .i64 n)) :=
  (((((Below.refl B W).setCell (p := ⟨b, 0, none⟩) hb _).setCell (p := ⟨b, 1, none⟩) hb _).setCell (p := ⟨b, 2, none⟩) hb _).setCell (p := ⟨b, 3, none⟩) hb _).setCell (p := ⟨b, 4, none⟩) hb _
theorem ta_never : ∀ w, (Instr.typeAssert (.iface 61 (.agg #[])) 20 61 true).run Tryd.prog w = .ok (.tuple #[.agg #[], .bool true]) w := fun _ => by kernel_rfl
theorem ta_nil : ∀ w, (Instr.typeAssert .nilIface 20 61 true).run Tryd.prog w = .ok (.tuple #[.agg #[], .bool false]) w := fun _ => by kernel_rfl
set_option maxRecDepth 10000 in
theorem catch_never (p q : Nat) (older : List PanicEntry) (w : World) (hpq : p ≠ q) (e0 : EV) (hp : w.heap[p]? = some (.cells e0.cells 36 (0, 0))) (x : Int) (hq : w.heap[q]? = some (.cells #[.int .i64 x] 24 (0, 0))) :
    CallsD Tryd.prog 26 #[.pointer (some ⟨p, 0, none⟩), .pointer (some ⟨q, 0, none⟩)] (.panicking ({ v := .iface 61 (.agg #[]), recovered := false } :: older)) w fun e u' w' =>
      e = .returned (.tuple #[]) ∧ u' = .panicking ({ v := .iface 61 (.agg #[]), recovered := true } :: older) ∧ w'.heap[p]? = some (.cells EV.zero.cells 36 (0, 0)) ∧ w'.heap[q]? = some (.cells #[.int .i64 13] 24 (0, 0)) ∧ ∀ B, B ≤ p → B ≤ q → B ≤ w.heap.size → Below B w w' := by
  refine callsD_of_wpS Tryd.func26 rfl fun c₀ cs hu => ?_
  apply wpS_seq
  apply wpS_region
  have hr9 : (Array.replicate 9 undef : Array Value) = #[undef, undef, undef, undef, undef, undef, undef, undef, undef] := rfl
  simp [wpOpsS, go_sem, recoverD, hu, Tryd.ntmps26, Exit.thenS, hr9, ta_never, ta_nil]
  have HP := Lib.hid ((Below.heap_alloc w (.cells #[] 61) p (in_heap' hp)).trans hp)
  have HQ := Lib.hid ((Below.heap_alloc w (.cells #[] 61) q (in_heap' hq)).trans hq)
  have HB := Lib.hid (show ∀ B, B ≤ w.heap.size → Below B w (w.alloc (.cells #[] 61)) from fun B hB => (Below.refl _ w).alloc hB _)
  generalize w.alloc (.cells #[] 61) = W at *
  have p0 : W.cell? ⟨p, 0, none⟩ = some (.int .i64 e0.k) := blk_cell HP.out 0
  have p1 : W.cell? ⟨p, 1, none⟩ = some (.int .i64 e0.c) := blk_cell HP.out 1
  have p2 : W.cell? ⟨p, 2, none⟩ = some (.int .i64 e0.i) := blk_cell HP.out 2
  have p3 : W.cell? ⟨p, 3, none⟩ = some (.int .u64 e0.m) := blk_cell HP.out 3
  have p4 : W.cell? ⟨p, 4, none⟩ = some (.int .i64 e0.n) := blk_cell HP.out 4
  have z0 : W.frozen? ⟨p, 0, none⟩ = false := blk_free HP.out 0
  have z1 : W.frozen? ⟨p, 1, none⟩ = false := blk_free HP.out 1
  have z2 : W.frozen? ⟨p, 2, none⟩ = false := blk_free HP.out 2
  have z3 : W.frozen? ⟨p, 3, none⟩ = false := blk_free HP.out 3
  have z4 : W.frozen? ⟨p, 4, none⟩ = false := blk_free HP.out 4
  have q0 : W.cell? ⟨q, 0, none⟩ = some (.int .i64 x) := blk_cell HQ.out 0
  have y0 : W.frozen? ⟨q, 0, none⟩ = false := blk_free HQ.out 0
  have hqp : q ≠ p := fun e => hpq e.symm
  refine wpS_of_wp ?_
  go_wp2
  simp only [bodyPostS, results, Tryd.results26]
  refine ⟨trivial, _, rfl, .tuple #[], by simp, rfl, rfl, ?_, ?_, ?_⟩
  · exact (Below.heap_setCell _ _ _ _ hpq).trans (ev5 0 0 0 0 0 HP.out)
  · exact blk_set ((ev5_other W p 0 0 0 0 0 q hqp).trans HQ.out) 0 _
  · intro B h1 h2 h3
    exact ((HB.out B h3).trans (ev5_below W B p 0 0 0 0 0 h1)).setCell (p := ⟨q, 0, none⟩) h2 _
set_option maxRecDepth 10000 in
theorem catch_idle (p q : Nat) (w : World) :
    CallsD Tryd.prog 26 #[.pointer (some ⟨p, 0, none⟩), .pointer (some ⟨q, 0, none⟩)] .returning w fun e u' w' => e = .returned (.tuple #[]) ∧ u' = .returning ∧ Below w.heap.size w w' := by
  refine callsD_of_wpS Tryd.func26 rfl fun c₀ cs hu => ?_
  apply wpS_seq
  apply wpS_region
  have hr9 : (Array.replicate 9 undef : Array Value) = #[undef, undef, undef, undef, undef, undef, undef, undef, undef] := rfl
  simp [wpOpsS, go_sem, recoverD, hu, Tryd.ntmps26, Exit.thenS, hr9, ta_never, ta_nil]
  refine wpS_of_wp ?_
  go_wp2
  simp only [bodyPostS, results, Tryd.results26]
  exact ⟨trivial, .returning, by cases c₀; simp_all, .tuple #[], by simp, rfl, rfl, (Below.refl _ w).alloc (Nat.le_refl _) _⟩

/-! ### The memory of words.Parse -/
structure LP (w : World) (l : List UInt8) (x : EV) (W : World) : Prop where
  bel : Below w.heap.size w W
  ev : W.heap[w.heap.size]? = some (.cells x.cells 36 (0, 0))
  er : W.heap[w.heap.size + 1]? = some (.cells #[.int .i64 0] 24 (0, 0))
  sp : W.heap[w.heap.size + 1 + 1]? = some (splBlk 32 l)
theorem LP.next {w : World} {l : List UInt8} {x : EV} {A B : World} (h : LP w l x A) (hb : Below A.heap.size A B) : LP w l x B :=
  ⟨h.bel.trans (hb.mono h.bel.size), (hb.block _ (in_heap' h.ev)).trans h.ev, (hb.block _ (in_heap' h.er)).trans h.er, (hb.block _ (in_heap' h.sp)).trans h.sp⟩
theorem LP.set {w : World} {l : List UInt8} {x : EV} {A : World} (h : LP w l x A) (o : Nat) (v : Value) (y : EV) (hy : x.cells.setIfInBounds o v = y.cells) : LP w l y (A.setCell ⟨w.heap.size, o, none⟩ v) := by
  have hk : ∀ b, b ≠ w.heap.size → (A.setCell ⟨w.heap.size, o, none⟩ v).heap[b]? = A.heap[b]? := fun b hb => Below.heap_setCell A ⟨w.heap.size, o, none⟩ v b hb
  refine ⟨h.bel.setCell (p := ⟨w.heap.size, o, none⟩) (Nat.le_refl _) v, ?_, (hk _ (by omega)).trans h.er, (hk _ (by omega)).trans h.sp⟩
  have := blk_set h.ev o v
  rw [hy] at this; exact this
theorem LP.start (w : World) (l : List UInt8) : LP w l EV.zero (((w.alloc (.cells #[.int .i64 0, .int .i64 0, .int .i64 0, .int .u64 0, .int .i64 0] 36)).alloc (.cells #[.int .i64 0] 24)).alloc (splBlk 32 l)) := by
  have h3 : ∀ (o : Obj), ((((w.alloc (.cells #[.int .i64 0, .int .i64 0, .int .i64 0, .int .u64 0, .int .i64 0] 36)).alloc (.cells #[.int .i64 0] 24)).alloc o).heap[w.heap.size + 1 + 1]? = some o) := fun o => by
    have := heap_alloc_last ((w.alloc (.cells #[.int .i64 0, .int .i64 0, .int .i64 0, .int .u64 0, .int .i64 0] 36)).alloc (.cells #[.int .i64 0] 24)) o
    rwa [World.size_alloc, World.size_alloc] at this
  refine ⟨(((Below.refl _ w).alloc (Nat.le_refl _) _).alloc (by simp) _).alloc (by simp; omega) _, ?_, ?_, h3 _⟩
  · exact (Below.heap_alloc _ _ _ (by simp; omega)).trans ((Below.heap_alloc _ _ _ (by simp)).trans (heap_alloc_last w _))
  · refine (Below.heap_alloc _ _ _ (by simp)).trans ?_
    have := heap_alloc_last (w.alloc (.cells #[.int .i64 0, .int .i64 0, .int .i64 0, .int .u64 0, .int .i64 0] 36)) (.cells #[.int .i64 0] 24)
    rwa [World.size_alloc] at this
theorem LP.setq {w : World} {l : List UInt8} {x : EV} {A : World} (h : LP w l x A) : LP w l x (A.setCell ⟨w.heap.size + 1, 0, none⟩ (.int .i64 0)) := by
  have hk : ∀ b, b ≠ w.heap.size + 1 → (A.setCell ⟨w.heap.size + 1, 0, none⟩ (.int .i64 0)).heap[b]? = A.heap[b]? := fun b hb => Below.heap_setCell A ⟨w.heap.size + 1, 0, none⟩ _ b hb
  exact ⟨h.bel.setCell (p := ⟨w.heap.size + 1, 0, none⟩) (by show w.heap.size ≤ w.heap.size + 1; omega) _, (hk _ (by omega)).trans h.ev, blk_set h.er 0 _, (hk _ (by omega)).trans h.sp⟩
theorem LP.same {w : World} {l : List UInt8} {x : EV} {A : World} (h : LP w l x A) : LP w l x ((((((A.setCell ⟨w.heap.size, 0, none⟩ (.int .i64 x.k)).setCell ⟨w.heap.size, 1, none⟩ (.int .i64 x.c)).setCell ⟨w.heap.size, 2, none⟩ (.int .i64 x.i)).setCell ⟨w.heap.size, 3, none⟩ (.int .u64 x.m)).setCell ⟨w.heap.size, 4, none⟩ (.int .i64 x.n)).setCell ⟨w.heap.size + 1, 0, none⟩ (.int .i64 0)) :=
  (((((h.set 0 (.int .i64 x.k) x rfl).set 1 (.int .i64 x.c) x rfl).set 2 (.int .i64 x.i) x rfl).set 3 (.int .u64 x.m) x rfl).set 4 (.int .i64 x.n) x rfl).setq
theorem setAll_step {fs : List UInt8} {ws : List (List UInt8)} {p : Nat} {x : EV} (h1 : p < fs.length) (h2 : p + 1 < ws.length) :
    setAll (fs.drop p) (ws.drop (p + 1)) x = match setF x fs[p] ws[p + 1] with | none => none | some e => setAll (fs.drop (p + 1)) (ws.drop (p + 1 + 1)) e := by
  rw [List.drop_eq_getElem_cons h1, List.drop_eq_getElem_cons h2, setAll]; cases setF x fs[p] ws[p + 1] <;> rfl
theorem LP.step {w : World} {l : List UInt8} {x : EV} {A : World} (h : LP w l x A) {it p : Nat} {s : ByteArray} (hi : A.heap[it]? = some (.stringIter s p)) (hw : w.heap.size ≤ it) (q : Nat) : LP w l x (A.iterAt it s q) := by
  have hn : ∀ b o, A.heap[b]? = some o → (∀ s k, o ≠ .stringIter s k) → b ≠ it := fun b o hb ho e => by
    subst e; rw [hi] at hb; exact ho _ _ (Option.some.inj hb).symm
  exact ⟨Lib.below_iterAt h.bel hw _ _, (Lib.iterAt_other _ _ _ _ _ (hn _ _ h.ev (by simp))).trans h.ev, (Lib.iterAt_other _ _ _ _ _ (hn _ _ h.er (by simp))).trans h.er, (Lib.iterAt_other _ _ _ _ _ (hn _ _ h.sp (by simp [splBlk]))).trans h.sp⟩
theorem res12 {w W : World} {l : List UInt8} {x : EV} {er : Int} {tm : Array Value} (h : W.heap[w.heap.size]? = some (.cells x.cells 36 (0, 0))) (hq : W.heap[w.heap.size + 1]? = some (.cells #[.int .i64 er] 24 (0, 0)))
    (h2 : tm[2]?.getD undef = .pointer (some ⟨w.heap.size, 0, none⟩)) (h3 : tm[3]?.getD undef = .pointer (some ⟨w.heap.size + 1, 0, none⟩)) :
    (results Tryd.f12 tm).run Tryd.prog W = .ok (.tuple #[x.agg, .int .i64 er]) W := by
  have p0 : W.cell? ⟨w.heap.size, 0, none⟩ = some (.int .i64 x.k) := blk_cell h 0
  have p1 : W.cell? ⟨w.heap.size, 1, none⟩ = some (.int .i64 x.c) := blk_cell h 1
  have p2 : W.cell? ⟨w.heap.size, 2, none⟩ = some (.int .i64 x.i) := blk_cell h 2
  have p3 : W.cell? ⟨w.heap.size, 3, none⟩ = some (.int .u64 x.m) := blk_cell h 3
  have p4 : W.cell? ⟨w.heap.size, 4, none⟩ = some (.int .i64 x.n) := blk_cell h 4
  have q0 : W.cell? ⟨w.heap.size + 1, 0, none⟩ = some (.int .i64 er) := blk_cell hq 0
  simp [results, Tryd.results12, go_sem, h2, h3, p0, p1, p2, p3, p4, q0, EV.agg, EV.cells]
theorem parse_panic {w W : World} {l : List UInt8} {x : EV} (h : LP w l x W) (tm : Array Value) (h2 : tm[2]?.getD undef = .pointer (some ⟨w.heap.size, 0, none⟩)) (h3 : tm[3]?.getD undef = .pointer (some ⟨w.heap.size + 1, 0, none⟩))
    (hv : parseV l = .tuple #[EV.zero.agg, .int .i64 13]) :
    bodyPostD Tryd.prog Tryd.f12 (fun e w' => e = .returned (parseV l) ∧ Below w.heap.size w w') (Exit.panic [{ v := .iface 61 (.agg #[]), recovered := false }])
      { tmps := tm, defers := [{ target := .fn (.func 26) #[.pointer (some ⟨w.heap.size, 0, none⟩), .pointer (some ⟨w.heap.size + 1, 0, none⟩)], args := #[] }] } W := by
  refine leaves_cons (f := 26) (args := #[.pointer (some ⟨w.heap.size, 0, none⟩), .pointer (some ⟨w.heap.size + 1, 0, none⟩)]) (by simp) (by simp [go_sem]) ?_
  refine (catch_never w.heap.size (w.heap.size + 1) [] W (by omega) x h.ev 0 h.er).mono ?_
  rintro e u' w2 ⟨rfl, rfl, hp, hq, hb⟩
  refine ⟨_, res12 (l := l) hp hq h2 h3, by rw [hv], h.bel.trans (hb _ (Nat.le_refl _) (by omega) h.bel.size)⟩
theorem parse_done {w W : World} {l : List UInt8} {x : EV} (h : LP w l x W) (tm : Array Value) (h2 : tm[2]?.getD undef = .pointer (some ⟨w.heap.size, 0, none⟩)) (h3 : tm[3]?.getD undef = .pointer (some ⟨w.heap.size + 1, 0, none⟩))
    (hv : parseV l = .tuple #[x.agg, .int .i64 0]) :
    bodyPostD Tryd.prog Tryd.f12 (fun e w' => e = .returned (parseV l) ∧ Below w.heap.size w w') Exit.ret
      { tmps := tm, defers := [{ target := .fn (.func 26) #[.pointer (some ⟨w.heap.size, 0, none⟩), .pointer (some ⟨w.heap.size + 1, 0, none⟩)], args := #[] }] } W := by
  refine leaves_cons (f := 26) (args := #[.pointer (some ⟨w.heap.size, 0, none⟩), .pointer (some ⟨w.heap.size + 1, 0, none⟩)]) (by simp) (by simp [go_sem]) ?_
  refine (catch_idle w.heap.size (w.heap.size + 1) W).mono ?_
  rintro e u' w2 ⟨rfl, rfl, hb⟩
  exact ⟨_, res12 (l := l) ((hb.block _ (in_heap' h.ev)).trans h.ev) ((hb.block _ (in_heap' h.er)).trans h.er) h2 h3, by rw [hv], h.bel.trans (hb.mono h.bel.size)⟩
set_option maxRecDepth 100000 in
set_option maxHeartbeats 4000000 in
theorem parse_w (l : List UInt8) (hl : l.length ≤ 16000) (w : World) (hg : GW w) : Calls Tryd.prog 12 #[St l] w fun e w' => e = .returned (parseV l) ∧ Below w.heap.size w w' := by
  have hmf : ∀ (fn : Fn) (first cap : Array Value) (w : World), (Instr.makeFunc fn first cap).run Tryd.prog w = .ok (.func fn first cap) w := fun _ _ _ _ => rfl
  have Hg := Lib.hid hg; clear hg
  by_cases h300 : 300 < l.length
  · have HV := Lib.hid (show parseV l = .tuple #[EV.zero.agg, .int .i64 15] by unfold parseV parseE; rw [if_pos h300])
    go_enter_defers Tryd.func12, Tryd.ntmps12
    go_wp2
    refine ⟨_, res12 (l := l) (x := EV.zero) (er := 15) ((Below.heap_alloc _ _ _ (by simp)).trans (heap_alloc_last w _)) (by
      have := heap_alloc_last (w.alloc (.cells EV.zero.cells 36)) (.cells #[.int .i64 15] 24)
      rw [World.size_alloc] at this
      exact this) rfl rfl, by rw [HV.out], ((Below.refl _ w).alloc (Nat.le_refl _) _).alloc (by simp) _⟩
  · have hl3 : l.length ≤ 300 := by omega
    go_enter_defers Tryd.func12, Tryd.ntmps12
    go_wp2_with fail
    refine (split_any 32 l hl _ (Hg.out.next (((Below.refl w.heap.size w).alloc (Nat.le_refl _) _).alloc (by simp) _))).mono ?_
    rintro _ w1 ⟨rfl, rfl⟩
    have HP := Lib.hid (LP.start w l)
    simp only [World.size_alloc]
    generalize (((w.alloc (.cells #[.int .i64 0, .int .i64 0, .int .i64 0, .int .u64 0, .int .i64 0] 36)).alloc (.cells #[.int .i64 0] 24)).alloc (splBlk 32 l)) = W1 at *
    have hpos : 0 < (spl 32 l).length := by cases h : spl 32 l with
      | nil => exact absurd h (spl_ne _ _)
      | cons x xs => simp
    have s0 := spl_cell HP.out.sp hpos
    have HH := Lib.hid (show (spl 32 l).headD [] = (spl 32 l)[0] by rw [List.headD_eq_head?_getD, List.head?_eq_getElem?, List.getElem?_eq_getElem hpos]; rfl)
    go_wp2_with fail
    refine (kind_w _ _).mono ?_
    rintro _ w2 ⟨rfl, hb2⟩
    have HP2 := Lib.hid (HP.out.next hb2)
    rw [← HH.out]
    have HK := Lib.hid (rfl : kindOf ((spl 32 l).headD []) = kindOf ((spl 32 l).headD []))
    generalize hK : kindOf ((spl 32 l).headD []) = K at HK ⊢
    have HKe := Lib.hid hK
    clear hK HK hb2 s0 HP
    have x0 : w2.cell? ⟨w.heap.size, 0, none⟩ = some (.int .i64 0) := blk_cell HP2.out.ev 0
    have y0 : w2.frozen? ⟨w.heap.size, 0, none⟩ = false := blk_free HP2.out.ev 0
    have HS2 := Lib.hid (HP2.out.set 0 (.int .i64 K) ⟨K, 0, 0, 0, 0⟩ rfl)
    clear HP2
    go_wp2_with fail
    generalize w2.setCell ⟨w.heap.size, 0, none⟩ (.int .i64 K) = w3 at *
    clear x0 y0
    refine (of_any K _).mono ?_
    rintro _ w4 ⟨rfl, hb4⟩
    have HP3 := Lib.hid (HS2.out.next hb4)
    have hw4 : w.heap.size < w4.heap.size := in_heap' HP3.out.ev
    have x0 : w4.cell? ⟨w.heap.size, 0, none⟩ = some (.int .i64 K) := blk_cell HP3.out.ev 0
    have HP4 := Lib.hid (HP3.out.next (Below.alloc (Below.refl _ _) (Nat.le_refl _) (.cells #[St (kw K), St (kf K)] 55)))
    have HK4 := Lib.hid (heap_alloc_last w4 (.cells #[St (kw K), St (kf K)] 55))
    clear hb4
    have HPA := Lib.hid (show parse l = if K = 0 ∨ (spl 32 l).length ≠ (kf K).length + 1 then none else setAll (kf K) (spl 32 l).tail ⟨K, 0, 0, 0, 0⟩ by
      rw [← HKe.out]; rfl)
    have hK0 : 0 ≤ K ∧ K ≤ 30 := by rw [← HKe.out]; exact kindOf_le _
    have hlenS := spl_len_le 32 l
    have hlen2 := (kind_facts K).2.1
    by_cases hK1 : 0 < K
    · by_cases hL : (spl 32 l).length = (kf K).length + 1
      · have HPA2 := Lib.hid (show parse l = setAll (kf K) (spl 32 l).tail ⟨K, 0, 0, 0, 0⟩ by rw [HPA.out, if_neg (by omega)])
        clear HPA
        have HPA := HPA2
        have hLt : (((spl 32 l).length : Int) == ((kf K).length : Int) + 1) = true := by rw [beq_iff_eq]; omega
        go_wp2_with fail
        refine (must_true _).mono ?_
        rintro _ w5 ⟨rfl, rfl⟩
        go_wp2
        obtain ⟨it, hit⟩ : ∃ b, b = w4.heap.size + 1 := ⟨_, rfl⟩
        have HP5 := Lib.hid (HP4.out.next (Below.alloc (Below.refl _ _) (Nat.le_refl _) (.stringIter ⟨(kf K).toArray⟩ 0)))
        have HI5 := Lib.hid (heap_alloc_last (w4.alloc (.cells #[St (kw K), St (kf K)] 55)) (.stringIter ⟨(kf K).toArray⟩ 0))
        rw [World.size_alloc, ← hit] at HI5
        rw [← hit]
        have hitw : w.heap.size + 1 + 1 < it := by have := in_heap' HP3.out.sp; omega
        clear hit
        go_loopw [6, 7, 8] (fun _ _ _ wr => ∃ (p : Nat) (e : EV), p ≤ (kf K).length ∧ Hid (setAll ((kf K).drop p) ((spl 32 l).drop (p + 1)) e = setAll (kf K) (spl 32 l).tail ⟨K, 0, 0, 0, 0⟩) ∧ Hid (LP w l e wr) ∧ Hid (wr.heap[it]? = some (.stringIter ⟨(kf K).toArray⟩ p))) (fun _ _ _ wr => (kf K).length - wr.iterPos it)
        case atStart => exact ⟨0, _, by omega, by show setAll _ _ _ = _; rw [List.drop_zero, List.drop_one], HP5, HI5⟩
        case round =>
          clear HP5 HI5 HP4 HK4 HP3 x0
          obtain ⟨p, e, hp, HA, HP5, HI5⟩ := hrel
          have hpos2 := iterPos_of HI5.out
          by_cases hlt : p < (kf K).length
          · have hfF := (kind_facts K).2.2.2.2 _ (List.getElem_mem hlt)
            have hcase : (kf K)[p] = 99 ∨ (kf K)[p] = 105 ∨ (kf K)[p] = 109 ∨ (kf K)[p] = 110 := by simpa [isF, or_assoc] using hfF
            have hnext : ∀ ty, (Instr.next (.pointer (some ⟨it, 0, none⟩)) true ty).run Tryd.prog wr = _ := fun ty => Lib.run_next_ascii_at wr it ⟨(kf K).toArray⟩ p ty HI5.out (by rw [bsz]; exact hlt) (by rw [letter_at hlt]; rcases hcase with h | h | h | h <;> rw [h] <;> decide)
            have hp1 : p + 1 < (spl 32 l).length := by omega
            have HST := Lib.hid (setAll_step (x := e) hlt hp1)
            have HP1 := Lib.hid (HP5.out.step HI5.out (by omega) (p + 1))
            have HI1 := Lib.hid (Lib.iterAt_heap wr it ⟨(kf K).toArray⟩ p (p + 1) HI5.out)
            generalize wr.iterAt it ⟨(kf K).toArray⟩ (p + 1) = W1 at *
            have s1 := spl_cell HP1.out.sp hp1
            have hx4 : (spl 32 l)[p + 1].length ≤ 4000 := by have := spl_part_le 32 l _ (List.getElem_mem hp1); omega
            generalize (spl 32 l)[p + 1] = x at *
            clear hfF
            rcases hcase with hf | hf | hf | hf
            · have hu : ((⟨(kf K).toArray⟩ : ByteArray)[p]'(by rw [bsz]; exact hlt)).toNat = 99 := by rw [letter_at hlt, hf]; rfl
              rw [hu] at hnext
              rw [hf] at HST
              clear hu hf
              go_wp2_with fail
              refine (number_w x hx4 _ (Hg.out.next HP1.out.bel)).mono ?_
              rintro _ w6 ⟨⟨n, hn, hN, rfl⟩ | ⟨hN, rfl⟩, hb6⟩
              · have HN := Lib.hid hN
                have HP6 := Lib.hid (HP1.out.next hb6)
                have HI6 := Lib.hid ((hb6.block _ (in_heap' HI1.out)).trans HI1.out)
                have v0 : w6.cell? ⟨w.heap.size, 1, none⟩ = some (.int .i64 e.c) := blk_cell HP6.out.ev 1
                have f0 : w6.frozen? ⟨w.heap.size, 1, none⟩ = false := blk_free HP6.out.ev 1
                clear hN hb6
                go_wp2
                go_roundw
                case rel =>
                  refine ⟨p + 1, { e with c := n }, by omega, ?_, HP6.out.set 1 (.int .i64 n) { e with c := n } rfl, (Below.heap_setCell _ _ _ _ (by show it ≠ w.heap.size; omega)).trans HI6.out⟩
                  show setAll _ _ _ = _
                  rw [← HA.out, HST.out]
                  have hs : setF e 99 x = some { e with c := n } := by show Option.map _ (numOf x) = _; rw [HN.out]; rfl
                  rw [hs]
                case measure =>
                  rw [hpos2, iterPos_of ((Below.heap_setCell _ ⟨w.heap.size, 1, none⟩ _ _ (by show it ≠ w.heap.size; omega)).trans HI6.out)]; omega
              · have hs : setF e 99 x = none := by show Option.map _ (numOf x) = _; rw [hN]; rfl
                have HV := Lib.hid (show parseV l = .tuple #[EV.zero.agg, .int .i64 13] by unfold parseV parseE; rw [if_neg h300, HPA.out, ← HA.out, HST.out, hs])
                go_wp2
                exact parse_panic (HP1.out.next hb6) _ rfl rfl HV.out
            · have hu : ((⟨(kf K).toArray⟩ : ByteArray)[p]'(by rw [bsz]; exact hlt)).toNat = 105 := by rw [letter_at hlt, hf]; rfl
              rw [hu] at hnext
              rw [hf] at HST
              clear hu hf
              go_wp2_with fail
              refine (number_w x hx4 _ (Hg.out.next HP1.out.bel)).mono ?_
              rintro _ w6 ⟨⟨n, hn, hN, rfl⟩ | ⟨hN, rfl⟩, hb6⟩
              · have HN := Lib.hid hN
                have HP6 := Lib.hid (HP1.out.next hb6)
                have HI6 := Lib.hid ((hb6.block _ (in_heap' HI1.out)).trans HI1.out)
                have v0 : w6.cell? ⟨w.heap.size, 2, none⟩ = some (.int .i64 e.i) := blk_cell HP6.out.ev 2
                have f0 : w6.frozen? ⟨w.heap.size, 2, none⟩ = false := blk_free HP6.out.ev 2
                clear hN hb6
                go_wp2
                go_roundw
                case rel =>
                  refine ⟨p + 1, { e with i := n }, by omega, ?_, HP6.out.set 2 (.int .i64 n) { e with i := n } rfl, (Below.heap_setCell _ _ _ _ (by show it ≠ w.heap.size; omega)).trans HI6.out⟩
                  show setAll _ _ _ = _
                  rw [← HA.out, HST.out]
                  have hs : setF e 105 x = some { e with i := n } := by show Option.map _ (numOf x) = _; rw [HN.out]; rfl
                  rw [hs]
                case measure =>
                  rw [hpos2, iterPos_of ((Below.heap_setCell _ ⟨w.heap.size, 2, none⟩ _ _ (by show it ≠ w.heap.size; omega)).trans HI6.out)]; omega
              · have hs : setF e 105 x = none := by show Option.map _ (numOf x) = _; rw [hN]; rfl
                have HV := Lib.hid (show parseV l = .tuple #[EV.zero.agg, .int .i64 13] by unfold parseV parseE; rw [if_neg h300, HPA.out, ← HA.out, HST.out, hs])
                go_wp2
                exact parse_panic (HP1.out.next hb6) _ rfl rfl HV.out
            · have hu : ((⟨(kf K).toArray⟩ : ByteArray)[p]'(by rw [bsz]; exact hlt)).toNat = 109 := by rw [letter_at hlt, hf]; rfl
              rw [hu] at hnext
              rw [hf] at HST
              clear hu hf
              go_wp2_with fail
              refine (masked_any x hx4 _ (Hg.out.next HP1.out.bel)).mono ?_
              rintro _ w6 ⟨⟨n, hN, rfl⟩ | ⟨hN, rfl⟩, hb6⟩
              · have HN := Lib.hid hN
                have HP6 := Lib.hid (HP1.out.next hb6)
                have HI6 := Lib.hid ((hb6.block _ (in_heap' HI1.out)).trans HI1.out)
                have v0 : w6.cell? ⟨w.heap.size, 3, none⟩ = some (.int .u64 e.m) := blk_cell HP6.out.ev 3
                have f0 : w6.frozen? ⟨w.heap.size, 3, none⟩ = false := blk_free HP6.out.ev 3
                clear hN hb6
                go_wp2
                go_roundw
                case rel =>
                  refine ⟨p + 1, { e with m := n }, by omega, ?_, HP6.out.set 3 (.int .u64 n) { e with m := n } rfl, (Below.heap_setCell _ _ _ _ (by show it ≠ w.heap.size; omega)).trans HI6.out⟩
                  show setAll _ _ _ = _
                  rw [← HA.out, HST.out]
                  have hs : setF e 109 x = some { e with m := n } := by show Option.map _ (maskOf x) = _; rw [HN.out]; rfl
                  rw [hs]
                case measure =>
                  rw [hpos2, iterPos_of ((Below.heap_setCell _ ⟨w.heap.size, 3, none⟩ _ _ (by show it ≠ w.heap.size; omega)).trans HI6.out)]; omega
              · have hs : setF e 109 x = none := by show Option.map _ (maskOf x) = _; rw [hN]; rfl
                have HV := Lib.hid (show parseV l = .tuple #[EV.zero.agg, .int .i64 13] by unfold parseV parseE; rw [if_neg h300, HPA.out, ← HA.out, HST.out, hs])
                go_wp2
                exact parse_panic (HP1.out.next hb6) _ rfl rfl HV.out
            · have hu : ((⟨(kf K).toArray⟩ : ByteArray)[p]'(by rw [bsz]; exact hlt)).toNat = 110 := by rw [letter_at hlt, hf]; rfl
              rw [hu] at hnext
              rw [hf] at HST
              clear hu hf
              go_wp2_with fail
              refine (number_w x hx4 _ (Hg.out.next HP1.out.bel)).mono ?_
              rintro _ w6 ⟨⟨n, hn, hN, rfl⟩ | ⟨hN, rfl⟩, hb6⟩
              · have HN := Lib.hid hN
                have HP6 := Lib.hid (HP1.out.next hb6)
                have HI6 := Lib.hid ((hb6.block _ (in_heap' HI1.out)).trans HI1.out)
                have v0 : w6.cell? ⟨w.heap.size, 4, none⟩ = some (.int .i64 e.n) := blk_cell HP6.out.ev 4
                have f0 : w6.frozen? ⟨w.heap.size, 4, none⟩ = false := blk_free HP6.out.ev 4
                clear hN hb6
                go_wp2
                go_roundw
                case rel =>
                  refine ⟨p + 1, { e with n := n }, by omega, ?_, HP6.out.set 4 (.int .i64 n) { e with n := n } rfl, (Below.heap_setCell _ _ _ _ (by show it ≠ w.heap.size; omega)).trans HI6.out⟩
                  show setAll _ _ _ = _
                  rw [← HA.out, HST.out]
                  have hs : setF e 110 x = some { e with n := n } := by show Option.map _ (numOf x) = _; rw [HN.out]; rfl
                  rw [hs]
                case measure =>
                  rw [hpos2, iterPos_of ((Below.heap_setCell _ ⟨w.heap.size, 4, none⟩ _ _ (by show it ≠ w.heap.size; omega)).trans HI6.out)]; omega
              · have hs : setF e 110 x = none := by show Option.map _ (numOf x) = _; rw [hN]; rfl
                have HV := Lib.hid (show parseV l = .tuple #[EV.zero.agg, .int .i64 13] by unfold parseV parseE; rw [if_neg h300, HPA.out, ← HA.out, HST.out, hs])
                go_wp2
                exact parse_panic (HP1.out.next hb6) _ rfl rfl HV.out

          · obtain rfl : p = (kf K).length := by omega
            have hnext : ∀ ty, (Instr.next (.pointer (some ⟨it, 0, none⟩)) true ty).run Tryd.prog wr = _ := fun ty => Lib.run_next_end_at wr it ⟨(kf K).toArray⟩ (kf K).length ty HI5.out (by rw [bsz]; omega)
            have HV := Lib.hid (show parseV l = .tuple #[e.agg, .int .i64 0] by unfold parseV parseE; rw [if_neg h300, HPA.out, ← HA.out, List.drop_length]; rfl)
            have p0 : wr.cell? ⟨w.heap.size, 0, none⟩ = some (.int .i64 e.k) := blk_cell HP5.out.ev 0
            have p1 : wr.cell? ⟨w.heap.size, 1, none⟩ = some (.int .i64 e.c) := blk_cell HP5.out.ev 1
            have p2 : wr.cell? ⟨w.heap.size, 2, none⟩ = some (.int .i64 e.i) := blk_cell HP5.out.ev 2
            have p3 : wr.cell? ⟨w.heap.size, 3, none⟩ = some (.int .u64 e.m) := blk_cell HP5.out.ev 3
            have p4 : wr.cell? ⟨w.heap.size, 4, none⟩ = some (.int .i64 e.n) := blk_cell HP5.out.ev 4
            have z0 : wr.frozen? ⟨w.heap.size, 0, none⟩ = false := blk_free HP5.out.ev 0
            have z1 : wr.frozen? ⟨w.heap.size, 1, none⟩ = false := blk_free HP5.out.ev 1
            have z2 : wr.frozen? ⟨w.heap.size, 2, none⟩ = false := blk_free HP5.out.ev 2
            have z3 : wr.frozen? ⟨w.heap.size, 3, none⟩ = false := blk_free HP5.out.ev 3
            have z4 : wr.frozen? ⟨w.heap.size, 4, none⟩ = false := blk_free HP5.out.ev 4
            have q0 : wr.cell? ⟨w.heap.size + 1, 0, none⟩ = some (.int .i64 0) := blk_cell HP5.out.er 0
            have y0 : wr.frozen? ⟨w.heap.size + 1, 0, none⟩ = false := blk_free HP5.out.er 0
            go_wp2
            exact parse_done HP5.out.same _ rfl rfl HV.out
      · have HV := Lib.hid (show parseV l = .tuple #[EV.zero.agg, .int .i64 13] by unfold parseV parseE; rw [if_neg h300, HPA.out, if_pos (.inr hL)])
        have hLf : (((spl 32 l).length : Int) == ((kf K).length : Int) + 1) = false := by rw [beq_eq_false_iff_ne]; omega
        clear hL
        go_wp2_with fail
        refine (must_false _).mono ?_
        rintro _ w5 ⟨rfl, rfl⟩
        go_wp2
        exact parse_panic HP4.out _ rfl rfl HV.out
    · have HV := Lib.hid (show parseV l = .tuple #[EV.zero.agg, .int .i64 13] by unfold parseV parseE; rw [if_neg h300, HPA.out, if_pos (.inl (by omega))])
      go_wp2_with fail
      refine (must_false _).mono ?_
      rintro _ w5 ⟨rfl, rfl⟩
      go_wp2
      exact parse_panic HP4.out _ rfl rfl HV.out

end Go.Proofs.YtcjngndgmedabaaDoor
