/-
  WordsTexts: for every slice of events the call returns true and the slice reads as before. No condition.
-/
import Derived.Test.YtcjngndgmedabaaDoorLawA
import Derived.Deep.Slices
import Derived.Deep.Fields
import Derived.ChangeSame
import Derived.Lib.SmallJoins
namespace Go.Proofs.YtcjngndgmedabaaDoor
open Go Go.ChangeShapes Go.WideShapes Go.ChangeAt Go.RowKit Go.Joins
open Go.Deep (open_slice hone_of oneCellFields)
set_option linter.unusedVariables false
set_option linter.unusedSimpArgs false

section
variable {H : Type} {enc : TypeId × Value → H} {P : Program} {w : World} {base : Nat} {spare : Nat → Bool} {held : Bool}
theorem open_slice_fields {t e : TypeId} {fs : Array Field} {fuel : Nat} {cs : List Value} {x : DataW H × List MemPlace} (ht : P.underlying t = some (.slice e)) (he : P.underlying e = some (.struct fs))
    (hone : oneCellFields P fs = true) (hC : P.cellsOf e = fs.size) (h : DataW.trod enc P w base spare held fuel t cs = some x) :
    (cs = [.slice none 0 0] ∧ x = (.nil, [])) ∨
    ∃ (a : Addr) (len cap m : Nat) (D : Nat → DataW H) (Pl : Nat → List MemPlace), cs = [.slice (some a) len cap] ∧ base ≤ a.block ∧ len ≤ cap ∧ cap ≤ maxLen ∧ m = (if spare a.block then cap else len) ∧
      x = (.slice ((List.range len).map D) ((List.range (m - len)).map fun j => D (len + j)), MemPlace.row a (m * fs.size) ++ (List.range m).flatMap Pl) ∧
      ∀ i, i < m → ∃ (ys : List (DataW H × List MemPlace)) (n : Nat), D i = .agg (ys.map (·.1)) ∧ Pl i = ys.flatMap (·.2) ∧ ys.length = fs.size ∧
        ∀ (j : Nat) (f : Field), fs[j]? = some f → ∃ (v : Value) (y : DataW H × List MemPlace), w.cell? (a.add (i * fs.size + j)) = some v ∧ ys[j]? = some y ∧ DataW.trod enc P w base spare held n f.type [v] = some y := by
  rcases open_slice ht h with h0 | ⟨a, len, cap, m, n, D, Pl, hcs, hb, hl, hm, hmm, hx, hi⟩
  · exact .inl h0
  · refine .inr ⟨a, len, cap, m, D, Pl, hcs, hb, hl, hm, hmm, by rw [hC] at hx; exact hx, fun i him => ?_⟩
    obtain ⟨cs', hc, ht'⟩ := hi i him
    rw [hC] at hc
    obtain ⟨ys, n', hn', hy, hlen, hyl, hf⟩ := DataW.trod_struct he ht'
    obtain ⟨_, hcl, hat⟩ := World.cells?_some hc
    simp only [Prod.mk.injEq] at hy
    refine ⟨ys, n', hy.1, hy.2, hyl, fun j f hj => ?_⟩
    obtain ⟨ho, hk⟩ := hone_of hone j f hj
    have hjl : j < fs.size := (Array.getElem?_eq_some_iff.1 hj).1
    have hcell := hat j hjl
    have hv : cs'[j]? = some (cs'[j]'(by omega)) := List.getElem?_eq_getElem (by omega)
    have h1 := hf j f hj
    rw [ho, hk] at h1
    have hone' : (cs'.drop j).take 1 = [cs'[j]'(by omega)] := by
      rw [List.drop_eq_getElem_cons (by omega)]
      rfl
    rw [hone'] at h1
    have hys : ys[j]? = some (ys[j]'(by omega)) := List.getElem?_eq_getElem (by omega)
    refine ⟨_, _, ?_, hys, h1.trans hys⟩
    rw [← Go.Deep.add_add, hcell, hv]
end

theorem laidOut : laidOutB Tryd.prog = true := by kernel_rfl

theorem list_of {α : Type} {P : Nat → α → Prop} : ∀ n : Nat, (∀ i, i < n → ∃ x, P i x) → ∃ l : List α, l.length = n ∧ ∀ (i : Nat) (h : i < l.length), P i l[i]
  | 0, _ => ⟨[], rfl, fun i h => by simp at h⟩
  | n + 1, h => by
    obtain ⟨l, hl, hp⟩ := list_of n (fun i hi => h i (by omega))
    obtain ⟨x, hx⟩ := h n (by omega)
    refine ⟨l ++ [x], by simp [hl], fun i hi => ?_⟩
    by_cases hin : i < l.length
    · rw [List.getElem_append_left hin]; exact hp i hin
    · have : i = l.length := by simp at hi; omega
      subst this
      rw [List.getElem_append_right (Nat.le_refl _)]
      simp only [Nat.sub_self, List.getElem_cons_zero]
      rw [hl]; exact hx

def evFields : Array Field := #[{ name := "Kind", type := 3, offset := 0, embedded := false, tag := "", pkgPath := "", byteOffset := 0 },
        { name := "Cpu", type := 3, offset := 1, embedded := false, tag := "", pkgPath := "", byteOffset := 8 },
        { name := "Id", type := 3, offset := 2, embedded := false, tag := "", pkgPath := "", byteOffset := 16 },
        { name := "Mask", type := 34, offset := 3, embedded := false, tag := "", pkgPath := "", byteOffset := 24 },
        { name := "N", type := 2, offset := 4, embedded := false, tag := "", pkgPath := "", byteOffset := 32 }]
theorem und36 : Tryd.prog.underlying 36 = some (.struct evFields) := Tryd.underlying36
theorem hone36 : oneCellFields Tryd.prog evFields = true := by kernel_rfl

set_option maxRecDepth 100000 in
/-- A slice of events that came in. -/
theorem open_evs {H : Type} {enc : TypeId × Value → H} {w : World} {base b0 : Nat} {held : Bool} {r : Reach} {v : Value} {d : DataW H} {p : List MemPlace}
    (hv : Value.okWide Tryd.prog w r b0 23 v) (h : DataW.Trod enc Tryd.prog w base (fun _ => true) held 23 v d p) (hb : ∀ x ∈ p, x.block < w.heap.size) :
    ∃ (es : List EV) (A : Option Addr) (cap : Nat), v = .slice A es.length cap ∧ EvsAt w w.heap.size A es ∧ (∀ e, e ∈ es → e.Ok) ∧ es.length ≤ maxLen := by
  obtain ⟨A, n, cap, rfl⟩ := okWide_slice Tryd.underlying23 hv
  obtain ⟨fuel, hf⟩ := h
  have hf : DataW.trod enc Tryd.prog w base (fun _ => true) held fuel 23 [.slice A n cap] = some (d, p) := hf
  rcases open_slice_fields Tryd.underlying23 und36 hone36 (by kernel_rfl) hf with ⟨h1, _⟩ | ⟨a, len, cap', m, D, Pl, h1, hba, hl, hm, hmm, hx, hi⟩
  · simp only [List.cons.injEq, Value.slice.injEq, and_true] at h1
    obtain ⟨rfl, rfl, rfl⟩ := h1
    exact ⟨[], none, 0, rfl, fun h => by simp at h, fun e he => by simp at he, by unfold maxLen; simp⟩
  · simp only [List.cons.injEq, Value.slice.injEq, and_true] at h1
    obtain ⟨rfl, rfl, rfl⟩ := h1
    rw [if_pos rfl] at hmm
    subst hmm
    simp only [Prod.mk.injEq] at hx
    obtain ⟨-, hp⟩ := hx
    have key : ∀ i, i < n → ∃ e : EV, e.Ok ∧ w.cell? (a.add (i * 5 + 0)) = some (.int .i64 e.k) ∧ w.cell? (a.add (i * 5 + 1)) = some (.int .i64 e.c) ∧ w.cell? (a.add (i * 5 + 2)) = some (.int .i64 e.i) ∧ w.cell? (a.add (i * 5 + 3)) = some (.int .u64 e.m) ∧ w.cell? (a.add (i * 5 + 4)) = some (.int .i64 e.n) := by
      intro i hin
      obtain ⟨ys, k, _, _, hlen, hfl⟩ := hi i (by omega)
      have g : ∀ (j : Nat) (kd : IntKind) (T : TypeId), Tryd.prog.underlying T = some (.int kd) → (evFields[j]?).map (·.type) = some T → ∃ z : Int, w.cell? (a.add (i * 5 + j)) = some (.int kd z) ∧ (Lit.int kd z).wf = true := by
        intro j kd T hT hj
        cases hfj : evFields[j]? with
        | none => rw [hfj] at hj; cases hj
        | some fd =>
          rw [hfj] at hj
          obtain ⟨v, y, hc, _, ht⟩ := hfl j fd hfj
          have hj : fd.type = T := Option.some.inj hj
          rw [hj] at ht
          obtain ⟨z, e0, _, wz⟩ := DataW.trod_int hT ht
          simp only [List.cons.injEq, and_true] at e0
          subst e0
          exact ⟨z, hc, wz⟩
      obtain ⟨k0, c0, w0⟩ := g 0 .i64 3 Tryd.underlying3 rfl
      obtain ⟨k1, c1, w1⟩ := g 1 .i64 3 Tryd.underlying3 rfl
      obtain ⟨k2, c2, w2⟩ := g 2 .i64 3 Tryd.underlying3 rfl
      obtain ⟨k3, c3, w3⟩ := g 3 .u64 34 Tryd.underlying34 rfl
      obtain ⟨k4, c4, w4⟩ := g 4 .i64 2 Tryd.underlying2 rfl
      have b : ∀ {a : Int}, (Lit.int .i64 a).wf = true → I64 a := fun h => bounds_i64 h
      have hu : 0 ≤ k3 ∧ k3 ≤ 18446744073709551615 := bounds_u64 w3
      obtain ⟨m3, rfl⟩ := Int.eq_ofNat_of_zero_le hu.1
      exact ⟨⟨k0, k1, k2, m3, k4⟩, ⟨b w0, b w1, b w2, by have := hu.2; show m3 < _; omega, b w4⟩, c0, c1, c2, c3, c4⟩
    obtain ⟨es, hlen, hes⟩ := list_of n key
    subst hlen
    refine ⟨es, some a, _, rfl, fun hpos => ?_, fun e he => ?_, by omega⟩
    · have hsp := World.cell?_spot (hes 0 hpos).2.1
      have hblk : a.block < w.heap.size := by
        have hc := (hes 0 hpos).2.1
        have := World.block_lt_of_cell? w _ hc
        simpa [Addr.add] using this
      obtain ⟨b, off, sp⟩ := a
      obtain rfl : sp = none := by simpa [Addr.add] using hsp
      refine ⟨b, off, rfl, hblk, fun i hi' => ?_⟩
      obtain ⟨_, c0, c1, c2, c3, c4⟩ := hes i hi'
      have ad : ∀ k, (⟨b, off, none⟩ : Addr).add k = ⟨b, off + k, none⟩ := fun k => by
        unfold Addr.add; split
        · rename_i h0; subst h0; rfl
        · rfl
      rw [ad] at c0 c1 c2 c3 c4
      exact ⟨c0, c1, c2, c3, c4⟩
    · obtain ⟨i, hi', rfl⟩ := List.mem_iff_getElem.1 he
      exact (hes i hi').1

set_option maxRecDepth 100000 in
theorem contractBoth (H : Type) (enc : TypeId × Value → H) (W : World) (base : Nat) (args : Array Value) (ds gs : List (DataW H)) (before : List MemPlace)
    (hval : ∀ (j : Nat) t v, Tryd.f4.params[j]? = some t → args[j]? = some v → Value.okWide Tryd.prog W .any base t v)
    (hW : DataW.Whole enc Tryd.prog Tryd.f4.params.toList Rows.wordsTextsSpec.vars false W args.toList ds gs before)
    (hsz : (DataW.weightsEach Tryd.prog (Tryd.f4.params.toList ++ (OpenSpec.ofChange Rows.wordsTextsSpec).bare.plain.varTypes Tryd.prog) (ds ++ gs)).all (· ≤ reachBytes) = true)
    (hL : laidMetH Tryd.prog laidV W) (hS : W.ShapedOpen Tryd.prog) :
    Calls Tryd.prog 4 args W fun e W' => ∃ v, e = .returned v ∧ Rows.wordsTextsSpec.post enc Tryd.prog Tryd.f4 false true false false W args v W' := by
  have hW' := hW
  obtain ⟨p, q, hA0, hV, rfl, hfz, hnd⟩ := hW
  have hA : DataW.TrodAll enc Tryd.prog W 0 (fun _ => true) true Tryd.f4.params.toList args.toList ds p := hA0
  rw [Tryd.params4] at hA hval
  obtain ⟨v0, vs0, d0, ds0, p0, q0, hargs, rfl, rfl, h0, r0⟩ := trodAll_cons hA
  obtain ⟨rfl, rfl, rfl⟩ := trodAll_nil r0
  obtain rfl : args = #[v0] := by cases args; simp_all
  obtain ⟨rfl, rfl⟩ := trodVars_none hV
  have hlt : ∀ x ∈ p0 ++ [], x.block < W.heap.size := fun x hx => by have := hW'.lt x; simp at this hx; exact this hx
  have h0k := h0
  obtain ⟨es, A, cap, rfl, hev, hok, hmax⟩ := open_evs (hval 0 23 v0 rfl rfl) h0 (fun x hx => hlt x (by simp [hx]))
  clear hA0
  simp only [List.append_nil] at hW'
  have key := wordsTexts_any es hok A cap W hev (gw_of_laid hL hS)
  refine key.mono fun e W' ⟨he, hg⟩ => ?_
  subst he
  exact ⟨.bool true, rfl, _, _, _, [], p0 ++ [], [], hW', trodAll_cons_mk (shut_bool Tryd.underlying4 _) trodAll_mk0, trodAll_cons_mk (Below.trod laidOut (by kernel_rfl) (of_decide_eq_true (by kernel_rfl)) h0k hg (fun x hx => hlt x (by simp [hx]))) trodAll_mk0, rfl, hg.frame _, fun h => by cases h⟩


abbrev argsBoth : Array Value := #[.slice none 0 0]
set_option maxRecDepth 100000 in
theorem readsBoth (os : Os) {H : Type} (enc : TypeId × Value → H) : ∃ places, DataW.whole enc Tryd.prog ((startW os).forCall (fun _ _ => 0) ⟨#[], argsBoth, []⟩).memory Tryd.f4.params.toList Rows.wordsTextsSpec.vars false argsBoth.toList 8 = some ([.nil], [], places) :=
  ⟨[], by kernel_rfl⟩

set_option maxRecDepth 100000 in
theorem liftedBoth (os : Os) (started : os.Started) (H : Type) (enc : TypeId × Value → H) (F : Stop.Interp) :
    ReturnsInHanded {} Tryd.checked os 4 .any ((OpenSpec.ofChange Rows.wordsTextsSpec).preRow enc Tryd.prog Tryd.f4 Rows.wordsTextsRow.domain false Rows.wordsTextsRow.laid) (((OpenSpec.ofChange Rows.wordsTextsSpec).at F).post enc Tryd.prog Tryd.f4 false true false false) := by
  obtain ⟨places, hx⟩ := readsBoth os enc
  refine returnsInHanded_of_row (C := Tryd.checked) (s := OpenSpec.ofChange Rows.wordsTextsSpec) own started (by kernel_rfl) Tryd.func4
    (witness_row_atRef (enc := enc) (C := Tryd.checked) false (startW os) argsBoth rfl (by kernel_rfl) (by kernel_rfl) (by kernel_rfl)
      (OpenSpec.preRow_of_cond 8 hx (by kernel_rfl) (fun k hk => by cases hk) (by kernel_rfl) (laidMet_start os _))) ?_
  intro W base args ds gs before hval hW _ _ hsz hL hS _
  exact contractBoth H enc W base args ds gs before hval hW hsz hL hS

theorem saidBoth : Rows.WordsTextsSaid :=
  OpenClaim.holds_of_cond 4 Tryd.f4 rfl rfl rfl rfl rfl rfl rfl ⟨rfl, rfl, rfl, rfl, rfl⟩ rfl rfl rfl rfl rfl (by kernel_rfl) Tryd.func4 (by kernel_rfl)
    (of_decide_eq_true (by kernel_rfl)) (by unfold Func.isWrapper; first | (rw [if_pos (by decide +kernel)]; kernel_rfl) | (rw [if_neg (by decide +kernel)]; exact ⟨rfl, rfl⟩))
    (fun os started H enc _ F => by rw [OpenClaim.pre_eq_preRow]; exact liftedBoth os started H enc F)

theorem plainBoth (f : FuncId) (fn : Func) (hf : Tryd.pinned.checked.prog.funcNamed "davit/davitlaw32.WordsTexts" = some f) (hfn : Tryd.pinned.checked.prog.funcs[f]? = some fn) :
    true = Tryd.pinned.checked.prog.looks [] ∧ ∀ (j : Nat) t, fn.params[j]? = some t → Tryd.pinned.checked.prog.wantsStandIn t = false := by
  obtain rfl : f = 4 := Option.some.inj ((show Tryd.prog.funcNamed "davit/davitlaw32.WordsTexts" = some 4 by kernel_rfl).symm.trans hf) |>.symm
  obtain rfl : fn = Tryd.f4 := (Option.some.inj (Tryd.func4.symm.trans hfn)).symm
  refine ⟨by kernel_rfl, fun j t ht => ?_⟩
  rw [Tryd.params4] at ht
  obtain rfl : t = 23 := by simpa using Array.mem_of_getElem? ht
  exact (show Tryd.prog.wantsStandIn 23 = false by kernel_rfl)

theorem wordsTexts_card : Rows.WordsTextsCardSaid :=
  Claim7.holds_tied_plain_at .later [] _ _ _ _ saidBoth (fun _ h => by cases h) (by kernel_rfl) (fun _ h => by cases h) wordsTexts_row_tie rfl ⟨rfl, rfl⟩ (by kernel_rfl) rfl plainBoth (by kernel_rfl)
#print axioms wordsTexts_card
end Go.Proofs.YtcjngndgmedabaaDoor
