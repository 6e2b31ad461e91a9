/-
  ShowBoth: for every record and every line the call returns true and both read as before. No condition.
-/
import Derived.Test.YtlnemkdoknkhaaaDoorLawA
import Derived.Lib.SmallJoins
namespace Go.Proofs.YtlnemkdoknkhaaaDoor
open Go Go.ChangeShapes Go.WideShapes Go.ChangeAt Go.RowKit Go.Joins
open Go.ChangeMaps (open_string shut_string)
set_option linter.unusedVariables false
set_option linter.unusedSimpArgs false

theorem laidOut : laidOutB Tryd.prog = true := by kernel_rfl
theorem cells25 : Tryd.prog.cellsOf 25 = 5 := by kernel_rfl

set_option maxRecDepth 100000 in
/-- A record that came in: five whole numbers. -/
theorem open_rec {H : Type} {enc : TypeId × Value → H} {w : World} {base b0 : Nat} {spare : Nat → Bool} {held : Bool} {r : Reach} {v : Value} {d : DataW H} {p : List MemPlace}
    (hv : Value.okWide Tryd.prog w r b0 25 v) (h : DataW.Trod enc Tryd.prog w base spare held 25 v d p) :
    ∃ k c i n e : Int, v = .agg #[.int .i64 k, .int .i64 c, .int .i64 i, .int .i64 n, .int .i64 e] ∧ I64 c ∧ I64 i ∧ I64 n ∧ I64 e := by
  obtain ⟨cs, rfl, hsz⟩ := okWide_struct Tryd.underlying25 hv
  obtain ⟨fuel, hf⟩ := h
  obtain ⟨xs, m, _, hx, _, hlen, hg⟩ := DataW.trod_struct Tryd.underlying25 hf
  clear hx
  rw [cells25] at hsz
  obtain ⟨l⟩ := cs
  have k3 : Tryd.prog.cellsOf 3 = 1 := by kernel_rfl
  have k2 : Tryd.prog.cellsOf 2 = 1 := by kernel_rfl
  have k23 : Tryd.prog.cellsOf 23 = 1 := by kernel_rfl
  match l, hsz with
  | [c0, c1, c2, c3, c4], _ =>
    match xs, hlen with
    | [y0, y1, y2, y3, y4], _ =>
      have h0 : DataW.trod enc Tryd.prog w base spare held m 3 (List.take (Tryd.prog.cellsOf 3) [c0, c1, c2, c3, c4]) = some y0 := hg 0 _ rfl
      rw [k3] at h0
      have h1 : DataW.trod enc Tryd.prog w base spare held m 3 (List.take (Tryd.prog.cellsOf 3) [c1, c2, c3, c4]) = some y1 := hg 1 _ rfl
      rw [k3] at h1
      have h2 : DataW.trod enc Tryd.prog w base spare held m 3 (List.take (Tryd.prog.cellsOf 3) [c2, c3, c4]) = some y2 := hg 2 _ rfl
      rw [k3] at h2
      have h3 : DataW.trod enc Tryd.prog w base spare held m 2 (List.take (Tryd.prog.cellsOf 2) [c3, c4]) = some y3 := hg 3 _ rfl
      rw [k2] at h3
      have h4 : DataW.trod enc Tryd.prog w base spare held m 23 (List.take (Tryd.prog.cellsOf 23) [c4]) = some y4 := hg 4 _ rfl
      rw [k23] at h4
      obtain ⟨a0, e0, _, w0⟩ := DataW.trod_int Tryd.underlying3 h0
      obtain ⟨a1, e1, _, w1⟩ := DataW.trod_int Tryd.underlying3 h1
      obtain ⟨a2, e2, _, w2⟩ := DataW.trod_int Tryd.underlying3 h2
      obtain ⟨a3, e3, _, w3⟩ := DataW.trod_int Tryd.underlying2 h3
      obtain ⟨a4, e4, _, w4⟩ := DataW.trod_int Tryd.underlying23 h4
      simp only [List.take_succ_cons, List.take_zero, List.cons.injEq, and_true] at e0 e1 e2 e3 e4
      subst e0 e1 e2 e3 e4
      have b : ∀ {a : Int}, (Lit.int .i64 a).wf = true → I64 a := fun h => bounds_i64 h
      exact ⟨a0, a1, a2, a3, a4, rfl, b w1, b w2, b w3, b w4⟩
set_option maxRecDepth 100000 in
theorem contractBoth (H : Type) (enc : TypeId × Value → H) (W : World) (base : Nat) (args : Array Value) (ds gs : List (DataW H)) (before : List MemPlace)
    (hval : ∀ (j : Nat) t v, Tryd.f4.params[j]? = some t → args[j]? = some v → Value.okWide Tryd.prog W .any base t v)
    (hW : DataW.Whole enc Tryd.prog Tryd.f4.params.toList Rows.showBothSpec.vars false W args.toList ds gs before)
    (hsz : (DataW.weightsEach Tryd.prog (Tryd.f4.params.toList ++ (OpenSpec.ofChange Rows.showBothSpec).bare.plain.varTypes Tryd.prog) (ds ++ gs)).all (· ≤ reachBytes) = true)
    (hL : laidMetH Tryd.prog laidV W) (hS : W.ShapedOpen Tryd.prog) :
    Calls Tryd.prog 4 args W fun e W' => ∃ v, e = .returned v ∧ Rows.showBothSpec.post enc Tryd.prog Tryd.f4 false true false false W args v W' := by
  have hW' := hW
  obtain ⟨p, q, hA0, hV, rfl, hfz, hnd⟩ := hW
  have hA : DataW.TrodAll enc Tryd.prog W 0 (fun _ => true) true Tryd.f4.params.toList args.toList ds p := hA0
  rw [Tryd.params4] at hA hval
  obtain ⟨v0, vs0, d0, ds0, p0, q0, hargs, rfl, rfl, h0, r0⟩ := trodAll_cons hA
  obtain ⟨v1, vs1, d1, ds1, p1, q1, rfl, rfl, rfl, h1, r1⟩ := trodAll_cons r0
  obtain ⟨rfl, rfl, rfl⟩ := trodAll_nil r1
  obtain rfl : args = #[v0, v1] := by cases args; simp_all
  obtain ⟨rfl, rfl⟩ := trodVars_none hV
  have hlt : ∀ x ∈ p0 ++ (p1 ++ []), x.block < W.heap.size := fun x hx => by have := hW'.lt x; simp at this hx; exact this hx
  obtain ⟨s, rfl, rfl, rfl, hs⟩ := open_string Tryd.underlying9 (hval 1 9 v1 rfl rfl) h1
  have h0k := h0
  obtain ⟨k, c, i, n, e, rfl, gc, gi, gn, ge⟩ := open_rec (hval 0 25 v0 rfl rfl) h0
  clear hA0
  simp only [List.append_nil] at hW'
  have hlen : s.data.toList.length ≤ reachBytes := sized_string hsz (j := 1) (t := 9) rfl rfl
  have hle : s.data.toList.length ≤ 140737488355328 := Nat.le_trans hlen (by decide)
  have key := showBoth_any k c i n e gc gi gn ge s.data.toList hle W (gw_of_laid hL hS)
  have es : St s.data.toList = .string s := by show Value.string ⟨s.data.toList.toArray⟩ = _; simp
  rw [es] at key
  refine key.mono fun e W' ⟨he, hg⟩ => ?_
  subst he
  exact ⟨.bool true, rfl, _, _, _, [], p0 ++ ([] ++ []), [], hW', trodAll_cons_mk (shut_bool Tryd.underlying4 _) trodAll_mk0, trodAll_cons_mk (Below.trod laidOut (by kernel_rfl) (of_decide_eq_true (by kernel_rfl)) h0k hg (fun x hx => hlt x (by simp [hx]))) (trodAll_cons_mk (shut_string Tryd.underlying9 hs) trodAll_mk0), rfl, hg.frame _, fun h => by cases h⟩


abbrev argsBoth : Array Value := #[.agg #[.int .i64 0, .int .i64 0, .int .i64 0, .int .i64 0, .int .i64 0], .string ⟨#[]⟩]
set_option maxRecDepth 100000 in
theorem readsBoth (os : Os) {H : Type} (enc : TypeId × Value → H) : ∃ places, DataW.whole enc Tryd.prog ((World.doorLaid Tryd.prog 400 os).forCall (fun _ _ => 0) ⟨#[], argsBoth, []⟩).memory Tryd.f4.params.toList Rows.showBothSpec.vars false argsBoth.toList 8 = some ([.agg [.lit (.int .i64 0), .lit (.int .i64 0), .lit (.int .i64 0), .lit (.int .i64 0), .lit (.int .i64 0)], .lit (.string [])], [], places) :=
  ⟨[], by kernel_rfl⟩

set_option maxRecDepth 100000 in
theorem liftedBoth (os : Os) (started : os.Started) (H : Type) (enc : TypeId × Value → H) (F : Stop.Interp) :
    ReturnsInHanded {} Tryd.checked os 4 .any ((OpenSpec.ofChange Rows.showBothSpec).preRow enc Tryd.prog Tryd.f4 Rows.showBothRow.domain false Rows.showBothRow.laid) (((OpenSpec.ofChange Rows.showBothSpec).at F).post enc Tryd.prog Tryd.f4 false true false false) := by
  obtain ⟨places, hx⟩ := readsBoth os enc
  refine returnsInHanded_of_row (C := Tryd.checked) (s := OpenSpec.ofChange Rows.showBothSpec) own started (by kernel_rfl) Tryd.func4
    (witness_row_atRef (enc := enc) (C := Tryd.checked) false (World.doorLaid Tryd.prog 400 os) argsBoth rfl (by kernel_rfl) (by kernel_rfl) (by kernel_rfl)
      (OpenSpec.preRow_of_cond 8 hx (by kernel_rfl) (fun k hk => by cases hk) (by kernel_rfl) (laidMet_start os _))) ?_
  intro W base args ds gs before hval hW _ _ hsz hL hS _
  exact contractBoth H enc W base args ds gs before hval hW hsz hL hS

theorem saidBoth : Rows.ShowBothSaid :=
  OpenClaim.holds_of_cond 4 Tryd.f4 rfl rfl rfl rfl rfl rfl rfl ⟨rfl, rfl, rfl, rfl, rfl⟩ rfl rfl rfl rfl rfl (by kernel_rfl) Tryd.func4 (by kernel_rfl)
    (of_decide_eq_true (by kernel_rfl)) (by unfold Func.isWrapper; first | (rw [if_pos (by decide +kernel)]; kernel_rfl) | (rw [if_neg (by decide +kernel)]; exact ⟨rfl, rfl⟩))
    (fun os started H enc _ F => by rw [OpenClaim.pre_eq_preRow]; exact liftedBoth os started H enc F)

theorem plainBoth (f : FuncId) (fn : Func) (hf : Tryd.pinned.checked.prog.funcNamed "davit/davitlaw33.ShowBoth" = some f) (hfn : Tryd.pinned.checked.prog.funcs[f]? = some fn) :
    true = Tryd.pinned.checked.prog.looks [] ∧ ∀ (j : Nat) t, fn.params[j]? = some t → Tryd.pinned.checked.prog.wantsStandIn t = false := by
  obtain rfl : f = 4 := Option.some.inj ((show Tryd.prog.funcNamed "davit/davitlaw33.ShowBoth" = some 4 by kernel_rfl).symm.trans hf) |>.symm
  obtain rfl : fn = Tryd.f4 := (Option.some.inj (Tryd.func4.symm.trans hfn)).symm
  refine ⟨by kernel_rfl, fun j t ht => ?_⟩
  rw [Tryd.params4] at ht
  have hm : t ∈ [25, 9] := by simpa using Array.mem_of_getElem? ht
  have hall : ([25, 9].all fun u => !Tryd.prog.wantsStandIn u) = true := by kernel_rfl
  exact (show Tryd.prog.wantsStandIn t = false by simpa using List.all_eq_true.1 hall t hm)

theorem showBoth_card : Rows.ShowBothCardSaid :=
  Claim7.holds_tied_plain_at .later [] _ _ _ _ saidBoth (fun _ h => by cases h) (by kernel_rfl) (fun _ h => by cases h) showBoth_row_tie rfl ⟨rfl, rfl⟩ (by kernel_rfl) rfl plainBoth (by kernel_rfl)
#print axioms showBoth_card
end Go.Proofs.YtlnemkdoknkhaaaDoor
