/-
  words.of.
-/
import Derived.Test.YtcjngndgmedabaaDoorWd
import Derived.Deep.WholeRow
namespace Go.Proofs.YtcjngndgmedabaaDoor
open Go Go.RowKit
set_option linter.unusedVariables false
set_option linter.unusedSimpArgs false


def kcells : List Value := [.string ⟨#[]⟩, .string ⟨#[]⟩, .string ⟨#[115, 116, 101, 112]⟩, .string ⟨#[99]⟩, .string ⟨#[116, 105, 99, 107]⟩, .string ⟨#[110]⟩, .string ⟨#[115, 112, 97, 119, 110]⟩, .string ⟨#[105, 109]⟩, .string ⟨#[101, 120, 105, 116]⟩, .string ⟨#[105]⟩, .string ⟨#[121, 105, 101, 108, 100]⟩, .string ⟨#[105]⟩, .string ⟨#[115, 108, 101, 101, 112]⟩, .string ⟨#[105, 110]⟩, .string ⟨#[119, 97, 107, 101]⟩, .string ⟨#[105]⟩, .string ⟨#[97, 102, 102, 105, 110]⟩, .string ⟨#[105, 109]⟩, .string ⟨#[119, 104, 101, 114, 101]⟩, .string ⟨#[105]⟩, .string ⟨#[97, 114, 109]⟩, .string ⟨#[99, 110]⟩, .string ⟨#[99, 97, 110, 99, 101, 108]⟩, .string ⟨#[105]⟩, .string ⟨#[114, 101, 113, 117, 101, 115, 116]⟩, .string ⟨#[105, 109]⟩, .string ⟨#[102, 114, 101, 101]⟩, .string ⟨#[105]⟩, .string ⟨#[114, 111, 117, 116, 101]⟩, .string ⟨#[105, 109]⟩, .string ⟨#[109, 97, 115, 107]⟩, .string ⟨#[105]⟩, .string ⟨#[117, 110, 109, 97, 115, 107]⟩, .string ⟨#[105]⟩, .string ⟨#[114, 97, 105, 115, 101]⟩, .string ⟨#[105]⟩, .string ⟨#[113, 117, 101, 117, 101]⟩, .string ⟨#[99]⟩, .string ⟨#[102, 108, 117, 115, 104]⟩, .string ⟨#[105]⟩, .string ⟨#[99, 97, 108, 108]⟩, .string ⟨#[99]⟩, .string ⟨#[97, 108, 108, 111, 99]⟩, .string ⟨#[99]⟩, .string ⟨#[103, 105, 118, 101]⟩, .string ⟨#[99, 105]⟩, .string ⟨#[111, 110, 108, 105, 110, 101]⟩, .string ⟨#[99]⟩, .string ⟨#[111, 102, 102, 108, 105, 110, 101]⟩, .string ⟨#[99]⟩, .string ⟨#[102, 97, 105, 108]⟩, .string ⟨#[110]⟩, .string ⟨#[104, 111, 108, 100]⟩, .string ⟨#[99]⟩, .string ⟨#[100, 114, 111, 112]⟩, .string ⟨#[99]⟩, .string ⟨#[108, 105, 109, 105, 116]⟩, .string ⟨#[110]⟩, .string ⟨#[115, 112, 101, 101, 100]⟩, .string ⟨#[105, 110]⟩, .string ⟨#[98, 97, 108, 97, 110, 99, 101]⟩, .string ⟨#[]⟩]
theorem kcells_at : ∀ m : Fin 31, kcells[m.val * 2]? = some (St (kw (m.val : Int))) ∧ kcells[m.val * 2 + 1]? = some (St (kf (m.val : Int))) := by
  intro m
  match m with
  | ⟨0, _⟩ | ⟨1, _⟩ | ⟨2, _⟩ | ⟨3, _⟩ | ⟨4, _⟩ | ⟨5, _⟩ | ⟨6, _⟩ | ⟨7, _⟩ | ⟨8, _⟩ | ⟨9, _⟩ | ⟨10, _⟩ | ⟨11, _⟩ | ⟨12, _⟩ | ⟨13, _⟩ | ⟨14, _⟩ | ⟨15, _⟩ | ⟨16, _⟩ | ⟨17, _⟩ | ⟨18, _⟩ | ⟨19, _⟩ | ⟨20, _⟩ | ⟨21, _⟩ | ⟨22, _⟩ | ⟨23, _⟩ | ⟨24, _⟩ | ⟨25, _⟩ | ⟨26, _⟩ | ⟨27, _⟩ | ⟨28, _⟩ | ⟨29, _⟩ | ⟨30, _⟩ => exact ⟨by kernel_rfl, by kernel_rfl⟩
  | ⟨k + 31, h⟩ => omega
theorem info76 : (Tryd.prog.info? 76).map (·.size) = some 62 := by kernel_rfl
theorem kst0 (w : World) (z : Array Value) (hz : z.size = 62) : (storeCells ⟨w.heap.size, 0, none⟩ kcells 0).run Tryd.prog (w.alloc (.cells z 76)) = .ok () (w.alloc (.cells kcells.toArray 76)) :=
  run_storeCells_new w 76 z kcells.toArray (by kernel_rfl) hz (by kernel_rfl)
theorem st76 {a : Act} {w : World} {ob : Obj} {z : Array Value} {K : Act → World → Prop} {Q : Exit → Act → World → Prop} {o : Oper} (ho : o.op = .store 76 (.tmp 3) (.tmp 35)) (hd : o.dst = none)
    (hp : a.eval (.tmp 3) = .pointer (some ⟨w.heap.size + 1, 0, none⟩)) (hv : (a.eval (.tmp 35)).cells = kcells.toArray) (hz : z.size = 62)
    (h : K (a.put none undef) ((w.alloc ob).alloc (.cells kcells.toArray 76))) : o.wp Tryd.prog a ((w.alloc ob).alloc (.cells z 76)) K Q := by
  have hrun : (execOp a.eval o).run Tryd.prog ((w.alloc ob).alloc (.cells z 76)) = .ok .skip ((w.alloc ob).alloc (.cells kcells.toArray 76)) := by
    unfold execOp
    rw [ho]
    simp only [hp]
    have hs := kst0 (w.alloc ob) z hz
    rw [World.size_alloc] at hs
    obtain ⟨i, hq, hi⟩ := Option.map_eq_some_iff.1 info76
    have hk : kcells.toArray.size = 62 := by kernel_rfl
    have hr : (storeVar 76 ⟨w.heap.size + 1, 0, none⟩ (a.eval (.tmp 35))).run Tryd.prog ((w.alloc ob).alloc (.cells z 76)) = .ok () ((w.alloc ob).alloc (.cells kcells.toArray 76)) := by
      simp [storeVar, sizeOf, typeInfo, hq, hv, hk, hi]
      generalize kcells = l at hs ⊢
      exact hs
    simp [Instr.storeAt, Instr.sureAddr, hr]
  unfold Oper.wp
  rw [hrun, Oper.upon_skip, hd]
  exact h

theorem st76L {a : Act} {w : World} {ob : Obj} {z : Array Value} {ops : Array Oper} {rest : List Oper} {Q : Exit → Act → World → Prop} {o : Oper} (hg : o.guard = none) (ho : o.op = .store 76 (.tmp 3) (.tmp 35)) (hd : o.dst = none)
    (hp : a.eval (.tmp 3) = .pointer (some ⟨w.heap.size + 1, 0, none⟩)) (hv : (a.eval (.tmp 35)).cells = kcells.toArray) (hz : z.size = 62)
    (h : wpList Tryd.prog ops Q rest (a.put none undef) ((w.alloc ob).alloc (.cells kcells.toArray 76))) : wpList Tryd.prog ops Q (o :: rest) a ((w.alloc ob).alloc (.cells z 76)) :=
  wpList_plain hg fun K hK => st76 ho hd hp hv hz (hK _ _ h)

set_option maxRecDepth 100000 in
set_option maxHeartbeats 4000000 in
theorem of_any (n : Int) (w : World) : Calls Tryd.prog 21 #[.int .i64 n] w fun e w' => e = .returned (.agg #[St (kw n), St (kf n)]) ∧ Below w.heap.size w w' := by
  by_cases h : n < 0
  · have hk := Lib.hid (kw_out (n := n) (.inl (by omega)))
    go_enter Tryd.func21, Tryd.ntmps21
    go_wp2_with (refine st76L rfl rfl rfl rfl (by kernel_rfl) rfl ?_)
    refine bodyPost_ret (v := .agg #[St [], St []]) (by simp [results, Tryd.results21, go_sem]) rfl ⟨by rw [hk.out.1, hk.out.2], ?_⟩
    exact ((Below.refl _ _).alloc (Nat.le_refl _) _).alloc (by simp) _
  · by_cases h8 : n < 31
    · obtain ⟨m, rfl⟩ := Int.eq_ofNat_of_zero_le (Int.not_lt.1 h)
      have h2 : ¬ 31 ≤ (m : Int) := by omega
      have h3 : ¬ (m : Int) < 0 := by omega
      have h4 : m < 31 := by omega
      obtain ⟨hc0, hc1⟩ : kcells[m * 2]? = some (St (kw m)) ∧ kcells[m * 2 + 1]? = some (St (kf m)) := kcells_at ⟨m, h4⟩
      go_enter Tryd.func21, Tryd.ntmps21
      go_wp2_with (refine st76L rfl rfl rfl rfl (by kernel_rfl) rfl ?_)
      refine bodyPost_ret (v := .agg #[St (kw m), St (kf m)]) (by simp [results, Tryd.results21, go_sem]) rfl ⟨rfl, ?_⟩
      exact ((Below.refl _ _).alloc (Nat.le_refl _) _).alloc (by simp) _
    · have hk := Lib.hid (kw_out (n := n) (.inr (by omega)))
      go_enter Tryd.func21, Tryd.ntmps21
      go_wp2_with (refine st76L rfl rfl rfl rfl (by kernel_rfl) rfl ?_)
      refine bodyPost_ret (v := .agg #[St [], St []]) (by simp [results, Tryd.results21, go_sem]) rfl ⟨by rw [hk.out.1, hk.out.2], ?_⟩
      exact ((Below.refl _ _).alloc (Nat.le_refl _) _).alloc (by simp) _

end Go.Proofs.YtcjngndgmedabaaDoor
