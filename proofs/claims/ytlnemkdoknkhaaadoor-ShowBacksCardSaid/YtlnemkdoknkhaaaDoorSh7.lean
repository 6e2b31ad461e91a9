/-
  The words of a line (strings.Cut, show.words and its iterator).
-/
import Derived.Test.YtlnemkdoknkhaaaDoorSh6
import Derived.Lib.IndexMore
namespace Go.Proofs.YtlnemkdoknkhaaaDoor
open Go Go.RowKit Go.Shelf
set_option linter.unusedVariables false
set_option linter.unusedSimpArgs false
attribute [local go_sem] Oper.semAt_some

theorem idx_one (c : UInt8) (l : List UInt8) : (c ∈ l → Lib.index l [c] = ((l.takeWhile (· ≠ c)).length : Int)) ∧ (c ∉ l → Lib.index l [c] = -1) := by
  induction l with
  | nil => exact ⟨fun h => by simp at h, fun _ => rfl⟩
  | cons b l ih =>
    by_cases hb : c = b
    · subst hb
      exact ⟨fun _ => by simp [Lib.index], fun h => by simp at h⟩
    · refine ⟨fun h => ?_, fun h => ?_⟩
      · have hm : c ∈ l := by simpa [hb] using h
        have := ih.1 hm
        have hne : ¬ b = c := fun e => hb e.symm
        simp only [Lib.index, this]
        rw [if_neg (by simp [hb]), if_neg (by simp)]
        simp [hne]
      · have hm : c ∉ l := fun x => h (by simp [x])
        have := ih.2 hm
        simp only [Lib.index, this]
        rw [if_neg (by simp [hb])]
        rfl
theorem takeDrop (c : UInt8) (l : List UInt8) : l.take (l.takeWhile (· ≠ c)).length = l.takeWhile (· ≠ c) ∧ l.drop ((l.takeWhile (· ≠ c)).length + 1) = (l.dropWhile (· ≠ c)).drop 1 := by
  induction l with
  | nil => simp
  | cons b l ih =>
    by_cases hb : b = c
    · subst hb; simp
    · obtain ⟨h1, h2⟩ := ih
      simp [hb] at h1 h2 ⊢
      exact ⟨h1, h2⟩
theorem take_all (c : UInt8) (l : List UInt8) (h : c ∉ l) : l.takeWhile (· ≠ c) = l ∧ (l.dropWhile (· ≠ c)).drop 1 = [] :=
  take_none l c fun j hj e => h (by rw [← e, List.getD_eq_getElem?_getD, List.getElem?_eq_getElem hj, Option.getD_some]; exact List.getElem_mem hj)
theorem cut_one (l : List UInt8) : Lib.cut l [32] = (W1 l, R1 l, decide (32 ∈ l)) := by
  have hi := idx_one 32 l
  have ht := takeDrop 32 l
  unfold Lib.cut
  by_cases h : (32 : UInt8) ∈ l
  · rw [hi.1 h, if_pos (by omega)]
    simp only [Int.toNat_natCast, List.length_singleton]
    rw [ht.1, ht.2]; simp [h, W1, R1]
  · have := take_all 32 l h
    rw [hi.2 h, if_neg (by omega)]
    simp only [W1, R1, h, decide_false]
    rw [this.1, this.2]

theorem R1_lt (l : List UInt8) (h : (32 : UInt8) ∈ l) : (R1 l).length < l.length := by
  have ht := takeDrop 32 l
  have : 0 < l.length := List.length_pos_of_mem h
  unfold R1
  rw [← ht.2, List.length_drop]; omega
theorem R1_le (l : List UInt8) : (R1 l).length ≤ l.length := by
  have ht := takeDrop 32 l
  unfold R1
  rw [← ht.2, List.length_drop]; omega
theorem W1_le (l : List UInt8) : (W1 l).length ≤ l.length := by
  have ht := takeDrop 32 l
  unfold W1
  rw [← ht.1, List.length_take]; omega

/-- The words of a line. -/
def splitW (l : List UInt8) : List (List UInt8) := if h : (32 : UInt8) ∈ l then W1 l :: splitW (R1 l) else [l]
termination_by l.length
decreasing_by exact R1_lt l h
theorem splitW_yes {l : List UInt8} (h : (32 : UInt8) ∈ l) : splitW l = W1 l :: splitW (R1 l) := by rw [splitW, dif_pos h]
theorem splitW_no {l : List UInt8} (h : (32 : UInt8) ∉ l) : splitW l = [l] := by rw [splitW, dif_neg h]

theorem cut_any (l : List UInt8) (hl : l.length ≤ 4000) (w : World) (hg : GW w) : Calls Tryd.prog 23 #[St l, St [32]] w fun e w' => e = .returned (.tuple #[St (W1 l), St (R1 l), .bool (decide (32 ∈ l))]) ∧ ∃ n, w' = w.drewN n := by
  obtain ⟨m, hm⟩ := hg.mx
  refine (Tryd.strings_Cut ⟨l.toArray⟩ ⟨#[32]⟩ m w (by rw [bsz]; omega) hm).mono fun e w' ⟨he, hw⟩ => ⟨?_, hw⟩
  rw [he]
  show Ending.returned (.tuple #[.string ⟨(Lib.cut l [32]).1.toArray⟩, .string ⟨(Lib.cut l [32]).2.1.toArray⟩, .bool (Lib.cut l [32]).2.2]) = _
  rw [cut_one]

theorem words_any (l : List UInt8) (w : World) : Calls Tryd.prog 10 #[St l] w fun e w' => e = .returned (.func (.func 22) #[] #[.pointer (some ⟨w.heap.size, 0, none⟩)]) ∧ w' = w.alloc (.cells #[St l] 9) := by
  go_enter Tryd.func10, Tryd.ntmps10
  go_wp2
  go_ret
  exact ⟨rfl, rfl⟩

def boxLen (b : Nat) (w : World) : Nat := match w.cell? ⟨b, 0, none⟩ with | some (.string s) => s.size | _ => 0
def moreLen (a : Value) (n : Nat) : Nat := match a with | .bool true => n + 1 | _ => 0

def ItRel (b : Nat) (l0 : List UInt8) (I : List (List UInt8) → World → Prop) (Rc : World → Prop) (a : Value) (wr : World) : Prop :=
  ∃ (pre : List (List UInt8)) (rest : List UInt8) (more : Bool), a = .bool more ∧ I pre wr ∧ Rc wr ∧ wr.heap[b]? = some (.cells #[St rest] 9 (0, 0)) ∧ rest.length ≤ 400 ∧
    (more = true → splitW l0 = pre ++ splitW rest) ∧ (more = false → splitW l0 = pre)

set_option maxRecDepth 100000 in
set_option maxHeartbeats 1000000 in
theorem words1_in (n : Nat) (hn : 1 ≤ n) (b lp : Nat) (l0 : List UInt8) (hl : l0.length ≤ 400) (I : List (List UInt8) → World → Prop) (Rc : World → Prop)
    (hIset : ∀ pre A v, I pre A → I pre (A.setCell ⟨b, 0, none⟩ v)) (hRset : ∀ A v, Rc A → Rc (A.setCell ⟨b, 0, none⟩ v)) (hIdrew : ∀ pre A k, I pre A → I pre (A.drewN k)) (hRdrew : ∀ A k, Rc A → Rc (A.drewN k))
    (hIg : ∀ pre A, I pre A → GW A)
    (hY : ∀ pre x W1, x.length ≤ 400 → I pre W1 → Rc W1 → YieldAt Fence.wide (n - 1) Tryd.prog lp #[St x] W1 fun e W' => e = .returned (.bool true) ∧ I (pre ++ [x]) W' ∧ Rc W' ∧ W'.heap[b]? = W1.heap[b]?)
    (W : World) (hb : W.heap[b]? = some (.cells #[St l0] 9 (0, 0))) (h0 : I [] W) (hr : Rc W) :
    CallsIn Fence.wide n Tryd.prog 22 #[.func (.yield lp) #[] #[], .pointer (some ⟨b, 0, none⟩)] W fun e W' => (∃ v, e = .returned v) ∧ I (splitW l0) W' ∧ Rc W' := by
  refine callsIn_of_wp Tryd.func22 rfl trivial ?_ rfl
  simp only [Tryd.ntmps22, List.size_toArray, List.length_cons, List.length_nil, Nat.reduceAdd, Nat.reduceSub, Array.replicate_succ, Array.replicate_zero, List.push_toArray, List.append_toArray, List.nil_append, List.cons_append]
  gi_wp2
  gi_loopw [3] (fun p wr => ItRel b l0 I Rc p wr) (fun p wr => moreLen p (boxLen b wr))
  case atStart => exact ⟨[], l0, true, rfl, h0, hr, hb, hl, fun _ => rfl, fun h => by cases h⟩
  case round =>
    obtain ⟨pre, rest, more, rfl, hI, hR, hB, hlen, hm, hm'⟩ := hrel
    cases more with
    | false =>
      have HE := Lib.hid (hm' rfl); clear hm hm'
      have H1 := Lib.hid hI; have H2 := Lib.hid hR
      clear hI hR hB
      gi_wp2
      go_end0
      exact ⟨⟨_, rfl⟩, by rw [HE.out]; exact H1.out, H2.out⟩
    | true =>
      have hc := blk_cell hB 0
      have hf := blk_free hB 0
      have H1 := Lib.hid hI; have H2 := Lib.hid hR; have H3 := Lib.hid hB; have H4 := Lib.hid (hm rfl)
      have HG := Lib.hid (hIg _ _ hI)
      clear hI hR hB hm hm'
      gi_wp2_with fail
      refine ⟨trivial, (callsIn_wide.2 (cut_any rest (by omega) wr HG.out)).mono ?_⟩
      rintro _ w1 ⟨rfl, k, rfl⟩
      have hB2 : ((wr.drewN k).setCell ⟨b, 0, none⟩ (St (R1 rest))).heap[b]? = some (.cells #[St (R1 rest)] 9 (0, 0)) := by
        rw [blk_set (show (wr.drewN k).heap[b]? = some (.cells #[St rest] 9 (0, 0)) from H3.out)]; rfl
      obtain ⟨fn, tmps, assign, body, hy, hRd⟩ := hY pre (W1 rest) ((wr.drewN k).setCell ⟨b, 0, none⟩ (St (R1 rest))) (by have := W1_le rest; omega) (hIset _ _ _ (hIdrew _ _ _ H1.out)) (hRset _ _ (hRdrew _ _ H2.out))
      have HB2 := Lib.hid hB2; clear hB2
      gi_wp2
      refine hRd.mono ?_
      rintro e W3 ⟨rfl, hI3, hR3, hB3⟩
      have HB3 := Lib.hid (hB3.trans HB2.out)
      have HI3 := Lib.hid hI3; have HR3 := Lib.hid hR3
      have HM := Lib.hid (show boxLen b W3 = (R1 rest).length by unfold boxLen; rw [blk_cell HB3.out 0]; exact bsz _)
      have HM0 := Lib.hid (show boxLen b wr = rest.length by unfold boxLen; rw [blk_cell H3.out 0]; exact bsz _)
      clear hI3 hR3 hB3 hc hf
      gi_wp2
      go_roundw
      case rel =>
        refine ⟨pre ++ [W1 rest], R1 rest, decide (32 ∈ rest), rfl, HI3.out, HR3.out, HB3.out, by have := R1_le rest; omega, fun hm => ?_, fun hm => ?_⟩
        · rw [H4.out, splitW_yes (by simpa using hm)]; simp
        · rw [H4.out, splitW_no (by simpa using hm)]
          have : (32 : UInt8) ∉ rest := by simpa using hm
          have hW : W1 rest = rest := (take_all 32 rest this).1
          rw [hW]
      case measure =>
        rw [HM.out, HM0.out]
        by_cases h : (32 : UInt8) ∈ rest
        · have := R1_lt rest h
          simp only [h, decide_true, moreLen]; omega
        · simp only [h, decide_false, moreLen]; omega
#print axioms words1_in
end Go.Proofs.YtlnemkdoknkhaaaDoor
