/-
  A law of the walk for a range over a function whose iterator has memory of its own: the caller names a set of blocks (Pn) that a round of its body leaves alone, and an invariant that abides the loop's own two blocks. Conditions: the outermost loop of its function, at least one call deep.
-/
import Derived.RangeFuncNested
import Derived.RangeFuncCalls
import Derived.RangeFuncLeaves
import Derived.Shelf.Abstract
import Derived.Shelf.RegionOpen
import Derived.WalkKit
import Derived.OwnWalkIn
import Derived.TacticsInMore
import Derived.LoopNIn
import Derived.LoopIn
namespace Go.Proofs.YtlnemkdoknkhaaaDoor
open Go Go.RowKit Go.Shelf
set_option linter.unusedVariables false
set_option linter.unusedSimpArgs false

/-- Whatever block the set names holds what it held. -/
def KeepOn (Pn : Nat → Prop) (A B : World) : Prop := ∀ k, Pn k → B.heap[k]? = A.heap[k]?
theorem KeepOn.refl (Pn : Nat → Prop) (A : World) : KeepOn Pn A A := fun _ _ => rfl
theorem KeepOn.trans {Pn : Nat → Prop} {A B C : World} (h : KeepOn Pn A B) (k : KeepOn Pn B C) : KeepOn Pn A C := fun i hi => (k i hi).trans (h i hi)
theorem KeepOn.put {Pn : Nat → Prop} (A : World) (l : Nat) (o : Obj) (h : ¬ Pn l) : KeepOn Pn A (A.putObj l o) := fun k hk => World.putObj_heap_other (fun e => h (e ▸ hk))
theorem KeepOn.alloc {Pn : Nat → Prop} (A : World) (o : Obj) (h : ∀ k, Pn k → k < A.heap.size) : KeepOn Pn A (A.alloc o) := fun k hk => Below.heap_alloc A o k (h k hk)
theorem KeepOn.setCell {Pn : Nat → Prop} (A : World) (a : Addr) (v : Value) (h : ¬ Pn a.block) : KeepOn Pn A (A.setCell a v) := fun k hk => Below.heap_setCell A a v k (fun e => h (e ▸ hk))
theorem KeepOn.below {Pn : Nat → Prop} {A B : World} {n : Nat} (hb : Below n A B) (h : ∀ k, Pn k → k < n) : KeepOn Pn A B := fun k hk => hb.block k (h k hk)

/-- How a round's body may be left. -/
def rfPost {α : Type} (Pn : Nat → Prop) (s : Nat) (I : List α → World → Prop) (Ix : Code → List α → World → Prop) (xs : List α) (W : World) : Exit → Act → World → Prop
  | .normal, _, W' => KeepOn (fun k => Pn k ∨ k = s ∨ k = s + 1) W W' ∧ I xs W'
  | .ret, _, W' => KeepOn (fun k => k = s ∨ k = s + 1) W W' ∧ Ix .ret xs W'
  | .exit id, _, W' => KeepOn (fun k => k = s ∨ k = s + 1) W W' ∧ Ix (.exit id) xs W'
  | .goto t, _, W' => KeepOn (fun k => k = s ∨ k = s + 1) W W' ∧ Ix (.goto t) xs W'
  | .panic _, _, _ => False
  | .outgrown, _, _ => False

/-- The invariant abides a turn of the loop's own two blocks. -/
def Abides {α : Type} (s : Nat) (I : List α → World → Prop) : Prop := ∀ xs A l o, I xs A → (l = s ∨ l = s + 1) → l < A.heap.size → I xs (A.putObj l o)

variable {F : Fence} {n : Nat} {P : Program}

theorem wpIn_rf {α : Type} {g : Operand} {ps : Array Tmp} {assign body : Code} {Q : Exit → Act → World → Prop} {a : Act} {w : World}
    (hro : F.round = none) (h1 : 1 ≤ n) {gf : Nat} {lb : Array Value} (hg : a.eval g = .func (.func gf) #[] lb) (hFg : F.fn gf) (eg : ∀ args w, (callFunc gf args).run P w = .ok (.enter gf args) w)
    {encs : α → Array Value} (hps : ∀ x, (encs x).size = ps.size) (Pn : Nat → Prop) (hPn : ∀ k, Pn k → k < w.heap.size)
    (I : List α → World → Prop) (Ix : Code → List α → World → Prop) (hI : Abides w.heap.size I) (hIx : ∀ c, Abides w.heap.size (Ix c))
    (h0 : ∀ W, W.heap.size = w.heap.size + 2 → Below w.heap.size w W → I [] W) (S Sp : List α → Prop)
    (hseq : ∀ (Rc : World → Prop) (Rx : Code → World → Prop) (W : World), Below w.heap.size w W → W.heap.size = w.heap.size + 2 →
      (∀ A B, KeepOn (fun k => k = w.heap.size ∨ k = w.heap.size + 1) A B → Rc A → Rc B) → (∀ c A B, KeepOn (fun k => k = w.heap.size ∨ k = w.heap.size + 1) A B → Rx c A → Rx c B) →
      (∀ pre x W1, I pre W1 → Rc W1 → YieldAt F (n - 1 - 1) P (w.heap.size + 1) (encs x) W1 fun e W' =>
        (e = .returned (.bool true) ∧ I (pre ++ [x]) W' ∧ Rc W' ∧ KeepOn Pn W1 W') ∨ (e = .returned (.bool false) ∧ ∃ c, Rx c W' ∧ Ix c (pre ++ [x]) W')) →
      I [] W → Rc W →
      CallsIn F (n - 1) P gf (#[.func (.yield (w.heap.size + 1)) #[] #[]] ++ lb) W fun e W' => (∃ v, e = .returned v) ∧ ((∃ xs, S xs ∧ I xs W' ∧ Rc W') ∨ (∃ pre c, Sp pre ∧ Rx c W' ∧ Ix c pre W')))
    (a₁ : α → Act)
    (hassign : ∀ (l : Nat) (x : α) (W : World) (K : Act → World → Prop), K (a₁ x) W →
      assign.wpIn (F.inRound l) (n - 1 - 1) P (Exit.then K (fun _ _ _ => False)) { tmps := (ps.zip (encs x)).foldl (fun t (p, v) => t.setIfInBounds p v) a.tmps, defers := [] } W)
    (hbody : ∀ (l : Nat) (pre : List α) (x : α) (W : World), I pre W → w.heap.size + 2 ≤ W.heap.size → body.wpIn (F.inRound l) (n - 1 - 1) P (rfPost Pn w.heap.size I Ix (pre ++ [x]) W) (a₁ x) W)
    (hdone : ∀ (xs : List α) (W : World), S xs → I xs W → W.heap[w.heap.size]? = some (.deferred (some [])) → Q .normal { a with defers := { target := .collected w.heap.size, args := #[] } :: a.defers } W)
    (hstop : ∀ (c : Code) (pre : List α) (W : World), Sp pre → Ix c pre W → W.heap[w.heap.size]? = some (.deferred (some [])) → c.wpIn F n P Q { a with defers := { target := .collected w.heap.size, args := #[] } :: a.defers } W) :
    (Code.rangeFunc g ps assign body).wpIn F n P Q a w := by
  refine wpIn_rangeFunc ?_
  intro fn hfn
  rw [hro]
  obtain ⟨s, hs⟩ : ∃ s, s = w.heap.size := ⟨_, rfl⟩
  obtain ⟨rec, hrec⟩ : ∃ rec : LoopState → Option Code → Loop, rec = fun st pe => { state := st, pending := pe, fn, tmps := a.tmps, params := ps, assign, body, defers := s } := ⟨_, rfl⟩
  obtain ⟨W1, hW1⟩ : ∃ W1, (w.alloc (.deferred (some []))).alloc (.loop (rec .ready none)) = W1 := ⟨_, rfl⟩
  have hsz : W1.heap.size = s + 2 := by rw [← hW1, World.size_alloc, World.size_alloc, hs]
  have hL1 : W1.heap[s + 1]? = some (.loop (rec .ready none)) := by
    rw [← hW1, hs]; have := World.alloc_heap_new (w.alloc (.deferred (some []))) (.loop (rec .ready none)); rwa [World.size_alloc] at this
  have hK1 : W1.heap[s]? = some (.deferred (some [])) := by
    rw [← hW1, hs]; exact (Below.heap_alloc _ _ _ (by simp)).trans (World.alloc_heap_new w _)
  have hb1 : Below s w W1 := by
    rw [← hW1, hs]; exact ((Below.refl _ w).alloc (Nat.le_refl _) _).alloc (by simp) _
  have hI1 : I [] W1 := h0 W1 (by omega) (hs ▸ hb1)
  subst hs
  refine ⟨w.heap.size + 1, [{ target := .collected w.heap.size, args := #[] }], W1, { target := .fn (.func gf) lb, args := #[.func (.yield (w.heap.size + 1)) #[] #[]] }, W1, gf,
    #[.func (.yield (w.heap.size + 1)) #[] #[]] ++ lb, W1, ?_, ?_, ?_, ?_, fun _ => h1, ?_⟩
  · rw [← hW1, hrec]; exact run_enterLoop_outer _ _ _ _ _
  · simp only [resolve, hg]
    simp [go_sem]
  · intro f' hf'; simp [Target.leads] at hf'; subst hf'; exact hFg
  · simp [invoke, go_sem, eg]
  · have hpq : ∀ {A B : World}, KeepOn (fun k => k = w.heap.size ∨ k = w.heap.size + 1) A B → B.heap[w.heap.size]? = A.heap[w.heap.size]? ∧ B.heap[w.heap.size + 1]? = A.heap[w.heap.size + 1]? := fun h => ⟨h _ (.inl rfl), h _ (.inr rfl)⟩
    refine (hseq (fun W => W.heap[w.heap.size + 1]? = some (.loop (rec .ready none)) ∧ W.heap[w.heap.size]? = some (.deferred (some [])))
      (fun c W => W.heap[w.heap.size + 1]? = some (.loop (rec .done (some c))) ∧ W.heap[w.heap.size]? = some (.deferred (some []))) W1 hb1 hsz
      (fun A B hk ⟨h1, h2⟩ => ⟨(hpq hk).2.trans h1, (hpq hk).1.trans h2⟩) (fun c A B hk ⟨h1, h2⟩ => ⟨(hpq hk).2.trans h1, (hpq hk).1.trans h2⟩) ?_ hI1 ⟨hL1, hK1⟩).mono ?_
    · rintro pre x W hi ⟨hl, hk⟩
      have hlt : w.heap.size + 1 < W.heap.size := (Array.getElem?_eq_some_iff.1 hl).1
      have hy := run_yield (P := P) (args := encs x) hl (by rw [hrec]; exact hps x)
      rw [hrec] at hy
      refine ⟨fn, _, assign, body, hy, roundIn_of_wpIn hfn (hassign _ x W _ ⟨_, run_beginRound hl (by rw [hrec]), ?_⟩)⟩
      obtain ⟨Wb, hWb⟩ : ∃ Wb, W.putObj (w.heap.size + 1) (.loop { rec .ready none with state := .busy }) = Wb := ⟨_, rfl⟩
      rw [hWb]
      have hl2 : Wb.heap[w.heap.size + 1]? = some (.loop { rec .ready none with state := .busy }) := by rw [← hWb]; exact World.putObj_heap_same hlt
      have hk2 : Wb.heap[w.heap.size]? = some (.deferred (some [])) := by rw [← hWb]; exact (World.putObj_heap_other (by omega)).trans hk
      have hp2 : KeepOn Pn W Wb := by rw [← hWb]; exact KeepOn.put W _ _ (fun h => by have := hPn _ h; omega)
      have hi2 : I pre Wb := by rw [← hWb]; exact hI _ _ _ _ hi (.inr rfl) hlt
      refine wpIn_mono (hbody _ pre x _ hi2 (by rw [← hWb, World.putObj_size]; omega)) ?_
      have fin : ∀ (jump : Option Code) (W3 : World), KeepOn (fun k => k = w.heap.size ∨ k = w.heap.size + 1) Wb W3 →
          (Instr.endRound (w.heap.size + 1) jump).run P W3 = .ok (.bool jump.isNone) (W3.putObj (w.heap.size + 1) (.loop (rec (if jump.isNone then .ready else .done) jump))) ∧
          w.heap.size + 1 < W3.heap.size ∧
          (W3.putObj (w.heap.size + 1) (.loop (rec (if jump.isNone then .ready else .done) jump))).heap[w.heap.size + 1]? = some (.loop (rec (if jump.isNone then .ready else .done) jump)) ∧
          (W3.putObj (w.heap.size + 1) (.loop (rec (if jump.isNone then .ready else .done) jump))).heap[w.heap.size]? = some (.deferred (some [])) := fun jump W3 hk3 => by
        have hl3 := (hpq hk3).2.trans hl2
        have hlt3 : w.heap.size + 1 < W3.heap.size := (Array.getElem?_eq_some_iff.1 hl3).1
        have := run_endRound (P := P) jump hl3
        rw [hrec] at this ⊢
        exact ⟨this, hlt3, World.putObj_heap_same hlt3, (World.putObj_heap_other (by omega)).trans ((hpq hk3).1.trans hk2)⟩
      rintro e a3 W3 hp
      cases e with
      | normal =>
        obtain ⟨hk3, hi3⟩ := hp
        obtain ⟨hr, hlt3, hl4, hk4⟩ := fin none W3 (fun k hk => hk3 k (.inr hk))
        exact ⟨_, _, hr, .inl ⟨rfl, hI _ _ _ _ hi3 (.inr rfl) hlt3, ⟨hl4, hk4⟩, (hp2.trans (fun k hk => hk3 k (.inl hk))).trans (KeepOn.put _ _ _ (fun h => by have := hPn _ h; omega))⟩⟩
      | ret =>
        obtain ⟨hk3, hi3⟩ := hp
        obtain ⟨hr, hlt3, hl4, hk4⟩ := fin (some .ret) W3 hk3
        exact ⟨_, _, hr, .inr ⟨rfl, .ret, ⟨hl4, hk4⟩, (hIx _) _ _ _ _ hi3 (.inr rfl) hlt3⟩⟩
      | exit id =>
        obtain ⟨hk3, hi3⟩ := hp
        obtain ⟨hr, hlt3, hl4, hk4⟩ := fin (some (.exit id)) W3 hk3
        exact ⟨_, _, hr, .inr ⟨rfl, .exit id, ⟨hl4, hk4⟩, (hIx _) _ _ _ _ hi3 (.inr rfl) hlt3⟩⟩
      | goto t =>
        obtain ⟨hk3, hi3⟩ := hp
        obtain ⟨hr, hlt3, hl4, hk4⟩ := fin (some (.goto t)) W3 hk3
        exact ⟨_, _, hr, .inr ⟨rfl, .goto t, ⟨hl4, hk4⟩, (hIx _) _ _ _ _ hi3 (.inr rfl) hlt3⟩⟩
      | panic ch => exact hp.elim
      | outgrown => exact hp.elim
    · rintro e W2 ⟨⟨v, rfl⟩, (⟨xs, hS, hi, hl, hk⟩ | ⟨pre, c, hSp, ⟨hl, hk⟩, hi⟩)⟩
      · have hlt : w.heap.size + 1 < W2.heap.size := (Array.getElem?_eq_some_iff.1 hl).1
        exact ⟨none, _, by have := run_endLoop (P := P) hl (by rw [hrec]; simp); rw [hrec] at this; exact this, hdone xs _ hS (hI _ _ _ _ hi (.inr rfl) hlt) ((World.putObj_heap_other (by omega)).trans hk)⟩
      · have hlt : w.heap.size + 1 < W2.heap.size := (Array.getElem?_eq_some_iff.1 hl).1
        exact ⟨some c, _, by have := run_endLoop (P := P) hl (by rw [hrec]; simp); rw [hrec] at this; exact this, hstop c pre _ hSp (hIx _ _ _ _ _ hi (.inr rfl) hlt) ((World.putObj_heap_other (by omega)).trans hk)⟩
#print axioms wpIn_rf
end Go.Proofs.YtlnemkdoknkhaaaDoor
