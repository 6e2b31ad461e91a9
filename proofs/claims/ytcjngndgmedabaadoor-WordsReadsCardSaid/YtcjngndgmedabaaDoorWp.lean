/-
  words.Read and davitref26.Same.
-/
import Derived.Test.YtcjngndgmedabaaDoorWo
import Derived.Test.YtcjngndgmedabaaDoorWr
import Derived.Lib.CutLaws
namespace Go.Proofs.YtcjngndgmedabaaDoor
open Go Go.RowKit
set_option linter.unusedVariables false
set_option linter.unusedSimpArgs false

theorem info36 : (Tryd.prog.info? 36).map (fun i => (i.zero, i.size, i.bytes)) = some (some (.agg #[.int .i64 0, .int .i64 0, .int .i64 0, .int .u64 0, .int .i64 0]), 5, 40) := by kernel_rfl
def flatE (es : List EV) : List Value := es.flatMap fun e => e.cells.toList
theorem flatE_len (es : List EV) : (flatE es).length = es.length * 5 := by
  induction es with
  | nil => rfl
  | cons e es ih => rw [flatE, List.flatMap_cons, List.length_append]; show 5 + (flatE es).length = _; rw [ih, List.length_cons]; omega
theorem flatE_at : ∀ (es : List EV) (i : Nat) (h : i < es.length) (j : Nat), j < 5 → (flatE es)[i * 5 + j]? = es[i].cells[j]?
  | e :: es, 0, _, j, hj => by
    rw [flatE, List.flatMap_cons, List.getElem?_append_left (by show _ < 5; omega), Nat.zero_mul, Nat.zero_add, Array.getElem?_toList]; rfl
  | e :: es, i + 1, h, j, hj => by
    have ih := flatE_at es i (by simpa using h) j hj
    rw [flatE, List.flatMap_cons, List.getElem?_append_right (by show 5 ≤ _; omega)]
    show (flatE es)[(i + 1) * 5 + j - 5]? = _
    rw [show (i + 1) * 5 + j - 5 = i * 5 + j by omega, ih]; rfl
theorem flatE_snoc (es : List EV) (e : EV) : flatE (es ++ [e]) = flatE es ++ [.int .i64 e.k, .int .i64 e.c, .int .i64 e.i, .int .u64 e.m, .int .i64 e.n] := by
  rw [flatE, List.flatMap_append]; rfl
theorem own_evs {w : World} {base : Nat} {v : Value} {es : List EV} (h : w.ownsRow base 36 5 v es.length (flatE es)) : ∃ A cap, v = .slice A es.length cap ∧ EvsAt w w.heap.size A es := by
  obtain ⟨hlen, ⟨rfl, hx⟩ | ⟨g, cap, cur, rfl, hb, hh, hcap, hmax, hsz, htk⟩⟩ := h
  · have h0 : es.length = 0 := hx
    exact ⟨none, 0, by rw [h0], fun h => by omega⟩
  · refine ⟨_, cap, rfl, fun hn => ⟨g, 0, rfl, (Array.getElem?_eq_some_iff.1 hh).1, fun i hi => ?_⟩⟩
    have k : ∀ j, j < 5 → w.cell? ⟨g, 0 + i * 5 + j, none⟩ = es[i].cells[j]? := fun j hj => by
      rw [Nat.zero_add, blk_cell hh, ← flatE_at es i hi j hj, ← htk, List.getElem?_take, if_pos (by omega), Array.getElem?_toList]
    exact ⟨k 0 (by omega), k 1 (by omega), k 2 (by omega), k 3 (by omega), k 4 (by omega)⟩

theorem cut_hit {t : List UInt8} (h : (10 : UInt8) ∈ t) : Lib.cut t [10] = (t.takeWhile (· ≠ 10), (t.dropWhile (· ≠ 10)).drop 1, true) := by
  have hi := (idx_one 10 t).1 h
  obtain ⟨h1, h2⟩ := takeDrop 10 t
  unfold Lib.cut
  rw [hi, if_pos (by omega), Int.toNat_natCast, h1]
  show (_, t.drop (_ + 1), true) = _
  rw [h2]
theorem cut_no {t : List UInt8} (h : (10 : UInt8) ∉ t) : Lib.cut t [10] = (t, [], false) := by
  have hi := (idx_one 10 t).2 h
  unfold Lib.cut
  rw [hi, if_neg (by decide)]
theorem cut_w (t : List UInt8) (ht : t.length ≤ 16000) (w : World) (hg : GW w) :
    Calls Tryd.prog 15 #[St t, St [10]] w fun e w' => e = .returned (.tuple #[St (Lib.cut t [10]).1, St (Lib.cut t [10]).2.1, .bool (Lib.cut t [10]).2.2]) ∧ ∃ n, w' = w.drewN n := by
  obtain ⟨m, hm⟩ := hg.mx
  exact Tryd.strings_Cut ⟨t.toArray⟩ ⟨#[10]⟩ m w (by rw [bsz]; omega) hm
theorem drop1_len (c : UInt8) (t : List UInt8) : ((t.dropWhile (· ≠ c)).drop 1).length ≤ t.length := by
  have h1 := (takeDrop c t).2
  rw [← h1, List.length_drop]; omega
theorem takeW_len (c : UInt8) (t : List UInt8) : (t.takeWhile (· ≠ c)).length + ((t.dropWhile (· ≠ c)).drop 1).length + 1 ≤ t.length + 1 := by
  have h := List.takeWhile_append_dropWhile (p := (· ≠ c)) (l := t)
  have := congrArg List.length h
  rw [List.length_append] at this
  rw [List.length_drop]; omega

theorem below_drewN {B : Nat} {a w : World} (h : Below B a w) (n : Nat) : Below B a (w.drewN n) := ⟨h.os, h.tape, h.output, h.size, h.block⟩
theorem own_next36 {A B : World} {v : Value} {n : Nat} {xs : List Value} {base : Nat} (hown : A.ownsRow base 36 5 v n xs) (hb : Below A.heap.size A B) : B.ownsRow base 36 5 v n xs :=
  World.ownsRow.kept (row := none) hown ⟨hb.os, hb.tape, hb.output, hb.size, fun i hi _ => hb.block i hi⟩ (by cases v.ownBlock <;> simp)
theorem own_ge36 {w : World} {base : Nat} {e : TypeId} {size n : Nat} {v : Value} {xs : List Value} (h : w.ownsRow base e size v n xs) : ∀ k, v.ownBlock = some k → base ≤ k := own_ge h
theorem cells_new (w : World) (cs : Array Value) (T : TypeId) : ∀ (j : Nat) (u : Value), cs.toList[j]? = some u → (w.alloc (.cells cs T)).cell? ((⟨w.heap.size, 0, none⟩ : Addr).add j) = some u := by
  intro j u h
  have e : (⟨w.heap.size, 0, none⟩ : Addr).add j = ⟨w.heap.size, j, none⟩ := by
    unfold Addr.add; split
    · rename_i h0; subst h0; rfl
    · simp
  rw [e, blk_cell (heap_alloc_last w _), ← Array.getElem?_toList]; exact h
/-- One round of a reader. -/
theorem readGo_cons {acc : List EV} {k : Nat} {x : List UInt8} {rest : List (List UInt8)} (hr : rest ≠ []) :
    readGo acc k (x :: rest) = if (parseE x).2 ≠ 0 then ([], k, 13) else if 600 ≤ acc.length then ([], k, 15) else readGo (acc ++ [(parseE x).1]) (k + 1) rest := by
  rw [readGo, if_neg hr]
theorem readGo_one {acc : List EV} {k : Nat} {x : List UInt8} : readGo acc k [x] = if x = [] then (acc, 0, 0) else ([], k, 13) := by
  rw [readGo, if_pos rfl]

def readV (r : List EV × Nat × Int) (e : Ending) (w' : World) : Prop :=
  ∃ A cap, e = .returned (.tuple #[.slice A r.1.length cap, .int .i64 r.2.1, .int .i64 r.2.2]) ∧ EvsAt w' w'.heap.size A r.1

set_option maxRecDepth 100000 in
set_option maxHeartbeats 4000000 in
theorem read_w (t : List UInt8) (ht : t.length ≤ 140737488355328) (w : World) (hg : GW w) : Calls Tryd.prog 6 #[St t] w fun e w' => readV (readE t) e w' ∧ Below w.heap.size w w' := by
  by_cases h16 : 16000 < t.length
  · have HV := Lib.hid (show readE t = ([], 0, 15) by unfold readE; rw [if_pos h16])
    go_enter Tryd.func6, Tryd.ntmps6
    go_wp2
    go_ret3
    exact ⟨by rw [HV.out]; exact ⟨none, 0, rfl, fun h => by simp at h⟩, Below.refl _ _⟩
  · have HV := Lib.hid (show readE t = readGo [] 0 (spl 10 t) by unfold readE; rw [if_neg h16])
    have ht16 : t.length ≤ 16000 := by omega
    have Hg := Lib.hid hg
    clear hg h16
    obtain ⟨i0, hi, hz0, hz1, hz2⟩ := info_parts info36
    go_enter Tryd.func6, Tryd.ntmps6
    go_wp2
    go_loopw [0, 5, 6] (fun a v i wr => ∃ (k : Nat) (acc : List EV) (r : List UInt8), a = St r ∧ i = .int .i64 k ∧ k + r.length ≤ t.length ∧ acc.length ≤ 600 ∧ r.length ≤ 16000 ∧ Hid (readGo acc k (spl 10 r) = readGo [] 0 (spl 10 t)) ∧ Hid (Below w.heap.size w wr) ∧ wr.ownsRow w.heap.size 36 5 v acc.length (flatE acc)) (fun a _ _ _ => match a with | .string s => s.size | _ => 0)
    case atStart => exact ⟨0, [], t, rfl, rfl, by omega, by simp, ht16, rfl, Below.refl _ _, World.ownsRow_nil _ _ _ _⟩
    case round =>
      obtain ⟨k, acc, r, rfl, rfl, hk, hacc, hr16, HR, HB, hown⟩ := hrel
      obtain ⟨A0, cap0, rfl, hev⟩ := own_evs hown
      by_cases hr : r = []
      · subst hr
        have HF := Lib.hid (show readE t = (acc, 0, 0) by rw [HV.out, ← HR.out]; exact readGo_one)
        clear hown
        go_wp2
        go_ret3
        exact ⟨by rw [HF.out]; exact ⟨A0, cap0, rfl, hev⟩, HB.out⟩
      · have hr' : r.isEmpty = false := by cases r <;> simp_all
        have HRN := Lib.hid hr
        clear hr
        go_wp2_with fail
        refine (cut_w r hr16 _ (Hg.out.next HB.out)).mono ?_
        rintro _ _ ⟨rfl, n, rfl⟩
        have HB1 := Lib.hid (below_drewN HB.out n)
        have hown1 : (wr.drewN n).ownsRow w.heap.size 36 5 (.slice A0 acc.length cap0) acc.length (flatE acc) := hown
        clear hown HB hev
        generalize wr.drewN n = w1 at *
        have hsz1 := HB1.out.size
        by_cases hm : (10 : UInt8) ∈ r
        · rw [cut_hit hm]
          have HSP := Lib.hid (show readGo acc k (spl 10 r) = if (parseE (r.takeWhile (· ≠ 10))).2 ≠ 0 then ([], k, 13) else if 600 ≤ acc.length then ([], k, 15) else readGo (acc ++ [(parseE (r.takeWhile (· ≠ 10))).1]) (k + 1) (spl 10 ((r.dropWhile (· ≠ 10)).drop 1)) by
            rw [spl_yes hm, readGo_cons (spl_ne _ _)])
          have hlen := takeW_len 10 r
          have hlt : ((r.dropWhile (· ≠ 10)).drop 1).length < r.length := by
            have := congrArg List.length (tw_split hm)
            rw [List.length_append, List.length_cons] at this; omega
          clear hm
          generalize (r.dropWhile (· ≠ 10)).drop 1 = r2 at *
          generalize r.takeWhile (· ≠ 10) = x at *
          go_wp2_with fail
          refine (parse_w x (by omega) _ (Hg.out.next HB1.out)).mono ?_
          rintro _ w2 ⟨rfl, hb2⟩
          have HB2 := Lib.hid (HB1.out.trans (hb2.mono hsz1))
          have hown2 := own_next36 hown1 hb2
          have hsz2 := HB2.out.size
          clear hb2 hown1
          unfold parseV
          generalize parseE x = pe at *
          obtain ⟨⟨pk, pc, pi, pm, pn⟩, er⟩ := pe
          unfold EV.agg EV.cells
          simp only [] at HSP
          by_cases her : er = 0
          · subst her
            by_cases h600 : acc.length = 600
            · have HF := Lib.hid (show readE t = ([], k, 15) by rw [HV.out, ← HR.out, HSP.out, if_neg (by simp), if_pos (by omega)])
              have h6 : ((acc.length : Int) == 600) = true := by rw [beq_iff_eq]; omega
              go_wp2
              go_ret3
              exact ⟨by rw [HF.out]; exact ⟨none, 0, rfl, fun h => by simp at h⟩, HB2.out.alloc hsz2 _⟩
            · have h6 : ((acc.length : Int) == 600) = false := by rw [beq_eq_false_iff_ne]; omega
              have HF := Lib.hid (show readGo (acc ++ [⟨pk, pc, pi, pm, pn⟩]) (k + 1) (spl 10 r2) = readGo [] 0 (spl 10 t) by rw [← HR.out, HSP.out, if_neg (by simp), if_neg (by omega)])
              have HFL := Lib.hid (flatE_snoc acc ⟨pk, pc, pi, pm, pn⟩)
              clear HSP
              go_wp2_with (at_builtin; refine wpList_append_own _ rfl _ _ 23 rfl w.heap.size 36 i0 _ 5 40 Tryd.underlying23 hi hz0 hz1 hz2 rfl (by decide) _ _ _ rfl ((hown2.alloc _).alloc _) ⟨w2.heap.size + 1, 0, none⟩ 1 1 [.int .i64 pk, .int .i64 pc, .int .i64 pi, .int .u64 pm, .int .i64 pn] rfl rfl ?c1 ?c2 ?c3 ?c4 ?c5 ?_)
              case c1 => exact fun j u h => by have := cells_new (w2.alloc (.cells #[.int .i64 pk, .int .i64 pc, .int .i64 pi, .int .u64 pm, .int .i64 pn] 36)) #[.int .i64 pk, .int .i64 pc, .int .i64 pi, .int .u64 pm, .int .i64 pn] 36 j u h; rwa [World.size_alloc] at this
              case c2 => intro u hu; simp only [List.mem_cons, List.mem_nil_iff, or_false] at hu; rcases hu with rfl | rfl | rfl | rfl | rfl <;> rfl
              case c3 => unfold maxLen; omega
              case c4 => omega
              case c5 => simp; omega
              intro v' w3 hown3 hgrow _
              have HB3 := Lib.hid (((HB2.out.alloc hsz2 _).alloc (by simp; omega) _).grown hgrow (by simp; omega) (own_ge36 hown2))
              have HO := Lib.hid hown3
              clear hown3 hgrow hown2
              go_wp2
              go_roundw
              case rel => exact ⟨k + 1, acc ++ [⟨pk, pc, pi, pm, pn⟩], r2, rfl, by go_num, by omega, by simp; omega, by omega, HF, HB3, by rw [HFL.out, List.length_append]; exact HO.out⟩
              case measure => simp [ByteArray.size]; omega
          · have HF := Lib.hid (show readE t = ([], k, 13) by rw [HV.out, ← HR.out, HSP.out, if_pos (by simpa using her)])
            have h6 : (er == 0) = false := by rw [beq_eq_false_iff_ne]; exact her
            have h7 : (er != 0) = true := by rw [bne_iff_ne]; exact her
            clear HSP her
            go_wp2
            go_ret3
            exact ⟨by rw [HF.out]; exact ⟨none, 0, rfl, fun h => by simp at h⟩, HB2.out.alloc hsz2 _⟩
        · rw [cut_no hm]
          have HF := Lib.hid (show readE t = ([], k, 13) by rw [HV.out, ← HR.out, spl_none hm, readGo_one, if_neg HRN.out])
          clear hm
          go_wp2_with fail
          refine (parse_w r hr16 _ (Hg.out.next HB1.out)).mono ?_
          rintro _ w2 ⟨rfl, hb2⟩
          have HB2 := Lib.hid (HB1.out.trans (hb2.mono hsz1))
          have hsz2 := HB2.out.size
          clear hb2 hown1
          unfold parseV
          generalize parseE r = pe at *
          obtain ⟨⟨pk, pc, pi, pm, pn⟩, er⟩ := pe
          unfold EV.agg EV.cells
          go_wp2
          go_ret3
          exact ⟨by rw [HF.out]; exact ⟨none, 0, rfl, fun h => by simp at h⟩, HB2.out.alloc hsz2 _⟩


/-! ### davitref26.Same -/
set_option maxRecDepth 100000 in
set_option maxHeartbeats 2000000 in
theorem same_any (es : List EV) (A B : Option Addr) (ca cb : Nat) (w : World) (hn : es.length ≤ 100000) (ha : EvsAt w w.heap.size A es) (hb : EvsAt w w.heap.size B es) :
    Calls Tryd.prog 8 #[.slice A es.length ca, .slice B es.length cb] w fun e w' => e = .returned (.bool true) ∧ Below w.heap.size w w' := by
  have HA := Lib.hid ha
  have HB := Lib.hid hb
  clear ha hb
  go_enter Tryd.func8, Tryd.ntmps8
  go_wp2
  go_loopw [5] (fun i wr => ∃ k : Nat, k ≤ es.length ∧ i = .int .i64 k ∧ Hid (Below w.heap.size w wr)) (fun i _ => es.length - (intOf i).toNat)
  case atStart => exact ⟨0, by omega, rfl, Below.refl _ _⟩
  case round =>
    obtain ⟨k, hk, rfl, HW⟩ := hrel
    by_cases hlt : k < es.length
    · obtain ⟨b, off, rfl, hbw, hc⟩ := HA.out.next HW.out (by omega)
      obtain ⟨h0, h1, h2, h3, h4⟩ := hc k hlt
      obtain ⟨b', off', rfl, hbw', hc'⟩ := HB.out.next HW.out (by omega)
      obtain ⟨g0, g1, g2, g3, g4⟩ := hc' k hlt
      generalize es[k] = x at *
      clear hc hc'
      go_wp2
      go_quiet (fail)
      go_wp2
      go_roundw
      case rel => exact ⟨k + 1, by omega, by go_num, below_drewN HW.out _⟩
      case measure => simp [intOf]; omega
    · obtain rfl : k = es.length := by omega
      go_wp2
      go_ret
      exact ⟨rfl, HW.out⟩


/-! ### davitref32.Read -/
theorem readGo_last {acc : List EV} {k : Nat} {L : List (List UInt8)} (h : k + 1 = L.length) : readGo acc k (L.drop k) = if L[k]'(by omega) = [] then (acc, 0, 0) else ([], k, 13) := by
  rw [List.drop_eq_getElem_cons (by omega), List.drop_eq_nil_of_le (by omega)]; exact readGo_one
theorem readGo_mid {acc : List EV} {k : Nat} {L : List (List UInt8)} (h : k + 1 < L.length) : readGo acc k (L.drop k) = if (parseE (L[k]'(by omega))).2 ≠ 0 then ([], k, 13) else if 600 ≤ acc.length then ([], k, 15) else readGo (acc ++ [(parseE (L[k]'(by omega))).1]) (k + 1) (L.drop (k + 1)) := by
  rw [List.drop_eq_getElem_cons (by omega : k < L.length)]
  exact readGo_cons (fun e => by have := congrArg List.length e; rw [List.length_drop, List.length_nil] at this; omega)

set_option maxRecDepth 100000 in
set_option maxHeartbeats 4000000 in
theorem refRead_any (t : List UInt8) (ht : t.length ≤ 140737488355328) (w : World) : Calls Tryd.prog 7 #[St t] w fun e w' => readV (readE t) e w' ∧ Below w.heap.size w w' := by
  by_cases h16 : 16000 < t.length
  · have HV := Lib.hid (show readE t = ([], 0, 15) by unfold readE; rw [if_pos h16])
    go_enter Tryd.func7, Tryd.ntmps7
    go_wp2
    go_ret3
    exact ⟨by rw [HV.out]; exact ⟨none, 0, rfl, fun h => by simp at h⟩, Below.refl _ _⟩
  · have HV := Lib.hid (show readE t = readGo [] 0 (spl 10 t) by unfold readE; rw [if_neg h16])
    have ht16 : t.length ≤ 16000 := by omega
    clear h16
    obtain ⟨i0, hi, hz0, hz1, hz2⟩ := info_parts info36
    go_enter Tryd.func7, Tryd.ntmps7
    go_wp2_with fail
    refine (refSplit_any t 10 ht16 _).mono ?_
    rintro _ w1 ⟨v, rfl, hown, hb1⟩
    have hpos : 0 < (spl 10 t).length := by cases h : spl 10 t with
      | nil => exact absurd h (spl_ne _ _)
      | cons x xs => simp
    obtain ⟨g, cap, rfl, hbg, hgw, hcap, hcl⟩ := own_cells hown hpos
    have HC := Lib.hid (show ∀ j (hj : j < (spl 10 t).length), w1.cell? ⟨g, j, none⟩ = some (St (spl 10 t)[j]) from fun j hj => by rw [hcl j hj]; simp [hj])
    have HB0 := Lib.hid hb1
    have hs0 := hb1.size
    have hlenS := spl_len_le 10 t
    have HPL := Lib.hid (spl_part_le 10 t)
    clear hown hcl hb1
    generalize spl 10 t = L at *
    go_wp2
    go_loopw [5, 7, 8, 9] (fun v i _ _ wr => ∃ (k : Nat) (acc : List EV), i = .int .i64 k ∧ k + 1 ≤ L.length ∧ acc.length ≤ 600 ∧ Hid (readGo acc k (L.drop k) = readGo [] 0 L) ∧ Hid (Below w1.heap.size w1 wr) ∧ wr.ownsRow w1.heap.size 36 5 v acc.length (flatE acc)) (fun _ i _ _ _ => L.length - (intOf i).toNat)
    case atStart => exact ⟨0, [], rfl, by omega, by simp, rfl, Below.refl _ _, World.ownsRow_nil _ _ _ _⟩
    case round =>
      obtain ⟨k, acc, rfl, hk, hacc, HR, HB, hown⟩ := hrel
      obtain ⟨A0, cap0, rfl, hev⟩ := own_evs hown
      have hsz := HB.out.size
      have hcell : wr.cell? ⟨g, k, none⟩ = some (St (L[k]'(by omega))) := (HB.out.cell (p := ⟨g, k, none⟩) hgw).trans (HC.out _ (by omega))
      by_cases hlt : k + 1 < L.length
      · have HM := Lib.hid (readGo_mid (acc := acc) hlt)
        have hx := HPL.out L[k] (List.getElem_mem _)
        have hlt2 : (k : Int) < (L.length : Int) - 1 := by omega
        generalize L[k] = x at *
        go_wp2_with fail
        refine (refParse_any x (by omega) _).mono ?_
        rintro _ w2 ⟨rfl, hb2⟩
        have HB2 := Lib.hid (HB.out.trans (hb2.mono hsz))
        have HA2 := Lib.hid (HB0.out.trans (HB2.out.mono hs0))
        have hown2 := own_next36 hown hb2
        have hsz2 := HB2.out.size
        have hsz3 := HA2.out.size
        clear hb2 hown hcell
        unfold parseV
        generalize parseE x = pe at *
        obtain ⟨⟨pk, pc, pi, pm, pn⟩, er⟩ := pe
        unfold EV.agg EV.cells
        simp only [] at HM
        by_cases her : er = 0
        · subst her
          by_cases h600 : 600 ≤ acc.length
          · have HF := Lib.hid (show readE t = ([], k, 15) by rw [HV.out, ← HR.out, HM.out, if_neg (by simp), if_pos (by omega)])
            go_wp2
            go_ret3
            exact ⟨by rw [HF.out]; exact ⟨none, 0, rfl, fun h => by simp at h⟩, HA2.out.alloc hsz3 _⟩
          · have HF := Lib.hid (show readGo (acc ++ [⟨pk, pc, pi, pm, pn⟩]) (k + 1) (L.drop (k + 1)) = readGo [] 0 L by rw [← HR.out, HM.out, if_neg (by simp), if_neg (by omega)])
            have HFL := Lib.hid (flatE_snoc acc ⟨pk, pc, pi, pm, pn⟩)
            have h6 : acc.length < 600 := by omega
            clear HM h600
            go_wp2_with (at_builtin; refine wpList_append_own _ rfl _ _ 23 rfl w1.heap.size 36 i0 _ 5 40 Tryd.underlying23 hi hz0 hz1 hz2 rfl (by decide) _ _ _ rfl ((hown2.alloc _).alloc _) ⟨w2.heap.size + 1, 0, none⟩ 1 1 [.int .i64 pk, .int .i64 pc, .int .i64 pi, .int .u64 pm, .int .i64 pn] rfl rfl ?c1 ?c2 ?c3 ?c4 ?c5 ?_)
            case c1 => exact fun j u h => by have := cells_new (w2.alloc (.cells #[.int .i64 pk, .int .i64 pc, .int .i64 pi, .int .u64 pm, .int .i64 pn] 36)) #[.int .i64 pk, .int .i64 pc, .int .i64 pi, .int .u64 pm, .int .i64 pn] 36 j u h; rwa [World.size_alloc] at this
            case c2 => intro u hu; simp only [List.mem_cons, List.mem_nil_iff, or_false] at hu; rcases hu with rfl | rfl | rfl | rfl | rfl <;> rfl
            case c3 => unfold maxLen; omega
            case c4 => omega
            case c5 => simp; omega
            intro v' w3 hown3 hgrow _
            have HB3 := Lib.hid (((HB2.out.alloc hsz2 _).alloc (by simp; omega) _).grown hgrow (by simp; omega) (own_ge36 hown2))
            have HO := Lib.hid hown3
            clear hown3 hgrow hown2
            go_wp2
            go_roundw
            case rel => exact ⟨k + 1, acc ++ [⟨pk, pc, pi, pm, pn⟩], by go_num, by omega, by simp; omega, HF, HB3, by rw [HFL.out, List.length_append]; exact HO.out⟩
            case measure => simp [intOf]; omega
        · have HF := Lib.hid (show readE t = ([], k, 13) by rw [HV.out, ← HR.out, HM.out, if_pos (by simpa using her)])
          have h6 : (er == 0) = false := by rw [beq_eq_false_iff_ne]; exact her
          have h7 : (er != 0) = true := by rw [bne_iff_ne]; exact her
          clear HM her
          go_wp2
          go_ret3
          exact ⟨by rw [HF.out]; exact ⟨none, 0, rfl, fun h => by simp at h⟩, HA2.out.alloc hsz3 _⟩
      · have hke : k + 1 = L.length := by omega
        have HM := Lib.hid (readGo_last (acc := acc) hke)
        have hev' := hev
        have HE := Lib.hid hke
        have hk1 : (L.length : Int) - 1 = k := by omega
        have HAll := Lib.hid (HB0.out.trans (HB.out.mono hs0))
        generalize L[k] = x at *
        rw [← hke]
        clear hke hown
        by_cases hx : x = []
        · have HF := Lib.hid (show readE t = (acc, 0, 0) by rw [HV.out, ← HR.out, HM.out, if_pos hx])
          subst hx
          go_wp2
          go_ret3
          exact ⟨by rw [HF.out]; exact ⟨A0, cap0, rfl, hev⟩, HAll.out⟩
        · have HF := Lib.hid (show readE t = ([], k, 13) by rw [HV.out, ← HR.out, HM.out, if_neg hx])
          have hx' : x.isEmpty = false := by cases x <;> simp_all
          clear hx
          go_wp2
          go_ret3
          exact ⟨by rw [HF.out]; exact ⟨none, 0, rfl, fun h => by simp at h⟩, HAll.out⟩

end Go.Proofs.YtcjngndgmedabaaDoor
