/-
  Kinds, masks and numbers: words.of, cores, number and masked.
-/
import Derived.Test.YtcjngndgmedabaaDoorWc
import Derived.Maps.AppendAt
import Derived.WalkLawsBesides
namespace Go.Proofs.YtcjngndgmedabaaDoor
open Go Go.RowKit
set_option linter.unusedVariables false
set_option linter.unusedSimpArgs false

theorem blk_cell {w : World} {b : Nat} {cs : Array Value} {T : TypeId} {fz : Nat × Nat} (h : w.heap[b]? = some (.cells cs T fz)) (o : Nat) : w.cell? ⟨b, o, none⟩ = cs[o]? := by
  unfold World.cell?; rw [h]; rfl
theorem blk_free {w : World} {b : Nat} {cs : Array Value} {T : TypeId} (h : w.heap[b]? = some (.cells cs T (0, 0))) (o : Nat) : w.frozen? ⟨b, o, none⟩ = false := by
  unfold World.frozen?; rw [h]; simp
theorem blk_set {w : World} {b : Nat} {cs : Array Value} {T : TypeId} {fz : Nat × Nat} (h : w.heap[b]? = some (.cells cs T fz)) (o : Nat) (v : Value) : (w.setCell ⟨b, o, none⟩ v).heap[b]? = some (.cells (cs.setIfInBounds o v) T fz) := by
  obtain ⟨hlt, he⟩ := Array.getElem?_eq_some_iff.1 h
  simp only [World.setCell, Array.getElem?_modify, if_true, h, Option.map_some]
  rfl
theorem own_ge {w : World} {base : Nat} {e : TypeId} {size n : Nat} {v : Value} {xs : List Value} (h : w.ownsRow base e size v n xs) : ∀ k, v.ownBlock = some k → base ≤ k := by
  intro k hk
  rcases h.2 with ⟨rfl, _⟩ | ⟨g, cap, cur, rfl, hb, _⟩
  · simp [Value.ownBlock] at hk
  · have : g = k := by simpa [Value.ownBlock] using hk
    omega

theorem own_cells {w : World} {base : Nat} {e : TypeId} {n : Nat} {v : Value} {xs : List Value} (h : w.ownsRow base e 1 v n xs) (hn : 0 < n) :
    ∃ g cap, v = .slice (some ⟨g, 0, none⟩) n cap ∧ base ≤ g ∧ g < w.heap.size ∧ n ≤ cap ∧ ∀ j, j < n → w.cell? ⟨g, j, none⟩ = xs[j]? := by
  obtain ⟨hlen, ⟨rfl, hx⟩ | ⟨g, cap, cur, rfl, hb, hh, hrest⟩⟩ := h
  · simp at hlen; subst hx; simp at hlen; omega
  · obtain ⟨hcap, _, hsz, htk⟩ := hrest
    refine ⟨g, cap, rfl, hb, (Array.getElem?_eq_some_iff.1 hh).1, hcap, fun j hj => ?_⟩
    rw [blk_cell hh j, ← htk, List.getElem?_take, if_pos (by omega), Array.getElem?_toList]

theorem fmt_any (n : Int) (hn : I64 n) (w : World) (hg : GW w) : Calls Tryd.prog 24 #[.int .i64 n, .int .i64 10] w fun e w' => e = .returned (St (Lib.itoa n)) ∧ Below w.heap.size w w' :=
  (Tryd.strconv_FormatInt_10 n hn.1 hn.2 w hg.pow).mono fun e w' ⟨he, k, os, hw⟩ => ⟨he, hw ▸ Lib.below_grow _ w (Nat.le_refl _) k os⟩
theorem itoa_any (n : Int) (hn : I64 n) (w : World) (hg : GW w) : Calls Tryd.prog 22 #[.int .i64 n] w fun e w' => e = .returned (St (Lib.itoa n)) ∧ Below w.heap.size w w' :=
  (Tryd.strconv_Itoa n hn.1 hn.2 w hg.pow).mono fun e w' ⟨he, k, os, hw⟩ => ⟨he, hw ▸ Lib.below_grow _ w (Nat.le_refl _) k os⟩
theorem lib_parse_ok (l : List UInt8) (hl : l.length ≤ 4000) (v : Int) (h : Lib.parseIntB 64 l = .ok v) (w : World) : Calls Tryd.prog 44 #[St l, .int .i64 10, .int .i64 64] w fun e w' => e = .returned (.tuple #[.int .i64 v, .nilIface]) ∧ Below w.heap.size w w' :=
  (Tryd.strconv_ParseInt_10_at64_ok ⟨l.toArray⟩ (by rw [bsz]; omega) v (by simpa using h) w).mono fun e w' ⟨he, hw⟩ => ⟨he, by
    rcases hw with rfl | ⟨t, rfl⟩
    · exact Below.refl _ _
    · exact Lib.bytesWorld_below _ _ _⟩
theorem lib_parse_err (l : List UInt8) (hl : l.length ≤ 4000) (h : ∀ v, Lib.parseIntB 64 l ≠ .ok v) (w : World) (hg : GW w) : Calls Tryd.prog 44 #[St l, .int .i64 10, .int .i64 64] w fun e w' => (∃ v N, e = .returned (.tuple #[.int .i64 v, .iface 117 (.pointer (some ⟨N, 0, none⟩))])) ∧ Below w.heap.size w w' := by
  obtain ⟨tp, p, hs⟩ := hg.syn
  obtain ⟨tp2, p2, hr⟩ := hg.rng
  cases hp : Lib.parseIntB 64 l
  · exact absurd hp (h _)
  · exact (Any.strconv_ParseInt_10_at64_syntax Tryd.laysC174 ⟨l.toArray⟩ (by rw [bsz]; omega) (by simpa using hp) _ w hs (.inr ⟨_, _, rfl⟩)).mono fun e w' ⟨N, he, _, _, hb⟩ => ⟨⟨0, N, he⟩, hb⟩
  · exact (Tryd.strconv_ParseInt_10_at64_range ⟨l.toArray⟩ (by rw [bsz]; omega) (by simpa using hp) _ w hr (.inr ⟨_, _, rfl⟩)).mono fun e w' ⟨N, he, _, _, hb⟩ => ⟨⟨_, N, he⟩, hb⟩

/-- The panic by which words tells that a word can not be. -/
abbrev never : Ending := .panicked [{ v := .iface 61 (.agg #[]), recovered := false }]
theorem must_true (w : World) : Calls Tryd.prog 28 #[.bool true] w fun e w' => e = .returned (.tuple #[]) ∧ w' = w := by
  go_enter Tryd.func28, Tryd.ntmps28
  go_wp2
  go_end0
  exact ⟨rfl, rfl⟩
theorem must_false (w : World) : Calls Tryd.prog 28 #[.bool false] w fun e w' => e = never ∧ w' = w := by
  go_enter Tryd.func28, Tryd.ntmps28
  go_wp2
  exact ⟨rfl, rfl, rfl⟩

set_option maxHeartbeats 1000000 in
theorem number_ok (l : List UInt8) (hl : l.length ≤ 4000) (n : Int) (h : numOf l = some n) (w : World) (hg : GW w) : Calls Tryd.prog 29 #[St l] w fun e w' => e = .returned (.int .i64 n) ∧ Below w.heap.size w w' := by
  obtain ⟨hn, hit⟩ := numOf_some h
  have hp := Lib.hid (show Lib.parseIntB 64 l = .ok n by rw [← hit]; exact parse_itoa n hn)
  have HI := Lib.hid hit
  have Hg := Lib.hid hg
  clear h hit hg
  go_enter Tryd.func29, Tryd.ntmps29
  go_wp2_with fail
  refine (lib_parse_ok l hl n hp.out _).mono ?_
  rintro _ w1 ⟨rfl, hb1⟩
  have HB1 := Lib.hid hb1; clear hb1
  go_wp2_with fail
  refine (fmt_any n hn _ (Hg.out.next HB1.out)).mono ?_
  rintro _ w2 ⟨rfl, hb2⟩
  have HB2 := Lib.hid hb2; clear hb2
  rw [HI.out]
  go_wp2_with fail
  refine (must_true _).mono ?_
  rintro _ w3 ⟨rfl, rfl⟩
  go_wp2
  go_ret
  exact ⟨rfl, HB1.out.trans (HB2.out.mono HB1.out.size)⟩

set_option maxHeartbeats 1000000 in
theorem number_no (l : List UInt8) (hl : l.length ≤ 4000) (h : numOf l = none) (w : World) (hg : GW w) : Calls Tryd.prog 29 #[St l] w fun e w' => e = never ∧ Below w.heap.size w w' := by
  by_cases hp : ∃ v, Lib.parseIntB 64 l = .ok v
  · obtain ⟨v, hp⟩ := hp
    have hI : I64 v := by
      have hb := Lib.parseIntB_bounds hp
      have : (2 : Nat) ^ (64 - 1) = 9223372036854775808 := by decide
      exact ⟨by omega, by omega⟩
    have hne : (Lib.itoa v == l) = false := by
      rw [beq_eq_false_iff_ne]; intro e
      unfold numOf at h; rw [hp] at h; simp [e] at h
    have Hp := Lib.hid hp
    have Hg := Lib.hid hg
    clear h hp hg
    go_enter Tryd.func29, Tryd.ntmps29
    go_wp2_with fail
    refine (lib_parse_ok l hl v Hp.out _).mono ?_
    rintro _ w1 ⟨rfl, hb1⟩
    have HB1 := Lib.hid hb1; clear hb1
    go_wp2_with fail
    refine (fmt_any v hI _ (Hg.out.next HB1.out)).mono ?_
    rintro _ w2 ⟨rfl, hb2⟩
    have HB2 := Lib.hid hb2; clear hb2
    go_wp2_with fail
    refine (must_false _).mono ?_
    rintro _ w3 ⟨rfl, rfl⟩
    go_wp2
    exact ⟨rfl, rfl, HB1.out.trans (HB2.out.mono HB1.out.size)⟩
  · have Hp := Lib.hid (show ∀ v, Lib.parseIntB 64 l ≠ .ok v from fun v e => hp ⟨v, e⟩)
    have Hg := Lib.hid hg
    clear h hp hg
    go_enter Tryd.func29, Tryd.ntmps29
    go_wp2_with fail
    refine (lib_parse_err l hl Hp.out _ Hg.out).mono ?_
    rintro _ w1 ⟨⟨v, N, rfl⟩, hb1⟩
    have HB1 := Lib.hid hb1; clear hb1
    go_wp2_with fail
    refine (must_false _).mono ?_
    rintro _ w3 ⟨rfl, rfl⟩
    go_wp2
    exact ⟨rfl, rfl, HB1.out⟩
theorem number_w (l : List UInt8) (hl : l.length ≤ 4000) (w : World) (hg : GW w) : Calls Tryd.prog 29 #[St l] w fun e w' =>
    ((∃ n, I64 n ∧ numOf l = some n ∧ e = .returned (.int .i64 n)) ∨ (numOf l = none ∧ e = never)) ∧ Below w.heap.size w w' := by
  cases h : numOf l with
  | none => exact (number_no l hl h w hg).mono fun e w' ⟨he, hb⟩ => ⟨.inr ⟨rfl, he⟩, hb⟩
  | some n => exact (number_ok l hl n h w hg).mono fun e w' ⟨he, hb⟩ => ⟨.inl ⟨n, (numOf_some h).1, rfl, he⟩, hb⟩

end Go.Proofs.YtcjngndgmedabaaDoor
