/-
  The reference reader: davitref32.split, kinds, kind, Name and Kind.
-/
import Derived.Test.YtcjngndgmedabaaDoorWg
import Derived.Deep.WholeRow
import Derived.BigRegion
namespace Go.Proofs.YtcjngndgmedabaaDoor
open Go Go.RowKit
set_option linter.unusedVariables false
set_option linter.unusedSimpArgs false


theorem own_one' {W : World} {base g : Nat} {v : Value} (hb : base ≤ g) (hg : W.heap[g]? = some (.cells #[v] 9 (0, 0))) : W.ownsRow base 9 1 (.slice (some ⟨g, 0, none⟩) 1 1) 1 [v] :=
  ⟨rfl, .inr ⟨g, 1, #[v], rfl, hb, hg, Nat.le_refl _, by unfold maxLen; omega, rfl, rfl⟩⟩
theorem own_last {W : World} {base : Nat} {v : Value} {q : Nat} {xs : List Value} {x : Value} (hq : xs.length = q) (h : W.ownsRow base 9 1 v (q + 1) (xs ++ [x])) :
    ∃ g cap, v = .slice (some ⟨g, 0, none⟩) (q + 1) cap ∧ base ≤ g ∧ q + 1 ≤ cap ∧ W.cell? ⟨g, q, none⟩ = some x ∧ W.frozen? ⟨g, q, none⟩ = false ∧
      ∀ y, (W.setCell ⟨g, q, none⟩ y).ownsRow base 9 1 (.slice (some ⟨g, 0, none⟩) (q + 1) cap) (q + 1) (xs ++ [y]) := by
  obtain ⟨hlen, ⟨rfl, hx⟩ | ⟨g, cap, cur, rfl, hb, hh, hcap, hmax, hsz, htk⟩⟩ := h
  · omega
  · have hat : cur[q]? = some x := by
      have : (cur.toList.take ((q + 1) * 1))[q]? = some x := by rw [htk, List.getElem?_append_right (by omega)]; simp [hq]
      rw [List.getElem?_take, if_pos (by omega), Array.getElem?_toList] at this
      exact this
    refine ⟨g, cap, rfl, hb, hcap, (blk_cell hh q).trans hat, blk_free hh q, fun y => ⟨by simp [hq], .inr ⟨g, cap, cur.setIfInBounds q y, rfl, hb, blk_set hh q y, hcap, hmax, by simpa using hsz, ?_⟩⟩⟩
    have hcq : q < cur.size := by omega
    apply List.ext_getElem?
    intro j
    have hj := congrArg (fun z => z[j]?) htk
    simp only [List.getElem?_take, Array.getElem?_toList, Array.getElem?_setIfInBounds] at hj ⊢
    by_cases hjq : j = q
    · subst hjq
      rw [if_pos (by omega), if_pos rfl, if_pos hcq, List.getElem?_append_right (by omega)]; simp [hq]
    · have hjq2 : ¬ q = j := fun e => hjq e.symm
      simp only [hjq2, if_false]
      rw [hj]
      by_cases hlt : j < q
      · rw [List.getElem?_append_left (by omega), List.getElem?_append_left (by omega)]
      · rw [List.getElem?_eq_none (by simp; omega), List.getElem?_eq_none (by simp; omega)]
theorem byte_beq (a c : UInt8) : ((a.toNat : Int) == (c.toNat : Int)) = (a == c) := by
  rw [Bool.eq_iff_iff, beq_iff_eq, beq_iff_eq]
  constructor
  · intro h; exact UInt8.toNat_inj.1 (by omega)
  · intro h; rw [h]
theorem cut_byte (l : List UInt8) (k : Nat) (h : k < l.length) : (⟨l.toArray⟩ : ByteArray).extract k (k + 1) = ⟨#[l[k]]⟩ := by
  rw [ByteArray.extract_mk]
  congr 1
  apply Array.ext'
  simp only [List.extract_toArray, List.extract_eq_take_drop, Nat.add_sub_cancel_left]
  rw [List.drop_eq_getElem_cons h]; rfl
set_option maxRecDepth 100000 in
set_option maxHeartbeats 1000000 in
theorem refSplit_any (l : List UInt8) (c : UInt8) (hl : l.length ≤ 16000) (w : World) : Calls Tryd.prog 16 #[St l, .int .u8 c.toNat] w fun e w' => ∃ v, e = .returned v ∧ w'.ownsRow w.heap.size 9 1 v (spl c l).length ((spl c l).map St) ∧ Below w.heap.size w w' := by
  obtain ⟨i0, hi, hz0, hz1, hz2⟩ := info_parts info9
  go_enter Tryd.func16, Tryd.ntmps16
  go_wp2
  go_loopw [5, 6] (fun v i wr => ∃ k : Nat, k ≤ l.length ∧ i = .int .i64 k ∧ wr.ownsRow w.heap.size 9 1 v (spl c (l.take k)).length ((spl c (l.take k)).map St) ∧ Hid (Below w.heap.size w wr)) (fun _ i _ => l.length - (intOf i).toNat)
  case atStart => exact ⟨0, by omega, rfl, own_one' (Nat.le_refl _) (heap_alloc_last w _), (Below.refl _ w).alloc (Nat.le_refl _) _⟩
  case round =>
    obtain ⟨k, hk, rfl, hown, HB⟩ := hrel
    have hsz := HB.out.size
    by_cases hlt : k < l.length
    · have hlenS := spl_len_le c (l.take k)
      have hlk : (l.take k).length = k := by simp; omega
      have hbyte : (⟨l.toArray⟩ : ByteArray)[k]'(by rw [bsz]; exact hlt) = l[k] := by rw [bget]; simp [List.getD_eq_getElem?_getD, hlt]
      have HTK := Lib.hid (show l.take (k + 1) = l.take k ++ [l[k]] from List.take_succ_eq_append_getElem hlt)
      by_cases hc : l[k] = c
      · have hcb : ((((⟨l.toArray⟩ : ByteArray)[k]'(by rw [bsz]; exact hlt)).toNat : Int) == (c.toNat : Int)) = true := by rw [hbyte, byte_beq, hc]; simp
        have HS := Lib.hid (show spl c (l.take (k + 1)) = spl c (l.take k) ++ [[]] by rw [HTK.out, hc, spl_snoc_hit])
        clear hc hbyte
        go_wp2_with (at_builtin; refine wpList_append_own _ rfl _ _ 43 rfl w.heap.size 9 i0 (.string ⟨#[]⟩) 1 16 Tryd.underlying43 hi hz0 hz1 hz2 rfl (by decide) _ _ _ rfl (hown.alloc _) ⟨wr.heap.size, 0, none⟩ 1 1 [St []] rfl rfl ?c1 ?c2 ?c3 ?c4 ?c5 ?_)
        case c1 => exact cell_one_new _ _ _
        case c2 => simp [Value.oneCell']
        case c3 => unfold maxLen; omega
        case c4 => omega
        case c5 => simp; omega
        intro v' w3 hown3 hgrow _
        have HB3 := Lib.hid ((HB.out.alloc hsz _).grown hgrow (by simp; omega) (own_ge hown))
        have HO := Lib.hid hown3
        clear hown3 hgrow hown
        go_wp2
        go_roundw
        case rel => exact ⟨k + 1, by omega, by go_num, by rw [HS.out, List.length_append, List.map_append]; exact HO.out, HB3.out⟩
        case measure => simp [intOf]; omega
      · have hcb : ((((⟨l.toArray⟩ : ByteArray)[k]'(by rw [bsz]; exact hlt)).toNat : Int) == (c.toNat : Int)) = false := by rw [hbyte, byte_beq]; simpa using hc
        obtain ⟨xs, x, h1, h2⟩ := spl_snoc_miss hc (l.take k)
        have HS := Lib.hid (show spl c (l.take (k + 1)) = xs ++ [x ++ [l[k]]] by rw [HTK.out, h2])
        have hx4 : x.length ≤ 16000 := by have := spl_part_le c (l.take k) x (by rw [h1]; simp); omega
        rw [h1, List.length_append, List.map_append] at hown
        obtain ⟨g, cap, rfl, hbg, hcap, hcell, hfz, hset⟩ := own_last (xs := xs.map St) (by simp) hown
        have HSET := Lib.hid hset
        have hxl : xs.length ≤ 16000 := by rw [h1, List.length_append] at hlenS; simp at hlenS; omega
        have hcut := cut_byte l k hlt
        have hk1 : ((k : Int) + 1) ≤ (l.length : Int) := by omega
        clear hc hbyte hown hset h1 h2 hlenS
        generalize hqq : xs.length = q at *
        go_wp2
        go_big_region
        have hba := ba_app x [l[k]]
        rw [hba]
        have HO := Lib.hid (HSET.out (St (x ++ [l[k]])))
        have HB2 := Lib.hid ((HB.out.setCell (p := ⟨g, q, none⟩) hbg (St (x ++ [l[k]]))).drew)
        clear hcell hfz hba hcut
        go_wp2
        go_roundw
        case rel => exact ⟨k + 1, by omega, by go_num, by rw [HS.out, List.length_append, List.map_append, hqq]; exact HO.out, HB2.out⟩
        case measure => simp [intOf]; omega
    · obtain rfl : k = l.length := by omega
      rw [List.take_length] at hown
      go_wp2
      go_ret
      exact ⟨_, rfl, hown, HB.out⟩
theorem refKinds_any (w : World) : Calls Tryd.prog 47 #[] w fun e w' => e = .returned (.slice (some ⟨w.heap.size, 0, none⟩) 31 31) ∧ w' = w.alloc (.cells #[.string ⟨#[]⟩, .string ⟨#[115, 116, 101, 112, 32, 99]⟩, .string ⟨#[116, 105, 99, 107, 32, 110]⟩, .string ⟨#[115, 112, 97, 119, 110, 32, 105, 109]⟩, .string ⟨#[101, 120, 105, 116, 32, 105]⟩, .string ⟨#[121, 105, 101, 108, 100, 32, 105]⟩, .string ⟨#[115, 108, 101, 101, 112, 32, 105, 110]⟩, .string ⟨#[119, 97, 107, 101, 32, 105]⟩, .string ⟨#[97, 102, 102, 105, 110, 32, 105, 109]⟩, .string ⟨#[119, 104, 101, 114, 101, 32, 105]⟩, .string ⟨#[97, 114, 109, 32, 99, 110]⟩, .string ⟨#[99, 97, 110, 99, 101, 108, 32, 105]⟩, .string ⟨#[114, 101, 113, 117, 101, 115, 116, 32, 105, 109]⟩, .string ⟨#[102, 114, 101, 101, 32, 105]⟩, .string ⟨#[114, 111, 117, 116, 101, 32, 105, 109]⟩, .string ⟨#[109, 97, 115, 107, 32, 105]⟩, .string ⟨#[117, 110, 109, 97, 115, 107, 32, 105]⟩, .string ⟨#[114, 97, 105, 115, 101, 32, 105]⟩, .string ⟨#[113, 117, 101, 117, 101, 32, 99]⟩, .string ⟨#[102, 108, 117, 115, 104, 32, 105]⟩, .string ⟨#[99, 97, 108, 108, 32, 99]⟩, .string ⟨#[97, 108, 108, 111, 99, 32, 99]⟩, .string ⟨#[103, 105, 118, 101, 32, 99, 105]⟩, .string ⟨#[111, 110, 108, 105, 110, 101, 32, 99]⟩, .string ⟨#[111, 102, 102, 108, 105, 110, 101, 32, 99]⟩, .string ⟨#[102, 97, 105, 108, 32, 110]⟩, .string ⟨#[104, 111, 108, 100, 32, 99]⟩, .string ⟨#[100, 114, 111, 112, 32, 99]⟩, .string ⟨#[108, 105, 109, 105, 116, 32, 110]⟩, .string ⟨#[115, 112, 101, 101, 100, 32, 105, 110]⟩, .string ⟨#[98, 97, 108, 97, 110, 99, 101, 32]⟩] 9) := by
  go_enter Tryd.func47, Tryd.ntmps47
  go_wp2
  refine bodyPost_ret (results_tmp rfl _ _ _) rfl ⟨rfl, rfl⟩

end Go.Proofs.YtcjngndgmedabaaDoor
