/-
  What is written as a line, a mask or a text is read as it was, plainly.
-/
import Derived.Test.YtcjngndgmedabaaDoorWb
namespace Go.Proofs.YtcjngndgmedabaaDoor
open Go Go.RowKit
set_option linter.unusedVariables false
set_option linter.unusedSimpArgs false


theorem itoa_no {c : UInt8} (h1 : c ≠ 45) (h2 : ¬ isDig c) (n : Int) : c ∉ Lib.itoa n := by
  by_cases h : n < 0
  · rw [itoa_neg h]; intro hm
    rcases List.mem_cons.1 hm with hm | hm
    · exact h1 hm
    · exact h2 (dec_dig _ _ hm)
  · rw [itoa_pos (by omega)]; intro hm; exact h2 (dec_dig _ _ hm)
theorem nd32 : ¬ isDig 32 := by unfold isDig; decide
theorem nd44 : ¬ isDig 44 := by unfold isDig; decide
theorem nd10 : ¬ isDig 10 := by unfold isDig; decide

theorem maskL_nil : maskL [] = [] := rfl
theorem maskL_one (i : Nat) : maskL [i] = Lib.itoa i := by simp [maskL, Lib.join, List.intercalate]
theorem maskL_cons (i j : Nat) (l : List Nat) : maskL (i :: j :: l) = Lib.itoa i ++ 44 :: maskL (j :: l) := by
  simp [maskL, Lib.join, List.intercalate]
theorem maskL_no {c : UInt8} (h1 : c ≠ 45) (h2 : ¬ isDig c) (h3 : c ≠ 44) : ∀ l : List Nat, c ∉ maskL l
  | [] => by simp [maskL_nil]
  | [i] => by rw [maskL_one]; exact itoa_no h1 h2 i
  | i :: j :: l => by
    have ih := maskL_no h1 h2 h3 (j :: l)
    rw [maskL_cons]; intro hm
    rcases List.mem_append.1 hm with hm | hm
    · exact itoa_no h1 h2 i hm
    · rcases List.mem_cons.1 hm with hm | hm
      · exact h3 hm
      · exact ih hm
theorem maskL_spl : ∀ l : List Nat, l ≠ [] → spl 44 (maskL l) = l.map fun (i : Nat) => Lib.itoa i
  | [], h => absurd rfl h
  | [i], _ => by rw [maskL_one, spl_none (itoa_no (by decide) nd44 i)]; rfl
  | i :: j :: l, _ => by rw [maskL_cons, spl_app _ _ (itoa_no (by decide) nd44 i), maskL_spl (j :: l) (by simp)]; rfl
theorem itoa_pos_len (n : Int) : 1 ≤ (Lib.itoa n).length := by
  by_cases h : n < 0
  · rw [itoa_neg h]; simp
  · rw [itoa_pos (by omega), Lib.decDigits_length]; exact Lib.nDigits_pos _
theorem maskL_ne (l : List Nat) (h : l ≠ []) : maskL l ≠ [] := by
  match l, h with
  | [i], _ => rw [maskL_one]; intro e; have := itoa_pos_len i; rw [e] at this; simp at this
  | i :: j :: l, _ => rw [maskL_cons]; simp
theorem itoa_small_len {n : Nat} (h : n < 64) : (Lib.itoa (n : Int)).length ≤ 2 := by
  have : ∀ k : Fin 64, Lib.nDigits k.val ≤ 2 := by
    intro k
    by_cases h10 : k.val < 10
    · rw [Lib.nDigits_small h10]; omega
    · rw [Lib.nDigits_big h10, Lib.nDigits_small (by omega)]; omega
  rw [itoa_pos (by omega), Lib.decDigits_length]
  simpa using this ⟨n, h⟩
theorem maskL_len : ∀ l : List Nat, (∀ i, i ∈ l → i < 64) → (maskL l).length ≤ 3 * l.length
  | [], _ => by simp [maskL_nil]
  | [i], h => by rw [maskL_one]; have := itoa_small_len (h i (by simp)); simp; omega
  | i :: j :: l, h => by
    have := itoa_small_len (h i (by simp))
    have ih := maskL_len (j :: l) (fun x hx => h x (by simp [hx]))
    rw [maskL_cons]; simp at ih ⊢; omega
theorem bitsF_lt : ∀ (n o m : Nat), ∀ i, i ∈ bitsF n o m → o ≤ i ∧ i < o + n := by
  intro n
  induction n with
  | zero => intro o m i hi; simp [bitsF] at hi
  | succ n ih =>
    intro o m i hi
    rw [bitsF] at hi
    split at hi
    · rcases List.mem_cons.1 hi with rfl | hi
      · omega
      · have := ih _ _ i hi; omega
    · have := ih _ _ i hi; omega
theorem bitsUp_lt (m : Nat) : ∀ i, i ∈ bitsUp m → i < 64 := fun i hi => by have := bitsF_lt 64 0 m i hi; omega
theorem bitsUp_len (m : Nat) : (bitsUp m).length ≤ 64 := bitsF_len 64 0 m
theorem maskL_bits_len (m : Nat) : (maskL (bitsUp m)).length ≤ 192 := by
  have := maskL_len _ (bitsUp_lt m); have := bitsUp_len m; omega

def orAll (l : List Nat) (m : Nat) : Nat := l.foldl (fun a i => a ||| 2 ^ i) m
theorem or_bitsF : ∀ (n o m a : Nat), m < 2 ^ n → orAll (bitsF n o m) a = a ||| (m <<< o) := by
  intro n
  induction n with
  | zero => intro o m a h; simp at h; subst h; simp [bitsF, orAll]
  | succ n ih =>
    intro o m a h
    rw [Nat.pow_succ] at h
    have h2 : m / 2 < 2 ^ n := by omega
    have hm : ∀ j, (m <<< o).testBit j = (decide (o ≤ j) && m.testBit (j - o)) := fun j => by rw [Nat.testBit_shiftLeft]
    rw [bitsF]
    split
    · rename_i h1
      show orAll (bitsF n (o + 1) (m / 2)) (a ||| 2 ^ o) = _
      rw [ih _ _ _ h2]
      apply Nat.eq_of_testBit_eq
      intro j
      rw [Nat.testBit_or, Nat.testBit_or, Nat.testBit_or, Nat.testBit_shiftLeft, Nat.testBit_shiftLeft, Nat.testBit_two_pow, Bool.or_assoc]
      congr 1
      by_cases hj : o = j
      · subst hj; simp [Nat.testBit_zero, h1]
      · by_cases hlt : j < o
        · simp [hj, show ¬ o + 1 ≤ j by omega, show ¬ o ≤ j by omega]
        · rw [show j - o = (j - (o + 1)) + 1 by omega, Nat.testBit_succ]
          simp [hj, show o + 1 ≤ j by omega, show o ≤ j by omega]
    · rename_i h1
      rw [ih _ _ _ h2]
      apply Nat.eq_of_testBit_eq
      intro j
      rw [Nat.testBit_or, Nat.testBit_or, Nat.testBit_shiftLeft, Nat.testBit_shiftLeft]
      congr 1
      by_cases hj : o = j
      · subst hj; simp [Nat.testBit_zero, h1]; intro hh; exact absurd hh (by omega)
      · by_cases hlt : j < o
        · simp [show ¬ o + 1 ≤ j by omega, show ¬ o ≤ j by omega]
        · rw [show j - o = (j - (o + 1)) + 1 by omega, Nat.testBit_succ]
          simp [show o + 1 ≤ j by omega, show o ≤ j by omega]
theorem or_bitsUp (m : Nat) (h : m < 18446744073709551616) : orAll (bitsUp m) 0 = m := by
  unfold bitsUp; rw [or_bitsF 64 0 m 0 (by simpa using h)]; simp
theorem masks_itoa : ∀ (l : List Nat) (a : Nat), (∀ i, i ∈ l → i < 64) → masks (l.map fun (i : Nat) => Lib.itoa i) a = some (orAll l a)
  | [], _, _ => rfl
  | i :: l, a, h => by
    have hi := h i (by simp)
    rw [List.map_cons, masks, numOf_itoa (by unfold I64; omega)]
    simp only []
    rw [if_pos (by omega), masks_itoa l _ (fun x hx => h x (by simp [hx]))]
    rfl
theorem maskOf_bits (m : Nat) (h : m < 18446744073709551616) : maskOf (maskL (bitsUp m)) = some m := by
  by_cases hb : bitsUp m = []
  · have := or_bitsUp m h
    rw [hb] at this
    rw [hb, maskL_nil, maskOf, if_pos rfl]
    exact congrArg some this
  · rw [maskOf, if_neg (maskL_ne _ hb), maskL_spl _ hb, masks_itoa _ _ (bitsUp_lt m), or_bitsUp m h]
    simp
theorem masks_lt : ∀ (ws : List (List UInt8)) (a m : Nat), a < 18446744073709551616 → masks ws a = some m → m < 18446744073709551616
  | [], a, m, ha, h => by cases h; exact ha
  | w :: ws, a, m, ha, h => by
    rw [masks] at h
    split at h
    · cases h
    · rename_i n hn
      split at h
      · rename_i hr
        refine masks_lt ws _ m ?_ h
        have : 2 ^ n.toNat < 2 ^ 64 := Nat.pow_lt_pow_right (by decide) (by omega)
        exact Nat.or_lt_two_pow (n := 64) (by simpa using ha) this
      · cases h
theorem maskOf_lt {l : List UInt8} {m : Nat} (h : maskOf l = some m) : m < 18446744073709551616 := by
  unfold maskOf at h
  split at h
  · cases h; decide
  · split at h
    · cases h
    · rename_i m' hm
      split at h
      · cases h; exact masks_lt _ _ _ (by decide) hm
      · cases h

/-! ### Events -/
theorem setF_ftext {e x : EV} (he : e.Ok) (f : UInt8) : setF x f (ftext e f) = some (e.cp x f) := by
  unfold setF ftext EV.cp
  split
  · rw [numOf_itoa he.c]; rfl
  · split
    · rw [numOf_itoa he.i]; rfl
    · split
      · rw [maskOf_bits _ he.m]; rfl
      · rw [numOf_itoa he.n]; rfl
theorem setAll_ftext {e : EV} (he : e.Ok) : ∀ (fs : List UInt8) (x : EV), setAll fs (fs.map (ftext e)) x = some (fs.foldl e.cp x)
  | [], x => rfl
  | f :: fs, x => by rw [List.map_cons, setAll, setF_ftext he]; exact setAll_ftext he fs _
theorem ftext_no {c : UInt8} (h1 : c ≠ 45) (h2 : ¬ isDig c) (h3 : c ≠ 44) (e : EV) (f : UInt8) : c ∉ ftext e f := by
  unfold ftext
  split
  · exact itoa_no h1 h2 _
  · split
    · exact itoa_no h1 h2 _
    · split
      · exact maskL_no h1 h2 h3 _
      · exact itoa_no h1 h2 _
theorem spl_fields (e : EV) : ∀ (fs : List UInt8) (a : List UInt8), (32 : UInt8) ∉ a → spl 32 (a ++ fs.flatMap fun f => 32 :: ftext e f) = a :: fs.map (ftext e)
  | [], a, h => by simp [spl_none h]
  | f :: fs, a, h => by
    rw [List.flatMap_cons, List.cons_append, spl_app _ _ h, spl_fields e fs _ (ftext_no (by decide) nd32 (by decide) e f)]; rfl
theorem parse_bytes {e : EV} (he : e.Ok) (hk : kw e.k ≠ []) (ho : e.only.same e = true) : parse e.bytes = some e := by
  have hr : 1 ≤ e.k ∧ e.k ≤ 30 := by
    rcases Decidable.em (e.k < 1 ∨ 30 < e.k) with h | h
    · exact absurd (kw_out h).1 hk
    · omega
  have hs := spl_fields e (kf e.k) (kw e.k) (kind_facts e.k).2.2.1
  unfold parse EV.bytes
  rw [hs]
  simp only [List.headD_cons, List.length_cons, List.length_map, List.tail_cons]
  rw [(kindOf_kw hr).1, if_neg (by omega), setAll_ftext he]
  exact congrArg some ((EV.same_iff _ _).1 ho)
theorem ftext_len {e : EV} (he : e.Ok) (f : UInt8) : (ftext e f).length ≤ 192 := by
  have h1 := Lib.itoa_length_le e.c he.c.1 he.c.2
  have h2 := Lib.itoa_length_le e.i he.i.1 he.i.2
  have h3 := Lib.itoa_length_le e.n he.n.1 he.n.2
  have h4 := maskL_bits_len e.m
  unfold ftext
  split
  · omega
  · split
    · omega
    · split <;> omega
theorem line_no10 (e : EV) : (10 : UInt8) ∉ e.bytes := by
  unfold EV.bytes
  intro h
  rcases List.mem_append.1 h with h | h
  · exact (kind_facts e.k).2.2.2.1 h
  · obtain ⟨f, _, hf⟩ := List.mem_flatMap.1 h
    rcases List.mem_cons.1 hf with hf | hf
    · revert hf; decide
    · exact ftext_no (by decide) nd10 (by decide) e f hf
theorem field_two : ∀ k : Fin 31, ((kinds.getD k.val ([], [])).2.filter (· == 109)).length ≤ 1 := by decide
theorem flat_len {e : EV} (he : e.Ok) : ∀ fs : List UInt8, (fs.flatMap fun f => 32 :: ftext e f).length ≤ 22 * fs.length + 171 * (fs.filter (· == 109)).length
  | [] => by simp
  | f :: fs => by
    have ih := flat_len he fs
    have h1 := Lib.itoa_length_le e.c he.c.1 he.c.2
    have h2 := Lib.itoa_length_le e.i he.i.1 he.i.2
    have h3 := Lib.itoa_length_le e.n he.n.1 he.n.2
    have h4 := maskL_bits_len e.m
    rw [List.flatMap_cons, List.length_append, List.length_cons, List.filter_cons]
    by_cases hf : f = 109
    · subst hf
      have : ftext e 109 = maskL (bitsUp e.m) := rfl
      rw [this, if_pos (by decide), List.length_cons, List.length_cons]; omega
    · have : (ftext e f).length ≤ 21 := by
        unfold ftext; split
        · omega
        · split
          · omega
          · omega
      have hb : (f == 109) = false := by simpa using hf
      rw [hb, if_neg (by decide), List.length_cons]; omega
theorem line_len {e : EV} (he : e.Ok) : e.bytes.length ≤ 300 := by
  have h1 := (kind_facts e.k).1
  have h2 := (kind_facts e.k).2.1
  have h3 : ((kf e.k).filter (· == 109)).length ≤ 1 := by
    by_cases h : e.k < 1 ∨ 30 < e.k
    · rw [(kw_out h).2]; simp
    · have := field_two ⟨e.k.toNat, by omega⟩
      have h4 := (kw_at e.k.toNat).2
      rw [show ((e.k.toNat : Nat) : Int) = e.k by omega] at h4
      rw [h4]; exact this
  have h4 := flat_len he (kf e.k)
  unfold EV.bytes
  rw [List.length_append]; omega
theorem line_some {e : EV} {l : List UInt8} (h : e.line = some l) : kw e.k ≠ [] ∧ e.only.same e = true ∧ l = e.bytes := by
  unfold EV.line at h
  split at h
  · cases h
  · rename_i hn
    cases h
    refine ⟨fun h => hn (.inl h), ?_, rfl⟩
    cases hs : e.only.same e
    · exact absurd (.inr hs) hn
    · rfl
theorem parseE_line {e : EV} (he : e.Ok) {l : List UInt8} (h : e.line = some l) : parseE l = (e, 0) := by
  obtain ⟨h1, h2, rfl⟩ := line_some h
  unfold parseE
  rw [if_neg (by have := line_len he; omega), parse_bytes he h1 h2]
theorem setF_ok {e e' : EV} (he : e.Ok) {f : UInt8} {w : List UInt8} (h : setF e f w = some e') : e'.Ok := by
  unfold setF at h
  have hn : ∀ {g : Int → EV}, (∀ n, I64 n → (g n).Ok) → (numOf w).map g = some e' → e'.Ok := by
    intro g hg h
    cases hc : numOf w with
    | none => rw [hc] at h; cases h
    | some n => rw [hc] at h; cases h; exact hg n (numOf_some hc).1
  split at h
  · exact hn (g := fun n => { e with c := n }) (fun n hn => ⟨he.k, hn, he.i, he.m, he.n⟩) h
  · split at h
    · exact hn (g := fun n => { e with i := n }) (fun n hn => ⟨he.k, he.c, hn, he.m, he.n⟩) h
    · split at h
      · cases hc : maskOf w with
        | none => rw [hc] at h; cases h
        | some m => rw [hc] at h; cases h; exact ⟨he.k, he.c, he.i, maskOf_lt hc, he.n⟩
      · exact hn (g := fun n => { e with n := n }) (fun n hn => ⟨he.k, he.c, he.i, he.m, hn⟩) h
theorem setAll_ok : ∀ (fs : List UInt8) (ws : List (List UInt8)) (e e' : EV), e.Ok → setAll fs ws e = some e' → e'.Ok
  | [], ws, e, e', he, h => by rw [setAll] at h; cases h; exact he
  | f :: fs, [], e, e', he, h => by rw [setAll] at h; cases h
  | f :: fs, w :: ws, e, e', he, h => by
    rw [setAll] at h
    split at h
    · cases h
    · rename_i x hx; exact setAll_ok fs ws x e' (setF_ok he hx) h
theorem parse_ok {l : List UInt8} {e : EV} (h : parse l = some e) : e.Ok := by
  unfold parse at h
  simp only [] at h
  split at h
  · cases h
  · refine setAll_ok _ _ _ _ ⟨?_, I64_zero, I64_zero, by show (0 : Nat) < _; decide, I64_zero⟩ h
    have := kindOf_le ((spl 32 l).headD []); show I64 (kindOf _); unfold I64; omega
theorem parseE_ok (l : List UInt8) : (parseE l).1.Ok := by
  unfold parseE
  split
  · exact EV.zero_ok
  · split
    · exact EV.zero_ok
    · rename_i e h; exact parse_ok h

/-! ### Texts -/
theorem textGo_app : ∀ (l : List EV) (acc t : List UInt8), textGo l acc = some t → ∃ b, t = acc ++ b ∧ ∀ acc', textGo l acc' = some (acc' ++ b)
  | [], acc, t, h => by cases h; exact ⟨[], by simp, fun _ => by simp [textGo]⟩
  | e :: l, acc, t, h => by
    rw [textGo] at h
    split at h
    · cases h
    · rename_i x hx
      obtain ⟨b, rfl, h2⟩ := textGo_app l _ t h
      refine ⟨x ++ [10] ++ b, by simp, fun acc' => ?_⟩
      rw [textGo, hx]; simp only []; rw [h2]; simp
theorem readGo_text : ∀ (l : List EV) (t : List UInt8) (acc : List EV) (k : Nat), (∀ e, e ∈ l → e.Ok) → acc.length + l.length ≤ 600 → textGo l [] = some t → readGo acc k (spl 10 t) = (acc ++ l, 0, 0)
  | [], t, acc, k, _, _, h => by cases h; rw [spl, readGo]; simp
  | e :: l, t, acc, k, he, hl, h => by
    rw [textGo] at h
    split at h
    · cases h
    · rename_i x hx
      obtain ⟨b, rfl, h2⟩ := textGo_app l _ t h
      obtain ⟨_, _, hxe⟩ := line_some hx
      have hno : (10 : UInt8) ∉ x := hxe ▸ line_no10 e
      have hp := parseE_line (he e (by simp)) hx
      have e1 : [] ++ x ++ [10] ++ b = x ++ 10 :: b := by simp
      rw [e1, spl_app _ _ hno, readGo, if_neg (spl_ne 10 b), hp]
      simp only []
      simp only [List.length_cons] at hl
      rw [if_neg (by simp), if_neg (by omega), readGo_text l b _ _ (fun y hy => he y (by simp [hy])) (by simp; omega) (by simpa using h2 [])]
      simp
theorem readE_text {l : List EV} (he : ∀ e, e ∈ l → e.Ok) (h : (textE l).2 = 0) (hs : (textE l).1.length ≤ 16000) : readE (textE l).1 = (l, 0, 0) := by
  unfold textE at h hs ⊢
  split at h
  · cases h
  · rename_i hn
    rw [if_neg hn] at hs ⊢
    cases hc : textGo l [] with
    | none => rw [hc] at h; cases h
    | some t =>
      rw [hc] at hs
      show readE t = _
      have hs : t.length ≤ 16000 := hs
      unfold readE
      rw [if_neg (by omega)]
      have := readGo_text l t [] 0 he (by simp; omega) hc
      simpa using this

end Go.Proofs.YtcjngndgmedabaaDoor
