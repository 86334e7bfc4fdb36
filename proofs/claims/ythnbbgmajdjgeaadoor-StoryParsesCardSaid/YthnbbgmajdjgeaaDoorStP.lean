/-
  StoryParses in plain terms: what a line is in the program, by splitting, and in the reference, by printing what was read again; they agree. Conditions: as each states.
-/
import Derived.Test.YthnbbgmajdjgeaaDoorEvX
import Derived.Shelf.Strings.FieldsAny
import Derived.Lib.SplitLaws
import Derived.Lib.AtoiAllCases
import Derived.Lib.IndexLaws
import Derived.Lib.CutLaws
namespace Go.Proofs.YthnbbgmajdjgeaaDoor
open Go.Lib

/-! ### the first c, and splitting at c -/
theorem occ1 (s : List UInt8) (c : UInt8) (i : Nat) : occAt s [c] i = true ↔ s[i]? = some c := by
  unfold occAt
  cases h : s.drop i with
  | nil =>
    have := List.drop_eq_nil_iff.1 h
    simp [List.getElem?_eq_none this]
  | cons b r =>
    have : s[i]? = some b := by
      have := congrArg (·[0]?) h
      simpa using this
    rw [this]
    simp only [List.isPrefixOf, Bool.and_true, beq_iff_eq, Option.some.injEq]
    exact eq_comm
theorem index_at (w r : List UInt8) (c : UInt8) (hw : c ∉ w) : index (w ++ c :: r) [c] = w.length := by
  refine index_first (by simp) ((occ1 _ _ _).2 (by simp)) fun j hj => ?_
  cases h : occAt (w ++ c :: r) [c] j with
  | false => rfl
  | true =>
    have := (occ1 _ _ _).1 h
    rw [List.getElem?_append_left hj] at this
    exact absurd (List.mem_of_getElem? this) hw
theorem index_no (s : List UInt8) (c : UInt8) (hs : c ∉ s) : index s [c] = -1 := by
  refine index_none fun j _ => ?_
  cases h : occAt s [c] j with
  | false => rfl
  | true => exact absurd (List.mem_of_getElem? ((occ1 _ _ _).1 h)) hs
theorem byte_at (w r : List UInt8) (c : UInt8) (hw : c ∉ w) : indexByte (w ++ c :: r) c = w.length := by
  induction w with
  | nil => simp [indexByte]
  | cons b w ih =>
    have h1 : b ≠ c := fun e => hw (by simp [e])
    have h2 := ih (fun h => hw (by simp [h]))
    simp only [List.cons_append, indexByte, beq_iff_eq, h1, if_false, h2]
    rw [if_neg (by omega)]
    simp
theorem byte_no (s : List UInt8) (c : UInt8) (hs : c ∉ s) : indexByte s c = -1 := by
  induction s with
  | nil => rfl
  | cons b w ih =>
    have h1 : b ≠ c := fun e => hs (by simp [e])
    have h2 := ih (fun h => hs (by simp [h]))
    simp [indexByte, h1, h2]
theorem dec_at (s : List UInt8) (c : UInt8) : c ∉ s ∨ ∃ w r, s = w ++ c :: r ∧ c ∉ w := by
  induction s with
  | nil => exact .inl (by simp)
  | cons b s ih =>
    by_cases hb : b = c
    · exact .inr ⟨[], s, by simp [hb], by simp⟩
    · rcases ih with h | ⟨w, r, rfl, hw⟩
      · exact .inl (by simp [h]; exact fun e => hb e.symm)
      · exact .inr ⟨b :: w, r, by simp, by simp [hw]; exact fun e => hb e.symm⟩
theorem split_uniq {w w' r r' : List UInt8} {c : UInt8} (h : w ++ c :: r = w' ++ c :: r') (hw : c ∉ w) (hw' : c ∉ w') : w = w' ∧ r = r' := by
  induction w generalizing w' with
  | nil =>
    cases w' with
    | nil => simpa using h
    | cons b w' =>
      simp only [List.nil_append, List.cons_append, List.cons.injEq] at h
      exact absurd (by simp [h.1]) hw'
  | cons b w ih =>
    cases w' with
    | nil =>
      simp only [List.nil_append, List.cons_append, List.cons.injEq] at h
      exact absurd (by simp [h.1]) hw
    | cons b' w' =>
      simp only [List.cons_append, List.cons.injEq] at h
      obtain ⟨h1, h2⟩ := h
      have := ih h2 (fun h => hw (by simp [h])) (fun h => hw' (by simp [h]))
      exact ⟨by rw [h1, this.1], this.2⟩
/-- ps are s cut at every c. -/
inductive Spl (c : UInt8) : List UInt8 → List (List UInt8) → Prop
  | one {s} (h : c ∉ s) : Spl c s [s]
  | cons {w r ps} (h : c ∉ w) (t : Spl c r ps) : Spl c (w ++ c :: r) (w :: ps)
theorem Spl.uniq {c : UInt8} {s : List UInt8} {ps qs : List (List UInt8)} (h : Spl c s ps) (k : Spl c s qs) : ps = qs := by
  induction h generalizing qs with
  | one h0 =>
    cases k with
    | one _ => rfl
    | cons _ _ => exact absurd (by simp) h0
  | cons hw t ih =>
    generalize hs : _ ++ c :: _ = s at k
    cases k with
    | one h0 => exact absurd (by rw [← hs]; simp) h0
    | cons hw' t' =>
      obtain ⟨rfl, rfl⟩ := split_uniq hs hw hw'
      rw [ih t']
theorem count_at (w r : List UInt8) (c : UInt8) (hw : c ∉ w) : count (w ++ c :: r) [c] = 1 + count r [c] := by
  rw [count_one, count_one, List.count_append, List.count_eq_zero_of_not_mem hw, List.count_cons_self]
  omega
theorem split_spl (c : UInt8) : ∀ (n : Nat) (s : List UInt8), s.length ≤ n → Spl c s (split s [c])
  | n, s, hn => by
    rcases dec_at s c with h | ⟨w, r, rfl, hw⟩
    · have : split s [c] = [s] := by
        unfold split
        rw [count_one, List.count_eq_zero_of_not_mem h]
        rfl
      rw [this]
      exact .one h
    · cases n with
      | zero => simp at hn
      | succ n =>
        have : split (w ++ c :: r) [c] = w :: split r [c] := by
          unfold split
          rw [count_at w r c hw, Nat.add_comm, splitK, index_at w r c hw]
          have : ¬ (((w.length : Nat) : Int) == -1) = true := by simp
          rw [if_neg this]
          simp
        rw [this]
        exact .cons hw (split_spl c n r (by simp at hn; omega))
theorem split_of (s : List UInt8) (c : UInt8) : Spl c s (split s [c]) := split_spl c s.length s (Nat.le_refl _)
/-! ### numerals -/
theorem dig_toNat (d : Nat) (h : d < 10) : (UInt8.ofNat (48 + d)).toNat = 48 + d := by
  rw [UInt8.toNat_ofNat']; omega
theorem parse_dec (u : Nat) : ∀ (r : List UInt8), u ≤ 9223372036854775808 → parseUint10 0 (decDigits u ++ r) = parseUint10 u r := by
  induction u using Nat.strongRecOn with
  | ind u ih =>
    intro r hu
    rw [decDigits]
    split
    · rename_i h
      simp only [List.cons_append, List.nil_append, parseUint10, dig_toNat u h]
      rw [if_pos (by omega), if_neg (by omega), if_neg (by omega)]
      congr 1
      omega
    · rename_i h
      rw [List.append_assoc, ih (u / 10) (by omega) _ (by omega)]
      simp only [List.cons_append, List.nil_append, parseUint10, dig_toNat (u % 10) (by omega)]
      rw [if_pos (by omega), if_neg (by omega), if_neg (by omega)]
      congr 1
      omega
theorem dec_bytes (u : Nat) : decDigits u ≠ [] ∧ ∀ b ∈ decDigits u, 48 ≤ b.toNat ∧ b.toNat ≤ 57 := by
  induction u using Nat.strongRecOn with
  | ind u ih =>
    rw [decDigits]
    split
    · rename_i h
      refine ⟨by simp, fun b hb => ?_⟩
      rw [List.mem_singleton.1 hb, dig_toNat u h]; omega
    · rename_i h
      refine ⟨by simp, fun b hb => ?_⟩
      rcases List.mem_append.1 hb with hb | hb
      · exact (ih (u / 10) (by omega)).2 b hb
      · rw [List.mem_singleton.1 hb, dig_toNat (u % 10) (by omega)]; omega
theorem mag_dec (u : Nat) (hu : u ≤ 9223372036854775808) : parseMag (decDigits u) = .ok u := by
  unfold parseMag
  rw [if_neg (dec_bytes u).1]
  have := parse_dec u [] hu
  rw [List.append_nil] at this
  rw [this]
  rfl
theorem atoi_itoa (n : Int) (h : B64 n) : atoiAll (itoa n) = .ok n := by
  obtain ⟨h0, h1⟩ := h
  unfold itoa
  split
  · rename_i hn
    unfold atoiAll
    simp only [show (45 : UInt8).toNat = 45 from rfl]
    rw [if_pos (.inr trivial), mag_dec n.natAbs (by omega)]
    simp only [not_true_eq_false, false_and, if_false, true_and, if_true]
    rw [if_neg (by omega)]
    congr 1
    omega
  · rename_i hn
    have hb := dec_bytes n.toNat
    cases hd : decDigits n.toNat with
    | nil => exact absurd hd hb.1
    | cons c r =>
      have hc := hb.2 c (by rw [hd]; simp)
      unfold atoiAll
      simp only
      rw [if_neg (by omega), ← hd, mag_dec n.toNat (by omega)]
      simp only
      rw [if_neg (by omega), if_neg (by omega)]
      congr 1
      rw [if_neg (by omega)]
      omega
/-- A word: not empty, no blank in it, ASCII. -/
def IsWord (w : List UInt8) : Prop := w ≠ [] ∧ ∀ b ∈ w, isSp b = false ∧ b.toNat < 128
set_option maxRecDepth 100000 in
theorem itoa_word (n : Int) : IsWord (itoa n) := by
  have key : ∀ b : UInt8, (48 ≤ b.toNat ∧ b.toNat ≤ 57) ∨ b = 45 → isSp b = false ∧ b.toNat < 128 := by
    intro b hb
    have h9 : ∀ k : Fin 256, (48 ≤ k.val ∧ k.val ≤ 57) ∨ k.val = 45 → isSp (UInt8.ofNat k.val) = false ∧ k.val < 128 := by decide
    have := h9 ⟨b.toNat, b.toNat_lt⟩ (by rcases hb with h | rfl; exact .inl h; exact .inr rfl)
    simpa using this
  unfold itoa
  split
  · refine ⟨by simp, fun b hb => key b ?_⟩
    rcases List.mem_cons.1 hb with rfl | hb
    · exact .inr rfl
    · exact .inl ((dec_bytes _).2 b hb)
  · exact ⟨(dec_bytes _).1, fun b hb => key b (.inl ((dec_bytes _).2 b hb))⟩
theorem name_word (m : Nat) (h1 : 1 ≤ m) (h3 : m ≤ 3) : IsWord (nameL m) := by
  have : m = 1 ∨ m = 2 ∨ m = 3 := by omega
  rcases this with rfl | rfl | rfl
  all_goals exact ⟨by decide, by decide⟩
theorem IsWord.no {w : List UInt8} (h : IsWord w) : (32 : UInt8) ∉ w ∧ (10 : UInt8) ∉ w :=
  ⟨fun hm => by have := (h.2 _ hm).1; simp [isSp] at this, fun hm => by have := (h.2 _ hm).1; simp [isSp] at this⟩
theorem go_word : ∀ (w cur r : List UInt8), (∀ b ∈ w, isSp b = false) → fieldsGo cur (w ++ r) = fieldsGo (cur ++ w) r
  | [], cur, r, _ => by simp
  | b :: w, cur, r, h => by
    rw [List.cons_append, fieldsGo_more cur b _ (h b (by simp)), go_word w _ r (fun x hx => h x (by simp [hx]))]
    simp
theorem go_word_sp {w r : List UInt8} (h : IsWord w) : fieldsGo [] (w ++ 32 :: r) = w :: fieldsGo [] r := by
  rw [go_word w [] _ (fun b hb => (h.2 b hb).1), List.nil_append, fieldsGo_end w 32 r (by decide) h.1]
theorem go_word_end {w : List UInt8} (h : IsWord w) : fieldsGo [] w = [w] := by
  have := go_word w [] [] (fun b hb => (h.2 b hb).1)
  rw [List.append_nil, List.nil_append] at this
  rw [this]
  unfold fieldsGo
  rw [if_neg (by simpa using h.1)]
theorem fields4 {a b c d : List UInt8} (ha : IsWord a) (hb : IsWord b) (hc : IsWord c) (hd : IsWord d) : fieldsD (a ++ 32 :: (b ++ 32 :: (c ++ 32 :: d))) = [a, b, c, d] := by
  rw [fieldsD_ascii]
  · unfold fields
    rw [go_word_sp ha, go_word_sp hb, go_word_sp hc, go_word_end hd]
  · intro x hx
    simp only [List.mem_append, List.mem_cons] at hx
    rcases hx with hx | rfl | hx | rfl | hx | rfl | hx
    · exact (ha.2 x hx).2
    · decide
    · exact (hb.2 x hx).2
    · decide
    · exact (hc.2 x hx).2
    · decide
    · exact (hd.2 x hx).2
theorem split4 {a b c d : List UInt8} (ha : IsWord a) (hb : IsWord b) (hc : IsWord c) (hd : IsWord d) : split (a ++ 32 :: (b ++ 32 :: (c ++ 32 :: d))) [32] = [a, b, c, d] :=
  (split_of _ 32).uniq (.cons ha.no.1 (.cons hb.no.1 (.cons hc.no.1 (.one hd.no.1))))
theorem split4_inv {s a b c d : List UInt8} (h : split s [32] = [a, b, c, d]) : s = a ++ 32 :: (b ++ 32 :: (c ++ 32 :: d)) := by
  have hs := split_of s 32
  rw [h] at hs
  cases hs with
  | cons _ t => cases t with
    | cons _ t => cases t with
      | cons _ t => cases t with
        | one _ => rfl
        | cons _ t => cases t
/-! ### what a line is -/
def wtN (w : List UInt8) : Nat := if w = nameL 1 then 1 else if w = nameL 2 then 2 else if w = nameL 3 then 3 else 0
def numV (l : List UInt8) : Int := match atoiAll l with
  | .ok v => v
  | .range => atoiSat l
  | _ => 0
def numR (l : List UInt8) : Bool := match atoiAll l with
  | .ok _ => true
  | _ => false
def numOk (l : List UInt8) : Bool := numR l && decide (itoa (numV l) = l)
theorem numV_B64 (l : List UInt8) : B64 (numV l) := by
  unfold numV
  split
  · rename_i v h; exact atoiAll_bounds h
  · exact atoiSat_bounds l
  · exact ⟨by decide, by decide⟩
theorem numV_itoa (n : Int) (h : B64 n) : numV (itoa n) = n ∧ numR (itoa n) = true ∧ numOk (itoa n) = true := by
  unfold numOk numV numR
  simp [atoi_itoa n h]
def evP (a b c d : List UInt8) : Ev := ⟨numV a, wtN b, numV c, numV d⟩
def lineP (l : List UInt8) : Ev × Bool := match split l [32] with
  | [a, b, c, d] => (evP a b c d, numOk a && numOk c && numOk d)
  | _ => (⟨0, 0, 0, 0⟩, false)
def lastL (L : List Ev) : List Ev := L.drop (L.length - 1)
/-- A line that is an event, at this point. -/
def Good (L : List Ev) (l : List UInt8) (e : Ev) : Prop := l ++ [10] = lineL e ∧ stB 0 (lastL L ++ [e]) = true ∧ B64 e.wh ∧ B64 e.th ∧ B64 e.va
noncomputable def stepP (s : List UInt8) (L : List Ev) : Option (Ev × List UInt8) :=
  if (cut s [10]).2.2 = true ∧ (lineP (cut s [10]).1).2 = true ∧ stB 0 (lastL L ++ [(lineP (cut s [10]).1).1]) = true then some ((lineP (cut s [10]).1).1, (cut s [10]).2.1) else none
noncomputable def prR (l : List Ev) : List UInt8 := if stB 0 l = true then textL l else []
noncomputable def lineR (L : List Ev) (l : List UInt8) : Option Ev := match fieldsD l with
  | [a, b, c, d] => if numR a = true ∧ numR c = true ∧ numR d = true ∧ stB 0 (lastL L ++ [evP a b c d]) = true ∧ (hasSuffix (prR (lastL L ++ [evP a b c d])) ([10] ++ (l ++ [10])) = true ∨ prR (lastL L ++ [evP a b c d]) = l ++ [10]) then some (evP a b c d) else none
  | _ => none
noncomputable def stepR (s : List UInt8) (L : List Ev) : Option (Ev × List UInt8) :=
  if indexByte s 10 < 0 then none else (lineR L (s.take (indexByte s 10).toNat)).map fun e => (e, s.drop ((indexByte s 10).toNat + 1))
theorem stB_last {last : Int} {L : List Ev} {e : Ev} (h : stB last (L ++ [e]) = true) : 1 ≤ e.wt ∧ e.wt ≤ 3 ∧ 0 ≤ e.th ∧ e.th ≤ 15 := stR_mem (stB_true h) e (by simp)
theorem wtN_name (m : Nat) (h1 : 1 ≤ m) (h3 : m ≤ 3) : wtN (nameL m) = m := by
  have : m = 1 ∨ m = 2 ∨ m = 3 := by omega
  rcases this with rfl | rfl | rfl <;> decide
theorem name_wtN {b : List UInt8} (h : 1 ≤ wtN b) : nameL (wtN b) = b := by
  unfold wtN at h ⊢
  by_cases h1 : b = nameL 1
  · rw [if_pos h1]; exact h1.symm
  · rw [if_neg h1] at h ⊢
    by_cases h2 : b = nameL 2
    · rw [if_pos h2]; exact h2.symm
    · rw [if_neg h2] at h ⊢
      by_cases h3 : b = nameL 3
      · rw [if_pos h3]; exact h3.symm
      · rw [if_neg h3] at h; omega
theorem lineL_cat (e : Ev) : lineL e = (itoa e.wh ++ 32 :: (nameL e.wt.toNat ++ 32 :: (itoa e.th ++ 32 :: itoa e.va))) ++ [10] := by
  unfold lineL
  simp
theorem good_line {L : List Ev} {l : List UInt8} {e : Ev} (h : Good L l e) : l = itoa e.wh ++ 32 :: (nameL e.wt.toNat ++ 32 :: (itoa e.th ++ 32 :: itoa e.va)) := by
  have := h.1
  rw [lineL_cat] at this
  exact List.append_cancel_right this
theorem good_words {L : List Ev} {l : List UInt8} {e : Ev} (h : Good L l e) : evP (itoa e.wh) (nameL e.wt.toNat) (itoa e.th) (itoa e.va) = e := by
  obtain ⟨_, h2, h3, h4, h5⟩ := h
  have hw := stB_last h2
  obtain ⟨wh, wt, th, va⟩ := e
  simp only at h3 h4 h5 hw
  unfold evP
  rw [(numV_itoa wh h3).1, (numV_itoa th h4).1, (numV_itoa va h5).1, wtN_name wt.toNat (by omega) (by omega), Int.toNat_of_nonneg (by omega)]
theorem lineP_good {L : List Ev} {l : List UInt8} {e : Ev} (h : Good L l e) : lineP l = (e, true) := by
  have hw := stB_last h.2.1
  have hl := good_line h
  have hg := good_words h
  obtain ⟨_, _, h3, h4, h5⟩ := h
  unfold lineP
  rw [hl, split4 (itoa_word _) (name_word _ (by omega) (by omega)) (itoa_word _) (itoa_word _)]
  simp only [hg, (numV_itoa _ h3).2.2, (numV_itoa _ h4).2.2, (numV_itoa _ h5).2.2, Bool.and_true]
theorem good_of_lineP {L : List Ev} {l : List UInt8} (h : (lineP l).2 = true) (hb : stB 0 (lastL L ++ [(lineP l).1]) = true) : Good L l (lineP l).1 := by
  have hw := stB_last hb
  unfold lineP at h hb hw ⊢
  split at h
  · rename_i a b c d hs
    simp only [hs] at hb hw ⊢
    simp only [Bool.and_eq_true] at h
    obtain ⟨⟨ha, hc⟩, hd⟩ := h
    have ha' : itoa (numV a) = a := by unfold numOk at ha; simp at ha; exact ha.2
    have hc' : itoa (numV c) = c := by unfold numOk at hc; simp at hc; exact hc.2
    have hd' : itoa (numV d) = d := by unfold numOk at hd; simp at hd; exact hd.2
    have hn : nameL (wtN b) = b := name_wtN (by have := hw.1; unfold evP at this; simp only at this; omega)
    refine ⟨?_, hb, numV_B64 _, numV_B64 _, numV_B64 _⟩
    rw [lineL_cat, split4_inv hs]
    unfold evP
    simp only [Int.toNat_natCast, ha', hc', hd', hn]
  · simp at h
/-- A line's text holds one end of line, at its end. -/
theorem line_once (e : Ev) (h : 1 ≤ e.wt ∧ e.wt ≤ 3) : ∃ y, lineL e = y ++ [10] ∧ (10 : UInt8) ∉ y := by
  refine ⟨_, lineL_cat e, ?_⟩
  have hn := (name_word e.wt.toNat (by omega) (by omega)).no.2
  simp only [List.mem_append, List.mem_cons, not_or]
  exact ⟨(itoa_word _).no.2, by decide, hn, by decide, (itoa_word _).no.2, by decide, (itoa_word _).no.2⟩
theorem lastL_cases (L : List Ev) : lastL L = [] ∨ ∃ e0, lastL L = [e0] := by
  have hl : (lastL L).length ≤ 1 := by unfold lastL; rw [List.length_drop]; omega
  cases h : lastL L with
  | nil => exact .inl rfl
  | cons e r =>
    cases r with
    | nil => exact .inr ⟨e, rfl⟩
    | cons _ _ => rw [h] at hl; simp at hl
theorem textL_one (e : Ev) : textL [e] = lineL e := by simp [textL]
theorem textL_two (a b : Ev) : textL [a, b] = lineL a ++ lineL b := by simp [textL]
theorem suf_iff (p s : List UInt8) : hasSuffix s p = true ↔ ∃ x, x ++ p = s := by
  unfold hasSuffix
  rw [List.isSuffixOf_iff_suffix]
  exact Iff.rfl
theorem lineR_good {L : List Ev} {l : List UInt8} {e : Ev} (h : Good L l e) : lineR L l = some e := by
  have hw := stB_last h.2.1
  have hl := good_line h
  have hg := good_words h
  have hb := h.2.1
  have h1 := h.1
  obtain ⟨_, _, h3, h4, h5⟩ := h
  unfold lineR
  have hf := fields4 (itoa_word e.wh) (name_word e.wt.toNat (by omega) (by omega)) (itoa_word e.th) (itoa_word e.va)
  rw [← hl] at hf
  rw [hf]
  simp only [hg, (numV_itoa _ h3).2.1, (numV_itoa _ h4).2.1, (numV_itoa _ h5).2.1, hb, true_and]
  rw [if_pos]
  unfold prR
  rw [if_pos hb]
  rcases lastL_cases L with h0 | ⟨e0, h0⟩
  · right
    rw [h0, List.nil_append, textL_one]
    exact h1.symm
  · left
    rw [h0] at hb
    have hw0 := stR_mem (stB_true hb) e0 (by simp)
    obtain ⟨y0, hy0, _⟩ := line_once e0 ⟨hw0.1, hw0.2.1⟩
    rw [h0, List.singleton_append, textL_two, suf_iff]
    exact ⟨y0, by rw [hy0, h1]; simp⟩
theorem good_of_lineR {L : List Ev} {l : List UInt8} {e : Ev} (hl : (10 : UInt8) ∉ l) (h : lineR L l = some e) : Good L l e := by
  unfold lineR at h
  split at h
  · rename_i a b c d hs
    split at h
    · rename_i hc
      obtain ⟨_, _, _, hb, ht⟩ := hc
      simp only [Option.some.injEq] at h
      rw [h] at hb ht
      have hw := stB_last hb
      have hwf : B64 e.wh ∧ B64 e.th ∧ B64 e.va := by rw [← h]; exact ⟨numV_B64 _, numV_B64 _, numV_B64 _⟩
      refine ⟨?_, hb, hwf.1, hwf.2.1, hwf.2.2⟩
      obtain ⟨y, hy, hyn⟩ := line_once e ⟨hw.1, hw.2.1⟩
      unfold prR at ht
      rw [if_pos hb] at ht
      rcases lastL_cases L with h0 | ⟨e0, h0⟩
      · rw [h0, List.nil_append, textL_one] at ht
        rcases ht with ht | ht
        · obtain ⟨x, hx⟩ := (suf_iff _ _).1 ht
          rw [hy, ← List.append_assoc, ← List.append_assoc] at hx
          have := List.append_cancel_right hx
          exact absurd (by rw [← this]; simp) hyn
        · exact ht.symm
      · rw [h0] at hb
        have hw0 := stR_mem (stB_true hb) e0 (by simp)
        obtain ⟨y0, hy0, _⟩ := line_once e0 ⟨hw0.1, hw0.2.1⟩
        rw [h0, List.singleton_append, textL_two, hy0, hy] at ht
        rcases ht with ht | ht
        · obtain ⟨x, hx⟩ := (suf_iff _ _).1 ht
          rw [← List.append_assoc, ← List.append_assoc, ← List.append_assoc] at hx
          have h2 := List.append_cancel_right hx
          have h3 := congrArg List.reverse h2
          simp only [List.reverse_append, List.reverse_cons, List.append_assoc, List.singleton_append] at h3
          have h4 := (split_uniq h3 (by simpa using hl) (by simpa using hyn)).1
          have h5 : l = y := by simpa using congrArg List.reverse h4
          rw [hy, h5]
        · rw [← List.append_assoc] at ht
          have h2 := List.append_cancel_right ht
          exact absurd (by rw [← h2]; simp) hl
    · cases h
  · cases h
theorem step_eq (s : List UInt8) (L : List Ev) : stepP s L = stepR s L := by
  rcases dec_at s 10 with h | ⟨l, r, rfl, hl⟩
  · have e1 : cut s [10] = (s, [], false) := by unfold cut; rw [index_no s 10 h, if_neg (by omega)]
    unfold stepP stepR
    rw [e1, byte_no s 10 h]
    simp
  · have e1 : cut (l ++ 10 :: r) [10] = (l, r, true) := by
      unfold cut
      rw [index_at l r 10 hl, if_pos (by omega)]
      simp
    unfold stepP stepR
    rw [e1, byte_at l r 10 hl]
    rw [if_neg (show ¬ ((l.length : Nat) : Int) < 0 by omega)]
    have e2 : (l ++ 10 :: r).take ((l.length : Nat) : Int).toNat = l := by simp
    have e3 : (l ++ 10 :: r).drop (((l.length : Nat) : Int).toNat + 1) = r := by simp
    rw [e2, e3]
    simp only [true_and]
    by_cases hg : ∃ e, Good L l e
    · obtain ⟨e, hg⟩ := hg
      rw [lineR_good hg, lineP_good hg]
      simp [hg.2.1]
    · have h1 : ¬ ((lineP l).2 = true ∧ stB 0 (lastL L ++ [(lineP l).1]) = true) := fun hc => hg ⟨_, good_of_lineP hc.1 hc.2⟩
      rw [if_neg h1]
      cases hr : lineR L l with
      | none => rfl
      | some e => exact absurd ⟨e, good_of_lineR hl hr⟩ hg
/-- The events that a text is, or where it fails: (the events, the error, its place). -/
noncomputable def prs (step : List UInt8 → List Ev → Option (Ev × List UInt8)) : Nat → List UInt8 → List Ev → List Ev × Int × Int
  | 0, _, L => (L, 0, -1)
  | f + 1, s, L => if s = [] then (L, 0, -1) else match step s L with
    | none => ([], 3, (L.length : Int))
    | some (e, r) => prs step f r (L ++ [e])
theorem prs_eq (f : Nat) (s : List UInt8) (L : List Ev) : prs stepP f s L = prs stepR f s L := by
  rw [show stepP = stepR from funext fun s => funext fun L => step_eq s L]
end Go.Proofs.YthnbbgmajdjgeaaDoor
