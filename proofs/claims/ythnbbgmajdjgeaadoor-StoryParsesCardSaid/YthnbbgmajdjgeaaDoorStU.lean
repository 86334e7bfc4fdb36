/-
  StoryParses' walks: small laws that both parsers use. Conditions: as each states.
-/
import Derived.Test.YthnbbgmajdjgeaaDoorStR
import Derived.Test.YthnbbgmajdjgeaaDoorErr
import Derived.Deep.RegionLawGrows
namespace Go.Proofs.YthnbbgmajdjgeaaDoor
open Go.RowKit Go.Extern.Stop Go.Stop Go.Extern
attribute [local go_sem ↓] Go.wp_at_zero Go.wp_at_succ

theorem Tryd.info47 : (Tryd.prog.info? 47).map (fun i => (i.zero, i.size, i.bytes)) = some (some (.agg #[.int .i64 0, .int .i64 0, .int .i64 0, .int .i64 0]), 4, 32) := by kernel_rfl
theorem own_form {w : World} {base n size : Nat} {e : TypeId} {v : Value} {xs : List Value} (h : w.ownsRow base e size v n xs) : ∃ A c, v = .slice A n c := by
  rcases h.2 with ⟨rfl, h0⟩ | ⟨g, cap, cur, rfl, _⟩
  · obtain rfl : n = 0 := by omega
    exact ⟨_, _, rfl⟩
  · exact ⟨_, _, rfl⟩
theorem own_below {B : Nat} {e : TypeId} {k : Nat} {v : Value} {n : Nat} {xs : List Value} {w w' : World} (h : w.ownsRow B e k v n xs) (hb : Below w.heap.size w w') : w'.ownsRow B e k v n xs :=
  h.kept (row := none) ⟨hb.os, hb.tape, hb.output, hb.size, fun j hj _ => hb.block j hj⟩ (by cases hv : v.ownBlock <;> simp)
theorem own_cap {w : World} {base n size cap : Nat} {e : TypeId} {A : Option Addr} {xs : List Value} (h : w.ownsRow base e size (.slice A n cap) n xs) : n ≤ cap := by
  rcases h.2 with ⟨h, rfl⟩ | ⟨g, cap', cur, hv, _, _, hc, _⟩
  · exact Nat.zero_le _
  · injection hv with _ _ h3
    omega
theorem below_none {w w' : World} (h : w.grownBy w' none) : Below w.heap.size w w' := (Below.refl _ _).grown h (Nat.le_refl _) (by simp)
theorem flatE_drop : ∀ (l : List Ev) (k : Nat), flatE (l.drop k) = (flatE l).drop (k * 4)
  | [], k => by simp [flatE]
  | e :: l, 0 => by simp
  | e :: l, k + 1 => by
    have h : flatE (e :: l) = evc e ++ flatE l := rfl
    have e : (k + 1) * 4 = (evc e).length + k * 4 := by rw [evc_len]; omega
    rw [List.drop_succ_cons, flatE_drop l k, h, e, List.drop_append, List.drop_eq_nil_of_le (Nat.le_add_right _ _), List.nil_append, Nat.add_sub_cancel_left]
theorem flatE_len (l : List Ev) : (flatE l).length = l.length * 4 := by
  induction l with
  | nil => rfl
  | cons e l ih =>
    have h : flatE (e :: l) = evc e ++ flatE l := rfl
    rw [h, List.length_append, evc_len, ih, List.length_cons]
    omega
theorem last_cells {w : World} {base g m c : Nat} {L : List Ev} (h : w.ownsRow base 47 4 (.slice (some ⟨g, 0, none⟩) (m + 1) c) (m + 1) (flatE L)) (hl : L.length = m + 1) :
    (flatE (lastL L)).length = 1 * 4 ∧ ∀ j u, (flatE (lastL L))[j]? = some u → w.cell? ((⟨g, m * 4, none⟩ : Addr).add j) = some u := by
  have e : lastL L = L.drop m := by unfold lastL; rw [hl]; rfl
  rw [e, flatE_drop]
  refine ⟨by rw [List.length_drop, flatE_len, hl]; omega, fun j u hu => ?_⟩
  have e2 : (⟨g, m * 4, none⟩ : Addr) = Addr.add ⟨g, 0, none⟩ (m * 4) := by unfold Addr.add; split <;> simp_all
  rw [e2, add_of_add]
  exact h.cells (g := g) rfl _ u (by rw [← hu, List.getElem?_drop])
theorem last_len {L : List Ev} {m : Nat} (hl : L.length = m + 1) : (lastL L).length = 1 := by
  unfold lastL; rw [List.length_drop]; omega
theorem flatE_app (a b : List Ev) : flatE (a ++ b) = flatE a ++ flatE b := List.flatMap_append
theorem cut_len (s : List UInt8) : (Lib.cut s [10]).1.length ≤ s.length ∧ (Lib.cut s [10]).2.1.length ≤ s.length ∧ ((Lib.cut s [10]).2.2 = true → (Lib.cut s [10]).2.1.length < s.length) := by
  rcases dec_at s 10 with h | ⟨l, r, rfl, hl⟩
  · have e1 : Lib.cut s [10] = (s, [], false) := by unfold Lib.cut; rw [index_no s 10 h, if_neg (by omega)]
    rw [e1]
    exact ⟨Nat.le_refl _, by simp, fun h => by cases h⟩
  · have e1 : Lib.cut (l ++ 10 :: r) [10] = (l, r, true) := by
      unfold Lib.cut
      rw [index_at l r 10 hl, if_pos (by omega)]
      simp
    rw [e1]
    refine ⟨by simp, by simp; omega, fun _ => by simp; omega⟩
/-- append onto a full slice of another's: one step of a region that draws, guarded or not. -/
theorem step_full {P : Program} {ops : Array Oper} {o : Oper} {a : Act} {w : World} {K : Act → World → Prop} {Q : Exit → Act → World → Prop} {E : Prop}
    (hw : Region.wanted o (yielded ops a.tmps) = true) (s x : Operand) (t : TypeId) (hop : o.op = Op.call { callee := Callee.builtin Builtin.append, args := #[s, x], argTypes := #[t, t] })
    (e : TypeId) (i : TypeInfo) (z : Value) (size bytes : Nat) (h1 : P.underlying t = some (.slice e)) (h2 : P.info? e = some i) (h3 : i.zero = some z) (h4 : i.size = size) (h5 : i.bytes = bytes) (h6 : z.cells.size = size) (h7 : 0 < size)
    (b : Addr) (n cap : Nat) (olds : List Value) (hs : a.eval s = .slice (some b) n cap) (hlo : olds.length = n * size) (holds : ∀ j u, olds[j]? = some u → w.cell? (b.add j) = some u)
    (ad : Addr) (m c : Nat) (news : List Value) (hx : a.eval x = .slice (some ad) m c) (hn : news.length = m * size) (hc : ∀ j u, news[j]? = some u → w.cell? (ad.add j) = some u)
    (hfull : cap < n + m) (b1 : n + m ≤ maxLen) (b2 : (n + m) * bytes ≤ 140737488355328)
    (hK : ∀ v' w', w'.ownsRow w.heap.size e size v' (n + m) (olds ++ news) → w.grownBy w' none → K (a.put o.dst v') w') :
    if Region.wanted o (yielded ops a.tmps) = true then Oper.wp P o a w K Q else E := by
  rw [if_pos hw]
  obtain ⟨v', w', hrun, r1, r2⟩ := run_append_arg_grows (P := P) w t o.type e i z size bytes h1 h2 h3 h4 h5 h6 h7 b n cap olds hlo holds ad m c news hn hc hfull b1 b2
  unfold Oper.wp
  simp [execOp, hop, resolve, invoke, builtin, hs, hx, hrun, Result.andThen]
  exact hK v' w' r1 r2
theorem step_none {P : Program} {ops : Array Oper} {o : Oper} {a : Act} {w : World} {K : Act → World → Prop} {Q : Exit → Act → World → Prop} {E : Prop}
    (hw : Region.wanted o (yielded ops a.tmps) = true) (s x : Operand) (t : TypeId) (hop : o.op = Op.call { callee := Callee.builtin Builtin.append, args := #[s, x], argTypes := #[t, t] })
    (e : TypeId) (i : TypeInfo) (z : Value) (size bytes : Nat) (h1 : P.underlying t = some (.slice e)) (h2 : P.info? e = some i) (h3 : i.zero = some z) (h4 : i.size = size) (h5 : i.bytes = bytes) (h6 : z.cells.size = size) (h7 : 0 < size)
    (hs : a.eval s = .slice none 0 0)
    (ad : Addr) (m c : Nat) (news : List Value) (hx : a.eval x = .slice (some ad) m c) (hn : news.length = m * size) (hc : ∀ j u, news[j]? = some u → w.cell? (ad.add j) = some u) (h1c : ∀ u ∈ news, u.oneCell' = true)
    (b1 : 0 + m ≤ maxLen) (b2 : (0 + m) * bytes ≤ 140737488355328)
    (hK : ∀ v' w', w'.ownsRow w.heap.size e size v' (0 + m) ([] ++ news) → w.grownBy w' none → K (a.put o.dst v') w') :
    if Region.wanted o (yielded ops a.tmps) = true then Oper.wp P o a w K Q else E := by
  rw [if_pos hw]
  obtain ⟨v', w', hrun, r1, r2, _⟩ := run_append_own (P := P) w w.heap.size t o.type e i z size bytes h1 h2 h3 h4 h5 h6 h7 (.slice none 0 0) 0 [] (World.ownsRow_nil w _ e size) ad m c news hn hc h1c b1 b2 (Nat.le_refl _)
  unfold Oper.wp
  simp [execOp, hop, resolve, invoke, builtin, hs, hx, hrun, Result.andThen]
  exact hK v' w' r1 r2
theorem cut_any (S : ByteArray) (w : World) (hw : Std0 w) (hs : S.size ≤ 10000) :
    Calls Tryd.prog 27 #[.string S, .string ⟨#[10]⟩] w fun e w' => ∃ (X Y : ByteArray) (b : Bool), e = .returned (.tuple #[.string X, .string Y, .bool b]) ∧ Hid (Lib.cut S.data.toList [10] = (X.data.toList, Y.data.toList, b)) ∧ Below w.heap.size w w' := by
  obtain ⟨m, hm⟩ := hw.mx
  refine (Tryd.strings_Cut S _ m _ (by omega) hm).mono ?_
  rintro e w1 ⟨rfl, n, rfl⟩
  exact ⟨_, _, _, rfl, Lib.hid rfl, ⟨rfl, rfl, rfl, Nat.le_refl _, fun _ _ => rfl⟩⟩
theorem line_ev (X : ByteArray) (w : World) (hw : Std w.heap.size w) (hs : X.size ≤ 10000) :
    Calls Tryd.prog 28 #[.string X] w fun e w' => ∃ (ev : Ev) (ok : Bool), e = .returned (.tuple #[.agg #[.int .i64 ev.wh, .int .i64 ev.wt, .int .i64 ev.th, .int .i64 ev.va], .bool ok]) ∧ Hid (lineP X.data.toList = (ev, ok)) ∧ Below w.heap.size w w' := by
  refine (line_any X w hw hs).mono ?_
  rintro e w1 ⟨rfl, hb⟩
  exact ⟨_, _, rfl, Lib.hid rfl, hb⟩
theorem prs_nil (step : List UInt8 → List Ev → Option (Ev × List UInt8)) (f : Nat) (L : List Ev) : prs step f [] L = (L, 0, -1) := by
  cases f with
  | zero => rfl
  | succ f => unfold prs; rw [if_pos rfl]
theorem prs_fail {step : List UInt8 → List Ev → Option (Ev × List UInt8)} {g : Nat} {s : List UInt8} {L : List Ev} (hs : s ≠ []) (hg : s.length ≤ g) (h : step s L = none) : prs step g s L = ([], 3, (L.length : Int)) := by
  cases g with
  | zero => exact absurd (List.eq_nil_of_length_eq_zero (by omega)) hs
  | succ g => unfold prs; rw [if_neg hs, h]
theorem prs_next {step : List UInt8 → List Ev → Option (Ev × List UInt8)} {g : Nat} {s r : List UInt8} {L : List Ev} {e : Ev} (hs : s ≠ []) (hg : s.length ≤ g) (h : step s L = some (e, r)) : ∃ f, g = f + 1 ∧ prs step g s L = prs step f r (L ++ [e]) := by
  cases g with
  | zero => exact absurd (List.eq_nil_of_length_eq_zero (by omega)) hs
  | succ g => refine ⟨g, rfl, ?_⟩; rw [prs, if_neg hs, h]
theorem stepP_of {s : List UInt8} {L : List Ev} {X Y : List UInt8} {b ok : Bool} {e : Ev} (h1 : Lib.cut s [10] = (X, Y, b)) (h2 : lineP X = (e, ok)) : stepP s L = if (b && ok && stB 0 (lastL L ++ [e])) = true then some (e, Y) else none := by
  unfold stepP
  rw [h1]
  simp only
  rw [h2]
  simp only [Bool.and_eq_true, and_assoc]
def PsEnd (T : List Ev × Int × Int) (w : World) (e : Ending) (w' : World) : Prop :=
  ∃ (A : Option Addr) (c : Nat) (ev : Value), e = .returned (.tuple #[.slice A T.1.length c, ev]) ∧ Reads w' w'.heap.size 4 A T.1.length (flatE T.1) ∧ IsErr w' ev T.2.1 T.2.2 ∧ Below w.heap.size w w'
end Go.Proofs.YthnbbgmajdjgeaaDoor
