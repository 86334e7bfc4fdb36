/-
  A map of this call's own from pairs of ints to int is told here by one function: what each pair holds, 0 where nothing lies. Conditions: as each states.
-/
import Derived.Test.YtepoahinnfjaiaaDoorMapI
import Derived.DeepKeys4
namespace Go.Proofs.YtepoahinnfjaiaaDoor
open Go.RowKit
theorem Tryd.laidOut2 : laidOutB Tryd.prog = true := by kernel_rfl
theorem Tryd.row154 : (154 : TypeId) < Tryd.prog.types.size := of_decide_eq_true (by kernel_rfl)
theorem Tryd.wide154 : (match Tryd.prog.underlying 154 with | some (.array _ _) | some (.struct _) => true | _ => false) = true := by rw [Tryd.underlying154]
set_option maxRecDepth 100000 in
theorem Tryd.keyed154 : Maps.Keyed Tryd.prog 154 := Maps.Keyed.of_law (deep_law_laid Tryd.laidOut2 (m := 2) (by omega) Tryd.row154 (by kernel_rfl) Tryd.wide154)
theorem Tryd.kt154 : Tryd.prog.keyType 154 = true := by kernel_rfl
theorem Tryd.cells154 : Tryd.prog.cellsOf 154 = 2 := by kernel_rfl
theorem Tryd.cells3k : Tryd.prog.cellsOf 3 = 1 := by kernel_rfl
theorem lits_int (d : Nat) (a : Int) (ha : wfI a) : Tryd.prog.keyLits (d + 1) 3 [.int .i64 a] = some [.int .i64 a] := by
  unfold Program.keyLits
  rw [Tryd.underlying3]
  simp only [true_and]
  exact if_pos ha
theorem lits_pair (d : Nat) (a b : Int) (ha : wfI a) (hb : wfI b) : Tryd.prog.keyLits (d + 2) 154 [.int .i64 a, .int .i64 b] = some [.int .i64 a, .int .i64 b] := by
  unfold Program.keyLits
  rw [Tryd.underlying154]
  simp only [Tryd.cells154, Tryd.cells3k]
  rw [if_pos (by rfl)]
  have e : List.range 2 = [0, 1] := rfl
  rw [e]
  simp only [List.mapM_cons, List.mapM_nil, Nat.zero_mul, Nat.one_mul, List.drop_zero, List.take_succ_cons, List.take_zero, List.drop_succ_cons, lits_int d a ha, lits_int d b hb]
  rfl
theorem key_pair (a b : Int) (ha : wfI a) (hb : wfI b) : ∃ l, keyOf Tryd.prog 154 (.agg #[.int .i64 a, .int .i64 b]) = some l := by
  have hf : (Value.agg #[.int .i64 a, .int .i64 b]).formed Tryd.prog 154 = true := by simp [Value.formed, Tryd.underlying154, Tryd.cells154]
  have hpos : 0 < Tryd.prog.types.size := Nat.lt_of_le_of_lt (Nat.zero_le _) Tryd.row154
  obtain ⟨n, hn⟩ : ∃ n, Tryd.prog.types.size + 1 = n + 2 := by
    generalize Tryd.prog.types.size = sz at hpos
    exact ⟨sz - 1, by omega⟩
  have hc : (Value.agg #[.int .i64 a, .int .i64 b]).cells.toList = [.int .i64 a, .int .i64 b] := rfl
  unfold keyOf
  rw [Tryd.underlying154]
  simp only [Tryd.kt154, hf, hn, hc, lits_pair n a b ha hb]
  exact ⟨_, rfl⟩
abbrev pairV (a b : Int) : Value := .agg #[.int .i64 a, .int .i64 b]
theorem key_inj {a b c d : Int} {l : Lit} (h1 : keyOf Tryd.prog 154 (pairV a b) = some l) (h2 : keyOf Tryd.prog 154 (pairV c d) = some l) : a = c ∧ b = d := by
  have h := Tryd.keyed154.inj h1 h2
  simpa using h
/-- Block m is a map of at most n entries, S a b at the pair a, b. -/
def MapP (w : World) (m n : Nat) (S : Int → Int → Int) : Prop :=
  ∃ D : DataW Unit, w.ownsMap Tryd.prog 154 (plainElem Tryd.prog 3) m n D ∧ Maps.IsMap D ∧ ∀ a b l, keyOf Tryd.prog 154 (pairV a b) = some l → D.atKey l (.lit (.int .i64 0)) = .lit (.int .i64 (S a b))
section
variable {w : World} {m n : Nat} {S : Int → Int → Int}
theorem MapP.made (w : World) : MapP (w.alloc (.map #[] 0)) w.heap.size 0 (fun _ _ => 0) :=
  ⟨.map [], World.ownsMap_made _ _ _ _, Maps.isMap_empty, fun _ _ _ _ => rfl⟩
theorem MapP.lt (h : MapP w m n S) : m < w.heap.size := by obtain ⟨D, h1, _⟩ := h; exact h1.lt
theorem MapP.below {B : Nat} (h : MapP w m n S) {w' : World} (hb : Below B w w') (hB : m < B) : MapP w' m n S := by
  obtain ⟨D, ⟨es, clock, h1, F, hs, hD⟩, h2, h3⟩ := h
  exact ⟨D, ⟨es, clock, (hb.block m hB).trans h1, F, hs, hD⟩, h2, h3⟩
theorem MapP.ofBlock (h : MapP w m n S) {w' : World} (hb : w'.heap[m]? = w.heap[m]?) : MapP w' m n S := by
  obtain ⟨D, ⟨es, clock, h1, F, hs, hD⟩, h2, h3⟩ := h
  exact ⟨D, ⟨es, clock, hb.trans h1, F, hs, hD⟩, h2, h3⟩
theorem MapP.congr (h : MapP w m n S) {S' : Int → Int → Int} (hS : ∀ a b, S a b = S' a b) : MapP w m n S' := by
  obtain ⟨D, h1, h2, h3⟩ := h; exact ⟨D, h1, h2, fun a b l hl => by rw [h3 a b l hl, hS a b]⟩
set_option maxRecDepth 100000 in
theorem MapP.look (h : MapP w m n S) {T : TypeId} (ht : Tryd.prog.underlying T = some (.map 154 3)) (hz : (zeroValue 3).run Tryd.prog w = .ok (.int .i64 0) w)
    (a b : Int) (ha : wfI a) (hb : wfI b) : (Instr.lookup T (.map (some m)) (pairV a b) false).run Tryd.prog w = .ok (.int .i64 (S a b)) w := by
  obtain ⟨D, h1, h2, h3⟩ := h
  obtain ⟨l, hl⟩ := key_pair a b ha hb
  obtain ⟨c, hrun, hat, _⟩ := h1.lookup_int Tryd.keyed154 ht Tryd.underlying3 hz hl
  rw [h3 a b l hl] at hat
  injection hat with hat
  injection hat with _ hat
  rw [hrun, hat]
set_option maxRecDepth 100000 in
theorem MapP.store (h : MapP w m n S) {T : TypeId} (ht : Tryd.prog.underlying T = some (.map 154 3)) (hn : n < maxLen)
    (a b v : Int) (ha : wfI a) (hb : wfI b) (hv : wfI v) : ∃ w', (Instr.mapUpdate T (.map (some m)) (pairV a b) (.int .i64 v)).run Tryd.prog w = .ok () w' ∧ MapP w' m (n + 1) (fun x y => if x = a ∧ y = b then v else S x y) ∧ w.grownBy w' (some m) := by
  obtain ⟨D, h1, h2, h3⟩ := h
  obtain ⟨l, hl⟩ := key_pair a b ha hb
  obtain ⟨w', hrun, hown, hg⟩ := h1.update Tryd.keyed154 ht hn hl (plainElem_int Tryd.underlying3 hv)
  refine ⟨w', hrun, ⟨_, hown, h2.put _ _, fun x y l' hl' => ?_⟩, hg⟩
  by_cases hxt : x = a ∧ y = b
  · obtain ⟨rfl, rfl⟩ := hxt
    rw [hl] at hl'
    injection hl' with hl'
    subst hl'
    rw [Maps.atKey_put_same h2 (Tryd.keyed154.key hl)]; simp
  · rw [Maps.atKey_put_other (by intro e; subst e; exact hxt (key_inj hl' hl)), h3 x y l' hl']; simp [hxt]
end
end Go.Proofs.YtepoahinnfjaiaaDoor
