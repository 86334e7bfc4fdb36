/-
  LinPoints, the reference's half: maps of this call's own: from int to int, from pairs of ints to int, each told by one function. Conditions: as each states.
-/
import Derived.Test.YthnbbgmajdjgeaaDoorProg
import Derived.WalkKit
import Derived.Maps.OwnOps
import Derived.Maps.OwnSet
import Derived.Maps.Views
import Derived.Below
import Derived.OwnWalk
import Derived.Deep.Draws
import Derived.DeepKeys4
namespace Go.Proofs.YthnbbgmajdjgeaaDoor
open Go.RowKit
def wfI (t : Int) : Prop := (Lit.int .i64 t).wf = true
theorem wfI_in {t : Int} (h0 : -9223372036854775808 ≤ t) (h1 : t ≤ 9223372036854775807) : wfI t := WalkArith.wf_i64 (by omega)
/-- Block b is a map of at most n entries, S t at key t. -/
def MapIs (e : TypeId) (q : IntKind) (w : World) (b n : Nat) (S : Int → Int) : Prop :=
  ∃ D : DataW Unit, w.ownsMap Tryd.prog 3 (plainElem Tryd.prog e) b n D ∧ Maps.IsMap D ∧ ∀ t, wfI t → D.atKey (.int .i64 t) (.lit (.int q 0)) = .lit (.int q (S t))
section
variable {e : TypeId} {q : IntKind} {w : World} {b n : Nat} {S : Int → Int}
theorem MapIs.made (w : World) : MapIs e q (w.alloc (.map #[] 0)) w.heap.size 0 (fun _ => 0) :=
  ⟨.map [], World.ownsMap_made _ _ _ _, Maps.isMap_empty, fun _ _ => rfl⟩
theorem MapIs.lt (h : MapIs e q w b n S) : b < w.heap.size := by
  obtain ⟨D, h1, _⟩ := h; exact h1.lt
theorem MapIs.mono (h : MapIs e q w b n S) {n' : Nat} (hn : n ≤ n') : MapIs e q w b n' S := by
  obtain ⟨D, h1, h2, h3⟩ := h; exact ⟨D, h1.mono hn, h2, h3⟩
theorem MapIs.kept (h : MapIs e q w b n S) {w' : World} {row : Option Nat} (hg : w.grownBy w' row) (hne : some b ≠ row) : MapIs e q w' b n S := by
  obtain ⟨D, h1, h2, h3⟩ := h; exact ⟨D, h1.kept hg hne, h2, h3⟩
theorem MapIs.alloc (h : MapIs e q w b n S) (o : Obj) : MapIs e q (w.alloc o) b n S := by
  obtain ⟨D, h1, h2, h3⟩ := h; exact ⟨D, h1.alloc o, h2, h3⟩
theorem MapIs.drew (h : MapIs e q w b n S) : MapIs e q w.drew b n S := h
theorem MapIs.drewN (h : MapIs e q w b n S) (k : Nat) : MapIs e q (w.drewN k) b n S := h
theorem MapIs.below {B : Nat} (h : MapIs e q w b n S) {w' : World} (hb : Below B w w') (hB : b < B) : MapIs e q w' b n S := by
  obtain ⟨D, ⟨es, clock, h1, F, hs, hD⟩, h2, h3⟩ := h
  exact ⟨D, ⟨es, clock, (hb.block b hB).trans h1, F, hs, hD⟩, h2, h3⟩
theorem MapIs.setCell (h : MapIs e q w b n S) {a : Addr} (ha : b ≠ a.block) (u : Value) : MapIs e q (w.setCell a u) b n S := by
  obtain ⟨D, ⟨es, clock, h1, F, hs, hD⟩, h2, h3⟩ := h
  exact ⟨D, ⟨es, clock, (Below.heap_setCell w a u b ha).trans h1, F, hs, hD⟩, h2, h3⟩
theorem MapIs.congr (h : MapIs e q w b n S) {S' : Int → Int} (hS : ∀ t, wfI t → S t = S' t) : MapIs e q w b n S' := by
  obtain ⟨D, h1, h2, h3⟩ := h; exact ⟨D, h1, h2, fun t ht => by rw [h3 t ht, hS t ht]⟩
set_option maxRecDepth 100000 in
theorem MapIs.look (h : MapIs e q w b n S) {T : TypeId} (ht : Tryd.prog.underlying T = some (.map 3 e)) (he : Tryd.prog.underlying e = some (.int q)) (hz : (zeroValue e).run Tryd.prog w = .ok (.int q 0) w)
    (t : Int) (hw : wfI t) : (Instr.lookup T (.map (some b)) (.int .i64 t) false).run Tryd.prog w = .ok (.int q (S t)) w := by
  obtain ⟨D, h1, h2, h3⟩ := h
  obtain ⟨c, hrun, hat, _⟩ := h1.lookup_int (Maps.int_keyed Tryd.underlying3) ht he hz (Maps.keyOf_int_mk Tryd.underlying3 hw)
  rw [h3 t hw] at hat
  injection hat with hat
  injection hat with _ hat
  rw [hrun, hat]
set_option maxRecDepth 100000 in
theorem MapIs.store (h : MapIs e q w b n S) {T : TypeId} (ht : Tryd.prog.underlying T = some (.map 3 e)) (he : Tryd.prog.underlying e = some (.int q)) (hn : n < maxLen)
    (t v : Int) (hw : wfI t) (hv : (Lit.int q v).wf = true) : ∃ w', (Instr.mapUpdate T (.map (some b)) (.int .i64 t) (.int q v)).run Tryd.prog w = .ok () w' ∧ MapIs e q w' b (n + 1) (fun x => if x = t then v else S x) ∧ w.grownBy w' (some b) := by
  obtain ⟨D, h1, h2, h3⟩ := h
  obtain ⟨w', hrun, hown, hg⟩ := h1.update (Maps.int_keyed Tryd.underlying3) ht hn (Maps.keyOf_int_mk Tryd.underlying3 hw) (plainElem_int he hv)
  refine ⟨w', hrun, ⟨_, hown, h2.put _ _, fun x hx => ?_⟩, hg⟩
  by_cases hxt : x = t
  · subst hxt
    rw [Maps.atKey_put_same h2 (by simp [WideAt.IsKeyLit])]; simp
  · rw [Maps.atKey_put_other (by intro h; injection h with _ h; exact hxt h), h3 x hx]; simp [hxt]
end
theorem Tryd.laidOutM : laidOutB Tryd.prog = true := by kernel_rfl
theorem Tryd.row53 : (53 : TypeId) < Tryd.prog.types.size := of_decide_eq_true (by kernel_rfl)
theorem Tryd.wide53 : (match Tryd.prog.underlying 53 with | some (.array _ _) | some (.struct _) => true | _ => false) = true := by rw [Tryd.underlying53]
set_option maxRecDepth 100000 in
theorem Tryd.keyed53 : Maps.Keyed Tryd.prog 53 := Maps.Keyed.of_law (deep_law_laid Tryd.laidOutM (m := 2) (by omega) Tryd.row53 (by kernel_rfl) Tryd.wide53)
theorem Tryd.kt53 : Tryd.prog.keyType 53 = true := by kernel_rfl
theorem Tryd.cells53 : Tryd.prog.cellsOf 53 = 2 := by kernel_rfl
theorem Tryd.cells3m : Tryd.prog.cellsOf 3 = 1 := by kernel_rfl
theorem lits_int (d : Nat) (a : Int) (ha : wfI a) : Tryd.prog.keyLits (d + 1) 3 [.int .i64 a] = some [.int .i64 a] := by
  unfold Program.keyLits
  rw [Tryd.underlying3]
  simp only [true_and]
  exact if_pos ha
theorem lits_pair (d : Nat) (a b : Int) (ha : wfI a) (hb : wfI b) : Tryd.prog.keyLits (d + 2) 53 [.int .i64 a, .int .i64 b] = some [.int .i64 a, .int .i64 b] := by
  unfold Program.keyLits
  rw [Tryd.underlying53]
  simp only [Tryd.cells53, Tryd.cells3m]
  rw [if_pos (by rfl)]
  have e : List.range 2 = [0, 1] := rfl
  rw [e]
  simp only [List.mapM_cons, List.mapM_nil, Nat.zero_mul, Nat.one_mul, List.drop_zero, List.take_succ_cons, List.take_zero, List.drop_succ_cons, lits_int d a ha, lits_int d b hb]
  rfl
theorem key_pair (a b : Int) (ha : wfI a) (hb : wfI b) : ∃ l, keyOf Tryd.prog 53 (.agg #[.int .i64 a, .int .i64 b]) = some l := by
  have hf : (Value.agg #[.int .i64 a, .int .i64 b]).formed Tryd.prog 53 = true := by simp [Value.formed, Tryd.underlying53, Tryd.cells53]
  have hpos : 0 < Tryd.prog.types.size := Nat.lt_of_le_of_lt (Nat.zero_le _) Tryd.row53
  obtain ⟨n, hn⟩ : ∃ n, Tryd.prog.types.size + 1 = n + 2 := by
    generalize Tryd.prog.types.size = sz at hpos
    exact ⟨sz - 1, by omega⟩
  have hc : (Value.agg #[.int .i64 a, .int .i64 b]).cells.toList = [.int .i64 a, .int .i64 b] := rfl
  unfold keyOf
  rw [Tryd.underlying53]
  simp only [Tryd.kt53, hf, hn, hc, lits_pair n a b ha hb]
  exact ⟨_, rfl⟩
abbrev pairV (a b : Int) : Value := .agg #[.int .i64 a, .int .i64 b]
theorem key_inj {a b c d : Int} {l : Lit} (h1 : keyOf Tryd.prog 53 (pairV a b) = some l) (h2 : keyOf Tryd.prog 53 (pairV c d) = some l) : a = c ∧ b = d := by
  have h := Tryd.keyed53.inj h1 h2
  simpa using h
/-- Block m is a map of at most n entries, S a b at the pair a, b, if anything. -/
def MapQ (w : World) (m n : Nat) (S : Int → Int → Option Int) : Prop :=
  ∃ D : DataW Unit, w.ownsMap Tryd.prog 53 (plainElem Tryd.prog 3) m n D ∧ Maps.IsMap D ∧ ∀ a b l, keyOf Tryd.prog 53 (pairV a b) = some l → Maps.has D l = (S a b).isSome ∧ D.atKey l (.lit (.int .i64 0)) = .lit (.int .i64 ((S a b).getD 0))
section
variable {w : World} {m n : Nat} {S : Int → Int → Option Int}
theorem MapQ.made (w : World) : MapQ (w.alloc (.map #[] 0)) w.heap.size 0 (fun _ _ => none) :=
  ⟨.map [], World.ownsMap_made _ _ _ _, Maps.isMap_empty, fun _ _ _ _ => ⟨rfl, rfl⟩⟩
theorem MapQ.lt (h : MapQ w m n S) : m < w.heap.size := by obtain ⟨D, h1, _⟩ := h; exact h1.lt
theorem MapQ.ofBlock (h : MapQ w m n S) {w' : World} (hb : w'.heap[m]? = w.heap[m]?) : MapQ w' m n S := by
  obtain ⟨D, ⟨es, clock, h1, F, hs, hD⟩, h2, h3⟩ := h
  exact ⟨D, ⟨es, clock, hb.trans h1, F, hs, hD⟩, h2, h3⟩
theorem MapQ.below {B : Nat} (h : MapQ w m n S) {w' : World} (hb : Below B w w') (hB : m < B) : MapQ w' m n S := h.ofBlock (hb.block m hB)
theorem MapQ.kept (h : MapQ w m n S) {w' : World} {row : Option Nat} (hg : w.grownBy w' row) (hne : some m ≠ row) : MapQ w' m n S := h.ofBlock (hg.block m h.lt hne)
theorem MapQ.alloc (h : MapQ w m n S) (o : Obj) : MapQ (w.alloc o) m n S := h.below ((Below.refl _ _).alloc (Nat.le_refl _) o) h.lt
theorem MapQ.drewN (h : MapQ w m n S) (q : Nat) : MapQ (w.drewN q) m n S := h
theorem MapQ.setCell (h : MapQ w m n S) {a : Addr} (ha : m ≠ a.block) (u : Value) : MapQ (w.setCell a u) m n S := h.ofBlock (Below.heap_setCell w a u m ha)
theorem MapQ.congr (h : MapQ w m n S) {S' : Int → Int → Option Int} (hS : ∀ a b, S a b = S' a b) : MapQ w m n S' := by
  obtain ⟨D, h1, h2, h3⟩ := h; exact ⟨D, h1, h2, fun a b l hl => by rw [← hS a b]; exact h3 a b l hl⟩
set_option maxRecDepth 100000 in
theorem MapQ.look (h : MapQ w m n S) {T : TypeId} (ht : Tryd.prog.underlying T = some (.map 53 3)) (hz : (zeroValue 3).run Tryd.prog w = .ok (.int .i64 0) w)
    (a b : Int) (ha : wfI a) (hb : wfI b) : (Instr.lookup T (.map (some m)) (pairV a b) false).run Tryd.prog w = .ok (.int .i64 ((S a b).getD 0)) w := by
  obtain ⟨D, h1, h2, h3⟩ := h
  obtain ⟨l, hl⟩ := key_pair a b ha hb
  obtain ⟨c, hrun, hat, _⟩ := h1.lookup_int Tryd.keyed53 ht Tryd.underlying3 hz hl
  rw [(h3 a b l hl).2] at hat
  injection hat with hat
  injection hat with _ hat
  rw [hrun, hat]
set_option maxRecDepth 100000 in
theorem MapQ.lookOk (h : MapQ w m n S) {T : TypeId} (ht : Tryd.prog.underlying T = some (.map 53 3)) (hz : (zeroValue 3).run Tryd.prog w = .ok (.int .i64 0) w)
    (a b : Int) (ha : wfI a) (hb : wfI b) : (Instr.lookup T (.map (some m)) (pairV a b) true).run Tryd.prog w = .ok (.tuple #[.int .i64 ((S a b).getD 0), .bool (S a b).isSome]) w := by
  obtain ⟨D, h1, h2, h3⟩ := h
  obtain ⟨l, hl⟩ := key_pair a b ha hb
  obtain ⟨v, ps, hrun, hv⟩ := h1.look_ok Tryd.keyed53 ht hz (plainElem_int Tryd.underlying3 (wfI_in (by omega) (by omega))) hl
  obtain ⟨c, rfl, hc, _⟩ := plainElem_int_inv Tryd.underlying3 hv
  have hc' := congrArg Prod.fst hc
  simp only [(h3 a b l hl).2] at hc'
  injection hc' with hc'
  injection hc' with _ hc'
  rw [hrun, ← hc', (h3 a b l hl).1]
set_option maxRecDepth 100000 in
theorem MapQ.store (h : MapQ w m n S) {T : TypeId} (ht : Tryd.prog.underlying T = some (.map 53 3)) (hn : n < maxLen)
    (a b v : Int) (ha : wfI a) (hb : wfI b) (hv : wfI v) : ∃ w', (Instr.mapUpdate T (.map (some m)) (pairV a b) (.int .i64 v)).run Tryd.prog w = .ok () w' ∧ MapQ w' m (n + 1) (fun x y => if x = a ∧ y = b then some v else S x y) ∧ w.grownBy w' (some m) := by
  obtain ⟨D, h1, h2, h3⟩ := h
  obtain ⟨l, hl⟩ := key_pair a b ha hb
  obtain ⟨w', hrun, hown, hg⟩ := h1.update Tryd.keyed53 ht hn hl (plainElem_int Tryd.underlying3 hv)
  refine ⟨w', hrun, ⟨_, hown, h2.put _ _, fun x y l' hl' => ?_⟩, hg⟩
  by_cases hxt : x = a ∧ y = b
  · obtain ⟨rfl, rfl⟩ := hxt
    rw [hl] at hl'
    injection hl' with hl'
    subst hl'
    rw [Maps.has_put_same h2 (Tryd.keyed53.key hl), Maps.atKey_put_same h2 (Tryd.keyed53.key hl)]; simp
  · have hne : l' ≠ l := by intro e; subst e; exact hxt (key_inj hl' hl)
    rw [Maps.has_put_other hne, Maps.atKey_put_other hne]
    simp only [if_neg hxt]
    exact h3 x y l' hl'
end
end Go.Proofs.YthnbbgmajdjgeaaDoor
