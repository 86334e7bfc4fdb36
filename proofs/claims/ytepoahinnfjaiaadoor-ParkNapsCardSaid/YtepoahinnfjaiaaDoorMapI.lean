/-
  A map of this call's own from int to an integer kind is told here by one function: what each key holds, 0 where nothing lies. Conditions: as each states.
-/
import Derived.Test.YtepoahinnfjaiaaDoorProg
import Derived.WalkKit
import Derived.Maps.OwnOps
import Derived.Maps.OwnSet
import Derived.Maps.Views
import Derived.Below
import Derived.OwnWalk
import Derived.Deep.Draws
namespace Go.Proofs.YtepoahinnfjaiaaDoor
open Go.RowKit
def wfI (t : Int) : Prop := (Lit.int .i64 t).wf = true
theorem wfI_in {t : Int} (h0 : -9223372036854775808 ≤ t) (h1 : t ≤ 9223372036854775807) : wfI t := WalkArith.wf_i64 (by omega)
/-- Block b is a map of at most n entries, S t at key t. -/
def MapIs (e : TypeId) (q : IntKind) (w : World) (b n : Nat) (S : Int → Int) : Prop :=
  ∃ D : DataW Unit, w.ownsMap Tryd.prog 3 (plainElem Tryd.prog e) b n D ∧ Maps.IsMap D ∧ ∀ t, wfI t → D.atKey (.int .i64 t) (.lit (.int q 0)) = .lit (.int q (S t))
section
variable {e : TypeId} {q : IntKind} {w : World} {b n : Nat} {S : Int → Int}
theorem MapIs.made (w : World) : MapIs e q (w.alloc (.map #[] 0)) w.heap.size 0 (fun _ => 0) :=
  ⟨.map [], World.ownsMap_made _ _ _ _, Maps.isMap_empty, fun _ _ => rfl⟩
theorem MapIs.lt (h : MapIs e q w b n S) : b < w.heap.size := by
  obtain ⟨D, h1, _⟩ := h; exact h1.lt
theorem MapIs.mono (h : MapIs e q w b n S) {n' : Nat} (hn : n ≤ n') : MapIs e q w b n' S := by
  obtain ⟨D, h1, h2, h3⟩ := h; exact ⟨D, h1.mono hn, h2, h3⟩
theorem MapIs.kept (h : MapIs e q w b n S) {w' : World} {row : Option Nat} (hg : w.grownBy w' row) (hne : some b ≠ row) : MapIs e q w' b n S := by
  obtain ⟨D, h1, h2, h3⟩ := h; exact ⟨D, h1.kept hg hne, h2, h3⟩
theorem MapIs.alloc (h : MapIs e q w b n S) (o : Obj) : MapIs e q (w.alloc o) b n S := by
  obtain ⟨D, h1, h2, h3⟩ := h; exact ⟨D, h1.alloc o, h2, h3⟩
theorem MapIs.drew (h : MapIs e q w b n S) : MapIs e q w.drew b n S := h
theorem MapIs.drewN (h : MapIs e q w b n S) (k : Nat) : MapIs e q (w.drewN k) b n S := h
theorem MapIs.below {B : Nat} (h : MapIs e q w b n S) {w' : World} (hb : Below B w w') (hB : b < B) : MapIs e q w' b n S := by
  obtain ⟨D, ⟨es, clock, h1, F, hs, hD⟩, h2, h3⟩ := h
  exact ⟨D, ⟨es, clock, (hb.block b hB).trans h1, F, hs, hD⟩, h2, h3⟩
theorem MapIs.setCell (h : MapIs e q w b n S) {a : Addr} (ha : b ≠ a.block) (u : Value) : MapIs e q (w.setCell a u) b n S := by
  obtain ⟨D, ⟨es, clock, h1, F, hs, hD⟩, h2, h3⟩ := h
  exact ⟨D, ⟨es, clock, (Below.heap_setCell w a u b ha).trans h1, F, hs, hD⟩, h2, h3⟩
theorem MapIs.congr (h : MapIs e q w b n S) {S' : Int → Int} (hS : ∀ t, wfI t → S t = S' t) : MapIs e q w b n S' := by
  obtain ⟨D, h1, h2, h3⟩ := h; exact ⟨D, h1, h2, fun t ht => by rw [h3 t ht, hS t ht]⟩
set_option maxRecDepth 100000 in
theorem MapIs.look (h : MapIs e q w b n S) {T : TypeId} (ht : Tryd.prog.underlying T = some (.map 3 e)) (he : Tryd.prog.underlying e = some (.int q)) (hz : (zeroValue e).run Tryd.prog w = .ok (.int q 0) w)
    (t : Int) (hw : wfI t) : (Instr.lookup T (.map (some b)) (.int .i64 t) false).run Tryd.prog w = .ok (.int q (S t)) w := by
  obtain ⟨D, h1, h2, h3⟩ := h
  obtain ⟨c, hrun, hat, _⟩ := h1.lookup_int (Maps.int_keyed Tryd.underlying3) ht he hz (Maps.keyOf_int_mk Tryd.underlying3 hw)
  rw [h3 t hw] at hat
  injection hat with hat
  injection hat with _ hat
  rw [hrun, hat]
set_option maxRecDepth 100000 in
theorem MapIs.store (h : MapIs e q w b n S) {T : TypeId} (ht : Tryd.prog.underlying T = some (.map 3 e)) (he : Tryd.prog.underlying e = some (.int q)) (hn : n < maxLen)
    (t v : Int) (hw : wfI t) (hv : (Lit.int q v).wf = true) : ∃ w', (Instr.mapUpdate T (.map (some b)) (.int .i64 t) (.int q v)).run Tryd.prog w = .ok () w' ∧ MapIs e q w' b (n + 1) (fun x => if x = t then v else S x) ∧ w.grownBy w' (some b) := by
  obtain ⟨D, h1, h2, h3⟩ := h
  obtain ⟨w', hrun, hown, hg⟩ := h1.update (Maps.int_keyed Tryd.underlying3) ht hn (Maps.keyOf_int_mk Tryd.underlying3 hw) (plainElem_int he hv)
  refine ⟨w', hrun, ⟨_, hown, h2.put _ _, fun x hx => ?_⟩, hg⟩
  by_cases hxt : x = t
  · subst hxt
    rw [Maps.atKey_put_same h2 (by simp [WideAt.IsKeyLit])]; simp
  · rw [Maps.atKey_put_other (by intro h; injection h with _ h; exact hxt h), h3 x hx]; simp [hxt]
end
end Go.Proofs.YtepoahinnfjaiaaDoor
