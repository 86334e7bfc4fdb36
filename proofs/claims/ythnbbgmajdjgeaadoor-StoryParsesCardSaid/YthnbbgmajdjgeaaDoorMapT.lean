/-
  The literal map of names to numbers, as StoryParse of the reference makes it. Conditions: as each states.
-/
import Derived.Test.YthnbbgmajdjgeaaDoorStP
import Derived.WalkKit
import Derived.Maps.OwnOps
import Derived.Maps.OwnSet
import Derived.Maps.Views
namespace Go.Proofs.YthnbbgmajdjgeaaDoor
open Go.RowKit
def MapT (w : World) (b n : Nat) (S : List UInt8 → Int) : Prop :=
  ∃ D : DataW Unit, w.ownsMap Tryd.prog 9 (plainElem Tryd.prog 3) b n D ∧ Maps.IsMap D ∧ ∀ t, D.atKey (.string t) (.lit (.int .i64 0)) = .lit (.int .i64 (S t))
section
variable {w : World} {b n : Nat} {S : List UInt8 → Int}
theorem MapT.made (w : World) : MapT (w.alloc (.map #[] 0)) w.heap.size 0 (fun _ => 0) :=
  ⟨.map [], World.ownsMap_made _ _ _ _, Maps.isMap_empty, fun _ => rfl⟩
set_option maxRecDepth 100000 in
theorem zero3T (w : World) : (zeroValue 3).run Tryd.prog w = .ok (.int .i64 0) w := by kernel_rfl
set_option maxRecDepth 100000 in
theorem MapT.look (h : MapT w b n S) (B : ByteArray) (hB : B.size ≤ maxLen) : (Instr.lookup 79 (.map (some b)) (.string B) false).run Tryd.prog w = .ok (.int .i64 (S B.data.toList)) w := by
  obtain ⟨D, h1, h2, h3⟩ := h
  obtain ⟨c, hrun, hat, _⟩ := h1.lookup_int (Maps.string_keyed Tryd.underlying9) Tryd.underlying79 Tryd.underlying3 (zero3T w) (WideMaps.keyOf_string_mk Tryd.underlying9 hB)
  rw [h3] at hat
  injection hat with hat
  injection hat with _ hat
  rw [hrun, hat]
set_option maxRecDepth 100000 in
theorem MapT.store (h : MapT w b n S) (hn : n < maxLen) (B : ByteArray) (v : Int) (hB : B.size ≤ maxLen) (hv : (Lit.int .i64 v).wf = true) :
    ∃ w', (Instr.mapUpdate 79 (.map (some b)) (.string B) (.int .i64 v)).run Tryd.prog w = .ok () w' ∧ MapT w' b (n + 1) (fun x => if x = B.data.toList then v else S x) ∧ w.grownBy w' (some b) := by
  obtain ⟨D, h1, h2, h3⟩ := h
  obtain ⟨w', hrun, hown, hg⟩ := h1.update (Maps.string_keyed Tryd.underlying9) Tryd.underlying79 hn (WideMaps.keyOf_string_mk Tryd.underlying9 hB) (plainElem_int Tryd.underlying3 hv)
  refine ⟨w', hrun, ⟨_, hown, h2.put _ _, fun x => ?_⟩, hg⟩
  by_cases hxt : x = B.data.toList
  · subst hxt
    rw [Maps.atKey_put_same h2 (by simp [WideAt.IsKeyLit])]; simp
  · rw [Maps.atKey_put_other (by intro h; injection h with h; exact hxt h), h3 x]; simp [hxt]
end
set_option maxRecDepth 100000 in
/-- The literal: three stores into a new map, and what it holds. -/
theorem lit3 (w : World) : ∃ w1 w2 w3,
    (Instr.mapUpdate 79 (.map (some w.heap.size)) (.string ⟨#[99, 97, 109, 101]⟩) (.int .i64 1)).run Tryd.prog (w.alloc (.map #[] 0)) = .ok () w1 ∧
    (Instr.mapUpdate 79 (.map (some w.heap.size)) (.string ⟨#[103, 111, 110, 101]⟩) (.int .i64 2)).run Tryd.prog w1 = .ok () w2 ∧
    (Instr.mapUpdate 79 (.map (some w.heap.size)) (.string ⟨#[116, 111, 108, 100]⟩) (.int .i64 3)).run Tryd.prog w2 = .ok () w3 ∧
    (∀ B : ByteArray, B.size ≤ maxLen → (Instr.lookup 79 (.map (some w.heap.size)) (.string B) false).run Tryd.prog w3 = .ok (.int .i64 (wtN B.data.toList : Nat)) w3) ∧ Below w.heap.size w w3 := by
  obtain ⟨w1, r1, m1, g1⟩ := (MapT.made w).store (by decide) ⟨#[99, 97, 109, 101]⟩ 1 (by decide) (by decide)
  obtain ⟨w2, r2, m2, g2⟩ := m1.store (by decide) ⟨#[103, 111, 110, 101]⟩ 2 (by decide) (by decide)
  obtain ⟨w3, r3, m3, g3⟩ := m2.store (by decide) ⟨#[116, 111, 108, 100]⟩ 3 (by decide) (by decide)
  have b0 := (Below.refl w.heap.size w).alloc (Nat.le_refl _) (.map #[] 0)
  have b1 := b0.grown g1 b0.size (fun g hg => by injection hg with hg; omega)
  have b2 := b1.grown g2 b1.size (fun g hg => by injection hg with hg; omega)
  have b3 := b2.grown g3 b2.size (fun g hg => by injection hg with hg; omega)
  refine ⟨w1, w2, w3, r1, r2, r3, fun B hB => ?_, b3⟩
  rw [m3.look B hB]
  congr 2
  show (if B.data.toList = nameL 3 then (3 : Int) else if B.data.toList = nameL 2 then 2 else if B.data.toList = nameL 1 then 1 else 0) = (wtN B.data.toList : Nat)
  unfold wtN
  by_cases h1 : B.data.toList = nameL 1
  · rw [h1]; decide
  · by_cases h2 : B.data.toList = nameL 2
    · rw [h2]; decide
    · by_cases h3 : B.data.toList = nameL 3
      · rw [h3]; decide
      · simp [h1, h2, h3]
end Go.Proofs.YthnbbgmajdjgeaaDoor
