/-
  Small lemmas are proved here on what every later world keeps of an earlier one: the fact that a region which draws its order carries. Conditions: as each states.
-/
import Derived.Below
import Derived.OwnWalk
namespace Go.Proofs.YthnbbgmajdjgeaaDoor
open Go.RowKit
/-- What every world behind W keeps of it. -/
theorem ks_below {W w w' : World} (h : Below W.heap.size W w ∧ ∀ b o, b < W.heap.size → w.cell? ⟨b, o, none⟩ = W.cell? ⟨b, o, none⟩) (hb : Below w.heap.size w w') :
    Below W.heap.size W w' ∧ ∀ b o, b < W.heap.size → w'.cell? ⟨b, o, none⟩ = W.cell? ⟨b, o, none⟩ := by
  have h2 := h.1.trans (hb.mono h.1.size)
  exact ⟨h2, fun b o hl => h2.cell (p := ⟨b, o, none⟩) hl⟩
theorem ks_alloc {W w : World} (h : Below W.heap.size W w ∧ ∀ b o, b < W.heap.size → w.cell? ⟨b, o, none⟩ = W.cell? ⟨b, o, none⟩) (x : Obj) :
    Below W.heap.size W (w.alloc x) ∧ ∀ b o, b < W.heap.size → (w.alloc x).cell? ⟨b, o, none⟩ = W.cell? ⟨b, o, none⟩ :=
  ks_below h ((Below.refl _ _).alloc (Nat.le_refl _) _)
theorem ks_refl (W : World) : Below W.heap.size W W ∧ ∀ b o, b < W.heap.size → W.cell? ⟨b, o, none⟩ = W.cell? ⟨b, o, none⟩ := ⟨Below.refl _ _, fun _ _ _ => rfl⟩
theorem ks_end {W0 W w : World} (h : Below W0.heap.size W0 W) (k : Below W.heap.size W w ∧ ∀ b o, b < W.heap.size → w.cell? ⟨b, o, none⟩ = W.cell? ⟨b, o, none⟩) : Below W0.heap.size W0 w :=
  h.trans (k.1.mono h.size)
end Go.Proofs.YthnbbgmajdjgeaaDoor
