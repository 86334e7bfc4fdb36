/-
  Arguments that are slices of ints are opened here. Conditions: each argument reads as data.
-/
import Derived.Test.YtepoahinnfjaiaaDoorFaiW
import Derived.Test.YtepoahinnfjaiaaDoorOpenS
namespace Go.Proofs.YtepoahinnfjaiaaDoor
open Go.ChangeShapes Go.WideShapes Go.ChangeAt Go.RowKit Go.Deep
section
variable {H : Type} {enc : TypeId × Value → H} {w : World} {base : Nat} {spare : Nat → Bool} {held : Bool}
theorem Tryd.cells3 : Tryd.prog.cellsOf 3 = 1 := by kernel_rfl
set_option maxRecDepth 100000 in
theorem open_intlist {r : Reach} {b0 : Nat} {v : Value} {d : DataW H} {p : List MemPlace} (hv : Value.okWide Tryd.prog w r b0 50 v) (h : DataW.Trod enc Tryd.prog w base spare held 50 v d p) :
    ∃ (A : Option Addr) (len cap : Nat) (l : List Int), v = .slice A len cap ∧ l.length = len ∧ Reads w w.heap.size 1 A len (ints l) ∧ len ≤ cap ∧ cap ≤ 9223372036854775807 ∧ ∀ t ∈ l, wfI t := by
  obtain ⟨a0, len, cap, rfl⟩ := okWide_slice Tryd.underlying50 hv
  obtain ⟨fuel, hf⟩ := h
  rcases open_ints Tryd.underlying50 Tryd.underlying3 Tryd.cells3 hf with ⟨hcs, _⟩ | ⟨a, len', cap', zs, hcs, _, hl, hm, hz, _, hc, hwf⟩
  · simp [Value.cells] at hcs
    obtain ⟨rfl, rfl, rfl⟩ := hcs
    exact ⟨none, 0, 0, [], rfl, rfl, Reads.none_, by omega, by omega, fun t ht => by simp at ht⟩
  · simp [Value.cells] at hcs
    obtain ⟨rfl, rfl, rfl⟩ := hcs
    have hml : len ≤ zs.length := by rw [hz]; split <;> omega
    refine ⟨some a, len, cap, zs.take len, rfl, by simp [hml], ⟨by simp [ints, hml], fun hn => ⟨a, rfl, ?_, fun j u hu => ?_⟩⟩, hl, by unfold maxLen at hm; omega, fun t ht => hwf t (List.mem_of_mem_take ht)⟩
    · have := World.block_lt_of_cell? w _ (hc 0 (by omega))
      rwa [block_of_add] at this
    · have hj : j < len := by have := (List.getElem?_eq_some_iff.1 hu).1; simp [ints, hml] at this; omega
      rw [hc j (by omega)]
      rw [← hu]
      simp [ints, hj, List.getD_eq_getElem?_getD, show j < zs.length by omega]
end
end Go.Proofs.YtepoahinnfjaiaaDoor
