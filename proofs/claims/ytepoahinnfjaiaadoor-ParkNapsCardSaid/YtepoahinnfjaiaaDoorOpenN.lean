/-
  Arguments that are slices of naps are opened here. Conditions: each argument reads as data.
-/
import Derived.Test.YtepoahinnfjaiaaDoorPnL
import Derived.Test.YtepoahinnfjaiaaDoorOpenS
namespace Go.Proofs.YtepoahinnfjaiaaDoor
open Go.ChangeShapes Go.WideShapes Go.ChangeAt Go.RowKit Go.Deep
section
variable {H : Type} {enc : TypeId × Value → H} {w : World} {base : Nat} {spare : Nat → Bool} {held : Bool}
theorem Tryd.cells101 : Tryd.prog.cellsOf 101 = 3 := by kernel_rfl
set_option maxRecDepth 100000 in
theorem open_naps {r : Reach} {b0 : Nat} {v : Value} {d : DataW H} {p : List MemPlace} (hv : Value.okWide Tryd.prog w r b0 94 v) (h : DataW.Trod enc Tryd.prog w base spare held 94 v d p) :
    ∃ (A : Option Addr) (len cap : Nat) (l : List Np), v = .slice A len cap ∧ l.length = len ∧ Reads w w.heap.size 3 A len (flatN l) ∧ ∀ t ∈ l, wfI t.a := by
  obtain ⟨a0, len, cap, rfl⟩ := okWide_slice Tryd.underlying94 hv
  obtain ⟨fuel, hf⟩ := h
  rcases open_slice_fields Tryd.underlying94 Tryd.underlying101 (by kernel_rfl) Tryd.cells101 hf with ⟨hcs, _⟩ | ⟨a, len', cap', m, D, Pl, hcs, _, hl, _, hmm, _, hi⟩
  · simp [Value.cells] at hcs
    obtain ⟨rfl, rfl, rfl⟩ := hcs
    exact ⟨none, 0, 0, [], rfl, rfl, Reads.none_, fun e he => by simp at he⟩
  · simp [Value.cells] at hcs
    obtain ⟨rfl, rfl, rfl⟩ := hcs
    have hml : len ≤ m := by rw [hmm]; split <;> omega
    obtain ⟨l, hl2, hp⟩ := list_of (fun i (e : Np) => (∀ j, j < 3 → w.cell? (a.add (i * 3 + j)) = (npc e)[j]?) ∧ wfI e.a) len (fun i hil => by
      obtain ⟨ys, n, _, _, _, hfj⟩ := hi i (by omega)
      obtain ⟨v0, y0, c0, _, t0⟩ := hfj 0 _ rfl
      obtain ⟨v1, y1, c1, _, t1⟩ := hfj 1 _ rfl
      obtain ⟨v2, y2, c2, _, t2⟩ := hfj 2 _ rfl
      obtain ⟨x0, e0, _, f0⟩ := DataW.trod_int Tryd.underlying3 t0
      obtain ⟨x1, e1, _, f1⟩ := DataW.trod_int Tryd.underlying3 t1
      obtain ⟨x2, e2, _, f2⟩ := DataW.trod_int Tryd.underlying3 t2
      simp at e0 e1 e2
      subst e0 e1 e2
      refine ⟨⟨x0, x1, x2⟩, fun j hj => ?_, f1⟩
      match j, hj with
      | 0, _ => exact c0
      | 1, _ => exact c1
      | 2, _ => exact c2)
    subst hl2
    refine ⟨some a, _, cap, l, rfl, rfl, reads_of npc_len (by omega) l a (fun i hi => (hp i hi).1), fun e he => ?_⟩
    obtain ⟨i, hi, rfl⟩ := List.getElem_of_mem he
    exact (hp i hi).2
end
end Go.Proofs.YtepoahinnfjaiaaDoor
