/-
  Arguments that are scripts, and slices of ints, are opened here. Conditions: each argument reads as data.
-/
import Derived.Test.YtepoahinnfjaiaaDoorScrA
import Derived.Test.YtepoahinnfjaiaaDoorOpenS
import Derived.SizedLaws
import Derived.Lib.SmallJoins
namespace Go.Proofs.YtepoahinnfjaiaaDoor
open Go.ChangeShapes Go.WideShapes Go.ChangeAt Go.RowKit Go.Deep
section
variable {H : Type} {enc : TypeId × Value → H} {w : World} {base : Nat} {spare : Nat → Bool} {held : Bool}
theorem Tryd.cells57 : Tryd.prog.cellsOf 57 = 4 := by kernel_rfl
theorem Tryd.cells136 : Tryd.prog.cellsOf 136 = 2 := by kernel_rfl
theorem Tryd.bytes136 : Tryd.prog.bytesOf 136 = 16 := by kernel_rfl
theorem reach47 : reachBytes ≤ 140737488355328 := by decide
set_option maxRecDepth 100000 in
theorem open_script {r : Reach} {b0 : Nat} {v : Value} {d : DataW H} {p : List MemPlace} (hv : Value.okWide Tryd.prog w r b0 57 v) (h : DataW.Trod enc Tryd.prog w base spare held 57 v d p) (hw : ∀ x ∈ d.weights Tryd.prog 57, x ≤ reachBytes) :
    ∃ (k n q : Int) (A : Option Addr) (len cap : Nat) (l : List Mv), v = scv k n q A len cap ∧ l.length = len ∧ Reads w w.heap.size 2 A len (flatM l) ∧ len ≤ 140737488355328 := by
  obtain ⟨c0, c1, c2, c3, y0, y1, y2, y3, m, rfl, rfl, rfl, hy0, hy1, hy2, hy3⟩ := Joins.open_agg4 Tryd.underlying57 (by kernel_rfl) Tryd.cells57 hv h
  obtain ⟨k, e0, rfl, w0⟩ := DataW.trod_int Tryd.underlying3 hy0
  obtain ⟨n, e1, rfl, w1⟩ := DataW.trod_int Tryd.underlying3 hy1
  obtain ⟨q, e2, rfl, w2⟩ := DataW.trod_int Tryd.underlying3 hy2
  simp at e0 e1 e2
  subst e0 e1 e2
  rcases open_slice_fields Tryd.underlying55 Tryd.underlying136 (by kernel_rfl) Tryd.cells136 hy3 with ⟨hcs, _⟩ | ⟨a, len, cap, m', D, Pl, hcs, _, hl, _, hmm, rfl, hi⟩
  · simp at hcs
    subst hcs
    exact ⟨k, n, q, none, 0, 0, [], rfl, rfl, Reads.none_, by omega⟩
  · simp at hcs
    subst hcs
    have hml : len ≤ m' := by rw [hmm]; split <;> omega
    have h47 : len ≤ 140737488355328 := by
      have h := hw ((len + (m' - len)) * 16) (by
        simp [DataW.weights, DataW.weightsEach, Tryd.underlying57, Tryd.underlying55, Tryd.bytes136])
      have := reach47
      omega
    obtain ⟨l, hl2, hp⟩ := list_of (fun i (e : Mv) => ∀ j, j < 2 → w.cell? (a.add (i * 2 + j)) = (mvc e)[j]?) len (fun i hil => by
      obtain ⟨ys, n, _, _, _, hfj⟩ := hi i (by omega)
      obtain ⟨v0, y0, c0, _, t0⟩ := hfj 0 _ rfl
      obtain ⟨v1, y1, c1, _, t1⟩ := hfj 1 _ rfl
      obtain ⟨x0, e0, _, _⟩ := DataW.trod_int Tryd.underlying3 t0
      obtain ⟨x1, e1, _⟩ := DataW.trod_bool Tryd.underlying4 t1
      simp at e0 e1
      subst e0 e1
      refine ⟨⟨x0, x1⟩, fun j hj => ?_⟩
      match j, hj with
      | 0, _ => exact c0
      | 1, _ => exact c1)
    subst hl2
    exact ⟨k, n, q, some a, _, cap, l, rfl, rfl, reads_of mvc_len (by omega) l a hp, h47⟩
set_option maxRecDepth 100000 in
theorem open_text {t : TypeId} {r : Reach} {b0 : Nat} {v : Value} {d : DataW H} {p : List MemPlace} (ht : Tryd.prog.underlying t = some .string) (hv : Value.okWide Tryd.prog w r b0 t v) (h : DataW.Trod enc Tryd.prog w base spare held t v d p) (hw : ∀ x ∈ d.weights Tryd.prog t, x ≤ reachBytes) :
    ∃ s : ByteArray, v = .string s ∧ s.size ≤ 140737488355328 := by
  obtain ⟨s, rfl, rfl, rfl, ws⟩ := Go.ChangeMaps.open_string ht hv h
  refine ⟨s, rfl, ?_⟩
  have h := hw s.data.toList.length (by rw [DataW.weights]; exact List.mem_singleton.2 rfl)
  have h2 := reach47
  have e : s.data.toList.length = s.size := Array.length_toList
  rw [e] at h
  exact Nat.le_trans h h2
end
end Go.Proofs.YtepoahinnfjaiaaDoor
