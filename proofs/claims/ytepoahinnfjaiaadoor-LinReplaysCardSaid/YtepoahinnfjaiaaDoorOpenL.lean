/-
  Arguments that are lists of calls, and points, are opened here. Conditions: each argument reads as data.
-/
import Derived.Test.YtepoahinnfjaiaaDoorLinM
import Derived.Test.YtepoahinnfjaiaaDoorOpenM
import Derived.Test.YtepoahinnfjaiaaDoorMapI
import Derived.Test.YtepoahinnfjaiaaDoorOpen
namespace Go.Proofs.YtepoahinnfjaiaaDoor
open Go.ChangeShapes Go.WideShapes Go.ChangeAt Go.RowKit Go.Deep
section
variable {H : Type} {enc : TypeId × Value → H} {w : World} {base : Nat} {spare : Nat → Bool} {held : Bool}
theorem Tryd.cells151 : Tryd.prog.cellsOf 151 = 4 := by kernel_rfl
theorem Tryd.cells152 : Tryd.prog.cellsOf 152 = 1 := by kernel_rfl
theorem Tryd.bytes79 : Tryd.prog.bytesOf 79 = 16 := by kernel_rfl
theorem weightsAll_mem {P : Program} {e : TypeId} : ∀ {l : List (DataW H)} {d : DataW H}, d ∈ l → ∀ n ∈ d.weights P e, n ∈ DataW.weightsAll P e l
  | x :: l, d, hd, n, hn => by
    unfold DataW.weightsAll
    rcases List.mem_cons.1 hd with rfl | hd
    · exact List.mem_append_left _ hn
    · exact List.mem_append_right _ (weightsAll_mem hd n hn)
set_option maxRecDepth 100000 in
theorem open_points {r : Reach} {b0 : Nat} {v : Value} {d : DataW H} {p : List MemPlace} (hv : Value.okWide Tryd.prog w r b0 87 v) (h : DataW.Trod enc Tryd.prog w base spare held 87 v d p) :
    ∃ (A : Option Addr) (len cap : Nat) (l : List Pt), v = .slice A len cap ∧ l.length = len ∧ Reads w w.heap.size 4 A len (flatP l) ∧ ∀ x ∈ l, wfI x.th ∧ wfI x.ca := by
  obtain ⟨a0, len, cap, rfl⟩ := okWide_slice Tryd.underlying87 hv
  obtain ⟨fuel, hf⟩ := h
  rcases open_slice_fields Tryd.underlying87 Tryd.underlying151 (by kernel_rfl) Tryd.cells151 hf with ⟨hcs, _⟩ | ⟨a, len', cap', m, D, Pl, hcs, _, hl, _, hmm, _, hi⟩
  · simp [Value.cells] at hcs
    obtain ⟨rfl, rfl, rfl⟩ := hcs
    exact ⟨none, 0, 0, [], rfl, rfl, Reads.none_, by simp⟩
  · simp [Value.cells] at hcs
    obtain ⟨rfl, rfl, rfl⟩ := hcs
    have hml : len ≤ m := by rw [hmm]; split <;> omega
    obtain ⟨l, hl2, hp⟩ := list_of (fun i (e : Pt) => (∀ j, j < 4 → w.cell? (a.add (i * 4 + j)) = (ptc e)[j]?) ∧ wfI e.th ∧ wfI e.ca) len (fun i hil => by
      obtain ⟨ys, n, _, _, _, hfj⟩ := hi i (by omega)
      obtain ⟨v0, y0, c0, _, t0⟩ := hfj 0 _ rfl
      obtain ⟨v1, y1, c1, _, t1⟩ := hfj 1 _ rfl
      obtain ⟨v2, y2, c2, _, t2⟩ := hfj 2 _ rfl
      obtain ⟨v3, y3, c3, _, t3⟩ := hfj 3 _ rfl
      obtain ⟨x0, e0, _, _⟩ := DataW.trod_int Tryd.underlying3 t0
      obtain ⟨x1, e1, _, f1⟩ := DataW.trod_int Tryd.underlying3 t1
      obtain ⟨x2, e2, _, f2⟩ := DataW.trod_int Tryd.underlying3 t2
      obtain ⟨x3, e3, _⟩ := DataW.trod_bool Tryd.underlying4 t3
      simp at e0 e1 e2 e3
      subst e0 e1 e2 e3
      refine ⟨⟨x0, x1, x2, x3⟩, fun j hj => ?_, f1, f2⟩
      match j, hj with
      | 0, _ => exact c0
      | 1, _ => exact c1
      | 2, _ => exact c2
      | 3, _ => exact c3)
    subst hl2
    refine ⟨some a, _, cap, l, rfl, rfl, reads_of ptc_len (by omega) l a (fun i hi => (hp i hi).1), fun x hx => ?_⟩
    obtain ⟨i, hi, rfl⟩ := List.getElem_of_mem hx
    exact (hp i hi).2
/-- One row of calls. -/
theorem open_row {fuel : Nat} {v : Value} {x : DataW H × List MemPlace} (hf : DataW.trod enc Tryd.prog w base spare held fuel 152 [v] = some x) (hw : ∀ n ∈ x.1.weights Tryd.prog 152, n ≤ reachBytes) :
    ∃ (A : Option Addr) (c : Nat) (l : List Cl), v = .slice A l.length c ∧ Reads w w.heap.size 2 A l.length (flatC l) ∧ l.length ≤ 140737488355328 := by
  rcases open_slice_fields Tryd.underlying152 Tryd.underlying79 (by kernel_rfl) Tryd.cells79 hf with ⟨hcs, _⟩ | ⟨a, len, cap, m, D, Pl, hcs, _, hl, _, hmm, rfl, hi⟩
  · simp at hcs
    subst hcs
    exact ⟨none, 0, [], rfl, Reads.none_, by simp⟩
  · simp at hcs
    subst hcs
    have hml : len ≤ m := by rw [hmm]; split <;> omega
    have h47 : len ≤ 140737488355328 := by
      have h := hw ((len + (m - len)) * 16) (by
        simp [DataW.weights, Tryd.underlying152, Tryd.bytes79])
      have := reach47
      omega
    obtain ⟨l, hl2, hp⟩ := list_of (fun i (e : Cl) => ∀ j, j < 2 → w.cell? (a.add (i * 2 + j)) = (clc e)[j]?) len (fun i hil => by
      obtain ⟨ys, n, _, _, _, hfj⟩ := hi i (by omega)
      obtain ⟨v0, y0, c0, _, t0⟩ := hfj 0 _ rfl
      obtain ⟨v1, y1, c1, _, t1⟩ := hfj 1 _ rfl
      obtain ⟨x0, e0, _, _⟩ := DataW.trod_int Tryd.underlying3 t0
      obtain ⟨x1, e1, _, _⟩ := DataW.trod_int Tryd.underlying3 t1
      simp at e0 e1
      subst e0 e1
      refine ⟨⟨x0, x1⟩, fun j hj => ?_⟩
      match j, hj with
      | 0, _ => exact c0
      | 1, _ => exact c1)
    subst hl2
    exact ⟨some a, cap, l, rfl, reads_of clc_len (by omega) l a hp, h47⟩
set_option maxRecDepth 100000 in
theorem open_calls {r : Reach} {b0 : Nat} {v : Value} {d : DataW H} {p : List MemPlace} (hv : Value.okWide Tryd.prog w r b0 86 v) (h : DataW.Trod enc Tryd.prog w base spare held 86 v d p) (hw : ∀ x ∈ d.weights Tryd.prog 86, x ≤ reachBytes) :
    ∃ (A : Option Addr) (len cap : Nat) (cs : List (List Cl)), v = .slice A len cap ∧ CallsIn w w.heap.size A len cs ∧ ∀ c ∈ cs, c.length ≤ 140737488355328 := by
  obtain ⟨a0, len, cap, rfl⟩ := okWide_slice Tryd.underlying86 hv
  obtain ⟨fuel, hf⟩ := h
  rcases open_slice1 Tryd.underlying86 Tryd.cells152 hf with ⟨hcs, _⟩ | ⟨a, len', cap', m, n, V, D, Pl, hcs, _, hl, _, hmm, hx, hi⟩
  · simp [Value.cells] at hcs
    obtain ⟨rfl, rfl, rfl⟩ := hcs
    exact ⟨none, 0, 0, [], rfl, ⟨rfl, fun i hi => by simp at hi⟩, by simp⟩
  · simp [Value.cells] at hcs
    obtain ⟨rfl, rfl, rfl⟩ := hcs
    have hml : len ≤ m := by rw [hmm]; split <;> omega
    have hd : d = .slice ((List.range len).map D) ((List.range (m - len)).map fun j => D (len + j)) := (Prod.mk.inj hx).1
    subst hd
    obtain ⟨cs, hl2, hp⟩ := list_of (fun i (c : List Cl) => (∃ Ai ci, w.cell? (a.add i) = some (.slice Ai c.length ci) ∧ Reads w w.heap.size 2 Ai c.length (flatC c)) ∧ c.length ≤ 140737488355328) len (fun i hil => by
      obtain ⟨hc, ht⟩ := hi i (by omega)
      obtain ⟨A, c, l, hV, hR, h47⟩ := open_row ht (fun n hn => hw n (by
        unfold DataW.weights
        rw [Tryd.underlying86]
        refine List.mem_cons_of_mem _ (List.mem_append_left _ (weightsAll_mem ?_ n hn))
        exact List.mem_map.2 ⟨i, List.mem_range.2 hil, rfl⟩))
      rw [hV] at hc
      exact ⟨l, ⟨A, c, hc, hR⟩, h47⟩)
    subst hl2
    refine ⟨some a, _, cap, cs, rfl, ⟨rfl, fun i hi' => ?_⟩, fun c hc => ?_⟩
    · obtain ⟨⟨Ai, ci, hc, hR⟩, _⟩ := hp i hi'
      have hb := World.block_lt_of_cell? w _ hc
      rw [block_of_add] at hb
      exact ⟨a, Ai, ci, rfl, hb, hc, hR⟩
    · obtain ⟨i, hi', rfl⟩ := List.getElem_of_mem hc
      exact (hp i hi').2
end
end Go.Proofs.YtepoahinnfjaiaaDoor
