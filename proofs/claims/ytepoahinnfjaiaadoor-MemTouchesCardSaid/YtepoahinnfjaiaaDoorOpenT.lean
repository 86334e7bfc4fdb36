/-
  Arguments that are slices of words, and slices of touches, are opened here; and what the row of MemTouches lists. Conditions: each argument reads as data.
-/
import Derived.Test.YtepoahinnfjaiaaDoorMtM
import Derived.Test.YtepoahinnfjaiaaDoorStoO
namespace Go.Proofs.YtepoahinnfjaiaaDoor
open Go.ChangeShapes Go.WideShapes Go.ChangeAt Go.RowKit Go.Deep
section
variable {H : Type} {enc : TypeId × Value → H} {w : World} {base : Nat} {spare : Nat → Bool} {held : Bool}
theorem Tryd.cells35 : Tryd.prog.cellsOf 35 = 1 := by kernel_rfl
theorem Tryd.cells118 : Tryd.prog.cellsOf 118 = 4 := by kernel_rfl
theorem U64_of_wf {x : Int} (h : (Lit.int .u64 x).wf = true) : U64 x := by
  have := bounds_u64 h
  exact ⟨by omega, by omega⟩
set_option maxRecDepth 100000 in
theorem open_words {r : Reach} {b0 : Nat} {v : Value} {d : DataW H} {p : List MemPlace} (hv : Value.okWide Tryd.prog w r b0 34 v) (h : DataW.Trod enc Tryd.prog w base spare held 34 v d p) :
    ∃ (A : Option Addr) (len cap : Nat) (l : List Int), v = .slice A len cap ∧ l.length = len ∧ Reads w w.heap.size 1 A len (u64s l) ∧ U64s l := by
  obtain ⟨a0, len, cap, rfl⟩ := okWide_slice Tryd.underlying34 hv
  obtain ⟨fuel, hf⟩ := h
  rcases open_ints Tryd.underlying34 Tryd.underlying35 Tryd.cells35 hf with ⟨hcs, _⟩ | ⟨a, len', cap', zs, hcs, _, hl, hm, hz, _, hc, hwf⟩
  · simp [Value.cells] at hcs
    obtain ⟨rfl, rfl, rfl⟩ := hcs
    exact ⟨none, 0, 0, [], rfl, rfl, Reads.none_, fun t ht => by simp at ht⟩
  · simp [Value.cells] at hcs
    obtain ⟨rfl, rfl, rfl⟩ := hcs
    have hml : len ≤ zs.length := by rw [hz]; split <;> omega
    refine ⟨some a, len, cap, zs.take len, rfl, by simp [hml], ⟨by simp [u64s, hml], fun hn => ⟨a, rfl, ?_, fun j u hu => ?_⟩⟩, fun t ht => U64_of_wf (hwf t (List.mem_of_mem_take ht))⟩
    · have := World.block_lt_of_cell? w _ (hc 0 (by omega))
      rwa [block_of_add] at this
    · have hj : j < len := by have := (List.getElem?_eq_some_iff.1 hu).1; simp [u64s, hml] at this; omega
      rw [hc j (by omega)]
      rw [← hu]
      simp [u64s, hj, List.getD_eq_getElem?_getD, show j < zs.length by omega]
set_option maxRecDepth 100000 in
theorem open_touches {r : Reach} {b0 : Nat} {v : Value} {d : DataW H} {p : List MemPlace} (hv : Value.okWide Tryd.prog w r b0 112 v) (h : DataW.Trod enc Tryd.prog w base spare held 112 v d p) :
    ∃ (A : Option Addr) (len cap : Nat) (l : List Tc), v = .slice A len cap ∧ l.length = len ∧ Reads w w.heap.size 4 A len (flatT l) ∧ TcWf l := by
  obtain ⟨a0, len, cap, rfl⟩ := okWide_slice Tryd.underlying112 hv
  obtain ⟨fuel, hf⟩ := h
  rcases open_slice_fields Tryd.underlying112 Tryd.underlying118 (by kernel_rfl) Tryd.cells118 hf with ⟨hcs, _⟩ | ⟨a, len', cap', m, D, Pl, hcs, _, hl, _, hmm, _, hi⟩
  · simp [Value.cells] at hcs
    obtain ⟨rfl, rfl, rfl⟩ := hcs
    exact ⟨none, 0, 0, [], rfl, rfl, Reads.none_, fun e he => by simp at he⟩
  · simp [Value.cells] at hcs
    obtain ⟨rfl, rfl, rfl⟩ := hcs
    have hml : len ≤ m := by rw [hmm]; split <;> omega
    obtain ⟨l, hl2, hp⟩ := list_of (fun i (e : Tc) => (∀ j, j < 4 → w.cell? (a.add (i * 4 + j)) = (tcc e)[j]?) ∧ wfI e.ix ∧ U64 e.x ∧ U64 e.y) len (fun i hil => by
      obtain ⟨ys, n, _, _, _, hfj⟩ := hi i (by omega)
      obtain ⟨v0, y0, c0, _, t0⟩ := hfj 0 _ rfl
      obtain ⟨v1, y1, c1, _, t1⟩ := hfj 1 _ rfl
      obtain ⟨v2, y2, c2, _, t2⟩ := hfj 2 _ rfl
      obtain ⟨v3, y3, c3, _, t3⟩ := hfj 3 _ rfl
      obtain ⟨x0, e0, _, f0⟩ := DataW.trod_int Tryd.underlying3 t0
      obtain ⟨x1, e1, _, f1⟩ := DataW.trod_int Tryd.underlying3 t1
      obtain ⟨x2, e2, _, f2⟩ := DataW.trod_int Tryd.underlying35 t2
      obtain ⟨x3, e3, _, f3⟩ := DataW.trod_int Tryd.underlying35 t3
      simp at e0 e1 e2 e3
      subst e0 e1 e2 e3
      refine ⟨⟨x0, x1, x2, x3⟩, fun j hj => ?_, f1, U64_of_wf f2, U64_of_wf f3⟩
      match j, hj with
      | 0, _ => exact c0
      | 1, _ => exact c1
      | 2, _ => exact c2
      | 3, _ => exact c3)
    subst hl2
    refine ⟨some a, _, cap, l, rfl, rfl, reads_of tcc_len (by omega) l a (fun i hi => (hp i hi).1), fun e he => ?_⟩
    obtain ⟨i, hi, rfl⟩ := List.getElem_of_mem he
    exact (hp i hi).2
end
set_option maxRecDepth 100000 in
theorem laid_touches {W : World} (h : laidMetH Tryd.prog Rows.memTouchesRow.laid W) : HasErr W ∧ HasTab W := by
  have h' : laidMet Tryd.prog [("math/bits.deBruijn32tab", Rows.laid_math_bits_deBruijn32tab), ("math/bits.deBruijn64tab", Rows.laid_math_bits_deBruijn64tab), ("internal/strconv.uint64pow10", Rows.laid_internal_strconv_uint64pow10)] W ∧ handlesMet Tryd.prog [("errors.errorType", Rows.laid_errors_errorType)] W := h
  exact ⟨hasErr_of_handles h'.2 (List.mem_singleton.2 rfl), tab_of_reads (Lib.laidMet.reads h'.1 (.tail _ (.tail _ (.head _))))⟩
end Go.Proofs.YtepoahinnfjaiaaDoor
