/-
  Arguments that are structs of this program are opened here: a phase, a call. Conditions: each argument reads as data.
-/
import Derived.Test.YtepoahinnfjaiaaDoorPackW
import Derived.ProofKit
import Derived.OpenShut
import Derived.Lib.SmallJoins
namespace Go.Proofs.YtepoahinnfjaiaaDoor
open Go.ChangeShapes Go.WideShapes Go.ChangeAt Go.RowKit
section
variable {H : Type} {enc : TypeId × Value → H} {w : World} {base : Nat} {spare : Nat → Bool} {held : Bool}
theorem Tryd.cells39 : Tryd.prog.cellsOf 39 = 4 := by kernel_rfl
theorem Tryd.cells79 : Tryd.prog.cellsOf 79 = 2 := by kernel_rfl
set_option maxRecDepth 100000 in
theorem open_phase {r : Reach} {b0 : Nat} {v : Value} {d : DataW H} {p : List MemPlace} (hv : Value.okWide Tryd.prog w r b0 39 v) (h : DataW.Trod enc Tryd.prog w base spare held 39 v d p) :
    ∃ (o : Bool) (ph pa wa : Int), v = phv o ph pa wa ∧ (Lit.int .i64 ph).wf = true ∧ (Lit.int .i64 pa).wf = true ∧ (Lit.int .i64 wa).wf = true := by
  obtain ⟨c0, c1, c2, c3, y0, y1, y2, y3, m, rfl, rfl, rfl, hy0, hy1, hy2, hy3⟩ := Joins.open_agg4 Tryd.underlying39 (by kernel_rfl) Tryd.cells39 hv h
  obtain ⟨o, e0, rfl⟩ := DataW.trod_bool Tryd.underlying4 hy0
  obtain ⟨ph, e1, rfl, w1⟩ := DataW.trod_int Tryd.underlying3 hy1
  obtain ⟨pa, e2, rfl, w2⟩ := DataW.trod_int Tryd.underlying3 hy2
  obtain ⟨wa, e3, rfl, w3⟩ := DataW.trod_int Tryd.underlying3 hy3
  simp at e0 e1 e2 e3
  subst e0 e1 e2 e3
  exact ⟨o, ph, pa, wa, rfl, w1, w2, w3⟩
set_option maxRecDepth 100000 in
theorem open_call {r : Reach} {b0 : Nat} {v : Value} {d : DataW H} {p : List MemPlace} (hv : Value.okWide Tryd.prog w r b0 79 v) (h : DataW.Trod enc Tryd.prog w base spare held 79 v d p) :
    ∃ (a n : Int), v = .agg #[.int .i64 a, .int .i64 n] ∧ (Lit.int .i64 a).wf = true ∧ (Lit.int .i64 n).wf = true := by
  obtain ⟨c0, c1, y0, y1, m, rfl, rfl, rfl, hy0, hy1⟩ := Joins.open_agg2 Tryd.underlying79 (by kernel_rfl) Tryd.cells79 hv h
  obtain ⟨a, e0, rfl, w0⟩ := DataW.trod_int Tryd.underlying3 hy0
  obtain ⟨n, e1, rfl, w1⟩ := DataW.trod_int Tryd.underlying3 hy1
  simp at e0 e1
  subst e0 e1
  exact ⟨a, n, rfl, w0, w1⟩
end
end Go.Proofs.YtepoahinnfjaiaaDoor
