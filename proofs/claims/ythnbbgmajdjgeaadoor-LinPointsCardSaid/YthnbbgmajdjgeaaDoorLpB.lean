/- LinPoints: slices of one and of two points, of one act, built in place: the operation's laws. Conditions: none. -/
import Derived.Test.YthnbbgmajdjgeaaDoorLpS
import Derived.Great.BuildSlice
namespace Go.Proofs.YthnbbgmajdjgeaaDoor
open Go.RowKit
theorem Tryd.ptS : Tryd.ptE.size = 4 := by kernel_rfl
abbrev zPt : Value := .agg #[.int .i64 0, .int .i64 0, .int .i64 0, .bool false]
theorem fill4 (c0 c1 c2 c3 : Value) : Instr.fill (fun i => some (i * 4, 4)) ((Array.range (1 * 4)).map (zPt.cells[· % zPt.cells.size]!)) [(0, .agg #[c0, c1, c2, c3])] = some #[c0, c1, c2, c3] := by kernel_rfl
theorem fill8 (c0 c1 c2 c3 d0 d1 d2 d3 : Value) : Instr.fill (fun i => some (i * 4, 4)) ((Array.range (2 * 4)).map (zPt.cells[· % zPt.cells.size]!)) [(0, .agg #[c0, c1, c2, c3]), (1, .agg #[d0, d1, d2, d3])] = some #[c0, c1, c2, c3, d0, d1, d2, d3] := by kernel_rfl
theorem wpList_build39 {ops : Array Oper} {rest : List Oper} {o : Oper} {a : Act} {w : World} {Q : Exit → Act → World → Prop} (hg : o.guard = none) (x : Operand) (ho : o.op = .buildSlice 26 1 #[(0, x)])
    (c0 c1 c2 c3 : Value) (hx : a.eval x = .agg #[c0, c1, c2, c3])
    (h : wpList Tryd.prog ops Q rest (a.put o.dst (.slice (some ⟨w.heap.size, 0, none⟩) 1 1)) (w.alloc (.cells #[c0, c1, c2, c3] 39))) : wpList Tryd.prog ops Q (o :: rest) a w :=
  wpList_buildSlice hg 26 39 1 _ ho #[c0, c1, c2, c3] Tryd.ptE zPt Tryd.underlying26 (by kernel_rfl) (by kernel_rfl) (by rw [Tryd.ptS]; omega) (by rw [Tryd.ptS]; omega) (by
    rw [Tryd.ptS]
    simp only [List.map_toArray, List.map_cons, List.map_nil, hx]
    exact fill4 c0 c1 c2 c3) h
theorem wpList_build39b {ops : Array Oper} {rest : List Oper} {o : Oper} {a : Act} {w : World} {Q : Exit → Act → World → Prop} (hg : o.guard = none) (x y : Operand) (ho : o.op = .buildSlice 26 2 #[(0, x), (1, y)])
    (c0 c1 c2 c3 d0 d1 d2 d3 : Value) (hx : a.eval x = .agg #[c0, c1, c2, c3]) (hy : a.eval y = .agg #[d0, d1, d2, d3])
    (h : wpList Tryd.prog ops Q rest (a.put o.dst (.slice (some ⟨w.heap.size, 0, none⟩) 2 2)) (w.alloc (.cells #[c0, c1, c2, c3, d0, d1, d2, d3] 39))) : wpList Tryd.prog ops Q (o :: rest) a w :=
  wpList_buildSlice hg 26 39 2 _ ho #[c0, c1, c2, c3, d0, d1, d2, d3] Tryd.ptE zPt Tryd.underlying26 (by kernel_rfl) (by kernel_rfl) (by rw [Tryd.ptS]; omega) (by rw [Tryd.ptS]; omega) (by
    rw [Tryd.ptS]
    simp only [List.map_toArray, List.map_cons, List.map_nil, hx, hy]
    exact fill8 c0 c1 c2 c3 d0 d1 d2 d3) h
noncomputable def Tryd.acE : TypeInfo := (Tryd.prog.info? 57).get (by kernel_rfl)
theorem Tryd.acS : Tryd.acE.size = 6 := by kernel_rfl
abbrev zAc : Value := .agg #[.int .i64 0, .int .i64 0, .int .i64 0, .int .i64 0, .int .u64 0, .int .u64 0]
theorem fill6 (c0 c1 c2 c3 c4 c5 : Value) : Instr.fill (fun i => some (i * 6, 6)) ((Array.range (1 * 6)).map (zAc.cells[· % zAc.cells.size]!)) [(0, .agg #[c0, c1, c2, c3, c4, c5])] = some #[c0, c1, c2, c3, c4, c5] := by kernel_rfl
theorem wpList_build57 {ops : Array Oper} {rest : List Oper} {o : Oper} {a : Act} {w : World} {Q : Exit → Act → World → Prop} (hg : o.guard = none) (x : Operand) (ho : o.op = .buildSlice 23 1 #[(0, x)])
    (c0 c1 c2 c3 c4 c5 : Value) (hx : a.eval x = .agg #[c0, c1, c2, c3, c4, c5])
    (h : wpList Tryd.prog ops Q rest (a.put o.dst (.slice (some ⟨w.heap.size, 0, none⟩) 1 1)) (w.alloc (.cells #[c0, c1, c2, c3, c4, c5] 57))) : wpList Tryd.prog ops Q (o :: rest) a w :=
  wpList_buildSlice hg 23 57 1 _ ho #[c0, c1, c2, c3, c4, c5] Tryd.acE zAc Tryd.underlying23 (by kernel_rfl) (by kernel_rfl) (by rw [Tryd.acS]; omega) (by rw [Tryd.acS]; omega) (by
    rw [Tryd.acS]
    simp only [List.map_toArray, List.map_cons, List.map_nil, hx]
    exact fill6 c0 c1 c2 c3 c4 c5) h
end Go.Proofs.YthnbbgmajdjgeaaDoor
