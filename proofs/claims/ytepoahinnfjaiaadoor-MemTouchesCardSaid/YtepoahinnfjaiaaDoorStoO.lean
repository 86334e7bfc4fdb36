/-
  What the row of StoryPrints lists is opened here: the names and the table of powers; and events as an argument. Conditions: each reads as data.
-/
import Derived.Test.YtepoahinnfjaiaaDoorFrame
import Derived.Test.YtepoahinnfjaiaaDoorOpenS
import Derived.Test.YtepoahinnfjaiaaDoorStoY
import Derived.Lib.LaidTab
import Derived.Lib.LaidU8
import Derived.Stop.LaidErr
namespace Go.Proofs.YtepoahinnfjaiaaDoor
open Go.ChangeShapes Go.WideShapes Go.ChangeAt Go.RowKit Go.Deep

theorem Tryd.gNames : Tryd.prog.globalNamed "quadrille/story.names" = some 0 := by kernel_rfl
theorem Tryd.tNames : (Tryd.prog.globals[0]?).map (·.type) = some 170 := by kernel_rfl
theorem Tryd.tTab : (Tryd.prog.globals[2]?).map (·.type) = some 204 := by kernel_rfl
theorem Tryd.cells170 : Tryd.prog.cellsOf 170 = 4 := by kernel_rfl
theorem Tryd.cells204 : Tryd.prog.cellsOf 204 = 20 := by kernel_rfl
theorem Tryd.cells9 : Tryd.prog.cellsOf 9 = 1 := by kernel_rfl
/-- An array of strings that reads as these holds them, cell for cell. -/
theorem cells_of_strs {H : Type} {enc : TypeId × Value → H} {P : Program} {w : World} {base : Nat} {sp : Nat → Bool} {held : Bool} {fuel : Nat} {t e : TypeId} {n : Nat} {cs : List Value} {zs : List (List UInt8)} {p : List MemPlace}
    (ht : P.underlying t = some (.array n e)) (he : P.underlying e = some .string) (hce : P.cellsOf e = 1) (hct : P.cellsOf t = n)
    (h : DataW.trod enc P w base sp held fuel t cs = some (.agg (zs.map fun z => .lit (.string z)), p)) (i : Nat) (hi : i < zs.length) : cs[i]? = some (.string ⟨(zs[i]).toArray⟩) := by
  cases fuel with
  | zero => simp [DataW.trod] at h
  | succ fuel =>
    simp only [DataW.trod, ht, hce, hct, Nat.mul_one] at h
    split at h
    · rename_i hl
      obtain ⟨xs, hm, hx⟩ := Option.map_eq_some_iff.1 h
      have hxs : xs.map (·.1) = zs.map fun z => (DataW.lit (.string z) : DataW H) := by
        have := congrArg Prod.fst hx
        simpa using this
      have hxl : xs.length = n := by simpa using Lib.mapM_length hm
      have hzl : zs.length = n := by
        have := congrArg List.length hxs
        simp at this
        omega
      obtain ⟨b, hb, hf⟩ := Lib.mapM_at hm i i (List.getElem?_range (by omega))
      obtain ⟨z, hc, rfl, _⟩ := DataW.trod_string he hf
      have h1 : cs[i]? = some (.string z) := by
        have := congrArg (·[0]?) hc
        simpa [List.getElem?_take, List.getElem?_drop] using this
      have h2 : (xs.map (·.1))[i]? = some (DataW.lit (.string z.data.toList) : DataW H) := by simp [hb]
      rw [hxs] at h2
      simp only [List.getElem?_map, Option.map_eq_some_iff, DataW.lit.injEq, Lit.string.injEq] at h2
      obtain ⟨z', hz', e'⟩ := h2
      rw [List.getElem?_eq_getElem hi] at hz'
      injection hz' with hz'
      rw [h1, hz', e']
    · cases h
set_option maxRecDepth 100000 in
theorem names_of_reads {W : World} (h : Lib.VarReads Tryd.prog W "quadrille/story.names" Rows.laid_quadrille_story_names) : HasNames W := by
  obtain ⟨g, t, cs, fuel, p, hg, ht, hvar, hd⟩ := h
  obtain rfl := Option.some.inj (Tryd.gNames.symm.trans hg)
  obtain rfl := Option.some.inj (Tryd.tNames.symm.trans ht)
  have hd' : DataW.trod (fun _ => ()) Tryd.prog W 0 (fun _ => true) false fuel 170 cs.toList = some (.agg ([nameL 0, nameL 1, nameL 2, nameL 3].map fun z => .lit (.string z)), p) := hd
  intro j hj
  have hc := cells_of_strs Tryd.underlying170 Tryd.underlying9 Tryd.cells9 Tryd.cells170 hd' j hj
  have hv := World.var?_cell Tryd.gNames hvar j
  rw [hv]
  have e : cs[j]? = cs.toList[j]? := by simp
  rw [e, hc]
  match j, hj with
  | 0, _ => rfl
  | 1, _ => rfl
  | 2, _ => rfl
  | 3, _ => rfl
set_option maxRecDepth 100000 in
theorem tab_of_reads {W : World} (h : Lib.VarReads Tryd.prog W "internal/strconv.uint64pow10" Rows.laid_internal_strconv_uint64pow10) : HasTab W := by
  obtain ⟨g, t, cs, fuel, p, hg, ht, hvar, hd⟩ := h
  obtain rfl := Option.some.inj (Tryd.gTab.symm.trans hg)
  obtain rfl := Option.some.inj (Tryd.tTab.symm.trans ht)
  have hd' : DataW.trod (fun _ => ()) Tryd.prog W 0 (fun _ => true) false fuel 204 cs.toList = some (Lib.tabData .u64 Lib.pow10Tab, p) := hd
  unfold HasTab Lib.TabIs
  rw [hvar, ← Lib.cells_of_tab Tryd.underlying204 (by kernel_rfl : Tryd.prog.underlying 35 = some (.int .u64)) (by kernel_rfl) Tryd.cells204 hd']
set_option maxRecDepth 100000 in
theorem laid_story {W : World} (h : laidMetH Tryd.prog Rows.storyPrintsRow.laid W) : HasErr W ∧ HasTab W ∧ HasNames W := by
  have h' : laidMet Tryd.prog [("math/bits.deBruijn32tab", Rows.laid_math_bits_deBruijn32tab), ("math/bits.deBruijn64tab", Rows.laid_math_bits_deBruijn64tab), ("internal/strconv.uint64pow10", Rows.laid_internal_strconv_uint64pow10), ("quadrille/story.names", Rows.laid_quadrille_story_names)] W ∧ handlesMet Tryd.prog [("errors.errorType", Rows.laid_errors_errorType)] W := h
  exact ⟨hasErr_of_handles h'.2 (List.mem_singleton.2 rfl), tab_of_reads (Lib.laidMet.reads h'.1 (.tail _ (.tail _ (.head _)))), names_of_reads (Lib.laidMet.reads h'.1 (.tail _ (.tail _ (.tail _ (.head _)))))⟩
section
variable {H : Type} {enc : TypeId × Value → H} {w : World} {base : Nat} {spare : Nat → Bool} {held : Bool}
set_option maxRecDepth 100000 in
theorem open_events_wf {r : Reach} {b0 : Nat} {v : Value} {d : DataW H} {p : List MemPlace} (hv : Value.okWide Tryd.prog w r b0 66 v) (h : DataW.Trod enc Tryd.prog w base spare held 66 v d p) :
    ∃ (A : Option Addr) (len cap : Nat) (l : List Ev), v = .slice A len cap ∧ l.length = len ∧ Reads w w.heap.size 4 A len (flatE l) ∧ EvWf l := by
  obtain ⟨a0, len, cap, rfl⟩ := okWide_slice Tryd.underlying66 hv
  obtain ⟨fuel, hf⟩ := h
  rcases open_slice_fields Tryd.underlying66 Tryd.underlying143 (by kernel_rfl) Tryd.cells143 hf with ⟨hcs, _⟩ | ⟨a, len', cap', m, D, Pl, hcs, _, hl, _, hmm, _, hi⟩
  · simp [Value.cells] at hcs
    obtain ⟨rfl, rfl, rfl⟩ := hcs
    exact ⟨none, 0, 0, [], rfl, rfl, Reads.none_, fun e he => by simp at he⟩
  · simp [Value.cells] at hcs
    obtain ⟨rfl, rfl, rfl⟩ := hcs
    have hml : len ≤ m := by rw [hmm]; split <;> omega
    obtain ⟨l, hl2, hp⟩ := list_of (fun i (e : Ev) => (∀ j, j < 4 → w.cell? (a.add (i * 4 + j)) = (evc e)[j]?) ∧ B64 e.wh ∧ B64 e.th ∧ B64 e.va) len (fun i hil => by
      obtain ⟨ys, n, _, _, _, hfj⟩ := hi i (by omega)
      obtain ⟨v0, y0, c0, _, t0⟩ := hfj 0 _ rfl
      obtain ⟨v1, y1, c1, _, t1⟩ := hfj 1 _ rfl
      obtain ⟨v2, y2, c2, _, t2⟩ := hfj 2 _ rfl
      obtain ⟨v3, y3, c3, _, t3⟩ := hfj 3 _ rfl
      obtain ⟨x0, e0, _, f0⟩ := DataW.trod_int Tryd.underlying3 t0
      obtain ⟨x1, e1, _, f1⟩ := DataW.trod_int Tryd.underlying3 t1
      obtain ⟨x2, e2, _, f2⟩ := DataW.trod_int Tryd.underlying3 t2
      obtain ⟨x3, e3, _, f3⟩ := DataW.trod_int Tryd.underlying3 t3
      simp at e0 e1 e2 e3
      subst e0 e1 e2 e3
      have g0 : B64 x0 := by have h := bounds_i64 f0; exact ⟨by omega, by omega⟩
      have g2 : B64 x2 := by have h := bounds_i64 f2; exact ⟨by omega, by omega⟩
      have g3 : B64 x3 := by have h := bounds_i64 f3; exact ⟨by omega, by omega⟩
      refine ⟨⟨x0, x1, x2, x3⟩, fun j hj => ?_, g0, g2, g3⟩
      match j, hj with
      | 0, _ => exact c0
      | 1, _ => exact c1
      | 2, _ => exact c2
      | 3, _ => exact c3)
    subst hl2
    refine ⟨some a, _, cap, l, rfl, rfl, reads_of evc_len (by omega) l a (fun i hi => (hp i hi).1), fun e he => ?_⟩
    obtain ⟨i, hi, rfl⟩ := List.getElem_of_mem he
    exact (hp i hi).2
end
end Go.Proofs.YtepoahinnfjaiaaDoor
