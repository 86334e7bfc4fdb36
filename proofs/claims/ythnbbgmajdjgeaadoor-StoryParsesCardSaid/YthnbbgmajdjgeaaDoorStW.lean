/-
  What the row of StoryParses lists is opened here: names, tables, White_Space, the two errors. Conditions: each reads as data.
-/
import Derived.Test.YthnbbgmajdjgeaaDoorFrame
import Derived.Test.YthnbbgmajdjgeaaDoorStQ
import Derived.Lib.LaidTab
import Derived.Lib.LaidU8
import Derived.Stop.LaidErr
namespace Go.Proofs.YthnbbgmajdjgeaaDoor
open Go.ChangeShapes Go.WideShapes Go.ChangeAt Go.RowKit Go.Deep

theorem Tryd.gNames : Tryd.prog.globalNamed "quadrille/story.names" = some 1 := by kernel_rfl
theorem Tryd.tNames : (Tryd.prog.globals[1]?).map (·.type) = some 114 := by kernel_rfl
theorem Tryd.tTab : (Tryd.prog.globals[7]?).map (·.type) = some 195 := by kernel_rfl
theorem Tryd.tAsc : (Tryd.prog.globals[0]?).map (·.type) = some 106 := by kernel_rfl
theorem Tryd.cells114 : Tryd.prog.cellsOf 114 = 4 := by kernel_rfl
theorem Tryd.cells195 : Tryd.prog.cellsOf 195 = 20 := by kernel_rfl
theorem Tryd.cells106 : Tryd.prog.cellsOf 106 = 256 := by kernel_rfl
theorem Tryd.cells9 : Tryd.prog.cellsOf 9 = 1 := by kernel_rfl
/-- An array of strings that reads as these holds them, cell for cell. -/
theorem cells_of_strs {H : Type} {enc : TypeId × Value → H} {P : Program} {w : World} {base : Nat} {sp : Nat → Bool} {held : Bool} {fuel : Nat} {t e : TypeId} {n : Nat} {cs : List Value} {zs : List (List UInt8)} {p : List MemPlace}
    (ht : P.underlying t = some (.array n e)) (he : P.underlying e = some .string) (hce : P.cellsOf e = 1) (hct : P.cellsOf t = n)
    (h : DataW.trod enc P w base sp held fuel t cs = some (.agg (zs.map fun z => .lit (.string z)), p)) (i : Nat) (hi : i < zs.length) : cs[i]? = some (.string ⟨(zs[i]).toArray⟩) := by
  cases fuel with
  | zero => simp [DataW.trod] at h
  | succ fuel =>
    simp only [DataW.trod, ht, hce, hct, Nat.mul_one] at h
    split at h
    · rename_i hl
      obtain ⟨xs, hm, hx⟩ := Option.map_eq_some_iff.1 h
      have hxs : xs.map (·.1) = zs.map fun z => (DataW.lit (.string z) : DataW H) := by
        have := congrArg Prod.fst hx
        simpa using this
      have hxl : xs.length = n := by simpa using Lib.mapM_length hm
      have hzl : zs.length = n := by
        have := congrArg List.length hxs
        simp at this
        omega
      obtain ⟨b, hb, hf⟩ := Lib.mapM_at hm i i (List.getElem?_range (by omega))
      obtain ⟨z, hc, rfl, _⟩ := DataW.trod_string he hf
      have h1 : cs[i]? = some (.string z) := by
        have := congrArg (·[0]?) hc
        simpa [List.getElem?_take, List.getElem?_drop] using this
      have h2 : (xs.map (·.1))[i]? = some (DataW.lit (.string z.data.toList) : DataW H) := by simp [hb]
      rw [hxs] at h2
      simp only [List.getElem?_map, Option.map_eq_some_iff, DataW.lit.injEq, Lit.string.injEq] at h2
      obtain ⟨z', hz', e'⟩ := h2
      rw [List.getElem?_eq_getElem hi] at hz'
      injection hz' with hz'
      rw [h1, hz', e']
    · cases h
set_option maxRecDepth 100000 in
theorem names_of_reads {W : World} (h : Lib.VarReads Tryd.prog W "quadrille/story.names" Rows.laid_quadrille_story_names) : HasNames W := by
  obtain ⟨g, t, cs, fuel, p, hg, ht, hvar, hd⟩ := h
  obtain rfl := Option.some.inj (Tryd.gNames.symm.trans hg)
  obtain rfl := Option.some.inj (Tryd.tNames.symm.trans ht)
  have hd' : DataW.trod (fun _ => ()) Tryd.prog W 0 (fun _ => true) false fuel 114 cs.toList = some (.agg ([nameL 0, nameL 1, nameL 2, nameL 3].map fun z => .lit (.string z)), p) := hd
  intro j hj
  have hc := cells_of_strs Tryd.underlying114 Tryd.underlying9 Tryd.cells9 Tryd.cells114 hd' j hj
  have hv := World.var?_cell Tryd.gNames hvar j
  rw [hv]
  have e : cs[j]? = cs.toList[j]? := by simp
  rw [e, hc]
  match j, hj with
  | 0, _ => rfl
  | 1, _ => rfl
  | 2, _ => rfl
  | 3, _ => rfl
set_option maxRecDepth 100000 in
theorem tab_of_reads {W : World} (h : Lib.VarReads Tryd.prog W "internal/strconv.uint64pow10" Rows.laid_internal_strconv_uint64pow10) : HasTab W := by
  obtain ⟨g, t, cs, fuel, p, hg, ht, hvar, hd⟩ := h
  obtain rfl := Option.some.inj (Tryd.gTab.symm.trans hg)
  obtain rfl := Option.some.inj (Tryd.tTab.symm.trans ht)
  have hd' : DataW.trod (fun _ => ()) Tryd.prog W 0 (fun _ => true) false fuel 195 cs.toList = some (Lib.tabData .u64 Lib.pow10Tab, p) := hd
  unfold HasTab Lib.TabIs
  rw [hvar, ← Lib.cells_of_tab Tryd.underlying195 (by kernel_rfl : Tryd.prog.underlying 55 = some (.int .u64)) (by kernel_rfl) Tryd.cells195 hd']
set_option maxRecDepth 100000 in
theorem asc_of_reads {W : World} (h : Lib.VarReads Tryd.prog W "strings.asciiSpace" Rows.laid_strings_asciiSpace) : Lib.TabIs Tryd.prog W "strings.asciiSpace" .u8 Lib.asciiSpaceTab := by
  obtain ⟨g, t, cs, fuel, p, hg, ht, hvar, hd⟩ := h
  obtain rfl := Option.some.inj (Tryd.gAsc.symm.trans hg)
  obtain rfl := Option.some.inj (Tryd.tAsc.symm.trans ht)
  have hd' : DataW.trod (fun _ => ()) Tryd.prog W 0 (fun _ => true) false fuel 106 cs.toList = some (Lib.tabData .u8 Lib.asciiSpaceTab, p) := hd
  unfold Lib.TabIs
  rw [hvar, ← Lib.cells_of_tab Tryd.underlying106 (by kernel_rfl : Tryd.prog.underlying 5 = some (.int .u8)) (by kernel_rfl) Tryd.cells106 hd']
set_option maxRecDepth 100000 in
theorem white_of_reads {W : World} (h : Lib.VarReads Tryd.prog W "unicode.White_Space" Rows.laid_unicode_White_Space) : Lib.WhiteTab 2 W :=
  whiteTab_of_reads Tryd.lays199 { n6 := by kernel_rfl, y6 := by kernel_rfl, c3 := by kernel_rfl, c49 := by kernel_rfl, c193 := by kernel_rfl, c194 := by kernel_rfl, c196 := by kernel_rfl, c198 := by kernel_rfl } h
end Go.Proofs.YthnbbgmajdjgeaaDoor
