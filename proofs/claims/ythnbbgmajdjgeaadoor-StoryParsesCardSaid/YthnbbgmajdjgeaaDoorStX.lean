/-
  What the row of StoryParses lists, part two: the two errors, and all together. Conditions: each reads as data.
-/
import Derived.Test.YthnbbgmajdjgeaaDoorStW
namespace Go.Proofs.YthnbbgmajdjgeaaDoor
open Go.ChangeShapes Go.WideShapes Go.ChangeAt Go.RowKit Go.Deep

theorem iface_of_trod {H : Type} {enc : TypeId × Value → H} {P : Program} {w : World} {base : Nat} {sp : Nat → Bool} {held : Bool} {fuel : Nat} {t : TypeId} {ms : Array (String × TypeId)} {cs : List Value} {nm : String} {d : DataW H} {p : List MemPlace}
    (ht : P.underlying t = some (.interface ms)) (h : DataW.trod enc P w base sp held fuel t cs = some (.iface nm d, p)) : ∃ u v, cs = [.iface u v] := by
  cases fuel with
  | zero => simp [DataW.trod] at h
  | succ fuel =>
    simp only [DataW.trod, ht] at h
    split at h <;> simp_all
theorem err_cell {W : World} {name : String} {g : Nat} {nm : String} {d : DataW Unit} (hg : Tryd.prog.globalNamed name = some g) (ht : (Tryd.prog.globals[g]?).map (·.type) = some 33) (h : Lib.VarReads Tryd.prog W name (.iface nm d)) : ∃ te pe, W.cell? ⟨g, 0, none⟩ = some (.iface te pe) := by
  obtain ⟨g', t, cs, fuel, p, hg', ht', hvar, hd⟩ := h
  obtain rfl := Option.some.inj (hg.symm.trans hg')
  obtain rfl := Option.some.inj (ht.symm.trans ht')
  obtain ⟨u, v, hcs⟩ := iface_of_trod Tryd.underlying33 hd
  refine ⟨u, v, ?_⟩
  rw [World.var?_cell hg hvar 0]
  have e : cs[0]? = cs.toList[0]? := by simp
  rw [e, hcs]
  rfl
set_option maxRecDepth 100000 in
theorem laid_parses {W : World} (h : laidMetH Tryd.prog Rows.storyParsesRow.laid W) : (∃ m, W.cell? ⟨4, 0, none⟩ = some (.int .i64 m)) → HasErr W ∧ Std0 W := by
  intro hm
  have h' : laidMet Tryd.prog [("math/bits.deBruijn32tab", Rows.laid_math_bits_deBruijn32tab), ("math/bits.deBruijn64tab", Rows.laid_math_bits_deBruijn64tab), ("internal/strconv.uint64pow10", Rows.laid_internal_strconv_uint64pow10), ("unicode/utf8.acceptRanges", Rows.laid_unicode_utf8_acceptRanges), ("strconv.ErrRange", Rows.laid_strconv_ErrRange), ("strconv.ErrSyntax", Rows.laid_strconv_ErrSyntax), ("unicode.White_Space", Rows.laid_unicode_White_Space), ("strings.asciiSpace", Rows.laid_strings_asciiSpace), ("quadrille/story.names", Rows.laid_quadrille_story_names), ("unicode/utf8.first", Rows.laid_unicode_utf8_first)] W ∧ handlesMet Tryd.prog [("errors.errorType", Rows.laid_errors_errorType)] W := h
  have hT := tab_of_reads (Lib.laidMet.reads h'.1 (.tail _ (.tail _ (.head _))))
  exact ⟨hasErr_of_handles h'.2 (List.mem_singleton.2 rfl), {
    tab := hT
    names := names_of_reads (Lib.laidMet.reads h'.1 (by simp))
    syn := err_cell (name := "strconv.ErrSyntax") (by kernel_rfl) (by kernel_rfl) (Lib.laidMet.reads h'.1 (d := Rows.laid_strconv_ErrSyntax) (by simp))
    rng := err_cell (name := "strconv.ErrRange") (by kernel_rfl) (by kernel_rfl) (Lib.laidMet.reads h'.1 (d := Rows.laid_strconv_ErrRange) (by simp))
    mx := hm
    asc := asc_of_reads (Lib.laidMet.reads h'.1 (by simp))
    wht := white_of_reads (Lib.laidMet.reads h'.1 (by simp))
    lt := hT.lt }⟩
end Go.Proofs.YthnbbgmajdjgeaaDoor
