/-
  StoryParses' contract: what the row asks, out of the walks. Conditions: the row's own.
-/
import Derived.Test.YthnbbgmajdjgeaaDoorStX
import Derived.Test.YthnbbgmajdjgeaaDoorStV
import Derived.Shelf.Vars
namespace Go.Proofs.YthnbbgmajdjgeaaDoor.fnStoryParses
open Go.ChangeShapes Go.WideShapes Go.ChangeAt Go.RowKit
open Go.WideMaps Go.WideElems
open Go.ChangeMaps (open_string shut_string)
theorem paramsOk : (Tryd.f4.params.toList.all fun t => Tryd.prog.readableRec t && decide (t < Tryd.prog.types.size)) = true := by kernel_rfl
theorem resOk : Tryd.f4.resultTypes = #[4] := by kernel_rfl
set_option maxRecDepth 100000 in
theorem contract (H : Type) (enc : TypeId × Value → H) (W : World) (base : Nat) (args : Array Value) (ds gs : List (DataW H)) (before : List MemPlace)
    (hval : ∀ (j : Nat) t v, Tryd.f4.params[j]? = some t → args[j]? = some v → Value.okWide Tryd.prog W .any base t v)
    (hW : DataW.Whole enc Tryd.prog Tryd.f4.params.toList Rows.storyParsesSpec.vars false W args.toList ds gs before)
    (hL : laidMetH Tryd.prog Rows.storyParsesRow.laid W) (hsh : W.ShapedOpen Tryd.prog) :
    Calls Tryd.prog 4 args W fun e W' => ∃ v, e = .returned v ∧ Rows.storyParsesSpec.post enc Tryd.prog Tryd.f4 false true false false W args v W' := by
  obtain ⟨hg, hS⟩ := laid_parses hL (cell_of_shapedOpen_int (P := Tryd.prog) (g := 4) (t := 3) (zero := #[.int .i64 0]) hsh (of_decide_eq_true (by kernel_rfl)) (by kernel_rfl) rfl (by kernel_rfl) (by kernel_rfl) Tryd.underlying3)
  have hW' := hW
  obtain ⟨p, q, hA0, hV, rfl, hfz, hnd⟩ := hW
  have hA : DataW.TrodAll enc Tryd.prog W 0 (fun _ => true) true Tryd.f4.params.toList args.toList ds p := hA0
  rw [Tryd.params4] at hA hval
  obtain ⟨v0, d0, rfl, rfl, h0⟩ := trodAll_one hA
  obtain ⟨s, rfl, rfl, rfl, ws⟩ := open_string Tryd.underlying9 (hval 0 9 v0 rfl rfl) h0
  refine (law_parse s W (Std.of hS) hg).mono fun e W' ⟨he, hb⟩ => ?_
  exact ⟨_, he, post_true rfl hW' hb paramsOk resOk (by simp [Rows.storyParsesSpec])⟩
end Go.Proofs.YthnbbgmajdjgeaaDoor.fnStoryParses
