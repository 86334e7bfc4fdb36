/-
  A drawn region's walk under a stronger fact on worlds serves under a weaker one. Conditions: none.
-/
import Derived.Deep.RegionHeld3
namespace Go.Proofs.YthnbbgmajdjgeaaDoor
open Go
/-- What each world keeps may be strengthened in the midst of a region. -/
theorem wpAnyH_mono {P : Program} {md : Region.Mode} {ops : Array Oper} {Q : Exit → Act → World → Prop} {S S' : World → Prop} (h : ∀ w, S' w → S w) :
    ∀ (fuel : Nat) (listed : Array Bool) (a : Act) (w : World), wpAnyH P md ops Q S' fuel listed a w → wpAnyH P md ops Q S fuel listed a w
  | 0, _, _, _, hh => hh
  | fuel + 1, _, _, _, hh => ⟨hh.1, fun i hi => wpOp_mono (fun a' w' h' => ⟨h w' h'.1, wpAnyH_mono h fuel _ a' w' h'.2⟩) (hh.2 i hi)⟩
end Go.Proofs.YthnbbgmajdjgeaaDoor
