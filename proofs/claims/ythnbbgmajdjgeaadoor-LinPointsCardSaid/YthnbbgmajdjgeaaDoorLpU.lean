/- LinPoints, the reference's half: a point is appended to the points gathered, behind the last act's or change's time. Conditions: as each states. -/
import Derived.Test.YthnbbgmajdjgeaaDoorLpR
namespace Go.Proofs.YthnbbgmajdjgeaaDoor
open Go.RowKit Go.Extern.Stop Go.Stop Go.Extern

theorem flatP_snoc (l : List Pt) (p : Pt) : flatP (l ++ [p]) = flatP l ++ ptc p := by rw [flatP_append]; simp [flatP]
/-- What stays while points are gathered, the points' own block's cell aside. -/
theorem FixRel.belowO {w wr w' : World} {E : Nat → List Int} {n O : Nat} (h : FixRel w E n O wr) (hb : Below O wr w') : FixRel w E n O w' := by
  obtain ⟨h1, h2, h3, h4, h5, h6⟩ := h
  exact ⟨h1.below hb (by omega), h2.below hb (by omega), h3.below hb (by omega), h4, Nat.lt_of_lt_of_le h5 hb.size, h6.trans (hb.mono (by omega))⟩
theorem OutC.push {W1 w2 : World} {O : Nat} {v v' : Value} {out : List Pt} {p : Pt} (h : OutC W1 O v out) (hown : w2.ownsRow (O + 1) 39 4 v' (out.length + 1) (flatP out ++ ptc p)) (hg : W1.grownBy w2 v.ownBlock) : OutC (w2.setCell ⟨O, 0, none⟩ v') O v' (out ++ [p]) := by
  have h1 := (h.1.grown hg (fun e => own_blk_ne h.2 h.1 (by decide) e.symm)).set_ 0 v'
  refine ⟨h1, ?_⟩
  rw [flatP_snoc, List.length_append]
  refine own_farP hown (fun e => ?_)
  have := (hown.lt O e).1
  omega
theorem OutC.at {W1 w2 : World} {O : Nat} {v : Value} {out : List Pt} (h : OutC W1 O v out) (hg : W1.grownBy w2 v.ownBlock) : w2.cell? ⟨O, 0, none⟩ = some v ∧ w2.frozen? ⟨O, 0, none⟩ = false := by
  have h1 := h.1.grown hg (fun e => own_blk_ne h.2 h.1 (by decide) e.symm)
  exact ⟨h1.cell 0, h1.frozen 0⟩
/-- The last act's time, in a row of acts. -/
theorem last_at {wr : World} {O : Nat} {v : Value} {l : List Ac} {m : Nat} (h : wr.ownsRow (O + 1) 57 6 v l.length (flatA l)) (hm : l.length = m + 1) :
    ∃ g c x, v = .slice (some ⟨g, 0, none⟩) (m + 1) c ∧ O < g ∧ g < wr.heap.size ∧ l.getLast?.map Ac.wh = some x ∧ wr.cell? ⟨g, m * 6, none⟩ = some (.int .i64 x) := by
  obtain ⟨g, c, rfl, h1, h2⟩ := h.form (by omega)
  have hk : m < l.length := by omega
  refine ⟨g, c, (l[m]'hk).wh, by rw [hm], by omega, h2, ?_, ?_⟩
  · rw [List.getLast?_eq_getElem?, hm, Nat.add_sub_cancel, List.getElem?_eq_getElem hk]
    rfl
  · rw [h.cellAt (m * 6) (by omega)]
    exact flatMap_get acc_len l m 0 hk (by omega)
/-- All that is carried on behind an append of one point. -/
structure Gone (w w' : World) (E : Nat → List Int) (n O : Nat) (v1 v2 v' : Value) (ml cl : List Ac) (out : List Pt) : Prop where
  fix : FixRel w E n O w'
  out : OutC w' O v' out
  half : Half w' O v1 v2 ml cl
theorem Half.after {W1 w2 : World} {O n : Nat} {v1 v2 v u : Value} {ml cl : List Ac} {xs : List Value} (h : Half W1 O v1 v2 ml cl) (hv : W1.ownsRow (O + 1) 39 4 v n xs) (hg : W1.grownBy w2 v.ownBlock) : Half (w2.setCell ⟨O, 0, none⟩ u) O v1 v2 ml cl := by
  refine ⟨own_farP (h.1.kept hg (own_ne_type h.1 hv (by decide))) (fun e => ?_), own_farP (h.2.1.kept hg (own_ne_type h.2.1 hv (by decide))) (fun e => ?_), h.2.2⟩
  · have := (h.1.lt O e).1; omega
  · have := (h.2.1.lt O e).1; omega
theorem gone {w wr W1 w2 : World} {E : Nat → List Int} {n O : Nat} {v1 v2 v v' : Value} {ml cl : List Ac} {out : List Pt} {p : Pt}
    (hF : FixRel w E n O wr) (hH : Half wr O v1 v2 ml cl) (hO : OutC W1 O v out) (hb : Below wr.heap.size wr W1) (hown : w2.ownsRow (O + 1) 39 4 v' (out.length + 1) (flatP out ++ ptc p)) (hg : W1.grownBy w2 v.ownBlock) :
    Gone w (w2.setCell ⟨O, 0, none⟩ v') E n O v1 v2 v' ml cl (out ++ [p]) := by
  have h5 := hF.2.2.2.2.1
  have hs := hb.size
  refine ⟨hF.belowO ?_, hO.push hown hg, (hH.below hb).after hO.2 hg⟩
  have hb2 : Below O wr w2 := (hb.mono (show O ≤ wr.heap.size by omega)).grown hg (by omega) (fun g e => by have := (hO.2.lt g e).1; omega)
  exact hb2.setCell (p := ⟨O, 0, none⟩) (Nat.le_refl _) v'
theorem effS_inv (t fr tt : Int) (done : Bool) : ∀ (l : List Ac) (s : Option Int × Option Int), (s.2 = none → s.1 = none) → (effS t fr tt done l s).2 = none → (effS t fr tt done l s).1 = none
  | [], _, h => h
  | a :: l, s, h => by
    rw [effS]
    refine effS_inv t fr tt done l _ ?_
    unfold effStep
    split
    · intro e; cases e
    · exact h
theorem mine_of_chg {t fr tt : Int} {done : Bool} {acts ml cl : List Ac} (h : effS t fr tt done acts (none, none) = (cl.getLast?.map Ac.wh, ml.getLast?.map Ac.wh)) (hc : 0 < cl.length) : 0 < ml.length := by
  have h2 := effS_inv t fr tt done acts (none, none) (fun _ => rfl)
  rw [h] at h2
  rcases Nat.eq_zero_or_pos ml.length with h0 | h0
  · obtain rfl := List.eq_nil_of_length_eq_zero h0
    have h3 := h2 rfl
    simp only [Option.map_eq_none_iff, List.getLast?_eq_none_iff] at h3
    subst h3
    exact hc
  · exact h0
theorem wrap_pred (m : Nat) (h : m ≤ 1000) : IntKind.i64.wrap (((m + 1 : Nat) : Int) - 1) = (m : Int) := by
  rw [show ((m + 1 : Nat) : Int) - 1 = (m : Int) by omega]
  exact IntWalk.i64_in _ (by omega)
end Go.Proofs.YthnbbgmajdjgeaaDoor
