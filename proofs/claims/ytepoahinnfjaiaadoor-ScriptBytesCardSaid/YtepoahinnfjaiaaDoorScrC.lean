/-
  The walks of ScriptBytes, part three: a script as bytes, in the reference. Conditions: the moves lie below this call's memory.
-/
import Derived.Test.YtepoahinnfjaiaaDoorScrB
import Derived.Test.YtepoahinnfjaiaaDoorMapI
namespace Go.Proofs.YtepoahinnfjaiaaDoor
open Go.RowKit Go.Extern.Stop Go.Stop Go.Extern

theorem own_below {w w' : World} {base B : Nat} {e : TypeId} {size n : Nat} {v : Value} {xs : List Value} (h : w.ownsRow base e size v n xs) (hb : Below B w w') (hv : ∀ g, v.ownBlock = some g → g < B) : w'.ownsRow base e size v n xs := by
  refine ⟨h.1, ?_⟩
  rcases h.2 with h0 | ⟨g, cap, cur, rfl, h1, h2, h3⟩
  · exact .inl h0
  · exact .inr ⟨g, cap, cur, rfl, h1, (hb.block g (hv g rfl)).trans h2, h3⟩
set_option maxRecDepth 100000 in
/-- The map from true to 224, from false to 0. -/
theorem bool_map (w : World) : ∃ w1 w2, (Instr.mapUpdate 137 (.map (some w.heap.size)) (.bool true) (.int .i64 224)).run Tryd.prog (w.alloc (.map #[] 0)) = .ok () w1 ∧
    (Instr.mapUpdate 137 (.map (some w.heap.size)) (.bool false) (.int .i64 0)).run Tryd.prog w1 = .ok () w2 ∧
    (∀ b : Bool, (Instr.lookup 137 (.map (some w.heap.size)) (.bool b) false).run Tryd.prog w2 = .ok (.int .i64 (if b then 224 else 0)) w2) ∧ Below w.heap.size w w2 := by
  have h0 : (w.alloc (.map #[] 0)).ownsMap Tryd.prog 4 (plainElem (H := Unit) Tryd.prog 3) w.heap.size 0 (.map []) := World.ownsMap_made _ _ _ _
  obtain ⟨w1, r1, h1, g1⟩ := h0.update (t := 137) (e := 3) (Maps.bool_keyed Tryd.underlying4) Tryd.underlying137 (by unfold maxLen; omega) (Maps.keyOf_bool_mk Tryd.underlying4 true) (plainElem_int (q := .i64) (a := 224) Tryd.underlying3 (by decide))
  obtain ⟨w2, r2, h2, g2⟩ := h1.update (t := 137) (e := 3) (Maps.bool_keyed Tryd.underlying4) Tryd.underlying137 (by unfold maxLen; omega) (Maps.keyOf_bool_mk Tryd.underlying4 false) (plainElem_int (q := .i64) (a := 0) Tryd.underlying3 (by decide))
  refine ⟨w1, w2, r1, r2, fun b => ?_, ?_⟩
  · obtain ⟨c, hrun, hat, _⟩ := h2.lookup_int (t := 137) (e := 3) (q := .i64) (Maps.bool_keyed Tryd.underlying4) Tryd.underlying137 Tryd.underlying3 (by kernel_rfl) (Maps.keyOf_bool_mk Tryd.underlying4 b)
    rw [hrun]
    cases b
    · have := (show (DataW.lit (Lit.int .i64 0) : DataW Unit) = .lit (.int .i64 c) from by rw [← hat]; rfl)
      injection this with this; injection this with _ this; subst this; rfl
    · have := (show (DataW.lit (Lit.int .i64 224) : DataW Unit) = .lit (.int .i64 c) from by rw [← hat]; rfl)
      injection this with this; injection this with _ this; subst this; rfl
  · exact ((((Below.refl _ _).alloc (Nat.le_refl _) _).grown g1 (by simp) (fun g hg => by cases hg; exact Nat.le_refl _))).grown g2 (by have := g1.size; simp at this; omega) (fun g hg => by cases hg; exact Nat.le_refl _)

theorem enc_f (k n r : Int) (A : Option Addr) (len cap B : Nat) (l : List Mv) (w : World) (hl : l.length = len) (hlen : len ≤ 600) (hr : Reads w B 2 A len (flatM l)) (hB : B ≤ w.heap.size) (hH : ¬ (HdOk k n r ∧ MvOk n l)) :
    Calls Tryd.prog 32 #[scv k n r A len cap] w fun e w' => e = .returned (.tuple #[.string ⟨#[]⟩, .iface 26 (.int .i64 1)]) ∧ Below w.heap.size w w' := by
  have hok : scB k n r l = false := by simp only [scB, decide_eq_false_iff_not]; exact hH
  have hsr := (sright k n r A len cap B l (w.alloc (scb k n r A len cap)) hl hlen (hr.alloc hB _) (by simp; omega)).mono (R' := fun e w' => e = .returned (.bool false) ∧ Below (w.heap.size + 1) (w.alloc (scb k n r A len cap)) w') (fun e w' h => by
    obtain ⟨h1, h2⟩ := h; rw [hok] at h1; simp only [World.size_alloc] at h2; exact ⟨h1, h2⟩)
  have HS := Lib.hid hsr
  clear hsr hok hH hl
  go_enter Tryd.func32, Tryd.ntmps32
  go_wp2_with (go_at_call 33; refine HS.out.mono ?_; rintro e w1 ⟨rfl, hb1⟩)
  go_ret2
  exact ⟨rfl, ((Below.refl _ _).alloc (Nat.le_refl _) (scb k n r A len cap)).trans (hb1.mono (by omega))⟩
theorem penc_f (k n r : Int) (A : Option Addr) (len cap B : Nat) (l : List Mv) (w : World) (hl : l.length = len) (hlen : len ≤ 600) (hr : Reads w B 2 A len (flatM l)) (hB : B ≤ w.heap.size) (hH : ¬ (HdOk k n r ∧ MvOk n l)) :
    Calls Tryd.prog 31 #[scv k n r A len cap] w fun e w' => e = .returned (.tuple #[.string ⟨#[]⟩, .int .i64 1]) ∧ Below w.heap.size w w' := by
  have hok : scB k n r l = false := by simp only [scB, decide_eq_false_iff_not]; exact hH
  have hsr := (pright_any' k n r A len cap B l (w.alloc (scb k n r A len cap)) hl hlen (hr.alloc hB _) (by simp; omega)).mono (R' := fun e w' => e = .returned (.bool false) ∧ Below (w.heap.size + 1) (w.alloc (scb k n r A len cap)) w') (fun e w' h => by
    obtain ⟨h1, h2⟩ := h; rw [hok] at h1; simp only [World.size_alloc] at h2; exact ⟨h1, h2⟩)
  have HS := Lib.hid hsr
  clear hsr hok hH hl
  go_enter Tryd.func31, Tryd.ntmps31
  go_wp2_with (go_at_call 34; refine HS.out.mono ?_; rintro e w1 ⟨rfl, hb1⟩)
  go_ret2
  exact ⟨rfl, ((Below.refl _ _).alloc (Nat.le_refl _) (scb k n r A len cap)).trans (hb1.mono (by omega))⟩
end Go.Proofs.YtepoahinnfjaiaaDoor
