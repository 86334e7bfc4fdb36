/-
  placed at any error of the program are proved here in one form each. Conditions: errors.errorType is laid.
-/
import Derived.Test.YthnbbgmajdjgeaaDoorPlace
namespace Go.Proofs.YthnbbgmajdjgeaaDoor
open Go.RowKit Go.Extern.Stop Go.Stop Go.Extern

/-- The error that is Errno n, or nil where n is 0. -/
def errV (n : Int) : Value := if n = 0 then .nilIface else .iface 27 (.int .i64 n)
theorem errV_zero : errV 0 = .nilIface := rfl
theorem errV_pos (n : Int) (h : n ≠ 0) : errV n = .iface 27 (.int .i64 n) := by unfold errV; rw [if_neg h]

/-- An error with Errno n at place p: nil, a bare Errno, or an *api.At. -/
def IsErr (w : World) (v : Value) (n p : Int) : Prop :=
  (v = .nilIface ∧ n = 0 ∧ p = -1) ∨ (v = .iface 27 (.int .i64 n) ∧ n ≠ 0 ∧ p = -1) ∨
  ∃ b o, v = .iface 65 (.pointer (some ⟨b, o, none⟩)) ∧ n ≠ 0 ∧ w.cell? ⟨b, o, none⟩ = some (.int .i64 n) ∧ w.cell? ⟨b, o + 1, none⟩ = some (.int .i64 p)
theorem IsErr.below {w w' : World} {v : Value} {n p : Int} (h : IsErr w v n p) (hb : Below w.heap.size w w') : IsErr w' v n p := by
  rcases h with h | h | ⟨b, o, hv, h0, h1, h2⟩
  · exact .inl h
  · exact .inr (.inl h)
  · refine .inr (.inr ⟨b, o, hv, h0, ?_, ?_⟩)
    · rw [hb.cell (World.block_lt_of_cell? w _ h1)]; exact h1
    · rw [hb.cell (World.block_lt_of_cell? w _ h2)]; exact h2
theorem IsErr.drewN {w : World} {v : Value} {n p : Int} (h : IsErr w v n p) (k : Nat) : IsErr (w.drewN k) v n p := h.below (below_drewN (Below.refl _ _) k)
theorem IsErr.nil_ (w : World) : IsErr w .nilIface 0 (-1) := .inl ⟨rfl, rfl, rfl⟩
theorem IsErr.bare_ (w : World) (n : Int) (h : n ≠ 0) : IsErr w (.iface 27 (.int .i64 n)) n (-1) := .inr (.inl ⟨rfl, h, rfl⟩)
theorem IsErr.none_ {w : World} {v : Value} {p : Int} (h : IsErr w v 0 p) : v = .nilIface := by
  rcases h with ⟨h, _⟩ | ⟨_, h, _⟩ | ⟨_, _, _, h, _⟩
  · exact h
  · exact absurd rfl h
  · exact absurd rfl h

theorem placed_any (v : Value) (n p : Int) (w : World) (hg : HasErr w) (h : IsErr w v n p) :
    Calls Tryd.prog 7 #[v, .agg #[.int .i64 n, .int .i64 p]] w fun e w' => e = .returned (.bool true) ∧ Below w.heap.size w w' := by
  rcases h with ⟨rfl, rfl, rfl⟩ | ⟨rfl, _, rfl⟩ | ⟨b, o, rfl, _, h1, h2⟩
  · exact placed_nil w
  · exact placed_e n w hg
  · exact placed_at n p b o w hg h1 h2
end Go.Proofs.YthnbbgmajdjgeaaDoor
