/-
  The walks of LinReplays, part two: what comes of calls at points, in the reference. Conditions: calls and points lie below this call's memory.
-/
import Derived.Test.YtepoahinnfjaiaaDoorLinV
namespace Go.Proofs.YtepoahinnfjaiaaDoor
open Go.RowKit Go.Extern.Stop Go.Stop Go.Extern

def PRepEnd (R : Rp) (w : World) (e : Ending) (w' : World) : Prop :=
  ∃ A c, e = .returned (.tuple #[stv R.st, .slice A R.outs.length c, .agg #[.int .i64 R.code, .int .i64 R.place]]) ∧ Reads w' w'.heap.size 1 A R.outs.length (ints R.outs) ∧ Below w.heap.size w w'
/-- What holds of memory at a round's head, in the reference. -/
def PRel (w : World) (k : Nat) (s : St) (outs : List Int) (v : Value) (wr : World) : Prop :=
  Blk wr w.heap.size 39 (sta s) ∧ Blk wr (w.heap.size + 1) 39 zst ∧ Blk wr (w.heap.size + 1 + 1) 68 #[.int .i64 0, .int .i64 0] ∧ wr.ownsRow (w.heap.size + 1 + 1 + 1) 3 1 v k (ints outs) ∧ outs.length = k ∧ Below w.heap.size w wr ∧ w.heap.size + 1 + 1 + 1 ≤ wr.heap.size
theorem prel_start (w : World) (s : St) : PRel w 0 s [] (.slice none 0 0) (((w.alloc (.cells (sta s) 39)).alloc (.cells zst 39)).alloc (.cells #[.int .i64 0, .int .i64 0] 68)) := by
  have h0 := ((Blk.new w 39 (sta s)).alloc (.cells zst 39)).alloc (.cells #[.int .i64 0, .int .i64 0] 68)
  have h1 := (Blk.new (w.alloc (.cells (sta s) 39)) 39 zst).alloc (.cells #[.int .i64 0, .int .i64 0] 68)
  have h2 := Blk.new ((w.alloc (.cells (sta s) 39)).alloc (.cells zst 39)) 68 #[.int .i64 0, .int .i64 0]
  simp only [World.size_alloc] at h1 h2
  exact ⟨h0, h1, h2, ⟨rfl, .inl ⟨rfl, rfl⟩⟩, rfl, (((Below.refl _ _).alloc (Nat.le_refl _) _).alloc (by simp) _).alloc (by simp; omega) _, by simp⟩
theorem PRel.below {w wr w' : World} {k : Nat} {s : St} {outs : List Int} {v : Value} (h : PRel w k s outs v wr) (hb : Below wr.heap.size wr w') : PRel w k s outs v w' := by
  obtain ⟨h1, h2, h3, h4, h5, h6, h7⟩ := h
  exact ⟨h1.below hb h1.lt, h2.below hb h2.lt, h3.below hb h3.lt, own_belowL h4 hb (fun g hg => (h4.lt g hg).2), h5, h6.trans (hb.mono h6.size), by have := hb.size; omega⟩
theorem prel_set {w w6 : World} {k : Nat} {s s' : St} {outs : List Int} {v : Value} (h : PRel w k s outs v w6) :
    PRel w k s' outs v ((((w6.setCell ⟨w.heap.size, 0, none⟩ (.bool s'.o)).setCell ⟨w.heap.size, 1, none⟩ (.int .i64 s'.ph)).setCell ⟨w.heap.size, 2, none⟩ (.int .i64 s'.pa)).setCell ⟨w.heap.size, 3, none⟩ (.int .i64 s'.wa)) := by
  obtain ⟨h1, h2, h3, h4, h5, h6, h7⟩ := h
  refine ⟨set_sta h1 rfl s', (((h2.far (by simp) _).far (by simp) _).far (by simp) _).far (by simp) _, (((h3.far (by simp; omega) _).far (by simp; omega) _).far (by simp; omega) _).far (by simp; omega) _, ?_, h5, (((h6.setCell (by simp) _).setCell (by simp) _).setCell (by simp) _).setCell (by simp) _, by simp; omega⟩
  exact ownsRow_setCell_below (ownsRow_setCell_below (ownsRow_setCell_below (ownsRow_setCell_below h4 (by simp; omega) _) (by simp; omega) _) (by simp; omega) _) (by simp; omega) _
theorem prel_append {w w8 w9 : World} {k : Nat} {s : St} {outs : List Int} {v v' : Value} {dan : Int} (h : PRel w k s outs v w8)
    (hg : w8.grownBy w9 v.ownBlock) (hown : w9.ownsRow (w.heap.size + 1 + 1 + 1) 3 1 v' (k + 1) (ints outs ++ [.int .i64 dan])) : PRel w (k + 1) s (outs ++ [dan]) v' w9 := by
  obtain ⟨h1, h2, h3, h4, h5, h6, h7⟩ := h
  have hlo : ∀ g, v.ownBlock = some g → w.heap.size + 1 + 1 + 1 ≤ g := fun g hg => (h4.lt g hg).1
  have hne : ∀ g, g < w.heap.size + 1 + 1 + 1 → some g ≠ v.ownBlock := fun g hg e => by have := hlo g e.symm; omega
  have hsz := hg.size
  exact ⟨h1.grown hg (hne _ (by omega)), h2.grown hg (hne _ (by omega)), h3.grown hg (hne _ (by omega)), by simpa [ints] using hown, by simp [h5], h6.grown hg (by omega) (fun g hg => by have := hlo g hg; omega), by omega⟩
end Go.Proofs.YtepoahinnfjaiaaDoor
