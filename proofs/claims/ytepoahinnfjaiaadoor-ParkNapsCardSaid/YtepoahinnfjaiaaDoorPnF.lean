/-
  The walks of ParkNaps in the program, part four: waking: the closure, slices.IndexFunc and slices.DeleteFunc with it. Conditions: the lot is this call's own.
-/
import Derived.Test.YtepoahinnfjaiaaDoorPnE
namespace Go.Proofs.YtepoahinnfjaiaaDoor
open Go.RowKit Go.Extern.Stop Go.Stop Go.Extern
attribute [local go_sem ↓] Go.wp_at_zero Go.wp_at_succ

/-- What the closure sees: the cell, the bound, and those who are woken. -/
structure Env (z : Nat) (w : World) (c m : Int) (v : Value) (xs : List Int) : Prop where
  c : Blk w z 3 #[.int .i64 c]
  m : Blk w (z + 1) 3 #[.int .i64 m]
  o : Blk w (z + 1 + 1) 50 #[v]
  row : RowAt (z + 1 + 1 + 1) w v xs
theorem own_blocks2 {w w' : World} {base n : Nat} {e : TypeId} {size : Nat} {v : Value} {xs : List Value} (h : w.ownsRow base e size v n xs) (hb : ∀ b, v.ownBlock = some b → w'.heap[b]? = w.heap[b]?) : w'.ownsRow base e size v n xs := by
  refine ⟨h.1, ?_⟩
  rcases h.2 with h2 | ⟨g, cap, cur, rfl, h0, h2, r⟩
  · exact .inl h2
  · exact .inr ⟨g, cap, cur, rfl, h0, (hb g rfl).trans h2, r⟩
theorem Env.below {z : Nat} {w w' : World} {c m : Int} {v : Value} {xs : List Int} (h : Env z w c m v xs) (hb : Below w.heap.size w w') : Env z w' c m v xs :=
  ⟨h.c.below hb h.c.lt, h.m.below hb h.m.lt, h.o.below hb h.o.lt, own_belowM h.row hb (fun g hg => (World.ownsRow.lt h.row g hg).2)⟩
theorem Env.gone {z g : Nat} {w w' : World} {c m : Int} {v : Value} {xs : List Int} (h : Env z w c m v xs) (hb : Gone g w w') (hg : g < z) : Env z w' c m v xs :=
  ⟨hb.far h.c (by omega), hb.far h.m (by omega), hb.far h.o (by omega), own_blocks2 h.row (fun b hb' => hb.2.2.2.2 b (by have := (World.ownsRow.lt h.row b hb').1; omega))⟩
/-- Whom the closure strikes. -/
def wkB (c m : Int) (xs : List Int) (e : Sl) : Bool := decide (e.ce = c ∧ (xs.length : Int) < m)
def Clo (z : Nat) : Value := .func (.func 86) #[] #[.pointer (some ⟨z, 0, none⟩), .pointer (some ⟨z + 1 + 1, 0, none⟩), .pointer (some ⟨z + 1, 0, none⟩)]
section
variable {z : Nat} {w : World} {c m : Int} {v : Value} {xs : List Int}
set_option maxRecDepth 100000 in
theorem fn86_f (h : Env z w c m v xs) (th ce : Int) (hb : ¬ (ce = c ∧ (xs.length : Int) < m)) :
    Calls Tryd.prog 86 #[.agg #[.int .i64 th, .int .i64 ce], .pointer (some ⟨z, 0, none⟩), .pointer (some ⟨z + 1 + 1, 0, none⟩), .pointer (some ⟨z + 1, 0, none⟩)] w fun e w' => e = .returned (.bool false) ∧ Below w.heap.size w w' := by
  have h' := h.below ((Below.refl _ _).alloc (Nat.le_refl _) (.cells #[.int .i64 th, .int .i64 ce] 161))
  obtain ⟨A, cp, rfl⟩ := own_formM h.row
  have c1 := h'.c.cell 0
  have c2 := h'.m.cell 0
  have c3 := h'.o.cell 0
  simp at c1 c2 c3
  by_cases he : ce = c
  · have hm : m ≤ (xs.length : Int) := by
      by_cases hq : (xs.length : Int) < m
      · exact absurd ⟨he, hq⟩ hb
      · omega
    have hn : (ce != c) = false := by simpa using he
    clear h h' he hb
    go_enter Tryd.func86, Tryd.ntmps86
    go_wp2
    go_ret
    exact ⟨rfl, (Below.refl _ _).alloc (Nat.le_refl _) _⟩
  · have hn : (ce != c) = true := by simpa using he
    clear h h' he hb
    go_enter Tryd.func86, Tryd.ntmps86
    go_wp2
    go_ret
    exact ⟨rfl, (Below.refl _ _).alloc (Nat.le_refl _) _⟩
def CloEnd (z : Nat) (w : World) (c m : Int) (xs : List Int) (e : Ending) (w' : World) : Prop := e = .returned (.bool true) ∧ (∃ v, Env z w' c m v xs) ∧ Below z w w'
set_option maxRecDepth 100000 in
set_option maxHeartbeats 1000000 in
theorem fn86_t (h : Env z w c m v xs) (hx : xs.length ≤ 1000) (th : Int) (hm : (xs.length : Int) < m) :
    Calls Tryd.prog 86 #[.agg #[.int .i64 th, .int .i64 c], .pointer (some ⟨z, 0, none⟩), .pointer (some ⟨z + 1 + 1, 0, none⟩), .pointer (some ⟨z + 1, 0, none⟩)] w (CloEnd z w c m (xs ++ [th])) := by
  obtain ⟨i0, hi0, hz0, hz1, hz2⟩ := info_parts Tryd.info3f
  have h' := h.below ((Below.refl _ _).alloc (Nat.le_refl _) (.cells #[.int .i64 th, .int .i64 c] 161))
  have h'' := h'.below ((Below.refl _ _).alloc (Nat.le_refl _) (.cells #[.int .i64 th] 3))
  have hzl := h.o.lt
  obtain ⟨A, cp, rfl⟩ := own_formM h.row
  have c1 := h'.c.cell 0
  have c2 := h'.m.cell 0
  have c3 := h'.o.cell 0
  simp at c1 c2 c3
  have hn : (c != c) = false := by simp
  have H1 := Lib.hid h'
  have H2 := Lib.hid h''
  clear h h' h''
  go_enter Tryd.func86, Tryd.ntmps86
  go_wp2_with (at_builtin; (refine wpList_append_own _ rfl (.tmp 16) (.tmp 19) 50 rfl (z + 1 + 1 + 1) 3 i0 _ 1 8 Tryd.underlying50 hi0 hz0 hz1 hz2 rfl (by omega) (.slice A xs.length cp) xs.length (ints xs) rfl H2.out.row ⟨w.heap.size + 1, 0, none⟩ 1 1 [.int .i64 th] rfl rfl ?_ ?_ ?_ ?_ ?_ ?_); (have hq := cell_litT (w.alloc (.cells #[.int .i64 th, .int .i64 c] 161)) [.int .i64 th] 3; rw [World.size_alloc] at hq; exact hq); (simp [Value.oneCell']); (unfold maxLen; omega); (omega); (simp; omega); intro v' w5 hown5 hg5 hnil5; have HO5 := Lib.hid hown5; have HG5 := Lib.hid hg5; have hb5 := H2.out.o.grown hg5 (fun h => own_blk_ne H2.out.row H2.out.o (by decide) h.symm); have hcp := hb5.cell 0; have hfp := hb5.frozen 0; have HB5 := Lib.hid hb5; obtain ⟨A5, c5, rfl⟩ := own_formM hown5; clear hown5 hg5 hnil5 hb5)
  go_ret
  have hs5 := HG5.out.size
  simp at hs5
  refine ⟨rfl, ⟨.slice A5 (xs.length + 1) c5, ?_⟩, ?_⟩
  · have hlow : ∀ g, Value.ownBlock (.slice A xs.length cp) = some g → z + 1 + 1 + 1 ≤ g := fun g hg => (World.ownsRow.lt H2.out.row g hg).1
    have k1 := (H2.out.c.grown HG5.out (fun h => by have := hlow _ h.symm; omega)).far (p := ⟨z + 1 + 1, 0, none⟩) (by simp; omega) (.slice A5 (xs.length + 1) c5)
    have k2 := (H2.out.m.grown HG5.out (fun h => by have := hlow _ h.symm; omega)).far (p := ⟨z + 1 + 1, 0, none⟩) (by simp) (.slice A5 (xs.length + 1) c5)
    refine ⟨k1, k2, by simpa using HB5.out.set_ 0 (.slice A5 (xs.length + 1) c5), ?_⟩
    refine RowAt.snoc ?_
    exact own_far HO5.out (a := ⟨z + 1 + 1, 0, none⟩) (own_blk_ne HO5.out HB5.out (by decide)) _
  · exact ((((Below.refl z w).alloc (by omega) _).alloc (by simp; omega) _).grown HG5.out (by simp; omega) (fun g hg => by have := (World.ownsRow.lt H2.out.row g hg).1; omega)).setCell (by show z ≤ z + 1 + 1; omega) _
end
end Go.Proofs.YtepoahinnfjaiaaDoor
