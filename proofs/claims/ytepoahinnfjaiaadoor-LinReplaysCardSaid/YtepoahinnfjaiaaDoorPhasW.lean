/-
  The walks of PhaserDoes are proved here: which calls fit, and what comes of a call, in the program and in the reference. Conditions: errors.errorType is laid.
-/
import Derived.Test.YtepoahinnfjaiaaDoorPackX
namespace Go.Proofs.YtepoahinnfjaiaaDoor
open Go.RowKit Go.Extern.Stop Go.Stop Go.Extern

abbrev cav (a n : Int) : Value := .agg #[.int .i64 a, .int .i64 n]
abbrev cab (a n : Int) : Obj := .cells #[.int .i64 a, .int .i64 n] 79
def FitsOk (a n : Int) : Prop := (a = 6 ∧ 1 ≤ n ∧ n ≤ 65535) ∨ (a = 10 ∧ 0 ≤ n ∧ n ≤ 2147483647) ∨ ((a = 7 ∨ a = 8 ∨ a = 9 ∨ a = 11) ∧ n = 0)

theorem bool_f {b : Bool} (h : b = true → False) : Ending.returned (.bool b) = .returned (.bool false) := by
  cases b
  · rfl
  · exact (h rfl).elim
theorem bool_t {b : Bool} (h : b = true) : Ending.returned (.bool b) = .returned (.bool true) := by rw [h]
theorem fits_t (a n : Int) (w : World) (h : FitsOk a n) :
    Calls Tryd.prog 46 #[cav a n] w fun e w' => e = .returned (.bool true) ∧ w' = w.alloc (cab a n) := by
  rcases h with ⟨rfl, h1, h2⟩ | ⟨rfl, h1, h2⟩ | ⟨rfl | rfl | rfl | rfl, rfl⟩
  all_goals
    go_enter Tryd.func46, Tryd.ntmps46
    go_wp2
    go_ret
    refine ⟨bool_t ?_, rfl⟩
    first | rfl | (simp; omega)
theorem fits_f (a n : Int) (w : World) (h : ¬ FitsOk a n) :
    Calls Tryd.prog 46 #[cav a n] w fun e w' => e = .returned (.bool false) ∧ w' = w.alloc (cab a n) := by
  have H := Lib.hid h
  clear h
  go_enter Tryd.func46, Tryd.ntmps46
  go_wp2
  all_goals
    go_ret
    refine ⟨bool_f fun hb => H.out ?_, rfl⟩
    unfold FitsOk
    simp at *
    try omega
theorem pfits_t (a n : Int) (w : World) (h : FitsOk a n) :
    Calls Tryd.prog 47 #[cav a n] w fun e w' => e = .returned (.bool true) ∧ w' = w.alloc (cab a n) := by
  rcases h with ⟨rfl, h1, h2⟩ | ⟨rfl, h1, h2⟩ | ⟨rfl | rfl | rfl | rfl, rfl⟩
  all_goals
    go_enter Tryd.func47, Tryd.ntmps47
    go_wp2_with (go_at_call 78; refine (within_t _ _ _ _ (by omega) (by omega)).mono ?_; rintro e w1 ⟨rfl, rfl⟩)
    go_ret
    exact ⟨rfl, rfl⟩
theorem pfits_f (a n : Int) (w : World) (h : ¬ FitsOk a n) :
    Calls Tryd.prog 47 #[cav a n] w fun e w' => e = .returned (.bool false) ∧ w' = w.alloc (cab a n) := by
  have H := Lib.hid h
  clear h
  go_enter Tryd.func47, Tryd.ntmps47
  go_wp2_with (go_at_call 78; (refine (within_f _ _ _ _ ?_).mono ?_); (have hh := H.out; unfold FitsOk at hh; simp at *; omega); (rintro e w1 ⟨rfl, rfl⟩))
  all_goals
    go_ret
    exact ⟨rfl, rfl⟩
end Go.Proofs.YtepoahinnfjaiaaDoor
