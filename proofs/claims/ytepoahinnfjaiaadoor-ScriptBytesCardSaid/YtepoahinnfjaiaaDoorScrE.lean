/-
  The walks of ScriptBytes, part five: two scripts that are the same. Conditions: the moves lie below this call's memory.
-/
import Derived.Test.YtepoahinnfjaiaaDoorScrA
import Derived.Laws.StructEq
namespace Go.Proofs.YtepoahinnfjaiaaDoor
open Go.RowKit Go.Extern.Stop Go.Stop Go.Extern

set_option maxHeartbeats 1000000 in
theorem equal_mv (A A' : Option Addr) (n c c' B B' : Nat) (l : List Mv) (w : World) (hl : l.length = n) (hr : Reads w B 2 A n (flatM l)) (hr' : Reads w B' 2 A' n (flatM l)) (_hn : n ≤ 1000) :
    Calls Tryd.prog 79 #[.slice A n c, .slice A' n c'] w fun e w' => e = .returned (.bool true) ∧ ∃ k, w' = w.drewN k := by
  have HL := Lib.hid hl
  clear hl
  go_enter Tryd.func79, Tryd.ntmps79
  go_wp2
  go_loopw [13] (fun t wr => ∃ k : Nat, k ≤ n ∧ t = .int .i64 k ∧ ∃ j, wr = w.drewN j) (fun t _ => n - (intOf t).toNat)
  case atStart => exact ⟨0, Nat.zero_le _, rfl, 0, rfl⟩
  case round =>
    obtain ⟨k, hk, rfl, j, rfl⟩ := hrel
    by_cases hlt : k < n
    · obtain ⟨ad, rfl, _, c0, c1⟩ := hr.mv HL.out hlt
      obtain ⟨ad', rfl, _, d0, d1⟩ := hr'.mv HL.out hlt
      generalize l[k]'(by rw [HL.out]; exact hlt) = v at *
      obtain ⟨th, po⟩ := v
      simp only at c0 c1 d0 d1
      go_wp2
      go_quiet (fail)
      go_wp2
      go_roundw
      case rel => exact ⟨k + 1, by omega, by go_num, _, rfl⟩
      case measure => simp [intOf]; omega
    · obtain rfl : k = n := by omega
      go_wp2
      go_ret
      exact ⟨rfl, _, rfl⟩
theorem same_calls (k n r : Int) (A A' : Option Addr) (len c c' B B' : Nat) (l : List Mv) (w : World) (hl : l.length = len) (hr : Reads w B 2 A len (flatM l)) (hr' : Reads w B' 2 A' len (flatM l)) (hB : B ≤ w.heap.size) (hB' : B' ≤ w.heap.size) (hn : len ≤ 1000) :
    Calls Tryd.prog 35 #[scv k n r A len c, scv k n r A' len c'] w fun e w' => e = .returned (.bool true) ∧ Below w.heap.size w w' := by
  have HE := Lib.hid (equal_mv A A' len c c' B B' l ((w.alloc (scb k n r A len c)).alloc (scb k n r A' len c')) hl ((hr.alloc hB _).alloc (by simp; omega) _) ((hr'.alloc hB' _).alloc (by simp; omega) _) hn)
  clear hl hr hr'
  go_enter Tryd.func35, Tryd.ntmps35
  go_wp2_with (go_at_call 79; refine HE.out.mono ?_; rintro e w1 ⟨rfl, q, rfl⟩)
  go_ret
  exact ⟨rfl, below_drewN (((Below.refl _ _).alloc (Nat.le_refl _) _).alloc (by simp) _) _⟩
end Go.Proofs.YtepoahinnfjaiaaDoor
