/- LinPoints: two rows of the same points are equal (slices.Equal, function 8). Conditions: the points lie in memory. -/
import Derived.Test.YthnbbgmajdjgeaaDoorLpA
import Derived.Lib.Hide
import Derived.Laws.StructEq
namespace Go.Proofs.YthnbbgmajdjgeaaDoor
open Go.RowKit Go.Extern.Stop Go.Stop Go.Extern

set_option maxHeartbeats 1000000 in
theorem equal_pt (A A' : Option Addr) (n c c' B B' : Nat) (l : List Pt) (w : World) (hl : l.length = n) (hr : Reads w B 4 A n (flatP l)) (hr' : Reads w B' 4 A' n (flatP l)) (_hn : n ≤ 100000) :
    Calls Tryd.prog 8 #[.slice A n c, .slice A' n c'] w fun e w' => e = .returned (.bool true) ∧ ∃ k, w' = w.drewN k := by
  have HL := Lib.hid hl
  clear hl
  go_enter Tryd.func8, Tryd.ntmps8
  go_wp2
  go_loopw [13] (fun t wr => ∃ k : Nat, k ≤ n ∧ t = .int .i64 k ∧ ∃ j, wr = w.drewN j) (fun t _ => n - (intOf t).toNat)
  case atStart => exact ⟨0, Nat.zero_le _, rfl, 0, rfl⟩
  case round =>
    obtain ⟨k, hk, rfl, j, rfl⟩ := hrel
    by_cases hlt : k < n
    · obtain ⟨ad, rfl, _, c0, c1, c2, c3⟩ := hr.pt HL.out hlt
      obtain ⟨ad', rfl, _, d0, d1, d2, d3⟩ := hr'.pt HL.out hlt
      generalize l[k]'(by rw [HL.out]; exact hlt) = v at *
      obtain ⟨wh, th, ca, la⟩ := v
      simp only at c0 c1 c2 c3 d0 d1 d2 d3
      go_wp2
      go_quiet (fail)
      go_wp2
      go_roundw
      case rel => exact ⟨k + 1, by omega, by go_num, _, rfl⟩
      case measure => simp [intOf]; omega
    · obtain rfl : k = n := by omega
      go_wp2
      go_ret
      exact ⟨rfl, _, rfl⟩
end Go.Proofs.YthnbbgmajdjgeaaDoor
