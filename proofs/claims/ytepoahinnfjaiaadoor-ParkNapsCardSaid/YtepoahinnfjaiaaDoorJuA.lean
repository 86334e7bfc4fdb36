/-
  The walks of JudgeChecks, part one: judge.one, an event held against what each thread said. Conditions: the two lists are rows of this call's own memory.
-/
import Derived.Test.YtepoahinnfjaiaaDoorPartW
import Derived.Test.YtepoahinnfjaiaaDoorWords
import Derived.Test.YtepoahinnfjaiaaDoorKs
import Derived.Test.YtepoahinnfjaiaaDoorJuMath
import Derived.Deep.OwnRows
namespace Go.Proofs.YtepoahinnfjaiaaDoor
open Go.RowKit Go.Extern.Stop Go.Stop Go.Extern

abbrev evv (wh wt th va : Int) : Value := .agg #[.int .i64 wh, .int .i64 wt, .int .i64 th, .int .i64 va]
abbrev rowv (b n : Nat) : Value := .slice (some ⟨b, 0, none⟩) n n

theorem one_a (wh wt th va : Int) (b c n : Nat) (w : World) (h1 : (wt != 1) = true) (h2 : (wt != 2) = true) :
    Calls Tryd.prog 82 #[evv wh wt th va, rowv b n, rowv c n] w fun e w' => e = .returned (.int .i64 1) ∧ Below w.heap.size w w' := by
  go_enter Tryd.func82, Tryd.ntmps82
  go_wp2
  go_ret
  exact ⟨rfl, (Below.refl _ _).alloc (Nat.le_refl _) _⟩
theorem one_b (wh wt th va : Int) (b c n : Nat) (w : World) (h1 : wt = 1 ∨ wt = 2) (h2 : th < 0 ∨ (n : Int) ≤ th) :
    Calls Tryd.prog 82 #[evv wh wt th va, rowv b n, rowv c n] w fun e w' => e = .returned (.int .i64 2) ∧ Below w.heap.size w w' := by
  rcases h1 with rfl | rfl
  all_goals
    rcases h2 with h2 | h2
    all_goals
      go_enter Tryd.func82, Tryd.ntmps82
      go_wp2
      go_ret
      exact ⟨rfl, (Below.refl _ _).alloc (Nat.le_refl _) _⟩

theorem rowIs_drewN {w : World} {b : Nat} {t : TypeId} {n : Nat} {f : Nat → Value} (h : w.rowIs b t n f) (k : Nat) : (w.drewN k).rowIs b t n f := h
set_option linter.unusedSectionVars false
section
variable (wh va x y : Int) (b c n t : Nat) (f g : Nat → Value) (w : World) (ht : t < n) (hn : n ≤ 16) (hb : w.rowIs b 3 n f) (hc : w.rowIs c 3 n g)
  (hx : f t = .int .i64 x) (hy : g t = .int .i64 y) (hx0 : 0 ≤ x) (hx1 : x ≤ 1000) (hy0 : 0 ≤ y) (hy1 : y ≤ 1000)
include ht hn hb hc hx hy hx0 hx1 hy0 hy1

theorem one_1ne (h : (x != y) = true) :
    Calls Tryd.prog 82 #[evv wh 1 t va, rowv b n, rowv c n] w fun e w' => e = .returned (.int .i64 10) ∧ Below w.heap.size w w' := by
  have cb := hb.cell ht
  have cc := hc.cell ht
  rw [hx] at cb
  rw [hy] at cc
  have lb := hb.lt
  have lc := hc.lt
  clear hb hc hx hy
  have t0 : (0 : Int) ≤ (t : Int) := by omega
  have t1 : (t : Int) < (n : Int) := by omega
  go_enter Tryd.func82, Tryd.ntmps82
  go_wp2
  go_quiet (fail)
  go_wp2
  go_ret
  exact ⟨rfl, below_drewN ((Below.refl _ _).alloc (Nat.le_refl _) _) _⟩
theorem one_1va (h : x = y) (h2 : (va != x + 1) = true) :
    Calls Tryd.prog 82 #[evv wh 1 t va, rowv b n, rowv c n] w fun e w' => e = .returned (.int .i64 10) ∧ Below w.heap.size w w' := by
  subst h
  have cb := hb.cell ht
  have cc := hc.cell ht
  rw [hx] at cb
  rw [hy] at cc
  have lb := hb.lt
  have lc := hc.lt
  clear hb hc hx hy
  have t0 : (0 : Int) ≤ (t : Int) := by omega
  have t1 : (t : Int) < (n : Int) := by omega
  go_enter Tryd.func82, Tryd.ntmps82
  go_wp2
  go_quiet (fail)
  go_wp2
  go_ret
  exact ⟨rfl, below_drewN ((Below.refl _ _).alloc (Nat.le_refl _) _) _⟩
theorem one_1ok (hbc : b ≠ c) (m : Nat) (hm : m ≤ b) (h : x = y) (h2 : va = x + 1) :
    Calls Tryd.prog 82 #[evv wh 1 t va, rowv b n, rowv c n] w fun e w' => e = .returned (.int .i64 0) ∧ w'.rowIs b 3 n (fun j => if j = t then .int .i64 (x + 1) else f j) ∧ w'.rowIs c 3 n g ∧ Below m w w' := by
  subst h h2
  have cb := hb.cell ht
  have cc := hc.cell ht
  have fb := hb.frozen t
  rw [hx] at cb
  rw [hy] at cc
  have lb := hb.lt
  have lc := hc.lt
  have HB := Lib.hid hb
  have HC := Lib.hid hc
  clear hb hc hx hy
  have t0 : (0 : Int) ≤ (t : Int) := by omega
  have t1 : (t : Int) < (n : Int) := by omega
  go_enter Tryd.func82, Tryd.ntmps82
  go_wp2
  go_quiet (fail)
  go_wp2
  go_ret
  exact ⟨rfl, rowIs_drewN ((HB.out.alloc _).set t _) _, rowIs_drewN ((HC.out.alloc _).setOther (by simpa using Ne.symm hbc) _) _, below_drewN (((Below.refl _ _).alloc (by omega) _).setCell (by simpa using hm) _) _⟩
theorem one_2eq (h : (x == y) = true) :
    Calls Tryd.prog 82 #[evv wh 2 t va, rowv b n, rowv c n] w fun e w' => e = .returned (.int .i64 10) ∧ Below w.heap.size w w' := by
  have cb := hb.cell ht
  have cc := hc.cell ht
  rw [hx] at cb
  rw [hy] at cc
  have lb := hb.lt
  have lc := hc.lt
  clear hb hc hx hy
  have t0 : (0 : Int) ≤ (t : Int) := by omega
  have t1 : (t : Int) < (n : Int) := by omega
  go_enter Tryd.func82, Tryd.ntmps82
  go_wp2
  go_quiet (fail)
  go_wp2
  go_ret
  exact ⟨rfl, below_drewN ((Below.refl _ _).alloc (Nat.le_refl _) _) _⟩
theorem one_2va (h : (x == y) = false) (h2 : (va != x) = true) :
    Calls Tryd.prog 82 #[evv wh 2 t va, rowv b n, rowv c n] w fun e w' => e = .returned (.int .i64 10) ∧ Below w.heap.size w w' := by
  have cb := hb.cell ht
  have cc := hc.cell ht
  rw [hx] at cb
  rw [hy] at cc
  have lb := hb.lt
  have lc := hc.lt
  clear hb hc hx hy
  have t0 : (0 : Int) ≤ (t : Int) := by omega
  have t1 : (t : Int) < (n : Int) := by omega
  go_enter Tryd.func82, Tryd.ntmps82
  go_wp2
  go_quiet (fail)
  go_wp2
  go_ret
  exact ⟨rfl, below_drewN ((Below.refl _ _).alloc (Nat.le_refl _) _) _⟩
omit ht hn hb hc hx hy hx0 hx1 hy0 hy1 in
/-- How the loop over came ends. -/
def LoopEnd (m N : Nat) (e : Ending) (w' : World) : Prop :=
  (N < n → e = .returned (.int .i64 13) ∧ Below w.heap.size w w') ∧
      (N = n → e = .returned (.int .i64 0) ∧ w'.rowIs b 3 n f ∧ w'.rowIs c 3 n (fun j => if j = t then .int .i64 (y + 1) else g j) ∧ Below m w w')
/-- The loop over came. -/
theorem one_2loop (hbc : b ≠ c) (m : Nat) (hm : m ≤ c) (h : (x == y) = false) (h2 : va = x) (F : Nat → Int) (hF : ∀ j, j < n → f j = .int .i64 (F j)) (N : Nat) (hN : N ≤ n) (hlow : ∀ j, j < N → x ≤ F j) (hend : N < n → F N < x) :
    Calls Tryd.prog 82 #[evv wh 2 t va, rowv b n, rowv c n] w (LoopEnd y b c n t f g w m N) := by
  subst h2
  have cb := hb.cell ht
  have cc := hc.cell ht
  have fc := hc.frozen t
  rw [hx] at cb
  rw [hy] at cc
  have lb := hb.lt
  have lc := hc.lt
  have HB := Lib.hid hb
  have HC := Lib.hid hc
  have HL := Lib.hid hlow
  have HE := Lib.hid hend
  have HF := Lib.hid hF
  clear hb hc hx hy hlow hend hF
  have t0 : (0 : Int) ≤ (t : Int) := by omega
  have t1 : (t : Int) < (n : Int) := by omega
  go_enter Tryd.func82, Tryd.ntmps82
  go_wp2
  go_quiet (fail)
  go_wp2
  go_loop [80, 9] (fun i _ => ∃ k : Nat, k ≤ N ∧ i = .int .i64 k) (fun i _ => N - (intOf i).toNat)
  case atStart => exact ⟨0, Nat.zero_le _, rfl⟩
  case round =>
    obtain ⟨k, hk, rfl⟩ := hrel
    by_cases hlt : k < N
    · have ck := HB.out.cell (i := k) (by omega)
      rw [HF.out k (by omega)] at ck
      have hle := HL.out k hlt
      have hkn : k < n := by omega
      go_wp2
      go_round
      case rel => exact ⟨k + 1, by omega, by go_num⟩
      case measure => simp [intOf]; omega
    · obtain rfl : k = N := by omega
      by_cases hkn : k < n
      · have ck := HB.out.cell (i := k) hkn
        rw [HF.out k hkn] at ck
        have hle := HE.out hkn
        go_wp2
        go_ret
        exact ⟨fun _ => ⟨rfl, below_drewN ((Below.refl _ _).alloc (Nat.le_refl _) _) _⟩, fun h => by omega⟩
      · go_wp2
        go_ret
        refine ⟨fun h => absurd h hkn, fun _ => ⟨rfl, rowIs_drewN ((HB.out.alloc _).setOther (by simpa using hbc) _) _, rowIs_drewN ((HC.out.alloc _).set t _) _, below_drewN (((Below.refl _ _).alloc (by omega) _).setCell (by simpa using hm) _) _⟩⟩
end
end Go.Proofs.YtepoahinnfjaiaaDoor
