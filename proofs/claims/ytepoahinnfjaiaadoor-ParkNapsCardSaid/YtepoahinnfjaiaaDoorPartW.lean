/-
  The walks of PartChecks are proved here: part.Check, part.Levels and the reference's answer, by contracts. Conditions: errors.errorType is laid.
-/
import Derived.Test.YtepoahinnfjaiaaDoorPlace
import Derived.LoopTactic
import Derived.IntWalk
namespace Go.Proofs.YtepoahinnfjaiaaDoor
open Go.RowKit Go.Extern.Stop Go.Stop Go.Extern

theorem within_t (n lo hi : Int) (w : World) (h1 : lo ≤ n) (h2 : n ≤ hi) :
    Calls Tryd.prog 78 #[.int .i64 n, .int .i64 lo, .int .i64 hi] w fun e w' => e = .returned (.bool true) ∧ w = w' := by
  go_enter Tryd.func78, Tryd.ntmps78
  go_wp2
  go_ret
  exact ⟨rfl, rfl⟩
theorem within_f (n lo hi : Int) (w : World) (h : n < lo ∨ hi < n) :
    Calls Tryd.prog 78 #[.int .i64 n, .int .i64 lo, .int .i64 hi] w fun e w' => e = .returned (.bool false) ∧ w = w' := by
  by_cases h1 : lo ≤ n
  · have h2 : ¬ n ≤ hi := by omega
    go_enter Tryd.func78, Tryd.ntmps78
    go_wp2
    go_ret
    exact ⟨rfl, rfl⟩
  · go_enter Tryd.func78, Tryd.ntmps78
    go_wp2
    go_ret
    exact ⟨rfl, rfl⟩

/-- The least doubling. -/
structure Lev (n : Int) (L : Nat) : Prop where
  le : L ≤ 40
  top : n ≤ 2 ^ L
  low : ∀ k, k < L → (2 : Int) ^ k < n
theorem pow_mono (a b : Nat) (h : a ≤ b) : (2 : Int) ^ a ≤ 2 ^ b := by
  have := Nat.pow_le_pow_right (n := 2) (by omega) h
  exact_mod_cast this
theorem lev_ex (n : Int) : ∀ m : Nat, m ≤ 40 → n ≤ 2 ^ m → ∃ L, Lev n L := by
  intro m
  induction m with
  | zero => intro _ h; exact ⟨0, by omega, h, fun k hk => by omega⟩
  | succ m ih =>
    intro hm h
    by_cases h1 : n ≤ 2 ^ m
    · exact ih (by omega) h1
    · refine ⟨m + 1, hm, h, fun k hk => ?_⟩
      have := pow_mono k m (by omega)
      omega

theorem pow_bd (k : Nat) (h : k ≤ 40) : 1 ≤ (2 : Int) ^ k ∧ (2 : Int) ^ k ≤ 1099511627776 := by
  have h1 := pow_mono 0 k (by omega)
  have h2 := pow_mono k 40 h
  exact ⟨by simpa using h1, by simpa using h2⟩
theorem shl_is (k : Nat) (h : k ≤ 40) : wrap64 (2 ^ k) = 2 ^ k := by
  have := pow_bd k h
  exact IntWalk.wrap64_in _ (by omega)
theorem levels_ref (n : Int) (L : Nat) (w : World) (h : Lev n L) :
    Calls Tryd.prog 18 #[.int .i64 n] w fun e w' => e = .returned (.int .i64 L) ∧ w = w' := by
  have hL := h.le
  go_enter Tryd.func18, Tryd.ntmps18
  go_wp2
  go_loop [3] (fun t => ∃ k : Nat, k ≤ L ∧ t = .int .i64 k) (fun t => L - (intOf t).toNat)
  case atStart => exact ⟨0, Nat.zero_le _, rfl⟩
  case round =>
    obtain ⟨k, hk, rfl⟩ := hrel
    have hs := shl_is k (by omega)
    by_cases hlt : k < L
    · have hp := h.low k hlt
      go_wp2
      go_round
      case rel => exact ⟨k + 1, by omega, by go_num⟩
      case measure => simp [intOf]; omega
    · obtain rfl : k = L := by omega
      have hp := h.top
      go_wp2
      go_ret
      exact ⟨rfl, rfl⟩
theorem levels_calls (n : Int) (L : Nat) (w : World) (h : Lev n L) :
    Calls Tryd.prog 17 #[.int .i64 n] w fun e w' => e = .returned (.int .i64 L) ∧ w = w' := by
  have hL := h.le
  go_enter Tryd.func17, Tryd.ntmps17
  go_wp2
  go_loop [3, 4] (fun t x => ∃ k : Nat, k ≤ L ∧ t = .int .i64 k ∧ x = .int .i64 (2 ^ k)) (fun t _ => L - (intOf t).toNat)
  case atStart => exact ⟨0, Nat.zero_le _, rfl, rfl⟩
  case round =>
    obtain ⟨k, hk, rfl, rfl⟩ := hrel
    have hb := pow_bd k (by omega)
    by_cases hlt : k < L
    · have hp := h.low k hlt
      go_wp2
      go_round
      case rel => exact ⟨k + 1, by omega, by go_num, by rw [Int.pow_succ]⟩
      case measure => simp [intOf]; omega
    · obtain rfl : k = L := by omega
      have hp := h.top
      go_wp2
      go_ret
      exact ⟨rfl, rfl⟩

def PartOk (n id rounds : Int) : Prop := 1 ≤ n ∧ n ≤ 16 ∧ 0 ≤ id ∧ id < n ∧ 0 ≤ rounds ∧ rounds ≤ 20
theorem check_t (n id rounds : Int) (w : World) (h : PartOk n id rounds) :
    Calls Tryd.prog 15 #[.int .i64 n, .int .i64 id, .int .i64 rounds] w fun e w' => e = .returned .nilIface ∧ w = w' := by
  obtain ⟨h1, h2, h3, h4, h5, h6⟩ := h
  go_enter Tryd.func15, Tryd.ntmps15
  go_wp2
  go_ret
  exact ⟨rfl, rfl⟩
theorem check_f (n id rounds : Int) (w : World) (h : ¬ PartOk n id rounds) :
    Calls Tryd.prog 15 #[.int .i64 n, .int .i64 id, .int .i64 rounds] w fun e w' => e = .returned (.iface 26 (.int .i64 2)) ∧ w = w' := by
  have H := Lib.hid h
  clear h
  go_enter Tryd.func15, Tryd.ntmps15
  go_wp2
  all_goals first | (exfalso; exact H.out (by unfold PartOk; omega)) | (go_ret; exact ⟨rfl, rfl⟩)
theorem ref_t (n id rounds : Int) (w : World) (h : PartOk n id rounds) :
    Calls Tryd.prog 16 #[.int .i64 n, .int .i64 id, .int .i64 rounds] w fun e w' => e = .returned (.int .i64 0) ∧ w = w' := by
  obtain ⟨h1, h2, h3, h4, h5, h6⟩ := h
  go_enter Tryd.func16, Tryd.ntmps16
  go_wp2_with (go_at_call 78; refine (within_t _ _ _ _ (by omega) (by omega)).mono ?_; rintro e w1 ⟨rfl, rfl⟩)
  go_ret
  exact ⟨rfl, rfl⟩
theorem ref_f (n id rounds : Int) (w : World) (h : ¬ PartOk n id rounds) :
    Calls Tryd.prog 16 #[.int .i64 n, .int .i64 id, .int .i64 rounds] w fun e w' => e = .returned (.int .i64 2) ∧ w = w' := by
  unfold PartOk at h
  have H := Lib.hid h
  by_cases h1 : 1 ≤ n ∧ n ≤ 16
  · obtain ⟨h1, h1'⟩ := h1
    by_cases h2 : 0 ≤ id ∧ id < n
    · obtain ⟨h2, h2'⟩ := h2
      have h3 : rounds < 0 ∨ 20 < rounds := by omega
      have H3 := Lib.hid h3
      clear h h3
      go_enter Tryd.func16, Tryd.ntmps16
      go_wp2_with (go_at_call 78; first | (refine (within_t _ _ _ _ (by omega) (by omega)).mono ?_; rintro e w1 ⟨rfl, rfl⟩) | (refine (within_f _ _ _ _ (by have := H3.out; omega)).mono ?_; rintro e w1 ⟨rfl, rfl⟩))
      go_ret
      exact ⟨rfl, rfl⟩
    · have H3 := Lib.hid h2
      clear h h2
      go_enter Tryd.func16, Tryd.ntmps16
      go_wp2_with (go_at_call 78; first | (refine (within_t _ _ _ _ (by omega) (by omega)).mono ?_; rintro e w1 ⟨rfl, rfl⟩) | (refine (within_f _ _ _ _ (by have := H3.out; omega)).mono ?_; rintro e w1 ⟨rfl, rfl⟩))
      go_ret
      exact ⟨rfl, rfl⟩
  · have H3 := Lib.hid h1
    clear h h1
    go_enter Tryd.func16, Tryd.ntmps16
    go_wp2_with (go_at_call 78; refine (within_f _ _ _ _ (by have := H3.out; omega)).mono ?_; rintro e w1 ⟨rfl, rfl⟩)
    go_ret
    exact ⟨rfl, rfl⟩

theorem big_lit : (1099511627776 : Int) = 2 ^ 40 := by decide
set_option maxHeartbeats 1000000 in
theorem law_part (n id rounds : Int) (w : World) (hg : HasErr w) :
    Calls Tryd.prog 3 #[.int .i64 n, .int .i64 id, .int .i64 rounds] w fun e w' => e = .returned (.bool true) ∧ Below w.heap.size w w' := by
  by_cases hp : PartOk n id rounds
  · obtain ⟨L, hL⟩ := lev_ex n 40 (by omega) (by have := hp.2.1; have := pow_bd 40 (by omega); omega)
    have hn := hp.2.1
    go_enter Tryd.func3, Tryd.ntmps3
    go_wp2_with (first | (go_at_call 15; refine (check_t _ _ _ _ hp).mono ?_; rintro e w1 ⟨rfl, rfl⟩) | (go_at_call 16; refine (ref_t _ _ _ _ hp).mono ?_; rintro e w1 ⟨rfl, rfl⟩) | (go_at_call 14; refine (bare_nil _).mono ?_; rintro e w1 ⟨rfl, rfl⟩) | (go_at_call 17; refine (levels_calls _ _ _ hL).mono ?_; rintro e w1 ⟨rfl, rfl⟩) | (go_at_call 18; refine (levels_ref _ _ _ hL).mono ?_; rintro e w1 ⟨rfl, rfl⟩))
    go_ret
    exact ⟨rfl, Below.refl _ _⟩
  · by_cases hb : 1099511627776 < n
    · go_enter Tryd.func3, Tryd.ntmps3
      go_wp2_with (first | (go_at_call 15; refine (check_f _ _ _ _ hp).mono ?_; rintro e w1 ⟨rfl, rfl⟩) | (go_at_call 16; refine (ref_f _ _ _ _ hp).mono ?_; rintro e w1 ⟨rfl, rfl⟩) | (go_at_call 14; refine (bare_e _ _ hg).mono ?_; rintro e w1 ⟨rfl, hb1⟩))
      go_ret
      exact ⟨rfl, hb1⟩
    · obtain ⟨L, hL⟩ := lev_ex n 40 (by omega) (by rw [← big_lit]; omega)
      go_enter Tryd.func3, Tryd.ntmps3
      go_wp2_with (first | (go_at_call 15; refine (check_f _ _ _ _ hp).mono ?_; rintro e w1 ⟨rfl, rfl⟩) | (go_at_call 16; refine (ref_f _ _ _ _ hp).mono ?_; rintro e w1 ⟨rfl, rfl⟩) | (go_at_call 14; refine (bare_e _ _ hg).mono ?_; rintro e w1 ⟨rfl, hb1⟩) | (go_at_call 17; refine (levels_calls _ _ _ hL).mono ?_; rintro e w1 ⟨rfl, rfl⟩) | (go_at_call 18; refine (levels_ref _ _ _ hL).mono ?_; rintro e w1 ⟨rfl, rfl⟩))
      go_ret
      exact ⟨rfl, hb1⟩
end Go.Proofs.YtepoahinnfjaiaaDoor
