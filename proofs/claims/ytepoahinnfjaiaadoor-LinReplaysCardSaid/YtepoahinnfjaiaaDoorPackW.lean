/-
  The walks of PackedWords are proved here: a phaser's state as a word and back, in the program and in the reference. Conditions: errors.errorType is laid.
-/
import Derived.Test.YtepoahinnfjaiaaDoorPartW
import Derived.Test.YtepoahinnfjaiaaDoorWords
import Derived.Laws.BitsAllLaws
import Derived.Laws.BitsLemmas
namespace Go.Proofs.YtepoahinnfjaiaaDoor
open Go.RowKit Go.Extern.Stop Go.Stop Go.Extern

def PhOk (ph pa wa : Int) : Prop := 0 ≤ ph ∧ ph ≤ 2147483647 ∧ 0 ≤ pa ∧ pa ≤ 65535 ∧ 0 ≤ wa ∧ wa ≤ pa
/-- A phase as a value. -/
abbrev phv (o : Bool) (ph pa wa : Int) : Value := .agg #[.bool o, .int .i64 ph, .int .i64 pa, .int .i64 wa]
abbrev phb (o : Bool) (ph pa wa : Int) : Obj := .cells #[.bool o, .int .i64 ph, .int .i64 pa, .int .i64 wa] 39

theorem right_t (o : Bool) (ph pa wa : Int) (w : World) (h : PhOk ph pa wa) :
    Calls Tryd.prog 26 #[phv o ph pa wa] w fun e w' => e = .returned (.bool true) ∧ w' = w.alloc (phb o ph pa wa) := by
  obtain ⟨h1, h2, h3, h4, h5, h6⟩ := h
  go_enter Tryd.func26, Tryd.ntmps26
  go_wp2
  go_ret
  exact ⟨rfl, rfl⟩
theorem right_f (o : Bool) (ph pa wa : Int) (w : World) (h : ¬ PhOk ph pa wa) :
    Calls Tryd.prog 26 #[phv o ph pa wa] w fun e w' => e = .returned (.bool false) ∧ w' = w.alloc (phb o ph pa wa) := by
  have H := Lib.hid h
  clear h
  go_enter Tryd.func26, Tryd.ntmps26
  go_wp2
  all_goals
    go_ret
    refine ⟨?_, rfl⟩
    first | rfl | (have hh : ¬ wa ≤ pa := fun h => H.out (by unfold PhOk; omega); simp [hh])
/-- The word of a phase. -/
def wordV (o : Bool) (ph pa wa : Int) : Int := (ph * 65536 + pa) * 65536 + wa + (if o then 9223372036854775808 else 0)
theorem or3 (ph pa wa : Int) (h : PhOk ph pa wa) : bits BinOp.or IntKind.u64 (bits BinOp.or IntKind.u64 wa (pa * 65536)) (ph * 4294967296) = (ph * 65536 + pa) * 65536 + wa := by
  obtain ⟨h1, h2, h3, h4, h5, h6⟩ := h
  obtain ⟨ph, rfl⟩ := Int.eq_ofNat_of_zero_le h1
  obtain ⟨pa, rfl⟩ := Int.eq_ofNat_of_zero_le h3
  obtain ⟨wa, rfl⟩ := Int.eq_ofNat_of_zero_le h5
  have e1 : bits BinOp.or IntKind.u64 (wa : Int) ((pa : Int) * 65536) = ((pa * 65536 + wa : Nat) : Int) := by
    have := u64_or_nat wa (pa * 65536) (by omega) (by omega)
    rw [show ((pa : Int) * 65536) = ((pa * 65536 : Nat) : Int) from by omega, this, Nat.or_comm, nat_join 16 _ _ (by omega) (by omega)]
  have e2 := u64_or_nat (pa * 65536 + wa) (ph * 4294967296) (by omega) (by omega)
  rw [e1, show ((ph : Int) * 4294967296) = ((ph * 4294967296 : Nat) : Int) from by omega, e2, Nat.or_comm, nat_join 32 _ _ (by omega) (by omega)]
  omega
theorem or4 (ph pa wa : Int) (h : PhOk ph pa wa) : bits BinOp.or IntKind.u64 ((ph * 65536 + pa) * 65536 + wa) 9223372036854775808 = (ph * 65536 + pa) * 65536 + wa + 9223372036854775808 := by
  obtain ⟨h1, h2, h3, h4, h5, h6⟩ := h
  obtain ⟨x, hx⟩ := Int.eq_ofNat_of_zero_le (a := (ph * 65536 + pa) * 65536 + wa) (by omega)
  have hx2 : x < 9223372036854775808 := by omega
  have e2 := u64_or_nat x 9223372036854775808 (by omega) (by omega)
  rw [hx]
  have e3 : (9223372036854775808 : Int) = ((9223372036854775808 : Nat) : Int) := rfl
  rw [e3, e2, Nat.or_comm, nat_join 63 _ _ (by decide) (by omega)]
  omega
theorem word_t (o : Bool) (ph pa wa : Int) (w : World) (h : PhOk ph pa wa) :
    Calls Tryd.prog 23 #[phv o ph pa wa] w fun e w' => e = .returned (.tuple #[.int .u64 (wordV o ph pa wa), .nilIface]) ∧ Below w.heap.size w w' := by
  have h' := Lib.hid h
  obtain ⟨h1, h2, h3, h4, h5, h6⟩ := h
  go_enter Tryd.func23, Tryd.ntmps23
  go_wp2_with (go_at_call 26; refine (right_t _ _ _ _ _ h'.out).mono ?_; rintro e w2 ⟨rfl, rfl⟩)
  all_goals
    go_ret2
    refine ⟨?_, ((Below.refl _ _).alloc (Nat.le_refl _) _).alloc (by simp) _⟩
  · have := or4 ph pa wa h'.out
    have h0 : o = true := by assumption
    simp [wordV, or3 ph pa wa h'.out, h0, this]
  · have h0 : o = false := by assumption
    simp [wordV, or3 ph pa wa h'.out, h0]
theorem word_f (o : Bool) (ph pa wa : Int) (w : World) (h : ¬ PhOk ph pa wa) :
    Calls Tryd.prog 23 #[phv o ph pa wa] w fun e w' => e = .returned (.tuple #[.int .u64 0, .iface 26 (.int .i64 1)]) ∧ Below w.heap.size w w' := by
  have h' := Lib.hid h
  clear h
  go_enter Tryd.func23, Tryd.ntmps23
  go_wp2_with (go_at_call 26; refine (right_f _ _ _ _ _ h'.out).mono ?_; rintro e w2 ⟨rfl, rfl⟩)
  go_ret2
  exact ⟨rfl, ((Below.refl _ _).alloc (Nat.le_refl _) _).alloc (by simp) _⟩

theorem pright_t (o : Bool) (ph pa wa : Int) (w : World) (h : PhOk ph pa wa) :
    Calls Tryd.prog 27 #[phv o ph pa wa] w fun e w' => e = .returned (.bool true) ∧ w' = w.alloc (phb o ph pa wa) := by
  obtain ⟨h1, h2, h3, h4, h5, h6⟩ := h
  go_enter Tryd.func27, Tryd.ntmps27
  go_wp2_with (go_at_call 78; refine (within_t _ _ _ _ (by omega) (by omega)).mono ?_; rintro e w1 ⟨rfl, rfl⟩)
  go_ret
  exact ⟨rfl, rfl⟩
theorem pright_f (o : Bool) (ph pa wa : Int) (w : World) (h : ¬ PhOk ph pa wa) :
    Calls Tryd.prog 27 #[phv o ph pa wa] w fun e w' => e = .returned (.bool false) ∧ w' = w.alloc (phb o ph pa wa) := by
  by_cases h1 : 0 ≤ ph ∧ ph ≤ 2147483647
  · obtain ⟨h1, h1'⟩ := h1
    by_cases h2 : 0 ≤ pa ∧ pa ≤ 65535
    · obtain ⟨h2, h2'⟩ := h2
      have h3 : wa < 0 ∨ pa < wa := by unfold PhOk at h; omega
      have H3 := Lib.hid h3
      clear h h3
      go_enter Tryd.func27, Tryd.ntmps27
      go_wp2_with (go_at_call 78; first | (refine (within_t _ _ _ _ (by omega) (by omega)).mono ?_; rintro e w1 ⟨rfl, rfl⟩) | (refine (within_f _ _ _ _ (by have := H3.out; omega)).mono ?_; rintro e w1 ⟨rfl, rfl⟩))
      go_ret
      exact ⟨rfl, rfl⟩
    · have H3 := Lib.hid h2
      clear h h2
      go_enter Tryd.func27, Tryd.ntmps27
      go_wp2_with (go_at_call 78; first | (refine (within_t _ _ _ _ (by omega) (by omega)).mono ?_; rintro e w1 ⟨rfl, rfl⟩) | (refine (within_f _ _ _ _ (by have := H3.out; omega)).mono ?_; rintro e w1 ⟨rfl, rfl⟩))
      go_ret
      exact ⟨rfl, rfl⟩
  · have H3 := Lib.hid h1
    clear h h1
    go_enter Tryd.func27, Tryd.ntmps27
    go_wp2_with (go_at_call 78; refine (within_f _ _ _ _ (by have := H3.out; omega)).mono ?_; rintro e w1 ⟨rfl, rfl⟩)
    go_ret
    exact ⟨rfl, rfl⟩
theorem pword_t (o : Bool) (ph pa wa : Int) (w : World) (h : PhOk ph pa wa) :
    Calls Tryd.prog 22 #[phv o ph pa wa] w fun e w' => e = .returned (.tuple #[.int .u64 (wordV o ph pa wa), .int .i64 0]) ∧ Below w.heap.size w w' := by
  have h' := Lib.hid h
  obtain ⟨h1, h2, h3, h4, h5, h6⟩ := h
  go_enter Tryd.func22, Tryd.ntmps22
  go_wp2_with (go_at_call 27; refine (pright_t _ _ _ _ _ h'.out).mono ?_; rintro e w2 ⟨rfl, rfl⟩)
  all_goals
    go_ret2
    refine ⟨?_, ((Below.refl _ _).alloc (Nat.le_refl _) _).alloc (by simp) _⟩
  · have h0 : o = true := by assumption
    trace_state
    simp [wordV, h0]
  · have h0 : o = false := by assumption
    simp [wordV, h0]
theorem pword_f (o : Bool) (ph pa wa : Int) (w : World) (h : ¬ PhOk ph pa wa) :
    Calls Tryd.prog 22 #[phv o ph pa wa] w fun e w' => e = .returned (.tuple #[.int .u64 0, .int .i64 1]) ∧ Below w.heap.size w w' := by
  have h' := Lib.hid h
  clear h
  go_enter Tryd.func22, Tryd.ntmps22
  go_wp2_with (go_at_call 27; refine (pright_f _ _ _ _ _ h'.out).mono ?_; rintro e w2 ⟨rfl, rfl⟩)
  go_ret2
  exact ⟨rfl, ((Below.refl _ _).alloc (Nat.le_refl _) _).alloc (by simp) _⟩
end Go.Proofs.YtepoahinnfjaiaaDoor
