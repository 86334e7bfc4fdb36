/-
  The walks of PhaserDoes, part two: what comes of a call, branch by branch, in the program and in the reference. Conditions: each branch's own tests. Printed by a program of this work.
-/
import Derived.Test.YtepoahinnfjaiaaDoorPhasW
import Derived.BigRegion
namespace Go.Proofs.YtepoahinnfjaiaaDoor
open Go.RowKit Go.Extern.Stop Go.Stop Go.Extern

theorem next_calls (o : Bool) (ph pa wa : Int) (w : World) (h0 : 0 ≤ ph) (h1 : ph ≤ 2147483647) :
    Calls Tryd.prog 83 #[phv o ph pa wa] w fun e w' => e = .returned (phv o ((ph + 1) % 2147483648) pa pa) ∧ w' = (w.alloc (phb o ((ph + 1) % 2147483648) pa pa)).alloc (phb o ((ph + 1) % 2147483648) pa pa) := by
  go_enter Tryd.func83, Tryd.ntmps83
  go_wp2
  exact bodyPost_ret (v := phv o ((ph + 1) % 2147483648) pa pa) (by simp [results, Tryd.results83, go_sem]) rfl ⟨rfl, rfl⟩

set_option maxHeartbeats 800000 in
theorem d_over (a n ph pa wa : Int) (w : World) (hP : PhOk ph pa wa) (hF : FitsOk a n) (hA : (a == 9) = false) :
    Calls Tryd.prog 45 #[phv true ph pa wa, cav a n] w fun e w' => e = .returned (.tuple #[phv true ph pa wa, .int .i64 (-1), .nilIface]) ∧ Below w.heap.size w w' := by
  have H := Lib.hid hP
  obtain ⟨p1, p2, p3, p4, p5, p6⟩ := hP
  have F := Lib.hid hF; clear hF
  go_enter Tryd.func45, Tryd.ntmps45
  go_wp2_with (first | (go_at_call 26; refine (right_t _ _ _ _ _ H.out).mono ?_; rintro e w1 ⟨rfl, rfl⟩) | (go_at_call 46; refine (fits_t _ _ _ F.out).mono ?_; rintro e w2 ⟨rfl, rfl⟩))
  refine bodyPost_ret (v := .tuple #[phv true ph pa wa, .int .i64 (-1), .nilIface]) (by simp [results, Tryd.results45, go_sem]) rfl ⟨rfl, ?_⟩
  repeat (first | refine Below.drew ?_ | refine Below.alloc ?_ (by first | omega | (simp <;> omega)) _)
  exact Below.refl _ _

set_option maxHeartbeats 800000 in
theorem p_over (a n ph pa wa : Int) (w : World) (hP : PhOk ph pa wa) (hF : FitsOk a n) (hA : (a == 9) = false) :
    Calls Tryd.prog 44 #[phv true ph pa wa, cav a n] w fun e w' => e = .returned (.tuple #[phv true ph pa wa, .int .i64 (-1), .int .i64 0]) ∧ Below w.heap.size w w' := by
  have H := Lib.hid hP
  obtain ⟨p1, p2, p3, p4, p5, p6⟩ := hP
  have F := Lib.hid hF; clear hF
  go_enter Tryd.func44, Tryd.ntmps44
  go_wp2_with (first | (go_at_call 27; refine (pright_t _ _ _ _ _ H.out).mono ?_; rintro e w1 ⟨rfl, rfl⟩) | (go_at_call 47; refine (pfits_t _ _ _ F.out).mono ?_; rintro e w2 ⟨rfl, rfl⟩))
  refine bodyPost_ret (v := .tuple #[phv true ph pa wa, .int .i64 (-1), .int .i64 0]) (by simp [results, Tryd.results44, go_sem]) rfl ⟨rfl, ?_⟩
  repeat (first | refine Below.drew ?_ | refine Below.alloc ?_ (by first | omega | (simp <;> omega)) _)
  exact Below.refl _ _

set_option maxHeartbeats 800000 in
theorem d_close (ph pa wa : Int) (w : World) (hP : PhOk ph pa wa)  :
    Calls Tryd.prog 45 #[phv false ph pa wa, cav 11 0] w fun e w' => e = .returned (.tuple #[phv true ph pa wa, .int .i64 0, .nilIface]) ∧ Below w.heap.size w w' := by
  have H := Lib.hid hP
  obtain ⟨p1, p2, p3, p4, p5, p6⟩ := hP
  have F := Lib.hid (show FitsOk 11 0 from .inr (.inr ⟨.inr (.inr (.inr rfl)), rfl⟩))
  go_enter Tryd.func45, Tryd.ntmps45
  go_wp2_with (first | (go_at_call 26; refine (right_t _ _ _ _ _ H.out).mono ?_; rintro e w1 ⟨rfl, rfl⟩) | (go_at_call 46; refine (fits_t _ _ _ F.out).mono ?_; rintro e w2 ⟨rfl, rfl⟩))
  refine bodyPost_ret (v := .tuple #[phv true ph pa wa, .int .i64 0, .nilIface]) (by simp [results, Tryd.results45, go_sem]) rfl ⟨rfl, ?_⟩
  repeat (first | refine Below.drew ?_ | refine Below.alloc ?_ (by first | omega | (simp <;> omega)) _)
  exact Below.refl _ _

set_option maxHeartbeats 800000 in
theorem p_close (ph pa wa : Int) (w : World) (hP : PhOk ph pa wa)  :
    Calls Tryd.prog 44 #[phv false ph pa wa, cav 11 0] w fun e w' => e = .returned (.tuple #[phv true ph pa wa, .int .i64 0, .int .i64 0]) ∧ Below w.heap.size w w' := by
  have H := Lib.hid hP
  obtain ⟨p1, p2, p3, p4, p5, p6⟩ := hP
  have F := Lib.hid (show FitsOk 11 0 from .inr (.inr ⟨.inr (.inr (.inr rfl)), rfl⟩))
  go_enter Tryd.func44, Tryd.ntmps44
  go_wp2_with (first | (go_at_call 27; refine (pright_t _ _ _ _ _ H.out).mono ?_; rintro e w1 ⟨rfl, rfl⟩) | (go_at_call 47; refine (pfits_t _ _ _ F.out).mono ?_; rintro e w2 ⟨rfl, rfl⟩))
  refine bodyPost_ret (v := .tuple #[phv true ph pa wa, .int .i64 0, .int .i64 0]) (by simp [results, Tryd.results44, go_sem]) rfl ⟨rfl, ?_⟩
  repeat (first | refine Below.drew ?_ | refine Below.alloc ?_ (by first | omega | (simp <;> omega)) _)
  exact Below.refl _ _

set_option maxHeartbeats 800000 in
theorem d_watchEq (ph pa wa : Int) (w : World) (hP : PhOk ph pa wa)  :
    Calls Tryd.prog 45 #[phv false ph pa wa, cav 10 ph] w fun e w' => e = .returned (.tuple #[phv false ph pa wa, .int .i64 (-4), .nilIface]) ∧ Below w.heap.size w w' := by
  have H := Lib.hid hP
  obtain ⟨p1, p2, p3, p4, p5, p6⟩ := hP
  have F := Lib.hid (show FitsOk 10 ph from .inr (.inl ⟨rfl, by omega, by omega⟩))
  go_enter Tryd.func45, Tryd.ntmps45
  go_wp2_with (first | (go_at_call 26; refine (right_t _ _ _ _ _ H.out).mono ?_; rintro e w1 ⟨rfl, rfl⟩) | (go_at_call 46; refine (fits_t _ _ _ F.out).mono ?_; rintro e w2 ⟨rfl, rfl⟩))
  refine bodyPost_ret (v := .tuple #[phv false ph pa wa, .int .i64 (-4), .nilIface]) (by simp [results, Tryd.results45, go_sem]) rfl ⟨rfl, ?_⟩
  repeat (first | refine Below.drew ?_ | refine Below.alloc ?_ (by first | omega | (simp <;> omega)) _)
  exact Below.refl _ _

set_option maxHeartbeats 800000 in
theorem p_watchEq (ph pa wa : Int) (w : World) (hP : PhOk ph pa wa)  :
    Calls Tryd.prog 44 #[phv false ph pa wa, cav 10 ph] w fun e w' => e = .returned (.tuple #[phv false ph pa wa, .int .i64 (-4), .int .i64 0]) ∧ Below w.heap.size w w' := by
  have H := Lib.hid hP
  obtain ⟨p1, p2, p3, p4, p5, p6⟩ := hP
  have F := Lib.hid (show FitsOk 10 ph from .inr (.inl ⟨rfl, by omega, by omega⟩))
  go_enter Tryd.func44, Tryd.ntmps44
  go_wp2_with (first | (go_at_call 27; refine (pright_t _ _ _ _ _ H.out).mono ?_; rintro e w1 ⟨rfl, rfl⟩) | (go_at_call 47; refine (pfits_t _ _ _ F.out).mono ?_; rintro e w2 ⟨rfl, rfl⟩))
  refine bodyPost_ret (v := .tuple #[phv false ph pa wa, .int .i64 (-4), .int .i64 0]) (by simp [results, Tryd.results44, go_sem]) rfl ⟨rfl, ?_⟩
  repeat (first | refine Below.drew ?_ | refine Below.alloc ?_ (by first | omega | (simp <;> omega)) _)
  exact Below.refl _ _

set_option maxHeartbeats 800000 in
theorem d_watchNe (n ph pa wa : Int) (w : World) (hP : PhOk ph pa wa) (hn0 : 0 ≤ n) (hn1 : n ≤ 2147483647) (hne : (ph == n) = false) :
    Calls Tryd.prog 45 #[phv false ph pa wa, cav 10 n] w fun e w' => e = .returned (.tuple #[phv false ph pa wa, .int .i64 ph, .nilIface]) ∧ Below w.heap.size w w' := by
  have H := Lib.hid hP
  obtain ⟨p1, p2, p3, p4, p5, p6⟩ := hP
  have F := Lib.hid (show FitsOk 10 n from .inr (.inl ⟨rfl, by omega, by omega⟩))
  go_enter Tryd.func45, Tryd.ntmps45
  go_wp2_with (first | (go_at_call 26; refine (right_t _ _ _ _ _ H.out).mono ?_; rintro e w1 ⟨rfl, rfl⟩) | (go_at_call 46; refine (fits_t _ _ _ F.out).mono ?_; rintro e w2 ⟨rfl, rfl⟩))
  refine bodyPost_ret (v := .tuple #[phv false ph pa wa, .int .i64 ph, .nilIface]) (by simp [results, Tryd.results45, go_sem]) rfl ⟨rfl, ?_⟩
  repeat (first | refine Below.drew ?_ | refine Below.alloc ?_ (by first | omega | (simp <;> omega)) _)
  exact Below.refl _ _

set_option maxHeartbeats 800000 in
theorem p_watchNe (n ph pa wa : Int) (w : World) (hP : PhOk ph pa wa) (hn0 : 0 ≤ n) (hn1 : n ≤ 2147483647) (hne : (ph == n) = false) :
    Calls Tryd.prog 44 #[phv false ph pa wa, cav 10 n] w fun e w' => e = .returned (.tuple #[phv false ph pa wa, .int .i64 ph, .int .i64 0]) ∧ Below w.heap.size w w' := by
  have H := Lib.hid hP
  obtain ⟨p1, p2, p3, p4, p5, p6⟩ := hP
  have F := Lib.hid (show FitsOk 10 n from .inr (.inl ⟨rfl, by omega, by omega⟩))
  go_enter Tryd.func44, Tryd.ntmps44
  go_wp2_with (first | (go_at_call 27; refine (pright_t _ _ _ _ _ H.out).mono ?_; rintro e w1 ⟨rfl, rfl⟩) | (go_at_call 47; refine (pfits_t _ _ _ F.out).mono ?_; rintro e w2 ⟨rfl, rfl⟩))
  go_region
  go_wp2
  refine bodyPost_ret (v := .tuple #[phv false ph pa wa, .int .i64 ph, .int .i64 0]) (by simp [results, Tryd.results44, go_sem]) rfl ⟨rfl, ?_⟩
  repeat (first | refine Below.drew ?_ | refine Below.alloc ?_ (by first | omega | (simp <;> omega)) _)
  exact Below.refl _ _

set_option maxHeartbeats 800000 in
theorem d_regFull (n ph pa wa : Int) (w : World) (hP : PhOk ph pa wa) (hn0 : 1 ≤ n) (hn1 : n ≤ 65535) (hful : 65535 < pa + n) :
    Calls Tryd.prog 45 #[phv false ph pa wa, cav 6 n] w fun e w' => e = .returned (.tuple #[phv false ph pa wa, .int .i64 (-3), .nilIface]) ∧ Below w.heap.size w w' := by
  have H := Lib.hid hP
  obtain ⟨p1, p2, p3, p4, p5, p6⟩ := hP
  have F := Lib.hid (show FitsOk 6 n from .inl ⟨rfl, by omega, by omega⟩)
  go_enter Tryd.func45, Tryd.ntmps45
  go_wp2_with (first | (go_at_call 26; refine (right_t _ _ _ _ _ H.out).mono ?_; rintro e w1 ⟨rfl, rfl⟩) | (go_at_call 46; refine (fits_t _ _ _ F.out).mono ?_; rintro e w2 ⟨rfl, rfl⟩))
  refine bodyPost_ret (v := .tuple #[phv false ph pa wa, .int .i64 (-3), .nilIface]) (by simp [results, Tryd.results45, go_sem]) rfl ⟨rfl, ?_⟩
  repeat (first | refine Below.drew ?_ | refine Below.alloc ?_ (by first | omega | (simp <;> omega)) _)
  exact Below.refl _ _

set_option maxHeartbeats 800000 in
theorem p_regFull (n ph pa wa : Int) (w : World) (hP : PhOk ph pa wa) (hn0 : 1 ≤ n) (hn1 : n ≤ 65535) (hful : 65535 < pa + n) :
    Calls Tryd.prog 44 #[phv false ph pa wa, cav 6 n] w fun e w' => e = .returned (.tuple #[phv false ph pa wa, .int .i64 (-3), .int .i64 0]) ∧ Below w.heap.size w w' := by
  have H := Lib.hid hP
  obtain ⟨p1, p2, p3, p4, p5, p6⟩ := hP
  have F := Lib.hid (show FitsOk 6 n from .inl ⟨rfl, by omega, by omega⟩)
  go_enter Tryd.func44, Tryd.ntmps44
  go_wp2_with (first | (go_at_call 27; refine (pright_t _ _ _ _ _ H.out).mono ?_; rintro e w1 ⟨rfl, rfl⟩) | (go_at_call 47; refine (pfits_t _ _ _ F.out).mono ?_; rintro e w2 ⟨rfl, rfl⟩))
  refine bodyPost_ret (v := .tuple #[phv false ph pa wa, .int .i64 (-3), .int .i64 0]) (by simp [results, Tryd.results44, go_sem]) rfl ⟨rfl, ?_⟩
  repeat (first | refine Below.drew ?_ | refine Below.alloc ?_ (by first | omega | (simp <;> omega)) _)
  exact Below.refl _ _

set_option maxHeartbeats 800000 in
theorem d_regOk (n ph pa wa : Int) (w : World) (hP : PhOk ph pa wa) (hn0 : 1 ≤ n) (hn1 : n ≤ 65535) (hful : pa + n ≤ 65535) :
    Calls Tryd.prog 45 #[phv false ph pa wa, cav 6 n] w fun e w' => e = .returned (.tuple #[phv false ph (pa + n) (wa + n), .int .i64 ph, .nilIface]) ∧ Below w.heap.size w w' := by
  have H := Lib.hid hP
  obtain ⟨p1, p2, p3, p4, p5, p6⟩ := hP
  have F := Lib.hid (show FitsOk 6 n from .inl ⟨rfl, by omega, by omega⟩)
  go_enter Tryd.func45, Tryd.ntmps45
  go_wp2_with (first | (go_at_call 26; refine (right_t _ _ _ _ _ H.out).mono ?_; rintro e w1 ⟨rfl, rfl⟩) | (go_at_call 46; refine (fits_t _ _ _ F.out).mono ?_; rintro e w2 ⟨rfl, rfl⟩))
  go_region
  go_wp2
  refine bodyPost_ret (v := .tuple #[phv false ph (pa + n) (wa + n), .int .i64 ph, .nilIface]) (by simp [results, Tryd.results45, go_sem]) rfl ⟨rfl, ?_⟩
  repeat (first | refine Below.drew ?_ | refine Below.alloc ?_ (by first | omega | (simp <;> omega)) _)
  exact Below.refl _ _

set_option maxHeartbeats 800000 in
theorem p_regOk (n ph pa wa : Int) (w : World) (hP : PhOk ph pa wa) (hn0 : 1 ≤ n) (hn1 : n ≤ 65535) (hful : pa + n ≤ 65535) :
    Calls Tryd.prog 44 #[phv false ph pa wa, cav 6 n] w fun e w' => e = .returned (.tuple #[phv false ph (pa + n) (wa + n), .int .i64 ph, .int .i64 0]) ∧ Below w.heap.size w w' := by
  have H := Lib.hid hP
  obtain ⟨p1, p2, p3, p4, p5, p6⟩ := hP
  have F := Lib.hid (show FitsOk 6 n from .inl ⟨rfl, by omega, by omega⟩)
  go_enter Tryd.func44, Tryd.ntmps44
  go_wp2_with (first | (go_at_call 27; refine (pright_t _ _ _ _ _ H.out).mono ?_; rintro e w1 ⟨rfl, rfl⟩) | (go_at_call 47; refine (pfits_t _ _ _ F.out).mono ?_; rintro e w2 ⟨rfl, rfl⟩))
  go_region
  go_wp2
  refine bodyPost_ret (v := .tuple #[phv false ph (pa + n) (wa + n), .int .i64 ph, .int .i64 0]) (by simp [results, Tryd.results44, go_sem]) rfl ⟨rfl, ?_⟩
  repeat (first | refine Below.drew ?_ | refine Below.alloc ?_ (by first | omega | (simp <;> omega)) _)
  exact Below.refl _ _

set_option maxHeartbeats 800000 in
theorem d_arrNone (ph pa : Int) (w : World) (hP : PhOk ph pa 0)  :
    Calls Tryd.prog 45 #[phv false ph pa 0, cav 7 0] w fun e w' => e = .returned (.tuple #[phv false ph pa 0, .int .i64 (-2), .nilIface]) ∧ Below w.heap.size w w' := by
  have H := Lib.hid hP
  obtain ⟨p1, p2, p3, p4, p5, p6⟩ := hP
  have F := Lib.hid (show FitsOk 7 0 from .inr (.inr ⟨.inl rfl, rfl⟩))
  go_enter Tryd.func45, Tryd.ntmps45
  go_wp2_with (first | (go_at_call 26; refine (right_t _ _ _ _ _ H.out).mono ?_; rintro e w1 ⟨rfl, rfl⟩) | (go_at_call 46; refine (fits_t _ _ _ F.out).mono ?_; rintro e w2 ⟨rfl, rfl⟩))
  refine bodyPost_ret (v := .tuple #[phv false ph pa 0, .int .i64 (-2), .nilIface]) (by simp [results, Tryd.results45, go_sem]) rfl ⟨rfl, ?_⟩
  repeat (first | refine Below.drew ?_ | refine Below.alloc ?_ (by first | omega | (simp <;> omega)) _)
  exact Below.refl _ _

set_option maxHeartbeats 800000 in
theorem p_arrNone (ph pa : Int) (w : World) (hP : PhOk ph pa 0)  :
    Calls Tryd.prog 44 #[phv false ph pa 0, cav 7 0] w fun e w' => e = .returned (.tuple #[phv false ph pa 0, .int .i64 (-2), .int .i64 0]) ∧ Below w.heap.size w w' := by
  have H := Lib.hid hP
  obtain ⟨p1, p2, p3, p4, p5, p6⟩ := hP
  have F := Lib.hid (show FitsOk 7 0 from .inr (.inr ⟨.inl rfl, rfl⟩))
  go_enter Tryd.func44, Tryd.ntmps44
  go_wp2_with (first | (go_at_call 27; refine (pright_t _ _ _ _ _ H.out).mono ?_; rintro e w1 ⟨rfl, rfl⟩) | (go_at_call 47; refine (pfits_t _ _ _ F.out).mono ?_; rintro e w2 ⟨rfl, rfl⟩))
  refine bodyPost_ret (v := .tuple #[phv false ph pa 0, .int .i64 (-2), .int .i64 0]) (by simp [results, Tryd.results44, go_sem]) rfl ⟨rfl, ?_⟩
  repeat (first | refine Below.drew ?_ | refine Below.alloc ?_ (by first | omega | (simp <;> omega)) _)
  exact Below.refl _ _

set_option maxHeartbeats 800000 in
theorem d_leaNone (ph pa : Int) (w : World) (hP : PhOk ph pa 0)  :
    Calls Tryd.prog 45 #[phv false ph pa 0, cav 8 0] w fun e w' => e = .returned (.tuple #[phv false ph pa 0, .int .i64 (-2), .nilIface]) ∧ Below w.heap.size w w' := by
  have H := Lib.hid hP
  obtain ⟨p1, p2, p3, p4, p5, p6⟩ := hP
  have F := Lib.hid (show FitsOk 8 0 from .inr (.inr ⟨.inr (.inl rfl), rfl⟩))
  go_enter Tryd.func45, Tryd.ntmps45
  go_wp2_with (first | (go_at_call 26; refine (right_t _ _ _ _ _ H.out).mono ?_; rintro e w1 ⟨rfl, rfl⟩) | (go_at_call 46; refine (fits_t _ _ _ F.out).mono ?_; rintro e w2 ⟨rfl, rfl⟩))
  refine bodyPost_ret (v := .tuple #[phv false ph pa 0, .int .i64 (-2), .nilIface]) (by simp [results, Tryd.results45, go_sem]) rfl ⟨rfl, ?_⟩
  repeat (first | refine Below.drew ?_ | refine Below.alloc ?_ (by first | omega | (simp <;> omega)) _)
  exact Below.refl _ _

set_option maxHeartbeats 800000 in
theorem p_leaNone (ph pa : Int) (w : World) (hP : PhOk ph pa 0)  :
    Calls Tryd.prog 44 #[phv false ph pa 0, cav 8 0] w fun e w' => e = .returned (.tuple #[phv false ph pa 0, .int .i64 (-2), .int .i64 0]) ∧ Below w.heap.size w w' := by
  have H := Lib.hid hP
  obtain ⟨p1, p2, p3, p4, p5, p6⟩ := hP
  have F := Lib.hid (show FitsOk 8 0 from .inr (.inr ⟨.inr (.inl rfl), rfl⟩))
  go_enter Tryd.func44, Tryd.ntmps44
  go_wp2_with (first | (go_at_call 27; refine (pright_t _ _ _ _ _ H.out).mono ?_; rintro e w1 ⟨rfl, rfl⟩) | (go_at_call 47; refine (pfits_t _ _ _ F.out).mono ?_; rintro e w2 ⟨rfl, rfl⟩))
  refine bodyPost_ret (v := .tuple #[phv false ph pa 0, .int .i64 (-2), .int .i64 0]) (by simp [results, Tryd.results44, go_sem]) rfl ⟨rfl, ?_⟩
  repeat (first | refine Below.drew ?_ | refine Below.alloc ?_ (by first | omega | (simp <;> omega)) _)
  exact Below.refl _ _

set_option maxHeartbeats 800000 in
theorem d_arrMore (ph pa wa : Int) (w : World) (hP : PhOk ph pa wa) (hw : 2 ≤ wa) :
    Calls Tryd.prog 45 #[phv false ph pa wa, cav 7 0] w fun e w' => e = .returned (.tuple #[phv false ph pa (wa - 1), .int .i64 ph, .nilIface]) ∧ Below w.heap.size w w' := by
  have H := Lib.hid hP
  obtain ⟨p1, p2, p3, p4, p5, p6⟩ := hP
  have F := Lib.hid (show FitsOk 7 0 from .inr (.inr ⟨.inl rfl, rfl⟩))
  go_enter Tryd.func45, Tryd.ntmps45
  go_wp2_with (first | (go_at_call 26; refine (right_t _ _ _ _ _ H.out).mono ?_; rintro e w1 ⟨rfl, rfl⟩) | (go_at_call 46; refine (fits_t _ _ _ F.out).mono ?_; rintro e w2 ⟨rfl, rfl⟩))
  refine bodyPost_ret (v := .tuple #[phv false ph pa (wa - 1), .int .i64 ph, .nilIface]) (by simp [results, Tryd.results45, go_sem]) rfl ⟨rfl, ?_⟩
  repeat (first | refine Below.drew ?_ | refine Below.alloc ?_ (by first | omega | (simp <;> omega)) _)
  exact Below.refl _ _

set_option maxHeartbeats 800000 in
theorem p_arrMore (ph pa wa : Int) (w : World) (hP : PhOk ph pa wa) (hw : 2 ≤ wa) :
    Calls Tryd.prog 44 #[phv false ph pa wa, cav 7 0] w fun e w' => e = .returned (.tuple #[phv false ph pa (wa - 1), .int .i64 ph, .int .i64 0]) ∧ Below w.heap.size w w' := by
  have H := Lib.hid hP
  obtain ⟨p1, p2, p3, p4, p5, p6⟩ := hP
  have F := Lib.hid (show FitsOk 7 0 from .inr (.inr ⟨.inl rfl, rfl⟩))
  go_enter Tryd.func44, Tryd.ntmps44
  go_wp2_with (first | (go_at_call 27; refine (pright_t _ _ _ _ _ H.out).mono ?_; rintro e w1 ⟨rfl, rfl⟩) | (go_at_call 47; refine (pfits_t _ _ _ F.out).mono ?_; rintro e w2 ⟨rfl, rfl⟩))
  go_region
  go_wp2
  refine bodyPost_ret (v := .tuple #[phv false ph pa (wa - 1), .int .i64 ph, .int .i64 0]) (by simp [results, Tryd.results44, go_sem]) rfl ⟨rfl, ?_⟩
  repeat (first | refine Below.drew ?_ | refine Below.alloc ?_ (by first | omega | (simp <;> omega)) _)
  exact Below.refl _ _

set_option maxHeartbeats 800000 in
theorem d_leaMore (ph pa wa : Int) (w : World) (hP : PhOk ph pa wa) (hw : 2 ≤ wa) :
    Calls Tryd.prog 45 #[phv false ph pa wa, cav 8 0] w fun e w' => e = .returned (.tuple #[phv false ph (pa - 1) (wa - 1), .int .i64 ph, .nilIface]) ∧ Below w.heap.size w w' := by
  have H := Lib.hid hP
  obtain ⟨p1, p2, p3, p4, p5, p6⟩ := hP
  have F := Lib.hid (show FitsOk 8 0 from .inr (.inr ⟨.inr (.inl rfl), rfl⟩))
  go_enter Tryd.func45, Tryd.ntmps45
  go_wp2_with (first | (go_at_call 26; refine (right_t _ _ _ _ _ H.out).mono ?_; rintro e w1 ⟨rfl, rfl⟩) | (go_at_call 46; refine (fits_t _ _ _ F.out).mono ?_; rintro e w2 ⟨rfl, rfl⟩))
  refine bodyPost_ret (v := .tuple #[phv false ph (pa - 1) (wa - 1), .int .i64 ph, .nilIface]) (by simp [results, Tryd.results45, go_sem]) rfl ⟨rfl, ?_⟩
  repeat (first | refine Below.drew ?_ | refine Below.alloc ?_ (by first | omega | (simp <;> omega)) _)
  exact Below.refl _ _

set_option maxHeartbeats 800000 in
theorem p_leaMore (ph pa wa : Int) (w : World) (hP : PhOk ph pa wa) (hw : 2 ≤ wa) :
    Calls Tryd.prog 44 #[phv false ph pa wa, cav 8 0] w fun e w' => e = .returned (.tuple #[phv false ph (pa - 1) (wa - 1), .int .i64 ph, .int .i64 0]) ∧ Below w.heap.size w w' := by
  have H := Lib.hid hP
  obtain ⟨p1, p2, p3, p4, p5, p6⟩ := hP
  have F := Lib.hid (show FitsOk 8 0 from .inr (.inr ⟨.inr (.inl rfl), rfl⟩))
  go_enter Tryd.func44, Tryd.ntmps44
  go_wp2_with (first | (go_at_call 27; refine (pright_t _ _ _ _ _ H.out).mono ?_; rintro e w1 ⟨rfl, rfl⟩) | (go_at_call 47; refine (pfits_t _ _ _ F.out).mono ?_; rintro e w2 ⟨rfl, rfl⟩))
  go_region
  go_wp2
  refine bodyPost_ret (v := .tuple #[phv false ph (pa - 1) (wa - 1), .int .i64 ph, .int .i64 0]) (by simp [results, Tryd.results44, go_sem]) rfl ⟨rfl, ?_⟩
  repeat (first | refine Below.drew ?_ | refine Below.alloc ?_ (by first | omega | (simp <;> omega)) _)
  exact Below.refl _ _

set_option maxHeartbeats 800000 in
theorem d_arrLast (ph pa : Int) (w : World) (hP : PhOk ph pa 1)  :
    Calls Tryd.prog 45 #[phv false ph pa 1, cav 7 0] w fun e w' => e = .returned (.tuple #[phv false ((ph + 1) % 2147483648) pa pa, .int .i64 ph, .nilIface]) ∧ Below w.heap.size w w' := by
  have H := Lib.hid hP
  obtain ⟨p1, p2, p3, p4, p5, p6⟩ := hP
  have F := Lib.hid (show FitsOk 7 0 from .inr (.inr ⟨.inl rfl, rfl⟩))
  go_enter Tryd.func45, Tryd.ntmps45
  go_wp2_with (first | (go_at_call 26; refine (right_t _ _ _ _ _ H.out).mono ?_; rintro e w1 ⟨rfl, rfl⟩) | (go_at_call 46; refine (fits_t _ _ _ F.out).mono ?_; rintro e w2 ⟨rfl, rfl⟩) | (go_at_call 83; refine (next_calls _ _ _ _ _ (by omega) (by omega)).mono ?_; rintro e w3 ⟨rfl, rfl⟩))
  refine bodyPost_ret (v := .tuple #[phv false ((ph + 1) % 2147483648) pa pa, .int .i64 ph, .nilIface]) (by simp [results, Tryd.results45, go_sem]) rfl ⟨rfl, ?_⟩
  repeat (first | refine Below.drew ?_ | refine Below.alloc ?_ (by first | omega | (simp <;> omega)) _)
  exact Below.refl _ _

set_option maxHeartbeats 800000 in
theorem p_arrLast (ph pa : Int) (w : World) (hP : PhOk ph pa 1)  :
    Calls Tryd.prog 44 #[phv false ph pa 1, cav 7 0] w fun e w' => e = .returned (.tuple #[phv false ((ph + 1) % 2147483648) pa pa, .int .i64 ph, .int .i64 0]) ∧ Below w.heap.size w w' := by
  have H := Lib.hid hP
  obtain ⟨p1, p2, p3, p4, p5, p6⟩ := hP
  have F := Lib.hid (show FitsOk 7 0 from .inr (.inr ⟨.inl rfl, rfl⟩))
  go_enter Tryd.func44, Tryd.ntmps44
  go_wp2_with (first | (go_at_call 27; refine (pright_t _ _ _ _ _ H.out).mono ?_; rintro e w1 ⟨rfl, rfl⟩) | (go_at_call 47; refine (pfits_t _ _ _ F.out).mono ?_; rintro e w2 ⟨rfl, rfl⟩))
  go_region
  go_wp2
  refine bodyPost_ret (v := .tuple #[phv false ((ph + 1) % 2147483648) pa pa, .int .i64 ph, .int .i64 0]) (by simp [results, Tryd.results44, go_sem]) rfl ⟨rfl, ?_⟩
  repeat (first | refine Below.drew ?_ | refine Below.alloc ?_ (by first | omega | (simp <;> omega)) _)
  exact Below.refl _ _

set_option maxHeartbeats 800000 in
theorem d_leaOver (ph : Int) (w : World) (hP : PhOk ph 1 1)  :
    Calls Tryd.prog 45 #[phv false ph 1 1, cav 8 0] w fun e w' => e = .returned (.tuple #[phv true ph 0 0, .int .i64 ph, .nilIface]) ∧ Below w.heap.size w w' := by
  have H := Lib.hid hP
  obtain ⟨p1, p2, p3, p4, p5, p6⟩ := hP
  have F := Lib.hid (show FitsOk 8 0 from .inr (.inr ⟨.inr (.inl rfl), rfl⟩))
  go_enter Tryd.func45, Tryd.ntmps45
  go_wp2_with (first | (go_at_call 26; refine (right_t _ _ _ _ _ H.out).mono ?_; rintro e w1 ⟨rfl, rfl⟩) | (go_at_call 46; refine (fits_t _ _ _ F.out).mono ?_; rintro e w2 ⟨rfl, rfl⟩))
  refine bodyPost_ret (v := .tuple #[phv true ph 0 0, .int .i64 ph, .nilIface]) (by simp [results, Tryd.results45, go_sem]) rfl ⟨rfl, ?_⟩
  repeat (first | refine Below.drew ?_ | refine Below.alloc ?_ (by first | omega | (simp <;> omega)) _)
  exact Below.refl _ _

set_option maxHeartbeats 800000 in
theorem p_leaOver (ph : Int) (w : World) (hP : PhOk ph 1 1)  :
    Calls Tryd.prog 44 #[phv false ph 1 1, cav 8 0] w fun e w' => e = .returned (.tuple #[phv true ph 0 0, .int .i64 ph, .int .i64 0]) ∧ Below w.heap.size w w' := by
  have H := Lib.hid hP
  obtain ⟨p1, p2, p3, p4, p5, p6⟩ := hP
  have F := Lib.hid (show FitsOk 8 0 from .inr (.inr ⟨.inr (.inl rfl), rfl⟩))
  go_enter Tryd.func44, Tryd.ntmps44
  go_wp2_with (first | (go_at_call 27; refine (pright_t _ _ _ _ _ H.out).mono ?_; rintro e w1 ⟨rfl, rfl⟩) | (go_at_call 47; refine (pfits_t _ _ _ F.out).mono ?_; rintro e w2 ⟨rfl, rfl⟩))
  go_region
  go_wp2
  refine bodyPost_ret (v := .tuple #[phv true ph 0 0, .int .i64 ph, .int .i64 0]) (by simp [results, Tryd.results44, go_sem]) rfl ⟨rfl, ?_⟩
  repeat (first | refine Below.drew ?_ | refine Below.alloc ?_ (by first | omega | (simp <;> omega)) _)
  exact Below.refl _ _

set_option maxHeartbeats 800000 in
theorem d_leaLast (ph pa : Int) (w : World) (hP : PhOk ph pa 1) (hp : 2 ≤ pa) :
    Calls Tryd.prog 45 #[phv false ph pa 1, cav 8 0] w fun e w' => e = .returned (.tuple #[phv false ((ph + 1) % 2147483648) (pa - 1) (pa - 1), .int .i64 ph, .nilIface]) ∧ Below w.heap.size w w' := by
  have H := Lib.hid hP
  obtain ⟨p1, p2, p3, p4, p5, p6⟩ := hP
  have F := Lib.hid (show FitsOk 8 0 from .inr (.inr ⟨.inr (.inl rfl), rfl⟩))
  go_enter Tryd.func45, Tryd.ntmps45
  go_wp2_with (first | (go_at_call 26; refine (right_t _ _ _ _ _ H.out).mono ?_; rintro e w1 ⟨rfl, rfl⟩) | (go_at_call 46; refine (fits_t _ _ _ F.out).mono ?_; rintro e w2 ⟨rfl, rfl⟩) | (go_at_call 83; refine (next_calls _ _ _ _ _ (by omega) (by omega)).mono ?_; rintro e w3 ⟨rfl, rfl⟩))
  refine bodyPost_ret (v := .tuple #[phv false ((ph + 1) % 2147483648) (pa - 1) (pa - 1), .int .i64 ph, .nilIface]) (by simp [results, Tryd.results45, go_sem]) rfl ⟨rfl, ?_⟩
  repeat (first | refine Below.drew ?_ | refine Below.alloc ?_ (by first | omega | (simp <;> omega)) _)
  exact Below.refl _ _

set_option maxHeartbeats 800000 in
theorem p_leaLast (ph pa : Int) (w : World) (hP : PhOk ph pa 1) (hp : 2 ≤ pa) :
    Calls Tryd.prog 44 #[phv false ph pa 1, cav 8 0] w fun e w' => e = .returned (.tuple #[phv false ((ph + 1) % 2147483648) (pa - 1) (pa - 1), .int .i64 ph, .int .i64 0]) ∧ Below w.heap.size w w' := by
  have H := Lib.hid hP
  obtain ⟨p1, p2, p3, p4, p5, p6⟩ := hP
  have F := Lib.hid (show FitsOk 8 0 from .inr (.inr ⟨.inr (.inl rfl), rfl⟩))
  go_enter Tryd.func44, Tryd.ntmps44
  go_wp2_with (first | (go_at_call 27; refine (pright_t _ _ _ _ _ H.out).mono ?_; rintro e w1 ⟨rfl, rfl⟩) | (go_at_call 47; refine (pfits_t _ _ _ F.out).mono ?_; rintro e w2 ⟨rfl, rfl⟩))
  go_region
  go_wp2
  refine bodyPost_ret (v := .tuple #[phv false ((ph + 1) % 2147483648) (pa - 1) (pa - 1), .int .i64 ph, .int .i64 0]) (by simp [results, Tryd.results44, go_sem]) rfl ⟨rfl, ?_⟩
  repeat (first | refine Below.drew ?_ | refine Below.alloc ?_ (by first | omega | (simp <;> omega)) _)
  exact Below.refl _ _
end Go.Proofs.YtepoahinnfjaiaaDoor
