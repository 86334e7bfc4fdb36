/-
  The walks of PackedWords, part two: the state that a word is, and the law. Conditions: errors.errorType is laid.
-/
import Derived.Test.YtepoahinnfjaiaaDoorPackW
import Derived.Deep.RegionHeld3
import Derived.Test.YtepoahinnfjaiaaDoorErr
import Derived.Deep.DeepMust
import Derived.Test.YtepoahinnfjaiaaDoorKs
import Derived.Laws.StructEq
namespace Go.Proofs.YtepoahinnfjaiaaDoor
open Go.RowKit Go.Extern.Stop Go.Stop Go.Extern

/-- What a word is made of. -/
def ofO (w : Int) : Bool := decide (9223372036854775808 ≤ w)
def ofPh (w : Int) : Int := w / 4294967296 % 2147483648
def ofPa (w : Int) : Int := w / 65536 % 65536
def ofWa (w : Int) : Int := w % 65536
def U64 (w : Int) : Prop := 0 ≤ w ∧ w ≤ 18446744073709551615

theorem and_mask (x : Int) (k : Nat) (m : Int) (hm : m = 2 ^ k - 1) (hk : k ≤ 32) (hx : U64 x) : bits BinOp.and IntKind.u64 x m = x % 2 ^ k := by
  obtain ⟨y, rfl⟩ := Int.eq_ofNat_of_zero_le hx.1
  have h1 := hx.2
  have hp : 2 ^ k ≤ 4294967296 := Nat.pow_le_pow_right (n := 2) (i := k) (j := 32) (by omega) hk
  have hp0 : 0 < 2 ^ k := Nat.pow_pos (by omega)
  have e : m = ((2 ^ k - 1 : Nat) : Int) := by rw [hm, Int.natCast_sub (by omega)]; simp
  rw [e, u64_and_nat y (2 ^ k - 1) (by omega) (by omega), Nat.and_two_pow_sub_one_eq_mod]
  simp
theorem u64_div (x d : Int) (hd : 1 ≤ d) (hx : U64 x) : U64 (x / d) :=
  ⟨Int.ediv_nonneg hx.1 (by omega), by have h2 := hx.2; have := Int.ediv_le_self d hx.1; omega⟩
theorem of_o (x : Int) (hx : U64 x) : (x / 9223372036854775808 == 1) = ofO x := by
  obtain ⟨h0, h1⟩ := hx
  unfold ofO
  rw [Bool.eq_iff_iff]; simp; omega
theorem of_ph (x : Int) (hx : U64 x) : wrap64 (bits BinOp.and IntKind.u64 (x / 4294967296) 2147483647) = ofPh x := by
  rw [and_mask _ 31 _ (by decide) (by omega) (u64_div _ _ (by omega) hx)]
  unfold ofPh
  exact IntWalk.wrap64_in _ (by have := hx.1; omega)
theorem of_pa (x : Int) (hx : U64 x) : wrap64 (bits BinOp.and IntKind.u64 (x / 65536) 65535) = ofPa x := by
  rw [and_mask _ 16 _ (by decide) (by omega) (u64_div _ _ (by omega) hx)]
  unfold ofPa
  exact IntWalk.wrap64_in _ (by omega)
theorem of_wa (x : Int) (hx : U64 x) : wrap64 (bits BinOp.and IntKind.u64 x 65535) = ofWa x := by
  rw [and_mask _ 16 _ (by decide) (by omega) hx]
  unfold ofWa
  exact IntWalk.wrap64_in _ (by omega)
theorem pof_ph (x : Int) (hx : U64 x) : wrap64 (IntKind.u64.wrap ((IntKind.u64.wrap ((x.tmod 9223372036854775808).tdiv 65536)).tdiv 65536)) = ofPh x := by
  obtain ⟨h0, h1⟩ := hx
  unfold ofPh
  rw [IntWalk.rem_in _ _ h0, IntWalk.u64_quo (x % 9223372036854775808) _ (by omega), IntWalk.u64_quo _ _ (by omega), IntWalk.wrap64_in _ (by omega)]
  omega
theorem pof_pa (x : Int) (hx : U64 x) : wrap64 ((IntKind.u64.wrap ((x.tmod 9223372036854775808).tdiv 65536)).tmod 65536) = ofPa x := by
  obtain ⟨h0, h1⟩ := hx
  unfold ofPa
  rw [IntWalk.rem_in x _ h0, IntWalk.u64_quo _ _ (by omega), IntWalk.rem_in _ _ (by omega), IntWalk.wrap64_in _ (by omega)]
  omega
theorem pof_wa (x : Int) (hx : U64 x) : wrap64 ((x.tmod 9223372036854775808).tmod 65536) = ofWa x := by
  obtain ⟨h0, h1⟩ := hx
  unfold ofWa
  rw [IntWalk.rem_in x _ h0, IntWalk.rem_in _ _ (by omega), IntWalk.wrap64_in _ (by omega)]
  omega
theorem pof_wa' (x : Int) (hx : U64 x) : wrap64 (x.tmod 65536) = ofWa x := by
  obtain ⟨h0, h1⟩ := hx
  unfold ofWa
  rw [IntWalk.rem_in x _ h0, IntWalk.wrap64_in _ (by omega)]
theorem decO (x : Int) : decide (9223372036854775808 ≤ x) = ofO x := rfl

theorem of_t (x : Int) (w : World) (hx : U64 x) (h : PhOk (ofPh x) (ofPa x) (ofWa x)) :
    Calls Tryd.prog 25 #[.int .u64 x] w fun e w' => e = .returned (.tuple #[phv (ofO x) (ofPh x) (ofPa x) (ofWa x), .nilIface]) ∧ Below w.heap.size w w' := by
  have h' := Lib.hid h
  clear h
  go_enter Tryd.func25, Tryd.ntmps25
  go_wp2_with fail
  rw [of_o x hx, of_ph x hx, of_pa x hx, of_wa x hx]
  refine (right_t _ _ _ _ _ h'.out).mono ?_
  rintro e w2 ⟨rfl, rfl⟩
  go_wp2
  refine bodyPost_ret (v := .tuple #[phv (ofO x) (ofPh x) (ofPa x) (ofWa x), .nilIface]) (by simp [results, Tryd.results25, go_sem]) rfl ⟨rfl, ?_⟩
  repeat (refine Below.alloc ?_ (by first | omega | (simp <;> omega)) _)
  exact Below.refl _ _
theorem of_f (x : Int) (w : World) (hx : U64 x) (h : ¬ PhOk (ofPh x) (ofPa x) (ofWa x)) :
    Calls Tryd.prog 25 #[.int .u64 x] w fun e w' => e = .returned (.tuple #[phv false 0 0 0, .iface 26 (.int .i64 3)]) ∧ Below w.heap.size w w' := by
  have h' := Lib.hid h
  clear h
  go_enter Tryd.func25, Tryd.ntmps25
  go_wp2_with fail
  rw [of_o x hx, of_ph x hx, of_pa x hx, of_wa x hx]
  refine (right_f _ _ _ _ _ h'.out).mono ?_
  rintro e w2 ⟨rfl, rfl⟩
  go_wp2
  refine bodyPost_ret (v := .tuple #[phv false 0 0 0, .iface 26 (.int .i64 3)]) (by simp [results, Tryd.results25, go_sem]) rfl ⟨rfl, ?_⟩
  repeat (refine Below.alloc ?_ (by first | omega | (simp <;> omega)) _)
  exact Below.refl _ _
theorem pof_t (x : Int) (w : World) (hx : U64 x) (h : PhOk (ofPh x) (ofPa x) (ofWa x)) :
    Calls Tryd.prog 24 #[.int .u64 x] w fun e w' => e = .returned (.tuple #[phv (ofO x) (ofPh x) (ofPa x) (ofWa x), .int .i64 0]) ∧ Below w.heap.size w w' := by
  have h' := Lib.hid h
  clear h
  go_enter Tryd.func24, Tryd.ntmps24
  go_wp2_with fail
  rw [decO, pof_ph x hx, pof_pa x hx]
  first | rw [pof_wa' x hx] | rw [pof_wa x hx]
  refine (pright_t _ _ _ _ _ h'.out).mono ?_
  rintro e w2 ⟨rfl, rfl⟩
  go_wp2
  refine bodyPost_ret (v := .tuple #[phv (ofO x) (ofPh x) (ofPa x) (ofWa x), .int .i64 0]) (by simp [results, Tryd.results24, go_sem]) rfl ⟨rfl, ?_⟩
  repeat (refine Below.alloc ?_ (by first | omega | (simp <;> omega)) _)
  exact Below.refl _ _
theorem pof_f (x : Int) (w : World) (hx : U64 x) (h : ¬ PhOk (ofPh x) (ofPa x) (ofWa x)) :
    Calls Tryd.prog 24 #[.int .u64 x] w fun e w' => e = .returned (.tuple #[phv false 0 0 0, .int .i64 3]) ∧ Below w.heap.size w w' := by
  have h' := Lib.hid h
  clear h
  go_enter Tryd.func24, Tryd.ntmps24
  go_wp2_with fail
  rw [decO, pof_ph x hx, pof_pa x hx]
  first | rw [pof_wa' x hx] | rw [pof_wa x hx]
  refine (pright_f _ _ _ _ _ h'.out).mono ?_
  rintro e w2 ⟨rfl, rfl⟩
  go_wp2
  refine bodyPost_ret (v := .tuple #[phv false 0 0 0, .int .i64 3]) (by simp [results, Tryd.results24, go_sem]) rfl ⟨rfl, ?_⟩
  repeat (refine Below.alloc ?_ (by first | omega | (simp <;> omega)) _)
  exact Below.refl _ _

open Classical in
/-- Right or not, as a Bool that the walk does not lay open. -/
noncomputable def rightB (ph pa wa : Int) : Bool := decide (PhOk ph pa wa)
theorem rightB_t {ph pa wa : Int} (h : PhOk ph pa wa) : rightB ph pa wa = true := by simp [rightB, h]
theorem rightB_f {ph pa wa : Int} (h : ¬ PhOk ph pa wa) : rightB ph pa wa = false := by simp [rightB, h]
noncomputable def wW (o : Bool) (ph pa wa : Int) : Int := cond (rightB ph pa wa) (wordV o ph pa wa) 0
noncomputable def wE (ph pa wa : Int) : Int := cond (rightB ph pa wa) 0 1
noncomputable def qR (x : Int) : Bool := rightB (ofPh x) (ofPa x) (ofWa x)
noncomputable def qO (x : Int) : Bool := cond (qR x) (ofO x) false
noncomputable def qPh (x : Int) : Int := cond (qR x) (ofPh x) 0
noncomputable def qPa (x : Int) : Int := cond (qR x) (ofPa x) 0
noncomputable def qWa (x : Int) : Int := cond (qR x) (ofWa x) 0
noncomputable def qE (x : Int) : Int := cond (qR x) 0 3

theorem right_any (o : Bool) (ph pa wa : Int) (w : World) :
    Calls Tryd.prog 26 #[phv o ph pa wa] w fun e w' => e = .returned (.bool (rightB ph pa wa)) ∧ w' = w.alloc (phb o ph pa wa) := by
  by_cases h : PhOk ph pa wa
  · rw [rightB_t h]; exact right_t o ph pa wa w h
  · rw [rightB_f h]; exact right_f o ph pa wa w h
theorem pright_any (o : Bool) (ph pa wa : Int) (w : World) :
    Calls Tryd.prog 27 #[phv o ph pa wa] w fun e w' => e = .returned (.bool (rightB ph pa wa)) ∧ w' = w.alloc (phb o ph pa wa) := by
  by_cases h : PhOk ph pa wa
  · rw [rightB_t h]; exact pright_t o ph pa wa w h
  · rw [rightB_f h]; exact pright_f o ph pa wa w h
theorem word_any (o : Bool) (ph pa wa : Int) (w : World) :
    Calls Tryd.prog 23 #[phv o ph pa wa] w fun e w' => e = .returned (.tuple #[.int .u64 (wW o ph pa wa), errV (wE ph pa wa)]) ∧ Below w.heap.size w w' := by
  by_cases h : PhOk ph pa wa
  · simp only [wW, wE, rightB_t h, cond_true, errV_zero]; exact word_t o ph pa wa w h
  · simp only [wW, wE, rightB_f h, cond_false]; exact word_f o ph pa wa w h
theorem pword_any (o : Bool) (ph pa wa : Int) (w : World) :
    Calls Tryd.prog 22 #[phv o ph pa wa] w fun e w' => e = .returned (.tuple #[.int .u64 (wW o ph pa wa), .int .i64 (wE ph pa wa)]) ∧ Below w.heap.size w w' := by
  by_cases h : PhOk ph pa wa
  · simp only [wW, wE, rightB_t h, cond_true]; exact pword_t o ph pa wa w h
  · simp only [wW, wE, rightB_f h, cond_false]; exact pword_f o ph pa wa w h
theorem of_any (x : Int) (w : World) (hx : U64 x) :
    Calls Tryd.prog 25 #[.int .u64 x] w fun e w' => e = .returned (.tuple #[phv (qO x) (qPh x) (qPa x) (qWa x), errV (qE x)]) ∧ Below w.heap.size w w' := by
  by_cases h : PhOk (ofPh x) (ofPa x) (ofWa x)
  · simp only [qO, qPh, qPa, qWa, qE, qR, rightB_t h, cond_true, errV_zero]; exact of_t x w hx h
  · simp only [qO, qPh, qPa, qWa, qE, qR, rightB_f h, cond_false]; exact of_f x w hx h
theorem pof_any (x : Int) (w : World) (hx : U64 x) :
    Calls Tryd.prog 24 #[.int .u64 x] w fun e w' => e = .returned (.tuple #[phv (qO x) (qPh x) (qPa x) (qWa x), .int .i64 (qE x)]) ∧ Below w.heap.size w w' := by
  by_cases h : PhOk (ofPh x) (ofPa x) (ofWa x)
  · simp only [qO, qPh, qPa, qWa, qE, qR, rightB_t h, cond_true]; exact pof_t x w hx h
  · simp only [qO, qPh, qPa, qWa, qE, qR, rightB_f h, cond_false]; exact pof_f x w hx h

theorem eql39 (o : Bool) (ph pa wa : Int) (w : World) : (binOp .eql 39 (phv o ph pa wa) (phv o ph pa wa)).run Tryd.prog w = .ok (.bool true) w := by
  rw [run_eql_struct, run_equalIn_agg w 9999 39 _ _ (by kernel_rfl) (by kernel_rfl)]
  go_simp

set_option maxRecDepth 100000 in
set_option maxHeartbeats 2000000 in
theorem law_pack (o : Bool) (ph pa wa x : Int) (w : World) (hx : U64 x) (hg : HasErr w) :
    Calls Tryd.prog 5 #[phv o ph pa wa, .int .u64 x] w fun e w' => e = .returned (.bool true) ∧ Below w.heap.size w w' := by
  go_enter Tryd.func5, Tryd.ntmps5
  go_wp2_with (first | (go_at_call 22; refine (pword_any _ _ _ _ _).mono ?_; rintro e w1 ⟨rfl, hb1⟩; have hc1 := (bcell hb1).1) | (go_at_call 23; refine (word_any _ _ _ _ _).mono ?_; rintro e w2 ⟨rfl, hb2⟩) | (go_at_call 24; refine (pof_any _ _ hx).mono ?_; rintro e w3 ⟨rfl, hb3⟩) | (go_at_call 25; refine (of_any _ _ hx).mono ?_; rintro e w4 ⟨rfl, hb4⟩))
  have hB4 : Below w.heap.size w (w4.alloc (phb (qO x) (qPh x) (qPa x) (qWa x))) := by
    have h0 : Below w.heap.size w (w.alloc (phb o ph pa wa)) := (Below.refl _ _).alloc (Nat.le_refl _) _
    have h1 := h0.trans (hb1.mono h0.size)
    have h2 := h1.trans (hb2.mono h1.size)
    have h3 := h2.trans (hb3.mono h2.size)
    have h3' := h3.alloc h3.size (phb (qO x) (qPh x) (qPa x) (qWa x))
    have h4 := h3'.trans (hb4.mono h3'.size)
    exact h4.alloc h4.size _
  have hP : Blk (w4.alloc (phb (qO x) (qPh x) (qPa x) (qWa x))) w.heap.size 39 #[.bool o, .int .i64 ph, .int .i64 pa, .int .i64 wa] := by
    have h0 := Blk.new w 39 #[.bool o, .int .i64 ph, .int .i64 pa, .int .i64 wa]
    have l0 : w.heap.size < (w.alloc (phb o ph pa wa)).heap.size := by simp
    have h1 := h0.below hb1 l0
    have h2 := h1.below hb2 h1.lt
    have h3 := (h2.below hb3 h2.lt).alloc (phb (qO x) (qPh x) (qPa x) (qWa x))
    exact (h3.below hb4 h3.lt).alloc _
  have hQ : Blk (w4.alloc (phb (qO x) (qPh x) (qPa x) (qWa x))) w3.heap.size 39 #[.bool (qO x), .int .i64 (qPh x), .int .i64 (qPa x), .int .i64 (qWa x)] := by
    have h3 := Blk.new w3 39 #[.bool (qO x), .int .i64 (qPh x), .int .i64 (qPa x), .int .i64 (qWa x)]
    exact (h3.below hb4 h3.lt).alloc _
  have hR : Blk (w4.alloc (phb (qO x) (qPh x) (qPa x) (qWa x))) w4.heap.size 39 #[.bool (qO x), .int .i64 (qPh x), .int .i64 (qPa x), .int .i64 (qWa x)] := Blk.new w4 39 _
  clear hb1 hb2 hb3 hb4 hc1
  have hg5 := hg.below hB4 hg.lt
  generalize (w4.alloc (phb (qO x) (qPh x) (qPa x) (qWa x))) = w5 at *
  generalize w4.heap.size = c at *
  generalize w3.heap.size = b at *
  have eS : ∀ (u : World), Blk u w.heap.size 39 #[.bool o, .int .i64 ph, .int .i64 pa, .int .i64 wa] → True := fun _ _ => trivial
  have hP0 := hP.cell 0
  have hP1 := hP.cell 1
  have hP2 := hP.cell 2
  have hP3 := hP.cell 3
  have hQ0 := hQ.cell 0
  have hQ1 := hQ.cell 1
  have hQ2 := hQ.cell 2
  have hQ3 := hQ.cell 3
  have hR0 := hR.cell 0
  have hR1 := hR.cell 1
  have hR2 := hR.cell 2
  have hR3 := hR.cell 3
  simp at hP0 hP1 hP2 hP3 hQ0 hQ1 hQ2 hQ3 hR0 hR1 hR2 hR3
  have lP := hP.lt
  have lQ := hQ.lt
  have lR := hR.lt
  clear hP hQ hR eS hg
  go_region_held3 (fun w' => Below w5.heap.size w5 w' ∧ ∀ b o, b < w5.heap.size → w'.cell? ⟨b, o, none⟩ = w5.cell? ⟨b, o, none⟩)
    (first | exact ks_below (ks_refl _) (Below.refl _ _).drew | exact ks_below (by assumption) hb6 | exact ks_alloc (by assumption) _ | go_keep)
    ((first
      | (go_at_call 14
         refine (bare_any _ _ ?_).mono ?_
         · exact hg5.below (And.left (by assumption)) hg5.lt
         rintro e w6 ⟨rfl, hb6⟩)
      | (go_at_call 26
         refine (right_any _ _ _ _ _).mono ?_
         rintro e w6 ⟨rfl, rfl⟩)
      | (go_at_call 27
         refine (pright_any _ _ _ _ _).mono ?_
         rintro e w6 ⟨rfl, rfl⟩)))
  go_wp2
  go_ret
  exact ⟨rfl, ks_end hB4 (by assumption)⟩
end Go.Proofs.YtepoahinnfjaiaaDoor
