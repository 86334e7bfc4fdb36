/-
  The law PhaserDoes is proved here, as a walk: both texts answer alike at every phase and call. Conditions: errors.errorType is laid.
-/
import Derived.Test.YtepoahinnfjaiaaDoorPhasX
namespace Go.Proofs.YtepoahinnfjaiaaDoor
open Go.RowKit Go.Extern.Stop Go.Stop Go.Extern

/-- The call is refused. -/
theorem d_bad (o : Bool) (ph pa wa a n : Int) (w : World) (h : ¬ (PhOk ph pa wa ∧ FitsOk a n ∧ (a == 9) = false)) :
    Calls Tryd.prog 45 #[phv o ph pa wa, cav a n] w fun e w' => e = .returned (.tuple #[phv false 0 0 0, .int .i64 0, .iface 26 (.int .i64 1)]) ∧ Below w.heap.size w w' := by
  by_cases hP : PhOk ph pa wa
  · by_cases hF : FitsOk a n
    · have hA : (a == 9) = true := by
        cases hx : (a == 9)
        · exact absurd ⟨hP, hF, hx⟩ h
        · rfl
      have H := Lib.hid hP
      have F := Lib.hid hF
      clear hP hF h
      go_enter Tryd.func45, Tryd.ntmps45
      go_wp2_with (first | (go_at_call 26; refine (right_t _ _ _ _ _ H.out).mono ?_; rintro e w1 ⟨rfl, rfl⟩) | (go_at_call 46; refine (fits_t _ _ _ F.out).mono ?_; rintro e w2 ⟨rfl, rfl⟩))
      refine bodyPost_ret (v := .tuple #[phv false 0 0 0, .int .i64 0, .iface 26 (.int .i64 1)]) (by simp [results, Tryd.results45, go_sem]) rfl ⟨rfl, ?_⟩
      repeat (first | refine Below.drew ?_ | refine Below.alloc ?_ (by first | omega | (simp <;> omega)) _)
      exact Below.refl _ _
    · have H := Lib.hid hP
      have F := Lib.hid hF
      clear hP hF h
      go_enter Tryd.func45, Tryd.ntmps45
      go_wp2_with (first | (go_at_call 26; refine (right_t _ _ _ _ _ H.out).mono ?_; rintro e w1 ⟨rfl, rfl⟩) | (go_at_call 46; refine (fits_f _ _ _ F.out).mono ?_; rintro e w2 ⟨rfl, rfl⟩))
      refine bodyPost_ret (v := .tuple #[phv false 0 0 0, .int .i64 0, .iface 26 (.int .i64 1)]) (by simp [results, Tryd.results45, go_sem]) rfl ⟨rfl, ?_⟩
      repeat (first | refine Below.drew ?_ | refine Below.alloc ?_ (by first | omega | (simp <;> omega)) _)
      exact Below.refl _ _
  · have H := Lib.hid hP
    clear hP h
    go_enter Tryd.func45, Tryd.ntmps45
    go_wp2_with (first | (go_at_call 26; refine (right_f _ _ _ _ _ H.out).mono ?_; rintro e w1 ⟨rfl, rfl⟩))
    refine bodyPost_ret (v := .tuple #[phv false 0 0 0, .int .i64 0, .iface 26 (.int .i64 1)]) (by simp [results, Tryd.results45, go_sem]) rfl ⟨rfl, ?_⟩
    repeat (first | refine Below.drew ?_ | refine Below.alloc ?_ (by first | omega | (simp <;> omega)) _)
    exact Below.refl _ _
theorem p_bad (o : Bool) (ph pa wa a n : Int) (w : World) (h : ¬ (PhOk ph pa wa ∧ FitsOk a n ∧ (a == 9) = false)) :
    Calls Tryd.prog 44 #[phv o ph pa wa, cav a n] w fun e w' => e = .returned (.tuple #[phv false 0 0 0, .int .i64 0, .int .i64 1]) ∧ Below w.heap.size w w' := by
  by_cases hP : PhOk ph pa wa
  · by_cases hF : FitsOk a n
    · have hA : (a == 9) = true := by
        cases hx : (a == 9)
        · exact absurd ⟨hP, hF, hx⟩ h
        · rfl
      have H := Lib.hid hP
      have F := Lib.hid hF
      clear hP hF h
      go_enter Tryd.func44, Tryd.ntmps44
      go_wp2_with (first | (go_at_call 27; refine (pright_t _ _ _ _ _ H.out).mono ?_; rintro e w1 ⟨rfl, rfl⟩) | (go_at_call 47; refine (pfits_t _ _ _ F.out).mono ?_; rintro e w2 ⟨rfl, rfl⟩))
      refine bodyPost_ret (v := .tuple #[phv false 0 0 0, .int .i64 0, .int .i64 1]) (by simp [results, Tryd.results44, go_sem]) rfl ⟨rfl, ?_⟩
      repeat (first | refine Below.drew ?_ | refine Below.alloc ?_ (by first | omega | (simp <;> omega)) _)
      exact Below.refl _ _
    · have H := Lib.hid hP
      have F := Lib.hid hF
      clear hP hF h
      go_enter Tryd.func44, Tryd.ntmps44
      go_wp2_with (first | (go_at_call 27; refine (pright_t _ _ _ _ _ H.out).mono ?_; rintro e w1 ⟨rfl, rfl⟩) | (go_at_call 47; refine (pfits_f _ _ _ F.out).mono ?_; rintro e w2 ⟨rfl, rfl⟩))
      refine bodyPost_ret (v := .tuple #[phv false 0 0 0, .int .i64 0, .int .i64 1]) (by simp [results, Tryd.results44, go_sem]) rfl ⟨rfl, ?_⟩
      repeat (first | refine Below.drew ?_ | refine Below.alloc ?_ (by first | omega | (simp <;> omega)) _)
      exact Below.refl _ _
  · have H := Lib.hid hP
    clear hP h
    go_enter Tryd.func44, Tryd.ntmps44
    go_wp2_with (first | (go_at_call 27; refine (pright_f _ _ _ _ _ H.out).mono ?_; rintro e w1 ⟨rfl, rfl⟩))
    refine bodyPost_ret (v := .tuple #[phv false 0 0 0, .int .i64 0, .int .i64 1]) (by simp [results, Tryd.results44, go_sem]) rfl ⟨rfl, ?_⟩
    repeat (first | refine Below.drew ?_ | refine Below.alloc ?_ (by first | omega | (simp <;> omega)) _)
    exact Below.refl _ _

/-- What comes of a call: both texts come to it. -/
structure DoIs (o : Bool) (ph pa wa a n : Int) (ro : Bool) (rph rpa rwa ans err : Int) : Prop where
  prog : ∀ w, Calls Tryd.prog 45 #[phv o ph pa wa, cav a n] w fun e w' => e = .returned (.tuple #[phv ro rph rpa rwa, .int .i64 ans, errV err]) ∧ Below w.heap.size w w'
  ref : ∀ w, Calls Tryd.prog 44 #[phv o ph pa wa, cav a n] w fun e w' => e = .returned (.tuple #[phv ro rph rpa rwa, .int .i64 ans, .int .i64 err]) ∧ Below w.heap.size w w'
theorem do_is (o : Bool) (ph pa wa a n : Int) : ∃ ro rph rpa rwa ans err, DoIs o ph pa wa a n ro rph rpa rwa ans err ∧ (err = 0 ∨ err = 1) := by
  by_cases h : PhOk ph pa wa ∧ FitsOk a n ∧ (a == 9) = false
  · obtain ⟨hP, hF, hA⟩ := h
    have hP' := hP
    obtain ⟨p1, p2, p3, p4, p5, p6⟩ := hP'
    cases o
    · rcases hF with ⟨rfl, h1, h2⟩ | ⟨rfl, h1, h2⟩ | ⟨rfl | rfl | rfl | rfl, rfl⟩
      · by_cases hf : pa + n ≤ 65535
        · exact ⟨_, _, _, _, _, 0, ⟨fun w => d_regOk n ph pa wa w hP h1 h2 hf, fun w => p_regOk n ph pa wa w hP h1 h2 hf⟩, .inl rfl⟩
        · exact ⟨_, _, _, _, _, 0, ⟨fun w => d_regFull n ph pa wa w hP h1 h2 (by omega), fun w => p_regFull n ph pa wa w hP h1 h2 (by omega)⟩, .inl rfl⟩
      · by_cases hf : ph = n
        · subst hf
          exact ⟨_, _, _, _, _, 0, ⟨fun w => d_watchEq ph pa wa w hP, fun w => p_watchEq ph pa wa w hP⟩, .inl rfl⟩
        · exact ⟨_, _, _, _, _, 0, ⟨fun w => d_watchNe n ph pa wa w hP h1 h2 (by simpa using hf), fun w => p_watchNe n ph pa wa w hP h1 h2 (by simpa using hf)⟩, .inl rfl⟩
      · by_cases h0 : wa = 0
        · subst h0
          exact ⟨_, _, _, _, _, 0, ⟨fun w => d_arrNone ph pa w hP, fun w => p_arrNone ph pa w hP⟩, .inl rfl⟩
        · by_cases h1 : wa = 1
          · subst h1
            exact ⟨_, _, _, _, _, 0, ⟨fun w => d_arrLast ph pa w hP, fun w => p_arrLast ph pa w hP⟩, .inl rfl⟩
          · exact ⟨_, _, _, _, _, 0, ⟨fun w => d_arrMore ph pa wa w hP (by omega), fun w => p_arrMore ph pa wa w hP (by omega)⟩, .inl rfl⟩
      · by_cases h0 : wa = 0
        · subst h0
          exact ⟨_, _, _, _, _, 0, ⟨fun w => d_leaNone ph pa w hP, fun w => p_leaNone ph pa w hP⟩, .inl rfl⟩
        · by_cases h1 : wa = 1
          · subst h1
            by_cases h2 : pa = 1
            · subst h2
              exact ⟨_, _, _, _, _, 0, ⟨fun w => d_leaOver ph w hP, fun w => p_leaOver ph w hP⟩, .inl rfl⟩
            · exact ⟨_, _, _, _, _, 0, ⟨fun w => d_leaLast ph pa w hP (by omega), fun w => p_leaLast ph pa w hP (by omega)⟩, .inl rfl⟩
          · exact ⟨_, _, _, _, _, 0, ⟨fun w => d_leaMore ph pa wa w hP (by omega), fun w => p_leaMore ph pa wa w hP (by omega)⟩, .inl rfl⟩
      · simp at hA
      · exact ⟨_, _, _, _, _, 0, ⟨fun w => d_close ph pa wa w hP, fun w => p_close ph pa wa w hP⟩, .inl rfl⟩
    · exact ⟨_, _, _, _, _, 0, ⟨fun w => d_over a n ph pa wa w hP hF hA, fun w => p_over a n ph pa wa w hP hF hA⟩, .inl rfl⟩
  · exact ⟨_, _, _, _, _, 1, ⟨fun w => d_bad o ph pa wa a n w h, fun w => p_bad o ph pa wa a n w h⟩, .inr rfl⟩

open Classical in
noncomputable def fitsB (a n : Int) : Bool := decide (FitsOk a n)
theorem fits_any (a n : Int) (w : World) : Calls Tryd.prog 46 #[cav a n] w fun e w' => e = .returned (.bool (fitsB a n)) ∧ w' = w.alloc (cab a n) := by
  by_cases h : FitsOk a n
  · rw [show fitsB a n = true by simp [fitsB, h]]; exact fits_t a n w h
  · rw [show fitsB a n = false by simp [fitsB, h]]; exact fits_f a n w h
theorem pfits_any (a n : Int) (w : World) : Calls Tryd.prog 47 #[cav a n] w fun e w' => e = .returned (.bool (fitsB a n)) ∧ w' = w.alloc (cab a n) := by
  by_cases h : FitsOk a n
  · rw [show fitsB a n = true by simp [fitsB, h]]; exact pfits_t a n w h
  · rw [show fitsB a n = false by simp [fitsB, h]]; exact pfits_f a n w h

set_option maxRecDepth 100000 in
set_option maxHeartbeats 2000000 in
theorem law_phas (o : Bool) (ph pa wa a n : Int) (w : World) (hg : HasErr w) :
    Calls Tryd.prog 9 #[phv o ph pa wa, cav a n] w fun e w' => e = .returned (.bool true) ∧ Below w.heap.size w w' := by
  obtain ⟨ro, rph, rpa, rwa, ans, err, D, herr⟩ := do_is o ph pa wa a n
  clear herr
  go_enter Tryd.func9, Tryd.ntmps9
  go_wp2_with (first | (go_at_call 44; refine (D.ref _).mono ?_; rintro e w1 ⟨rfl, hb1⟩; have hc1 := (bcell hb1).1; have hz1 : w.heap.size + 1 < w1.heap.size := (by have := hb1.size; simp at this; omega); have hz0 : w.heap.size < w1.heap.size := (by omega)) | (go_at_call 45; refine (D.prog _).mono ?_; rintro e w2 ⟨rfl, hb2⟩))
  have hB4 : Below w.heap.size w (w2.alloc (phb ro rph rpa rwa)) := by
    have h0 : Below w.heap.size w ((w.alloc (phb o ph pa wa)).alloc (cab a n)) := ((Below.refl _ _).alloc (Nat.le_refl _) _).alloc (by simp) _
    have h1 := h0.trans (hb1.mono h0.size)
    have h1' := h1.alloc h1.size (phb ro rph rpa rwa)
    have h2 := h1'.trans (hb2.mono h1'.size)
    exact h2.alloc h2.size _
  have hP : Blk (w2.alloc (phb ro rph rpa rwa)) (w.heap.size + 1) 79 #[.int .i64 a, .int .i64 n] := by
    have h0 := Blk.new (w.alloc (phb o ph pa wa)) 79 #[.int .i64 a, .int .i64 n]
    simp only [World.size_alloc] at h0
    have h1 := (h0.below hb1 h0.lt).alloc (phb ro rph rpa rwa)
    exact (h1.below hb2 h1.lt).alloc _
  have hQ : Blk (w2.alloc (phb ro rph rpa rwa)) w1.heap.size 39 #[.bool ro, .int .i64 rph, .int .i64 rpa, .int .i64 rwa] := by
    have h1 := Blk.new w1 39 #[.bool ro, .int .i64 rph, .int .i64 rpa, .int .i64 rwa]
    exact (h1.below hb2 h1.lt).alloc _
  have hR : Blk (w2.alloc (phb ro rph rpa rwa)) w2.heap.size 39 #[.bool ro, .int .i64 rph, .int .i64 rpa, .int .i64 rwa] := Blk.new w2 39 _
  clear hb1 hb2 hc1 hz1 hz0
  have hg5 := hg.below hB4 hg.lt
  generalize (w2.alloc (phb ro rph rpa rwa)) = w5 at *
  generalize w2.heap.size = c at *
  generalize w1.heap.size = b at *
  have hP0 := hP.cell 0
  have hP1 := hP.cell 1
  have hQ0 := hQ.cell 0
  have hQ1 := hQ.cell 1
  have hQ2 := hQ.cell 2
  have hQ3 := hQ.cell 3
  have hR0 := hR.cell 0
  have hR1 := hR.cell 1
  have hR2 := hR.cell 2
  have hR3 := hR.cell 3
  simp at hP0 hP1 hQ0 hQ1 hQ2 hQ3 hR0 hR1 hR2 hR3
  have lP := hP.lt
  have lQ := hQ.lt
  have lR := hR.lt
  clear hP hQ hR hg
  go_region_held3 (fun w' => Below w5.heap.size w5 w' ∧ ∀ b o, b < w5.heap.size → w'.cell? ⟨b, o, none⟩ = w5.cell? ⟨b, o, none⟩)
    (first | exact ks_below (ks_refl _) (Below.refl _ _).drew | exact ks_below (by assumption) hb6 | exact ks_alloc (by assumption) _ | go_keep)
    ((first
      | (go_at_call 14
         refine (bare_any _ _ ?_).mono ?_
         · exact hg5.below (And.left (by assumption)) hg5.lt
         rintro e w6 ⟨rfl, hb6⟩)
      | (go_at_call 46
         refine (fits_any _ _ _).mono ?_
         rintro e w6 ⟨rfl, rfl⟩)
      | (go_at_call 47
         refine (pfits_any _ _ _).mono ?_
         rintro e w6 ⟨rfl, rfl⟩)))
  go_wp2
  go_ret
  exact ⟨rfl, ks_end hB4 (by assumption)⟩
end Go.Proofs.YtepoahinnfjaiaaDoor
