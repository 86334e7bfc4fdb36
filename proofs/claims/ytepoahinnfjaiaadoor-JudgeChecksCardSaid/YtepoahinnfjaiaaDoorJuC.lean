/-
  The walks of JudgeChecks, part three: the reference's Judge by the plain machine. Conditions: the events lie below this call's memory.
-/
import Derived.Test.YtepoahinnfjaiaaDoorJuB
import Derived.Test.YtepoahinnfjaiaaDoorMapI
namespace Go.Proofs.YtepoahinnfjaiaaDoor
open Go.RowKit Go.Extern.Stop Go.Stop Go.Extern

theorem zero3 (w : World) : (zeroValue 3).run Tryd.prog w = .ok (.int .i64 0) w := by kernel_rfl
/-- What the map said holds. -/
def sfun (S : Nat → Nat) (t : Int) : Int := if t < 0 then 0 else ((S t.toNat : Nat) : Int)
theorem sfun_nat (S : Nat → Nat) (t : Nat) : sfun S (t : Int) = ((S t : Nat) : Int) := by
  unfold sfun; rw [if_neg (by omega), Int.toNat_natCast]
theorem sfun_upd (S : Nat → Nat) (t : Nat) : (fun x : Int => if x = (t : Int) then ((S t : Nat) : Int) + 1 else sfun S x) = sfun (jupd S t) := by
  funext x
  unfold sfun jupd
  by_cases h : x < 0
  · rw [if_neg (by omega), if_pos h, if_pos h]
  · rw [if_neg h, if_neg h]
    by_cases hx : x = (t : Int)
    · subst hx; simp
    · rw [if_neg hx, if_neg (by omega)]
theorem good_calls (w : World) : Calls Tryd.prog 81 #[] w fun e w' => e = .returned (.agg #[.int .i64 0, .int .i64 (-1)]) ∧ w' = w.alloc (.cells #[.int .i64 0, .int .i64 (-1)] 68) := by
  go_enter Tryd.func81, Tryd.ntmps81
  go_wp2
  exact bodyPost_ret (v := .agg #[.int .i64 0, .int .i64 (-1)]) (by simp [results, Tryd.results81, go_sem]) rfl ⟨rfl, rfl⟩
theorem bareF_calls (n : Int) (w : World) : Calls Tryd.prog 80 #[.int .i64 n] w fun e w' => e = .returned (.agg #[.int .i64 n, .int .i64 (-1)]) ∧ w' = w.alloc (.cells #[.int .i64 n, .int .i64 (-1)] 68) := by
  go_enter Tryd.func80, Tryd.ntmps80
  go_wp2
  exact bodyPost_ret (v := .agg #[.int .i64 n, .int .i64 (-1)]) (by simp [results, Tryd.results80, go_sem]) rfl ⟨rfl, rfl⟩
def JudgeEnd (n : Nat) (l : List Ev) (w : World) (e : Ending) (w' : World) : Prop :=
  e = .returned (.agg #[.int .i64 (jrun n 0 (fun _ => 0) l).1, .int .i64 (jrun n 0 (fun _ => 0) l).2]) ∧ Below w.heap.size w w'

set_option maxRecDepth 100000 in
set_option maxHeartbeats 4000000 in
theorem judge_ok (n : Nat) (hn1 : 1 ≤ n) (hn : n ≤ 16) (A : Option Addr) (len cap B : Nat) (l : List Ev) (w : World) (hl : l.length = len) (hlen : len ≤ 200) (hr : Reads w B 4 A len (flatE l)) (hB : B ≤ w.heap.size) :
    Calls Tryd.prog 38 #[.slice A len cap, .int .i64 n] w (JudgeEnd n l w) := by
  have hmm := @run_makeMap Tryd.prog
  go_enter Tryd.func38, Tryd.ntmps38
  go_wp2_with (go_at_call 78; refine (within_t _ _ _ _ (by omega) (by omega)).mono ?_; rintro e w1 ⟨rfl, rfl⟩)
  go_loopw [17] (fun i wr => ∃ (k : Nat) (S : Nat → Nat), k ≤ len ∧ i = .int .i64 k ∧ MapIs 3 .i64 wr (w.heap.size + 1) k (sfun S) ∧ Blk wr w.heap.size 68 #[.int .i64 0, .int .i64 0] ∧ (∀ t, S t ≤ k) ∧ jrun n 0 (fun _ => 0) l = jrun n k S (l.drop k) ∧ Below w.heap.size w wr) (fun i _ => len - (intOf i).toNat)
  case atStart =>
    refine ⟨0, fun _ => 0, Nat.zero_le _, rfl, ?_, ?_, fun _ => Nat.le_refl _, rfl, ?_⟩
    · have := MapIs.made (e := 3) (q := .i64) (w.alloc (.cells #[.int .i64 0, .int .i64 0] 68))
      simp only [World.size_alloc] at this
      exact this.congr fun t _ => by simp [sfun]
    · exact (Blk.new w 68 #[.int .i64 0, .int .i64 0]).alloc _
    · exact ((Below.refl _ _).alloc (Nat.le_refl _) _).alloc (by simp) _
  case round =>
    obtain ⟨k, S, hk, rfl, hM, hR, hS, hj, hbel⟩ := hrel
    have HJ := Lib.hid hj
    have HM := Lib.hid hM
    have HR := Lib.hid hR
    have HS := Lib.hid hS
    have HL := Lib.hid hl
    clear hj hM hR hS hl
    have hwr : w.heap.size + 1 < wr.heap.size := HM.out.lt
    by_cases hlt : k < len
    · obtain ⟨ad, rfl, hadB, c0, c1, c2, c3⟩ := (hr.below (hbel.mono hB)).ev HL.out hlt
      have hlk : k < l.length := by rw [HL.out]; exact hlt
      have HD := Lib.hid (List.drop_eq_getElem_cons hlk)
      have r0 := HR.out.cell 0
      have r1 := HR.out.cell 1
      have f0 := HR.out.frozen 0
      have f1 := HR.out.frozen 1
      simp at r0 r1
      have hz0 : w.heap.size < wr.heap.size := by omega
      generalize hv : l[k] = v at *
      obtain ⟨wh, wt, th, va⟩ := v
      simp only at c0 c1 c2 c3
      clear hv
      by_cases h1 : wt = 1 ∨ wt = 2
      · by_cases h2 : th < 0 ∨ (n : Int) ≤ th
        · have HZ := Lib.hid (show jcode n S ⟨wh, wt, th, va⟩ = 2 from by
            unfold jcode; simp only
            rw [if_neg (by omega), if_pos h2])
          have h2' := Lib.hid h2
          clear h2
          rcases h1 with rfl | rfl
          · go_wp2_with (go_at_call 78; refine (within_f _ _ _ _ (by have := h2'.out; omega)).mono ?_; rintro e w1 ⟨rfl, rfl⟩)
            refine bodyPost_ret (v := .agg #[.int .i64 2, .int .i64 k]) (by simp [results, Tryd.results38, go_sem, r0, r1, hz0]) rfl ⟨?_, ?_⟩
            · rw [HJ.out, HD.out, jrun_bad (by rw [HZ.out]; omega), HZ.out]
            · exact ((hbel.setCell (p := ⟨w.heap.size, 0, none⟩) (Nat.le_refl _) _).setCell (p := ⟨w.heap.size, 1, none⟩) (Nat.le_refl _) _).alloc (by simpa using hbel.size) _
          · go_wp2_with (go_at_call 78; refine (within_f _ _ _ _ (by have := h2'.out; omega)).mono ?_; rintro e w1 ⟨rfl, rfl⟩)
            refine bodyPost_ret (v := .agg #[.int .i64 2, .int .i64 k]) (by simp [results, Tryd.results38, go_sem, r0, r1, hz0]) rfl ⟨?_, ?_⟩
            · rw [HJ.out, HD.out, jrun_bad (by rw [HZ.out]; omega), HZ.out]
            · exact ((hbel.setCell (p := ⟨w.heap.size, 0, none⟩) (Nat.le_refl _) _).setCell (p := ⟨w.heap.size, 1, none⟩) (Nat.le_refl _) _).alloc (by simpa using hbel.size) _
        · obtain ⟨t, rfl⟩ := Int.eq_ofNat_of_zero_le (a := th) (by omega)
          have ht : t < n := by omega
          have hSt := HS.out t
          have hlook := (HM.out.alloc (.cells #[.int .i64 wh, .int .i64 wt, .int .i64 t, .int .i64 va] 143)).look Tryd.underlying141 Tryd.underlying3 (zero3 _) (t : Int) (wfI_in (by omega) (by omega))
          rw [sfun_nat] at hlook
          obtain ⟨wu, hupd, hMu, hgu⟩ := (HM.out.alloc (.cells #[.int .i64 wh, .int .i64 wt, .int .i64 t, .int .i64 va] 143)).store Tryd.underlying141 Tryd.underlying3 (by unfold maxLen; omega) (t : Int) (((S t : Nat) : Int) + 1) (wfI_in (by omega) (by omega)) (WalkArith.wf_i64 (by omega))
          generalize hx : ((S t : Nat) : Int) = x at *
          have hx0 : 0 ≤ x := by omega
          have hx1 : x ≤ 200 := by omega
          clear h2
          rcases h1 with rfl | rfl
          · by_cases h3 : S t % 2 = 1
            · have HZ := Lib.hid (show jcode n S ⟨wh, 1, (t : Int), va⟩ = 10 from by
                unfold jcode; simp only [Int.toNat_natCast]
                rw [if_neg (by omega), if_neg (by omega), if_pos (.inl (by omega))])
              have hpar : x % 2 = 1 := by omega
              clear h3 hx
              go_wp2_with (go_at_call 78; refine (within_t _ _ _ _ (by omega) (by omega)).mono ?_; rintro e w1 ⟨rfl, rfl⟩)
              refine bodyPost_ret (v := .agg #[.int .i64 10, .int .i64 k]) (by simp [results, Tryd.results38, go_sem, r0, r1, hz0]) rfl ⟨?_, ?_⟩
              · rw [HJ.out, HD.out, jrun_bad (by rw [HZ.out]; omega), HZ.out]
              · exact ((hbel.setCell (p := ⟨w.heap.size, 0, none⟩) (Nat.le_refl _) _).setCell (p := ⟨w.heap.size, 1, none⟩) (Nat.le_refl _) _).alloc (by simpa using hbel.size) _
            · have hpar : x % 2 = 0 := by omega
              by_cases h4 : va = x / 2 + 1
              · subst h4
                have HZ := Lib.hid (show jcode n S ⟨wh, 1, (t : Int), x / 2 + 1⟩ = 0 from by
                  unfold jcode; simp only [Int.toNat_natCast]
                  rw [if_neg (by omega), if_neg (by omega), if_neg (by omega), if_neg (by rintro ⟨h, _⟩; omega)])
                have HX := Lib.hid hx
                clear h3 hx
                go_wp2_with (go_at_call 78; refine (within_t _ _ _ _ (by omega) (by omega)).mono ?_; rintro e w1 ⟨rfl, rfl⟩)
                go_loop [61, 9] (fun i _ => ∃ j : Nat, j ≤ n ∧ i = .int .i64 j) (fun i _ => n - (intOf i).toNat)
                case atStart => exact ⟨0, Nat.zero_le _, rfl⟩
                case round =>
                  obtain ⟨j, hjn, rfl⟩ := hrel
                  by_cases hlj : j < n
                  · go_wp2
                    go_round
                    case rel => exact ⟨j + 1, by omega, by go_num⟩
                    case measure => simp [intOf]; omega
                  · obtain rfl : j = n := by omega
                    go_wp2
                    go_roundw
                    case rel =>
                      refine ⟨k + 1, jupd S t, by omega, by go_num, ?_, ?_, fun j => ?_, ?_, ?_⟩
                      · rw [← HX.out, sfun_upd] at hMu; exact hMu
                      · exact (HR.out.alloc _).grown hgu (by simp)
                      · have := HS.out j
                        unfold jupd
                        split <;> omega
                      · rw [HJ.out, HD.out, jrun_ok HZ.out, Int.toNat_natCast]
                      · exact (hbel.alloc hbel.size _).grown hgu (by have := hbel.size; simp; omega) (fun g hg => by cases hg; omega)
                    case measure => simp [intOf]; omega
              · have h5 : (va != x / 2 + 1) = true := by simpa using h4
                have HZ := Lib.hid (show jcode n S ⟨wh, 1, (t : Int), va⟩ = 10 from by
                  unfold jcode; simp only [Int.toNat_natCast]
                  rw [if_neg (by omega), if_neg (by omega), if_pos (.inr (by omega))])
                clear h3 hx h4
                go_wp2_with (go_at_call 78; refine (within_t _ _ _ _ (by omega) (by omega)).mono ?_; rintro e w1 ⟨rfl, rfl⟩)
                refine bodyPost_ret (v := .agg #[.int .i64 10, .int .i64 k]) (by simp [results, Tryd.results38, go_sem, r0, r1, hz0]) rfl ⟨?_, ?_⟩
                · rw [HJ.out, HD.out, jrun_bad (by rw [HZ.out]; omega), HZ.out]
                · exact ((hbel.setCell (p := ⟨w.heap.size, 0, none⟩) (Nat.le_refl _) _).setCell (p := ⟨w.heap.size, 1, none⟩) (Nat.le_refl _) _).alloc (by simpa using hbel.size) _
          · by_cases h3 : S t % 2 = 0
            · have HZ := Lib.hid (show jcode n S ⟨wh, 2, (t : Int), va⟩ = 10 from by
                unfold jcode; simp only [Int.toNat_natCast]
                rw [if_neg (by omega), if_neg (by omega), if_pos (.inl (by omega))])
              have hpar : x % 2 = 0 := by omega
              clear h3 hx
              go_wp2_with (go_at_call 78; refine (within_t _ _ _ _ (by omega) (by omega)).mono ?_; rintro e w1 ⟨rfl, rfl⟩)
              refine bodyPost_ret (v := .agg #[.int .i64 10, .int .i64 k]) (by simp [results, Tryd.results38, go_sem, r0, r1, hz0]) rfl ⟨?_, ?_⟩
              · rw [HJ.out, HD.out, jrun_bad (by rw [HZ.out]; omega), HZ.out]
              · exact ((hbel.setCell (p := ⟨w.heap.size, 0, none⟩) (Nat.le_refl _) _).setCell (p := ⟨w.heap.size, 1, none⟩) (Nat.le_refl _) _).alloc (by simpa using hbel.size) _
            · have hpar : x % 2 = 1 := by omega
              by_cases h4 : va = x / 2 + 1
              · subst h4
                have HX := Lib.hid hx
                obtain ⟨N, hN, hlow, hend⟩ := first_low (fun j => sfun S j) (x + 1 - 1) n
                have HL2 := Lib.hid hlow
                have HE2 := Lib.hid hend
                clear hlow hend
                have HK := Lib.hid (fun (j : Nat) (hj : j < n) => (HM.out.alloc (.cells #[.int .i64 wh, .int .i64 2, .int .i64 t, .int .i64 (x / 2 + 1)] 143)).look Tryd.underlying141 Tryd.underlying3 (zero3 _) (j : Int) (wfI_in (by omega) (by omega)))
                clear h3 hx
                go_wp2_with (go_at_call 78; refine (within_t _ _ _ _ (by omega) (by omega)).mono ?_; rintro e w1 ⟨rfl, rfl⟩)
                go_loop [61, 9] (fun i _ => ∃ j : Nat, j ≤ N ∧ i = .int .i64 j) (fun i _ => N - (intOf i).toNat)
                case atStart => exact ⟨0, Nat.zero_le _, rfl⟩
                case round =>
                  obtain ⟨j, hjn, rfl⟩ := hrel
                  by_cases hlj : j < N
                  · have hjl := HK.out j (by omega)
                    have hle := HL2.out j hlj
                    have hjlt : j < n := by omega
                    go_wp2
                    go_round
                    case rel => exact ⟨j + 1, by omega, by go_num⟩
                    case measure => simp [intOf]; omega
                  · obtain rfl : j = N := by omega
                    by_cases hjn2 : j < n
                    · have hjl := HK.out j hjn2
                      have hle := HE2.out hjn2
                      have hle2 : sfun S (j : Int) < 2 * (x / 2 + 1) - 1 := by omega
                      have HZ := Lib.hid (show jcode n S ⟨wh, 2, (t : Int), x / 2 + 1⟩ = 13 from by
                        have := HX.out
                        rw [sfun_nat] at hle2
                        unfold jcode; simp only [Int.toNat_natCast]
                        rw [if_neg (by omega), if_neg (by omega), if_neg (by omega), if_pos ⟨trivial, j, hjn2, hle2⟩])
                      clear hle
                      go_wp2
                      refine bodyPost_ret (v := .agg #[.int .i64 13, .int .i64 k]) (by simp [results, Tryd.results38, go_sem, r0, r1, hz0]) rfl ⟨?_, ?_⟩
                      · rw [HJ.out, HD.out, jrun_bad (by rw [HZ.out]; omega), HZ.out]
                      · exact ((hbel.setCell (p := ⟨w.heap.size, 0, none⟩) (Nat.le_refl _) _).setCell (p := ⟨w.heap.size, 1, none⟩) (Nat.le_refl _) _).alloc (by simpa using hbel.size) _
                    · obtain rfl : j = n := by omega
                      have HZ := Lib.hid (show jcode j S ⟨wh, 2, (t : Int), x / 2 + 1⟩ = 0 from by
                        have := HX.out
                        unfold jcode; simp only [Int.toNat_natCast]
                        rw [if_neg (by omega), if_neg (by omega), if_neg (by omega), if_neg]
                        rintro ⟨_, i, hi, hl⟩
                        have h2 := HL2.out i hi
                        rw [sfun_nat] at h2
                        omega)
                      go_wp2
                      go_roundw
                      case rel =>
                        refine ⟨k + 1, jupd S t, by omega, by go_num, ?_, ?_, fun j => ?_, ?_, ?_⟩
                        · rw [← HX.out, sfun_upd] at hMu; exact hMu
                        · exact (HR.out.alloc _).grown hgu (by simp)
                        · have := HS.out j
                          unfold jupd
                          split <;> omega
                        · rw [HJ.out, HD.out, jrun_ok HZ.out, Int.toNat_natCast]
                        · exact (hbel.alloc hbel.size _).grown hgu (by have := hbel.size; simp; omega) (fun g hg => by cases hg; omega)
                      case measure => simp [intOf]; omega
              · have h5 : (va != x / 2 + 1) = true := by simpa using h4
                have HZ := Lib.hid (show jcode n S ⟨wh, 2, (t : Int), va⟩ = 10 from by
                  unfold jcode; simp only [Int.toNat_natCast]
                  rw [if_neg (by omega), if_neg (by omega), if_pos (.inr (by omega))])
                clear h3 hx h4
                go_wp2_with (go_at_call 78; refine (within_t _ _ _ _ (by omega) (by omega)).mono ?_; rintro e w1 ⟨rfl, rfl⟩)
                refine bodyPost_ret (v := .agg #[.int .i64 10, .int .i64 k]) (by simp [results, Tryd.results38, go_sem, r0, r1, hz0]) rfl ⟨?_, ?_⟩
                · rw [HJ.out, HD.out, jrun_bad (by rw [HZ.out]; omega), HZ.out]
                · exact ((hbel.setCell (p := ⟨w.heap.size, 0, none⟩) (Nat.le_refl _) _).setCell (p := ⟨w.heap.size, 1, none⟩) (Nat.le_refl _) _).alloc (by simpa using hbel.size) _
      · have t1 : (wt != 1) = true := by simp; omega
        have t2 : (wt != 2) = true := by simp; omega
        have HZ := Lib.hid (show jcode n S ⟨wh, wt, th, va⟩ = 1 from by
          unfold jcode; simp only
          rw [if_pos (by omega)])
        clear h1
        go_wp2
        refine bodyPost_ret (v := .agg #[.int .i64 1, .int .i64 k]) (by simp [results, Tryd.results38, go_sem, r0, r1, hz0]) rfl ⟨?_, ?_⟩
        · rw [HJ.out, HD.out, jrun_bad (by rw [HZ.out]; omega), HZ.out]
        · exact ((hbel.setCell (p := ⟨w.heap.size, 0, none⟩) (Nat.le_refl _) _).setCell (p := ⟨w.heap.size, 1, none⟩) (Nat.le_refl _) _).alloc (by simpa using hbel.size) _
    · obtain rfl : k = len := by omega
      have r0 := HR.out.cell 0
      have r1 := HR.out.cell 1
      have f0 := HR.out.frozen 0
      have f1 := HR.out.frozen 1
      simp at r0 r1
      have hz0 : w.heap.size < wr.heap.size := by omega
      go_wp2_with (go_at_call 81; refine (good_calls _).mono ?_; rintro e w1 ⟨rfl, rfl⟩)
      refine bodyPost_ret (v := .agg #[.int .i64 0, .int .i64 (-1)]) (by simp [results, Tryd.results38, go_sem, r0, r1, hz0]) rfl ⟨?_, ?_⟩
      · have hd : l.drop k = [] := List.drop_eq_nil_of_le (by rw [HL.out]; exact Nat.le_refl _)
        rw [HJ.out, hd]
        rfl
      · have hs := hbel.size
        repeat (first | refine Below.alloc ?_ (by first | omega | (simp <;> omega)) _ | refine Below.setCell ?_ (by first | exact Nat.le_refl _ | (simp <;> omega)) _)
        exact hbel
theorem judge_f (n : Int) (v : Value) (w : World) (h : n < 1 ∨ 16 < n) :
    Calls Tryd.prog 38 #[v, .int .i64 n] w fun e w' => e = .returned (.agg #[.int .i64 2, .int .i64 (-1)]) ∧ Below w.heap.size w w' := by
  have H := Lib.hid h
  clear h
  go_enter Tryd.func38, Tryd.ntmps38
  go_wp2_with (first | (go_at_call 78; refine (within_f _ _ _ _ (by have := H.out; omega)).mono ?_; rintro e w1 ⟨rfl, rfl⟩) | (go_at_call 80; refine (bareF_calls _ _).mono ?_; rintro e w1 ⟨rfl, rfl⟩))
  refine bodyPost_ret (v := .agg #[.int .i64 2, .int .i64 (-1)]) (by simp [results, Tryd.results38, go_sem]) rfl ⟨rfl, ?_⟩
  repeat (refine Below.alloc ?_ (by first | omega | (simp <;> omega)) _)
  exact Below.refl _ _
theorem check_f' (n : Int) (v : Value) (w : World) (h : n < 1 ∨ 16 < n) :
    Calls Tryd.prog 41 #[v, .int .i64 n] w fun e w' => e = .returned (.iface 26 (.int .i64 2)) ∧ w = w' := by
  have H := Lib.hid h
  rcases h with h | h
  all_goals
    go_enter Tryd.func41, Tryd.ntmps41
    go_wp2
    go_ret
    exact ⟨rfl, rfl⟩
/-- Check at any number. -/
def CheckAny (n : Int) (l : List Ev) (w : World) (e : Ending) (w' : World) : Prop :=
  ∃ v, e = .returned v ∧ IsErr w' v (jall n l).1 (jall n l).2 ∧ Below w.heap.size w w'
theorem check_any (n : Int) (A : Option Addr) (len cap B : Nat) (l : List Ev) (w : World) (hl : l.length = len) (hlen : len ≤ 200) (hr : Reads w B 4 A len (flatE l)) (hB : B ≤ w.heap.size) :
    Calls Tryd.prog 41 #[.slice A len cap, .int .i64 n] w (CheckAny n l w) := by
  by_cases h : 1 ≤ n ∧ n ≤ 16
  · obtain ⟨m, rfl⟩ := Int.eq_ofNat_of_zero_le (a := n) (by omega)
    refine (check_ok m (by omega) (by omega) A len cap B l w hl hlen hr hB).mono fun e w' ⟨v, he, hi, hb⟩ => ⟨v, he, ?_, hb⟩
    unfold jall
    rw [if_pos h]
    exact hi
  · refine (check_f' n _ w (by omega)).mono fun e w' ⟨he, hw⟩ => ⟨_, he, ?_, by subst hw; exact Below.refl _ _⟩
    unfold jall
    rw [if_neg h]
    exact IsErr.bare_ _ _ (by simp)
theorem judge_any (n : Int) (A : Option Addr) (len cap B : Nat) (l : List Ev) (w : World) (hl : l.length = len) (hlen : len ≤ 200) (hr : Reads w B 4 A len (flatE l)) (hB : B ≤ w.heap.size) :
    Calls Tryd.prog 38 #[.slice A len cap, .int .i64 n] w fun e w' => e = .returned (.agg #[.int .i64 (jall n l).1, .int .i64 (jall n l).2]) ∧ Below w.heap.size w w' := by
  by_cases h : 1 ≤ n ∧ n ≤ 16
  · obtain ⟨m, rfl⟩ := Int.eq_ofNat_of_zero_le (a := n) (by omega)
    unfold jall
    rw [if_pos h]
    exact judge_ok m (by omega) (by omega) A len cap B l w hl hlen hr hB
  · unfold jall
    rw [if_neg h]
    exact judge_f n _ w (by omega)
end Go.Proofs.YtepoahinnfjaiaaDoor
