/-
  StoryParses' walks, part five: two equal rows of events, and the law's own function. Conditions: the tables and errors.errorType are laid.
-/
import Derived.Test.YthnbbgmajdjgeaaDoorStS
import Derived.Test.YthnbbgmajdjgeaaDoorStT
import Derived.Laws.StructEq
namespace Go.Proofs.YthnbbgmajdjgeaaDoor
open Go.RowKit Go.Extern.Stop Go.Stop Go.Extern
attribute [local go_sem ↓] Go.wp_at_zero Go.wp_at_succ

set_option maxHeartbeats 1000000 in
theorem equal_ev (A A' : Option Addr) (n c c' B B' : Nat) (l : List Ev) (w : World) (hl : l.length = n) (hr : Reads w B 4 A n (flatE l)) (hr' : Reads w B' 4 A' n (flatE l)) (_hn : n ≤ 100000) :
    Calls Tryd.prog 11 #[.slice A n c, .slice A' n c'] w fun e w' => e = .returned (.bool true) ∧ ∃ k, w' = w.drewN k := by
  have HL := Lib.hid hl
  clear hl
  go_enter Tryd.func11, Tryd.ntmps11
  go_wp2
  go_loopw [13] (fun t wr => ∃ k : Nat, k ≤ n ∧ t = .int .i64 k ∧ ∃ j, wr = w.drewN j) (fun t _ => n - (intOf t).toNat)
  case atStart => exact ⟨0, Nat.zero_le _, rfl, 0, rfl⟩
  case round =>
    obtain ⟨k, hk, rfl, j, rfl⟩ := hrel
    by_cases hlt : k < n
    · obtain ⟨ad, rfl, _, c0, c1, c2, c3⟩ := hr.ev HL.out hlt
      obtain ⟨ad', rfl, _, d0, d1, d2, d3⟩ := hr'.ev HL.out hlt
      generalize l[k]'(by rw [HL.out]; exact hlt) = v at *
      obtain ⟨wh, wt, th, va⟩ := v
      simp only at c0 c1 c2 c3 d0 d1 d2 d3
      go_wp2
      go_quiet (fail)
      go_wp2
      go_roundw
      case rel => exact ⟨k + 1, by omega, by go_num, _, rfl⟩
      case measure => simp [intOf]; omega
    · obtain rfl : k = n := by omega
      go_wp2
      go_ret
      exact ⟨rfl, _, rfl⟩
theorem prs_len (step : List UInt8 → List Ev → Option (Ev × List UInt8)) : ∀ (f : Nat) (s : List UInt8) (L : List Ev), (prs step f s L).1.length ≤ L.length + f
  | 0, s, L => by unfold prs; exact Nat.le_refl _
  | f + 1, s, L => by
    unfold prs
    split
    · exact Nat.le_add_right _ _
    · split
      · exact Nat.zero_le _
      · rename_i e r _
        have := prs_len step f r (L ++ [e])
        rw [List.length_append] at this
        simp at this
        omega
set_option maxRecDepth 100000 in
theorem law_parse (s : ByteArray) (w : World) (hw : Std w.heap.size w) (hg : HasErr w) :
    Calls Tryd.prog 4 #[.string s] w fun e w' => e = .returned (.bool true) ∧ Below w.heap.size w w' := by
  by_cases hlen : s.size ≤ 2000
  · have hR := rparse_any s w hw hlen
    have hP := fun (w1 : World) (hb : Below w.heap.size w w1) => parse_any s w1 ((hw.below hb).more hb.size) hlen
    have hl := prs_len stepR s.size s.data.toList []
    rw [prs_eq] at hP
    obtain ⟨T, hT⟩ : ∃ T, prs stepR s.size s.data.toList [] = T := ⟨_, rfl⟩
    rw [hT] at hR hP hl
    obtain ⟨es, n, p⟩ := T
    simp only [List.length_nil] at hl
    have hel : es.length ≤ 100000 := by omega
    have HR := Lib.hid hR
    have HP := Lib.hid hP
    have HG := Lib.hid hg
    have h3 := hg.lt
    have hs2 : ¬ (2000 : Int) < (s.size : Int) := by omega
    clear hR hP hg hT hl hw
    go_enter Tryd.func4, Tryd.ntmps4
    go_wp2_with (first
      | (go_at_call 9
         refine HR.out.mono ?_
         rintro e w1 ⟨A1, c1, rfl, hr1, hb1⟩
         have HR1 := Lib.hid hr1
         have hbA := hb1.alloc hb1.size (.cells #[.int .i64 n, .int .i64 p] 29)
         have HBA := Lib.hid hbA
         clear hr1 hbA)
      | (go_at_call 10
         refine (HP.out _ HBA.out).mono ?_
         rintro e w2 ⟨A2, c2, ev, rfl, hr2, he2, hb2⟩
         have hz1 := HBA.out.size
         have HB2 := Lib.hid (HBA.out.trans (hb2.mono HBA.out.size))
         have hC := (Blk.new w1 29 #[.int .i64 n, .int .i64 p]).below hb2 (by simp)
         have c0 := hC.cell 0
         have c1' := hC.cell 1
         simp at c0 c1'
         have HR2 := Lib.hid hr2
         have HE2 := Lib.hid he2
         have HRO := Lib.hid (((HR1.out.alloc (Nat.le_refl _) (.cells #[.int .i64 n, .int .i64 p] 29)).below (hb2.mono (by simp))))
         clear hr2 he2 hC)
      | (go_at_call 7
         refine (placed_any ev n p _ (HG.out.below HB2.out h3) HE2.out).mono ?_
         rintro e w3 ⟨rfl, hb3⟩
         have hle := hb2.size
         have HRO3 := Lib.hid (HRO.out.below (hb3.mono (by simp at hle; omega)))
         have HR3 := Lib.hid (HR2.out.below hb3)
         have HB3 := Lib.hid (chain (HB2.out) (hb3)))
      | (go_at_call 11
         refine (equal_ev A1 A2 es.length c1 c2 _ _ es _ rfl HRO3.out HR3.out hel).mono ?_
         rintro e w4 ⟨rfl, k, rfl⟩)
      | fail)
    go_ret
    exact ⟨rfl, HB3.out.trans ⟨rfl, rfl, rfl, Nat.le_refl _, fun _ _ => rfl⟩⟩
  · have hs2 : (2000 : Int) < (s.size : Int) := by omega
    go_enter Tryd.func4, Tryd.ntmps4
    go_wp2_with fail
    go_ret
    exact ⟨rfl, Below.refl _ _⟩
end Go.Proofs.YthnbbgmajdjgeaaDoor
