/-
  The law FairIs is proved here, as a walk: both texts say the same of any picks, and the rounds of picks are as told. Conditions: errors.errorType is laid; the picks lie below this call's memory.
-/
import Derived.Test.YtepoahinnfjaiaaDoorFaiX
namespace Go.Proofs.YtepoahinnfjaiaaDoor
open Go.RowKit Go.Extern.Stop Go.Stop Go.Extern

theorem is_any (l : List Int) (n win : Int) (A : Option Addr) (len cap B : Nat) (w : World) (hl : l.length = len) (hlen : len ≤ 150) (hr : Reads w B 1 A len (ints l)) (hB : B ≤ w.heap.size) (hw2 : win ≤ 9223372036854775807) :
    Calls Tryd.prog 29 #[.slice A len cap, .int .i64 n, .int .i64 win] w fun e w' => e = .returned (.bool (fairB l n win)) ∧ Below w.heap.size w w' := by
  by_cases h : 0 ≤ n ∧ n ≤ 16 ∧ 1 ≤ win
  · obtain ⟨h0, h1, h2⟩ := h
    obtain ⟨m, rfl⟩ := Int.eq_ofNat_of_zero_le h0
    exact is_t l m win A len cap B w hl hlen hr hB (by omega) h2 hw2
  · exact is_f l n win A len cap w h
theorem pis_any (l : List Int) (n win : Int) (A : Option Addr) (len cap B : Nat) (w : World) (hl : l.length = len) (hlen : len ≤ 150) (hr : Reads w B 1 A len (ints l)) (hB : B ≤ w.heap.size) (hw2 : win ≤ 9223372036854775807)
    (hcap : len ≤ cap) (hcap2 : cap ≤ 9223372036854775807) (hwf : ∀ t ∈ l, wfI t) :
    Calls Tryd.prog 30 #[.slice A len cap, .int .i64 n, .int .i64 win] w fun e w' => e = .returned (.bool (fairB l n win)) ∧ Below w.heap.size w w' := by
  by_cases h : 0 ≤ n ∧ n ≤ 16 ∧ 1 ≤ win
  · obtain ⟨h0, h1, h2⟩ := h
    obtain ⟨m, rfl⟩ := Int.eq_ofNat_of_zero_le h0
    obtain ⟨W, rfl⟩ := Int.eq_ofNat_of_zero_le (a := win) (by omega)
    exact pis_t l m W A len cap B w hl hlen hr hB (by omega) (by omega) (by omega) hcap hcap2 hwf
  · exact pis_f l n win A len cap w h

set_option maxRecDepth 100000 in
set_option maxHeartbeats 2000000 in
theorem law_fair (l : List Int) (n win times : Int) (A : Option Addr) (len cap : Nat) (w : World) (hl : l.length = len) (hr : Reads w w.heap.size 1 A len (ints l)) (hw2 : win ≤ 9223372036854775807)
    (hcap : len ≤ cap) (hcap2 : cap ≤ 9223372036854775807) (hwf : ∀ t ∈ l, wfI t) (hg : HasErr w) :
    Calls Tryd.prog 6 #[.slice A len cap, .int .i64 n, .int .i64 win, .int .i64 times] w fun e w' => e = .returned (.bool true) ∧ Below w.heap.size w w' := by
  by_cases hlen : len ≤ 150
  · obtain ⟨b, hb⟩ : ∃ b, fairB l n win = b := ⟨_, rfl⟩
    have H1 := Lib.hid (fun (w' : World) (hB : Below w.heap.size w w') => is_any l n win A len cap w.heap.size w' hl hlen (hr.below hB) hB.size hw2)
    have H2 := Lib.hid (fun (w' : World) (hB : Below w.heap.size w w') => pis_any l n win A len cap w.heap.size w' hl hlen (hr.below hB) hB.size hw2 hcap hcap2 hwf)
    rw [hb] at H1 H2
    clear hb hl hr hwf
    by_cases hok : 0 ≤ n ∧ n ≤ 16 ∧ 0 ≤ times ∧ times ≤ 1000
    · obtain ⟨n0, n1, t0, t1⟩ := hok
      obtain ⟨N, rfl⟩ := Int.eq_ofNat_of_zero_le n0
      obtain ⟨T, rfl⟩ := Int.eq_ofNat_of_zero_le t0
      obtain ⟨M, hM⟩ : ∃ M, T * N = M := ⟨_, rfl⟩
      have hrt := rounds_t N T w (by omega) (by omega)
      rw [hM] at hrt
      have HN := Lib.hid hrt
      have hM6 : M ≤ 16000 := by rw [← hM]; exact Nat.le_trans (Nat.mul_le_mul (show T ≤ 1000 by omega) (show N ≤ 16 by omega)) (by omega)
      have hmul : wrap64 ((N : Int) * (T : Int)) = (M : Int) := by
        have e : (N : Int) * (T : Int) = (M : Int) := by rw [← hM, Int.natCast_mul, Int.mul_comm]
        rw [e]; exact IntWalk.wrap64_in _ (by omega)
      have hNpos : 0 < M → 0 < N := fun h => by
        rcases Nat.eq_zero_or_pos N with e | e
        · subst e; omega
        · exact e
      have HMUL := Lib.hid hmul
      have HNP := Lib.hid hNpos
      clear hrt hM hmul hNpos
      go_enter Tryd.func6, Tryd.ntmps6
      go_wp2_with (first
        | (go_at_call 28; refine HN.out.mono ?_; rintro e w1 ⟨A1, c1, rfl, hr1, hb1⟩; have HR1 := Lib.hid hr1; clear hr1)
        | (go_at_call 29; refine (H1.out _ hb1).mono ?_; rintro e w2 ⟨rfl, hb2⟩)
        | (go_at_call 30; refine (H2.out _ (hb1.trans (hb2.mono hb1.size))).mono ?_; rintro e w3 ⟨rfl, hb3⟩))
      · exfalso
        have h : ((M : Int) != wrap64 ((N : Int) * (T : Int))) = true := by assumption
        rw [HMUL.out] at h
        simp at h
      · have hB3 : Below w.heap.size w w3 := (hb1.trans (hb2.mono hb1.size)).trans (hb3.mono (hb1.trans (hb2.mono hb1.size)).size)
        have hR3 : Reads w3 w1.heap.size 1 A1 M (ints (rnd N M)) := (HR1.out.below hb2).below (hb3.mono hb2.size)
        have HR3 := Lib.hid hR3
        have HB3 := Lib.hid hB3
        clear hb1 hb2 hb3 hR3 hB3
        go_loop [64] (fun i => ∃ q : Nat, q ≤ M ∧ i = .int .i64 q) (fun i => M - (intOf i).toNat)
        case atStart => exact ⟨0, Nat.zero_le _, rfl⟩
        case round =>
          obtain ⟨q, hq, rfl⟩ := hrel
          by_cases hlt : q < M
          · obtain ⟨ad, rfl, _, hc⟩ := HR3.out.int_ (rnd_len N M) hlt
            have hN1 : 1 ≤ N := HNP.out (by omega)
            have he : (rnd N M)[q]'(by rw [rnd_len]; exact hlt) = (q : Int) % (N : Int) := by simp [rnd]
            rw [he] at hc
            clear he
            go_wp2
            go_round
            case rel => exact ⟨q + 1, by omega, by go_num⟩
            case measure => simp [intOf]; omega
          · obtain rfl : q = M := by omega
            go_wp2
            go_ret
            exact ⟨rfl, HB3.out⟩
    · have HF := Lib.hid (rounds_f n times w hok)
      have hc : n < 0 ∨ (0 ≤ n ∧ 16 < n) ∨ (0 ≤ n ∧ n ≤ 16 ∧ times < 0) ∨ (0 ≤ n ∧ n ≤ 16 ∧ 0 ≤ times ∧ 1000 < times) := by omega
      have hg' := Lib.hid hg
      clear hok hg
      rcases hc with h1 | ⟨h1, h2⟩ | ⟨h1, h2, h3⟩ | ⟨h1, h2, h3, h4⟩
      all_goals
        go_enter Tryd.func6, Tryd.ntmps6
        go_wp2_with (first
          | (go_at_call 28; refine HF.out.mono ?_; rintro e w1 ⟨rfl, rfl⟩)
          | (go_at_call 29; refine (H1.out _ (Below.refl _ _)).mono ?_; rintro e w2 ⟨rfl, hb2⟩)
          | (go_at_call 30; refine (H2.out _ hb2).mono ?_; rintro e w3 ⟨rfl, hb3⟩; have hB3 := hb2.trans (hb3.mono hb2.size))
          | (go_at_call 14; refine (bare_e 2 _ (hg'.out.below hB3 hg'.out.lt)).mono ?_; rintro e w4 ⟨rfl, hb4⟩))
        go_ret
        exact ⟨rfl, hB3.trans (hb4.mono hB3.size)⟩
  · have hlen' : 150 < (len : Int) := by omega
    clear hr
    go_enter Tryd.func6, Tryd.ntmps6
    go_wp2
    go_ret
    exact ⟨rfl, Below.refl _ _⟩
end Go.Proofs.YtepoahinnfjaiaaDoor
