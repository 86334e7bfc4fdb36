/-
  The walks of JudgeChecks, part six: the law. Conditions: errors.errorType is laid; the events lie below this call's memory.
-/
import Derived.Test.YtepoahinnfjaiaaDoorJuE
namespace Go.Proofs.YtepoahinnfjaiaaDoor
open Go.RowKit Go.Extern.Stop Go.Stop Go.Extern

/-- Rounds at any number. -/
def RoundsAny (n : Int) (l : List Ev) (w : World) (e : Ending) (w' : World) : Prop :=
  ∃ a b v, e = .returned (.tuple #[.int .i64 a, .int .i64 b, v]) ∧ IsErr w' v (jall n l).1 (jall n l).2 ∧ Below w.heap.size w w' ∧ ((jall n l).1 ≠ 0 → a = 0 ∧ b = 0) ∧
    ((jall n l).1 = 0 → b = anyOf l ∧ IsMin n.toNat (jfin (fun _ => 0) l) a)
theorem valid_le {n : Nat} {l : List Ev} (h : Valid n (fun _ => 0) l) (hl : l.length ≤ 200) : ∀ e ∈ l, 0 ≤ e.va ∧ e.va ≤ 1000 := by
  have key : ∀ (l : List Ev) (S : Nat → Nat) (k : Nat), Valid n S l → (∀ t, S t ≤ k) → ∀ e ∈ l, e.va ≤ (k + l.length + 1 : Nat) := by
    intro l
    induction l with
    | nil => intro S k _ _ e he; simp at he
    | cons x l ih =>
      intro S k hv hS e he
      have hz := jcode_zero hv.1
      have hx := hS x.th.toNat
      rcases List.mem_cons.1 he with rfl | he
      · simp; omega
      · have := ih (jupd S x.th.toNat) (k + 1) hv.2 (fun t => by have := hS t; unfold jupd; split <;> omega) e he
        simp at *; omega
  intro e he
  have h1 := h.vals e he
  have h2 := key l (fun _ => 0) 0 h (fun _ => Nat.le_refl _) e he
  omega
theorem jall_zero {n : Int} {l : List Ev} (h : (jall n l).1 = 0) : 1 ≤ n ∧ n ≤ 16 ∧ jrun n.toNat 0 (fun _ => 0) l = (0, -1) := by
  unfold jall at h
  by_cases hn : 1 ≤ n ∧ n ≤ 16
  · rw [if_pos hn] at h
    refine ⟨hn.1, hn.2, ?_⟩
    have key : ∀ (l : List Ev) (i : Nat) (S : Nat → Nat), (jrun n.toNat i S l).1 = 0 → jrun n.toNat i S l = (0, -1) := by
      intro l
      induction l with
      | nil => intro i S _; rfl
      | cons e l ih =>
        intro i S h
        by_cases hc : jcode n.toNat S e = 0
        · rw [jrun_ok hc] at h ⊢; exact ih _ _ h
        · rw [jrun_bad hc] at h; exact absurd h hc
    exact key l _ _ h
  · rw [if_neg hn] at h; simp at h
theorem rounds_any (n : Int) (A : Option Addr) (len cap B : Nat) (l : List Ev) (w : World) (hl : l.length = len) (hlen : len ≤ 200) (hr : Reads w B 4 A len (flatE l)) (hB : B ≤ w.heap.size) :
    Calls Tryd.prog 39 #[.slice A len cap, .int .i64 n] w (RoundsAny n l w) := by
  by_cases hz : (jall n l).1 = 0
  · obtain ⟨h1, h2, h3⟩ := jall_zero hz
    obtain ⟨m, rfl⟩ := Int.eq_ofNat_of_zero_le (a := n) (by omega)
    simp only [Int.toNat_natCast] at h3
    have hj : jall (m : Int) l = (0, -1) := by unfold jall; rw [if_pos ⟨h1, h2⟩]; simpa using h3
    refine (rounds_ok m (by omega) (by omega) A len cap B l w hl hlen hr hB h3 (valid_le (valid_of (i := 0) (by rw [h3])) (by omega))).mono fun e w' ⟨a, he, hm, hb⟩ => ?_
    refine ⟨a, _, .nilIface, he, by rw [hj]; exact IsErr.nil_ _, hb, fun h => absurd hz h, fun _ => ⟨rfl, by simpa using hm⟩⟩
  · have hck := check_any n A len cap B l w hl hlen hr hB
    have HC := Lib.hid hck
    have HZ := Lib.hid hz
    clear hck hz hl hr
    go_enter Tryd.func39, Tryd.ntmps39
    go_wp2_with fail
    refine HC.out.mono ?_
    rintro e w1 ⟨v, rfl, hI, hb⟩
    have HI := Lib.hid hI
    rcases hI with ⟨_, h0, _⟩ | ⟨rfl, _, _⟩ | ⟨b, o, rfl, _, _, _⟩
    · exact absurd h0 HZ.out
    · go_wp2
      go_ret3
      exact ⟨0, 0, _, rfl, HI.out, hb, fun _ => ⟨rfl, rfl⟩, fun h => absurd h HZ.out⟩
    · go_wp2
      go_ret3
      exact ⟨0, 0, _, rfl, HI.out, hb, fun _ => ⟨rfl, rfl⟩, fun h => absurd h HZ.out⟩

theorem is_calls (n p : Int) (w : World) : Calls Tryd.prog 42 #[.agg #[.int .i64 n, .int .i64 p]] w fun e w' => e = .returned (.bool (n == 0)) ∧ w' = w.alloc (.cells #[.int .i64 n, .int .i64 p] 68) := by
  go_enter Tryd.func42, Tryd.ntmps42
  go_wp2
  go_ret
  exact ⟨rfl, rfl⟩

set_option maxRecDepth 100000 in
set_option maxHeartbeats 2000000 in
theorem law_judge (n : Int) (A : Option Addr) (len cap : Nat) (l : List Ev) (w : World) (hl : l.length = len) (hr : len ≤ 200 → Reads w w.heap.size 4 A len (flatE l)) (hg : HasErr w) :
    Calls Tryd.prog 8 #[.slice A len cap, .int .i64 n] w fun e w' => e = .returned (.bool true) ∧ Below w.heap.size w w' := by
  by_cases hlen : len ≤ 200
  · have hr := hr hlen
    have HR := Lib.hid hr
    have HL := Lib.hid hl
    clear hl
    have HJ := Lib.hid (judge_any n A len cap w.heap.size l w HL.out hlen hr (Nat.le_refl _))
    have hlen' : (len : Int) ≤ 200 := by omega
    have HN := Lib.hid hlen
    clear hr
    go_enter Tryd.func8, Tryd.ntmps8
    go_wp2_with fail
    refine HJ.out.mono ?_
    rintro e w1 ⟨rfl, hb1⟩
    generalize hE : (jall n l).1 = jE
    generalize hA : (jall n l).2 = jA
    have HE := Lib.hid hE
    have HA := Lib.hid hA
    clear hE hA HJ
    have hB1 := hb1.alloc hb1.size (.cells #[.int .i64 jE, .int .i64 jA] 68)
    have hF := Blk.new w1 68 #[.int .i64 jE, .int .i64 jA]
    go_wp2_with fail
    refine (rounds_any n A len cap w.heap.size l _ HL.out HN.out (HR.out.below hB1) (by have := hb1.size; simp; omega)).mono ?_
    rintro e w2 ⟨a, b, v, rfl, hI, hb2, hne, hze⟩
    rw [HE.out, HA.out] at hI
    rw [HE.out] at hne hze
    have hB2 := hB1.trans (hb2.mono hB1.size)
    have hF2 := hF.below hb2 hF.lt
    have HI := Lib.hid hI
    have HNE := Lib.hid hne
    have HZE := Lib.hid hze
    clear hI hne hze hb2 hF
    generalize hfb : w1.heap.size = fb at *
    clear hfb hb1 hB1
    have hg2 := hg.below hB2 hg.lt
    have F0 := hF2.cell 0
    have F1 := hF2.cell 1
    simp at F0 F1
    have hlf := hF2.lt
    clear hF2
    go_wp2_with fail
    go_region_held3 (fun w' => Below w2.heap.size w2 w' ∧ ∀ b o, b < w2.heap.size → w'.cell? ⟨b, o, none⟩ = w2.cell? ⟨b, o, none⟩)
      (first | exact ks_below (ks_refl _) (Below.refl _ _).drew | exact ks_below (by assumption) hb6 | exact ks_below (by assumption) hb7 | exact ks_alloc (by assumption) _ | go_keep)
      ((first
        | (go_at_call 41
           refine (check_any n A len cap w.heap.size l _ HL.out HN.out ?_ ?_).mono ?_
           · exact HR.out.below (ks_end hB2 (by assumption))
           · exact (ks_end hB2 (by assumption)).size
           rintro e w6 ⟨v6, rfl, hI6, hb6⟩
           rw [HE.out, HA.out] at hI6
           have HI6 := Lib.hid hI6
           clear hI6)
        | (go_at_call 40
           refine (placed_any _ jE jA _ ?_ ?_).mono ?_
           · exact hg2.below (And.left (by assumption)) hg2.lt
           · with_reducible (first | exact HI6.out | exact HI.out.below (And.left (by assumption)))
           rintro e w7 ⟨rfl, hb7⟩)))
    have hk : Below w2.heap.size w2 w7 ∧ ∀ b o, b < w2.heap.size → w7.cell? ⟨b, o, none⟩ = w2.cell? ⟨b, o, none⟩ := by assumption
    have hB3 := ks_end hB2 hk
    clear hk
    by_cases hz : jE = 0
    · obtain ⟨hb, ha⟩ := HZE.out hz
      obtain ⟨q1, q2, q3⟩ := jall_zero (n := n) (l := l) (by rw [HE.out]; exact hz)
      obtain ⟨m, rfl⟩ := Int.eq_ofNat_of_zero_le (a := n) (by omega)
      simp only [Int.toNat_natCast] at q3 ha
      have t1 : (jE == 0) = true := by simpa using hz
      have hval := valid_of (n := m) (i := 0) (S := fun _ => 0) (l := l) (by rw [q3])
      have hany : anyOf l ≤ 1000 := by
        have hf := foldmax (l := l) (a := 0)
        rcases hf.2.2 with h0 | ⟨e, he, h0⟩
        · unfold anyOf; omega
        · have := (valid_le hval (by rw [HL.out]; exact HN.out) e he).2
          unfold anyOf; omega
      have hB4 := hB3.alloc hB3.size (.cells #[.int .i64 jE, .int .i64 jA] 68)
      have HJR := Lib.hid (jrounds_ok m (by omega) (by omega) A len cap w.heap.size l (w7.alloc (.cells #[.int .i64 jE, .int .i64 jA] 68)) HL.out HN.out (HR.out.below hB4) hB4.size hval hany a ha)
      have HAM := Lib.hid ha
      clear hz ha hval hany q3 q1 q2
      subst hb
      go_wp2_with (first | (go_at_call 42; refine (is_calls _ _ _).mono ?_; rintro e w8 ⟨rfl, rfl⟩))
      refine HJR.out.mono ?_
      rintro e w9 ⟨a', rfl, hm, hb9⟩
      obtain rfl := min_unique HAM.out hm
      clear hm
      go_wp2
      go_ret
      exact ⟨rfl, hB4.trans (hb9.mono hB4.size)⟩
    · obtain ⟨rfl, rfl⟩ := HNE.out hz
      have t1 : (jE == 0) = false := by simpa using hz
      have HZ := Lib.hid hz
      clear hz
      go_wp2_with (first | (go_at_call 42; refine (is_calls _ _ _).mono ?_; rintro e w8 ⟨rfl, rfl⟩))
      go_ret
      exact ⟨rfl, hB3.alloc hB3.size _⟩
  · have hlen' : 200 < (len : Int) := by omega
    clear hl hr
    go_enter Tryd.func8, Tryd.ntmps8
    go_wp2
    go_ret
    exact ⟨rfl, Below.refl _ _⟩
end Go.Proofs.YtepoahinnfjaiaaDoor
