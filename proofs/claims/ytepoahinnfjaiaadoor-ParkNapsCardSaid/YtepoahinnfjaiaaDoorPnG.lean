/-
  The walks of ParkNaps in the program, part five: slices.IndexFunc and slices.DeleteFunc with the waking closure. Conditions: the row and the closure's variables are this call's own.
-/
import Derived.Test.YtepoahinnfjaiaaDoorPnF
namespace Go.Proofs.YtepoahinnfjaiaaDoor
open Go.RowKit Go.Extern.Stop Go.Stop Go.Extern
attribute [local go_sem ↓] Go.wp_at_zero Go.wp_at_succ

theorem wkS_t {c m : Int} {r : List Sl × List Int} {e : Sl} (h : wkB c m r.2 e = true) : wkS c m r e = (r.1, r.2 ++ [e.th]) := by
  unfold wkB at h; unfold wkS; rw [if_pos (by simpa using h)]
theorem wkS_f {c m : Int} {r : List Sl × List Int} {e : Sl} (h : wkB c m r.2 e = false) : wkS c m r e = (r.1 ++ [e], r.2) := by
  unfold wkB at h; unfold wkS; rw [if_neg (by simpa using h)]
theorem wk_step (c m : Int) (L : List Sl) (j : Nat) (hj : j < L.length) : wk c m (L.take (j + 1)) = wkS c m (wk c m (L.take j)) L[j] := by
  rw [List.take_succ_eq_append_getElem hj, wk_snoc]
theorem wk_pre {c m : Int} {L : List Sl} (k : Nat) (hk : k ≤ L.length) (h : ∀ (j : Nat) (hj : j < L.length), j < k → wkB c m [] L[j] = false) : wk c m (L.take k) = (L.take k, []) := by
  induction k with
  | zero => simp [wk]
  | succ k ih =>
    rw [wk_step c m L k (by omega), ih (by omega) (fun j hj hjk => h j hj (by omega)), wkS_f (h k (by omega) (by omega)), List.take_succ_eq_append_getElem (by omega)]
theorem wk_none {c m : Int} {L : List Sl} (h : ∀ (j : Nat) (hj : j < L.length), wkB c m [] L[j] = false) : wk c m L = (L, []) := by
  have := wk_pre L.length (Nat.le_refl _) (fun j hj _ => h j hj)
  rwa [List.take_of_length_le (Nat.le_refl _)] at this
theorem wk_hit {c m : Int} {L : List Sl} (k : Nat) (hk : k < L.length) (h : ∀ (j : Nat) (hj : j < L.length), j < k → wkB c m [] L[j] = false) (ht : wkB c m [] L[k] = true) : wk c m (L.take (k + 1)) = (L.take k, [L[k].th]) := by
  rw [wk_step c m L k hk, wk_pre k (by omega) h, wkS_t ht]; rfl
/-- The first one that is struck, or none. -/
theorem first_hit (c m : Int) (L : List Sl) : (∀ (j : Nat) (hj : j < L.length), wkB c m [] L[j] = false) ∨ ∃ (k : Nat) (hk : k < L.length), (∀ (j : Nat) (hj : j < L.length), j < k → wkB c m [] L[j] = false) ∧ wkB c m [] L[k] = true := by
  have key : ∀ n, n ≤ L.length → (∀ (j : Nat) (hj : j < L.length), j < n → wkB c m [] L[j] = false) ∨ ∃ (k : Nat) (hk : k < L.length), (∀ (j : Nat) (hj : j < L.length), j < k → wkB c m [] L[j] = false) ∧ wkB c m [] L[k] = true := by
    intro n
    induction n with
    | zero => exact fun _ => .inl fun j _ hj => by omega
    | succ n ih =>
      intro hn
      rcases ih (by omega) with h | h
      · cases hb : wkB c m [] (L[n]'(by omega)) with
        | true => exact .inr ⟨n, by omega, h, hb⟩
        | false =>
          refine .inl fun j hj hjn => ?_
          by_cases he : j = n
          · subst he; exact hb
          · exact h j hj (by omega)
      · exact .inr h
  rcases key L.length (Nat.le_refl _) with h | h
  · exact .inl fun j hj => h j hj hj
  · exact .inr h
theorem wkB_f {c m : Int} {xs : List Int} {e : Sl} (h : wkB c m xs e = false) : ¬ (e.ce = c ∧ (xs.length : Int) < m) := by
  unfold wkB at h; simpa using h
theorem wkB_t {c m : Int} {xs : List Int} {e : Sl} (h : wkB c m xs e = true) : e.ce = c ∧ (xs.length : Int) < m := by
  unfold wkB at h; simpa using h
section
variable {z : Nat} {w : World} {c m : Int} {v : Value}
set_option maxHeartbeats 1000000 in
theorem index_none (L : List Sl) (B0 n cp : Nat) (A : Option Addr) (hl : L.length = n) (hn : n ≤ 1000) (hr : Reads w B0 2 A n (flatS L)) (hB0 : B0 ≤ w.heap.size) (hE : Env z w c m v [])
    (hno : ∀ (j : Nat) (hj : j < L.length), wkB c m [] L[j] = false) :
    Calls Tryd.prog 96 #[.slice A n cp, Clo z] w fun e w' => e = .returned (.int .i64 (-1)) ∧ Below w.heap.size w w' := by
  have eg : ∀ args w, (callFunc 86 args).run Tryd.prog w = .ok (.enter 86 args) w := enters_of Tryd.func86 (by kernel_rfl) rfl
  have HL := Lib.hid hl
  have HR := Lib.hid hr
  have HE := Lib.hid hE
  have HNO := Lib.hid hno
  clear hl hr hE hno
  unfold Clo
  go_enter Tryd.func96, Tryd.ntmps96
  go_wp2
  go_loopw [8] (fun i wr => ∃ k : Nat, k ≤ n ∧ i = .int .i64 k ∧ Below w.heap.size w wr) (fun i _ => n - (intOf i).toNat)
  case atStart => exact ⟨0, Nat.zero_le _, rfl, Below.refl _ _⟩
  case round =>
    obtain ⟨k, hk, rfl, hbel⟩ := hrel
    have hsz := hbel.size
    by_cases hlt : k < n
    · obtain ⟨ad, rfl, _, c0, c1⟩ := (HR.out.below (hbel.mono hB0)).sl HL.out hlt
      have hkl : k < L.length := by rw [HL.out]; exact hlt
      have hb := wkB_f (HNO.out k hkl)
      obtain ⟨⟨th, ce, si⟩, hee⟩ : ∃ e, L[k] = e := ⟨_, rfl⟩
      rw [hee] at c0 c1 hb
      simp only at c0 c1 hb
      have HFN := Lib.hid (fn86_f (HE.out.below hbel) th ce hb)
      clear hee hb hkl
      go_wp2_with (go_at_fn 86; refine HFN.out.mono ?_; rintro e w' ⟨rfl, hb'⟩)
      go_roundw
      case rel => exact ⟨k + 1, by omega, by go_num, hbel.trans (hb'.mono hsz)⟩
      case measure => simp [intOf]; omega
    · obtain rfl : k = n := by omega
      go_wp2
      go_ret
      exact ⟨rfl, hbel⟩
def IdxEnd (z : Nat) (w : World) (c m : Int) (k : Nat) (xs : List Int) (e : Ending) (w' : World) : Prop := e = .returned (.int .i64 k) ∧ (∃ v, Env z w' c m v xs) ∧ Below z w w'
set_option maxHeartbeats 1000000 in
theorem index_hit (L : List Sl) (B0 n cp : Nat) (A : Option Addr) (hl : L.length = n) (hn : n ≤ 1000) (hr : Reads w B0 2 A n (flatS L)) (hB0 : B0 ≤ w.heap.size) (hE : Env z w c m v [])
    (q : Nat) (hq : q < L.length) (hno : ∀ (j : Nat) (hj : j < L.length), j < q → wkB c m [] L[j] = false) (hyes : wkB c m [] L[q] = true) :
    Calls Tryd.prog 96 #[.slice A n cp, Clo z] w (IdxEnd z w c m q [L[q].th]) := by
  have eg : ∀ args w, (callFunc 86 args).run Tryd.prog w = .ok (.enter 86 args) w := enters_of Tryd.func86 (by kernel_rfl) rfl
  have hzl := hE.o.lt
  have HL := Lib.hid hl
  have HR := Lib.hid hr
  have HE := Lib.hid hE
  have HNO := Lib.hid hno
  have HYES := Lib.hid (wkB_t hyes)
  have hqn : q < n := by omega
  clear hl hr hE hno hyes
  unfold Clo
  go_enter Tryd.func96, Tryd.ntmps96
  go_wp2
  go_loopw [8] (fun i wr => ∃ k : Nat, k ≤ q ∧ i = .int .i64 k ∧ Below w.heap.size w wr) (fun i _ => n - (intOf i).toNat)
  case atStart => exact ⟨0, Nat.zero_le _, rfl, Below.refl _ _⟩
  case round =>
    obtain ⟨k, hk, rfl, hbel⟩ := hrel
    have hsz := hbel.size
    have hlt : k < n := by omega
    obtain ⟨ad, rfl, _, c0, c1⟩ := (HR.out.below (hbel.mono hB0)).sl HL.out hlt
    by_cases hkq : k < q
    · have hkl : k < L.length := by rw [HL.out]; exact hlt
      have hb := wkB_f (HNO.out k hkl hkq)
      obtain ⟨⟨th, ce, si⟩, hee⟩ : ∃ e, L[k] = e := ⟨_, rfl⟩
      rw [hee] at c0 c1 hb
      simp only at c0 c1 hb
      have HFN := Lib.hid (fn86_f (HE.out.below hbel) th ce hb)
      clear hee hb hkl
      go_wp2_with (go_at_fn 86; refine HFN.out.mono ?_; rintro e w' ⟨rfl, hb'⟩)
      go_roundw
      case rel => exact ⟨k + 1, by omega, by go_num, hbel.trans (hb'.mono hsz)⟩
      case measure => simp [intOf]; omega
    · obtain rfl : k = q := by omega
      have hy := HYES.out
      obtain ⟨⟨th, ce, si⟩, hee⟩ : ∃ e, L[k] = e := ⟨_, rfl⟩
      have HTH := Lib.hid (show L[k].th = th by rw [hee])
      rw [hee] at c0 c1 hy
      simp only at c0 c1 hy
      obtain ⟨rfl, hm⟩ := hy
      have HFN := Lib.hid (fn86_t (HE.out.below hbel) (by simp) th hm)
      clear hee hm
      go_wp2_with (go_at_fn 86; refine HFN.out.mono ?_; rintro e w' ⟨rfl, he', hb'⟩; have HE' := Lib.hid he'; have HB' := Lib.hid hb'; clear he' hb')
      go_ret
      exact ⟨rfl, by rw [HTH.out]; exact HE'.out, (hbel.mono (by omega)).trans HB'.out⟩
end
end Go.Proofs.YtepoahinnfjaiaaDoor
