/-
  The walks of ScriptBytes, part one: which scripts may be, in the program and in the reference. Conditions: the moves lie below this call's memory.
-/
import Derived.Test.YtepoahinnfjaiaaDoorPartW
import Derived.Test.YtepoahinnfjaiaaDoorWords
import Derived.Test.YtepoahinnfjaiaaDoorKs
import Derived.Test.YtepoahinnfjaiaaDoorErr
import Derived.Test.YtepoahinnfjaiaaDoorJuMath
namespace Go.Proofs.YtepoahinnfjaiaaDoor
open Go.RowKit Go.Extern.Stop Go.Stop Go.Extern

/-- A move: a thread, woken for nothing or not. -/
structure Mv where
  th : Int
  po : Bool
def mvc (m : Mv) : List Value := [.int .i64 m.th, .bool m.po]
def flatM (l : List Mv) : List Value := l.flatMap mvc
theorem mvc_len (m : Mv) : (mvc m).length = 2 := rfl
theorem add_split1 (a : Addr) (i j : Nat) : a.add (i + (j + 1)) = ⟨(a.add i).block, (a.add i).off + (j + 1), none⟩ := by
  rw [← add_of_add]; rfl
/-- The cells of move k. -/
theorem Reads.mv {w : World} {B n k : Nat} {A : Option Addr} {l : List Mv} (h : Reads w B 2 A n (flatM l)) (hn : l.length = n) (hk : k < n) :
    ∃ ad, A = some ad ∧ ad.block < B ∧ w.cell? (ad.add (k * 2)) = some (.int .i64 (l[k]'(by omega)).th) ∧ w.cell? ⟨(ad.add (k * 2)).block, (ad.add (k * 2)).off + 1, none⟩ = some (.bool (l[k]'(by omega)).po) := by
  obtain ⟨ad, e, hb, hc⟩ := h.2 (by omega)
  have g := fun j hj => flatMap_get mvc_len l k j (by omega) hj
  refine ⟨ad, e, hb, hc _ _ (g 0 (by omega)), ?_⟩
  rw [← add_split1 ad (k * 2) 0]; exact hc _ _ (g 1 (by omega))

abbrev scv (k n r : Int) (A : Option Addr) (len cap : Nat) : Value := .agg #[.int .i64 k, .int .i64 n, .int .i64 r, .slice A len cap]
abbrev scb (k n r : Int) (A : Option Addr) (len cap : Nat) : Obj := .cells #[.int .i64 k, .int .i64 n, .int .i64 r, .slice A len cap] 57
def MvOk (n : Int) (l : List Mv) : Prop := ∀ m ∈ l, 0 ≤ m.th ∧ m.th < n
def HdOk (k n r : Int) : Prop := 1 ≤ k ∧ k ≤ 6 ∧ 1 ≤ n ∧ n ≤ 8 ∧ 0 ≤ r ∧ r ≤ 5
open Classical in
noncomputable def scB (k n r : Int) (l : List Mv) : Bool := decide (HdOk k n r ∧ MvOk n l)
def ScEnd (k n r : Int) (l : List Mv) (w : World) (e : Ending) (w' : World) : Prop := e = .returned (.bool (scB k n r l)) ∧ Below w.heap.size w w'
theorem first_bad (n : Int) (l : List Mv) : ∀ N : Nat, N ≤ l.length → ∃ K, K ≤ N ∧ (∀ (j : Nat) (hj : j < l.length), j < K → 0 ≤ l[j].th ∧ l[j].th < n) ∧ (∀ (hK : K < l.length), K < N → ¬ (0 ≤ l[K].th ∧ l[K].th < n))
  | 0, _ => ⟨0, Nat.le_refl _, fun j _ h => by omega, fun _ h => by omega⟩
  | N + 1, hN => by
    obtain ⟨K, h1, h2, h3⟩ := first_bad n l N (by omega)
    by_cases hK : K < N
    · exact ⟨K, by omega, h2, fun hh _ => h3 hh hK⟩
    · obtain rfl : K = N := by omega
      by_cases hx : 0 ≤ l[K].th ∧ l[K].th < n
      · exact ⟨K + 1, by omega, fun j hj hjn => by
          by_cases hjn2 : j = K
          · subst hjn2; exact hx
          · exact h2 j hj (by omega), fun _ h => by omega⟩
      · exact ⟨K, by omega, h2, fun _ _ => hx⟩

set_option maxHeartbeats 1000000 in
theorem sright (k n r : Int) (A : Option Addr) (len cap B : Nat) (l : List Mv) (w : World) (hl : l.length = len) (hlen : len ≤ 600) (hr : Reads w B 2 A len (flatM l)) (hB : B ≤ w.heap.size) :
    Calls Tryd.prog 33 #[scv k n r A len cap] w (ScEnd k n r l w) := by
  obtain ⟨K, hKN, hlow, hend⟩ := first_bad n l len (by omega)
  have HL := Lib.hid hl
  have HLO := Lib.hid hlow
  have HE := Lib.hid hend
  clear hl hlow hend
  go_enter Tryd.func33, Tryd.ntmps33
  go_wp2
  go_loopw [8, 4] (fun i _ wr => ∃ j : Nat, j ≤ K ∧ i = .int .i64 j ∧ Blk wr w.heap.size 57 #[.int .i64 k, .int .i64 n, .int .i64 r, .slice A len cap] ∧ Below w.heap.size w wr) (fun i _ _ => K - (intOf i).toNat)
  case atStart => exact ⟨0, Nat.zero_le _, rfl, Blk.new w 57 _, (Below.refl _ _).alloc (Nat.le_refl _) _⟩
  case round =>
    obtain ⟨j, hj, rfl, hR, hbel⟩ := hrel
    have hz := hR.lt
    have r0 := hR.cell 0
    have r1 := hR.cell 1
    have r2 := hR.cell 2
    simp at r0 r1 r2
    have HR := Lib.hid hR
    clear hR
    by_cases hlt : j < K
    · obtain ⟨ad, rfl, _, c0, c1⟩ := (hr.below (hbel.mono hB)).mv HL.out (k := j) (by omega)
      have hh := HLO.out j (by rw [HL.out]; omega) hlt
      have hlt2 : j < len := by omega
      generalize hv : l[j]'(by rw [HL.out]; omega) = v at *
      obtain ⟨th, po⟩ := v
      simp only at c0 c1 hh
      obtain ⟨h1, h2⟩ := hh
      clear hv
      go_wp2
      go_roundw
      case rel => exact ⟨j + 1, by omega, by go_num, HR.out.alloc _, hbel.alloc hbel.size _⟩
      case measure => simp [intOf]; omega
    · obtain rfl : j = K := by omega
      by_cases hlt2 : j < len
      · obtain ⟨ad, rfl, _, c0, c1⟩ := (hr.below (hbel.mono hB)).mv HL.out (k := j) hlt2
        have hjl : j < l.length := by rw [HL.out]; exact hlt2
        have hh := HE.out hjl hlt2
        have hno : scB k n r l = false := by
          simp only [scB, decide_eq_false_iff_not]
          rintro ⟨_, h⟩
          exact hh (h _ (List.getElem_mem hjl))
        have HNO := Lib.hid hno
        generalize hv : l[j]'(by rw [HL.out]; omega) = v at *
        obtain ⟨th, po⟩ := v
        simp only at c0 c1 hh
        clear hv hno
        by_cases h1 : 0 ≤ th
        · have h2 : n ≤ th := by omega
          clear hh
          go_wp2
          go_ret
          exact ⟨by rw [HNO.out]; rfl, hbel.alloc hbel.size _⟩
        · clear hh
          go_wp2
          go_ret
          exact ⟨by rw [HNO.out]; rfl, hbel.alloc hbel.size _⟩
      · obtain rfl : j = len := by omega
        have hM : MvOk n l := fun m hm => by
          obtain ⟨i, hi, rfl⟩ := List.getElem_of_mem hm
          exact HLO.out i hi (by rw [HL.out] at hi; exact hi)
        have HM := Lib.hid hM
        clear hM
        go_wp2
        all_goals
          go_ret
          refine ⟨congrArg (fun b => Ending.returned (.bool b)) (?_ : _ = scB k n r l), hbel⟩
          rw [Bool.eq_iff_iff]
          simp only [scB, decide_eq_true_eq]
          constructor
          · intro h
            first | exact Bool.noConfusion h | (refine ⟨?_, HM.out⟩; unfold HdOk; omega)
          · rintro ⟨h, _⟩
            unfold HdOk at h
            first | omega | (exfalso; omega)

theorem hd_calls (k n r : Int) : ∃ b : Bool, (b = true ↔ HdOk k n r) := by
  by_cases h : HdOk k n r
  · exact ⟨true, by simp [h]⟩
  · exact ⟨false, by simp [h]⟩
set_option maxHeartbeats 1000000 in
theorem pright_t' (k n r : Int) (A : Option Addr) (len cap B : Nat) (l : List Mv) (w : World) (hl : l.length = len) (hlen : len ≤ 600) (hr : Reads w B 2 A len (flatM l)) (hB : B ≤ w.heap.size) (hH : HdOk k n r) :
    Calls Tryd.prog 34 #[scv k n r A len cap] w (ScEnd k n r l w) := by
  obtain ⟨K, hKN, hlow, hend⟩ := first_bad n l len (by omega)
  have HL := Lib.hid hl
  have HLO := Lib.hid hlow
  have HE := Lib.hid hend
  have HH := Lib.hid hH
  clear hl hlow hend
  obtain ⟨q1, q2, q3, q4, q5, q6⟩ := hH
  go_enter Tryd.func34, Tryd.ntmps34
  go_wp2_with (go_at_call 78; refine (within_t _ _ _ _ (by omega) (by omega)).mono ?_; rintro e w1 ⟨rfl, rfl⟩)
  go_loopw [22, 3] (fun i ok wr => ∃ (j : Nat) (b : Bool), j ≤ len ∧ i = .int .i64 j ∧ ok = .bool b ∧ (b = true ↔ j ≤ K) ∧ Blk wr w.heap.size 57 #[.int .i64 k, .int .i64 n, .int .i64 r, .slice A len cap] ∧ Below w.heap.size w wr) (fun i _ _ => len - (intOf i).toNat)
  case atStart => exact ⟨0, true, Nat.zero_le _, rfl, rfl, by simp, Blk.new w 57 _, (Below.refl _ _).alloc (Nat.le_refl _) _⟩
  case round =>
    obtain ⟨j, b, hj, rfl, rfl, hb, hR, hbel⟩ := hrel
    have hz := hR.lt
    have r1 := hR.cell 1
    simp at r1
    have HR := Lib.hid hR
    have HBI := Lib.hid hb
    clear hR hb
    by_cases hlt2 : j < len
    · obtain ⟨ad, rfl, _, c0, c1⟩ := (hr.below (hbel.mono hB)).mv HL.out (k := j) hlt2
      have hjl : j < l.length := by rw [HL.out]; exact hlt2
      have HLj := Lib.hid (HLO.out j hjl)
      have HEj := Lib.hid (fun (e : j = K) => by subst e; exact HE.out hjl hlt2)
      generalize hv : l[j]'(by rw [HL.out]; omega) = v at *
      obtain ⟨th, po⟩ := v
      simp only at c0 c1
      cases b
      · go_wp2
        go_roundw
        case rel => exact ⟨j + 1, false, by omega, by go_num, rfl, by have := HBI.out; simp at this ⊢; omega, HR.out.alloc _, hbel.alloc hbel.size _⟩
        case measure => simp [intOf]; omega
      · have hjK := HBI.out.1 rfl
        by_cases hjK2 : j < K
        · have hh := HLj.out hjK2
          simp only at hh
          have HHt := Lib.hid hh
          clear hh
          go_wp2_with (go_at_call 78; refine (within_t _ _ _ _ (by have := HHt.out; omega) (by have := HHt.out; omega)).mono ?_; rintro e w1 ⟨rfl, rfl⟩)
          go_roundw
          case rel => exact ⟨j + 1, true, by omega, by go_num, rfl, by simp; omega, HR.out.alloc _, hbel.alloc hbel.size _⟩
          case measure => simp [intOf]; omega
        · have hh := HEj.out (by omega)
          simp only at hh
          have HHt := Lib.hid hh
          clear hh
          go_wp2_with (go_at_call 78; refine (within_f _ _ _ _ (by have := HHt.out; omega)).mono ?_; rintro e w1 ⟨rfl, rfl⟩)
          go_roundw
          case rel => exact ⟨j + 1, false, by omega, by go_num, rfl, by simp; omega, HR.out.alloc _, hbel.alloc hbel.size _⟩
          case measure => simp [intOf]; omega
    · obtain rfl : j = len := by omega
      go_wp2
      go_ret
      refine ⟨congrArg (fun b => Ending.returned (.bool b)) (?_ : b = scB k n r l), hbel⟩
      rw [Bool.eq_iff_iff, HBI.out]
      simp only [scB, decide_eq_true_eq]
      constructor
      · intro h
        refine ⟨HH.out, fun m hm => ?_⟩
        obtain ⟨i, hi, rfl⟩ := List.getElem_of_mem hm
        exact HLO.out i hi (by rw [HL.out] at hi; omega)
      · rintro ⟨_, h⟩
        refine Nat.not_lt.1 fun hlt => ?_
        have hKl : K < l.length := by rw [HL.out]; exact hlt
        exact HE.out hKl hlt (h _ (List.getElem_mem hKl))

/-- How the loop of the reference ends where the head may not be. -/
theorem pright_f' (k n r : Int) (A : Option Addr) (len cap B : Nat) (l : List Mv) (w : World) (hl : l.length = len) (hlen : len ≤ 600) (hr : Reads w B 2 A len (flatM l)) (hB : B ≤ w.heap.size) (hH : ¬ HdOk k n r) :
    Calls Tryd.prog 34 #[scv k n r A len cap] w (ScEnd k n r l w) := by
  have hno : scB k n r l = false := by
    simp only [scB, decide_eq_false_iff_not]
    rintro ⟨h, _⟩
    exact hH h
  have HNO := Lib.hid hno
  have HL := Lib.hid hl
  have hcase : ¬ (1 ≤ k ∧ k ≤ 6) ∨ ((1 ≤ k ∧ k ≤ 6) ∧ ¬ (1 ≤ n ∧ n ≤ 8)) ∨ ((1 ≤ k ∧ k ≤ 6) ∧ (1 ≤ n ∧ n ≤ 8) ∧ ¬ (0 ≤ r ∧ r ≤ 5)) := by unfold HdOk at hH; omega
  clear hno hl hH
  rcases hcase with h | ⟨⟨h1, h2⟩, h⟩ | ⟨⟨h1, h2⟩, ⟨h3, h4⟩, h⟩
  all_goals
    have HX := Lib.hid h
    clear h
    go_enter Tryd.func34, Tryd.ntmps34
    go_wp2_with (go_at_call 78; first | (refine (within_t _ _ _ _ (by omega) (by omega)).mono ?_; rintro e w1 ⟨rfl, rfl⟩) | (refine (within_f _ _ _ _ (by have := HX.out; omega)).mono ?_; rintro e w1 ⟨rfl, rfl⟩))
    go_loopw [22, 3] (fun i ok wr => ∃ (j : Nat), j ≤ len ∧ i = .int .i64 j ∧ ok = .bool false ∧ Below w.heap.size w wr) (fun i _ _ => len - (intOf i).toNat)
    case atStart => exact ⟨0, Nat.zero_le _, rfl, rfl, (Below.refl _ _).alloc (Nat.le_refl _) _⟩
    case round =>
      obtain ⟨j, hj, rfl, rfl, hbel⟩ := hrel
      by_cases hlt2 : j < len
      · obtain ⟨ad, rfl, _, c0, c1⟩ := (hr.below (hbel.mono hB)).mv HL.out (k := j) hlt2
        generalize l[j]'(by rw [HL.out]; omega) = v at *
        go_wp2
        go_roundw
        case rel => exact ⟨j + 1, by omega, by go_num, rfl, hbel.alloc hbel.size _⟩
        case measure => simp [intOf]; omega
      · obtain rfl : j = len := by omega
        go_wp2
        go_ret
        exact ⟨by rw [HNO.out]; rfl, hbel⟩
theorem pright_any' (k n r : Int) (A : Option Addr) (len cap B : Nat) (l : List Mv) (w : World) (hl : l.length = len) (hlen : len ≤ 600) (hr : Reads w B 2 A len (flatM l)) (hB : B ≤ w.heap.size) :
    Calls Tryd.prog 34 #[scv k n r A len cap] w (ScEnd k n r l w) := by
  by_cases h : HdOk k n r
  · exact pright_t' k n r A len cap B l w hl hlen hr hB h
  · exact pright_f' k n r A len cap B l w hl hlen hr hB h
end Go.Proofs.YtepoahinnfjaiaaDoor
