/-
  The walks of JudgeChecks, part five: the reference's rounds, and the law. Conditions: errors.errorType is laid; the events lie below this call's memory.
-/
import Derived.Test.YtepoahinnfjaiaaDoorJuD
namespace Go.Proofs.YtepoahinnfjaiaaDoor
open Go.RowKit Go.Extern.Stop Go.Stop Go.Extern

def JRoundsEnd (n : Nat) (l : List Ev) (w : World) (e : Ending) (w' : World) : Prop :=
  ∃ a, e = .returned (.tuple #[.int .i64 a, .int .i64 (anyOf l)]) ∧ IsMin n (jfin (fun _ => 0) l) a ∧ Below w.heap.size w w'
theorem c_drop {l : List Ev} {k : Nat} (hk : k < l.length) (v : Int) : c2 v (l.drop k) = (if l[k].va = v ∧ l[k].wt = 2 then 1 else 0) + c2 v (l.drop (k + 1)) ∧ c1 v (l.drop k) = (if l[k].va = v then 1 else 0) + c1 v (l.drop (k + 1)) := by
  rw [List.drop_eq_getElem_cons hk]; exact ⟨rfl, rfl⟩

set_option maxRecDepth 100000 in
set_option maxHeartbeats 2000000 in
theorem jrounds_ok (n : Nat) (_hn1 : 1 ≤ n) (_hn : n ≤ 16) (A : Option Addr) (len cap B : Nat) (l : List Ev) (w : World) (hl : l.length = len) (hlen : len ≤ 200) (hr : Reads w B 4 A len (flatE l)) (hB : B ≤ w.heap.size)
    (hv : Valid n (fun _ => 0) l) (hany : anyOf l ≤ 1000) (a0 : Int) (hmin : IsMin n (jfin (fun _ => 0) l) a0) :
    Calls Tryd.prog 43 #[.slice A len cap, .int .i64 n] w (JRoundsEnd n l w) := by
  have HV := Lib.hid hv
  have HL := Lib.hid hl
  have HM := Lib.hid hmin
  have hma := min_le_any hv hmin
  have m0 := hma.1
  have m1 := hma.2
  have HA := Lib.hid (rfl : anyOf l = anyOf l)
  generalize hav : anyOf l = av at hany m1
  have HAV := Lib.hid hav
  clear hv hl hmin hma hav HA
  go_enter Tryd.func43, Tryd.ntmps43
  go_wp2
  go_loopw [6, 4, 7, 8, 10, 15] (fun i an _ _ _ _ wr => ∃ (v : Nat), 1 ≤ v ∧ (v : Int) ≤ av + 1 ∧ i = .int .i64 v ∧ an = .int .i64 (min ((v : Int) - 1) a0) ∧ Below w.heap.size w wr) (fun i _ _ _ _ _ _ => (av + 1 - intOf i).toNat)
  case atStart => exact ⟨1, by omega, by omega, rfl, by congr 1; omega, Below.refl _ _⟩
  case round =>
    obtain ⟨v, hv1, hv2, rfl, rfl, hbel⟩ := hrel
    obtain ⟨wo, rfl⟩ : ∃ wo : World, wo = wr := ⟨_, rfl⟩
    have hv0 : (0 : Int) ≤ v := by omega
    generalize hmi : min ((v : Int) - 1) a0 = mi
    have HMI := Lib.hid hmi
    clear hmi
    go_wp2
    go_loopw [15, 7, 8, 10] (fun i g c _ wr => ∃ (k gn cn : Nat), k ≤ len ∧ i = .int .i64 k ∧ g = .int .i64 gn ∧ c = .int .i64 cn ∧ gn ≤ k ∧ cn ≤ k ∧ gn + c2 v (l.drop k) = c2 v l ∧ cn + c1 v (l.drop k) = c1 v l ∧ Below w.heap.size w wr) (fun i _ _ _ _ => len - (intOf i).toNat)
    case atStart => exact ⟨0, 0, 0, Nat.zero_le _, rfl, rfl, rfl, Nat.le_refl _, Nat.le_refl _, by simp, by simp, hbel⟩
    case round =>
      obtain ⟨k, gn, cn, hk, rfl, rfl, rfl, hg, hc, hgc, hcc, hbel2⟩ := hrel
      have HG := Lib.hid hgc
      have HC := Lib.hid hcc
      clear hgc hcc
      by_cases hlt : k < len
      · obtain ⟨ad, rfl, hadB, c0, c1', c2', c3⟩ := (hr.below (hbel2.mono hB)).ev HL.out hlt
        have hlk : k < l.length := by rw [HL.out]; exact hlt
        have HD := Lib.hid (c_drop hlk v)
        generalize hev : l[k] = ev at *
        obtain ⟨wh, wt, th, va⟩ := ev
        simp only at c0 c1' c2' c3
        clear hev
        by_cases h1 : va = (v : Int)
        · have t1 : (va == (v : Int)) = true := by simpa using h1
          by_cases h2 : wt = 2
          · have t2 : (wt == 2) = true := by simpa using h2
            have HH := Lib.hid (And.intro h1 h2)
            clear h1 h2
            go_wp2
            go_roundw
            case rel =>
              refine ⟨k + 1, gn + 1, cn + 1, by omega, by go_num, by go_num, by go_num, by omega, by omega, ?_, ?_, hbel2.alloc hbel2.size _⟩
              · have := HD.out.1; have := HG.out; rw [if_pos HH.out] at *; omega
              · have := HD.out.2; have := HC.out; rw [if_pos HH.out.1] at *; omega
            case measure => simp [intOf]; omega
          · have t2 : (wt == 2) = false := by simpa using h2
            have HH := Lib.hid h1
            have H2 := Lib.hid h2
            clear h1 h2
            go_wp2
            go_roundw
            case rel =>
              refine ⟨k + 1, gn, cn + 1, by omega, by go_num, rfl, by go_num, by omega, by omega, ?_, ?_, hbel2.alloc hbel2.size _⟩
              · have := HD.out.1; have := HG.out; rw [if_neg (fun h => H2.out h.2)] at *; omega
              · have := HD.out.2; have := HC.out; rw [if_pos HH.out] at *; omega
            case measure => simp [intOf]; omega
        · have t1 : (va == (v : Int)) = false := by simpa using h1
          have HH := Lib.hid h1
          clear h1
          go_wp2
          go_roundw
          case rel =>
            refine ⟨k + 1, gn, cn, by omega, by go_num, rfl, rfl, by omega, by omega, ?_, ?_, hbel2.alloc hbel2.size _⟩
            · have := HD.out.1; have := HG.out; rw [if_neg (fun h => HH.out h.1)] at *; omega
            · have := HD.out.2; have := HC.out; rw [if_neg HH.out] at *; omega
          case measure => simp [intOf]; omega
      · obtain rfl : k = len := by omega
        have hd : l.drop k = [] := List.drop_eq_nil_of_le (by rw [HL.out]; exact Nat.le_refl _)
        have hg2 : gn = c2 v l := by have := HG.out; rw [hd] at this; simpa [c2] using this
        have hc2 : cn = c1 v l := by have := HC.out; rw [hd] at this; simpa [c1] using this
        have q1 : gn = n ↔ (v : Int) ≤ a0 := by rw [hg2]; exact c2_all HV.out HM.out (by omega)
        have q2 : cn = 0 ↔ av < (v : Int) := by rw [hc2, c1_none HV.out (by omega), HAV.out]
        have Q1 := Lib.hid q1
        have Q2 := Lib.hid q2
        clear hd hg2 hc2 q1 q2
        by_cases h1 : gn = n
        · have t1 : ((gn : Int) == (n : Int)) = true := by simp; omega
          by_cases h2 : cn = 0
          · have t2 : ((cn : Int) == 0) = true := by simpa using h2
            have H1 := Lib.hid h1
            have H2 := Lib.hid h2
            clear h1 h2
            go_wp2
            go_ret2
            have e1 := Q1.out.1 H1.out
            have e2 := Q2.out.1 H2.out
            refine ⟨a0, ?_, HM.out, hbel2⟩
            rw [HAV.out]
            omega
          · have t2 : ((cn : Int) == 0) = false := by simpa using h2
            have H1 := Lib.hid h1
            have H2 := Lib.hid h2
            clear h1 h2
            go_wp2
            go_roundw
            case rel =>
              have e1 := Q1.out.1 H1.out
              have e2 : ¬ av < (v : Int) := fun h => H2.out (Q2.out.2 h)
              exact ⟨v + 1, by omega, by omega, by go_num, by congr 1; omega, hbel2⟩
            case measure =>
              have e2 : ¬ av < (v : Int) := fun h => H2.out (Q2.out.2 h)
              simp [intOf]; omega
        · have t1 : ((gn : Int) == (n : Int)) = false := by simp; omega
          by_cases h2 : cn = 0
          · have t2 : ((cn : Int) == 0) = true := by simpa using h2
            have H1 := Lib.hid h1
            have H2 := Lib.hid h2
            clear h1 h2
            go_wp2
            go_ret2
            have e1 : ¬ (v : Int) ≤ a0 := fun h => H1.out (Q1.out.2 h)
            have e2 := Q2.out.1 H2.out
            have e3 := HMI.out
            refine ⟨a0, ?_, HM.out, hbel2⟩
            rw [HAV.out, show a0 = mi from by omega, show av = (v : Int) - 1 from by omega]
            rfl
          · have t2 : ((cn : Int) == 0) = false := by simpa using h2
            have H1 := Lib.hid h1
            have H2 := Lib.hid h2
            clear h1 h2
            go_wp2
            go_roundw
            case rel =>
              have e1 : ¬ (v : Int) ≤ a0 := fun h => H1.out (Q1.out.2 h)
              have e2 : ¬ av < (v : Int) := fun h => H2.out (Q2.out.2 h)
              have e3 := HMI.out
              exact ⟨v + 1, by omega, by omega, by go_num, by congr 1; omega, hbel2⟩
            case measure =>
              have e2 : ¬ av < (v : Int) := fun h => H2.out (Q2.out.2 h)
              simp [intOf]; omega
end Go.Proofs.YtepoahinnfjaiaaDoor
