/-
  The walks of JudgeChecks, part four: how many rounds it was, in the program and in the reference. Conditions: nothing is wrong with the events, which lie below this call's memory.
-/
import Derived.Test.YtepoahinnfjaiaaDoorJuC
import Derived.Test.YtepoahinnfjaiaaDoorJuPlain
namespace Go.Proofs.YtepoahinnfjaiaaDoor
open Go.RowKit Go.Extern.Stop Go.Stop Go.Extern

def RoundsEnd (n : Nat) (l : List Ev) (w : World) (e : Ending) (w' : World) : Prop :=
  ∃ a, e = .returned (.tuple #[.int .i64 a, .int .i64 (anyOf l), .nilIface]) ∧ IsMin n (jfin (fun _ => 0) l) a ∧ Below w.heap.size w w'

set_option maxRecDepth 100000 in
set_option maxHeartbeats 2000000 in
theorem rounds_ok (n : Nat) (hn1 : 1 ≤ n) (hn : n ≤ 16) (A : Option Addr) (len cap B : Nat) (l : List Ev) (w : World) (hl : l.length = len) (hlen : len ≤ 200) (hr : Reads w B 4 A len (flatE l)) (hB : B ≤ w.heap.size)
    (hv : (jrun n 0 (fun _ => 0) l) = (0, -1)) (hval : ∀ e ∈ l, 0 ≤ e.va ∧ e.va ≤ 1000) :
    Calls Tryd.prog 39 #[.slice A len cap, .int .i64 n] w (RoundsEnd n l w) := by
  have hmk := fun w => run_make_row' (P := Tryd.prog) 50 3 (.int .i64 0) 8 Tryd.underlying50 Tryd.info3 rfl .i64 .i64 n (by omega) (by omega) w
  have HV := Lib.hid hv
  have HL := Lib.hid hl
  have hck : Calls Tryd.prog 41 #[.slice A len cap, .int .i64 n] w fun e w' => e = .returned .nilIface ∧ Below w.heap.size w w' := by
    refine (check_ok n hn1 hn A len cap B l w hl hlen hr hB).mono fun e w' ⟨v, he, hi, hb⟩ => ⟨?_, hb⟩
    rw [hv] at hi
    rw [he, hi.none_]
  have HC := Lib.hid hck
  have HVA := Lib.hid hval
  clear hck hv hl hval
  go_enter Tryd.func39, Tryd.ntmps39
  go_wp2_with (go_at_call 41; refine HC.out.mono ?_; rintro e w1 ⟨rfl, hb1⟩)
  have hR0 := World.rowIs_made w1 (.int .i64 0) n 3
  have hB1 := hb1.alloc hb1.size (.cells (madeCells #[.int .i64 0] n) 3)
  have hs1 := hb1.size
  generalize hbl : w1.heap.size = bl at *
  clear hbl
  go_loopw [23, 5] (fun i an wr => ∃ (k : Nat) (S : Nat → Nat) (av : Int), k ≤ len ∧ i = .int .i64 k ∧ an = .int .i64 av ∧ 0 ≤ av ∧ av ≤ 1000 ∧ wr.rowIs bl 3 n (gon S) ∧ (∀ t, S t ≤ k) ∧ Valid n S (l.drop k) ∧ jfin (fun _ => 0) l = jfin S (l.drop k) ∧ anyOf l = (l.drop k).foldl (fun a e => max a e.va) av ∧ Below w.heap.size w wr) (fun i _ _ => len - (intOf i).toNat)
  case atStart =>
    exact ⟨0, fun _ => 0, 0, Nat.zero_le _, rfl, rfl, by omega, by omega, hR0.congr fun j _ => by simp [gon], fun _ => Nat.le_refl _, valid_of (i := 0) (by rw [List.drop_zero, HV.out]), rfl, rfl, hB1⟩
  case round =>
    obtain ⟨k, S, av, hk, rfl, rfl, ha0, ha1, hR, hS, hva, hfi, han, hbel⟩ := hrel
    have HR := Lib.hid hR
    have HS := Lib.hid hS
    have HW := Lib.hid hva
    have HF := Lib.hid hfi
    have HN := Lib.hid han
    clear hR hS hva hfi han hR0
    by_cases hlt : k < len
    · obtain ⟨ad, rfl, hadB, c0, c1, c2, c3⟩ := (hr.below (hbel.mono hB)).ev HL.out hlt
      have hlk : k < l.length := by rw [HL.out]; exact hlt
      have HD := Lib.hid (List.drop_eq_getElem_cons hlk)
      have hmem := HVA.out l[k] (List.getElem_mem hlk)
      generalize hv : l[k] = v at *
      obtain ⟨wh, wt, th, va⟩ := v
      simp only at c0 c1 c2 c3 hmem
      clear hv
      have hW := HW.out
      rw [HD.out] at hW
      obtain ⟨hj, hW2⟩ := hW
      have HJ := Lib.hid hj
      have HW2 := Lib.hid hW2
      obtain ⟨hw12, ht0, htn, hwt, hva⟩ := jcode_zero hj
      simp only at hw12 ht0 htn hwt hva
      obtain ⟨t, rfl⟩ := Int.eq_ofNat_of_zero_le ht0
      simp only [Int.toNat_natCast] at hwt hva hj hW2
      have ht : t < n := by omega
      have ct := HR.out.cell ht
      have ft := HR.out.frozen t
      have hSt := HS.out t
      have hlb := HR.out.lt
      have m0 := hmem.1
      have m1 := hmem.2
      have HVv := Lib.hid hva
      have HWt := Lib.hid hwt
      clear hj hW2 hwt hva hmem
      unfold gon at ct
      generalize hx : ((S t / 2 : Nat) : Int) = x at *
      have HX := Lib.hid hx
      have hx0 : 0 ≤ x := by omega
      have hx1 : x ≤ 200 := by omega
      clear hx
      rcases hw12 with rfl | rfl
      · go_wp2
        go_roundw
        case rel =>
          refine ⟨k + 1, jupd S t, max av va, by omega, by go_num, by congr 1; split <;> omega, by omega, by omega, (HR.out.alloc _).congr fun j _ => ?_, fun j => ?_, HW2.out, ?_, ?_, hbel.alloc hbel.size _⟩
          · have := HWt.out
            simp only [gon, jupd]
            split
            · rename_i hj; subst hj; congr 1; omega
            · rfl
          · have := HS.out j
            unfold jupd
            split <;> omega
          · rw [HF.out, HD.out]; rfl
          · rw [HN.out, HD.out]; rfl
        case measure => simp [intOf]; omega
      · go_wp2
        go_roundw
        case rel =>
          refine ⟨k + 1, jupd S t, max av va, by omega, by go_num, by congr 1; split <;> omega, by omega, by omega, ?_, fun j => ?_, HW2.out, ?_, ?_, ?_⟩
          · refine ((HR.out.set t _).alloc _).congr fun j _ => ?_
            have := HWt.out
            have := HX.out
            simp only [gon, jupd]
            split
            · rename_i hj; subst hj; congr 1; omega
            · rfl
          · have := HS.out j
            unfold jupd
            split <;> omega
          · rw [HF.out, HD.out]; rfl
          · rw [HN.out, HD.out]; rfl
          · exact (hbel.setCell (by simpa using hs1) _).alloc (by simpa using hbel.size) _
        case measure => simp [intOf]; omega
    · obtain rfl : k = len := by omega
      have hd : l.drop k = [] := List.drop_eq_nil_of_le (by rw [HL.out]; exact Nat.le_refl _)
      have hfS : jfin (fun _ => 0) l = S := by rw [HF.out, hd]; rfl
      have haV : anyOf l = av := by rw [HN.out, hd]; rfl
      have HfS := Lib.hid hfS
      have HaV := Lib.hid haV
      clear hd hfS haV
      have c00 := HR.out.cell (i := 0) (by omega)
      unfold gon at c00
      have hS0 := HS.out 0
      generalize hx : ((S 0 / 2 : Nat) : Int) = x at *
      have HX := Lib.hid hx
      have hx0 : 0 ≤ x := by omega
      have hx1 : x ≤ 200 := by omega
      clear hx
      have hn0 : (0 : Int) < (n : Int) := by omega
      have hn0' : 0 < n := by omega
      go_wp2
      go_loop [47, 4, 12] (fun i an _ => ∃ (j : Nat) (a : Int), j ≤ n ∧ i = .int .i64 j ∧ an = .int .i64 a ∧ 0 ≤ a ∧ a ≤ 200 ∧ (∀ t, t < j → a ≤ ((S t / 2 : Nat) : Int)) ∧ ∃ t, t < n ∧ a = ((S t / 2 : Nat) : Int)) (fun i _ _ => n - (intOf i).toNat)
      case atStart => exact ⟨0, x, Nat.zero_le _, rfl, rfl, hx0, hx1, fun t ht => by omega, 0, by omega, HX.out.symm⟩
      case round =>
        obtain ⟨j, a, hj, rfl, rfl, ha0', ha1', hlo, hat⟩ := hrel
        have HLo := Lib.hid hlo
        have HAt := Lib.hid hat
        clear hlo hat
        by_cases hjn : j < n
        · have cj := HR.out.cell hjn
          unfold gon at cj
          have hSj := HS.out j
          generalize hy : ((S j / 2 : Nat) : Int) = y at *
          have HY := Lib.hid hy
          have hy0 : 0 ≤ y := by omega
          have hy1 : y ≤ 200 := by omega
          clear hy
          go_wp2
          go_round
          case rel =>
            refine ⟨j + 1, min a y, by omega, by go_num, by congr 1; split <;> omega, by omega, by omega, fun t ht => ?_, ?_⟩
            · by_cases htj : t = j
              · subst htj; have := HY.out; omega
              · have := HLo.out t (by omega); omega
            · by_cases hay : a ≤ y
              · obtain ⟨t, ht, e⟩ := HAt.out
                exact ⟨t, ht, by omega⟩
              · exact ⟨j, hjn, by have := HY.out; omega⟩
          case measure => simp [intOf]; omega
        · obtain rfl : j = n := by omega
          go_wp2
          go_ret3
          refine ⟨a, by rw [HaV.out]; rfl, ?_, hbel⟩
          rw [HfS.out]
          exact ⟨HLo.out, HAt.out⟩
end Go.Proofs.YtepoahinnfjaiaaDoor
