/-
  The walks of JudgeChecks, part two: judge.one by the plain machine, and judge.Check. Conditions: errors.errorType is laid; the events lie below this call's memory.
-/
import Derived.Test.YtepoahinnfjaiaaDoorJuA
import Derived.Test.YtepoahinnfjaiaaDoorErr
import Derived.Deep.RegionHeld3
import Derived.BigRegion
namespace Go.Proofs.YtepoahinnfjaiaaDoor
open Go.RowKit Go.Extern.Stop Go.Stop Go.Extern

def cam (S : Nat → Nat) (j : Nat) : Value := .int .i64 (((S j + 1) / 2 : Nat) : Int)
def gon (S : Nat → Nat) (j : Nat) : Value := .int .i64 ((S j / 2 : Nat) : Int)
theorem first_low (F : Nat → Int) (x : Int) : ∀ n : Nat, ∃ N, N ≤ n ∧ (∀ j, j < N → x ≤ F j) ∧ (N < n → F N < x)
  | 0 => ⟨0, Nat.le_refl _, fun j h => by omega, fun h => by omega⟩
  | n + 1 => by
    obtain ⟨N, h1, h2, h3⟩ := first_low F x n
    by_cases hN : N < n
    · exact ⟨N, by omega, h2, fun _ => h3 hN⟩
    · obtain rfl : N = n := by omega
      by_cases hx : F N < x
      · exact ⟨N, by omega, h2, fun _ => hx⟩
      · exact ⟨N + 1, by omega, fun j hj => by
          by_cases hjn : j = N
          · subst hjn; omega
          · exact h2 j (by omega), fun h => by omega⟩
/-- What becomes of an event. -/
def OneEnd (n : Nat) (S : Nat → Nat) (v : Ev) (b c m : Nat) (w : World) (e : Ending) (w' : World) : Prop :=
  e = .returned (.int .i64 (jcode n S v)) ∧ Below m w w' ∧ (jcode n S v = 0 → w'.rowIs b 3 n (cam (jupd S v.th.toNat)) ∧ w'.rowIs c 3 n (gon (jupd S v.th.toNat)))
theorem one_end_bad {n : Nat} {S : Nat → Nat} {v : Ev} {b c m : Nat} {w : World} {k : Int} (hk : jcode n S v = k) (h0 : k ≠ 0) (hm : m ≤ w.heap.size) {e : Ending} {w' : World}
    (h : e = .returned (.int .i64 k) ∧ Below w.heap.size w w') : OneEnd n S v b c m w e w' :=
  ⟨by rw [hk]; exact h.1, h.2.mono hm, fun h1 => absurd (hk.symm.trans h1) h0⟩
abbrev evo (v : Ev) : Value := evv v.wh v.wt v.th v.va
theorem one_calls (n : Nat) (S : Nat → Nat) (v : Ev) (b c m : Nat) (w : World) (hn : n ≤ 16) (hb : w.rowIs b 3 n (cam S)) (hc : w.rowIs c 3 n (gon S)) (hbc : b ≠ c)
    (hmb : m ≤ b) (hmc : m ≤ c) (hS : ∀ t, S t ≤ 1000) : Calls Tryd.prog 82 #[evo v, rowv b n, rowv c n] w (OneEnd n S v b c m w) := by
  have hmw : m ≤ w.heap.size := by have := hb.lt; omega
  obtain ⟨wh, wt, th, va⟩ := v
  by_cases h1 : wt = 1 ∨ wt = 2
  · by_cases h2 : th < 0 ∨ (n : Int) ≤ th
    · exact (one_b wh wt th va b c n w h1 h2).mono fun e w' h => one_end_bad (by unfold jcode; simp only; rw [if_neg (by omega), if_pos h2]) (by omega) hmw h
    · obtain ⟨t, rfl⟩ := Int.eq_ofNat_of_zero_le (a := th) (by omega)
      have ht : t < n := by omega
      have hSt := hS t
      rcases h1 with rfl | rfl
      · by_cases h3 : S t % 2 = 0
        · by_cases h4 : va = ((S t / 2 + 1 : Nat) : Int)
          · refine (one_1ok wh va (((S t + 1) / 2 : Nat) : Int) ((S t / 2 : Nat) : Int) b c n t (cam S) (gon S) w ht hn hb hc rfl rfl (by omega) (by omega) (by omega) (by omega) hbc m hmb (by omega) (by omega)).mono fun e w' h => ?_
            have hj : jcode n S ⟨wh, 1, (t : Int), va⟩ = 0 := by
              unfold jcode; simp only [Int.toNat_natCast]
              rw [if_neg (by omega), if_neg (by omega), if_neg (by omega), if_neg (by rintro ⟨h, _⟩; omega)]
            refine ⟨by rw [hj]; exact h.1, h.2.2.2, fun _ => ⟨h.2.1.congr fun j _ => ?_, h.2.2.1.congr fun j _ => ?_⟩⟩
            · simp only [cam, jupd, Int.toNat_natCast]
              split
              · rename_i hj; subst hj; congr 1; omega
              · rfl
            · simp only [gon, jupd, Int.toNat_natCast]
              split
              · rename_i hj; subst hj; congr 1; omega
              · rfl
          · have hj : jcode n S ⟨wh, 1, (t : Int), va⟩ = 10 := by
              unfold jcode; simp only [Int.toNat_natCast]
              rw [if_neg (by omega), if_neg (by omega), if_pos (.inr h4)]
            exact (one_1va wh va (((S t + 1) / 2 : Nat) : Int) ((S t / 2 : Nat) : Int) b c n t (cam S) (gon S) w ht hn hb hc rfl rfl (by omega) (by omega) (by omega) (by omega) (by omega) (by simp; omega)).mono fun e w' h => one_end_bad hj (by omega) hmw h
        · have hj : jcode n S ⟨wh, 1, (t : Int), va⟩ = 10 := by
            unfold jcode; simp only [Int.toNat_natCast]
            rw [if_neg (by omega), if_neg (by omega), if_pos (.inl (by omega))]
          exact (one_1ne wh va (((S t + 1) / 2 : Nat) : Int) ((S t / 2 : Nat) : Int) b c n t (cam S) (gon S) w ht hn hb hc rfl rfl (by omega) (by omega) (by omega) (by omega) (by simp; omega)).mono fun e w' h => one_end_bad hj (by omega) hmw h
      · by_cases h3 : S t % 2 = 0
        · have hj : jcode n S ⟨wh, 2, (t : Int), va⟩ = 10 := by
            unfold jcode; simp only [Int.toNat_natCast]
            rw [if_neg (by omega), if_neg (by omega), if_pos (.inl (by omega))]
          exact (one_2eq wh va (((S t + 1) / 2 : Nat) : Int) ((S t / 2 : Nat) : Int) b c n t (cam S) (gon S) w ht hn hb hc rfl rfl (by omega) (by omega) (by omega) (by omega) (by simp; omega)).mono fun e w' h => one_end_bad hj (by omega) hmw h
        · by_cases h4 : va = ((S t / 2 + 1 : Nat) : Int)
          · obtain ⟨N, hN, hlow, hend⟩ := first_low (fun j => (((S j + 1) / 2 : Nat) : Int)) (((S t + 1) / 2 : Nat) : Int) n
            refine (one_2loop wh va (((S t + 1) / 2 : Nat) : Int) ((S t / 2 : Nat) : Int) b c n t (cam S) (gon S) w ht hn hb hc rfl rfl (by omega) (by omega) (by omega) (by omega) hbc m hmc (by simp; omega) (by omega) _ (fun j _ => rfl) N hN hlow hend).mono fun e w' h => ?_
            by_cases hNn : N < n
            · have hj : jcode n S ⟨wh, 2, (t : Int), va⟩ = 13 := by
                unfold jcode; simp only [Int.toNat_natCast]
                have := hend hNn
                rw [if_neg (by omega), if_neg (by omega), if_neg (by omega), if_pos ⟨trivial, N, hNn, by omega⟩]
              exact one_end_bad hj (by omega) hmw (h.1 hNn)
            · obtain rfl : N = n := by omega
              have hj : jcode N S ⟨wh, 2, (t : Int), va⟩ = 0 := by
                unfold jcode; simp only [Int.toNat_natCast]
                rw [if_neg (by omega), if_neg (by omega), if_neg (by omega), if_neg]
                rintro ⟨_, j, hj, hl⟩
                have := hlow j hj
                omega
              have hh := h.2 rfl
              refine ⟨by rw [hj]; exact hh.1, hh.2.2.2, fun _ => ⟨hh.2.1.congr fun j _ => ?_, hh.2.2.1.congr fun j _ => ?_⟩⟩
              · simp only [cam, jupd, Int.toNat_natCast]
                split
                · rename_i hj; subst hj; congr 1; omega
                · rfl
              · simp only [gon, jupd, Int.toNat_natCast]
                split
                · rename_i hj; subst hj; congr 1; omega
                · rfl
          · have hj : jcode n S ⟨wh, 2, (t : Int), va⟩ = 10 := by
              unfold jcode; simp only [Int.toNat_natCast]
              rw [if_neg (by omega), if_neg (by omega), if_pos (.inr h4)]
            exact (one_2va wh va (((S t + 1) / 2 : Nat) : Int) ((S t / 2 : Nat) : Int) b c n t (cam S) (gon S) w ht hn hb hc rfl rfl (by omega) (by omega) (by omega) (by omega) (by simp; omega) (by simp; omega)).mono fun e w' h => one_end_bad hj (by omega) hmw h
  · have hj : jcode n S ⟨wh, wt, th, va⟩ = 1 := by
      unfold jcode; simp only
      rw [if_pos (by omega)]
    exact (one_a wh wt th va b c n w (by simp; omega) (by simp; omega)).mono fun e w' h => one_end_bad hj (by omega) hmw h

theorem Tryd.info3 : (Tryd.prog.info? 3).map (fun i => (i.zero, i.size, i.bytes)) = some (some (.int .i64 0), 1, 8) := by kernel_rfl
def evc (v : Ev) : List Value := [.int .i64 v.wh, .int .i64 v.wt, .int .i64 v.th, .int .i64 v.va]
def flatE (l : List Ev) : List Value := l.flatMap evc
theorem evc_len (v : Ev) : (evc v).length = 4 := rfl
theorem add_split (a : Addr) (i j : Nat) : a.add (i + (j + 1)) = ⟨(a.add i).block, (a.add i).off + (j + 1), none⟩ := by
  rw [← add_of_add]; rfl
/-- The cells of event k. -/
theorem Reads.ev {w : World} {B n k : Nat} {A : Option Addr} {l : List Ev} (h : Reads w B 4 A n (flatE l)) (hn : l.length = n) (hk : k < n) :
    ∃ ad, A = some ad ∧ ad.block < B ∧ w.cell? (ad.add (k * 4)) = some (.int .i64 (l[k]'(by omega)).wh) ∧ w.cell? ⟨(ad.add (k * 4)).block, (ad.add (k * 4)).off + 1, none⟩ = some (.int .i64 (l[k]'(by omega)).wt) ∧
      w.cell? ⟨(ad.add (k * 4)).block, (ad.add (k * 4)).off + 2, none⟩ = some (.int .i64 (l[k]'(by omega)).th) ∧ w.cell? ⟨(ad.add (k * 4)).block, (ad.add (k * 4)).off + 3, none⟩ = some (.int .i64 (l[k]'(by omega)).va) := by
  obtain ⟨ad, e, hb, hc⟩ := h.2 (by omega)
  have g := fun j hj => flatMap_get evc_len l k j (by omega) hj
  refine ⟨ad, e, hb, hc _ _ (g 0 (by omega)), ?_, ?_, ?_⟩
  · rw [← add_split ad (k * 4) 0]; exact hc _ _ (g 1 (by omega))
  · rw [← add_split ad (k * 4) 1]; exact hc _ _ (g 2 (by omega))
  · rw [← add_split ad (k * 4) 2]; exact hc _ _ (g 3 (by omega))

/-- How Check ends. -/
def CheckEnd (n : Nat) (l : List Ev) (w : World) (e : Ending) (w' : World) : Prop :=
  ∃ v, e = .returned v ∧ IsErr w' v (jrun n 0 (fun _ => 0) l).1 (jrun n 0 (fun _ => 0) l).2 ∧ Below w.heap.size w w'
set_option maxHeartbeats 1000000 in
theorem check_ok (n : Nat) (hn1 : 1 ≤ n) (hn : n ≤ 16) (A : Option Addr) (len cap B : Nat) (l : List Ev) (w : World) (hl : l.length = len) (hlen : len ≤ 200) (hr : Reads w B 4 A len (flatE l)) (hB : B ≤ w.heap.size) :
    Calls Tryd.prog 41 #[.slice A len cap, .int .i64 n] w (CheckEnd n l w) := by
  have hmk := fun w => run_make_row' (P := Tryd.prog) 50 3 (.int .i64 0) 8 Tryd.underlying50 Tryd.info3 rfl .i64 .i64 n (by omega) (by omega) w
  go_enter Tryd.func41, Tryd.ntmps41
  go_wp2
  go_region
  · go_wp2
    go_loopw [23, 7, 8, 9] (fun i _ _ _ wr => ∃ (k : Nat) (S : Nat → Nat), k ≤ len ∧ i = .int .i64 k ∧ wr.rowIs (w.heap.size) 3 n (cam S) ∧ wr.rowIs (w.heap.size + 1) 3 n (gon S) ∧ (∀ t, S t ≤ k) ∧ jrun n 0 (fun _ => 0) l = jrun n k S (l.drop k) ∧ Below w.heap.size w wr) (fun i _ _ _ _ => len - (intOf i).toNat)
    case atStart =>
      refine ⟨0, fun _ => 0, Nat.zero_le _, rfl, ?_, ?_, fun _ => Nat.le_refl _, rfl, ?_⟩
      · exact (((World.rowIs_made w (.int .i64 0) n 3).congr fun j _ => by simp [cam]).alloc _).drew
      · have := World.rowIs_made (w.alloc (.cells (madeCells #[.int .i64 0] n) 3)) (.int .i64 0) n 3; simp only [World.size_alloc] at this; exact (this.congr fun j _ => by simp [gon]).drew
      · exact (((Below.refl _ _).alloc (Nat.le_refl _) _).alloc (by simp) _).drew
    case round =>
      obtain ⟨k, S, hk, rfl, hb, hc, hS, hj, hbel⟩ := hrel
      have HJ := Lib.hid hj
      have HB := Lib.hid hb
      have HC := Lib.hid hc
      have HS := Lib.hid hS
      have HL := Lib.hid hl
      clear hj hb hc hS hl
      by_cases hlt : k < len
      · obtain ⟨ad, rfl, hadB, c0, c1, c2, c3⟩ := (hr.below (hbel.mono hB)).ev HL.out hlt
        have hlk : k < l.length := by rw [HL.out]; exact hlt
        have hd : l.drop k = l[k] :: l.drop (k + 1) := List.drop_eq_getElem_cons hlk
        have HD := Lib.hid hd
        clear hd
        have ho := one_calls n S l[k] (w.heap.size) (w.heap.size + 1) w.heap.size (wr.alloc (.cells (evc l[k]).toArray 143)) hn (HB.out.alloc _) (HC.out.alloc _) (by omega) (by omega) (by omega) (fun t => by have := HS.out t; omega)
        have HO := Lib.hid ho
        clear ho
        have hwr := hbel.size
        by_cases hc0 : jcode n S l[k] = 0
        · have HZ := Lib.hid hc0
          clear hc0
          go_wp2_with fail
          refine HO.out.mono ?_
          rintro e w1 ⟨rfl, hb1, hrows⟩
          obtain ⟨hr1, hr2⟩ := hrows HZ.out
          rw [HZ.out]
          have HB1 := Lib.hid hr1
          have HC1 := Lib.hid hr2
          clear hrows hr1 hr2
          go_wp2
          go_roundw
          case rel =>
            refine ⟨k + 1, jupd S l[k].th.toNat, by omega, by go_num, HB1.out, HC1.out, fun t => ?_, ?_, ?_⟩
            · have := HS.out t
              unfold jupd
              split <;> omega
            · rw [HJ.out, HD.out, jrun_ok HZ.out]
            · exact (hbel.alloc hwr _).trans hb1
          case measure => simp [intOf]; omega
        · have hne : (jcode n S l[k] != 0) = true := by simpa using hc0
          have HZ := Lib.hid hc0
          clear hc0
          go_wp2_with fail
          refine HO.out.mono ?_
          rintro e w1 ⟨rfl, hb1, hrows⟩
          clear hrows
          go_wp2
          go_ret
          have hbb : Below w.heap.size w w1 := (hbel.alloc hwr _).trans hb1
          refine ⟨_, rfl, ?_, hbb.alloc hbb.size _⟩
          rw [HJ.out, HD.out, jrun_bad HZ.out]
          exact .inr (.inr ⟨_, _, rfl, HZ.out, by simp, by simp⟩)
      · obtain rfl : k = len := by omega
        go_wp2
        go_ret
        refine ⟨_, rfl, ?_, hbel⟩
        have hd : l.drop k = [] := List.drop_eq_nil_of_le (by rw [HL.out]; exact Nat.le_refl _)
        rw [HJ.out, hd]
        exact IsErr.nil_ _
  · go_wp2
    go_loopw [23, 7, 8, 9] (fun i _ _ _ wr => ∃ (k : Nat) (S : Nat → Nat), k ≤ len ∧ i = .int .i64 k ∧ wr.rowIs (w.heap.size + 1) 3 n (cam S) ∧ wr.rowIs (w.heap.size) 3 n (gon S) ∧ (∀ t, S t ≤ k) ∧ jrun n 0 (fun _ => 0) l = jrun n k S (l.drop k) ∧ Below w.heap.size w wr) (fun i _ _ _ _ => len - (intOf i).toNat)
    case atStart =>
      refine ⟨0, fun _ => 0, Nat.zero_le _, rfl, ?_, ?_, fun _ => Nat.le_refl _, rfl, ?_⟩
      · have := World.rowIs_made (w.alloc (.cells (madeCells #[.int .i64 0] n) 3)) (.int .i64 0) n 3; simp only [World.size_alloc] at this; exact (this.congr fun j _ => by simp [cam]).drew
      · exact (((World.rowIs_made w (.int .i64 0) n 3).congr fun j _ => by simp [gon]).alloc _).drew
      · exact (((Below.refl _ _).alloc (Nat.le_refl _) _).alloc (by simp) _).drew
    case round =>
      obtain ⟨k, S, hk, rfl, hb, hc, hS, hj, hbel⟩ := hrel
      have HJ := Lib.hid hj
      have HB := Lib.hid hb
      have HC := Lib.hid hc
      have HS := Lib.hid hS
      have HL := Lib.hid hl
      clear hj hb hc hS hl
      by_cases hlt : k < len
      · obtain ⟨ad, rfl, hadB, c0, c1, c2, c3⟩ := (hr.below (hbel.mono hB)).ev HL.out hlt
        have hlk : k < l.length := by rw [HL.out]; exact hlt
        have hd : l.drop k = l[k] :: l.drop (k + 1) := List.drop_eq_getElem_cons hlk
        have HD := Lib.hid hd
        clear hd
        have ho := one_calls n S l[k] (w.heap.size + 1) (w.heap.size) w.heap.size (wr.alloc (.cells (evc l[k]).toArray 143)) hn (HB.out.alloc _) (HC.out.alloc _) (by omega) (by omega) (by omega) (fun t => by have := HS.out t; omega)
        have HO := Lib.hid ho
        clear ho
        have hwr := hbel.size
        by_cases hc0 : jcode n S l[k] = 0
        · have HZ := Lib.hid hc0
          clear hc0
          go_wp2_with fail
          refine HO.out.mono ?_
          rintro e w1 ⟨rfl, hb1, hrows⟩
          obtain ⟨hr1, hr2⟩ := hrows HZ.out
          rw [HZ.out]
          have HB1 := Lib.hid hr1
          have HC1 := Lib.hid hr2
          clear hrows hr1 hr2
          go_wp2
          go_roundw
          case rel =>
            refine ⟨k + 1, jupd S l[k].th.toNat, by omega, by go_num, HB1.out, HC1.out, fun t => ?_, ?_, ?_⟩
            · have := HS.out t
              unfold jupd
              split <;> omega
            · rw [HJ.out, HD.out, jrun_ok HZ.out]
            · exact (hbel.alloc hwr _).trans hb1
          case measure => simp [intOf]; omega
        · have hne : (jcode n S l[k] != 0) = true := by simpa using hc0
          have HZ := Lib.hid hc0
          clear hc0
          go_wp2_with fail
          refine HO.out.mono ?_
          rintro e w1 ⟨rfl, hb1, hrows⟩
          clear hrows
          go_wp2
          go_ret
          have hbb : Below w.heap.size w w1 := (hbel.alloc hwr _).trans hb1
          refine ⟨_, rfl, ?_, hbb.alloc hbb.size _⟩
          rw [HJ.out, HD.out, jrun_bad HZ.out]
          exact .inr (.inr ⟨_, _, rfl, HZ.out, by simp, by simp⟩)
      · obtain rfl : k = len := by omega
        go_wp2
        go_ret
        refine ⟨_, rfl, ?_, hbel⟩
        have hd : l.drop k = [] := List.drop_eq_nil_of_le (by rw [HL.out]; exact Nat.le_refl _)
        rw [HJ.out, hd]
        exact IsErr.nil_ _
end Go.Proofs.YtepoahinnfjaiaaDoor
