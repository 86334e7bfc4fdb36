/-
  The law LinReplays is proved here, as a walk: both texts answer alike at every phase, calls and points. Conditions: errors.errorType is laid; calls and points lie below this call's memory; no list of calls is beyond all addresses.
-/
import Derived.Test.YtepoahinnfjaiaaDoorLinW
import Derived.Test.YtepoahinnfjaiaaDoorLinY
import Derived.Test.YtepoahinnfjaiaaDoorErr
import Derived.Laws.StructEq
import Derived.Deep.DeepMust
import Derived.Deep.Cut
namespace Go.Proofs.YtepoahinnfjaiaaDoor
open Go.RowKit Go.Extern.Stop Go.Stop Go.Extern

theorem equal_int (A A' : Option Addr) (n c c' B B' : Nat) (xs : List Value) (w : World) (hr : Reads w B 1 A n xs) (hr' : Reads w B' 1 A' n xs)
    (h1 : ∀ u ∈ xs, ∃ k : Int, u = .int .i64 k) (hn : n ≤ 140737488355328) :
    Calls Tryd.prog 50 #[.slice A n c, .slice A' n c'] w fun e w' => e = .returned (.bool true) ∧ ∃ k, w' = w.drewN k := by
  go_enter Tryd.func50, Tryd.ntmps50
  go_wp2
  go_loopw [13] (fun t wr => ∃ k : Nat, k ≤ n ∧ t = .int .i64 k ∧ ∃ j, wr = w.drewN j) (fun t _ => n - (intOf t).toNat)
  case atStart => exact ⟨0, Nat.zero_le _, rfl, 0, rfl⟩
  case round =>
    obtain ⟨k, hk, rfl, j, rfl⟩ := hrel
    by_cases hlt : k < n
    · obtain ⟨ad, u, rfl, _, hx, hc⟩ := hr.at_ hlt
      obtain ⟨ad', u', rfl, _, hx', hc'⟩ := hr'.at_ hlt
      obtain rfl : u = u' := Option.some.inj (hx.symm.trans hx')
      obtain ⟨z, rfl⟩ := h1 u (List.mem_of_getElem? hx)
      go_wp2
      go_quiet (fail)
      go_wp2
      go_roundw
      case rel => exact ⟨k + 1, by omega, by go_num, _, rfl⟩
      case measure => simp [intOf]; omega
    · obtain rfl : k = n := by omega
      go_wp2
      go_ret
      exact ⟨rfl, _, rfl⟩
theorem rep_len (cs : List (List Cl)) (l : List Pt) : ∀ (f k : Nat) (s : St) (outs : List Int), (rep cs l f k s outs).outs.length ≤ outs.length + f
  | 0, _, _, _ => by simp [rep]
  | f + 1, k, s, outs => by
    unfold rep
    split
    · simp
    · split
      · simp
      · split
        · refine Nat.le_trans (rep_len cs l f _ _ _) ?_
          simp; omega
        · simp
theorem ints_int {l : List Int} : ∀ u ∈ ints l, ∃ k : Int, u = .int .i64 k := fun u hu => by
  simp [ints] at hu
  obtain ⟨k, _, rfl⟩ := hu
  exact ⟨k, rfl⟩
set_option maxRecDepth 100000 in
set_option maxHeartbeats 4000000 in
theorem law_lin (s0 : St) (Ac : Option Addr) (nc cc : Nat) (cs : List (List Cl)) (Ap : Option Addr) (n cp : Nat) (l : List Pt) (w : World) (hl : l.length = n) (hr : Reads w w.heap.size 4 Ap n (flatP l))
    (hcs : CallsIn w w.heap.size Ac nc cs) (hcl : ∀ c ∈ cs, c.length ≤ 140737488355328) (hwf : ∀ x ∈ l, wfI x.th ∧ wfI x.ca) (hg : HasErr w) :
    Calls Tryd.prog 10 #[stv s0, .slice Ac nc cc, .slice Ap n cp] w fun e w' => e = .returned (.bool true) ∧ Below w.heap.size w w' := by
  by_cases hN : nc ≤ 20 ∧ n ≤ 100
  · obtain ⟨hnc, hn⟩ := hN
    have hP : ∀ W, Below w.heap.size w W → Calls Tryd.prog 48 #[stv s0, .slice Ac nc cc, .slice Ap n cp] W (PRepEnd (rep cs l n 0 s0 []) W) := fun W hW =>
      preplay_calls s0 Ac nc cc cs Ap n cp w.heap.size l W hl hn (hr.below hW) hW.size (hcs.below hW) hnc hcl hwf
    have hQ : ∀ W, Below w.heap.size w W → Calls Tryd.prog 49 #[stv s0, .slice Ac nc cc, .slice Ap n cp] W (RepEnd (rep cs l n 0 s0 []) W) := fun W hW =>
      replay_calls s0 Ac nc cc cs Ap n cp w.heap.size l W hl hn (hr.below hW) hW.size (hcs.below hW) hnc hcl hwf
    have hlen := rep_len cs l n 0 s0 []
    obtain ⟨R, hR⟩ : ∃ R, rep cs l n 0 s0 [] = R := ⟨_, rfl⟩
    rw [hR] at hlen
    simp only [hR] at hP hQ
    clear hR hcs hr hwf hcl hl
    obtain ⟨⟨o, ph, pa, wa⟩, outs, code, place⟩ := R
    simp only [List.length_nil, Nat.zero_add] at hlen
    have HP := Lib.hid hP
    have HQ := Lib.hid hQ
    have HLEN := Lib.hid (show outs.length ≤ 140737488355328 by omega)
    have HG := Lib.hid hg
    clear hP hQ hlen hg
    have b1 := Lib.hid ((Below.refl w.heap.size w).alloc (Nat.le_refl _) (.cells (sta s0) 39))
    go_enter Tryd.func10, Tryd.ntmps10
    go_upto_region 5 with (first
      | (go_at_call 48; refine (HP.out _ b1.out).mono ?_; rintro e w1 ⟨A1, c1, rfl, hr1, hb1⟩; have HR1 := Lib.hid hr1; have HB1 := Lib.hid hb1; have hc1 := (bcell hb1).1; have hz1 : w.heap.size < w1.heap.size := (by have := hb1.size; simp at this; omega); have b2 := Lib.hid (((b1.out.trans (hb1.mono b1.out.size)).alloc (by omega) (.cells #[.bool o, .int .i64 ph, .int .i64 pa, .int .i64 wa] 39)).alloc (by simp; omega) (.cells #[.int .i64 code, .int .i64 place] 68)); clear hr1 hb1)
      | (go_at_call 49; refine (HQ.out _ b2.out).mono ?_; rintro e w2 ⟨A2, c2, v2, rfl, hr2, he2, hb2⟩; have HR2 := Lib.hid hr2; have HE2 := Lib.hid he2; have HB2 := Lib.hid hb2; clear hr2 he2 hb2))
    have b3 := Lib.hid ((b2.out.trans (HB2.out.mono b2.out.size)).alloc (by have := HB2.out.size; have := b2.out.size; omega) (.cells #[.bool o, .int .i64 ph, .int .i64 pa, .int .i64 wa] 39))
    have hQ7 := (((Blk.new w1 39 #[.bool o, .int .i64 ph, .int .i64 pa, .int .i64 wa]).alloc (.cells #[.int .i64 code, .int .i64 place] 68)).below HB2.out (by simp; omega)).alloc (.cells #[.bool o, .int .i64 ph, .int .i64 pa, .int .i64 wa] 39)
    have hQ9 := ((blk_at (w := w1.alloc (.cells #[.bool o, .int .i64 ph, .int .i64 pa, .int .i64 wa] 39)) (b := w1.heap.size + 1) (t := 68) (cs := #[.int .i64 code, .int .i64 place]) (by simp)).below HB2.out (by simp)).alloc (.cells #[.bool o, .int .i64 ph, .int .i64 pa, .int .i64 wa] 39)
    have hQ10 := Blk.new w2 39 #[.bool o, .int .i64 ph, .int .i64 pa, .int .i64 wa]
    have HG3 := Lib.hid (HG.out.below b3.out HG.out.lt)
    have HE3 := Lib.hid (HE2.out.below ((Below.refl _ _).alloc (Nat.le_refl _) (.cells #[.bool o, .int .i64 ph, .int .i64 pa, .int .i64 wa] 39)))
    have HR13 := Lib.hid ((HR1.out.below ((((Below.refl w1.heap.size w1).alloc (Nat.le_refl _) (.cells #[.bool o, .int .i64 ph, .int .i64 pa, .int .i64 wa] 39)).alloc (by simp) (.cells #[.int .i64 code, .int .i64 place] 68)).trans (HB2.out.mono (by simp; omega)))).alloc (by have := HB2.out.size; simp at this; omega) (.cells #[.bool o, .int .i64 ph, .int .i64 pa, .int .i64 wa] 39))
    have HR23 := Lib.hid (HR2.out.alloc (Nat.le_refl _) (.cells #[.bool o, .int .i64 ph, .int .i64 pa, .int .i64 wa] 39))
    obtain ⟨W, hW⟩ : ∃ W, W = w2.alloc (.cells #[.bool o, .int .i64 ph, .int .i64 pa, .int .i64 wa] 39) := ⟨_, rfl⟩
    rw [← hW] at b3 hQ7 hQ9 hQ10 HG3 HE3 HR13 HR23 ⊢
    clear hW
    have a0 := hQ7.cell 0
    have a1 := hQ7.cell 1
    have a2 := hQ7.cell 2
    have a3 := hQ7.cell 3
    have d0 := hQ9.cell 0
    have d1 := hQ9.cell 1
    have e0 := hQ10.cell 0
    have e1 := hQ10.cell 1
    have e2 := hQ10.cell 2
    have e3 := hQ10.cell 3
    simp at a0 a1 a2 a3 d0 d1 e0 e1 e2 e3
    have l7 := hQ7.lt
    have l9 := hQ9.lt
    have l10 := hQ10.lt
    clear hQ7 hQ9 hQ10 hc1 hz1
    go_wp2_with (first
      | (go_at_call 40; refine (placed_any _ _ _ _ HG3.out HE3.out).mono ?_; rintro e w3 ⟨rfl, hb3⟩; have HB3 := Lib.hid hb3; have hc3 := (bcell hb3).1; clear hb3)
      | (go_at_call 50; refine (equal_int A1 A2 outs.length c1 c2 w1.heap.size w2.heap.size (ints outs) w3 (HR13.out.below (HB3.out.mono (by omega))) (HR23.out.below (HB3.out.mono (by omega))) ints_int HLEN.out).mono ?_; rintro e w4 ⟨rfl, q, rfl⟩))
    go_ret
    exact ⟨rfl, below_drewN (b3.out.trans (HB3.out.mono b3.out.size)) _⟩
  · have hN' : 20 < nc ∨ 100 < n := by omega
    clear hr hcs hcl hwf hl hN
    rcases hN' with h | h
    · have h' : (20 : Int) < (nc : Int) := by omega
      go_enter Tryd.func10, Tryd.ntmps10
      go_wp2
      go_ret
      exact ⟨rfl, (Below.refl _ _).alloc (Nat.le_refl _) _⟩
    · have h' : (100 : Int) < (n : Int) := by omega
      by_cases h2 : 20 < nc
      · have h2' : (20 : Int) < (nc : Int) := by omega
        go_enter Tryd.func10, Tryd.ntmps10
        go_wp2
        go_ret
        exact ⟨rfl, (Below.refl _ _).alloc (Nat.le_refl _) _⟩
      · go_enter Tryd.func10, Tryd.ntmps10
        go_wp2
        go_ret
        exact ⟨rfl, (Below.refl _ _).alloc (Nat.le_refl _) _⟩
end Go.Proofs.YtepoahinnfjaiaaDoor
