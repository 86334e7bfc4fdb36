/-
  The walks of ParkNaps in the reference: who sleeps at a cell, and who is woken. Conditions: the lot is this call's own.
-/
import Derived.Test.YtepoahinnfjaiaaDoorPnR
namespace Go.Proofs.YtepoahinnfjaiaaDoor
open Go.RowKit Go.Extern.Stop Go.Stop Go.Extern
attribute [local go_sem ↓] Go.wp_at_zero Go.wp_at_succ

/-- How a list of threads is handed back. -/
def AtEnd (xs : List Int) (w : World) (e : Ending) (w' : World) : Prop := ∃ v, e = .returned v ∧ w'.ownsRow w.heap.size 3 1 v xs.length (ints xs) ∧ Below w.heap.size w w'
theorem RangeO.iter {e : TypeId} {q : IntKind} {w : World} {b r n cnt : Nat} {F : Int → Option Int} {L : Int → Bool} (h : RangeO e q w b r n F L cnt) : ∀ cs t fr, w.heap[r]? ≠ some (.cells cs t fr) := by
  obtain ⟨D, left, ⟨es, clock, since, seen, c0, _, _, _, _, hr, _⟩, _⟩ := h
  intro cs t fr h2
  rw [hr] at h2; cases h2
theorem own_not {w : World} {base b n : Nat} {e : TypeId} {size : Nat} {v : Value} {xs : List Value} (h : w.ownsRow base e size v n xs) (hm : ∀ cs t fr, w.heap[b]? ≠ some (.cells cs t fr)) : v.ownBlock ≠ some b := by
  rcases h.2 with ⟨rfl, _⟩ | ⟨g, cap, cur, rfl, _, h2, _⟩
  · simp [Value.ownBlock]
  · intro hg
    simp only [Value.ownBlock, Option.some.injEq] at hg
    subst hg
    exact hm _ _ _ h2
theorem atL_len (c : Int) (L : List Sl) : (atL c L).length ≤ L.length := by
  unfold atL
  rw [List.length_map]
  exact List.length_filter_le _ _
theorem doneK_len (L : List Sl) (c : Int) (k : Nat) (left : Int → Bool) : (doneK L c k left).length ≤ L.length := by
  unfold doneK
  rw [List.length_map]
  exact Nat.le_trans (List.length_filter_le _ _) (Nat.le_trans (List.length_filter_le _ _) (List.length_filter_le _ _))
/-- The row of those that have been found. -/
def RowAt (base : Nat) (w : World) (v : Value) (xs : List Int) : Prop := w.ownsRow base 3 1 v xs.length (ints xs)
theorem RowAt.nil_ (base : Nat) (w : World) : RowAt base w (.slice none 0 0) [] := ⟨rfl, .inl ⟨rfl, rfl⟩⟩
theorem RowAt.snoc {base : Nat} {w : World} {v : Value} {xs : List Int} {x : Int} (h : w.ownsRow base 3 1 v (xs.length + 1) (ints xs ++ [.int .i64 x])) : RowAt base w v (xs ++ [x]) := by
  unfold RowAt ints
  rw [List.length_append, List.map_append]
  exact h
section
variable {base : Nat} {w : World} {r a b n : Nat} {s : Lt}
set_option maxRecDepth 100000 in
set_option maxHeartbeats 4000000 in
theorem rat (h : LotR base w r a b n s) (hok : LtOk n s) (hn : n ≤ 16) (hclk : s.clk ≤ 1000) (c : Int) :
    Calls Tryd.prog 62 #[.pointer (some ⟨r, 0, none⟩), .int .i64 c] w (AtEnd (atL c s.L) w) := by
  obtain ⟨i0, hi0, hz0, hz1, hz2⟩ := info_parts Tryd.info3f
  have hlts := h.lts
  have HL := Lib.hid h
  have HK := Lib.hid hok
  have hwf : ∀ e ∈ s.L, wfI e.th := fun e he => by have := hok.rng e he; exact wfI_in (by omega) (by omega)
  have HWF := Lib.hid hwf
  have hlen := hok.len
  clear h hok hwf
  go_enter Tryd.func62, Tryd.ntmps62
  go_wp2
  go_loopw [6, 5] (fun i v wr => ∃ k : Nat, 1 ≤ k ∧ k ≤ s.clk + 1 ∧ i = .int .i64 k ∧ RowAt w.heap.size wr v (atL c (s.L.filter fun e => e.si < k)) ∧ Below w.heap.size w wr) (fun i _ _ => s.clk + 2 - (intOf i).toNat)
  case atStart => exact ⟨1, Nat.le_refl _, by omega, rfl, by rw [atL_one HK.out]; exact RowAt.nil_ _ _, Below.refl _ _⟩
  case round =>
    obtain ⟨k, hk1, hk2, rfl, hrow, hbel⟩ := hrel
    have HROW := Lib.hid hrow
    have HBEL := Lib.hid hbel
    have hsz := hbel.size
    have hR := HL.out.below hbel hlts
    have c1 := hR.c1
    have c2 := hR.c2
    clear hrow hbel
    by_cases hle : k ≤ s.clk
    · obtain ⟨w2, cnt, hrun, hrg, hg2, hs2⟩ := hR.since.range Tryd.underlying141
      have HRG := Lib.hid hrg
      have HB2 := Lib.hid (HBEL.out.grown hg2 hsz (fun g hg => by cases hg))
      have HROW2 := Lib.hid (show RowAt w.heap.size w2 u5 _ from World.ownsRow.kept HROW.out hg2 (by cases u5.ownBlock <;> simp))
      clear hrg hg2 hR
      obtain ⟨ri, hri⟩ : ∃ ri, wr.heap.size = ri := ⟨_, rfl⟩
      have hlo : w.heap.size ≤ ri := by omega
      rw [hri] at hrun HRG hs2
      clear hri hs2
      go_wp2
      go_loopw [5] (fun v w3 => ∃ L' cnt, RangeO 3 .i64 w3 a ri s.clk (sinceF s.L) L' cnt ∧ RowAt w.heap.size w3 v (atL c (s.L.filter fun e => e.si < k) ++ doneK s.L c k L') ∧ Below w.heap.size w w3) (fun _ w3 => w3.rangeLeft a ri)
      case atStart => exact ⟨_, _, HRG.out, by rw [doneK_start _ _ _ _ (fun e he => by rw [sinceF_mem HK.out.dis he]; rfl), List.append_nil]; exact HROW2.out, HB2.out⟩
      case round =>
        obtain ⟨L', cnt', hrg3, hrow3, hbel3⟩ := hrel
        have HRG3 := Lib.hid hrg3
        have HROW3 := Lib.hid hrow3
        have HB3 := Lib.hid hbel3
        have hsz3 := hbel3.size
        have hR3 := HL.out.below hbel3 hlts
        clear hrg3 hrow3 hbel3
        have HLe := Lib.hid hle
        go_wp2_with (at_next; refine wpList_next_O rfl _ rfl Tryd.underlying3 a ri s.clk _ _ _ rfl HRG3.out ?_ ?_)
        · intro hdone
          have hd2 := doneK_end s.L c k L' (fun e he => hdone e.th (HWF.out e he))
          have HR' := Lib.hid (show RowAt w.heap.size wr u5 (atL c (s.L.filter fun e => e.si < k + 1)) by rw [atL_cut HK.out, ← hd2]; exact HROW3.out)
          clear hd2 hdone
          go_wp2
          go_roundw
          case rel => exact ⟨k + 1, by omega, by omega, by go_num, HR'.out, HB3.out⟩
          case measure => simp [intOf]; omega
        · intro x cc w4 cnt4 hwx hwc hlx hF hrg4 hlt4 hg4 hs4 hen
          obtain ⟨e, he, hex, hec⟩ := sinceF_inv hF
          subst hex
          have HRG4 := Lib.hid hrg4
          have HB4 := Lib.hid (HB3.out.grown hg4 hsz3 (fun g hg => by cases hg; exact hlo))
          have HROW4 := Lib.hid (show RowAt w.heap.size w4 u5 _ from World.ownsRow.kept HROW3.out hg4 (.inr (own_not HROW3.out HRG3.out.iter)))
          have hsz4 := HB4.out.size
          have hR4 := HL.out.below HB4.out hlts
          have c3 := hR4.c3
          have hl2 := hR4.look2 he (HWF.out e he)
          have HE := Lib.hid he
          have HEC := Lib.hid hec
          have HLX := Lib.hid hlx
          have hmeas := Lib.hid (show w4.rangeLeft a ri < wr.rangeLeft a ri by rw [HRG4.out.left_eq, HRG3.out.left_eq]; exact hlt4)
          have hll := Lib.hid (show (atL c (s.L.filter fun e => e.si < k)).length + (doneK s.L c k L').length ≤ 2000 by
            have h1 := atL_len c (s.L.filter fun e => e.si < k)
            have h2 := doneK_len s.L c k L'
            have h3 := List.length_filter_le (fun e : Sl => decide (e.si < k)) s.L
            omega)
          clear hrg4 hg4 hR4 he hec hlx hF hwx hwc hs4
          by_cases h1 : cc = (k : Int)
          · subst h1
            by_cases h2 : e.ce = c
            · have hb : (e.ce == c) = true := by simpa using h2
              have hk : e.si = k := by have := HEC.out; omega
              have hdn : doneK s.L c k (fun t => L' t && !decide (t = e.th)) = doneK s.L c k L' ++ [e.th] := by
                have := doneK_hit HK.out L' HE.out HLX.out
                rw [h2, hk] at this
                exact this
              have HDN := Lib.hid hdn
              clear hdn hk h2
              obtain ⟨th, ce, si⟩ := e
              simp only at hb hl2 hen HDN HRG4
              go_wp2_with (at_builtin; (refine wpList_append_own _ rfl (.tmp 40) (.tmp 42) 50 rfl w.heap.size 3 i0 _ 1 8 Tryd.underlying50 hi0 hz0 hz1 hz2 rfl (by omega) u5 _ _ rfl (World.ownsRow.alloc HROW4.out _) ⟨w4.heap.size, 0, none⟩ 1 1 [.int .i64 th] rfl rfl ?_ ?_ ?_ ?_ ?_ ?_); (exact cell_litT w4 [.int .i64 th] 3); (simp [Value.oneCell']); (have := hll.out; rw [List.length_append]; unfold maxLen; omega); (have := hll.out; rw [List.length_append]; omega); (simp; omega); intro v' w5 hown5 hg5 hnil5)
              have HFIN := Lib.hid (show RangeO 3 .i64 w5 a ri s.clk (sinceF s.L) (fun t => L' t && !decide (t = th)) cnt4 ∧ RowAt w.heap.size w5 v' (atL c (s.L.filter fun e => e.si < k) ++ doneK s.L c k (fun t => L' t && !decide (t = th))) ∧ Below w.heap.size w w5 from
                ⟨(HRG4.out.alloc _).kept hg5 (fun h => own_map_ne HROW4.out HRG4.out.owns h.symm) (fun h => own_not HROW4.out HRG4.out.iter h.symm), by rw [HDN.out, ← List.append_assoc]; exact RowAt.snoc hown5, (HB4.out.alloc hsz4 _).grown hg5 (by simp; omega) (fun g hg => (World.ownsRow.lt HROW4.out g hg).1)⟩)
              have hmeas2 := Lib.hid (show w5.rangeLeft a ri < wr.rangeLeft a ri by rw [HFIN.out.1.left_eq]; have := hmeas.out; rw [HRG4.out.left_eq] at this; exact this)
              go_roundw
              case rel => exact ⟨_, _, HFIN.out⟩
              case measure => exact hmeas2.out
            · have hb : (e.ce == c) = false := by simpa using h2
              have hdn : doneK s.L c k (fun t => L' t && !decide (t = e.th)) = doneK s.L c k L' := doneK_miss HK.out L' HE.out (fun hc => h2 hc.2)
              have HDN := Lib.hid hdn
              clear hdn h2
              obtain ⟨th, ce, si⟩ := e
              simp only at hb hl2 hen HDN HRG4
              go_wp2
              go_roundw
              case rel => exact ⟨_, _, HRG4.out, by rw [HDN.out]; exact HROW4.out, HB4.out⟩
              case measure => exact hmeas.out
          · have hb : (cc == (k : Int)) = false := by simpa using h1
            have hdn : doneK s.L c k (fun t => L' t && !decide (t = e.th)) = doneK s.L c k L' := doneK_miss HK.out L' HE.out (fun hc => h1 (by rw [← HEC.out, hc.1]))
            have HDN := Lib.hid hdn
            clear hdn h1
            obtain ⟨th, ce, si⟩ := e
            simp only at hl2 hen HDN HRG4
            go_wp2
            go_roundw
            case rel => exact ⟨_, _, HRG4.out, by rw [HDN.out]; exact HROW4.out, HB4.out⟩
            case measure => exact hmeas.out
    · obtain rfl : k = s.clk + 1 := by omega
      have hall : atL c (s.L.filter fun e => e.si < s.clk + 1) = atL c s.L := atL_all HK.out c
      have HEND := Lib.hid (show AtEnd (atL c s.L) w (.returned u5) wr from ⟨u5, rfl, by rw [← hall]; exact HROW.out, HBEL.out⟩)
      clear hall hR
      go_wp2
      go_ret
      exact HEND.out
end
end Go.Proofs.YtepoahinnfjaiaaDoor
