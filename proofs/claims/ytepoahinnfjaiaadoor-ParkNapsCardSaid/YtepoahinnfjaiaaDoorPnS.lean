/-
  The walk of ParkNaps in the reference: falling asleep. Conditions: the lot is this call's own.
-/
import Derived.Test.YtepoahinnfjaiaaDoorPnR
namespace Go.Proofs.YtepoahinnfjaiaaDoor
open Go.RowKit Go.Extern.Stop Go.Stop Go.Extern
attribute [local go_sem ↓] Go.wp_at_zero Go.wp_at_succ
section
variable {base : Nat} {w : World} {r a b n : Nat} {s : Lt}
set_option maxRecDepth 100000 in
set_option maxHeartbeats 2000000 in
theorem rsleep_ok (h : LotR base w r a b n s) (hn : n ≤ 16) (hclk : s.clk ≤ 1000) (t c : Int) (hr : inR n t c) (ht : ¬ hasT s.L t) :
    Calls Tryd.prog 54 #[.pointer (some ⟨r, 0, none⟩), .int .i64 t, .int .i64 c] w (RSEnd base w r a b n 0 ⟨s.clk + 1, s.L ++ [⟨t, c, s.clk + 1⟩]⟩) := by
  have h0 := h.c0
  have h1 := h.c1
  have h2 := h.c2
  have f1 := h.blk.frozen 1
  obtain ⟨t0, t1, c0, c1⟩ := hr
  have hl := h.look1 t (wfI_in (by omega) (by omega))
  rw [sinV_zero ht] at hl
  have hwt : wfI t := wfI_in (by omega) (by omega)
  have hwc : wfI c := wfI_in (by omega) (by omega)
  have hwk : wfI ((s.clk : Int) + 1) := wfI_in (by omega) (by omega)
  have H := Lib.hid h
  have HWT := Lib.hid hwt
  have HWC := Lib.hid hwc
  have HWK := Lib.hid hwk
  have HT := Lib.hid ht
  clear h hwt hwc hwk ht
  go_enter Tryd.func54, Tryd.ntmps54
  go_wp2_with (first | (go_at_call 78; (with_reducible refine (within_t t 0 _ _ (by omega) (by omega)).mono ?_); rintro e w' ⟨rfl, rfl⟩) | (go_at_call 78; (with_reducible refine (within_t c 0 299 _ (by omega) (by omega)).mono ?_); rintro e w' ⟨rfl, rfl⟩))
  have hne := H.out.ne
  have hab := H.out.ab
  have hblk := H.out.blk.set_ 1 (.int .i64 ((s.clk : Int) + 1))
  have hma := H.out.since.setCell (a := ⟨r, 1, none⟩) (fun e => hne.1 e.symm) (.int .i64 ((s.clk : Int) + 1))
  obtain ⟨F, hF, hwok⟩ := H.out.wher
  have hmb := hF.setCell (a := ⟨r, 1, none⟩) (fun e => hne.2 e.symm) (.int .i64 ((s.clk : Int) + 1))
  have hbw := (Below.refl base w).setCell (p := ⟨r, 1, none⟩) H.out.lo.1 (.int .i64 ((s.clk : Int) + 1))
  have hfr := FrR.cell H.out.blk 1 (.int .i64 ((s.clk : Int) + 1))
  obtain ⟨W, hW⟩ : ∃ W, W = w.setCell ⟨r, 1, none⟩ (.int .i64 ((s.clk : Int) + 1)) := ⟨_, rfl⟩
  rw [← hW] at hblk hma hmb hbw hfr ⊢
  clear hW
  have hblk' : Blk W r 159 #[.int .i64 n, .int .i64 ((s.clk : Int) + 1), .map (some a), .map (some b)] := hblk
  -- whatever order: the worlds on the way
  obtain ⟨va, sa, wA, eA, gA, zA, nA, KA⟩ := hma.drew.entry (by unfold maxLen; omega) t ((s.clk : Int) + 1) HWT.out HWK.out
  obtain ⟨vb, sb, wB, eB, gB, zB, nB, KB⟩ := hmb.drew.entry (by unfold maxLen; omega) t c HWT.out HWC.out
  have hmbA := hmb.drew.grown gA (by simp; omega)
  have hmaB := hma.drew.grown gB (by simp; omega)
  obtain ⟨vb2, sb2, wAB, eAB, gAB, zAB, nAB, KAB⟩ := hmbA.entry (by unfold maxLen; omega) t c HWT.out HWC.out
  obtain ⟨va2, sa2, wBA, eBA, gBA, zBA, nBA, KBA⟩ := hmaB.entry (by unfold maxLen; omega) t ((s.clk : Int) + 1) HWT.out HWK.out
  have la : a < W.heap.size := hma.lt
  have lb : b < W.heap.size := hmb.lt
  have zA' : wA.heap.size = W.heap.size := zA
  have zB' : wB.heap.size = W.heap.size := zB
  -- order one: both entries, then both stores
  obtain ⟨w1, e1, m1, g1, z1⟩ := KA wAB (gAB.block a (by omega) (by simp; omega))
  obtain ⟨w2, e2, m2, g2, z2⟩ := KAB w1 (g1.block b (by omega) (by simp; omega))
  -- order two: the first entry and its store, then the second
  obtain ⟨w3, e3, m3, g3, z3⟩ := KA wA rfl
  have hmb3 := hmbA.grown g3 (by simp; omega)
  obtain ⟨vb4, sb4, w4, e4, g4, z4, n4, K4⟩ := hmb3.entry (by unfold maxLen; omega) t c HWT.out HWC.out
  obtain ⟨w5, e5, m5, g5, z5⟩ := K4 w4 rfl
  -- order three: the second entry ahead
  obtain ⟨w6, e6, m6, g6, z6⟩ := KBA wBA rfl
  obtain ⟨w7, e7, m7, g7, z7⟩ := KB w6 ((g6.block b (by omega) (by simp; omega)).trans (gBA.block b (by omega) (by simp; omega)))
  have G0 : Gab a b W W.drew := ⟨rfl, rfl, rfl, rfl, fun _ _ _ => rfl⟩
  have GA := G0.step gA zA (.inl rfl)
  have GB := G0.step gB zB (.inr rfl)
  have GAB := GA.step gAB zAB (.inr rfl)
  have GBA := GB.step gBA zBA (.inl rfl)
  have G1 := GAB.step g1 z1 (.inl rfl)
  have G2 := G1.step g2 z2 (.inr rfl)
  have G3 := GA.step g3 z3 (.inl rfl)
  have G4 := G3.step g4 z4 (.inr rfl)
  have G5 := G4.step g5 z5 (.inr rfl)
  have G6 := GBA.step g6 z6 (.inl rfl)
  have G7 := G6.step g7 z7 (.inr rfl)
  have hfin : ∀ w', Gab a b W w' → MapO 3 .i64 w' a (s.clk + 1) (fun x => if x = t then some ((s.clk : Int) + 1) else sinceF s.L x) → MapO 3 .i64 w' b (s.clk + 1) (fun x => if x = t then some c else F x) →
      LotR base w' r a b n ⟨s.clk + 1, s.L ++ [⟨t, c, s.clk + 1⟩]⟩ ∧ Below base w w' ∧ FrR w w' := fun w' hG h1 h2 => by
    refine ⟨⟨?_, ?_, ⟨_, h2, ?_⟩, hab, H.out.lo⟩, hbw.trans (hG.below H.out.lo.2.1 H.out.lo.2.2), hfr.trans (hG.frR hma.notCells hmb.notCells)⟩
    · have := hG.blk hblk' hne.1 hne.2
      simpa using this
    · refine h1.congr fun x => ?_
      unfold sinceF
      rw [List.find?_append]
      by_cases hx : x = t
      · subst hx
        have hno : s.L.find? (fun e => decide (e.th = x)) = none := List.find?_eq_none.2 fun e he hc => HT.out ⟨e, he, by simpa using hc⟩
        rw [if_pos rfl, hno]
        simp
      · rw [if_neg hx]
        cases hf : s.L.find? (fun e => decide (e.th = x)) with
        | none => simp; exact fun h => hx h.symm
        | some e => simp
    · intro e he
      rcases List.mem_append.1 he with he | he
      · have : e.th ≠ t := fun hc => HT.out ⟨e, he, hc⟩
        simp only [if_neg this]
        exact hwok e he
      · rw [List.mem_singleton.1 he]; simp
  have F2 := Lib.hid (hfin w2 G2 (m1.ofBlock (g2.block a (by omega) (by simp; omega))) m2)
  have F5 := Lib.hid (hfin w5 G5 ((m3.ofBlock (g4.block a (by omega) (by simp; omega))).ofBlock (g5.block a (by omega) (by simp; omega))) m5)
  have F7 := Lib.hid (hfin w7 G7 (m6.ofBlock (g7.block a (by omega) (by simp; omega))) m7)
  have HS := Lib.hid (fun (w' : World) (hG : Gab a b W w') => (⟨(hG.blk hblk' hne.1 hne.2).cell 1, (hG.blk hblk' hne.1 hne.2).cell 2, (hG.blk hblk' hne.1 hne.2).cell 3⟩ : w'.cell? ⟨r, 1, none⟩ = some (.int .i64 ((s.clk : Int) + 1)) ∧ w'.cell? ⟨r, 2, none⟩ = some (.map (some a)) ∧ w'.cell? ⟨r, 3, none⟩ = some (.map (some b))))
  clear hfin KA KB KAB KBA K4 m1 m2 m3 m5 m6 m7 gA gB gAB gBA g1 g2 g3 g4 g5 g6 g7 nA nB nAB nBA n4 hmb3 hmbA hmaB zA zB zAB zBA z1 z2 z3 z4 z5 z6 z7 zA' zB' la lb hblk hblk' hma hmb hF hwok hbw hfr hl h0 h1 h2 f1 hne hab
  go_region_held3 (fun w' => w'.cell? ⟨r, 1, none⟩ = some (.int .i64 ((s.clk : Int) + 1)) ∧ w'.cell? ⟨r, 2, none⟩ = some (.map (some a)) ∧ w'.cell? ⟨r, 3, none⟩ = some (.map (some b)))
    (first | exact HS.out _ G0 | exact HS.out _ GA | exact HS.out _ GB | exact HS.out _ GAB | exact HS.out _ GBA | exact HS.out _ G1 | exact HS.out _ G2 | exact HS.out _ G3 | exact HS.out _ G4 | exact HS.out _ G5 | exact HS.out _ G6 | exact HS.out _ G7)
    (fail)
  all_goals
    go_wp2
    go_ret
    first | exact ⟨rfl, F2.out⟩ | exact ⟨rfl, F5.out⟩ | exact ⟨rfl, F7.out⟩
end
end Go.Proofs.YtepoahinnfjaiaaDoor
