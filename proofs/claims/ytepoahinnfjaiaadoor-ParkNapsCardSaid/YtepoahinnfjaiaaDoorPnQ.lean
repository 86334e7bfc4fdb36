/-
  The walks of ParkNaps in the program, part two: a lot made, falling asleep, where a thread sleeps, who sleeps at a cell. Conditions: the lot is this call's own.
-/
import Derived.Test.YtepoahinnfjaiaaDoorPnP
namespace Go.Proofs.YtepoahinnfjaiaaDoor
open Go.RowKit Go.Extern.Stop Go.Stop Go.Extern
attribute [local go_sem ↓] Go.wp_at_zero Go.wp_at_succ

theorem Tryd.info161 : (Tryd.prog.info? 161).map (fun i => (i.zero, i.size, i.bytes)) = some (some (.agg #[.int .i64 0, .int .i64 0]), 2, 16) := by kernel_rfl
theorem pnew_ok (n : Nat) (hn : n ≤ 16) (w : World) :
    Calls Tryd.prog 51 #[.int .i64 n] w fun e w' => ∃ p, e = .returned (.tuple #[.pointer (some ⟨p, 0, none⟩), .nilIface]) ∧ LotP w.heap.size w' p n (.slice none 0 0) [] ∧ Below w.heap.size w w' := by
  go_enter Tryd.func51, Tryd.ntmps51
  go_wp2
  go_ret2
  exact ⟨w.heap.size, rfl, ⟨Blk.new _ _ _, ⟨rfl, .inl ⟨rfl, rfl⟩⟩, Nat.le_refl _⟩, (Below.refl _ _).alloc (Nat.le_refl _) _⟩
theorem pnew_f (n : Int) (w : World) (h : n < 0 ∨ 16 < n) :
    Calls Tryd.prog 51 #[.int .i64 n] w fun e w' => e = .returned (.tuple #[.pointer none, .iface 26 (.int .i64 2)]) ∧ w = w' := by
  have hc : n < 0 ∨ (0 ≤ n ∧ 16 < n) := by omega
  clear h
  rcases hc with h | ⟨h, h'⟩
  all_goals
    go_enter Tryd.func51, Tryd.ntmps51
    go_wp2
    go_ret2
    exact ⟨rfl, rfl⟩
section
variable {base : Nat} {w : World} {p n : Nat} {v : Value} {L : List Sl}
/-- How an act of the program's lot ends. -/
def PSEnd (base : Nat) (w : World) (p n : Nat) (k : Int) (L : List Sl) (e : Ending) (w' : World) : Prop := e = .returned (errV k) ∧ (∃ v, LotP base w' p n v L) ∧ Below base w w' ∧ FrP w w'
theorem PSEnd.same (h : LotP base w p n v L) {k : Int} {e : Ending} {w' : World} (he : e = .returned (errV k)) (hb : Below w.heap.size w w') : PSEnd base w p n k L e w' :=
  ⟨he, ⟨v, h.below hb⟩, hb.mono (by have := h.lo; have := h.blk.lt; omega), FrP.of hb⟩
set_option maxRecDepth 100000 in
theorem psleep_bad (h : LotP base w p n v L) (t c : Int) (hb : ¬ inR n t c) : Calls Tryd.prog 53 #[.pointer (some ⟨p, 0, none⟩), .int .i64 t, .int .i64 c] w (PSEnd base w p n 2 L) := by
  have h0 := h.c0
  have HE := Lib.hid (PSEnd.same h (k := 2) (e := .returned (.iface 26 (.int .i64 2))) rfl (Below.refl _ w))
  unfold inR at hb
  clear h
  have hc : t < 0 ∨ (0 ≤ t ∧ (n : Int) ≤ t) ∨ (0 ≤ t ∧ t < n ∧ c < 0) ∨ (0 ≤ t ∧ t < n ∧ 0 ≤ c ∧ 300 ≤ c) := by omega
  clear hb
  rcases hc with h1 | ⟨h1, h2⟩ | ⟨h1, h2, h3⟩ | ⟨h1, h2, h3, h4⟩
  all_goals
    go_enter Tryd.func53, Tryd.ntmps53
    go_wp2
    go_ret
    exact HE.out
set_option maxRecDepth 100000 in
theorem psleep_st (h : LotP base w p n v L) (hl : L.length ≤ 1000) (t c : Int) (hr : inR n t c) (ht : hasT L t) : Calls Tryd.prog 53 #[.pointer (some ⟨p, 0, none⟩), .int .i64 t, .int .i64 c] w (PSEnd base w p n 6 L) := by
  have h0 := h.c0
  have HF := Lib.hid (pfind h hl t)
  obtain ⟨k, hk, hi, _⟩ := idxT_has ht
  rw [hi] at HF
  obtain ⟨t0, t1, c0, c1⟩ := hr
  have HP := Lib.hid (fun w' (hb : Below w.heap.size w w') => PSEnd.same h (k := 6) (e := .returned (.iface 26 (.int .i64 6))) rfl hb)
  clear h hi ht
  go_enter Tryd.func53, Tryd.ntmps53
  go_wp2_with (go_at_call 84; refine HF.out.mono ?_; rintro e w' ⟨rfl, hb'⟩)
  go_ret
  exact HP.out _ hb'
set_option maxRecDepth 100000 in
set_option maxHeartbeats 1000000 in
theorem psleep_ok (h : LotP base w p n v L) (hl : L.length ≤ 1000) (t c : Int) (k : Nat) (hr : inR n t c) (ht : ¬ hasT L t) : Calls Tryd.prog 53 #[.pointer (some ⟨p, 0, none⟩), .int .i64 t, .int .i64 c] w (PSEnd base w p n 0 (L ++ [⟨t, c, k⟩])) := by
  obtain ⟨i0, hi0, hz0, hz1, hz2⟩ := info_parts Tryd.info161
  have h0 := h.c0
  have HF := Lib.hid (pfind h hl t)
  rw [idxT_no ht] at HF
  obtain ⟨t0, t1, c0, c1⟩ := hr
  have H := Lib.hid h
  clear h ht
  go_enter Tryd.func53, Tryd.ntmps53
  go_wp2_with (first
    | (go_at_call 84; refine HF.out.mono ?_; rintro e w1 ⟨rfl, hb1⟩; have HB1 := Lib.hid hb1; have H1 := Lib.hid (H.out.below hb1); have hc1 := H1.out.c1; clear hb1)
    | (at_builtin; (refine wpList_append_own _ rfl (.tmp 35) (.tmp 39) 155 rfl base 161 i0 _ 2 16 Tryd.underlying155 hi0 hz0 hz1 hz2 rfl (by omega) v L.length (flatS L) rfl (H1.out.own.alloc _) ⟨w1.heap.size, 0, none⟩ 1 1 [.int .i64 t, .int .i64 c] rfl rfl ?_ ?_ ?_ ?_ ?_ ?_); (exact fun j u hu => cell_litT w1 [.int .i64 t, .int .i64 c] 161 j u hu); (simp [Value.oneCell']); (unfold maxLen; omega); (omega); (have := H1.out.lo; have := H1.out.blk.lt; simp; omega); intro v' w2 hown2 hg2 hnil2; have HO2 := Lib.hid hown2; have HG2 := Lib.hid hg2; have hb2 := (H1.out.blk.alloc (.cells #[.int .i64 t, .int .i64 c] 161)).grown hg2 (fun h => own_blk_ne H1.out.own H1.out.blk (by decide) h.symm); have hcp := hb2.cell 1; have hfp := hb2.frozen 1; have HB2 := Lib.hid hb2; obtain ⟨A2, c2, rfl⟩ := own_formM hown2; clear hown2 hg2 hnil2 hb2))
  go_ret
  have hsz1 := HB1.out.size
  have hw2 := HG2.out.size
  simp at hw2
  have hlt := H1.out.blk.lt
  refine ⟨rfl, ⟨.slice A2 (L.length + 1) c2, ?_⟩, ?_, ?_⟩
  · refine ⟨by simpa using HB2.out.set_ 1 (.slice A2 (L.length + 1) c2), ?_, H.out.lo⟩
    have h := own_far HO2.out (a := ⟨p, 1, none⟩) (own_blk_ne HO2.out HB2.out (by decide)) (.slice A2 (L.length + 1) c2)
    rw [List.length_append]
    rw [show flatS (L ++ [⟨t, c, k⟩]) = flatS L ++ [.int .i64 t, .int .i64 c] by simp [flatS, slc]]
    exact h
  · exact (((((Below.refl base w).trans (HB1.out.mono (by have := H.out.lo; have := H.out.blk.lt; omega))).alloc (by have := H.out.lo; omega) (.cells #[.int .i64 t, .int .i64 c] 161)).grown HG2.out (by have := H.out.lo; simp; omega) (fun g hg => (H1.out.own.lt g hg).1)).setCell H.out.lo _)
  · refine ((FrP.of HB1.out).trans (FrP.of ((Below.refl _ w1).alloc (Nat.le_refl _) (.cells #[.int .i64 t, .int .i64 c] 161)))).trans (FrP.trans ?_ (FrP.cell HB2.out (.inl rfl) 1 _))
    refine ⟨HG2.out.size, fun g o hg ho => HG2.out.block g (heap_lt hg) fun e => ?_⟩
    rcases (H1.out.own.alloc (.cells #[.int .i64 t, .int .i64 c] 161)).2 with ⟨h0, _⟩ | ⟨g', cap, cur, h0, _, h2, _⟩
    · rw [h0] at e; simp [Value.ownBlock] at e
    · rw [h0] at e
      simp only [Value.ownBlock, Option.some.injEq] at e
      subst e
      rw [h2] at hg
      cases hg
      exact (ho _ _ _ rfl).2 rfl
theorem pcell (h : LotP base w p n v L) (hd : L.Pairwise (fun a b => a.th ≠ b.th)) (hl : L.length ≤ 1000) (t : Int) :
    Calls Tryd.prog 59 #[.pointer (some ⟨p, 0, none⟩), .int .i64 t] w fun e w' => e = .returned (.int .i64 (cellF L t)) ∧ Below w.heap.size w w' := by
  have HF := Lib.hid (pfind h hl t)
  obtain ⟨A, c, rfl⟩ := own_formM h.own
  have H := Lib.hid h
  by_cases ht : hasT L t
  · obtain ⟨k, hk, hi, hth⟩ := idxT_has ht
    rw [hi] at HF
    have hce := cellF_mem hd (List.getElem_mem hk)
    rw [hth] at hce
    have HCE := Lib.hid hce
    have hkl : (k : Int) < (L.length : Int) := by omega
    clear h hi hth hce hd ht
    go_enter Tryd.func59, Tryd.ntmps59
    go_wp2_with (go_at_call 84; refine HF.out.mono ?_; rintro e w1 ⟨rfl, hb1⟩; have H1 := Lib.hid (H.out.below hb1); have HB1 := Lib.hid hb1; have hc1 := H1.out.c1; obtain ⟨ad, hA, _, c0, c1⟩ := (Reads.of_own H1.out.own).sl rfl hk; subst hA; obtain ⟨ce, hcee⟩ : ∃ ce, L[k].ce = ce := ⟨_, rfl⟩; rw [hcee] at c1; have HC := Lib.hid hcee; clear hb1 hcee c0)
    go_ret
    exact ⟨by rw [HCE.out, HC.out]; rfl, HB1.out⟩
  · rw [idxT_no ht] at HF
    have HCE := Lib.hid (cellF_none ht)
    clear h ht hd
    go_enter Tryd.func59, Tryd.ntmps59
    go_wp2_with (go_at_call 84; refine HF.out.mono ?_; rintro e w1 ⟨rfl, hb1⟩)
    go_ret
    exact ⟨by rw [HCE.out]; rfl, hb1⟩
theorem atL_snoc (c : Int) (L : List Sl) (k : Nat) (hk : k < L.length) : atL c (L.take (k + 1)) = atL c (L.take k) ++ (if L[k].ce = c then [L[k].th] else []) := by
  rw [List.take_succ_eq_append_getElem hk]
  unfold atL
  rw [List.filter_append, List.map_append]
  congr 1
  by_cases h : L[k].ce = c <;> simp [h]
set_option maxRecDepth 100000 in
set_option maxHeartbeats 2000000 in
theorem pat (h : LotP base w p n v L) (hl : L.length ≤ 1000) (c : Int) : Calls Tryd.prog 61 #[.pointer (some ⟨p, 0, none⟩), .int .i64 c] w (AtEnd (atL c L) w) := by
  obtain ⟨i0, hi0, hz0, hz1, hz2⟩ := info_parts Tryd.info3f
  obtain ⟨A, cp, rfl⟩ := own_formM h.own
  have hc1 := h.c1
  have H := Lib.hid h
  have hlt := h.blk.lt
  have HR := Lib.hid (Reads.of_own h.own)
  obtain ⟨m, hm⟩ : ∃ m, L.length = m := ⟨_, rfl⟩
  have HM := Lib.hid hm
  rw [hm] at hc1 hl HR
  clear h hm
  go_enter Tryd.func61, Tryd.ntmps61
  go_wp2
  go_loopw [13, 5] (fun i u wr => ∃ k : Nat, k ≤ m ∧ i = .int .i64 k ∧ RowAt w.heap.size wr u (atL c (L.take k)) ∧ Below w.heap.size w wr) (fun i _ _ => m - (intOf i).toNat)
  case atStart => exact ⟨0, Nat.zero_le _, rfl, RowAt.nil_ _ _, Below.refl _ _⟩
  case round =>
    obtain ⟨k, hk, rfl, hrow, hbel⟩ := hrel
    have HROW := Lib.hid hrow
    have HB := Lib.hid hbel
    have hsz := hbel.size
    clear hrow hbel
    by_cases hlt2 : k < m
    · obtain ⟨ad, rfl, _, c0, c1⟩ := (HR.out.below HB.out).sl HM.out hlt2
      have hkl : k < L.length := by rw [HM.out]; exact hlt2
      have hsn := atL_snoc c L k hkl
      have hll := Lib.hid (show (atL c (L.take k)).length ≤ 2000 by have := atL_len c (L.take k); have := List.length_take_le k L; omega)
      obtain ⟨th, hth⟩ : ∃ th, L[k].th = th := ⟨_, rfl⟩
      obtain ⟨ce, hce⟩ : ∃ ce, L[k].ce = ce := ⟨_, rfl⟩
      rw [hth] at c0 hsn
      rw [hce] at c1 hsn
      have HROW2 := Lib.hid (show RowAt w.heap.size (wr.alloc (.cells #[.int .i64 th, .int .i64 ce] 161)) u5 _ from World.ownsRow.alloc HROW.out _)
      have HB2 := Lib.hid (HB.out.alloc hsz (.cells #[.int .i64 th, .int .i64 ce] 161))
      clear hth hce hkl
      by_cases he : ce = c
      · subst he
        rw [if_pos rfl] at hsn
        have HSN := Lib.hid hsn
        clear hsn
        go_wp2_with (at_builtin; (refine wpList_append_own _ rfl (.tmp 21) (.tmp 24) 50 rfl w.heap.size 3 i0 _ 1 8 Tryd.underlying50 hi0 hz0 hz1 hz2 rfl (by omega) u5 _ _ rfl (World.ownsRow.alloc HROW2.out _) ⟨wr.heap.size + 1, 0, none⟩ 1 1 [.int .i64 th] rfl rfl ?_ ?_ ?_ ?_ ?_ ?_); (have hq := cell_litT (wr.alloc (.cells #[.int .i64 th, .int .i64 ce] 161)) [.int .i64 th] 3; rw [World.size_alloc] at hq; exact hq); (simp [Value.oneCell']); (have := hll.out; unfold maxLen; omega); (have := hll.out; omega); (simp; omega); intro v' w5 hown5 hg5 hnil5)
        have HFIN := Lib.hid (show RowAt w.heap.size w5 v' (atL ce (L.take (k + 1))) ∧ Below w.heap.size w w5 from
          ⟨by rw [HSN.out]; exact RowAt.snoc hown5, (HB2.out.alloc (by simp; omega) _).grown hg5 (by simp; omega) (fun g hg => (World.ownsRow.lt HROW.out g hg).1)⟩)
        go_roundw
        case rel => exact ⟨k + 1, by omega, by go_num, HFIN.out⟩
        case measure => simp [intOf]; omega
      · have hb : (ce == c) = false := by simpa using he
        rw [if_neg he, List.append_nil] at hsn
        have HSN := Lib.hid hsn
        clear hsn he
        go_wp2
        go_roundw
        case rel => exact ⟨k + 1, by omega, by go_num, by rw [HSN.out]; exact HROW2.out, HB2.out⟩
        case measure => simp [intOf]; omega
    · obtain rfl : k = m := by omega
      have HEND := Lib.hid (show AtEnd (atL c L) w (.returned u5) wr from ⟨u5, rfl, by have h := HROW.out; rw [List.take_of_length_le (by rw [HM.out]; exact Nat.le_refl _)] at h; exact h, HB.out⟩)
      go_wp2
      go_ret
      exact HEND.out
end
end Go.Proofs.YtepoahinnfjaiaaDoor
