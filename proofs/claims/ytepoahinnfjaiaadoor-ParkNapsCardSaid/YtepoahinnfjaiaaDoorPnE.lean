/-
  The walks of ParkNaps in the program, part three: poking. Conditions: the lot is this call's own.
-/
import Derived.Test.YtepoahinnfjaiaaDoorPnD
namespace Go.Proofs.YtepoahinnfjaiaaDoor
open Go.RowKit Go.Extern.Stop Go.Stop Go.Extern
attribute [local go_sem ↓] Go.wp_at_zero Go.wp_at_succ

theorem erase_eq : ∀ {L : List Sl} {k : Nat} (hk : k < L.length), L.Pairwise (fun a b => a.th ≠ b.th) → L.eraseIdx k = L.filter fun e => !decide (e.th = L[k].th)
  | x :: L, 0, hk, hd => by
    obtain ⟨h1, h2⟩ := List.pairwise_cons.1 hd
    have : L.filter (fun e => !decide (e.th = x.th)) = L := List.filter_eq_self.2 fun e he => by simpa using fun h => h1 e he h.symm
    simp [this]
  | x :: L, k + 1, hk, hd => by
    obtain ⟨h1, h2⟩ := List.pairwise_cons.1 hd
    have hk' : k < L.length := by simpa using hk
    have ih := erase_eq hk' h2
    have hne : x.th ≠ L[k].th := h1 _ (List.getElem_mem hk')
    simp only [List.eraseIdx_cons_succ, List.getElem_cons_succ]
    rw [List.filter_cons_of_pos (by simpa using hne), ih]
theorem LotP.some_ {base : Nat} {w : World} {p n : Nat} {v : Value} {L : List Sl} (h : LotP base w p n v L) (hL : 0 < L.length) : ∃ g cap, v = .slice (some ⟨g, 0, none⟩) L.length cap ∧ base ≤ g := by
  rcases h.own.2 with ⟨_, h0⟩ | ⟨g, cap, cur, hv, hb, _⟩
  · omega
  · exact ⟨g, cap, hv, hb⟩
section
variable {base : Nat} {w : World} {p n : Nat} {v : Value} {L : List Sl}
set_option maxRecDepth 100000 in
theorem ppoke_bad (h : LotP base w p n v L) (t : Int) (hb : ¬ (0 ≤ t ∧ t < n)) : Calls Tryd.prog 57 #[.pointer (some ⟨p, 0, none⟩), .int .i64 t] w (PSEnd base w p n 2 L) := by
  have h0 := h.c0
  have HE := Lib.hid (PSEnd.same h (k := 2) (e := .returned (.iface 26 (.int .i64 2))) rfl (Below.refl _ w))
  clear h
  have hc : t < 0 ∨ (0 ≤ t ∧ (n : Int) ≤ t) := by omega
  clear hb
  rcases hc with h1 | ⟨h1, h2⟩
  all_goals
    go_enter Tryd.func57, Tryd.ntmps57
    go_wp2
    go_ret
    exact HE.out
theorem ppoke_st (h : LotP base w p n v L) (hl : L.length ≤ 1000) (t : Int) (h0t : 0 ≤ t) (h1t : t < n) (ht : ¬ hasT L t) : Calls Tryd.prog 57 #[.pointer (some ⟨p, 0, none⟩), .int .i64 t] w (PSEnd base w p n 6 L) := by
  have h0 := h.c0
  have HF := Lib.hid (pfind h hl t)
  rw [idxT_no ht] at HF
  have HP := Lib.hid (fun w' (hb : Below w.heap.size w w') => PSEnd.same h (k := 6) (e := .returned (.iface 26 (.int .i64 6))) rfl hb)
  clear h ht
  go_enter Tryd.func57, Tryd.ntmps57
  go_wp2_with (go_at_call 84; refine HF.out.mono ?_; rintro e w' ⟨rfl, hb'⟩)
  go_ret
  exact HP.out _ hb'
set_option maxRecDepth 100000 in
set_option maxHeartbeats 1000000 in
theorem ppoke_ok (h : LotP base w p n v L) (hd : L.Pairwise (fun a b => a.th ≠ b.th)) (hl : L.length ≤ 1000) (t : Int) (h0t : 0 ≤ t) (h1t : t < n) (ht : hasT L t) :
    Calls Tryd.prog 57 #[.pointer (some ⟨p, 0, none⟩), .int .i64 t] w (PSEnd base w p n 0 (L.filter fun e => !decide (e.th = t))) := by
  have h0 := h.c0
  have HF := Lib.hid (pfind h hl t)
  obtain ⟨k, hk, hi, hth⟩ := idxT_has ht
  rw [hi] at HF
  obtain ⟨g, cap, rfl, hgb⟩ := h.some_ (by omega)
  have her := erase_eq hk hd
  rw [hth] at her
  have HER := Lib.hid her
  have H := Lib.hid h
  have HK := Lib.hid hk
  have hkb : (k : Int) ≤ 1000 := by omega
  clear h ht hi hth her hd
  go_enter Tryd.func57, Tryd.ntmps57
  go_wp2_with (first
    | (go_at_call 84; refine HF.out.mono ?_; rintro e w1 ⟨rfl, hb1⟩; have HB1 := Lib.hid hb1; have H1 := Lib.hid (H.out.below hb1); have hc1 := H1.out.c1; clear hb1)
    | (go_at_call 87; refine (del87 base g cap k L.length L w1 rfl HK.out hl H1.out.own).mono ?_; rintro e w2 ⟨rfl, ho2, hg2⟩; have HO2 := Lib.hid ho2; have HG2 := Lib.hid hg2; have hne : p ≠ g := (fun e => own_blk_ne H1.out.own H1.out.blk (by decide) (by simp [Value.ownBlock, e])); have hb2 := hg2.far H1.out.blk hne; have hcp := hb2.cell 1; have hfp := hb2.frozen 1; have HB2 := Lib.hid hb2; clear ho2 hg2 hb2 hne))
  go_ret
  have hsz1 := HB1.out.size
  have hlt := H1.out.blk.lt
  have hlp := H.out.blk.lt
  have hlo := H.out.lo
  have hlen : (L.filter fun e => !decide (e.th = t)).length = L.length - 1 := by rw [← HER.out, List.length_eraseIdx, if_pos HK.out]
  refine ⟨rfl, ⟨.slice (some ⟨g, 0, none⟩) (L.length - 1) cap, ?_⟩, ?_, ?_⟩
  · refine ⟨by simpa using HB2.out.set_ 1 (.slice (some ⟨g, 0, none⟩) (L.length - 1) cap), ?_, hlo⟩
    have h := own_far HO2.out (a := ⟨p, 1, none⟩) (own_blk_ne HO2.out HB2.out (by decide)) (.slice (some ⟨g, 0, none⟩) (L.length - 1) cap)
    rw [hlen, ← HER.out]
    exact h
  · exact (((Below.refl base w).trans (HB1.out.mono (by omega))).trans (HG2.out.below hgb)).setCell hlo _
  · obtain ⟨hS, _⟩ := own_to H1.out.own
    obtain ⟨cur, hk2, _⟩ := hS.blk
    exact ((FrP.of HB1.out).trans (HG2.out.frP hk2)).trans (FrP.cell HB2.out (.inl rfl) 1 _)
end
end Go.Proofs.YtepoahinnfjaiaaDoor
