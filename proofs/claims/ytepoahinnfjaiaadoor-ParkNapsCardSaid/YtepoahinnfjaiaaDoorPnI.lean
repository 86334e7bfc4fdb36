/-
  The walk of ParkNaps in the program, part seven: waking. Conditions: the lot is this call's own.
-/
import Derived.Test.YtepoahinnfjaiaaDoorPnH
namespace Go.Proofs.YtepoahinnfjaiaaDoor
open Go.RowKit Go.Extern.Stop Go.Stop Go.Extern
attribute [local go_sem ↓] Go.wp_at_zero Go.wp_at_succ

theorem df85_nil {z : Nat} {w : World} {c m : Int} {v : Value} (hE : Env z w c m v []) :
    Calls Tryd.prog 85 #[.slice none 0 0, Clo z] w fun e w' => e = .returned (.slice none 0 0) ∧ Below w.heap.size w w' := by
  have hI := Lib.hid (index_none [] w.heap.size 0 0 none rfl (by omega) Reads.none_ (Nat.le_refl _) hE (fun j hj => by simp at hj))
  clear hE
  go_enter Tryd.func85, Tryd.ntmps85
  go_wp2_with (go_at_call 96; refine hI.out.mono ?_; rintro e w' ⟨rfl, hb'⟩)
  go_ret
  exact ⟨rfl, hb'⟩
section
variable {base : Nat} {w : World} {p n : Nat} {v : Value} {L : List Sl}
def PWEnd (base : Nat) (w : World) (p n : Nat) (xs : List Int) (L : List Sl) (e : Ending) (w' : World) : Prop :=
  ∃ v, e = .returned v ∧ RowAt w.heap.size w' v xs ∧ (∃ v, LotP base w' p n v L) ∧ Below base w w' ∧ FrP w w'
set_option maxRecDepth 100000 in
set_option maxHeartbeats 1000000 in
theorem pwake (h : LotP base w p n v L) (hl : L.length ≤ 1000) (c m : Int) :
    Calls Tryd.prog 55 #[.pointer (some ⟨p, 0, none⟩), .int .i64 c, .int .i64 m] w (PWEnd base w p n (wk c m L).2 (wk c m L).1) := by
  have hlt := h.blk.lt
  have hlo := h.lo
  have b1 := (Below.refl w.heap.size w).alloc (Nat.le_refl _) (.cells #[.int .i64 c] 3)
  have b2 := b1.alloc (by simp) (.cells #[.int .i64 m] 3)
  have b3 := b2.alloc (by simp; omega) (.cells #[.slice none 0 0] 50)
  have hE : Env w.heap.size (((w.alloc (.cells #[.int .i64 c] 3)).alloc (.cells #[.int .i64 m] 3)).alloc (.cells #[.slice none 0 0] 50)) c m (.slice none 0 0) [] := by
    have e0 := ((Blk.new w 3 #[.int .i64 c]).alloc (.cells #[.int .i64 m] 3)).alloc (.cells #[.slice none 0 0] 50)
    have e1 := (Blk.new (w.alloc (.cells #[.int .i64 c] 3)) 3 #[.int .i64 m]).alloc (.cells #[.slice none 0 0] 50)
    have e2 := Blk.new ((w.alloc (.cells #[.int .i64 c] 3)).alloc (.cells #[.int .i64 m] 3)) 50 #[.slice none 0 0]
    simp only [World.size_alloc] at e1 e2
    exact ⟨e0, e1, e2, RowAt.nil_ _ _⟩
  have hP := h.below b3
  have hc1 := hP.c1
  have HP := Lib.hid hP
  have HB3 := Lib.hid b3
  have H := Lib.hid h
  rcases h.own.2 with ⟨rfl, h0⟩ | ⟨g, cap, cur, rfl, hgb, hk, _⟩
  · have hL0 : L = [] := List.eq_nil_of_length_eq_zero h0
    subst hL0
    have HD := Lib.hid (df85_nil hE)
    have HE := Lib.hid hE
    clear h hE hP b1 b2 b3 h0
    go_enter Tryd.func55, Tryd.ntmps55
    go_wp2_with (go_at_call 85; refine HD.out.mono ?_; rintro e w2 ⟨rfl, hb2⟩; have hP2 := HP.out.below hb2; have hcp := hP2.blk.cell 1; have hfp := hP2.blk.frozen 1; have hE2 := HE.out.below hb2; have hco := hE2.o.cell 0; simp at hco; have HP2 := Lib.hid hP2; have HB2 := Lib.hid hb2; have hne : ¬ w.heap.size + 1 + 1 = p := (by omega); have hne2 : ¬ p = w.heap.size + 1 + 1 := (by omega); clear hP2 hE2 hb2)
    go_ret
    have hbb := HB3.out.trans (HB2.out.mono HB3.out.size)
    refine ⟨_, rfl, RowAt.nil_ _ _, ⟨.slice none 0 0, ?_⟩, (hbb.mono (by omega)).setCell hlo _, (FrP.of hbb).trans (FrP.cell HP2.out.blk (.inl rfl) 1 _)⟩
    exact ⟨by simpa using HP2.out.blk.set_ 1 (.slice none 0 0), own_far HP2.out.own (by simp [Value.ownBlock]) _, hlo⟩
  · have hgl : g < w.heap.size := heap_lt hk
    have HD := Lib.hid (df85 base g cap L.length L rfl hl hgl hP.own hE)
    have HK := Lib.hid hk
    have hgp : p ≠ g := fun e => own_blk_ne h.own h.blk (by decide) (by simp [Value.ownBlock, e])
    clear h hE hP b1 b2 b3 hk
    go_enter Tryd.func55, Tryd.ntmps55
    go_wp2_with (go_at_call 85; refine HD.out.mono ?_; rintro e w2 ⟨rfl, ho2, ⟨v2, hE2⟩, hx2⟩; have hp2 : Blk w2 p 157 _ := (hx2.2.2.2.2 p hlt hgp).trans HP.out.blk; have hcp := hp2.cell 1; have hfp := hp2.frozen 1; have hco := hE2.o.cell 0; simp at hco; obtain ⟨A2, c2, rfl⟩ := own_formM hE2.row; have HP2 := Lib.hid hp2; have HO2 := Lib.hid ho2; have HE2 := Lib.hid hE2; have HX2 := Lib.hid hx2; have hne : ¬ w.heap.size + 1 + 1 = p := (by omega); have hne2 : ¬ p = w.heap.size + 1 + 1 := (by omega); clear hp2 hE2 hx2 ho2)
    go_ret
    have hs3 := HB3.out.size
    have hx := HX2.out
    have hbx : Below base w w2 := ⟨hx.1.trans HB3.out.os, hx.2.1.trans HB3.out.tape, hx.2.2.1.trans HB3.out.output, Nat.le_trans hs3 hx.2.2.2.1, fun i hi => (hx.2.2.2.2 i (by omega) (by omega)).trans (HB3.out.block i (by omega))⟩
    have hfx : FrP w w2 := ⟨Nat.le_trans hs3 hx.2.2.2.1, fun i o hi ho => by
      have hil := heap_lt hi
      have hig : i ≠ g := fun e => by subst e; rw [HK.out] at hi; cases hi; exact (ho _ _ _ rfl).2 rfl
      exact (hx.2.2.2.2 i hil hig).trans (HB3.out.block i hil)⟩
    have hlw : ∀ b, Value.ownBlock (.slice A2 (wk c m L).2.length c2) = some b → w.heap.size + 1 + 1 + 1 ≤ b := fun b hb => (World.ownsRow.lt HE2.out.row b hb).1
    refine ⟨_, rfl, ?_, ⟨.slice (some ⟨g, 0, none⟩) (wk c m L).1.length cap, ?_⟩, hbx.setCell hlo _, hfx.trans (FrP.cell HP2.out (.inl rfl) 1 _)⟩
    · have h1 : RowAt (w.heap.size + 1 + 1 + 1) w2 (.slice A2 (wk c m L).2.length c2) (wk c m L).2 := HE2.out.row
      have h2 := own_far h1 (a := ⟨p, 1, none⟩) (fun hb => by have := hlw p hb; omega) (.slice (some ⟨g, 0, none⟩) (wk c m L).1.length cap)
      refine ⟨h2.1, ?_⟩
      rcases h2.2 with h3 | ⟨g', cap', cur', e1, e2, e3⟩
      · exact .inl h3
      · exact .inr ⟨g', cap', cur', e1, by omega, e3⟩
    · exact ⟨by simpa using HP2.out.set_ 1 (.slice (some ⟨g, 0, none⟩) (wk c m L).1.length cap), own_far HO2.out (fun hb => hgp (by simpa [Value.ownBlock] using hb.symm)) _, hlo⟩
end
end Go.Proofs.YtepoahinnfjaiaaDoor
