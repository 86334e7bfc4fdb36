/-
  The law ParkNaps is proved here, as a walk: who sleeps where comes to the same in both texts. Conditions: errors.errorType is laid; the naps lie below this call's memory.
-/
import Derived.Test.YtepoahinnfjaiaaDoorPnB
import Derived.Test.YtepoahinnfjaiaaDoorPnS
import Derived.Test.YtepoahinnfjaiaaDoorPnI
import Derived.Test.YtepoahinnfjaiaaDoorErr
import Derived.Deep.RegionHeld3
import Derived.Deep.DeepMust
import Derived.Deep.Cut
namespace Go.Proofs.YtepoahinnfjaiaaDoor
open Go.RowKit Go.Extern.Stop Go.Stop Go.Extern
attribute [local go_sem ↓] Go.wp_at_zero Go.wp_at_succ

theorem equal_i (A A' : Option Addr) (n c c' B B' : Nat) (xs : List Int) (w : World) (hl : xs.length = n) (hr : Reads w B 1 A n (ints xs)) (hr' : Reads w B' 1 A' n (ints xs)) (hn : n ≤ 140737488355328) :
    Calls Tryd.prog 50 #[.slice A n c, .slice A' n c'] w fun e w' => e = .returned (.bool true) ∧ Below w.heap.size w w' := by
  have HL := Lib.hid hl
  clear hl
  go_enter Tryd.func50, Tryd.ntmps50
  go_wp2
  go_loopw [13] (fun t wr => ∃ k : Nat, k ≤ n ∧ t = .int .i64 k ∧ ∃ j, wr = w.drewN j) (fun t _ => n - (intOf t).toNat)
  case atStart => exact ⟨0, Nat.zero_le _, rfl, 0, rfl⟩
  case round =>
    obtain ⟨k, hk, rfl, j, rfl⟩ := hrel
    by_cases hlt : k < n
    · obtain ⟨ad, rfl, _, hc⟩ := hr.int_ HL.out hlt
      obtain ⟨ad', rfl, _, hc'⟩ := hr'.int_ HL.out hlt
      obtain ⟨z, hz⟩ : ∃ z, xs[k]'(by rw [HL.out]; exact hlt) = z := ⟨_, rfl⟩
      rw [hz] at hc hc'
      clear hz
      go_wp2
      go_quiet (fail)
      go_wp2
      go_roundw
      case rel => exact ⟨k + 1, by omega, by go_num, _, rfl⟩
      case measure => simp [intOf]; omega
    · obtain rfl : k = n := by omega
      go_wp2
      go_ret
      exact ⟨rfl, below_drewN (Below.refl _ _) _⟩
theorem LotR.drew {base : Nat} {w : World} {r a b n : Nat} {s : Lt} (h : LotR base w r a b n s) : LotR base w.drew r a b n s := h.frP (FrP.of (Below.refl _ w).drew)
/-- All that holds between the acts of a round: the program's lot is at sp, the reference's at sr; the nap lies at x. -/
structure LawQ (w0 : World) (p r a b n x : Nat) (wt A B : Int) (sp sr : Lt) (w : World) : Prop where
  P : ∃ v, LotP w0.heap.size w p n v sp.L
  R : LotR w0.heap.size w r a b n sr
  N : Blk w x 101 #[.int .i64 wt, .int .i64 A, .int .i64 B]
  bel : Below w0.heap.size w0 w
section
variable {w0 : World} {p r a b n x : Nat} {wt A B : Int} {sp sr : Lt} {w : World}
theorem LawQ.below {w' : World} (h : LawQ w0 p r a b n x wt A B sp sr w) (hb : Below w.heap.size w w') : LawQ w0 p r a b n x wt A B sp sr w' := by
  obtain ⟨v, hv⟩ := h.P
  exact ⟨⟨v, hv.below hb⟩, h.R.frP (FrP.of hb), h.N.below hb h.N.lt, h.bel.trans (hb.mono h.bel.size)⟩
theorem LawQ.pop {w' : World} {s' : Lt} (h : LawQ w0 p r a b n x wt A B sp sr w) (hv : ∃ v, LotP w0.heap.size w' p n v s'.L) (hb : Below w0.heap.size w w') (hf : FrP w w') : LawQ w0 p r a b n x wt A B s' sr w' :=
  ⟨hv, h.R.frP hf, hf.blk h.N (by decide) (by decide), h.bel.trans hb⟩
theorem LawQ.rop {w' : World} {s' : Lt} (h : LawQ w0 p r a b n x wt A B sp sr w) (hv : LotR w0.heap.size w' r a b n s') (hb : Below w0.heap.size w w') (hf : FrR w w') : LawQ w0 p r a b n x wt A B sp s' w' := by
  obtain ⟨v, hP⟩ := h.P
  exact ⟨⟨v, hP.frR hf⟩, hv, hf.blk h.N (by decide), h.bel.trans hb⟩
theorem LawQ.cells (h : LawQ w0 p r a b n x wt A B sp sr w) : w.cell? ⟨x, 0, none⟩ = some (.int .i64 wt) ∧ w.cell? ⟨x, 1, none⟩ = some (.int .i64 A) ∧ w.cell? ⟨x, 2, none⟩ = some (.int .i64 B) := ⟨h.N.cell 0, h.N.cell 1, h.N.cell 2⟩
theorem LawQ.err (h : LawQ w0 p r a b n x wt A B sp sr w) (hg : HasErr w0) : HasErr w := hg.below h.bel hg.lt
theorem q_bare (h : LawQ w0 p r a b n x wt A B sp sr w) (hg : HasErr w0) (k : Int) : Calls Tryd.prog 14 #[errV k, .int .i64 k] w fun e w' => e = .returned (.bool true) ∧ LawQ w0 p r a b n x wt A B sp sr w' :=
  (bare_any k w (h.err hg)).mono fun _ _ ⟨he, hb⟩ => ⟨he, h.below hb⟩
theorem q53 (h : LawQ w0 p r a b n x wt A B sp sr w) (hok : LtOk n sp) (hc : sp.clk ≤ 1000) : Calls Tryd.prog 53 #[.pointer (some ⟨p, 0, none⟩), .int .i64 A, .int .i64 B] w fun e w' => e = .returned (errV (slpC n sp A B)) ∧ LawQ w0 p r a b n x wt A B (slpS n sp A B) sr w' := by
  obtain ⟨v, hv⟩ := h.P
  have hl := Nat.le_trans hok.len hc
  by_cases hr : inR n A B
  · by_cases ht : hasT sp.L A
    · refine (psleep_st hv hl A B hr ht).mono fun e w' ⟨he, h1, h2, h3⟩ => ?_
      rw [show slpC n sp A B = 6 by unfold slpC; rw [if_pos hr, if_pos ht], show slpS n sp A B = sp by unfold slpS; rw [if_neg (fun hc => hc.2 ht)]]
      exact ⟨he, h.pop h1 h2 h3⟩
    · refine (psleep_ok hv hl A B (sp.clk + 1) hr ht).mono fun e w' ⟨he, h1, h2, h3⟩ => ?_
      rw [show slpC n sp A B = 0 by unfold slpC; rw [if_pos hr, if_neg ht], show slpS n sp A B = ⟨sp.clk + 1, sp.L ++ [⟨A, B, sp.clk + 1⟩]⟩ by unfold slpS; rw [if_pos ⟨hr, ht⟩]]
      exact ⟨he, h.pop h1 h2 h3⟩
  · refine (psleep_bad hv A B hr).mono fun e w' ⟨he, h1, h2, h3⟩ => ?_
    rw [show slpC n sp A B = 2 by unfold slpC; rw [if_neg hr], show slpS n sp A B = sp by unfold slpS; rw [if_neg (fun hc => hr hc.1)]]
    exact ⟨he, h.pop h1 h2 h3⟩
theorem q54 (h : LawQ w0 p r a b n x wt A B sp sr w) (hn : n ≤ 16) (hok : LtOk n sr) (hc : sr.clk ≤ 1000) : Calls Tryd.prog 54 #[.pointer (some ⟨r, 0, none⟩), .int .i64 A, .int .i64 B] w fun e w' => e = .returned (.int .i64 (slpC n sr A B)) ∧ LawQ w0 p r a b n x wt A B sp (slpS n sr A B) w' := by
  by_cases hr : inR n A B
  · by_cases ht : hasT sr.L A
    · refine (rsleep_st h.R hok hn A B hr ht).mono ?_
      rintro e w' ⟨rfl, rfl⟩
      rw [show slpC n sr A B = 6 by unfold slpC; rw [if_pos hr, if_pos ht], show slpS n sr A B = sr by unfold slpS; rw [if_neg (fun hc => hc.2 ht)]]
      exact ⟨rfl, h⟩
    · refine (rsleep_ok h.R hn hc A B hr ht).mono fun e w' ⟨he, h1, h2, h3⟩ => ?_
      rw [show slpC n sr A B = 0 by unfold slpC; rw [if_pos hr, if_neg ht], show slpS n sr A B = ⟨sr.clk + 1, sr.L ++ [⟨A, B, sr.clk + 1⟩]⟩ by unfold slpS; rw [if_pos ⟨hr, ht⟩]]
      exact ⟨he, h.rop h1 h2 h3⟩
  · refine (rsleep_bad h.R hn A B hr).mono ?_
    rintro e w' ⟨rfl, rfl⟩
    rw [show slpC n sr A B = 2 by unfold slpC; rw [if_neg hr], show slpS n sr A B = sr by unfold slpS; rw [if_neg (fun hc => hr hc.1)]]
    exact ⟨rfl, h⟩
theorem q57 (h : LawQ w0 p r a b n x wt A B sp sr w) (hok : LtOk n sp) (hc : sp.clk ≤ 1000) : Calls Tryd.prog 57 #[.pointer (some ⟨p, 0, none⟩), .int .i64 A] w fun e w' => e = .returned (errV (pokC n sp A)) ∧ LawQ w0 p r a b n x wt A B (pokS n sp A) sr w' := by
  obtain ⟨v, hv⟩ := h.P
  have hl := Nat.le_trans hok.len hc
  by_cases hr : 0 ≤ A ∧ A < n
  · by_cases ht : hasT sp.L A
    · refine (ppoke_ok hv hok.dis hl A hr.1 hr.2 ht).mono fun e w' ⟨he, h1, h2, h3⟩ => ?_
      rw [show pokC n sp A = 0 by unfold pokC; rw [if_pos hr, if_pos ht], show pokS n sp A = ⟨sp.clk, sp.L.filter fun e => !decide (e.th = A)⟩ by unfold pokS; rw [if_pos ⟨hr, ht⟩]]
      exact ⟨he, h.pop h1 h2 h3⟩
    · refine (ppoke_st hv hl A hr.1 hr.2 ht).mono fun e w' ⟨he, h1, h2, h3⟩ => ?_
      rw [show pokC n sp A = 6 by unfold pokC; rw [if_pos hr, if_neg ht], show pokS n sp A = sp by unfold pokS; rw [if_neg (fun hc => ht hc.2)]]
      exact ⟨he, h.pop h1 h2 h3⟩
  · refine (ppoke_bad hv A hr).mono fun e w' ⟨he, h1, h2, h3⟩ => ?_
    rw [show pokC n sp A = 2 by unfold pokC; rw [if_neg hr], show pokS n sp A = sp by unfold pokS; rw [if_neg (fun hc => hr hc.1)]]
    exact ⟨he, h.pop h1 h2 h3⟩
theorem q58 (h : LawQ w0 p r a b n x wt A B sp sr w) (hn : n ≤ 16) (hok : LtOk n sr) : Calls Tryd.prog 58 #[.pointer (some ⟨r, 0, none⟩), .int .i64 A] w fun e w' => e = .returned (.int .i64 (pokC n sr A)) ∧ LawQ w0 p r a b n x wt A B sp (pokS n sr A) w' := by
  by_cases hr : 0 ≤ A ∧ A < n
  · by_cases ht : hasT sr.L A
    · refine (rpoke_ok h.R hok hn A hr.1 hr.2 ht).mono fun e w' ⟨he, h1, h2, h3⟩ => ?_
      rw [show pokC n sr A = 0 by unfold pokC; rw [if_pos hr, if_pos ht], show pokS n sr A = ⟨sr.clk, sr.L.filter fun e => !decide (e.th = A)⟩ by unfold pokS; rw [if_pos ⟨hr, ht⟩]]
      exact ⟨he, h.rop h1 h2 h3⟩
    · refine (rpoke_st h.R hn A hr.1 hr.2 ht).mono ?_
      rintro e w' ⟨rfl, rfl⟩
      rw [show pokC n sr A = 6 by unfold pokC; rw [if_pos hr, if_neg ht], show pokS n sr A = sr by unfold pokS; rw [if_neg (fun hc => ht hc.2)]]
      exact ⟨rfl, h⟩
  · refine (rpoke_bad h.R hn A hr).mono ?_
    rintro e w' ⟨rfl, rfl⟩
    rw [show pokC n sr A = 2 by unfold pokC; rw [if_neg hr], show pokS n sr A = sr by unfold pokS; rw [if_neg (fun hc => hr hc.1)]]
    exact ⟨rfl, h⟩
theorem q55 (h : LawQ w0 p r a b n x wt A B sp sr w) (hok : LtOk n sp) (hc : sp.clk ≤ 1000) : Calls Tryd.prog 55 #[.pointer (some ⟨p, 0, none⟩), .int .i64 A, .int .i64 B] w fun e w' => ∃ A1 c1, e = .returned (.slice A1 (wk A B sp.L).2.length c1) ∧ RowAt w.heap.size w' (.slice A1 (wk A B sp.L).2.length c1) (wk A B sp.L).2 ∧ LawQ w0 p r a b n x wt A B (wakS A B sp) sr w' ∧ FrP w w' := by
  obtain ⟨v, hv⟩ := h.P
  refine (pwake hv (Nat.le_trans hok.len hc) A B).mono fun e w' ⟨u, he, h1, h2, h3, h4⟩ => ?_
  obtain ⟨A1, c1, rfl⟩ := own_formM h1
  exact ⟨A1, c1, he, h1, h.pop (s' := wakS A B sp) h2 h3 h4, h4⟩
theorem q56 (h : LawQ w0 p r a b n x wt A B sp sr w) (hn : n ≤ 16) (hok : LtOk n sr) (hc : sr.clk ≤ 1000) : Calls Tryd.prog 56 #[.pointer (some ⟨r, 0, none⟩), .int .i64 A, .int .i64 B] w fun e w' => ∃ A1 c1, e = .returned (.slice A1 (wk A B sr.L).2.length c1) ∧ RowAt w.heap.size w' (.slice A1 (wk A B sr.L).2.length c1) (wk A B sr.L).2 ∧ LawQ w0 p r a b n x wt A B sp (wakS A B sr) w' ∧ FrR w w' := by
  refine (rwake h.R hok hn hc A B).mono fun e w' ⟨u, he, h1, h2, h3, h4⟩ => ?_
  obtain ⟨A1, c1, rfl⟩ := own_formM h1
  exact ⟨A1, c1, he, h1, h.rop h2 h3 h4, h4⟩
theorem q59 (h : LawQ w0 p r a b n x wt A B sp sr w) (hok : LtOk n sp) (hc : sp.clk ≤ 1000) : Calls Tryd.prog 59 #[.pointer (some ⟨p, 0, none⟩), .int .i64 A] w fun e w' => e = .returned (.int .i64 (cellF sp.L A)) ∧ LawQ w0 p r a b n x wt A B sp sr w' := by
  obtain ⟨v, hv⟩ := h.P
  exact (pcell hv hok.dis (Nat.le_trans hok.len hc) A).mono fun e w' ⟨he, hb⟩ => ⟨he, h.below hb⟩
theorem q60 (h : LawQ w0 p r a b n x wt A B sp sr w) (hok : LtOk n sr) (hA : wfI A) : Calls Tryd.prog 60 #[.pointer (some ⟨r, 0, none⟩), .int .i64 A] w fun e w' => e = .returned (.int .i64 (cellF sr.L A)) ∧ LawQ w0 p r a b n x wt A B sp sr w' := by
  refine (rcell h.R hok A hA).mono ?_
  rintro e w' ⟨rfl, rfl⟩
  exact ⟨rfl, h⟩
theorem q61 (h : LawQ w0 p r a b n x wt A B sp sr w) (hok : LtOk n sp) (hc : sp.clk ≤ 1000) : Calls Tryd.prog 61 #[.pointer (some ⟨p, 0, none⟩), .int .i64 B] w fun e w' => ∃ A1 c1, e = .returned (.slice A1 (atL B sp.L).length c1) ∧ RowAt w.heap.size w' (.slice A1 (atL B sp.L).length c1) (atL B sp.L) ∧ LawQ w0 p r a b n x wt A B sp sr w' ∧ Below w.heap.size w w' := by
  obtain ⟨v, hv⟩ := h.P
  refine (pat hv (Nat.le_trans hok.len hc) B).mono fun e w' ⟨u, he, h1, hb⟩ => ?_
  obtain ⟨A1, c1, rfl⟩ := own_formM h1
  exact ⟨A1, c1, he, h1, h.below hb, hb⟩
theorem q62 (h : LawQ w0 p r a b n x wt A B sp sr w) (hn : n ≤ 16) (hok : LtOk n sr) (hc : sr.clk ≤ 1000) : Calls Tryd.prog 62 #[.pointer (some ⟨r, 0, none⟩), .int .i64 B] w fun e w' => ∃ A1 c1, e = .returned (.slice A1 (atL B sr.L).length c1) ∧ RowAt w.heap.size w' (.slice A1 (atL B sr.L).length c1) (atL B sr.L) ∧ LawQ w0 p r a b n x wt A B sp sr w' ∧ Below w.heap.size w w' := by
  refine (rat h.R hok hn hc B).mono fun e w' ⟨u, he, h1, hb⟩ => ?_
  obtain ⟨A1, c1, rfl⟩ := own_formM h1
  exact ⟨A1, c1, he, h1, h.below hb, hb⟩
theorem FrR.row {base : Nat} {w w' : World} {v : Value} {xs : List Int} (h : FrR w w') (hr : RowAt base w v xs) : RowAt base w' v xs := h.own hr (by decide)
theorem FrP.row {base : Nat} {w w' : World} {v : Value} {xs : List Int} (h : FrP w w') (hr : RowAt base w v xs) : RowAt base w' v xs := h.own hr (by decide) (by decide)
theorem RowAt.reads {base : Nat} {w : World} {A : Option Addr} {m c : Nat} {xs : List Int} (h : RowAt base w (.slice A m c) xs) (hm : xs.length = m) : Reads w w.heap.size 1 A m (ints xs) := by
  subst hm
  exact Reads.of_own h
end
/-- How a nap lies in memory. -/
structure Np where
  wt : Int
  a : Int
  b : Int
def npc (t : Np) : List Value := [.int .i64 t.wt, .int .i64 t.a, .int .i64 t.b]
theorem npc_len (t : Np) : (npc t).length = 3 := rfl
def flatN (l : List Np) : List Value := l.flatMap npc
theorem Reads.np {w : World} {B n k : Nat} {A : Option Addr} {l : List Np} (h : Reads w B 3 A n (flatN l)) (hn : l.length = n) (hk : k < n) :
    ∃ ad, A = some ad ∧ ad.block < B ∧ w.cell? (ad.add (k * 3)) = some (.int .i64 (l[k]'(by omega)).wt) ∧ w.cell? ⟨(ad.add (k * 3)).block, (ad.add (k * 3)).off + 1, none⟩ = some (.int .i64 (l[k]'(by omega)).a) ∧
      w.cell? ⟨(ad.add (k * 3)).block, (ad.add (k * 3)).off + 2, none⟩ = some (.int .i64 (l[k]'(by omega)).b) := by
  obtain ⟨ad, e, hb, hc⟩ := h.2 (by omega)
  have g := fun j hj => flatMap_get npc_len l k j (by omega) hj
  refine ⟨ad, e, hb, hc _ _ (g 0 (by omega)), ?_, ?_⟩
  · rw [← add_split ad (k * 3) 0]; exact hc _ _ (g 1 (by omega))
  · rw [← add_split ad (k * 3) 1]; exact hc _ _ (g 2 (by omega))
/-- What holds at a nap's head. -/
def LawN (w0 : World) (p r a b n k : Nat) (w : World) : Prop :=
  ∃ s : Lt, LtOk n s ∧ s.clk ≤ k ∧ (∃ v, LotP w0.heap.size w p n v s.L) ∧ LotR w0.heap.size w r a b n s ∧ Below w0.heap.size w0 w
set_option maxRecDepth 100000 in
set_option maxHeartbeats 16000000 in
theorem law_parks_ok (n : Nat) (hn : n ≤ 16) (Al : Option Addr) (m cp : Nat) (l : List Np) (w : World) (hl : l.length = m) (hm : m ≤ 80) (hr : Reads w w.heap.size 3 Al m (flatN l)) (hwf : ∀ t ∈ l, wfI t.a) (hg : HasErr w) :
    Calls Tryd.prog 11 #[.int .i64 n, .slice Al m cp] w fun e w' => e = .returned (.bool true) ∧ Below w.heap.size w w' := by
  have HL := Lib.hid hl
  have HR := Lib.hid hr
  have HWF := Lib.hid hwf
  have HG := Lib.hid hg
  clear hl hr hwf hg
  go_enter Tryd.func11, Tryd.ntmps11
  go_wp2_with (first
    | (go_at_call 51; refine (pnew_ok n hn _).mono ?_; rintro e w1 ⟨p, rfl, hp1, hb1⟩; have HP1 := Lib.hid hp1; have HB1 := Lib.hid hb1; clear hp1 hb1)
    | (go_at_call 52; refine (newlot n _).mono ?_; rintro e w2 ⟨r, a, b, rfl, hr2, hb2⟩; have HR2 := Lib.hid hr2; have HB2 := Lib.hid hb2; clear hr2 hb2))
  have hz1 := HB1.out.size
  have hst : LawN w p r a b n 0 w2 := ⟨⟨0, []⟩, LotOk.nil n, Nat.le_refl _, ⟨_, HP1.out.below HB2.out⟩, ⟨HR2.out.blk, HR2.out.since, HR2.out.wher, HR2.out.ab, by have := HR2.out.lo; omega⟩, HB1.out.trans (HB2.out.mono hz1)⟩
  have HST := Lib.hid hst
  clear hst hz1
  go_loopw [40] (fun i wr => ∃ k : Nat, k ≤ m ∧ i = .int .i64 k ∧ LawN w p r a b n k wr) (fun i _ => m - (intOf i).toNat)
  case atStart => exact ⟨0, Nat.zero_le _, rfl, HST.out⟩
  case round =>
    obtain ⟨k, hk, rfl, s, hok, hck, hP, hR, hbel⟩ := hrel
    have hsz := hbel.size
    by_cases hlt : k < m
    · obtain ⟨ad, rfl, _, c0, c1, c2⟩ := (HR.out.below hbel).np HL.out hlt
      have hkl : k < l.length := by rw [HL.out]; exact hlt
      have hwa := HWF.out _ (List.getElem_mem hkl)
      obtain ⟨⟨wt, A, B⟩, hee⟩ : ∃ e, l[k] = e := ⟨_, rfl⟩
      rw [hee] at c0 c1 c2 hwa
      simp only at c0 c1 c2 hwa
      have HWA := Lib.hid hwa
      have HOK := Lib.hid hok
      have hck1 : s.clk ≤ 1000 := by omega
      obtain ⟨v0, hP0⟩ := hP
      have hb0 := (Below.refl wr.heap.size wr).alloc (Nat.le_refl _) (.cells #[.int .i64 wt, .int .i64 A, .int .i64 B] 101)
      have hQ0 : LawQ w p r a b n wr.heap.size wt A B s s (wr.alloc (.cells #[.int .i64 wt, .int .i64 A, .int .i64 B] 101)) :=
        ⟨⟨v0, hP0.below hb0⟩, hR.frP (FrP.of hb0), Blk.new _ _ _, hbel.trans (hb0.mono hsz)⟩
      have HQ0 := Lib.hid hQ0
      clear hee hkl hwa hok hP0 hR hb0 hbel hQ0
      go_upto_region 12 with (fail)
      obtain ⟨W, hW⟩ : ∃ W, W = wr.alloc (.cells #[.int .i64 wt, .int .i64 A, .int .i64 B] 101) := ⟨_, rfl⟩
      obtain ⟨x, hx⟩ : ∃ x, x = wr.heap.size := ⟨_, rfl⟩
      rw [← hW, ← hx] at HQ0
      rw [← hW, ← hx]
      clear hW hx c0 c1 c2
      obtain ⟨d0, d1, d2⟩ := HQ0.out.cells
      by_cases h0 : wt = 0
      · subst h0
        go_wp2
        obtain ⟨s', hs'⟩ : ∃ s', slpS n s A B = s' := ⟨_, rfl⟩
        have hok2 : LtOk n s' := by rw [← hs']; exact slp_ok HOK.out A B
        have hck3 : s'.clk ≤ k + 1 := by rw [← hs']; exact Nat.le_trans (slp_clk n s A B) (by omega)
        have hck2 : s'.clk ≤ 1000 := by omega
        have HOK2 := Lib.hid hok2
        have HLB := Lib.hid (show (atL B s'.L).length ≤ 140737488355328 by have := atL_len B s'.L; have := hok2.len; omega)
        have HSS := Lib.hid hs'
        clear hs' hok2
        have hQd := HQ0.out.below (Below.refl _ W).drew
        go_region_held3 (fun w' => w'.cell? ⟨x, 0, none⟩ = some (.int .i64 0) ∧ w'.cell? ⟨x, 1, none⟩ = some (.int .i64 A) ∧ w'.cell? ⟨x, 2, none⟩ = some (.int .i64 B))
          (first | exact hQd.cells | exact hQ53.cells | exact hQ54.cells | exact hQ14.cells | fail)
          ((first
            | (go_at_call 53; (with_reducible refine (q53 hQ54 HOK.out hck1).mono ?_); rintro e w53 ⟨rfl, hQ53⟩)
            | (go_at_call 53; (with_reducible refine (q53 hQd HOK.out hck1).mono ?_); rintro e w53 ⟨rfl, hQ53⟩)
            | (go_at_call 54; (with_reducible refine (q54 hQ53 hn HOK.out hck1).mono ?_); rintro e w54 ⟨rfl, hQ54⟩)
            | (go_at_call 54; (with_reducible refine (q54 hQd hn HOK.out hck1).mono ?_); rintro e w54 ⟨rfl, hQ54⟩)
            | (go_at_call 14; (with_reducible refine (q_bare hQ53 HG.out _).mono ?_); rintro e w14 ⟨rfl, hQ14⟩)
            | (go_at_call 14; (with_reducible refine (q_bare hQ54 HG.out _).mono ?_); rintro e w14 ⟨rfl, hQ14⟩)
            | fail))
        all_goals
          have HQ := Lib.hid (show LawQ w p r a b n x 0 A B s' s' w14 by rw [HSS.out] at hQ14; exact hQ14)
          obtain ⟨w7, hw7⟩ : ∃ w7, w7 = w14 := ⟨_, rfl⟩
          rw [← hw7] at HQ ⊢
          clear hw7 hQ14
          go_wp2
          obtain ⟨d0, d1, d2⟩ := HQ.out.cells
          have hQe := HQ.out.below (Below.refl _ w7).drew
          go_region_held3 (fun w' => (w'.cell? ⟨x, 1, none⟩ = some (.int .i64 A) ∧ w'.cell? ⟨x, 2, none⟩ = some (.int .i64 B)) ∧ LawQ w p r a b n x 0 A B s' s' w')
            (first | exact ⟨⟨hQe.cells.2.1, hQe.cells.2.2⟩, hQe⟩ | exact ⟨⟨hQ59.cells.2.1, hQ59.cells.2.2⟩, hQ59⟩ | exact ⟨⟨hQ60.cells.2.1, hQ60.cells.2.2⟩, hQ60⟩ | exact ⟨⟨hQ61.cells.2.1, hQ61.cells.2.2⟩, hQ61⟩ | exact ⟨⟨hQ62.cells.2.1, hQ62.cells.2.2⟩, hQ62⟩ | exact ⟨⟨hQ50.cells.2.1, hQ50.cells.2.2⟩, hQ50⟩ | fail)
            ((first
              | (go_at_call 59; refine (q59 (And.right (by assumption)) HOK2.out hck2).mono ?_; rintro e w59 ⟨rfl, hQ59⟩)
              | (go_at_call 60; refine (q60 (And.right (by assumption)) HOK2.out HWA.out).mono ?_; rintro e w60 ⟨rfl, hQ60⟩)
              | (go_at_call 61; refine (q61 (And.right (by assumption)) HOK2.out hck2).mono ?_; rintro e w61 ⟨A61, c61, rfl, ho61, hQ61, hb61⟩)
              | (go_at_call 62; refine (q62 (And.right (by assumption)) hn HOK2.out hck2).mono ?_; rintro e w62 ⟨A62, c62, rfl, ho62, hQ62, hb62⟩)
              | (go_at_call 50; (with_reducible refine (equal_i A61 A62 _ c61 c62 _ _ (atL B s'.L) w62 rfl ((ho61.reads rfl).below hb62) (ho62.reads rfl) HLB.out).mono ?_); rintro e w50 ⟨rfl, hb50⟩; have hQ50 := hQ62.below hb50)
              | (go_at_call 50; (with_reducible refine (equal_i A61 A62 _ c61 c62 _ _ (atL B s'.L) w61 rfl (ho61.reads rfl) ((ho62.reads rfl).below hb61) HLB.out).mono ?_); rintro e w50 ⟨rfl, hb50⟩; have hQ50 := hQ61.below hb50)
              | fail))
          all_goals
            have hQz := And.right (by assumption : (_ ∧ _) ∧ LawQ w p r a b n x 0 A B s' s' _)
            have HFIN := Lib.hid (show LawN w p r a b n (k + 1) _ from ⟨s', HOK2.out, by omega, hQz.P, hQz.R, hQz.bel⟩)
            clear hQz
            go_wp2
            go_roundw
            case rel => exact ⟨k + 1, by omega, by go_num, HFIN.out⟩
            case measure => simp [intOf]; omega
      · by_cases h1 : wt = 1
        · subst h1
          go_wp2
          obtain ⟨s', hs'⟩ : ∃ s', wakS A B s = s' := ⟨_, rfl⟩
          have hok2 : LtOk n s' := by rw [← hs']; exact wak_ok HOK.out A B
          have hck3 : s'.clk ≤ k + 1 := by rw [← hs']; exact Nat.le_succ_of_le hck
          have hck2 : s'.clk ≤ 1000 := by omega
          have HOK2 := Lib.hid hok2
          have HLB := Lib.hid (show (atL B s'.L).length ≤ 140737488355328 by have := atL_len B s'.L; have := hok2.len; omega)
          have HSS := Lib.hid hs'
          clear hs' hok2
          have hQd := HQ0.out.below (Below.refl _ W).drew
          have HLW := Lib.hid (show (wk A B s.L).2.length ≤ 140737488355328 by rw [wk_out]; have h1 := List.length_take_le A.toNat (atL A s.L); have h2 := atL_len A s.L; have h3 := HOK.out.len; have h4 := List.length_take (i := B.toNat) (l := atL A s.L); omega)
          go_region_held3 (fun w' => w'.cell? ⟨x, 0, none⟩ = some (.int .i64 1) ∧ w'.cell? ⟨x, 1, none⟩ = some (.int .i64 A) ∧ w'.cell? ⟨x, 2, none⟩ = some (.int .i64 B))
            (first | exact hQd.cells | exact hQ55.cells | exact hQ56.cells | exact hQ50.cells | fail)
            ((first
              | (go_at_call 55; (with_reducible refine (q55 hQ56 HOK.out hck1).mono ?_); rintro e w55 ⟨A55, c55, rfl, ho55, hQ55, hf55⟩)
              | (go_at_call 55; (with_reducible refine (q55 hQd HOK.out hck1).mono ?_); rintro e w55 ⟨A55, c55, rfl, ho55, hQ55, hf55⟩)
              | (go_at_call 56; (with_reducible refine (q56 hQ55 hn HOK.out hck1).mono ?_); rintro e w56 ⟨A56, c56, rfl, ho56, hQ56, hf56⟩)
              | (go_at_call 56; (with_reducible refine (q56 hQd hn HOK.out hck1).mono ?_); rintro e w56 ⟨A56, c56, rfl, ho56, hQ56, hf56⟩)
              | (go_at_call 50; (with_reducible refine (equal_i A55 A56 _ c55 c56 _ _ (wk A B s.L).2 w56 rfl (RowAt.reads (hf56.row ho55) rfl) (ho56.reads rfl) HLW.out).mono ?_); rintro e w50 ⟨rfl, hb50⟩; have hQ50 := hQ56.below hb50)
              | (go_at_call 50; (with_reducible refine (equal_i A55 A56 _ c55 c56 _ _ (wk A B s.L).2 w55 rfl (ho55.reads rfl) (RowAt.reads (hf55.row ho56) rfl) HLW.out).mono ?_); rintro e w50 ⟨rfl, hb50⟩; have hQ50 := hQ55.below hb50)
              | fail))
          all_goals
            have HQ := Lib.hid (show LawQ w p r a b n x 1 A B s' s' w50 by rw [HSS.out] at hQ50; exact hQ50)
            obtain ⟨w7, hw7⟩ : ∃ w7, w7 = w50 := ⟨_, rfl⟩
            rw [← hw7] at HQ ⊢
            clear hw7 hQ50
            go_wp2
            obtain ⟨d0, d1, d2⟩ := HQ.out.cells
            have hQe := HQ.out.below (Below.refl _ w7).drew
            go_region_held3 (fun w' => (w'.cell? ⟨x, 1, none⟩ = some (.int .i64 A) ∧ w'.cell? ⟨x, 2, none⟩ = some (.int .i64 B)) ∧ LawQ w p r a b n x 1 A B s' s' w')
              (first | exact ⟨⟨hQe.cells.2.1, hQe.cells.2.2⟩, hQe⟩ | exact ⟨⟨hQ59.cells.2.1, hQ59.cells.2.2⟩, hQ59⟩ | exact ⟨⟨hQ60.cells.2.1, hQ60.cells.2.2⟩, hQ60⟩ | exact ⟨⟨hQ61.cells.2.1, hQ61.cells.2.2⟩, hQ61⟩ | exact ⟨⟨hQ62.cells.2.1, hQ62.cells.2.2⟩, hQ62⟩ | exact ⟨⟨hQ50.cells.2.1, hQ50.cells.2.2⟩, hQ50⟩ | fail)
              ((first
                | (go_at_call 59; refine (q59 (And.right (by assumption)) HOK2.out hck2).mono ?_; rintro e w59 ⟨rfl, hQ59⟩)
                | (go_at_call 60; refine (q60 (And.right (by assumption)) HOK2.out HWA.out).mono ?_; rintro e w60 ⟨rfl, hQ60⟩)
                | (go_at_call 61; refine (q61 (And.right (by assumption)) HOK2.out hck2).mono ?_; rintro e w61 ⟨A61, c61, rfl, ho61, hQ61, hb61⟩)
                | (go_at_call 62; refine (q62 (And.right (by assumption)) hn HOK2.out hck2).mono ?_; rintro e w62 ⟨A62, c62, rfl, ho62, hQ62, hb62⟩)
                | (go_at_call 50; (with_reducible refine (equal_i A61 A62 _ c61 c62 _ _ (atL B s'.L) w62 rfl ((ho61.reads rfl).below hb62) (ho62.reads rfl) HLB.out).mono ?_); rintro e w50 ⟨rfl, hb50⟩; have hQ50 := hQ62.below hb50)
                | (go_at_call 50; (with_reducible refine (equal_i A61 A62 _ c61 c62 _ _ (atL B s'.L) w61 rfl (ho61.reads rfl) ((ho62.reads rfl).below hb61) HLB.out).mono ?_); rintro e w50 ⟨rfl, hb50⟩; have hQ50 := hQ61.below hb50)
                | fail))
            all_goals
              have hQz := And.right (by assumption : (_ ∧ _) ∧ LawQ w p r a b n x 1 A B s' s' _)
              have HFIN := Lib.hid (show LawN w p r a b n (k + 1) _ from ⟨s', HOK2.out, by omega, hQz.P, hQz.R, hQz.bel⟩)
              clear hQz
              go_wp2
              go_roundw
              case rel => exact ⟨k + 1, by omega, by go_num, HFIN.out⟩
              case measure => simp [intOf]; omega
        · by_cases h2 : wt = 2
          · subst h2
            go_wp2
            obtain ⟨s', hs'⟩ : ∃ s', pokS n s A = s' := ⟨_, rfl⟩
            have hok2 : LtOk n s' := by rw [← hs']; exact pok_ok HOK.out A
            have hck3 : s'.clk ≤ k + 1 := by rw [← hs']; exact by rw [pok_clk]; omega
            have hck2 : s'.clk ≤ 1000 := by omega
            have HOK2 := Lib.hid hok2
            have HLB := Lib.hid (show (atL B s'.L).length ≤ 140737488355328 by have := atL_len B s'.L; have := hok2.len; omega)
            have HSS := Lib.hid hs'
            clear hs' hok2
            have hQd := HQ0.out.below (Below.refl _ W).drew
            go_region_held3 (fun w' => w'.cell? ⟨x, 0, none⟩ = some (.int .i64 2) ∧ w'.cell? ⟨x, 1, none⟩ = some (.int .i64 A) ∧ w'.cell? ⟨x, 2, none⟩ = some (.int .i64 B))
              (first | exact hQd.cells | exact hQ57.cells | exact hQ58.cells | exact hQ14.cells | fail)
              ((first
                | (go_at_call 57; (with_reducible refine (q57 hQ58 HOK.out hck1).mono ?_); rintro e w57 ⟨rfl, hQ57⟩)
                | (go_at_call 57; (with_reducible refine (q57 hQd HOK.out hck1).mono ?_); rintro e w57 ⟨rfl, hQ57⟩)
                | (go_at_call 58; (with_reducible refine (q58 hQ57 hn HOK.out).mono ?_); rintro e w58 ⟨rfl, hQ58⟩)
                | (go_at_call 58; (with_reducible refine (q58 hQd hn HOK.out).mono ?_); rintro e w58 ⟨rfl, hQ58⟩)
                | (go_at_call 14; (with_reducible refine (q_bare hQ57 HG.out _).mono ?_); rintro e w14 ⟨rfl, hQ14⟩)
                | (go_at_call 14; (with_reducible refine (q_bare hQ58 HG.out _).mono ?_); rintro e w14 ⟨rfl, hQ14⟩)
                | fail))
            all_goals
              have HQ := Lib.hid (show LawQ w p r a b n x 2 A B s' s' w14 by rw [HSS.out] at hQ14; exact hQ14)
              obtain ⟨w7, hw7⟩ : ∃ w7, w7 = w14 := ⟨_, rfl⟩
              rw [← hw7] at HQ ⊢
              clear hw7 hQ14
              go_wp2
              obtain ⟨d0, d1, d2⟩ := HQ.out.cells
              have hQe := HQ.out.below (Below.refl _ w7).drew
              go_region_held3 (fun w' => (w'.cell? ⟨x, 1, none⟩ = some (.int .i64 A) ∧ w'.cell? ⟨x, 2, none⟩ = some (.int .i64 B)) ∧ LawQ w p r a b n x 2 A B s' s' w')
                (first | exact ⟨⟨hQe.cells.2.1, hQe.cells.2.2⟩, hQe⟩ | exact ⟨⟨hQ59.cells.2.1, hQ59.cells.2.2⟩, hQ59⟩ | exact ⟨⟨hQ60.cells.2.1, hQ60.cells.2.2⟩, hQ60⟩ | exact ⟨⟨hQ61.cells.2.1, hQ61.cells.2.2⟩, hQ61⟩ | exact ⟨⟨hQ62.cells.2.1, hQ62.cells.2.2⟩, hQ62⟩ | exact ⟨⟨hQ50.cells.2.1, hQ50.cells.2.2⟩, hQ50⟩ | fail)
                ((first
                  | (go_at_call 59; refine (q59 (And.right (by assumption)) HOK2.out hck2).mono ?_; rintro e w59 ⟨rfl, hQ59⟩)
                  | (go_at_call 60; refine (q60 (And.right (by assumption)) HOK2.out HWA.out).mono ?_; rintro e w60 ⟨rfl, hQ60⟩)
                  | (go_at_call 61; refine (q61 (And.right (by assumption)) HOK2.out hck2).mono ?_; rintro e w61 ⟨A61, c61, rfl, ho61, hQ61, hb61⟩)
                  | (go_at_call 62; refine (q62 (And.right (by assumption)) hn HOK2.out hck2).mono ?_; rintro e w62 ⟨A62, c62, rfl, ho62, hQ62, hb62⟩)
                  | (go_at_call 50; (with_reducible refine (equal_i A61 A62 _ c61 c62 _ _ (atL B s'.L) w62 rfl ((ho61.reads rfl).below hb62) (ho62.reads rfl) HLB.out).mono ?_); rintro e w50 ⟨rfl, hb50⟩; have hQ50 := hQ62.below hb50)
                  | (go_at_call 50; (with_reducible refine (equal_i A61 A62 _ c61 c62 _ _ (atL B s'.L) w61 rfl (ho61.reads rfl) ((ho62.reads rfl).below hb61) HLB.out).mono ?_); rintro e w50 ⟨rfl, hb50⟩; have hQ50 := hQ61.below hb50)
                  | fail))
              all_goals
                have hQz := And.right (by assumption : (_ ∧ _) ∧ LawQ w p r a b n x 2 A B s' s' _)
                have HFIN := Lib.hid (show LawN w p r a b n (k + 1) _ from ⟨s', HOK2.out, by omega, hQz.P, hQz.R, hQz.bel⟩)
                clear hQz
                go_wp2
                go_roundw
                case rel => exact ⟨k + 1, by omega, by go_num, HFIN.out⟩
                case measure => simp [intOf]; omega
          · have e0 : (wt == 0) = false := by simpa using h0
            have e1 : (wt == 1) = false := by simpa using h1
            have e2 : (wt == 2) = false := by simpa using h2
            clear h0 h1 h2
            obtain ⟨s', hs'⟩ : ∃ s', s = s' := ⟨_, rfl⟩
            have hok2 : LtOk n s' := by rw [← hs']; exact HOK.out
            have hck3 : s'.clk ≤ k + 1 := by rw [← hs']; exact by omega
            have hck2 : s'.clk ≤ 1000 := by omega
            have HOK2 := Lib.hid hok2
            have HLB := Lib.hid (show (atL B s'.L).length ≤ 140737488355328 by have := atL_len B s'.L; have := hok2.len; omega)
            have HSS := Lib.hid hs'
            clear hs' hok2
            obtain ⟨w7, hw7⟩ : ∃ w7, w7 = W := ⟨_, rfl⟩
            have HQ := Lib.hid (show LawQ w p r a b n x wt A B s' s' W by rw [← HSS.out]; exact HQ0.out)
            go_wp2
            rw [← hw7] at HQ ⊢
            clear hw7
            obtain ⟨d0, d1, d2⟩ := HQ.out.cells
            have hQe := HQ.out.below (Below.refl _ w7).drew
            go_region_held3 (fun w' => (w'.cell? ⟨x, 1, none⟩ = some (.int .i64 A) ∧ w'.cell? ⟨x, 2, none⟩ = some (.int .i64 B)) ∧ LawQ w p r a b n x wt A B s' s' w')
              (first | exact ⟨⟨hQe.cells.2.1, hQe.cells.2.2⟩, hQe⟩ | exact ⟨⟨hQ59.cells.2.1, hQ59.cells.2.2⟩, hQ59⟩ | exact ⟨⟨hQ60.cells.2.1, hQ60.cells.2.2⟩, hQ60⟩ | exact ⟨⟨hQ61.cells.2.1, hQ61.cells.2.2⟩, hQ61⟩ | exact ⟨⟨hQ62.cells.2.1, hQ62.cells.2.2⟩, hQ62⟩ | exact ⟨⟨hQ50.cells.2.1, hQ50.cells.2.2⟩, hQ50⟩ | fail)
              ((first
                | (go_at_call 59; refine (q59 (And.right (by assumption)) HOK2.out hck2).mono ?_; rintro e w59 ⟨rfl, hQ59⟩)
                | (go_at_call 60; refine (q60 (And.right (by assumption)) HOK2.out HWA.out).mono ?_; rintro e w60 ⟨rfl, hQ60⟩)
                | (go_at_call 61; refine (q61 (And.right (by assumption)) HOK2.out hck2).mono ?_; rintro e w61 ⟨A61, c61, rfl, ho61, hQ61, hb61⟩)
                | (go_at_call 62; refine (q62 (And.right (by assumption)) hn HOK2.out hck2).mono ?_; rintro e w62 ⟨A62, c62, rfl, ho62, hQ62, hb62⟩)
                | (go_at_call 50; (with_reducible refine (equal_i A61 A62 _ c61 c62 _ _ (atL B s'.L) w62 rfl ((ho61.reads rfl).below hb62) (ho62.reads rfl) HLB.out).mono ?_); rintro e w50 ⟨rfl, hb50⟩; have hQ50 := hQ62.below hb50)
                | (go_at_call 50; (with_reducible refine (equal_i A61 A62 _ c61 c62 _ _ (atL B s'.L) w61 rfl (ho61.reads rfl) ((ho62.reads rfl).below hb61) HLB.out).mono ?_); rintro e w50 ⟨rfl, hb50⟩; have hQ50 := hQ61.below hb50)
                | fail))
            all_goals
              have hQz := And.right (by assumption : (_ ∧ _) ∧ LawQ w p r a b n x wt A B s' s' _)
              have HFIN := Lib.hid (show LawN w p r a b n (k + 1) _ from ⟨s', HOK2.out, by omega, hQz.P, hQz.R, hQz.bel⟩)
              clear hQz
              go_wp2
              go_roundw
              case rel => exact ⟨k + 1, by omega, by go_num, HFIN.out⟩
              case measure => simp [intOf]; omega
    · obtain rfl : k = m := by omega
      go_wp2
      go_ret
      exact ⟨rfl, hbel⟩
theorem law_parks (n : Int) (Al : Option Addr) (m cp : Nat) (l : List Np) (w : World) (hl : l.length = m) (hr : Reads w w.heap.size 3 Al m (flatN l)) (hwf : ∀ t ∈ l, wfI t.a) (hg : HasErr w) :
    Calls Tryd.prog 11 #[.int .i64 n, .slice Al m cp] w fun e w' => e = .returned (.bool true) ∧ Below w.heap.size w w' := by
  by_cases hm : m ≤ 80
  · by_cases hn : 0 ≤ n ∧ n ≤ 16
    · obtain ⟨k, rfl⟩ := Int.eq_ofNat_of_zero_le hn.1
      exact law_parks_ok k (by omega) Al m cp l w hl hm hr hwf hg
    · have hc : n < 0 ∨ (0 ≤ n ∧ 16 < n) := by omega
      have HN := Lib.hid (show n < 0 ∨ 16 < n by omega)
      have HG := Lib.hid hg
      clear hl hr hwf hg hn
      rcases hc with h | ⟨h, h'⟩
      all_goals
        go_enter Tryd.func11, Tryd.ntmps11
        go_wp2_with (first
          | (go_at_call 51; refine (pnew_f n _ HN.out).mono ?_; rintro e w1 ⟨rfl, rfl⟩)
          | (go_at_call 14; refine (bare_e 2 _ HG.out).mono ?_; rintro e w2 ⟨rfl, hb2⟩))
        go_ret
        exact ⟨rfl, hb2⟩
  · have h' : (80 : Int) < (m : Int) := by omega
    clear hl hr hwf hg hm
    go_enter Tryd.func11, Tryd.ntmps11
    go_wp2
    go_ret
    exact ⟨rfl, Below.refl _ _⟩
end Go.Proofs.YtepoahinnfjaiaaDoor
