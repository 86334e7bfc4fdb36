/-
  The walks of ParkNaps in the reference: a lot made, falling asleep, poking, where one sleeps. Conditions: the lot is this call's own.
-/
import Derived.Test.YtepoahinnfjaiaaDoorPnW
import Derived.Deep.RegionHeld3
import Derived.IntWalk
namespace Go.Proofs.YtepoahinnfjaiaaDoor
open Go.RowKit Go.Extern.Stop Go.Stop Go.Extern
attribute [local go_sem ↓] Go.wp_at_zero Go.wp_at_succ

/-- Nothing but two blocks has turned. -/
def Gab (a b : Nat) (w w' : World) : Prop := w'.os = w.os ∧ w'.tape = w.tape ∧ w'.output = w.output ∧ w'.heap.size = w.heap.size ∧ ∀ i, i ≠ a → i ≠ b → w'.heap[i]? = w.heap[i]?
theorem Gab.refl (a b : Nat) (w : World) : Gab a b w w := ⟨rfl, rfl, rfl, rfl, fun _ _ _ => rfl⟩
theorem Gab.step {a b x : Nat} {w w' w'' : World} (h : Gab a b w w') (hg : w'.grownBy w'' (some x)) (hs : w''.heap.size = w'.heap.size) (hx : x = a ∨ x = b) : Gab a b w w'' := by
  refine ⟨hg.os.trans h.1, hg.tape.trans h.2.1, hg.output.trans h.2.2.1, hs.trans h.2.2.2.1, fun i ia ib => ?_⟩
  rw [← h.2.2.2.2 i ia ib]
  rcases Nat.lt_or_ge i w'.heap.size with hi | hi
  · exact hg.block i hi (by rcases hx with rfl | rfl <;> simp [ia, ib])
  · rw [Array.getElem?_eq_none hi, Array.getElem?_eq_none (by omega)]
theorem Gab.below {a b base : Nat} {w w' : World} (h : Gab a b w w') (ha : base ≤ a) (hb : base ≤ b) : Below base w w' :=
  ⟨h.1, h.2.1, h.2.2.1, by rw [h.2.2.2.1]; exact Nat.le_refl _, fun i hi => h.2.2.2.2 i (by omega) (by omega)⟩
theorem Gab.frR {a b : Nat} {w w' : World} (h : Gab a b w w') (ha : ∀ cs t fr, w.heap[a]? ≠ some (.cells cs t fr)) (hb : ∀ cs t fr, w.heap[b]? ≠ some (.cells cs t fr)) : FrR w w' :=
  ⟨by rw [h.2.2.2.1]; exact Nat.le_refl _, fun g cs t fr hg _ => h.2.2.2.2 g (fun e => by subst e; exact ha _ _ _ hg) (fun e => by subst e; exact hb _ _ _ hg)⟩
theorem Gab.blk {a b g : Nat} {w w' : World} {t : TypeId} {cs : Array Value} (h : Gab a b w w') (hb : Blk w g t cs) (h1 : g ≠ a) (h2 : g ≠ b) : Blk w' g t cs := (h.2.2.2.2 g h1 h2).trans hb

theorem newlot (n : Nat) (w : World) : Calls Tryd.prog 52 #[.int .i64 n] w fun e w' => ∃ r a b, e = .returned (.pointer (some ⟨r, 0, none⟩)) ∧ LotR w.heap.size w' r a b n ⟨0, []⟩ ∧ Below w.heap.size w w' := by
  have hmm := @run_makeMap Tryd.prog
  go_enter Tryd.func52, Tryd.ntmps52
  go_wp2
  go_ret
  refine ⟨_, w.heap.size, w.heap.size + 1, rfl, ?_, ((((Below.refl _ _).alloc (Nat.le_refl _) _).alloc (by simp) _).alloc (by simp; omega) _)⟩
  have m1 : MapO 3 .i64 (w.alloc (.map #[] 0)) w.heap.size 0 (fun _ => none) := MapO.made w
  have m2 : MapO 3 .i64 ((w.alloc (.map #[] 0)).alloc (.map #[] 0)) (w.alloc (.map #[] 0)).heap.size 0 (fun _ => none) := MapO.made _
  have hs : (w.alloc (.map #[] 0)).heap.size = w.heap.size + 1 := by simp
  rw [hs] at m2
  have hb := Blk.new ((w.alloc (.map #[] 0)).alloc (.map #[] 0)) 159 #[.int .i64 n, .int .i64 0, .map (some w.heap.size), .map (some (w.heap.size + 1))]
  have hs2 : ((w.alloc (.map #[] 0)).alloc (.map #[] 0)).heap.size = w.heap.size + 1 + 1 := by simp
  rw [hs2] at hb
  exact ⟨hb, (m1.alloc _).alloc _, ⟨_, m2.alloc _, fun e he => by simp at he⟩, by omega, by omega⟩

section
variable {base : Nat} {w : World} {r a b n : Nat} {s : Lt}
set_option maxRecDepth 100000 in
theorem rsleep_bad (h : LotR base w r a b n s) (hn : n ≤ 16) (t c : Int) (hb : ¬ inR n t c) :
    Calls Tryd.prog 54 #[.pointer (some ⟨r, 0, none⟩), .int .i64 t, .int .i64 c] w fun e w' => e = .returned (.int .i64 2) ∧ w = w' := by
  have h0 := h.c0
  unfold inR at hb
  clear h
  by_cases ht : 0 ≤ t ∧ t < n
  · have hc : ¬ (0 ≤ c ∧ c ≤ 299) := by omega
    obtain ⟨t0, t1⟩ := ht
    have HC := Lib.hid hc
    clear hc hb
    go_enter Tryd.func54, Tryd.ntmps54
    go_wp2_with (first | (go_at_call 78; (with_reducible refine (within_t t 0 _ _ (by omega) (by omega)).mono ?_); rintro e w' ⟨rfl, rfl⟩) | (go_at_call 78; (with_reducible refine (within_f c 0 299 _ (by have := HC.out; omega)).mono ?_); rintro e w' ⟨rfl, rfl⟩))
    go_ret
    exact ⟨rfl, rfl⟩
  · have HT := Lib.hid ht
    clear ht hb
    go_enter Tryd.func54, Tryd.ntmps54
    go_wp2_with (go_at_call 78; (with_reducible refine (within_f t 0 _ _ (by have := HT.out; omega)).mono ?_); rintro e w' ⟨rfl, rfl⟩)
    go_ret
    exact ⟨rfl, rfl⟩
set_option maxRecDepth 100000 in
theorem rsleep_st (h : LotR base w r a b n s) (hok : LtOk n s) (hn : n ≤ 16) (t c : Int) (hr : inR n t c) (ht : hasT s.L t) :
    Calls Tryd.prog 54 #[.pointer (some ⟨r, 0, none⟩), .int .i64 t, .int .i64 c] w fun e w' => e = .returned (.int .i64 6) ∧ w = w' := by
  have h0 := h.c0
  have h2 := h.c2
  obtain ⟨t0, t1, c0, c1⟩ := hr
  have hl := h.look1 t (wfI_in (by omega) (by omega))
  have hp := sinV_pos hok ht
  obtain ⟨V, hV⟩ : ∃ V, sinV s.L t = V := ⟨_, rfl⟩
  rw [hV] at hl hp
  clear h hok ht hV
  go_enter Tryd.func54, Tryd.ntmps54
  go_wp2_with (first | (go_at_call 78; (with_reducible refine (within_t t 0 _ _ (by omega) (by omega)).mono ?_); rintro e w' ⟨rfl, rfl⟩) | (go_at_call 78; (with_reducible refine (within_t c 0 299 _ (by omega) (by omega)).mono ?_); rintro e w' ⟨rfl, rfl⟩))
  go_ret
  exact ⟨rfl, rfl⟩
/-- How falling asleep ends. -/
def RSEnd (base : Nat) (w : World) (r a b n : Nat) (k : Int) (s : Lt) (e : Ending) (w' : World) : Prop := e = .returned (.int .i64 k) ∧ LotR base w' r a b n s ∧ Below base w w' ∧ FrR w w'
set_option maxRecDepth 100000 in
theorem rpoke_bad (h : LotR base w r a b n s) (hn : n ≤ 16) (t : Int) (hb : ¬ (0 ≤ t ∧ t < n)) :
    Calls Tryd.prog 58 #[.pointer (some ⟨r, 0, none⟩), .int .i64 t] w fun e w' => e = .returned (.int .i64 2) ∧ w = w' := by
  have h0 := h.c0
  have HT := Lib.hid hb
  clear h hb
  go_enter Tryd.func58, Tryd.ntmps58
  go_wp2_with (go_at_call 78; (with_reducible refine (within_f t 0 _ _ (by have := HT.out; omega)).mono ?_); rintro e w' ⟨rfl, rfl⟩)
  go_ret
  exact ⟨rfl, rfl⟩
set_option maxRecDepth 100000 in
theorem rpoke_st (h : LotR base w r a b n s) (hn : n ≤ 16) (t : Int) (h0t : 0 ≤ t) (h1t : t < n) (ht : ¬ hasT s.L t) :
    Calls Tryd.prog 58 #[.pointer (some ⟨r, 0, none⟩), .int .i64 t] w fun e w' => e = .returned (.int .i64 6) ∧ w = w' := by
  have h0 := h.c0
  have h2 := h.c2
  have hl := h.look1 t (wfI_in (by omega) (by omega))
  rw [sinV_zero ht] at hl
  clear h ht
  go_enter Tryd.func58, Tryd.ntmps58
  go_wp2_with (go_at_call 78; (with_reducible refine (within_t t 0 _ _ (by omega) (by omega)).mono ?_); rintro e w' ⟨rfl, rfl⟩)
  go_ret
  exact ⟨rfl, rfl⟩
set_option maxRecDepth 100000 in
theorem rpoke_ok (h : LotR base w r a b n s) (hok : LtOk n s) (hn : n ≤ 16) (t : Int) (h0t : 0 ≤ t) (h1t : t < n) (ht : hasT s.L t) :
    Calls Tryd.prog 58 #[.pointer (some ⟨r, 0, none⟩), .int .i64 t] w (RSEnd base w r a b n 0 ⟨s.clk, s.L.filter fun e => !decide (e.th = t)⟩) := by
  have h0 := h.c0
  have h2 := h.c2
  have hl := h.look1 t (wfI_in (by omega) (by omega))
  have hp := sinV_pos hok ht
  obtain ⟨V, hV⟩ : ∃ V, sinV s.L t = V := ⟨_, rfl⟩
  rw [hV] at hl hp
  have hvb : (V == 0) = false := by simp; omega
  obtain ⟨w2, hrun, hm2, hg2, hs2⟩ := h.since.delete Tryd.underlying141 0 t (wfI_in (by omega) (by omega))
  have hend : LotR base w2 r a b n ⟨s.clk, s.L.filter fun e => !decide (e.th = t)⟩ ∧ Below base w w2 ∧ FrR w w2 := by
    obtain ⟨F, hF, hwok⟩ := h.wher
    have hne := h.ne
    have hab := h.ab
    refine ⟨⟨h.blk.grown hg2 (by simp; exact hne.1), hm2.congr fun x => ?_, ⟨F, hF.grown hg2 (by simp; omega), fun e he => hwok e (List.mem_filter.1 he).1⟩, hab, h.lo⟩,
      (Below.refl base w).grown hg2 (by have := h.lo.2.1; have := h.since.lt; omega) (fun g hg => by cases hg; exact h.lo.2.1), FrR.map hg2 h.since.notCells⟩
    have := sinceF_del s.L (fun y => !decide (y = t)) x
    rw [this]
    by_cases hx : x = t <;> simp [hx]
  have HE := Lib.hid hend
  clear h hok ht hV hend hm2 hg2
  go_enter Tryd.func58, Tryd.ntmps58
  go_wp2_with (go_at_call 78; (with_reducible refine (within_t t 0 _ _ (by omega) (by omega)).mono ?_); rintro e w' ⟨rfl, rfl⟩)
  go_ret
  exact ⟨rfl, HE.out⟩
theorem rcell (h : LotR base w r a b n s) (hok : LtOk n s) (t : Int) (hw : wfI t) :
    Calls Tryd.prog 60 #[.pointer (some ⟨r, 0, none⟩), .int .i64 t] w fun e w' => e = .returned (.int .i64 (cellF s.L t)) ∧ w = w' := by
  have h2 := h.c2
  have h3 := h.c3
  by_cases ht : hasT s.L t
  · have hl := h.look1 t hw
    have hp := sinV_pos hok ht
    obtain ⟨V, hV⟩ : ∃ V, sinV s.L t = V := ⟨_, rfl⟩
    rw [hV] at hl hp
    have hvb : (V == 0) = false := by simp; omega
    obtain ⟨e, he, rfl⟩ := ht
    have hl2 := h.look2 he hw
    have hcf := Lib.hid (cellF_mem hok.dis he)
    obtain ⟨th, ce, si⟩ := e
    simp only at hl2 hl hcf hw
    clear h hok hV he hw
    go_enter Tryd.func60, Tryd.ntmps60
    go_wp2
    go_ret
    exact ⟨by rw [hcf.out]; rfl, rfl⟩
  · have hl := h.look1 t hw
    rw [sinV_zero ht] at hl
    have hcf := Lib.hid (cellF_none ht)
    clear h hok ht hw
    go_enter Tryd.func60, Tryd.ntmps60
    go_wp2
    go_ret
    exact ⟨by rw [hcf.out]; rfl, rfl⟩
end
end Go.Proofs.YtepoahinnfjaiaaDoor
