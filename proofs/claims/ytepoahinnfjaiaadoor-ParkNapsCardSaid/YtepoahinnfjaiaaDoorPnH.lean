/-
  The walks of ParkNaps in the program, part six: slices.DeleteFunc with the waking closure, and waking. Conditions: the lot is this call's own.
-/
import Derived.Test.YtepoahinnfjaiaaDoorPnG
namespace Go.Proofs.YtepoahinnfjaiaaDoor
open Go.RowKit Go.Extern.Stop Go.Stop Go.Extern
attribute [local go_sem ↓] Go.wp_at_zero Go.wp_at_succ

/-- Of what lay below z nothing but block g has turned. -/
def BelX (g z : Nat) (w w' : World) : Prop := w'.os = w.os ∧ w'.tape = w.tape ∧ w'.output = w.output ∧ w.heap.size ≤ w'.heap.size ∧ ∀ i, i < z → i ≠ g → w'.heap[i]? = w.heap[i]?
theorem BelX.of {g z : Nat} {w w' : World} (h : Below z w w') : BelX g z w w' := ⟨h.os, h.tape, h.output, h.size, fun i hi _ => h.block i hi⟩
theorem BelX.trans {g z : Nat} {a b c : World} (h : BelX g z a b) (k : BelX g z b c) : BelX g z a c :=
  ⟨k.1.trans h.1, k.2.1.trans h.2.1, k.2.2.1.trans h.2.2.1, Nat.le_trans h.2.2.2.1 k.2.2.2.1, fun i hi hg => (k.2.2.2.2 i hi hg).trans (h.2.2.2.2 i hi hg)⟩
theorem BelX.gone {g z : Nat} {w w' : World} (h : Gone g w w') : BelX g z w w' := ⟨h.1, h.2.1, h.2.2.1, by rw [h.2.2.2.1]; exact Nat.le_refl _, fun i _ hg => h.2.2.2.2 i hg⟩
theorem SRow.below {base g cap B : Nat} {w w' : World} (h : SRow base g cap w) (hb : Below B w w') (hg : g < B) : SRow base g cap w' := h.ofBlock (hb.block g hg)
theorem CellAt.below {w w' : World} {g i B : Nat} {e : Sl} (h : CellAt w g i e) (hb : Below B w w') (hg : g < B) : CellAt w' g i e :=
  ⟨by rw [hb.cell (p := ⟨g, i * 2, none⟩) hg]; exact h.1, by rw [hb.cell (p := ⟨g, i * 2 + 1, none⟩) hg]; exact h.2⟩
/-- What holds in the round of slices.DeleteFunc. -/
structure DfR (base g cap z : Nat) (w : World) (c m : Int) (L : List Sl) (j q : Nat) (wr : World) : Prop where
  row : SRow base g cap wr
  qe : q = (wk c m (L.take j)).1.length
  lt : q < j
  kept : ∀ (x : Nat) (hx : x < (wk c m (L.take j)).1.length), CellAt wr g x (wk c m (L.take j)).1[x]
  rest : ∀ (x : Nat) (hx : x < L.length), j ≤ x → CellAt wr g x L[x]
  env : ∃ v, Env z wr c m v (wk c m (L.take j)).2
  bel : BelX g z w wr
  out : (wk c m (L.take j)).2.length ≤ j
theorem DfR.below {base g cap z : Nat} {w wr w' : World} {c m : Int} {L : List Sl} {j q : Nat} (h : DfR base g cap z w c m L j q wr) (hz : z ≤ wr.heap.size) (hb : Below wr.heap.size wr w') : DfR base g cap z w c m L j q w' := by
  obtain ⟨v, hv⟩ := h.env
  exact ⟨h.row.below hb h.row.lt, h.qe, h.lt, fun x hx => (h.kept x hx).below hb h.row.lt, fun x hx hj => (h.rest x hx hj).below hb h.row.lt, ⟨v, hv.below hb⟩, h.bel.trans (BelX.of (hb.mono hz)), h.out⟩
def DfEnd (base g cap z : Nat) (w : World) (c m : Int) (L : List Sl) (e : Ending) (w' : World) : Prop :=
  e = .returned (.slice (some ⟨g, 0, none⟩) (wk c m L).1.length cap) ∧ w'.ownsRow base 161 2 (.slice (some ⟨g, 0, none⟩) (wk c m L).1.length cap) (wk c m L).1.length (flatS (wk c m L).1) ∧ (∃ v, Env z w' c m v (wk c m L).2) ∧ BelX g z w w'
theorem cell_store {w : World} {g i : Nat} {e : Sl} (h : (w.cell? ⟨g, i * 2, none⟩).isSome = true) (h' : (w.cell? ⟨g, i * 2 + 1, none⟩).isSome = true) :
    CellAt ((w.setCell ⟨g, i * 2, none⟩ (.int .i64 e.th)).setCell ⟨g, i * 2 + 1, none⟩ (.int .i64 e.ce)) g i e := by
  obtain ⟨u, hu⟩ := Option.isSome_iff_exists.1 h
  obtain ⟨u', hu'⟩ := Option.isSome_iff_exists.1 h'
  refine ⟨?_, ?_⟩
  · rw [World.cell?_setCell_other _ _ ⟨g, i * 2, none⟩ _ (by simp)]
    exact World.cell?_setCell_same _ _ _ hu
  · refine World.cell?_setCell_same _ _ _ (u := u') ?_
    rw [World.cell?_setCell_other _ _ ⟨g, i * 2 + 1, none⟩ _ (by simp)]
    exact hu'
theorem cell_store_far {w : World} {g i x : Nat} {e e' : Sl} (hne : x ≠ i) (h : CellAt w g x e') :
    CellAt ((w.setCell ⟨g, i * 2, none⟩ (.int .i64 e.th)).setCell ⟨g, i * 2 + 1, none⟩ (.int .i64 e.ce)) g x e' := by
  refine ⟨?_, ?_⟩
  · rw [World.cell?_setCell_other _ _ ⟨g, x * 2, none⟩ _ (by simp <;> omega), World.cell?_setCell_other _ _ ⟨g, x * 2, none⟩ _ (by simp <;> omega)]; exact h.1
  · rw [World.cell?_setCell_other _ _ ⟨g, x * 2 + 1, none⟩ _ (by simp <;> omega), World.cell?_setCell_other _ _ ⟨g, x * 2 + 1, none⟩ _ (by simp <;> omega)]; exact h.2
theorem DfR.keep {base g cap z : Nat} {w wr : World} {c m : Int} {L : List Sl} {j q : Nat} (h : DfR base g cap z w c m L j q wr) (hg : g < z) (hj : j < L.length) (hn : L.length ≤ cap) (hb : wkB c m (wk c m (L.take j)).2 L[j] = false) :
    DfR base g cap z w c m L (j + 1) (q + 1) ((wr.setCell ⟨g, q * 2, none⟩ (.int .i64 L[j].th)).setCell ⟨g, q * 2 + 1, none⟩ (.int .i64 L[j].ce)) := by
  have hs := wk_step c m L j hj
  rw [wkS_f hb] at hs
  obtain ⟨v, hv⟩ := h.env
  have hq := h.qe
  have hlt := h.lt
  refine ⟨(h.row.set _ _).set _ _, by rw [hs]; simp; exact hq, by omega, ?_, fun x hx hjx => cell_store_far (by omega) (h.rest x hx (by omega)), ?_, ?_, by rw [hs]; exact Nat.le_succ_of_le h.out⟩
  · rw [hs]
    intro x hx
    simp only [List.length_append, List.length_cons, List.length_nil] at hx
    by_cases hxq : x = q
    · subst hxq
      have : ((wk c m (L.take j)).1 ++ [L[j]])[x]'(by simp; omega) = L[j] := by
        rw [List.getElem_append_right (by omega)]; simp
      rw [this]
      exact cell_store (h.row.some_ _ (by omega)).1 (h.row.some_ _ (by omega)).1
    · have hx2 : x < (wk c m (L.take j)).1.length := by omega
      have : ((wk c m (L.take j)).1 ++ [L[j]])[x]'(by simp; omega) = (wk c m (L.take j)).1[x] := List.getElem_append_left hx2
      rw [this]
      exact cell_store_far hxq (h.kept x hx2)
  · rw [hs]
    exact ⟨v, (hv.gone (Gone.cell g _ _ _) hg).gone (Gone.cell g _ _ _) hg⟩
  · exact (h.bel.trans (BelX.gone (Gone.cell g _ _ _))).trans (BelX.gone (Gone.cell g _ _ _))
theorem DfR.drop {base g cap z : Nat} {w wr w' : World} {c m : Int} {L : List Sl} {j q : Nat} (h : DfR base g cap z w c m L j q wr) (hg : g < z) (hj : j < L.length) (hb : wkB c m (wk c m (L.take j)).2 L[j] = true)
    (hv : ∃ v, Env z w' c m v ((wk c m (L.take j)).2 ++ [L[j].th])) (hbel : Below z wr w') : DfR base g cap z w c m L (j + 1) q w' := by
  have hs := wk_step c m L j hj
  rw [wkS_t hb] at hs
  refine ⟨h.row.below hbel hg, by rw [hs]; exact h.qe, by have := h.lt; omega, ?_, fun x hx hjx => (h.rest x hx (by omega)).below hbel hg, by rw [hs]; exact hv, h.bel.trans (BelX.of hbel), by rw [hs]; simp; exact h.out⟩
  rw [hs]
  exact fun x hx => (h.kept x hx).below hbel hg
section
variable {z : Nat} {w : World} {c m : Int} {v : Value}
set_option maxRecDepth 100000 in
set_option maxHeartbeats 4000000 in
theorem df85 (base g cap n : Nat) (L : List Sl) (hL : L.length = n) (hn : n ≤ 1000) (hg : g < z) (ho : w.ownsRow base 161 2 (.slice (some ⟨g, 0, none⟩) n cap) n (flatS L)) (hE : Env z w c m v []) :
    Calls Tryd.prog 85 #[.slice (some ⟨g, 0, none⟩) n cap, Clo z] w (DfEnd base g cap z w c m L) := by
  have eg : ∀ args w, (callFunc 86 args).run Tryd.prog w = .ok (.enter 86 args) w := enters_of Tryd.func86 (by kernel_rfl) rfl
  obtain ⟨hS, hnc, hc⟩ := own_to ho
  have hcm := hS.hi
  unfold maxLen at hcm
  have hzl := hE.o.lt
  rcases first_hit c m L with hno | ⟨k, hk, hno, hyes⟩
  · have hI := Lib.hid (index_none L w.heap.size n cap (some ⟨g, 0, none⟩) hL hn (Reads.of_own ho) (Nat.le_refl _) hE hno)
    have hw := wk_none hno
    have HFIN := Lib.hid (fun w' (hb : Below w.heap.size w w') => (show DfEnd base g cap z w c m L (.returned (.slice (some ⟨g, 0, none⟩) n cap)) w' by
      unfold DfEnd
      rw [hw]
      simp only
      rw [hL]
      exact ⟨rfl, own_belowM ho hb (fun g' hg' => (ho.lt g' hg').2), ⟨v, hE.below hb⟩, BelX.of (hb.mono (by omega))⟩))
    clear hS hc ho hE hno hw hL eg
    go_enter Tryd.func85, Tryd.ntmps85
    go_wp2_with (go_at_call 96; refine hI.out.mono ?_; rintro e w' ⟨rfl, hb'⟩)
    go_ret
    exact HFIN.out _ hb'
  · have hI := Lib.hid (index_hit L w.heap.size n cap (some ⟨g, 0, none⟩) hL hn (Reads.of_own ho) (Nat.le_refl _) hE k hk hno hyes)
    have hw := wk_hit k hk hno hyes
    have hkn : k < n := by omega
    have HST := Lib.hid (fun w' (he : ∃ v, Env z w' c m v [L[k].th]) (hb : Below z w w') => (show DfR base g cap z w c m L (k + 1) k w' from
      ⟨hS.below hb hg, by rw [hw]; simp; omega, by omega, by
        rw [hw]
        intro x hx
        simp only [List.getElem_take]
        exact (hc x (by simp at hx; omega)).below hb hg, fun x hx _ => (hc x hx).below hb hg, by rw [hw]; exact he, BelX.of hb, by rw [hw]; simp⟩))
    have HL := Lib.hid hL
    have hnc' : (n : Int) ≤ (cap : Int) := by omega
    clear hS hc ho hE hno hyes hw hL
    have hk1 : ((k : Int) == -1) = false := by simp
    go_enter Tryd.func85, Tryd.ntmps85
    go_wp2_with (go_at_call 96; refine hI.out.mono ?_; rintro e w1 ⟨rfl, he1, hb1⟩; have HD1 := Lib.hid (HST.out _ he1 hb1); have hsz1 := hb1.size; clear he1 hb1)
    go_loopw [6, 5] (fun ju qu wr => ∃ j q : Nat, j ≤ n ∧ ju = .int .i64 j ∧ qu = .int .i64 q ∧ DfR base g cap z w c m L j q wr) (fun ju _ _ => n - (intOf ju).toNat)
    case atStart => exact ⟨k + 1, k, by omega, by go_num, rfl, HD1.out⟩
    case round =>
      obtain ⟨j, q, hj, rfl, rfl, hD⟩ := hrel
      have HD := Lib.hid hD
      have hsz := hD.bel.2.2.2.1
      have hqj := hD.lt
      have hoj := hD.out
      by_cases hlt : j < n
      · have hjl : j < L.length := by rw [HL.out]; exact hlt
        obtain ⟨c0, c1⟩ := hD.rest j hjl (Nat.le_refl _)
        obtain ⟨vv, hv⟩ := hD.env
        have hS1 := hD.row
        have hg1 := hS1.lt
        obtain ⟨⟨th, ce, si⟩, hee⟩ : ∃ e, L[j] = e := ⟨_, rfl⟩
        rw [hee] at c0 c1
        simp only at c0 c1
        have HV := Lib.hid hv
        clear hD hv hS1
        cases hb : wkB c m (wk c m (L.take j)).2 L[j] with
        | true =>
          have hbt := wkB_t hb
          rw [hee] at hbt
          simp only at hbt
          obtain ⟨rfl, hm⟩ := hbt
          have HFN := Lib.hid (fn86_t (HV.out.below ((Below.refl _ _).alloc (Nat.le_refl _) (.cells #[.int .i64 th, .int .i64 ce] 161))) (by omega) th hm)
          have HFIN := Lib.hid (fun w' (he : ∃ v, Env z w' ce m v ((wk ce m (L.take j)).2 ++ [th])) (hb' : Below z (wr.alloc (.cells #[.int .i64 th, .int .i64 ce] 161)) w') =>
            HD.out.drop hg hjl hb (by rw [hee]; exact he) (((Below.refl z wr).alloc (by omega) _).trans hb'))
          clear hb hm hee
          unfold Clo
          go_wp2_with (go_at_fn 86; refine HFN.out.mono ?_; rintro e w' ⟨rfl, he', hb'⟩; have HF2 := Lib.hid (HFIN.out _ he' hb'); clear he' hb')
          go_roundw
          case rel => exact ⟨j + 1, q, by omega, by go_num, rfl, HF2.out⟩
          case measure => simp [intOf]; omega
        | false =>
          have hbf := wkB_f hb
          rw [hee] at hbf
          simp only at hbf
          have HFN := Lib.hid (fn86_f (HV.out.below ((Below.refl _ _).alloc (Nat.le_refl _) (.cells #[.int .i64 th, .int .i64 ce] 161))) th ce hbf)
          have HK := Lib.hid (fun w' (hb' : Below (wr.alloc (.cells #[.int .i64 th, .int .i64 ce] 161)).heap.size (wr.alloc (.cells #[.int .i64 th, .int .i64 ce] 161)) w') =>
            (HD.out.below (by omega) (((Below.refl _ wr).alloc (Nat.le_refl _) _).trans (hb'.mono (by simp)))).keep hg hjl (by rw [HL.out]; exact hnc) hb)
          rw [hee] at HK
          simp only at HK
          have HR := Lib.hid (fun w' (hb' : Below (wr.alloc (.cells #[.int .i64 th, .int .i64 ce] 161)).heap.size (wr.alloc (.cells #[.int .i64 th, .int .i64 ce] 161)) w') =>
            (HD.out.below (by omega) (((Below.refl _ wr).alloc (Nat.le_refl _) _).trans (hb'.mono (by simp)))).row)
          have HBK := Lib.hid (Blk.new wr 161 #[.int .i64 th, .int .i64 ce])
          have hqc : q < cap := by omega
          clear hb hee hbf
          unfold Clo
          go_wp2_with (go_at_fn 86; refine HFN.out.mono ?_; rintro e w' ⟨rfl, hb'⟩; have HF2 := Lib.hid (HK.out _ hb'); have hR' := HR.out _ hb'; have hB' := HBK.out.below hb' (by simp); have d0 := hB'.cell 0; have d1 := hB'.cell 1; simp at d0 d1; obtain ⟨hs0, hf0⟩ := hR'.some_ (q * 2) (by omega); obtain ⟨hs1, hf1⟩ := hR'.some_ (q * 2 + 1) (by omega); obtain ⟨u0, hu0⟩ := Option.isSome_iff_exists.1 hs0; obtain ⟨u1, hu1⟩ := Option.isSome_iff_exists.1 hs1; clear hR' hB' hs0 hs1 hb')
          go_roundw
          case rel => exact ⟨j + 1, q + 1, by omega, by go_num, by go_num, HF2.out⟩
          case measure => simp [intOf]; omega
      · obtain rfl : j = n := by omega
        obtain ⟨w3, hcl, hS3, hG3, hc3⟩ := clear_run hD.row (j - q) q (cap - q) (by omega) (by omega) 0
        have htk : L.take j = L := List.take_of_length_le (by rw [HL.out]; exact Nat.le_refl _)
        have hqe := hD.qe
        have hkept := hD.kept
        obtain ⟨vv, hv⟩ := hD.env
        rw [htk] at hqe hv
        simp only [htk] at hkept
        have HFIN := Lib.hid (show DfEnd base g cap z w c m L (.returned (.slice (some ⟨g, 0, none⟩) q cap)) w3 by
          unfold DfEnd
          rw [← hqe]
          exact ⟨rfl, own_from hS3 (by omega) hqe.symm (fun x hx => hc3 x _ (by omega) (hkept x hx)), ⟨vv, hv.gone hG3 hg⟩, hD.bel.trans (BelX.gone hG3)⟩)
        have hcq : ¬ cap = q := by omega
        have hq1 : (q : Int) ≤ (j : Int) := by omega
        have hq2 : (q : Int) ≤ (cap : Int) := by omega
        clear hS3 hG3 hc3 htk hqe hkept hv hD
        go_wp2
        go_ret
        exact HFIN.out
end
end Go.Proofs.YtepoahinnfjaiaaDoor
