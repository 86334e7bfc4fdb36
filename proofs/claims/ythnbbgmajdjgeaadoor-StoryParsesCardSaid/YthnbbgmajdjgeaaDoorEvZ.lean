/-
  The walks of StoryPrints, part four: events as text, in the reference. Conditions: the table of powers is laid; the events lie below this call's memory.
-/
import Derived.Test.YthnbbgmajdjgeaaDoorEvX
import Derived.Test.YthnbbgmajdjgeaaDoorMono
namespace Go.Proofs.YthnbbgmajdjgeaaDoor
open Go.RowKit Go.Extern.Stop Go.Stop Go.Extern
attribute [local go_sem ↓] Go.wp_at_zero Go.wp_at_succ

theorem pprint_f (A : Option Addr) (len cap B : Nat) (l : List Ev) (w : World) (hl : l.length = len) (hlen : len ≤ 100) (hr : Reads w B 4 A len (flatE l)) (hB : B ≤ w.heap.size) (hno : stB 0 l = false) :
    Calls Tryd.prog 25 #[.slice A len cap] w fun e w' => e = .returned (.tuple #[.string ⟨#[]⟩, .int .i64 1]) ∧ Below w.heap.size w w' := by
  have hs := pstright A len cap B l w hl hlen hr hB
  rw [hno] at hs
  have HS := Lib.hid hs
  clear hs hno hl hr
  go_enter Tryd.func25, Tryd.ntmps25
  go_wp2_with (go_at_call 42; refine HS.out.mono ?_; rintro e w1 ⟨rfl, hb1⟩)
  go_ret2
  exact ⟨rfl, hb1⟩
/-- What every world of the region keeps of W. -/
def S0 (W w' : World) : Prop := Below W.heap.size W w' ∧ ∀ b o, b < W.heap.size → w'.cell? ⟨b, o, none⟩ = W.cell? ⟨b, o, none⟩
/-- The same, and the names stand in block g. -/
def S1 (W : World) (g m : Nat) (w' : World) : Prop := S0 W w' ∧ g < w'.heap.size ∧ w'.cell? ⟨g, m, none⟩ = some (.string (nameS m))
theorem S0.below {W w w' : World} (h : S0 W w) (hb : Below w.heap.size w w') : S0 W w' := ks_below h hb
theorem S1.below {W w w' : World} {g m : Nat} (h : S1 W g m w) (hb : Below w.heap.size w w') : S1 W g m w' :=
  ⟨h.1.below hb, Nat.lt_of_lt_of_le h.2.1 hb.size, by rw [hb.cell (p := ⟨g, m, none⟩) h.2.1]; exact h.2.2⟩
theorem S1.made {W w : World} {m : Nat} (h : S0 W w) (hm : m < 4) : S1 W w.heap.size m (w.alloc (.cells #[.string (nameS 0), .string (nameS 1), .string (nameS 2), .string (nameS 3)] 9)) := by
  refine ⟨ks_alloc h _, by simp, ?_⟩
  have hb := (Blk.new w 9 #[.string (nameS 0), .string (nameS 1), .string (nameS 2), .string (nameS 3)]).cell m
  rw [hb]
  match m, hm with
  | 0, _ => rfl
  | 1, _ => rfl
  | 2, _ => rfl
  | 3, _ => rfl
theorem mono1 {P : Program} {md : Region.Mode} {ops : Array Oper} {Q : Exit → Act → World → Prop} {W w : World} {g m fuel : Nat} {listed : Array Bool} {a : Act} (_hS : S1 W g m w) (h : wpAnyH P md ops Q (S1 W g m) fuel listed a w) : wpAnyH P md ops Q (S0 W) fuel listed a w :=
  wpAnyH_mono (fun _ h => h.1) _ _ _ _ h
def PPrEnd (l : List Ev) (w : World) (e : Ending) (w' : World) : Prop := e = .returned (.tuple #[.string ⟨(textL l).toArray⟩, .int .i64 0]) ∧ Below w.heap.size w w'
theorem text_next (l : List Ev) (k : Nat) (wh wt th va : Int) (S N : ByteArray) (hk : k < l.length) (hS : S.data.toList = textL (l.take k)) (he : l[k] = ⟨wh, wt, th, va⟩) (hN : N.data.toList = nameL wt.toNat) :
    (S ++ ((((((((itoaS wh) ++ ⟨#[32]⟩) ++ N) ++ ⟨#[32]⟩) ++ itoaS th) ++ ⟨#[32]⟩) ++ itoaS va) ++ ⟨#[10]⟩)).data.toList = textL (l.take (k + 1)) := by
  rw [text_take l k hk, he]
  simp [hS, hN, lineL, itoaS]
set_option maxRecDepth 100000 in
set_option maxHeartbeats 4000000 in
theorem pprint_t (A : Option Addr) (len cap B : Nat) (l : List Ev) (w : World) (hl : l.length = len) (hlen : len ≤ 100) (hr : Reads w B 4 A len (flatE l)) (hB : B ≤ w.heap.size) (hyes : stB 0 l = true) (hT : HasTab w) (hwf : EvWf l) :
    Calls Tryd.prog 25 #[.slice A len cap] w (PPrEnd l w) := by
  have hs := pstright A len cap B l w hl hlen hr hB
  rw [hyes] at hs
  have HS := Lib.hid hs
  have hmem := stR_mem (stB_true hyes)
  have HM := Lib.hid hmem
  have HL := Lib.hid hl
  have HT := Lib.hid hT
  have HW := Lib.hid hwf
  have h2 := hT.lt
  clear hs hyes hmem hl hT hwf
  go_enter Tryd.func25, Tryd.ntmps25
  go_wp2_with (go_at_call 42; refine HS.out.mono ?_; rintro e w1 ⟨rfl, hb1⟩)
  go_loopw [12, 4] (fun i s wr => ∃ (k : Nat) (S : ByteArray), k ≤ len ∧ i = .int .i64 k ∧ s = .string S ∧ S.data.toList = textL (l.take k) ∧ Below w.heap.size w wr) (fun i _ _ => len - (intOf i).toNat)
  case atStart => exact ⟨0, _, Nat.zero_le _, rfl, rfl, rfl, hb1⟩
  case round =>
    obtain ⟨k, S, hk, rfl, rfl, hS, hbel⟩ := hrel
    have HSD := Lib.hid hS
    clear hS
    have hsz := hbel.size
    by_cases hlt : k < len
    · obtain ⟨ad, rfl, _, c0, c1, c2, c3⟩ := (hr.below (hbel.mono hB)).ev HL.out hlt
      have hkl : k < l.length := by rw [HL.out]; exact hlt
      obtain ⟨e, he⟩ : ∃ e, l[k]'hkl = e := ⟨_, rfl⟩
      have hmm := HM.out _ (List.getElem_mem hkl)
      have hww := HW.out _ (List.getElem_mem hkl)
      rw [he] at c0 c1 c2 c3 hmm hww
      obtain ⟨wh, wt, th, va⟩ := e
      have HE := Lib.hid he
      clear he
      simp only at c0 c1 c2 c3 hmm hww
      obtain ⟨m1, m2, m3, m4⟩ := hmm
      obtain ⟨m, rfl⟩ := Int.eq_ofNat_of_zero_le (a := wt) (by omega)
      have m5 : m < 4 := by omega
      have m6 : (m : Int) < 4 := by omega
      have m7 : (0 : Int) ≤ (m : Int) := by omega
      obtain ⟨b0, b1, b2⟩ := hww
      have z3 := nameS_size m
      have z0 := itoaS_size wh b0
      have z1 := itoaS_size th b1
      have z2 := itoaS_size va b2
      have z4 : S.size ≤ 10000 := by
        have h := text_len (l.take k) (fun e he => HW.out e (List.mem_of_mem_take he))
        have h2 : (l.take k).length ≤ k := List.length_take_le _ _
        have h3 : S.data.toList.length = S.size := Array.length_toList
        rw [HSD.out] at h3
        omega
      have e1 : ¬ 9223372036854775807 < (itoaS wh).size + 1 := by omega
      have e2 : ¬ 9223372036854775807 < (itoaS wh).size + 1 + (nameS m).size := by omega
      have e3 : ¬ 9223372036854775807 < (itoaS wh).size + 1 + (nameS m).size + 1 := by omega
      have e4 : ¬ 9223372036854775807 < (itoaS wh).size + 1 + (nameS m).size + 1 + (itoaS th).size := by omega
      have e5 : ¬ 9223372036854775807 < (itoaS wh).size + 1 + (nameS m).size + 1 + (itoaS th).size + 1 := by omega
      have e6 : ¬ 9223372036854775807 < (itoaS wh).size + 1 + (nameS m).size + 1 + (itoaS th).size + 1 + (itoaS va).size := by omega
      have e7 : ¬ 9223372036854775807 < (itoaS wh).size + 1 + (nameS m).size + 1 + (itoaS th).size + 1 + (itoaS va).size + 1 := by omega
      have e8 : ¬ 9223372036854775807 < S.size + ((itoaS wh).size + 1 + (nameS m).size + 1 + (itoaS th).size + 1 + (itoaS va).size + 1) := by omega
      have B0 := Lib.hid b0
      have B1 := Lib.hid b1
      have B2 := Lib.hid b2
      clear b0 b1 b2
      clear m1 m2
      go_wp2_with fail
      have hW := Blk.new wr 47 #[.int .i64 wh, .int .i64 (m : Int), .int .i64 th, .int .i64 va]
      have hBW := hbel.alloc hbel.size (.cells #[.int .i64 wh, .int .i64 (m : Int), .int .i64 th, .int .i64 va] 47)
      obtain ⟨W, hWe⟩ : ∃ W, W = wr.alloc (.cells #[.int .i64 wh, .int .i64 (m : Int), .int .i64 th, .int .i64 va] 47) := ⟨_, rfl⟩
      rw [← hWe] at hW hBW ⊢
      clear hWe
      obtain ⟨xb, hxe⟩ : ∃ xb, wr.heap.size = xb := ⟨_, rfl⟩
      rw [hxe] at hW ⊢
      clear hxe
      have hTW := HT.out.below hBW h2
      have HTW := Lib.hid hTW
      have hx2 := hTW.lt
      have hKW := Blk.lt hW
      have x0 := hW.cell 0
      have x1 := hW.cell 1
      have x2 := hW.cell 2
      have x3 := hW.cell 3
      simp at x0 x1 x2 x3
      have HBW := Lib.hid hBW
      clear hW hTW hBW
      refine wp_region_noPanic ?_
      refine wp_region_held_drew (S := S0 W) (by kernel_rfl) (ks_below (ks_refl _) (Below.refl _ _).drew) (fun hHeld => ?_)
      obtain ⟨W1, hW1⟩ : ∃ W1, W1 = W.drew := ⟨_, rfl⟩
      rw [← hW1] at hHeld ⊢
      clear hW1
      refine wpAnyH_take (i := 0) (v := ?_) rfl (by kernel_rfl) (by kernel_rfl) (by kernel_rfl) (fun _ _ _ h => h) (Or.inl ⟨by rfl, ?_⟩) (by assumption) ?_
      rotate_left
      · intro w hSw
        obtain ⟨hSw1, hSw2⟩ := hSw
        go_simp
        exact rfl
      simp only [Act.put, List.getElem_toArray, List.getElem_cons_zero, List.setIfInBounds_toArray, List.set_cons_zero, List.set_cons_succ]
      refine wpAnyH_take (i := 1) (v := ?_) rfl (by kernel_rfl) (by kernel_rfl) (by kernel_rfl) (fun _ _ _ h => h) (Or.inl ⟨by rfl, ?_⟩) (by assumption) ?_
      rotate_left
      · intro w hSw
        obtain ⟨hSw1, hSw2⟩ := hSw
        go_simp
        exact rfl
      simp only [Act.put, List.getElem_cons_succ, List.getElem_toArray, List.getElem_cons_zero, List.setIfInBounds_toArray, List.set_cons_zero, List.set_cons_succ]
      refine wpAnyH_take (i := 2) (v := ?_) rfl (by kernel_rfl) (by kernel_rfl) (by kernel_rfl) (fun _ _ _ h => h) (Or.inl ⟨by rfl, ?_⟩) (by assumption) ?_
      rotate_left
      · intro w hSw
        obtain ⟨hSw1, hSw2⟩ := hSw
        go_simp
        exact rfl
      simp only [Act.put, List.getElem_cons_succ, List.getElem_toArray, List.getElem_cons_zero, List.setIfInBounds_toArray, List.set_cons_zero, List.set_cons_succ]
      refine wpAnyH_take (i := 6) (v := ?_) rfl (by kernel_rfl) (by kernel_rfl) (by kernel_rfl) (fun _ _ _ h => h) (Or.inl ⟨by rfl, ?_⟩) (by assumption) ?_
      rotate_left
      · intro w hSw
        obtain ⟨hSw1, hSw2⟩ := hSw
        go_simp
        exact rfl
      simp only [Act.put, List.getElem_cons_succ, List.getElem_toArray, List.getElem_cons_zero, List.setIfInBounds_toArray, List.set_cons_zero, List.set_cons_succ]
      refine wpAnyH_take (i := 7) (v := ?_) rfl (by kernel_rfl) (by kernel_rfl) (by kernel_rfl) (fun _ _ _ h => h) (Or.inl ⟨by rfl, ?_⟩) (by assumption) ?_
      rotate_left
      · intro w hSw
        obtain ⟨hSw1, hSw2⟩ := hSw
        go_simp
        exact rfl
      simp only [Act.put, List.getElem_cons_succ, List.getElem_toArray, List.getElem_cons_zero, List.setIfInBounds_toArray, List.set_cons_zero, List.set_cons_succ]
      refine wpAnyH_take (i := 12) (v := ?_) rfl (by kernel_rfl) (by kernel_rfl) (by kernel_rfl) (fun _ _ _ h => h) (Or.inl ⟨by rfl, ?_⟩) (by assumption) ?_
      rotate_left
      · intro w hSw
        obtain ⟨hSw1, hSw2⟩ := hSw
        go_simp
        exact rfl
      simp only [Act.put, List.getElem_cons_succ, List.getElem_toArray, List.getElem_cons_zero, List.setIfInBounds_toArray, List.set_cons_zero, List.set_cons_succ]
      refine wpAnyH_take (i := 13) (v := ?_) rfl (by kernel_rfl) (by kernel_rfl) (by kernel_rfl) (fun _ _ _ h => h) (Or.inl ⟨by rfl, ?_⟩) (by assumption) ?_
      rotate_left
      · intro w hSw
        obtain ⟨hSw1, hSw2⟩ := hSw
        go_simp
        exact rfl
      simp only [Act.put, List.getElem_cons_succ, List.getElem_toArray, List.getElem_cons_zero, List.setIfInBounds_toArray, List.set_cons_zero, List.set_cons_succ]
      refine wpAnyH_take (i := 17) (v := ?_) rfl (by kernel_rfl) (by kernel_rfl) (by kernel_rfl) (fun _ _ _ h => h) (Or.inl ⟨by rfl, ?_⟩) (by assumption) ?_
      rotate_left
      · intro w hSw
        obtain ⟨hSw1, hSw2⟩ := hSw
        go_simp
        exact rfl
      simp only [Act.put, List.getElem_cons_succ, List.getElem_toArray, List.getElem_cons_zero, List.setIfInBounds_toArray, List.set_cons_zero, List.set_cons_succ]
      refine wpAnyH_take (i := 18) (v := ?_) rfl (by kernel_rfl) (by kernel_rfl) (by kernel_rfl) (fun _ _ _ h => h) (Or.inl ⟨by rfl, ?_⟩) (by assumption) ?_
      rotate_left
      · intro w hSw
        obtain ⟨hSw1, hSw2⟩ := hSw
        go_simp
        exact rfl
      simp only [Act.put, List.getElem_cons_succ, List.getElem_toArray, List.getElem_cons_zero, List.setIfInBounds_toArray, List.set_cons_zero, List.set_cons_succ]
      refine wpAnyH_ready (rs := [3, 5]) (by kernel_rfl) (by simp) ?_
      refine AllReadyH.cons rfl (fun K hK => ?_) (AllReadyH.cons rfl (fun K hK => ?_) AllReadyH.nil)
      · go_simp
        go_at_call 43
        refine (itoa_any _ _ B0.out (HTW.out.below (And.left hHeld) hx2)).mono ?_
        rintro e w6 ⟨rfl, hb6⟩
        show K _ _
        have hHeld6 := hHeld.below hb6
        refine hK.out _ _ hHeld6 (fun _ => ?_)
        clear hK K
        clear hHeld; have hHeld := hHeld6; clear hHeld6
        refine wpAnyH_take (i := 4) (v := ?_) rfl (by kernel_rfl) (by kernel_rfl) (by kernel_rfl) (fun _ _ _ h => h) (Or.inl ⟨by rfl, ?_⟩) (by assumption) ?_
        rotate_left
        · intro w hSw
          obtain ⟨hSw1, hSw2⟩ := hSw
          go_simp
          exact rfl
        simp only [Act.put, List.getElem_cons_succ, List.getElem_toArray, List.getElem_cons_zero, List.setIfInBounds_toArray, List.set_cons_zero, List.set_cons_succ]
        refine wpAnyH_ready (rs := [5, 14]) (by kernel_rfl) (by simp) ?_
        refine AllReadyH.cons rfl (fun K hK => ?_) (AllReadyH.cons rfl (fun K hK => ?_) AllReadyH.nil)
        · go_simp
          refine hK.out _ _ (S1.made hHeld m5).1 (fun _ => ?_)
          clear hK K
          have hS := S1.made hHeld m5
          refine mono1 hS ?_
          clear hHeld
          refine wpAnyH_take (i := 8) (v := ?_) rfl (by kernel_rfl) (by kernel_rfl) (by kernel_rfl) (fun _ _ _ h => h) (Or.inl ⟨by rfl, ?_⟩) (by assumption) ?_
          rotate_left
          · intro w hSw
            obtain ⟨⟨hSw1, hSw2⟩, hSw3, hSw4⟩ := hSw
            go_simp
            exact rfl
          simp only [Act.put, List.getElem_cons_succ, List.getElem_toArray, List.getElem_cons_zero, List.setIfInBounds_toArray, List.set_cons_zero, List.set_cons_succ]
          refine wpAnyH_take (i := 9) (v := ?_) rfl (by kernel_rfl) (by kernel_rfl) (by kernel_rfl) (fun _ _ _ h => h) (Or.inl ⟨by rfl, ?_⟩) (by assumption) ?_
          rotate_left
          · intro w hSw
            obtain ⟨⟨hSw1, hSw2⟩, hSw3, hSw4⟩ := hSw
            go_simp
            exact rfl
          simp only [Act.put, List.getElem_cons_succ, List.getElem_toArray, List.getElem_cons_zero, List.setIfInBounds_toArray, List.set_cons_zero, List.set_cons_succ]
          refine wpAnyH_take (i := 10) (v := ?_) rfl (by kernel_rfl) (by kernel_rfl) (by kernel_rfl) (fun _ _ _ h => h) (Or.inl ⟨by rfl, ?_⟩) (by assumption) ?_
          rotate_left
          · intro w hSw
            obtain ⟨⟨hSw1, hSw2⟩, hSw3, hSw4⟩ := hSw
            go_simp
            exact rfl
          simp only [Act.put, List.getElem_cons_succ, List.getElem_toArray, List.getElem_cons_zero, List.setIfInBounds_toArray, List.set_cons_zero, List.set_cons_succ]
          refine wpAnyH_take (i := 11) (v := ?_) rfl (by kernel_rfl) (by kernel_rfl) (by kernel_rfl) (fun _ _ _ h => h) (Or.inl ⟨by rfl, ?_⟩) (by assumption) ?_
          rotate_left
          · intro w hSw
            obtain ⟨⟨hSw1, hSw2⟩, hSw3, hSw4⟩ := hSw
            go_simp
            exact rfl
          simp only [Act.put, List.getElem_cons_succ, List.getElem_toArray, List.getElem_cons_zero, List.setIfInBounds_toArray, List.set_cons_zero, List.set_cons_succ]
          refine wpAnyH_ready (rs := [14]) (by kernel_rfl) (by simp) ?_
          refine AllReadyH.cons rfl (fun K hK => ?_) AllReadyH.nil
          · go_simp
            go_at_call 43
            refine (itoa_any _ _ B1.out (HTW.out.below (And.left hS.1) hx2)).mono ?_
            rintro e w6 ⟨rfl, hb6⟩
            show K _ _
            have hS6 := hS.below hb6
            refine hK.out _ _ hS6 (fun _ => ?_)
            clear hK K
            clear hS; have hS := hS6; clear hS6
            refine wpAnyH_take (i := 15) (v := ?_) rfl (by kernel_rfl) (by kernel_rfl) (by kernel_rfl) (fun _ _ _ h => h) (Or.inl ⟨by rfl, ?_⟩) (by assumption) ?_
            rotate_left
            · intro w hSw
              obtain ⟨⟨hSw1, hSw2⟩, hSw3, hSw4⟩ := hSw
              go_simp
              exact rfl
            simp only [Act.put, List.getElem_cons_succ, List.getElem_toArray, List.getElem_cons_zero, List.setIfInBounds_toArray, List.set_cons_zero, List.set_cons_succ]
            refine wpAnyH_take (i := 16) (v := ?_) rfl (by kernel_rfl) (by kernel_rfl) (by kernel_rfl) (fun _ _ _ h => h) (Or.inl ⟨by rfl, ?_⟩) (by assumption) ?_
            rotate_left
            · intro w hSw
              obtain ⟨⟨hSw1, hSw2⟩, hSw3, hSw4⟩ := hSw
              go_simp
              exact rfl
            simp only [Act.put, List.getElem_cons_succ, List.getElem_toArray, List.getElem_cons_zero, List.setIfInBounds_toArray, List.set_cons_zero, List.set_cons_succ]
            refine wpAnyH_ready (rs := [19]) (by kernel_rfl) (by simp) ?_
            refine AllReadyH.cons rfl (fun K hK => ?_) AllReadyH.nil
            · go_simp
              go_at_call 43
              refine (itoa_any _ _ B2.out (HTW.out.below (And.left hS.1) hx2)).mono ?_
              rintro e w6 ⟨rfl, hb6⟩
              show K _ _
              have hS6 := hS.below hb6
              refine hK.out _ _ hS6 (fun _ => ?_)
              clear hK K
              clear hS; have hS := hS6; clear hS6
              refine wpAnyH_take (i := 20) (v := ?_) rfl (by kernel_rfl) (by kernel_rfl) (by kernel_rfl) (fun _ _ _ h => h) (Or.inl ⟨by rfl, ?_⟩) (by assumption) ?_
              rotate_left
              · intro w hSw
                obtain ⟨⟨hSw1, hSw2⟩, hSw3, hSw4⟩ := hSw
                go_simp
                exact rfl
              simp only [Act.put, List.getElem_cons_succ, List.getElem_toArray, List.getElem_cons_zero, List.setIfInBounds_toArray, List.set_cons_zero, List.set_cons_succ]
              refine wpAnyH_take (i := 21) (v := ?_) rfl (by kernel_rfl) (by kernel_rfl) (by kernel_rfl) (fun _ _ _ h => h) (Or.inl ⟨by rfl, ?_⟩) (by assumption) ?_
              rotate_left
              · intro w hSw
                obtain ⟨⟨hSw1, hSw2⟩, hSw3, hSw4⟩ := hSw
                go_simp
                exact rfl
              simp only [Act.put, List.getElem_cons_succ, List.getElem_toArray, List.getElem_cons_zero, List.setIfInBounds_toArray, List.set_cons_zero, List.set_cons_succ]
              refine wpAnyH_take (i := 22) (v := ?_) rfl (by kernel_rfl) (by kernel_rfl) (by kernel_rfl) (fun _ _ _ h => h) (Or.inl ⟨by rfl, ?_⟩) (by assumption) ?_
              rotate_left
              · intro w hSw
                obtain ⟨⟨hSw1, hSw2⟩, hSw3, hSw4⟩ := hSw
                go_simp
                exact rfl
              simp only [Act.put, List.getElem_cons_succ, List.getElem_toArray, List.getElem_cons_zero, List.setIfInBounds_toArray, List.set_cons_zero, List.set_cons_succ]
              refine wpAnyH_take (i := 23) (v := ?_) rfl (by kernel_rfl) (by kernel_rfl) (by kernel_rfl) (fun _ _ _ h => h) (Or.inl ⟨by rfl, ?_⟩) (by assumption) ?_
              rotate_left
              · intro w hSw
                obtain ⟨⟨hSw1, hSw2⟩, hSw3, hSw4⟩ := hSw
                go_simp
                exact rfl
              simp only [Act.put, List.getElem_cons_succ, List.getElem_toArray, List.getElem_cons_zero, List.setIfInBounds_toArray, List.set_cons_zero, List.set_cons_succ]
              refine wpAnyH_done (by kernel_rfl) ?_ _
              refine NoPanic.normal ?_
              go_wp2
              go_roundw
              case rel => exact ⟨k + 1, _, by omega, by go_num, rfl, text_next l k wh (m : Int) th va S (nameS m) (by rw [HL.out]; exact hlt) HSD.out HE.out rfl, HBW.out.trans ((And.left hS.1).mono HBW.out.size)⟩
              case measure => simp [intOf]; omega
        · go_simp
          go_at_call 43
          refine (itoa_any _ _ B1.out (HTW.out.below (And.left hHeld) hx2)).mono ?_
          rintro e w6 ⟨rfl, hb6⟩
          show K _ _
          have hHeld6 := hHeld.below hb6
          refine hK.out _ _ hHeld6 (fun _ => ?_)
          clear hK K
          clear hHeld; have hHeld := hHeld6; clear hHeld6
          refine wpAnyH_ready (rs := [5, 19]) (by kernel_rfl) (by simp) ?_
          refine AllReadyH.cons rfl (fun K hK => ?_) (AllReadyH.cons rfl (fun K hK => ?_) AllReadyH.nil)
          · go_simp
            refine hK.out _ _ (S1.made hHeld m5).1 (fun _ => ?_)
            clear hK K
            have hS := S1.made hHeld m5
            refine mono1 hS ?_
            clear hHeld
            refine wpAnyH_take (i := 8) (v := ?_) rfl (by kernel_rfl) (by kernel_rfl) (by kernel_rfl) (fun _ _ _ h => h) (Or.inl ⟨by rfl, ?_⟩) (by assumption) ?_
            rotate_left
            · intro w hSw
              obtain ⟨⟨hSw1, hSw2⟩, hSw3, hSw4⟩ := hSw
              go_simp
              exact rfl
            simp only [Act.put, List.getElem_cons_succ, List.getElem_toArray, List.getElem_cons_zero, List.setIfInBounds_toArray, List.set_cons_zero, List.set_cons_succ]
            refine wpAnyH_take (i := 9) (v := ?_) rfl (by kernel_rfl) (by kernel_rfl) (by kernel_rfl) (fun _ _ _ h => h) (Or.inl ⟨by rfl, ?_⟩) (by assumption) ?_
            rotate_left
            · intro w hSw
              obtain ⟨⟨hSw1, hSw2⟩, hSw3, hSw4⟩ := hSw
              go_simp
              exact rfl
            simp only [Act.put, List.getElem_cons_succ, List.getElem_toArray, List.getElem_cons_zero, List.setIfInBounds_toArray, List.set_cons_zero, List.set_cons_succ]
            refine wpAnyH_take (i := 10) (v := ?_) rfl (by kernel_rfl) (by kernel_rfl) (by kernel_rfl) (fun _ _ _ h => h) (Or.inl ⟨by rfl, ?_⟩) (by assumption) ?_
            rotate_left
            · intro w hSw
              obtain ⟨⟨hSw1, hSw2⟩, hSw3, hSw4⟩ := hSw
              go_simp
              exact rfl
            simp only [Act.put, List.getElem_cons_succ, List.getElem_toArray, List.getElem_cons_zero, List.setIfInBounds_toArray, List.set_cons_zero, List.set_cons_succ]
            refine wpAnyH_take (i := 11) (v := ?_) rfl (by kernel_rfl) (by kernel_rfl) (by kernel_rfl) (fun _ _ _ h => h) (Or.inl ⟨by rfl, ?_⟩) (by assumption) ?_
            rotate_left
            · intro w hSw
              obtain ⟨⟨hSw1, hSw2⟩, hSw3, hSw4⟩ := hSw
              go_simp
              exact rfl
            simp only [Act.put, List.getElem_cons_succ, List.getElem_toArray, List.getElem_cons_zero, List.setIfInBounds_toArray, List.set_cons_zero, List.set_cons_succ]
            refine wpAnyH_take (i := 15) (v := ?_) rfl (by kernel_rfl) (by kernel_rfl) (by kernel_rfl) (fun _ _ _ h => h) (Or.inl ⟨by rfl, ?_⟩) (by assumption) ?_
            rotate_left
            · intro w hSw
              obtain ⟨⟨hSw1, hSw2⟩, hSw3, hSw4⟩ := hSw
              go_simp
              exact rfl
            simp only [Act.put, List.getElem_cons_succ, List.getElem_toArray, List.getElem_cons_zero, List.setIfInBounds_toArray, List.set_cons_zero, List.set_cons_succ]
            refine wpAnyH_take (i := 16) (v := ?_) rfl (by kernel_rfl) (by kernel_rfl) (by kernel_rfl) (fun _ _ _ h => h) (Or.inl ⟨by rfl, ?_⟩) (by assumption) ?_
            rotate_left
            · intro w hSw
              obtain ⟨⟨hSw1, hSw2⟩, hSw3, hSw4⟩ := hSw
              go_simp
              exact rfl
            simp only [Act.put, List.getElem_cons_succ, List.getElem_toArray, List.getElem_cons_zero, List.setIfInBounds_toArray, List.set_cons_zero, List.set_cons_succ]
            refine wpAnyH_ready (rs := [19]) (by kernel_rfl) (by simp) ?_
            refine AllReadyH.cons rfl (fun K hK => ?_) AllReadyH.nil
            · go_simp
              go_at_call 43
              refine (itoa_any _ _ B2.out (HTW.out.below (And.left hS.1) hx2)).mono ?_
              rintro e w6 ⟨rfl, hb6⟩
              show K _ _
              have hS6 := hS.below hb6
              refine hK.out _ _ hS6 (fun _ => ?_)
              clear hK K
              clear hS; have hS := hS6; clear hS6
              refine wpAnyH_take (i := 20) (v := ?_) rfl (by kernel_rfl) (by kernel_rfl) (by kernel_rfl) (fun _ _ _ h => h) (Or.inl ⟨by rfl, ?_⟩) (by assumption) ?_
              rotate_left
              · intro w hSw
                obtain ⟨⟨hSw1, hSw2⟩, hSw3, hSw4⟩ := hSw
                go_simp
                exact rfl
              simp only [Act.put, List.getElem_cons_succ, List.getElem_toArray, List.getElem_cons_zero, List.setIfInBounds_toArray, List.set_cons_zero, List.set_cons_succ]
              refine wpAnyH_take (i := 21) (v := ?_) rfl (by kernel_rfl) (by kernel_rfl) (by kernel_rfl) (fun _ _ _ h => h) (Or.inl ⟨by rfl, ?_⟩) (by assumption) ?_
              rotate_left
              · intro w hSw
                obtain ⟨⟨hSw1, hSw2⟩, hSw3, hSw4⟩ := hSw
                go_simp
                exact rfl
              simp only [Act.put, List.getElem_cons_succ, List.getElem_toArray, List.getElem_cons_zero, List.setIfInBounds_toArray, List.set_cons_zero, List.set_cons_succ]
              refine wpAnyH_take (i := 22) (v := ?_) rfl (by kernel_rfl) (by kernel_rfl) (by kernel_rfl) (fun _ _ _ h => h) (Or.inl ⟨by rfl, ?_⟩) (by assumption) ?_
              rotate_left
              · intro w hSw
                obtain ⟨⟨hSw1, hSw2⟩, hSw3, hSw4⟩ := hSw
                go_simp
                exact rfl
              simp only [Act.put, List.getElem_cons_succ, List.getElem_toArray, List.getElem_cons_zero, List.setIfInBounds_toArray, List.set_cons_zero, List.set_cons_succ]
              refine wpAnyH_take (i := 23) (v := ?_) rfl (by kernel_rfl) (by kernel_rfl) (by kernel_rfl) (fun _ _ _ h => h) (Or.inl ⟨by rfl, ?_⟩) (by assumption) ?_
              rotate_left
              · intro w hSw
                obtain ⟨⟨hSw1, hSw2⟩, hSw3, hSw4⟩ := hSw
                go_simp
                exact rfl
              simp only [Act.put, List.getElem_cons_succ, List.getElem_toArray, List.getElem_cons_zero, List.setIfInBounds_toArray, List.set_cons_zero, List.set_cons_succ]
              refine wpAnyH_done (by kernel_rfl) ?_ _
              refine NoPanic.normal ?_
              go_wp2
              go_roundw
              case rel => exact ⟨k + 1, _, by omega, by go_num, rfl, text_next l k wh (m : Int) th va S (nameS m) (by rw [HL.out]; exact hlt) HSD.out HE.out rfl, HBW.out.trans ((And.left hS.1).mono HBW.out.size)⟩
              case measure => simp [intOf]; omega
          · go_simp
            go_at_call 43
            refine (itoa_any _ _ B2.out (HTW.out.below (And.left hHeld) hx2)).mono ?_
            rintro e w6 ⟨rfl, hb6⟩
            show K _ _
            have hHeld6 := hHeld.below hb6
            refine hK.out _ _ hHeld6 (fun _ => ?_)
            clear hK K
            clear hHeld; have hHeld := hHeld6; clear hHeld6
            refine wpAnyH_ready (rs := [5]) (by kernel_rfl) (by simp) ?_
            refine AllReadyH.cons rfl (fun K hK => ?_) AllReadyH.nil
            · go_simp
              refine hK.out _ _ (S1.made hHeld m5).1 (fun _ => ?_)
              clear hK K
              have hS := S1.made hHeld m5
              refine mono1 hS ?_
              clear hHeld
              refine wpAnyH_take (i := 8) (v := ?_) rfl (by kernel_rfl) (by kernel_rfl) (by kernel_rfl) (fun _ _ _ h => h) (Or.inl ⟨by rfl, ?_⟩) (by assumption) ?_
              rotate_left
              · intro w hSw
                obtain ⟨⟨hSw1, hSw2⟩, hSw3, hSw4⟩ := hSw
                go_simp
                exact rfl
              simp only [Act.put, List.getElem_cons_succ, List.getElem_toArray, List.getElem_cons_zero, List.setIfInBounds_toArray, List.set_cons_zero, List.set_cons_succ]
              refine wpAnyH_take (i := 9) (v := ?_) rfl (by kernel_rfl) (by kernel_rfl) (by kernel_rfl) (fun _ _ _ h => h) (Or.inl ⟨by rfl, ?_⟩) (by assumption) ?_
              rotate_left
              · intro w hSw
                obtain ⟨⟨hSw1, hSw2⟩, hSw3, hSw4⟩ := hSw
                go_simp
                exact rfl
              simp only [Act.put, List.getElem_cons_succ, List.getElem_toArray, List.getElem_cons_zero, List.setIfInBounds_toArray, List.set_cons_zero, List.set_cons_succ]
              refine wpAnyH_take (i := 10) (v := ?_) rfl (by kernel_rfl) (by kernel_rfl) (by kernel_rfl) (fun _ _ _ h => h) (Or.inl ⟨by rfl, ?_⟩) (by assumption) ?_
              rotate_left
              · intro w hSw
                obtain ⟨⟨hSw1, hSw2⟩, hSw3, hSw4⟩ := hSw
                go_simp
                exact rfl
              simp only [Act.put, List.getElem_cons_succ, List.getElem_toArray, List.getElem_cons_zero, List.setIfInBounds_toArray, List.set_cons_zero, List.set_cons_succ]
              refine wpAnyH_take (i := 11) (v := ?_) rfl (by kernel_rfl) (by kernel_rfl) (by kernel_rfl) (fun _ _ _ h => h) (Or.inl ⟨by rfl, ?_⟩) (by assumption) ?_
              rotate_left
              · intro w hSw
                obtain ⟨⟨hSw1, hSw2⟩, hSw3, hSw4⟩ := hSw
                go_simp
                exact rfl
              simp only [Act.put, List.getElem_cons_succ, List.getElem_toArray, List.getElem_cons_zero, List.setIfInBounds_toArray, List.set_cons_zero, List.set_cons_succ]
              refine wpAnyH_take (i := 15) (v := ?_) rfl (by kernel_rfl) (by kernel_rfl) (by kernel_rfl) (fun _ _ _ h => h) (Or.inl ⟨by rfl, ?_⟩) (by assumption) ?_
              rotate_left
              · intro w hSw
                obtain ⟨⟨hSw1, hSw2⟩, hSw3, hSw4⟩ := hSw
                go_simp
                exact rfl
              simp only [Act.put, List.getElem_cons_succ, List.getElem_toArray, List.getElem_cons_zero, List.setIfInBounds_toArray, List.set_cons_zero, List.set_cons_succ]
              refine wpAnyH_take (i := 16) (v := ?_) rfl (by kernel_rfl) (by kernel_rfl) (by kernel_rfl) (fun _ _ _ h => h) (Or.inl ⟨by rfl, ?_⟩) (by assumption) ?_
              rotate_left
              · intro w hSw
                obtain ⟨⟨hSw1, hSw2⟩, hSw3, hSw4⟩ := hSw
                go_simp
                exact rfl
              simp only [Act.put, List.getElem_cons_succ, List.getElem_toArray, List.getElem_cons_zero, List.setIfInBounds_toArray, List.set_cons_zero, List.set_cons_succ]
              refine wpAnyH_take (i := 20) (v := ?_) rfl (by kernel_rfl) (by kernel_rfl) (by kernel_rfl) (fun _ _ _ h => h) (Or.inl ⟨by rfl, ?_⟩) (by assumption) ?_
              rotate_left
              · intro w hSw
                obtain ⟨⟨hSw1, hSw2⟩, hSw3, hSw4⟩ := hSw
                go_simp
                exact rfl
              simp only [Act.put, List.getElem_cons_succ, List.getElem_toArray, List.getElem_cons_zero, List.setIfInBounds_toArray, List.set_cons_zero, List.set_cons_succ]
              refine wpAnyH_take (i := 21) (v := ?_) rfl (by kernel_rfl) (by kernel_rfl) (by kernel_rfl) (fun _ _ _ h => h) (Or.inl ⟨by rfl, ?_⟩) (by assumption) ?_
              rotate_left
              · intro w hSw
                obtain ⟨⟨hSw1, hSw2⟩, hSw3, hSw4⟩ := hSw
                go_simp
                exact rfl
              simp only [Act.put, List.getElem_cons_succ, List.getElem_toArray, List.getElem_cons_zero, List.setIfInBounds_toArray, List.set_cons_zero, List.set_cons_succ]
              refine wpAnyH_take (i := 22) (v := ?_) rfl (by kernel_rfl) (by kernel_rfl) (by kernel_rfl) (fun _ _ _ h => h) (Or.inl ⟨by rfl, ?_⟩) (by assumption) ?_
              rotate_left
              · intro w hSw
                obtain ⟨⟨hSw1, hSw2⟩, hSw3, hSw4⟩ := hSw
                go_simp
                exact rfl
              simp only [Act.put, List.getElem_cons_succ, List.getElem_toArray, List.getElem_cons_zero, List.setIfInBounds_toArray, List.set_cons_zero, List.set_cons_succ]
              refine wpAnyH_take (i := 23) (v := ?_) rfl (by kernel_rfl) (by kernel_rfl) (by kernel_rfl) (fun _ _ _ h => h) (Or.inl ⟨by rfl, ?_⟩) (by assumption) ?_
              rotate_left
              · intro w hSw
                obtain ⟨⟨hSw1, hSw2⟩, hSw3, hSw4⟩ := hSw
                go_simp
                exact rfl
              simp only [Act.put, List.getElem_cons_succ, List.getElem_toArray, List.getElem_cons_zero, List.setIfInBounds_toArray, List.set_cons_zero, List.set_cons_succ]
              refine wpAnyH_done (by kernel_rfl) ?_ _
              refine NoPanic.normal ?_
              go_wp2
              go_roundw
              case rel => exact ⟨k + 1, _, by omega, by go_num, rfl, text_next l k wh (m : Int) th va S (nameS m) (by rw [HL.out]; exact hlt) HSD.out HE.out rfl, HBW.out.trans ((And.left hS.1).mono HBW.out.size)⟩
              case measure => simp [intOf]; omega
      · go_simp
        refine hK.out _ _ (S1.made hHeld m5).1 (fun _ => ?_)
        clear hK K
        have hS := S1.made hHeld m5
        refine mono1 hS ?_
        clear hHeld
        refine wpAnyH_take (i := 8) (v := ?_) rfl (by kernel_rfl) (by kernel_rfl) (by kernel_rfl) (fun _ _ _ h => h) (Or.inl ⟨by rfl, ?_⟩) (by assumption) ?_
        rotate_left
        · intro w hSw
          obtain ⟨⟨hSw1, hSw2⟩, hSw3, hSw4⟩ := hSw
          go_simp
          exact rfl
        simp only [Act.put, List.getElem_cons_succ, List.getElem_toArray, List.getElem_cons_zero, List.setIfInBounds_toArray, List.set_cons_zero, List.set_cons_succ]
        refine wpAnyH_take (i := 9) (v := ?_) rfl (by kernel_rfl) (by kernel_rfl) (by kernel_rfl) (fun _ _ _ h => h) (Or.inl ⟨by rfl, ?_⟩) (by assumption) ?_
        rotate_left
        · intro w hSw
          obtain ⟨⟨hSw1, hSw2⟩, hSw3, hSw4⟩ := hSw
          go_simp
          exact rfl
        simp only [Act.put, List.getElem_cons_succ, List.getElem_toArray, List.getElem_cons_zero, List.setIfInBounds_toArray, List.set_cons_zero, List.set_cons_succ]
        refine wpAnyH_ready (rs := [3]) (by kernel_rfl) (by simp) ?_
        refine AllReadyH.cons rfl (fun K hK => ?_) AllReadyH.nil
        · go_simp
          go_at_call 43
          refine (itoa_any _ _ B0.out (HTW.out.below (And.left hS.1) hx2)).mono ?_
          rintro e w6 ⟨rfl, hb6⟩
          show K _ _
          have hS6 := hS.below hb6
          refine hK.out _ _ hS6 (fun _ => ?_)
          clear hK K
          clear hS; have hS := hS6; clear hS6
          refine wpAnyH_take (i := 4) (v := ?_) rfl (by kernel_rfl) (by kernel_rfl) (by kernel_rfl) (fun _ _ _ h => h) (Or.inl ⟨by rfl, ?_⟩) (by assumption) ?_
          rotate_left
          · intro w hSw
            obtain ⟨⟨hSw1, hSw2⟩, hSw3, hSw4⟩ := hSw
            go_simp
            exact rfl
          simp only [Act.put, List.getElem_cons_succ, List.getElem_toArray, List.getElem_cons_zero, List.setIfInBounds_toArray, List.set_cons_zero, List.set_cons_succ]
          refine wpAnyH_take (i := 10) (v := ?_) rfl (by kernel_rfl) (by kernel_rfl) (by kernel_rfl) (fun _ _ _ h => h) (Or.inl ⟨by rfl, ?_⟩) (by assumption) ?_
          rotate_left
          · intro w hSw
            obtain ⟨⟨hSw1, hSw2⟩, hSw3, hSw4⟩ := hSw
            go_simp
            exact rfl
          simp only [Act.put, List.getElem_cons_succ, List.getElem_toArray, List.getElem_cons_zero, List.setIfInBounds_toArray, List.set_cons_zero, List.set_cons_succ]
          refine wpAnyH_take (i := 11) (v := ?_) rfl (by kernel_rfl) (by kernel_rfl) (by kernel_rfl) (fun _ _ _ h => h) (Or.inl ⟨by rfl, ?_⟩) (by assumption) ?_
          rotate_left
          · intro w hSw
            obtain ⟨⟨hSw1, hSw2⟩, hSw3, hSw4⟩ := hSw
            go_simp
            exact rfl
          simp only [Act.put, List.getElem_cons_succ, List.getElem_toArray, List.getElem_cons_zero, List.setIfInBounds_toArray, List.set_cons_zero, List.set_cons_succ]
          refine wpAnyH_ready (rs := [14]) (by kernel_rfl) (by simp) ?_
          refine AllReadyH.cons rfl (fun K hK => ?_) AllReadyH.nil
          · go_simp
            go_at_call 43
            refine (itoa_any _ _ B1.out (HTW.out.below (And.left hS.1) hx2)).mono ?_
            rintro e w6 ⟨rfl, hb6⟩
            show K _ _
            have hS6 := hS.below hb6
            refine hK.out _ _ hS6 (fun _ => ?_)
            clear hK K
            clear hS; have hS := hS6; clear hS6
            refine wpAnyH_take (i := 15) (v := ?_) rfl (by kernel_rfl) (by kernel_rfl) (by kernel_rfl) (fun _ _ _ h => h) (Or.inl ⟨by rfl, ?_⟩) (by assumption) ?_
            rotate_left
            · intro w hSw
              obtain ⟨⟨hSw1, hSw2⟩, hSw3, hSw4⟩ := hSw
              go_simp
              exact rfl
            simp only [Act.put, List.getElem_cons_succ, List.getElem_toArray, List.getElem_cons_zero, List.setIfInBounds_toArray, List.set_cons_zero, List.set_cons_succ]
            refine wpAnyH_take (i := 16) (v := ?_) rfl (by kernel_rfl) (by kernel_rfl) (by kernel_rfl) (fun _ _ _ h => h) (Or.inl ⟨by rfl, ?_⟩) (by assumption) ?_
            rotate_left
            · intro w hSw
              obtain ⟨⟨hSw1, hSw2⟩, hSw3, hSw4⟩ := hSw
              go_simp
              exact rfl
            simp only [Act.put, List.getElem_cons_succ, List.getElem_toArray, List.getElem_cons_zero, List.setIfInBounds_toArray, List.set_cons_zero, List.set_cons_succ]
            refine wpAnyH_ready (rs := [19]) (by kernel_rfl) (by simp) ?_
            refine AllReadyH.cons rfl (fun K hK => ?_) AllReadyH.nil
            · go_simp
              go_at_call 43
              refine (itoa_any _ _ B2.out (HTW.out.below (And.left hS.1) hx2)).mono ?_
              rintro e w6 ⟨rfl, hb6⟩
              show K _ _
              have hS6 := hS.below hb6
              refine hK.out _ _ hS6 (fun _ => ?_)
              clear hK K
              clear hS; have hS := hS6; clear hS6
              refine wpAnyH_take (i := 20) (v := ?_) rfl (by kernel_rfl) (by kernel_rfl) (by kernel_rfl) (fun _ _ _ h => h) (Or.inl ⟨by rfl, ?_⟩) (by assumption) ?_
              rotate_left
              · intro w hSw
                obtain ⟨⟨hSw1, hSw2⟩, hSw3, hSw4⟩ := hSw
                go_simp
                exact rfl
              simp only [Act.put, List.getElem_cons_succ, List.getElem_toArray, List.getElem_cons_zero, List.setIfInBounds_toArray, List.set_cons_zero, List.set_cons_succ]
              refine wpAnyH_take (i := 21) (v := ?_) rfl (by kernel_rfl) (by kernel_rfl) (by kernel_rfl) (fun _ _ _ h => h) (Or.inl ⟨by rfl, ?_⟩) (by assumption) ?_
              rotate_left
              · intro w hSw
                obtain ⟨⟨hSw1, hSw2⟩, hSw3, hSw4⟩ := hSw
                go_simp
                exact rfl
              simp only [Act.put, List.getElem_cons_succ, List.getElem_toArray, List.getElem_cons_zero, List.setIfInBounds_toArray, List.set_cons_zero, List.set_cons_succ]
              refine wpAnyH_take (i := 22) (v := ?_) rfl (by kernel_rfl) (by kernel_rfl) (by kernel_rfl) (fun _ _ _ h => h) (Or.inl ⟨by rfl, ?_⟩) (by assumption) ?_
              rotate_left
              · intro w hSw
                obtain ⟨⟨hSw1, hSw2⟩, hSw3, hSw4⟩ := hSw
                go_simp
                exact rfl
              simp only [Act.put, List.getElem_cons_succ, List.getElem_toArray, List.getElem_cons_zero, List.setIfInBounds_toArray, List.set_cons_zero, List.set_cons_succ]
              refine wpAnyH_take (i := 23) (v := ?_) rfl (by kernel_rfl) (by kernel_rfl) (by kernel_rfl) (fun _ _ _ h => h) (Or.inl ⟨by rfl, ?_⟩) (by assumption) ?_
              rotate_left
              · intro w hSw
                obtain ⟨⟨hSw1, hSw2⟩, hSw3, hSw4⟩ := hSw
                go_simp
                exact rfl
              simp only [Act.put, List.getElem_cons_succ, List.getElem_toArray, List.getElem_cons_zero, List.setIfInBounds_toArray, List.set_cons_zero, List.set_cons_succ]
              refine wpAnyH_done (by kernel_rfl) ?_ _
              refine NoPanic.normal ?_
              go_wp2
              go_roundw
              case rel => exact ⟨k + 1, _, by omega, by go_num, rfl, text_next l k wh (m : Int) th va S (nameS m) (by rw [HL.out]; exact hlt) HSD.out HE.out rfl, HBW.out.trans ((And.left hS.1).mono HBW.out.size)⟩
              case measure => simp [intOf]; omega
    · obtain rfl : k = len := by omega
      have ht : l.take k = l := List.take_of_length_le (by rw [HL.out]; exact Nat.le_refl _)
      have hb' := HSD.out
      rw [ht] at hb'
      have e : S = ⟨(textL l).toArray⟩ := by
        apply ByteArray.ext
        rw [← hb']
      subst e
      clear hb' ht
      go_wp2
      go_ret2
      exact ⟨rfl, hbel⟩
end Go.Proofs.YthnbbgmajdjgeaaDoor
