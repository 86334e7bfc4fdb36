/-
  The law MemTouches is proved here, as a walk: what is done to any memory comes to the same in both texts. Conditions: errors.errorType and the table of powers are laid; words and touches lie below this call's memory.
-/
import Derived.Test.YtepoahinnfjaiaaDoorMtT
import Derived.Deep.RegionHeld3
import Derived.Deep.DeepMust
namespace Go.Proofs.YtepoahinnfjaiaaDoor
open Go.RowKit Go.Extern.Stop Go.Stop Go.Extern
attribute [local go_sem ↓] Go.wp_at_zero Go.wp_at_succ

theorem tell_any (n : Int) (w : World) (hg : HasErr w) : Calls Tryd.prog 76 #[errV n] w fun e w' => e = .returned (.int .i64 n) ∧ Below w.heap.size w w' := by
  by_cases h : n = 0
  · subst h
    rw [errV_zero]
    refine (tell_nil w).mono ?_
    rintro e w' ⟨rfl, rfl⟩
    exact ⟨rfl, Below.refl _ _⟩
  · rw [errV_pos n h]
    exact tell_e n w hg
theorem own_blocks {w w' : World} {base n : Nat} {e : TypeId} {size : Nat} {v : Value} {xs : List Value} (h : w.ownsRow base e size v n xs) (hb : ∀ b, v.ownBlock = some b → w'.heap[b]? = w.heap[b]?) : w'.ownsRow base e size v n xs := by
  refine ⟨h.1, ?_⟩
  rcases h.2 with h2 | ⟨g, cap, cur, rfl, h0, h2, r⟩
  · exact .inl h2
  · exact .inr ⟨g, cap, cur, rfl, h0, (hb g rfl).trans h2, r⟩
/-- What holds of memory at a touch's head, in the law: b0: where the answers' memory begins. -/
structure LawR (w : World) (b0 p : Nat) (v vo vw : Value) (n m : Nat) (l : List Tc) (ms : List Int) (k : Nat) (wr : World) : Prop where
  mem : MemP w.heap.size wr p v n (stA l ms k)
  outs : wr.ownsRow b0 9 1 vo m (outA l ms m)
  words : wr.ownsRow b0 35 1 vw n (u64s (stA l ms m))
  bel : Below w.heap.size w wr
theorem LawR.grow {w wr w' : World} {b0 p : Nat} {v vo vw : Value} {n m : Nat} {l : List Tc} {ms : List Int} {k : Nat} (h : LawR w b0 p v vo vw n m l ms k wr) (hb : Below wr.heap.size wr w') : LawR w b0 p v vo vw n m l ms k w' :=
  ⟨h.mem.ofB hb, own_belowT h.outs hb, own_belowT h.words hb, h.bel.trans (hb.mono h.bel.size)⟩
theorem LawR.touch {w wr w' : World} {b0 p : Nat} {v vo vw : Value} {n m : Nat} {l : List Tc} {ms : List Int} {k : Nat} {e : Ending} {res : Value} (h : LawR w b0 p v vo vw n m l ms k wr) (hv : ∀ g, v.ownBlock = some g → g < b0)
    (ht : TouchEnd w.heap.size wr p v n (resA l ms k) res e w') : LawR w b0 p v vo vw n m l ms (k + 1) w' ∧ e = .returned res := by
  obtain ⟨he, hm, hb, hf⟩ := ht
  refine ⟨⟨hm, own_blocks h.outs fun b hb' => hf b fun hc => ?_, own_blocks h.words fun b hb' => hf b fun hc => ?_, h.bel.trans hb⟩, he⟩
  · have := (h.outs.lt b hb').1; have := hv b hc; omega
  · have := (h.words.lt b hb').1; have := hv b hc; omega
theorem out_cell {w : World} {base m k : Nat} {v : Value} {l : List Tc} {ms : List Int} (h : w.ownsRow base 9 1 v m (outA l ms m)) (hk : k < m) :
    ∃ g c, v = .slice (some ⟨g, 0, none⟩) m c ∧ g < w.heap.size ∧ w.cell? ⟨g, k, none⟩ = some (.string (tline (resA l ms k))) := by
  have hl := h.lt
  rcases h.2 with ⟨_, hn⟩ | ⟨g, cap, cur, hv, _⟩
  · omega
  · subst hv
    have hcell := h.cells (g := g) rfl k _ (outA_get l ms m k hk)
    have e : Addr.add ⟨g, 0, none⟩ k = ⟨g, k, none⟩ := by unfold Addr.add; split <;> simp_all
    rw [e] at hcell
    exact ⟨g, cap, rfl, (hl g rfl).2, hcell⟩
theorem ts_zero (S : List Int) (t : Tc) : (t.wt = 1 → (tstep S t).got = 0 ∧ (tstep S t).did = false) ∧ (t.wt = 3 → (tstep S t).got = 0) ∧ (t.wt ≠ 3 → (tstep S t).did = false) := by
  unfold tstep
  refine ⟨fun h => ?_, fun h => ?_, fun h => ?_⟩
  all_goals
    repeat' split
    all_goals first | omega | simp
theorem tline_eq (r : TR) (V : Nat) (D : Bool) (C : Int) (hg : r.got = V) (hd : r.did = D) (hc : r.code = C) : tline r = (((decS V ++ ⟨#[32]⟩) ++ boolS D) ++ ⟨#[32]⟩) ++ itoaS C := by
  unfold tline sp
  rw [hg, hd, hc]
  rfl
set_option maxRecDepth 100000 in
set_option maxHeartbeats 8000000 in
theorem law_touches (A : Option Addr) (n c : Nat) (ms : List Int) (A2 : Option Addr) (m c2 : Nat) (l : List Tc) (w : World) (hr : Reads w w.heap.size 1 A n (u64s ms)) (hl : ms.length = n)
    (hr2 : Reads w w.heap.size 4 A2 m (flatT l)) (hl2 : l.length = m) (hU : U64s ms) (hTc : TcWf l) (ht : HasTab w) (hg : HasErr w) :
    Calls Tryd.prog 13 #[.slice A n c, .slice A2 m c2] w fun e w' => e = .returned (.bool true) ∧ Below w.heap.size w w' := by
  have hw2 := ht.lt
  by_cases hN : n ≤ 400 ∧ m ≤ 100
  · obtain ⟨hn4, hm⟩ := hN
    by_cases hn : n ≤ 300
    · have hO := of_ok A n c w.heap.size ms w hr hl hn
      have HO := Lib.hid hO
      have HP := Lib.hid (fun (W : World) (hb : Below w.heap.size w W) => touches_calls A n c w.heap.size ms A2 m c2 l W (hr.below hb) hl hn (hr2.below hb) hl2 hm hb.size hU hTc (ht.below hb hw2))
      have HL2 := Lib.hid hl2
      have HL := Lib.hid hl
      have HU := Lib.hid hU
      have HTC := Lib.hid hTc
      have HT := Lib.hid ht
      have HG := Lib.hid hg
      have HR2 := Lib.hid hr2
      clear hO hl2 hl hU hTc ht hg hr hr2
      go_enter Tryd.func13, Tryd.ntmps13
      go_wp2_with (first
        | (go_at_call 67; refine HO.out.mono ?_; rintro e w1 ⟨p, v, rfl, hm1, hb1⟩; have HM1 := Lib.hid hm1; have HB1 := Lib.hid hb1; clear hm1 hb1)
        | (go_at_call 68; refine (HP.out _ HB1.out).mono ?_; rintro e w2 ⟨vo, vw, rfl, ho2, hw2', hb2⟩; have HO2 := Lib.hid ho2; have HW2 := Lib.hid hw2'; have HB2 := Lib.hid hb2; clear ho2 hw2' hb2))
      have hst : LawR w w1.heap.size p v vo vw n m l ms 0 w2 := ⟨HM1.out.ofB HB2.out, HO2.out, HW2.out, HB1.out.trans (HB2.out.mono HB1.out.size)⟩
      have hvb : ∀ g, v.ownBlock = some g → g < w1.heap.size := fun g hg => (HM1.out.own.lt g hg).2
      have HST := Lib.hid hst
      have HVB := Lib.hid hvb
      clear hst hvb
      go_loopw [50] (fun i wr => ∃ k : Nat, k ≤ m ∧ i = .int .i64 k ∧ LawR w w1.heap.size p v vo vw n m l ms k wr) (fun i _ => m - (intOf i).toNat)
      case atStart => exact ⟨0, Nat.zero_le _, rfl, HST.out⟩
      case round =>
        obtain ⟨k, hk, rfl, hrel⟩ := hrel
        have HREL := Lib.hid hrel
        clear hrel
        have hsz := HREL.out.bel.size
        by_cases hlt : k < m
        · obtain ⟨ad, rfl, _, c0, c1, c2, c3⟩ := (HR2.out.below HREL.out.bel).tc HL2.out hlt
          obtain ⟨t, hte⟩ : ∃ t, l.getD k t0 = t := ⟨_, rfl⟩
          have htw := getD_wf HTC.out k
          have hsu := stA_U64 HU.out HTC.out k
          have hts := tstep_U64 hsu htw.2.1 htw.2.2
          have htz := ts_zero (stA l ms k) (l.getD k t0)
          obtain ⟨go, co, hvo, hgo, hco⟩ := out_cell HREL.out.outs hlt
          subst hvo
          rw [hte] at c0 c1 c2 c3 htw hts htz
          have HRES := Lib.hid (show resA l ms k = tstep (stA l ms k) t by unfold resA; rw [hte])
          obtain ⟨G, hG⟩ := Int.eq_ofNat_of_zero_le hts.2.1.1
          have HV := Lib.hid (show G < 18446744073709551616 by have := hts.2.1.2; omega)
          obtain ⟨D, hD⟩ : ∃ D, (tstep (stA l ms k) t).did = D := ⟨_, rfl⟩
          obtain ⟨C, hC⟩ : ∃ C, (tstep (stA l ms k) t).code = C := ⟨_, rfl⟩
          have hC2 : C = 0 ∨ C = 2 := by rw [← hC]; exact hts.2.2
          have hzc := itoaS_code C hC2
          have HCB := Lib.hid (show B64 C by rcases hC2 with rfl | rfl <;> exact ⟨by decide, by decide⟩)
          have HLN := Lib.hid (show tline (resA l ms k) = (((decS G ++ ⟨#[32]⟩) ++ boolS D) ++ ⟨#[32]⟩) ++ itoaS C from by rw [HRES.out, tline_eq _ G D C hG hD hC])
          have k1 := tch1 w.heap.size p v n (stA l ms k) t
          have k2 := tch2 w.heap.size p v n (stA l ms k) t
          have k3 := tch3 w.heap.size p v n (stA l ms k) t
          have k0 := tch0 w.heap.size p v n (stA l ms k) t
          rw [hG] at htz
          simp only [hG, hD, hC] at k1 k2 k3 k0
          rw [hD] at htz
          have e1 : ¬ 9223372036854775807 < (decS G).size + 1 := by have := decS_size G HV.out; omega
          have e2 : ¬ 9223372036854775807 < (decS G).size + 1 + (boolS D).size := by have := decS_size G HV.out; have := boolS_size D; omega
          have e3 : ¬ 9223372036854775807 < (decS G).size + 1 + (boolS D).size + 1 := by have := decS_size G HV.out; have := boolS_size D; omega
          have e4 : ¬ 9223372036854775807 < (decS G).size + 1 + (boolS D).size + 1 + (itoaS C).size := by have := decS_size G HV.out; have := boolS_size D; omega
          clear hG hD hC hC2 hzc hsu htw hts
          obtain ⟨wt, ix, x, y⟩ := t
          simp only at c0 c1 c2 c3 htz k1 k2 k3 k0
          obtain ⟨z1, z3, zn⟩ := htz
          have HRq := Lib.hid (HREL.out.grow ((Below.refl wr.heap.size wr).alloc (Nat.le_refl _) (.cells #[.int .i64 wt, .int .i64 ix, .int .u64 x, .int .u64 y] 118)))
          clear hte hco hgo
          by_cases h1 : wt = 1
          · obtain ⟨y0, y1⟩ := z1 h1
            have hG0 : G = 0 := by omega
            subst y1 hG0
            subst h1
            have HK := Lib.hid (k1 _ HRq.out.mem rfl)
            clear k0 k1 k2 k3 z1 z3 zn
            go_wp2_with (go_at_call 69; refine HK.out.mono ?_; rintro e w3 hte3; obtain ⟨hr3, hee⟩ := HRq.out.touch HVB.out (by rw [HRES.out]; exact hte3); subst hee; have HR3 := Lib.hid hr3; clear hr3 hte3)
            have hco3 := out_cell HR3.out.outs hlt
            obtain ⟨go', co', hvo', hgo3, hcell3⟩ := hco3
            simp only [Value.slice.injEq, Option.some.injEq, Addr.mk.injEq, and_true, true_and] at hvo'
            obtain ⟨rfl, rfl⟩ := hvo'
            rw [HLN.out] at hcell3
            have HGT := Lib.hid (HT.out.below HR3.out.bel hw2)
            have HGE := Lib.hid (HG.out.below HR3.out.bel HG.out.lt)
            have hd0 : Below w3.heap.size w3 w3.drew := (Below.refl _ _).drew
            have HKK := Lib.hid (fun (w' : World) (hk : Below w3.heap.size w3 w') => (⟨by rw [hk.cell (p := ⟨go, k, none⟩) hgo3]; exact hcell3, hk⟩ : w'.cell? ⟨go, k, none⟩ = some (.string ((((decS 0 ++ ⟨#[32]⟩) ++ boolS false) ++ ⟨#[32]⟩) ++ itoaS C)) ∧ Below w3.heap.size w3 w'))
            have HW3 := Lib.hid (show 2 < w3.heap.size by have := HR3.out.bel.size; omega)
            clear hcell3 hgo3
            go_region_held3 (fun w' => w'.cell? ⟨go, k, none⟩ = some (.string ((((decS 0 ++ ⟨#[32]⟩) ++ boolS false) ++ ⟨#[32]⟩) ++ itoaS C)) ∧ Below w3.heap.size w3 w')
              (first | exact HKK.out _ hd0 | exact HKK.out _ hk6 | exact HKK.out _ hk8 | exact HKK.out _ hk9 | go_keep)
              ((first
                | (go_at_call 73
                   refine (fmtu 0 HV.out _ (HGT.out.below (Below.trans (a := w3) (by assumption) (Below.refl _ _)) HW3.out)).mono ?_
                   rintro e w6 ⟨rfl, hb6⟩
                   have hk6 : Below w3.heap.size w3 w6 := Below.trans (by assumption) (hb6.mono (Below.size (by assumption))))
                | (go_at_call 74; refine (fbool false _).mono ?_; rintro e w7 ⟨rfl, rfl⟩)
                | (go_at_call 76
                   refine (tell_any C _ (HGE.out.below (Below.trans (a := w3) (by assumption) (Below.refl _ _)) (by have := HW3.out; omega))).mono ?_
                   rintro e w8 ⟨rfl, hb8⟩
                   have hk8 : Below w3.heap.size w3 w8 := Below.trans (by assumption) (hb8.mono (Below.size (by assumption))))
                | (go_at_call 75
                   refine (itoa_any C _ HCB.out (HGT.out.below (Below.trans (a := w3) (by assumption) (Below.refl _ _)) HW3.out)).mono ?_
                   rintro e w9 ⟨rfl, hb9⟩
                   have hk9 : Below w3.heap.size w3 w9 := Below.trans (by assumption) (hb9.mono (Below.size (by assumption))))))
            all_goals
              go_wp2
              go_roundw
              case rel => exact ⟨k + 1, by omega, by go_num, HR3.out.grow (And.right (by assumption))⟩
              case measure => simp [intOf]; omega
          · by_cases h2 : wt = 2
            · have y1 := zn (by omega)
              subst y1
              subst h2
              have HK := Lib.hid (k2 _ HRq.out.mem rfl)
              clear k0 k1 k2 k3 z1 z3 zn
              go_wp2_with (go_at_call 70; refine HK.out.mono ?_; rintro e w3 hte3; obtain ⟨hr3, hee⟩ := HRq.out.touch HVB.out (by rw [HRES.out]; exact hte3); subst hee; have HR3 := Lib.hid hr3; clear hr3 hte3)
              have hco3 := out_cell HR3.out.outs hlt
              obtain ⟨go', co', hvo', hgo3, hcell3⟩ := hco3
              simp only [Value.slice.injEq, Option.some.injEq, Addr.mk.injEq, and_true, true_and] at hvo'
              obtain ⟨rfl, rfl⟩ := hvo'
              rw [HLN.out] at hcell3
              have HGT := Lib.hid (HT.out.below HR3.out.bel hw2)
              have HGE := Lib.hid (HG.out.below HR3.out.bel HG.out.lt)
              have hd0 : Below w3.heap.size w3 w3.drew := (Below.refl _ _).drew
              have HKK := Lib.hid (fun (w' : World) (hk : Below w3.heap.size w3 w') => (⟨by rw [hk.cell (p := ⟨go, k, none⟩) hgo3]; exact hcell3, hk⟩ : w'.cell? ⟨go, k, none⟩ = some (.string ((((decS G ++ ⟨#[32]⟩) ++ boolS false) ++ ⟨#[32]⟩) ++ itoaS C)) ∧ Below w3.heap.size w3 w'))
              have HW3 := Lib.hid (show 2 < w3.heap.size by have := HR3.out.bel.size; omega)
              clear hcell3 hgo3
              go_region_held3 (fun w' => w'.cell? ⟨go, k, none⟩ = some (.string ((((decS G ++ ⟨#[32]⟩) ++ boolS false) ++ ⟨#[32]⟩) ++ itoaS C)) ∧ Below w3.heap.size w3 w')
                (first | exact HKK.out _ hd0 | exact HKK.out _ hk6 | exact HKK.out _ hk8 | exact HKK.out _ hk9 | go_keep)
                ((first
                  | (go_at_call 73
                     refine (fmtu G HV.out _ (HGT.out.below (Below.trans (a := w3) (by assumption) (Below.refl _ _)) HW3.out)).mono ?_
                     rintro e w6 ⟨rfl, hb6⟩
                     have hk6 : Below w3.heap.size w3 w6 := Below.trans (by assumption) (hb6.mono (Below.size (by assumption))))
                  | (go_at_call 74; refine (fbool false _).mono ?_; rintro e w7 ⟨rfl, rfl⟩)
                  | (go_at_call 76
                     refine (tell_any C _ (HGE.out.below (Below.trans (a := w3) (by assumption) (Below.refl _ _)) (by have := HW3.out; omega))).mono ?_
                     rintro e w8 ⟨rfl, hb8⟩
                     have hk8 : Below w3.heap.size w3 w8 := Below.trans (by assumption) (hb8.mono (Below.size (by assumption))))
                  | (go_at_call 75
                     refine (itoa_any C _ HCB.out (HGT.out.below (Below.trans (a := w3) (by assumption) (Below.refl _ _)) HW3.out)).mono ?_
                     rintro e w9 ⟨rfl, hb9⟩
                     have hk9 : Below w3.heap.size w3 w9 := Below.trans (by assumption) (hb9.mono (Below.size (by assumption))))))
              all_goals
                go_wp2
                go_roundw
                case rel => exact ⟨k + 1, by omega, by go_num, HR3.out.grow (And.right (by assumption))⟩
                case measure => simp [intOf]; omega
            · by_cases h3 : wt = 3
              · have y0 := z3 h3
                have hG0 : G = 0 := by omega
                subst hG0
                subst h3
                have HK := Lib.hid (k3 _ HRq.out.mem rfl)
                clear k0 k1 k2 k3 z1 z3 zn
                go_wp2_with (go_at_call 71; refine HK.out.mono ?_; rintro e w3 hte3; obtain ⟨hr3, hee⟩ := HRq.out.touch HVB.out (by rw [HRES.out]; exact hte3); subst hee; have HR3 := Lib.hid hr3; clear hr3 hte3)
                have hco3 := out_cell HR3.out.outs hlt
                obtain ⟨go', co', hvo', hgo3, hcell3⟩ := hco3
                simp only [Value.slice.injEq, Option.some.injEq, Addr.mk.injEq, and_true, true_and] at hvo'
                obtain ⟨rfl, rfl⟩ := hvo'
                rw [HLN.out] at hcell3
                have HGT := Lib.hid (HT.out.below HR3.out.bel hw2)
                have HGE := Lib.hid (HG.out.below HR3.out.bel HG.out.lt)
                have hd0 : Below w3.heap.size w3 w3.drew := (Below.refl _ _).drew
                have HKK := Lib.hid (fun (w' : World) (hk : Below w3.heap.size w3 w') => (⟨by rw [hk.cell (p := ⟨go, k, none⟩) hgo3]; exact hcell3, hk⟩ : w'.cell? ⟨go, k, none⟩ = some (.string ((((decS 0 ++ ⟨#[32]⟩) ++ boolS D) ++ ⟨#[32]⟩) ++ itoaS C)) ∧ Below w3.heap.size w3 w'))
                have HW3 := Lib.hid (show 2 < w3.heap.size by have := HR3.out.bel.size; omega)
                clear hcell3 hgo3
                go_region_held3 (fun w' => w'.cell? ⟨go, k, none⟩ = some (.string ((((decS 0 ++ ⟨#[32]⟩) ++ boolS D) ++ ⟨#[32]⟩) ++ itoaS C)) ∧ Below w3.heap.size w3 w')
                  (first | exact HKK.out _ hd0 | exact HKK.out _ hk6 | exact HKK.out _ hk8 | exact HKK.out _ hk9 | go_keep)
                  ((first
                    | (go_at_call 73
                       refine (fmtu 0 HV.out _ (HGT.out.below (Below.trans (a := w3) (by assumption) (Below.refl _ _)) HW3.out)).mono ?_
                       rintro e w6 ⟨rfl, hb6⟩
                       have hk6 : Below w3.heap.size w3 w6 := Below.trans (by assumption) (hb6.mono (Below.size (by assumption))))
                    | (go_at_call 74; refine (fbool D _).mono ?_; rintro e w7 ⟨rfl, rfl⟩)
                    | (go_at_call 76
                       refine (tell_any C _ (HGE.out.below (Below.trans (a := w3) (by assumption) (Below.refl _ _)) (by have := HW3.out; omega))).mono ?_
                       rintro e w8 ⟨rfl, hb8⟩
                       have hk8 : Below w3.heap.size w3 w8 := Below.trans (by assumption) (hb8.mono (Below.size (by assumption))))
                    | (go_at_call 75
                       refine (itoa_any C _ HCB.out (HGT.out.below (Below.trans (a := w3) (by assumption) (Below.refl _ _)) HW3.out)).mono ?_
                       rintro e w9 ⟨rfl, hb9⟩
                       have hk9 : Below w3.heap.size w3 w9 := Below.trans (by assumption) (hb9.mono (Below.size (by assumption))))))
                all_goals
                  go_wp2
                  go_roundw
                  case rel => exact ⟨k + 1, by omega, by go_num, HR3.out.grow (And.right (by assumption))⟩
                  case measure => simp [intOf]; omega
              · have y1 := zn h3
                subst y1
                have d1 : (wt == 1) = false := by simpa using h1
                have d2 : (wt == 2) = false := by simpa using h2
                have d3 : (wt == 3) = false := by simpa using h3
                have HK := Lib.hid (k0 _ HRq.out.mem h1 h2 h3)
                clear k0 k1 k2 k3 z1 z3 zn h1 h2 h3
                go_wp2_with (go_at_call 72; refine HK.out.mono ?_; rintro e w3 hte3; obtain ⟨hr3, hee⟩ := HRq.out.touch HVB.out (by rw [HRES.out]; exact hte3); subst hee; have HR3 := Lib.hid hr3; clear hr3 hte3)
                have hco3 := out_cell HR3.out.outs hlt
                obtain ⟨go', co', hvo', hgo3, hcell3⟩ := hco3
                simp only [Value.slice.injEq, Option.some.injEq, Addr.mk.injEq, and_true, true_and] at hvo'
                obtain ⟨rfl, rfl⟩ := hvo'
                rw [HLN.out] at hcell3
                have HGT := Lib.hid (HT.out.below HR3.out.bel hw2)
                have HGE := Lib.hid (HG.out.below HR3.out.bel HG.out.lt)
                have hd0 : Below w3.heap.size w3 w3.drew := (Below.refl _ _).drew
                have HKK := Lib.hid (fun (w' : World) (hk : Below w3.heap.size w3 w') => (⟨by rw [hk.cell (p := ⟨go, k, none⟩) hgo3]; exact hcell3, hk⟩ : w'.cell? ⟨go, k, none⟩ = some (.string ((((decS G ++ ⟨#[32]⟩) ++ boolS false) ++ ⟨#[32]⟩) ++ itoaS C)) ∧ Below w3.heap.size w3 w'))
                have HW3 := Lib.hid (show 2 < w3.heap.size by have := HR3.out.bel.size; omega)
                clear hcell3 hgo3
                go_region_held3 (fun w' => w'.cell? ⟨go, k, none⟩ = some (.string ((((decS G ++ ⟨#[32]⟩) ++ boolS false) ++ ⟨#[32]⟩) ++ itoaS C)) ∧ Below w3.heap.size w3 w')
                  (first | exact HKK.out _ hd0 | exact HKK.out _ hk6 | exact HKK.out _ hk8 | exact HKK.out _ hk9 | go_keep)
                  ((first
                    | (go_at_call 73
                       refine (fmtu G HV.out _ (HGT.out.below (Below.trans (a := w3) (by assumption) (Below.refl _ _)) HW3.out)).mono ?_
                       rintro e w6 ⟨rfl, hb6⟩
                       have hk6 : Below w3.heap.size w3 w6 := Below.trans (by assumption) (hb6.mono (Below.size (by assumption))))
                    | (go_at_call 74; refine (fbool false _).mono ?_; rintro e w7 ⟨rfl, rfl⟩)
                    | (go_at_call 76
                       refine (tell_any C _ (HGE.out.below (Below.trans (a := w3) (by assumption) (Below.refl _ _)) (by have := HW3.out; omega))).mono ?_
                       rintro e w8 ⟨rfl, hb8⟩
                       have hk8 : Below w3.heap.size w3 w8 := Below.trans (by assumption) (hb8.mono (Below.size (by assumption))))
                    | (go_at_call 75
                       refine (itoa_any C _ HCB.out (HGT.out.below (Below.trans (a := w3) (by assumption) (Below.refl _ _)) HW3.out)).mono ?_
                       rintro e w9 ⟨rfl, hb9⟩
                       have hk9 : Below w3.heap.size w3 w9 := Below.trans (by assumption) (hb9.mono (Below.size (by assumption))))))
                all_goals
                  go_wp2
                  go_roundw
                  case rel => exact ⟨k + 1, by omega, by go_num, HR3.out.grow (And.right (by assumption))⟩
                  case measure => simp [intOf]; omega
        · obtain rfl : k = m := by omega
          have h1' : ∀ u ∈ u64s (stA l ms k), u.oneCell' = true := fun u hu => by obtain ⟨x, _, rfl⟩ := List.mem_map.1 hu; rfl
          have h2' : ∀ u ∈ u64s (stA l ms k), ∃ z : Int, u = .int .u64 z := fun u hu => by obtain ⟨x, _, rfl⟩ := List.mem_map.1 hu; exact ⟨x, rfl⟩
          have H1 := Lib.hid h1'
          have H2 := Lib.hid h2'
          obtain ⟨A3, c3, hv3⟩ := own_formM HREL.out.mem.own
          obtain ⟨A4, c4, hv4⟩ := own_formM HREL.out.words
          subst hv3 hv4
          have hcell := HREL.out.mem.cell
          have HC := Lib.hid hcell
          clear h1' h2' hcell hlt
          go_wp2_with (first
            | (go_at_call 21
               refine (words_reads ⟨p, 0, none⟩ A3 n _ wr.heap.size (u64s (stA l ms k)) _ HC.out (Reads.of_own HREL.out.mem.own) H1.out (by omega)).mono ?_
               rintro e w5 ⟨A', c', rfl, hr5, hb5⟩
               have HR5 := Lib.hid hr5
               have HB5 := Lib.hid hb5
               clear hr5 hb5)
            | (go_at_call 20
               refine (equal_u64 _ _ n _ _ w5.heap.size wr.heap.size (u64s (stA l ms k)) _ HR5.out ((Reads.of_own HREL.out.words).below HB5.out) H2.out (by omega)).mono ?_
               rintro e w6 ⟨rfl, q6, rfl⟩))
          go_ret
          exact ⟨rfl, below_drewN (HREL.out.bel.trans (HB5.out.mono hsz)) _⟩
    · have hn' : (300 : Int) < (n : Int) := by omega
      have HO := Lib.hid (of_f A n c w (by omega))
      have HG := Lib.hid hg
      clear hr hr2 hl hl2 hU hTc ht hg
      go_enter Tryd.func13, Tryd.ntmps13
      go_wp2_with (first
        | (go_at_call 67; refine HO.out.mono ?_; rintro e w1 ⟨rfl, rfl⟩)
        | (go_at_call 14; refine (bare_e 4 _ HG.out).mono ?_; rintro e w2 ⟨rfl, hb2⟩))
      go_ret
      exact ⟨rfl, hb2⟩
  · have hN' : 400 < n ∨ 100 < m := by omega
    clear hr hr2 hl hl2 hU hTc ht hN
    by_cases h : 400 < n
    · have h' : (400 : Int) < (n : Int) := by omega
      go_enter Tryd.func13, Tryd.ntmps13
      go_wp2
      go_ret
      exact ⟨rfl, Below.refl _ _⟩
    · have h' : (100 : Int) < (m : Int) := by omega
      go_enter Tryd.func13, Tryd.ntmps13
      go_wp2
      go_ret
      exact ⟨rfl, Below.refl _ _⟩
end Go.Proofs.YtepoahinnfjaiaaDoor
