/- LinPoints, the reference's half: Points (function 5). Conditions: calls, acts and events lie below this call's memory. -/
import Derived.Test.YthnbbgmajdjgeaaDoorLpV
import Derived.Great.Walk
namespace Go.Proofs.YthnbbgmajdjgeaaDoor
open Go.RowKit Go.Extern.Stop Go.Stop Go.Extern

set_option maxRecDepth 100000 in
set_option maxHeartbeats 32000000 in
theorem rpoints_f (Ap : Option Addr) (nc cc : Nat) (cs : List (List Cl)) (Aa : Option Addr) (na ca : Nat) (acts : List Ac) (Ae : Option Addr) (ne ce : Nat) (evs : List Ev) (B : Nat) (w : World)
    (hcs : CallsIn w B Ap nc cs) (ha : acts.length = na) (hra : Reads w B 6 Aa na (flatA acts)) (he : evs.length = ne) (hre : Reads w B 4 Ae ne (flatE evs)) (hB : B ≤ w.heap.size) (hnc : nc ≤ 20) (hna : na ≤ 300) (hne : ne ≤ 100) (hsum : sumL cs ≤ 200) (hwf : ∀ e ∈ evs, wfI e.wh) :
    Calls Tryd.prog 5 #[.slice Ap nc cc, .slice Aa na ca, .slice Ae ne ce] w (RPEnd (ptsR cs acts evs) w) := by
  by_cases h16 : nc ≤ 16
  case neg =>
    have hR : ptsR cs acts evs = ⟨4, -1, []⟩ := ptsR_limit (by rw [hcs.1]; omega)
    have HR := Lib.hid hR
    have h16' : (16 : Int) < (nc : Int) := by omega
    clear hcs hra hre hR hwf
    go_enter Tryd.func5, Tryd.ntmps5
    go_wp2_with (go_at_call 12; refine (bare_f _ _).mono ?_; rintro e w1 ⟨rfl, rfl⟩)
    exact post5 ((Blk.new w 29 #[.int .i64 4, .int .i64 (-1)]).alloc _) rfl rfl (rfail HR.out (((Below.refl _ _).alloc (Nat.le_refl _) _).alloc (by simp) _))
  case pos =>
    have HC := Lib.hid hcs
    have HRA := Lib.hid hra
    have HRE := Lib.hid hre
    have HEL := Lib.hid he
    have HAL := Lib.hid ha
    have HSUM := Lib.hid hsum
    have HWF := Lib.hid hwf
    have HST := Lib.hid (REvRel.start w cs evs)
    have HN16 := Lib.hid (show ¬ 16 < cs.length by rw [hcs.1]; omega)
    have mixed : Tryd.prog.follows .mixedOrders = true := by kernel_rfl
    have hmm := @run_makeMap Tryd.prog
    clear hcs hra hre he ha hsum hwf
    go_enter Tryd.func5, Tryd.ntmps5
    go_wp2
    go_loopg [31] ne (fun g vi wr => ∃ (i : Nat) (E : Nat → List Int), vi = .int .i64 i ∧ i + g = ne ∧ Hid (REvRel w cs evs i E wr))
    case atStart => exact ⟨0, _, rfl, by omega, HST⟩
    case round =>
      clear HST
      obtain ⟨i, E, rfl, hi, HR⟩ := hrel
      have hsz := HR.out.2.2.2.2.2.2.size
      have hl2 := HR.out.2.2.1.lt
      cases gk with
      | succ gk =>
        have hlt : i < ne := by omega
        have HBL := fun (o : Obj) => HR.out.2.2.2.2.2.2.alloc HR.out.2.2.2.2.2.2.size o
        obtain ⟨ad, rfl, hadB, c0, c1, c2, c3⟩ := (HRE.out.below (HR.out.2.2.2.2.2.2.mono hB)).ev HEL.out hlt
        have hil : i < evs.length := by rw [HEL.out]; exact hlt
        obtain ⟨e, hev⟩ : ∃ e, evs[i]'hil = e := ⟨_, rfl⟩
        have HE := Lib.hid (show evs[i]? = some e by rw [List.getElem?_eq_getElem hil, hev])
        have HWH := Lib.hid (show wfI e.wh by rw [← hev]; exact HWF.out _ (List.getElem_mem hil))
        rw [hev] at c0 c1 c2 c3
        clear hev
        obtain ⟨wh, wt, th, va⟩ := e
        simp only at c0 c1 c2 c3
        have HBB := Lib.hid (((HR.out.1.alloc (.cells #[.int .i64 wh, .int .i64 wt, .int .i64 th, .int .i64 va] 47))))
        have wnc : IntKind.i64.wrap ((nc : Int) - 1) = (nc : Int) - 1 := IntWalk.i64_in _ (by omega)
        have bad : Hid (¬ evOk cs E ⟨wh, wt, th, va⟩ → ∀ (W : World), (∃ q, W = (wr.alloc (.cells #[.int .i64 wh, .int .i64 wt, .int .i64 th, .int .i64 va] 47)).drewN q) → Blk ((W.setCell ⟨w.heap.size, 0, none⟩ (.int .i64 13)).setCell ⟨w.heap.size, 1, none⟩ (.int .i64 i)) w.heap.size 29 #[.int .i64 13, .int .i64 i] ∧
            (W.cell? ⟨w.heap.size, 0, none⟩ = some (.int .i64 0) ∧ W.cell? ⟨w.heap.size, 1, none⟩ = some (.int .i64 0) ∧ W.frozen? ⟨w.heap.size, 0, none⟩ = false ∧ W.frozen? ⟨w.heap.size, 1, none⟩ = false) ∧
            RPEnd (ptsR cs acts evs) w (.returned (.tuple #[.slice none 0 0, .agg #[.int .i64 13, .int .i64 i]])) ((W.setCell ⟨w.heap.size, 0, none⟩ (.int .i64 13)).setCell ⟨w.heap.size, 1, none⟩ (.int .i64 i))) := Lib.hid (by
          rintro hno W ⟨q, rfl⟩
          have hB := HBB.out.drewN q
          exact ⟨((hB.set_ 0 (.int .i64 13)).set_ 1 (.int .i64 i)), ⟨hB.cell 0, hB.cell 1, hB.frozen 0, hB.frozen 1⟩, rfail (HR.out.bad HN16.out HE.out hno) (((below_drn (HBL _) q).setCell (by simp) _).setCell (by simp) _)⟩)
        by_cases h1 : wt = 3
        · subst h1
          by_cases h2 : 0 ≤ th ∧ th ≤ (nc : Int) - 1
          · obtain ⟨T, rfl⟩ := Int.eq_ofNat_of_zero_le h2.1
            have hT : T < nc := by omega
            have hTl : T < cs.length := by rw [HC.out.1]; exact hT
            obtain ⟨ac, Ai, ci, rfl, hacB, hci, _⟩ := (HC.out.below ((HBL (.cells #[.int .i64 wh, .int .i64 3, .int .i64 (T : Int), .int .i64 va] 47)).mono hB)).2 T hTl
            obtain ⟨li, hli⟩ : ∃ li, cs[T]'hTl = li := ⟨_, rfl⟩
            have HLI := Lib.hid (show cs[T]? = some li by rw [List.getElem?_eq_getElem hTl, hli])
            rw [hli] at hci
            clear hli
            obtain ⟨M, hM⟩ : ∃ M, li.length = M := ⟨_, rfl⟩
            have HM := Lib.hid hM
            rw [hM] at hci
            have hle := HR.out.2.2.2.2.1 T li HLI.out
            have hEi := HR.out.2.2.2.2.2.1 T
            obtain ⟨L, hL⟩ : ∃ L, (E T).length = L := ⟨_, rfl⟩
            have HL := Lib.hid hL
            rw [hM, hL] at hle
            rw [hL] at hEi
            have hwT : wfI (T : Int) := wfI_in (by omega) (by omega)
            have lk : ∀ q, (Instr.lookup 50 (.map (some (w.heap.size + 1))) (.int .i64 (T : Int)) false).run Tryd.prog ((wr.alloc (.cells #[.int .i64 wh, .int .i64 3, .int .i64 (T : Int), .int .i64 va] 47)).drewN q) = .ok (.int .i64 (L : Int)) ((wr.alloc (.cells #[.int .i64 wh, .int .i64 3, .int .i64 (T : Int), .int .i64 va] 47)).drewN q) := fun q => by
              have := ((HR.out.2.1.alloc (.cells #[.int .i64 wh, .int .i64 3, .int .i64 (T : Int), .int .i64 va] 47)).drewN q).look (T := 50) Tryd.underlying50 Tryd.underlying3 (Tryd.zeroValue3 _) T hwT
              rwa [aS_at, hL] at this
            clear hM hL
            by_cases h4 : L = M
            · subst h4
              have hb := fun W => bad.out (fun h => by
                have := h.2.2.2
                simp only [Int.toNat_natCast, HLI.out, Option.getD_some, HM.out, HL.out] at this
                omega) W
              have HBD := Lib.hid hb
              clear bad hb
              go_wp2
              go_quiet ((first | (go_at_call 13; exact Calls.quiet_of_same (within_tq _ _ _ _ (by omega) (by omega))) | (go_at_call 13; exact quiet_add_same (within_tq _ _ _ _ (by omega) (by omega)))))
              obtain ⟨hBw, ⟨d0, d1, f0, f1⟩, hRw⟩ := HBD.out _ ⟨nq, rfl⟩
              have HBW := Lib.hid hBw
              have HRW := Lib.hid hRw
              clear hBw hRw lk
              go_wp2
              exact post5 HBW.out rfl rfl HRW.out
            · have d4 : decide (M ≤ L) = false := decide_eq_false (by omega)
              have d5 : decide ((M : Int) ≤ (L : Int)) = false := decide_eq_false (by omega)
              have HMA := Lib.hid (HR.out.2.1.alloc (.cells #[.int .i64 wh, .int .i64 3, .int .i64 (T : Int), .int .i64 va] 47))
              have HMQ := Lib.hid (HR.out.2.2.1.alloc (.cells #[.int .i64 wh, .int .i64 3, .int .i64 (T : Int), .int .i64 va] 47))
              have HEV := Lib.hid (Blk.new wr 47 #[.int .i64 wh, .int .i64 3, .int .i64 (T : Int), .int .i64 va])
              have HBW := Lib.hid (HBL (.cells #[.int .i64 wh, .int .i64 3, .int .i64 (T : Int), .int .i64 va] 47))
              clear bad HBL
              go_wp2
              go_quiet ((first | (go_at_call 13; exact Calls.quiet_of_same (within_tq _ _ _ _ (by omega) (by omega))) | (go_at_call 13; exact quiet_add_same (within_tq _ _ _ _ (by omega) (by omega)))))
              have HA1 := Lib.hid (HMA.out.drewN nq)
              have HQ1 := Lib.hid (HMQ.out.drewN nq)
              have HE1 := Lib.hid (HEV.out.drewN nq)
              have HB1 := Lib.hid (HBB.out.drewN nq)
              have HW1 := Lib.hid (below_drn HBW.out nq)
              have lk1 := lk nq
              clear lk HMA HMQ HEV HBB HBW c0 c1 c2 c3 hci hacB
              generalize (wr.alloc (.cells #[.int .i64 wh, .int .i64 3, .int .i64 (T : Int), .int .i64 va] 47)).drewN nq = wq at HA1 HQ1 HE1 HB1 HW1 lk1 ⊢
              have b0 := HE1.out.cell 0
              have b2 := HE1.out.cell 2
              have hwL : wfI (L : Int) := wfI_in (by omega) (by omega)
              obtain ⟨w2, hrun2, hQ2, hg2⟩ := HQ1.out.store (T := 51) Tryd.underlying51 (by unfold maxLen; omega) (T : Int) (L : Int) wh hwT hwL HWH.out
              have hA2 := HA1.out.kept hg2 (by simp)
              have hE2 := HE1.out.grown hg2 (by simp; omega)
              have hB2 := HB1.out.grown hg2 (by simp; omega)
              have hW2 := HW1.out.grown hg2 HW1.out.size (fun g hg => by injection hg with hg; omega)
              have b02 := hE2.cell 0
              have b22 := hE2.cell 2
              have lk2 := hA2.look (T := 50) Tryd.underlying50 Tryd.underlying3 (Tryd.zeroValue3 _) T hwT
              rw [aS_at, HL.out] at lk2
              obtain ⟨w3, hrun3, hA3, hg3⟩ := hA2.store (T := 50) Tryd.underlying50 Tryd.underlying3 (by unfold maxLen; omega) (T : Int) ((L : Int) + 1) hwT (wfI_in (by omega) (by omega))
              have hQ3 := hQ2.kept hg3 (by simp)
              have hB3 := hB2.grown hg3 (by simp)
              have hW3 := hW2.grown hg3 hW2.size (fun g hg => by injection hg with hg; omega)
              have HN := Lib.hid (HR.out.next HE.out rfl rfl HLI.out (by rw [HL.out, HM.out]; omega) hB3 (hA3.congr (fun x _ => by rw [← aS_upd E T wh x, HL.out])) (hQ3.congr (fun a b => by rw [← qS_upd E T wh a b, HL.out])) hW3)
              simp only [List.getElem?_toArray, List.getElem?_cons_zero, List.getElem?_cons_succ] at b0 b2 b02 b22
              clear HR hA2 hE2 hB2 hW2 hA3 hQ2 hQ3 hB3 hW3 HA1 HQ1 HE1 HB1 HW1 hg2 hg3
              go_wp2
              go_roundg gk
              case measure => omega
              case rel => exact ⟨i + 1, updE E T wh, by go_num, by omega, HN⟩
          · have hno : th < 0 ∨ (nc : Int) - 1 < th := by omega
            have hb := fun W => bad.out (fun h => by have h3 := h.2.1; have h4 := h.2.2.1; simp only [HC.out.1] at h3 h4; omega) W
            have HBD := Lib.hid hb
            clear bad hb HBL
            go_wp2
            go_quiet ((first | (go_at_call 13; exact Calls.quiet_of_same (within_fq _ _ _ _ (by omega))) | (go_at_call 13; exact quiet_add_same (within_fq _ _ _ _ (by omega)))))
            obtain ⟨hBw, ⟨d0, d1, f0, f1⟩, hRw⟩ := HBD.out _ ⟨nq, rfl⟩
            have HBW := Lib.hid hBw
            have HRW := Lib.hid hRw
            clear hBw hRw
            go_wp2
            exact post5 HBW.out rfl rfl HRW.out
        · have hb := fun W => bad.out (fun h => h1 h.1) W
          have d1 : (wt != 3) = true := by simpa using h1
          have HBD := Lib.hid hb
          clear bad hb HBL
          go_wp2
          go_quiet (fail)
          obtain ⟨hBw, ⟨d0, d2, f0, f1⟩, hRw⟩ := HBD.out _ ⟨nq, rfl⟩
          have HBW := Lib.hid hBw
          have HRW := Lib.hid hRw
          clear hBw hRw
          go_wp2
          exact post5 HBW.out rfl rfl HRW.out
      | zero =>
        obtain rfl : i = ne := by omega
        have HPR : Hid (ptsR cs acts evs = ⟨0, -1, sortP (ptT cs acts E cs.length 0 [])⟩) := Lib.hid (ptsR_ok HN16.out (by
          rw [← HR.out.2.2.2.1, List.drop_eq_nil_of_le (by rw [HEL.out]; exact Nat.le_refl _)]
          rfl))
        have HLC := Lib.hid HC.out.1
        have HEi := Lib.hid HR.out.2.2.2.2.2.1
        obtain ⟨O, hO⟩ : ∃ O, wr.heap.size = O := ⟨_, rfl⟩
        have HFX : Hid (FixRel w E i O (wr.alloc (.cells #[.slice none 0 0] 26))) := Lib.hid ⟨HR.out.1.alloc _, HR.out.2.1.alloc _, HR.out.2.2.1.alloc _, by omega, by simp; omega, HR.out.2.2.2.2.2.2.alloc hsz _⟩
        have HOC : Hid (OutC (wr.alloc (.cells #[.slice none 0 0] 26)) O (.slice none 0 0) []) := Lib.hid ⟨hO ▸ Blk.new wr 26 _, World.ownsRow_nil _ _ _ _⟩
        obtain ⟨i9, hi9, hz9, hzs9, hb9⟩ := info_parts Tryd.info39p
        clear HR hmm hl2 hsz
        go_wp2
        go_loopg [81] nc (fun g v81 wr => ∃ (t : Nat) (out : List Pt) (vo : Value), v81 = .int .i64 t ∧ t + g = nc ∧ Hid (FixRel w E i O wr) ∧ Hid (OutC wr O vo out) ∧ out.length ≤ 2 * sumL (cs.take t) ∧ Hid (ptT cs acts E g t out = ptT cs acts E cs.length 0 []))
        case atStart => exact ⟨0, [], _, rfl, by omega, HFX, HOC, Nat.zero_le _, Lib.hid (by rw [HLC.out])⟩
        case round =>
          clear HFX HOC
          obtain ⟨t, out, vo, rfl, ht, HF, HO, hol, HT⟩ := hrel
          obtain ⟨hf1, hf2, hf3, hf4, hf5, hf6⟩ := HF.out
          have HB := Lib.hid hf6
          clear hf1 hf2 hf3 hf6
          cases gk with
          | succ gt =>
            have htn : t < nc := by omega
            have hTl : t < cs.length := by rw [HLC.out]; exact htn
            obtain ⟨ac, Ai, ci, rfl, hacB, hci, hri⟩ := HC.out.2 t hTl
            obtain ⟨li, hli⟩ : ∃ li, cs[t]'hTl = li := ⟨_, rfl⟩
            have HLI := Lib.hid (show cs[t]? = some li by rw [List.getElem?_eq_getElem hTl, hli])
            rw [hli] at hci hri
            clear hli
            obtain ⟨M, hM⟩ : ∃ M, li.length = M := ⟨_, rfl⟩
            rw [hM] at hci hri
            have HM := Lib.hid hM
            have HTS := Lib.hid (show ptT cs acts E gt (t + 1) (ptK t acts li (E t) M 0 0 out) = ptT cs acts E cs.length 0 [] by rw [← HT.out, ptT_step HLI.out, hM])
            have HSU := Lib.hid (show sumL (cs.take (t + 1)) = sumL (cs.take t) + M by rw [sumL_take_succ HLI.out, hM])
            have HSL := Lib.hid (show sumL (cs.take (t + 1)) ≤ 200 by have := sumL_take_le cs (t + 1); have := HSUM.out; omega)
            have HRI := Lib.hid (show ∀ w', Below w.heap.size w w' → Reads w' B 2 Ai M (flatC li) from fun w' hb => hri.below (hb.mono hB))
            have hci := (HB.out.cell (p := ac.add t) (by rw [block_of_add]; omega)).trans hci
            obtain ⟨L, hL⟩ : ∃ L, (E t).length = L := ⟨_, rfl⟩
            have HL := Lib.hid hL
            have hLi : L ≤ i := by have := HEi.out t; omega
            have hwt : wfI (t : Int) := wfI_in (by omega) (by omega)
            have LK := Lib.hid (show ∀ w', FixRel w E i O w' → (Instr.lookup 50 (.map (some (w.heap.size + 1))) (.int .i64 (t : Int)) false).run Tryd.prog w' = .ok (.int .i64 (L : Int)) w' from fun w' hf => by
              have := hf.2.1.look (T := 50) Tryd.underlying50 Tryd.underlying3 (Tryd.zeroValue3 _) t hwt
              rwa [aS_at, hL] at this)
            clear hM HT hri hL
            go_wp2
            go_loopg [15] (M + 1) (fun g2 v15 wq => ∃ (k : Nat) (out2 : List Pt) (vq : Value), v15 = .int .i64 k ∧ k + g2 = M + 1 ∧ k ≤ M ∧ Hid (FixRel w E i O wq) ∧ Hid (OutC wq O vq out2) ∧ out2.length ≤ 2 * sumL (cs.take t) + 2 * k ∧
              Hid ((if k ≤ L then ptK t acts li (E t) (M - k) k (if k = 0 then 0 else ((E t)[k - 1]?).getD 0) out2 else out2) = ptK t acts li (E t) M 0 0 out))
            case atStart => exact ⟨0, out, vo, rfl, by omega, Nat.zero_le _, HF, HO, by omega, Lib.hid (by rw [if_pos (Nat.zero_le _)]; rfl)⟩
            case round =>
              obtain ⟨k, out2, vq, rfl, hk, hkM, HF2, HO2, ho2, HK⟩ := hrel
              have lk := LK.out _ HF2.out
              by_cases hgo : k < M ∧ k ≤ L
              · obtain ⟨hkl, hkL⟩ := hgo
                obtain ⟨fr, hfr⟩ : ∃ fr, (if k = 0 then (0 : Int) else ((E t)[k - 1]?).getD 0) = fr := ⟨_, rfl⟩
                obtain ⟨tt, htt⟩ : ∃ tt, ((E t)[k]?).getD 0 = tt := ⟨_, rfl⟩
                obtain ⟨done, hdn⟩ : ∃ done, ((E t)[k]?).isSome = done := ⟨_, rfl⟩
                have hq1 := HF2.out.2.2.1.lookOk (T := 51) Tryd.underlying51 (Tryd.zeroValue3 _) (t : Int) (k : Int) hwt (wfI_in (by omega) (by omega))
                rw [qS_at, htt, hdn] at hq1
                have HKK := Lib.hid HK.out
                rw [if_pos hkL, hfr] at HKK
                have HTT := Lib.hid htt
                have HDN := Lib.hid hdn
                have HFR := Lib.hid hfr
                go_upto_if 100 with fail
                go_cut [16] (fun v16 wc => v16 = .int .i64 fr ∧ wc = wr)
                case first =>
                  by_cases hk0 : k = 0
                  · subst hk0
                    obtain rfl : fr = 0 := by rw [← hfr]; rfl
                    clear hfr htt hdn
                    go_wp2_with fail
                    go_meet
                    exact ⟨rfl, rfl⟩
                  · have hkp : 0 < k := by omega
                    have hq2 := HF2.out.2.2.1.look (T := 51) Tryd.underlying51 (Tryd.zeroValue3 _) (t : Int) ((k - 1 : Nat) : Int) hwt (wfI_in (by omega) (by omega))
                    rw [qS_at] at hq2
                    rw [if_neg hk0] at hfr
                    rw [hfr, show ((k - 1 : Nat) : Int) = (k : Int) - 1 by omega] at hq2
                    clear hfr htt hdn
                    go_wp2_with fail
                    go_meet
                    exact ⟨rfl, rfl⟩
                case rest =>
                  obtain ⟨rfl, rfl⟩ := hcut
                  clear hfr htt hdn lk
                  have HM0 := Lib.hid (MineR.start wc O t fr tt done acts)
                  obtain ⟨i57, hi57, hz57, hzs57, hb57⟩ := info_parts Tryd.info57p
                  go_wp2
                  clear hq1
                  go_loopg [117, 19, 20] na (fun g v117 v19 v20 wq => ∃ (j : Nat) (ml cl : List Ac), v117 = .int .i64 j ∧ j + g = na ∧ Hid (FixRel w E i O wq) ∧ Hid (OutC wq O vq out2) ∧ Hid (MineR wq O t fr tt done acts j v19 v20 ml cl))
                  case atStart => exact ⟨0, [], [], rfl, by omega, HF2, HO2, HM0⟩
                  case round =>
                    clear HF2 HO2 HM0
                    obtain ⟨j, ml, cl, rfl, hj, HF3, HO3, HMR⟩ := hrel
                    obtain ⟨q1, q2, q3, q4, q5, q6⟩ := HF3.out
                    have HB3 := Lib.hid q6
                    have hs3 := q6.size
                    clear q1 q2 q3 q6
                    cases gk with
                    | succ g3 =>
                      as_aux_lemma =>
                        have hlt : j < na := by omega
                        obtain ⟨ad, rfl, _, c0, c1, c2, c3, c4, c5⟩ := (HRA.out.below (HB3.out.mono hB)).ac HAL.out hlt
                        have hil : j < acts.length := by rw [HAL.out]; exact hlt
                        obtain ⟨a, ha⟩ : ∃ a, acts[j]'hil = a := ⟨_, rfl⟩
                        have HA := Lib.hid (show acts[j]? = some a by rw [List.getElem?_eq_getElem hil, ha])
                        rw [ha] at c0 c1 c2 c3 c4 c5
                        clear ha
                        obtain ⟨wh, th, op, ce, old, now⟩ := a
                        simp only at c0 c1 c2 c3 c4 c5
                        have HFX := Lib.hid (fun o => HF3.out.below ((Below.refl _ _).alloc (by omega) o))
                        have HOX := Lib.hid (fun o => HO3.out.below ((Below.refl _ _).alloc (Nat.le_refl _) o))
                        by_cases h1 : th = t
                        · by_cases h2 : ce = 0
                          · by_cases h3 : fr < wh
                            · by_cases h4 : done = true ∧ tt ≤ wh
                              · obtain ⟨rfl, h4⟩ := h4
                                have HN := Lib.hid (fun w' hb => HMR.out.skip (w' := w') HA.out (mine_f4 (by simpa using h4)) hb)
                                clear HMR
                                go_wp2
                                go_roundg g3
                                case measure => omega
                                case rel => exact ⟨j + 1, ml, cl, by go_num, by omega, Lib.hid (HFX.out _), Lib.hid (HOX.out _), Lib.hid (HN.out _ ((Below.refl _ _).alloc (Nat.le_refl _) _))⟩
                              · have h4' : done = false ∨ (done = true ∧ ¬ tt ≤ wh) := by
                                  cases done
                                  · exact .inl rfl
                                  · exact .inr ⟨rfl, fun h => h4 ⟨rfl, h⟩⟩
                                have HM2 : Hid (isMine t fr tt done ⟨wh, th, op, ce, old, now⟩ = true) := Lib.hid (mine_t h1 h2 h3 (by
                                  rcases h4' with h | ⟨_, h⟩
                                  · exact .inl h
                                  · exact .inr (by show wh < tt; omega)))
                                subst h1
                                subst h2
                                clear h4
                                obtain ⟨A1, c1', rfl⟩ := own_formP HMR.out.1.1
                                obtain ⟨A2, c2', rfl⟩ := own_formP HMR.out.1.2.1
                                have hm1 := HMR.out.2.2.1
                                have hm2 := HMR.out.2.2.2
                                have HBX := Lib.hid (Blk.new wr 57 #[.int .i64 wh, .int .i64 t, .int .i64 op, .int .i64 0, .int .u64 old, .int .u64 now])
                                have hsz1 : (wr.alloc (.cells #[.int .i64 wh, .int .i64 t, .int .i64 op, .int .i64 0, .int .u64 old, .int .u64 now] 57)).heap.size = wr.heap.size + 1 := by simp
                                go_upto_region 28 with fail
                                go_cut [145] (fun v145 wc => v145 = .bool true ∧ wc = wr.alloc (.cells #[.int .i64 wh, .int .i64 t, .int .i64 op, .int .i64 0, .int .u64 old, .int .u64 now] 57))
                                case first =>
                                  rcases h4' with rfl | ⟨rfl, h4⟩
                                  all_goals
                                    go_wp2_with fail
                                    go_meet
                                    exact ⟨rfl, rfl⟩
                                case rest =>
                                obtain ⟨rfl, rfl⟩ := hcut
                                clear h4' c0 c1 c2 c3 c4 c5
                                go_upto_region 29 with fail
                                go_cut [19] (fun v19 wd => ∃ A c, v19 = .slice A (ml.length + 1) c ∧ Hid (Half wd O (.slice A (ml.length + 1) c) (.slice A2 cl.length c2') (ml ++ [⟨wh, t, op, 0, old, now⟩]) cl) ∧ Hid (Blk wd wr.heap.size 57 #[.int .i64 wh, .int .i64 t, .int .i64 op, .int .i64 0, .int .u64 old, .int .u64 now]) ∧ Hid (FixRel w E i O wd) ∧ Hid (OutC wd O vq out2) ∧ wr.heap.size < wd.heap.size)
                                case first =>
                                  have hX := Lib.hid (((Below.refl wr.heap.size wr).alloc (Nat.le_refl _) (.cells #[.int .i64 wh, .int .i64 t, .int .i64 op, .int .i64 0, .int .u64 old, .int .u64 now] 57)).alloc (by simp) (.cells #[.int .i64 wh, .int .i64 t, .int .i64 op, .int .i64 0, .int .u64 old, .int .u64 now] 57))
                                  have HH := Lib.hid (HMR.out.1.below hX.out)
                                  have HFY := Lib.hid (HF3.out.below (hX.out.mono (by omega)))
                                  have HOY := Lib.hid (HO3.out.below hX.out)
                                  have HLT := Lib.hid (fun g e => (HMR.out.1.1.lt g e).2)
                                  refine wp_region_lit ?_
                                  refine Go.Great.wpList_readTo rfl (some 146) rfl (.slice A1 ml.length c1') rfl ?_
                                  refine wpList_load_row rfl 57 (.tmp 22) rfl wr.heap.size rfl 57 #[.int .i64 wh, .int .i64 t, .int .i64 op, .int .i64 0, .int .u64 old, .int .u64 now] (0, 0) _ HBX.out Tryd.underlying57 rfl (by kernel_rfl) ?_
                                  refine wpList_build57 rfl (.tmp 147) rfl _ _ _ _ _ _ rfl ?_
                                  refine wpList_append_any _ rfl (.tmp 146) (.tmp 148) _ rfl (O + 1) 57 i57 _ 6 48 Tryd.underlying23 hi57 hz57 hzs57 hb57 rfl (by omega) (.slice A1 ml.length c1') ml.length (flatA ml) rfl HH.out.1 (wr.heap.size + 1 + 1) _ 1 1 (acc ⟨wh, t, op, 0, old, now⟩) rfl ⟨rfl, fun _ => ⟨_, rfl, by simp, World.news_of_block (heap_alloc_new _ _)⟩⟩ (acc_one _) (by unfold maxLen; omega) (by omega) (by simp; omega) ?_
                                  intro v' w' hown hg hat
                                  obtain ⟨A, c, rfl⟩ := own_formP hown
                                  have HP1 := Lib.hid (HH.out.push hown hg hat)
                                  have HP2 := Lib.hid ((HBX.out.alloc (.cells #[.int .i64 wh, .int .i64 t, .int .i64 op, .int .i64 0, .int .u64 old, .int .u64 now] 57)).grown hg (fun e => by have := HLT.out _ e.symm; omega))
                                  have HP3 := Lib.hid (HFY.out.below (below_row HH.out.1 HFY.out.2.2.2.2.1 hg))
                                  have HP4 := Lib.hid (HOY.out.grown HH.out.1 hg)
                                  have HP5 := Lib.hid HP2.out.lt
                                  clear hown hg hat
                                  go_wp2_with fail
                                  go_meet
                                  exact ⟨A, c, rfl, HP1, HP2, HP3, HP4, HP5.out⟩
                                case rest =>
                                obtain ⟨A, c, rfl, HP1, HP2, HP3, HP4, hP5⟩ := hcut
                                by_cases h5 : op = 9
                                · by_cases h6 : old = now
                                  · have HN := Lib.hid (HMR.out.one HA.out HM2.out (chg_f2 h6) HP1.out)
                                    have b2 := HP2.out.cell 2
                                    have b4 := HP2.out.cell 4
                                    have b5 := HP2.out.cell 5
                                    simp only [List.getElem?_toArray, List.getElem?_cons_zero, List.getElem?_cons_succ] at b2 b4 b5
                                    clear HMR HP1 HP2
                                    go_wp2
                                    go_roundg g3
                                    case measure => omega
                                    case rel => exact ⟨j + 1, _, cl, by go_num, by omega, HP3, HP4, HN⟩
                                  · have b2 := HP2.out.cell 2
                                    have b4 := HP2.out.cell 4
                                    have b5 := HP2.out.cell 5
                                    simp only [List.getElem?_toArray, List.getElem?_cons_zero, List.getElem?_cons_succ] at b2 b4 b5
                                    go_upto_region 31 with fail
                                    have hX := Lib.hid ((Below.refl wc.heap.size wc).alloc (Nat.le_refl _) (.cells #[.int .i64 wh, .int .i64 t, .int .i64 op, .int .i64 0, .int .u64 old, .int .u64 now] 57))
                                    have HH := Lib.hid ((HP1.out.below hX.out).symm)
                                    have HFY := Lib.hid (HP3.out.below (hX.out.mono (by have := HP3.out.2.2.2.2.1; omega)))
                                    have HOY := Lib.hid (HP4.out.below hX.out)
                                    have HO1 := Lib.hid (show O + 1 ≤ (wc.alloc (.cells #[.int .i64 wh, .int .i64 t, .int .i64 op, .int .i64 0, .int .u64 old, .int .u64 now] 57)).heap.size from HFY.out.2.2.2.2.1)
                                    refine wp_region_lit ?_
                                    refine Go.Great.wpList_readTo rfl (some 160) rfl (.slice A2 cl.length c2') rfl ?_
                                    refine wpList_load_row rfl 57 (.tmp 22) rfl wr.heap.size rfl 57 #[.int .i64 wh, .int .i64 t, .int .i64 op, .int .i64 0, .int .u64 old, .int .u64 now] (0, 0) _ HP2.out Tryd.underlying57 rfl (by kernel_rfl) ?_
                                    refine wpList_build57 rfl (.tmp 161) rfl _ _ _ _ _ _ rfl ?_
                                    refine wpList_append_any _ rfl (.tmp 160) (.tmp 162) _ rfl (O + 1) 57 i57 _ 6 48 Tryd.underlying23 hi57 hz57 hzs57 hb57 rfl (by omega) (.slice A2 cl.length c2') cl.length (flatA cl) rfl HH.out.1 (wc.heap.size + 1) _ 1 1 (acc ⟨wh, t, op, 0, old, now⟩) rfl ⟨rfl, fun _ => ⟨_, rfl, by simp, World.news_of_block (heap_alloc_new _ _)⟩⟩ (acc_one _) (by unfold maxLen; omega) (by omega) HO1.out ?_
                                    intro v' w' hown hg hat
                                    have HN := Lib.hid (HMR.out.two HA.out HM2.out (chg_t h5 h6) (HH.out.push hown hg hat).symm)
                                    have HQ3 := Lib.hid (HFY.out.below (below_row HH.out.1 HFY.out.2.2.2.2.1 hg))
                                    have HQ4 := Lib.hid (HOY.out.grown HH.out.1 hg)
                                    clear hown hg hat HMR HH HP1 HP2 HP3 HP4
                                    go_wp2
                                    go_roundg g3
                                    case measure => omega
                                    case rel => exact ⟨j + 1, _, _, by go_num, by omega, HQ3, HQ4, HN⟩
                                · have HN := Lib.hid (HMR.out.one HA.out HM2.out (chg_f1 h5) HP1.out)
                                  have b2 := HP2.out.cell 2
                                  have b4 := HP2.out.cell 4
                                  have b5 := HP2.out.cell 5
                                  simp only [List.getElem?_toArray, List.getElem?_cons_zero, List.getElem?_cons_succ] at b2 b4 b5
                                  clear HMR HP1 HP2
                                  go_wp2
                                  go_roundg g3
                                  case measure => omega
                                  case rel => exact ⟨j + 1, _, cl, by go_num, by omega, HP3, HP4, HN⟩
                            · have HN := Lib.hid (fun w' hb => HMR.out.skip (w' := w') HA.out (mine_f3 h3) hb)
                              clear HMR
                              go_wp2
                              go_roundg g3
                              case measure => omega
                              case rel => exact ⟨j + 1, ml, cl, by go_num, by omega, Lib.hid (HFX.out _), Lib.hid (HOX.out _), Lib.hid (HN.out _ ((Below.refl _ _).alloc (Nat.le_refl _) _))⟩
                          · have HN := Lib.hid (fun w' hb => HMR.out.skip (w' := w') HA.out (mine_f2 h2) hb)
                            clear HMR
                            go_wp2
                            go_roundg g3
                            case measure => omega
                            case rel => exact ⟨j + 1, ml, cl, by go_num, by omega, Lib.hid (HFX.out _), Lib.hid (HOX.out _), Lib.hid (HN.out _ ((Below.refl _ _).alloc (Nat.le_refl _) _))⟩
                        · have HN := Lib.hid (fun w' hb => HMR.out.skip (w' := w') HA.out (mine_f1 h1) hb)
                          clear HMR
                          go_wp2
                          go_roundg g3
                          case measure => omega
                          case rel => exact ⟨j + 1, ml, cl, by go_num, by omega, Lib.hid (HFX.out _), Lib.hid (HOX.out _), Lib.hid (HN.out _ ((Below.refl _ _).alloc (Nat.le_refl _) _))⟩
                    | zero =>
                      obtain rfl : j = na := by omega
                      have hEQ : effS t fr tt done acts (none, none) = (cl.getLast?.map Ac.wh, ml.getLast?.map Ac.wh) := by
                        rw [← HMR.out.2.1, List.drop_eq_nil_of_le (by rw [HAL.out]; exact Nat.le_refl _)]
                        rfl
                      have hkli : k < li.length := by rw [HM.out]; exact hkl
                      obtain ⟨ck, hck⟩ : ∃ ck, li[k]'hkli = ck := ⟨_, rfl⟩
                      have HCK := Lib.hid (show li[k]? = some ck by rw [List.getElem?_eq_getElem hkli, hck])
                      obtain ⟨ps, hps⟩ : ∃ ps, eff t k ck.what acts fr tt done = ps := ⟨_, rfl⟩
                      have HPS := Lib.hid hps
                      have HPE : Hid (effP t k ck.what done (cl.getLast?.map Ac.wh, ml.getLast?.map Ac.wh) = ps) := Lib.hid (by rw [← hps, eff, hEQ])
                      have hpl : ps.length ≤ 2 := by rw [← hps]; exact eff_len _ _ _ _ _ _ _
                      have hNE := Lib.hid (mine_of_chg hEQ)
                      have HCK2 := Lib.hid hck
                      clear hEQ hps hck
                      go_upto_region 33 with fail
                      go_cut [167] (fun v167 wc => v167 = .bool (decide (0 < cl.length)) ∧ wr = wc)
                      case first =>
                        obtain ⟨A2, c2', rfl⟩ := own_formP HMR.out.1.2.1
                        go_wp2_with fail
                        go_meet
                        exact ⟨by first | rfl | simp, rfl⟩
                      case rest =>
                      obtain ⟨rfl, rfl⟩ := hcut
                      obtain ⟨bb, hbb⟩ : ∃ bb, decide (0 < cl.length) = bb := ⟨_, rfl⟩
                      rw [hbb]
                      have HBB := Lib.hid hbb
                      clear hbb
                      have HK4 : Hid ((if k + 1 ≤ L then ptK t acts li (E t) (M - (k + 1)) (k + 1) (if k + 1 = 0 then 0 else ((E t)[k + 1 - 1]?).getD 0) (out2 ++ ps) else out2 ++ ps) = ptK t acts li (E t) M 0 0 out) := Lib.hid (by
                        rw [← HKK.out, show M - k = (M - (k + 1)) + 1 by omega, ← HPS.out]
                        have h1 := HTT.out
                        have h2 := HDN.out
                        cases hx : (E t)[k]? with
                        | some x =>
                          rw [hx] at h1 h2
                          have hkl2 : k < L := by rw [← HL.out]; exact (List.getElem?_eq_some_iff.1 hx).1
                          rw [ptK_done HCK.out hx, if_pos (by omega), if_neg (by omega), Nat.add_sub_cancel, hx, ← h1, ← h2]
                          rfl
                        | none =>
                          rw [hx] at h1 h2
                          have hkl2 : L ≤ k := by rw [← HL.out]; exact List.getElem?_eq_none_iff.1 hx
                          rw [ptK_last HCK.out hx, if_neg (by omega), ← h1, ← h2]
                          rfl)
                      -- each way on ends so, with v, HF4 : Hid (FixRel w E i O _), HO4 : Hid (OutC _ O v (out2 ++ ps)) of its last world:
                      --   go_wp2; go_roundg (gk - 1); measure: omega; rel: exact ⟨k + 1, out2 ++ ps, v, by go_num, by omega, by omega, HF4, HO4, by rw [List.length_append]; omega, HK4⟩
                      cases bb with
                      | true =>
                        have hcl : 0 < cl.length := of_decide_eq_true HBB.out
                        have hml := hNE.out hcl
                        obtain ⟨m2, hm2⟩ : ∃ m, cl.length = m + 1 := ⟨cl.length - 1, by omega⟩
                        obtain ⟨m1, hm1⟩ : ∃ m, ml.length = m + 1 := ⟨ml.length - 1, by omega⟩
                        obtain ⟨g2, e2, x2, rfl, hg2O, hg2, hx2, hc2⟩ := last_at HMR.out.1.2.1 hm2
                        obtain ⟨g1, e1, x1, rfl, hg1O, hg1, hx1, hc1⟩ := last_at HMR.out.1.1 hm1
                        obtain ⟨Ao, Aoc, rfl⟩ := own_formP HO3.out.2
                        have hl1 := HMR.out.2.2.1
                        have hl2 := HMR.out.2.2.2
                        have hs1 := HSU.out
                        have hs2 := HSL.out
                        have HG0 : Hid (Gone w wr E i O (.slice (some ⟨g1, 0, none⟩) (m1 + 1) e1) (.slice (some ⟨g2, 0, none⟩) (m2 + 1) e2) (.slice Ao out2.length Aoc) ml cl out2) := Lib.hid ⟨HF3.out, HO3.out, HMR.out.1⟩
                        rw [hx1, hx2] at HPE
                        clear HMR HO3 HF3
                        go_upto_region 34 with fail
                        refine r34 HG0 (by omega) (by omega) hc2 ?_
                        intro _ _ _ _ _ _ _ _ _ _ _ _ _ v' wz hgz
                        obtain ⟨l', hl'⟩ : ∃ l', l' = out2 ++ [(⟨x2, t, k, false⟩ : Pt)] := ⟨_, rfl⟩
                        rw [← hl'] at hgz
                        have HL1 := Lib.hid hl'
                        have HG1 := Lib.hid hgz
                        clear hl' hgz hc2 hc1 HG0
                        have HLL : Hid (l'.length = out2.length + 1) := Lib.hid (by rw [HL1.out, List.length_append]; rfl)
                        by_cases hpw : done = true ∧ ck.what = 9
                        · obtain ⟨rfl, hwh⟩ := hpw
                          as_aux_lemma =>
                            obtain ⟨ai, rfl, _, cc0, cc1⟩ := (HRI.out _ HG1.out.fix.2.2.2.2.2).cl HM.out hkl
                            rw [HCK2.out, hwh] at cc0
                            obtain ⟨g1', e1', x1', hgg, hg1O, hg1, hx1', hc1⟩ := last_at HG1.out.half.1 hm1
                            obtain ⟨rfl, rfl⟩ : g1 = g1' ∧ e1 = e1' := by simpa using hgg
                            obtain rfl : x1 = x1' := by rw [hx1] at hx1'; injection hx1'
                            have HPS2 : Hid (ps = [⟨x2, t, k, false⟩, ⟨x1, t, k, true⟩]) := Lib.hid (by rw [← HPE.out, hwh]; rfl)
                            obtain ⟨Ap', Apc, rfl⟩ := own_formP HG1.out.out.2
                            go_upto_region 36 with fail
                            refine r36 HG1 (by have := HLL.out; omega) (by omega) hc1 ?_
                            intro _ _ _ _ _ _ _ _ _ _ _ _ _ v2' wz hgz
                            have HG2 := Lib.hid hgz
                            have HL3 : Hid ((l' ++ [(⟨x1, t, k, true⟩ : Pt)]).length = l'.length + 1) := Lib.hid (by rw [List.length_append]; rfl)
                            clear hgz hc1
                            go_wp2
                            go_roundg (gk - 1)
                            case measure => omega
                            case rel => exact ⟨k + 1, _, _, by go_num, by omega, by omega, Lib.hid HG2.out.fix, Lib.hid HG2.out.out, by have := HLL.out; have := HL3.out; omega, Lib.hid (by rw [show l' ++ [⟨x1, t, k, true⟩] = out2 ++ ps by rw [HL1.out, HPS2.out, List.append_assoc]; rfl]; exact HK4.out)⟩
                        · have HPS2 : Hid (ps = [⟨x2, t, k, false⟩]) := Lib.hid (by
                            rw [← HPE.out]
                            show (if (done && decide (ck.what = 9)) = true then _ else _) = _
                            rw [if_neg (fun h => hpw ?_)]
                            simpa using h)
                          cases done
                          · go_wp2
                            go_roundg (gk - 1)
                            case measure => omega
                            case rel => exact ⟨k + 1, _, _, by go_num, by omega, by omega, Lib.hid HG1.out.fix, Lib.hid HG1.out.out, by have := HLL.out; omega, Lib.hid (by rw [show l' = out2 ++ ps by rw [HL1.out, HPS2.out]]; exact HK4.out)⟩
                          · have hwh : ¬ ck.what = 9 := fun h => hpw ⟨rfl, h⟩
                            obtain ⟨ai, rfl, _, cc0, cc1⟩ := (HRI.out _ HG1.out.fix.2.2.2.2.2).cl HM.out hkl
                            rw [HCK2.out] at cc0
                            obtain ⟨what, hwt⟩ : ∃ what, ck.what = what := ⟨_, rfl⟩
                            rw [hwt] at cc0 hwh
                            go_wp2
                            go_roundg (gk - 1)
                            case measure => omega
                            case rel => exact ⟨k + 1, _, _, by go_num, by omega, by omega, Lib.hid HG1.out.fix, Lib.hid HG1.out.out, by have := HLL.out; omega, Lib.hid (by rw [show l' = out2 ++ ps by rw [HL1.out, HPS2.out]]; exact HK4.out)⟩
                      | false =>
                        have hcl : cl = [] := List.eq_nil_of_length_eq_zero (by have := of_decide_eq_false HBB.out; omega)
                        by_cases hpm : done = true ∧ 0 < ml.length
                        · obtain ⟨rfl, hml⟩ := hpm
                          as_aux_lemma =>
                            obtain ⟨m1, hm1⟩ : ∃ m, ml.length = m + 1 := ⟨ml.length - 1, by omega⟩
                            obtain ⟨g1, e1, x1, rfl, hg1O, hg1, hx1, hc1⟩ := last_at HMR.out.1.1 hm1
                            obtain ⟨Ao, Aoc, rfl⟩ := own_formP HO3.out.2
                            have hl1 := HMR.out.2.2.1
                            have hs1 := HSU.out
                            have hs2 := HSL.out
                            have HG0 := Lib.hid (Gone.mk HF3.out HO3.out HMR.out.1)
                            have HPS2 : Hid (ps = [⟨x1, t, k, false⟩]) := Lib.hid (by rw [← HPE.out, hcl, hx1]; rfl)
                            clear HMR HO3 HF3
                            go_upto_region 38 with fail
                            refine r38 HG0 (by omega) (by omega) hc1 ?_
                            intro _ _ _ _ _ _ _ _ _ _ _ _ _ v2' wz hgz
                            have HG2 := Lib.hid hgz
                            have HL3 : Hid ((out2 ++ [(⟨x1, t, k, false⟩ : Pt)]).length = out2.length + 1) := Lib.hid (by rw [List.length_append]; rfl)
                            clear hgz hc1
                            go_wp2
                            go_roundg (gk - 1)
                            case measure => omega
                            case rel => exact ⟨k + 1, _, _, by go_num, by omega, by omega, Lib.hid HG2.out.fix, Lib.hid HG2.out.out, by have := HL3.out; omega, Lib.hid (by rw [show out2 ++ [⟨x1, t, k, false⟩] = out2 ++ ps by rw [HPS2.out]]; exact HK4.out)⟩
                        · have HPS2 : Hid (ps = []) := Lib.hid (by
                            rw [← HPE.out, hcl]
                            cases hx : ml.getLast? with
                            | none => rfl
                            | some a =>
                              have hm : 0 < ml.length := by
                                rcases Nat.eq_zero_or_pos ml.length with h | h
                                · rw [List.eq_nil_of_length_eq_zero h] at hx; cases hx
                                · exact h
                              cases done
                              · rfl
                              · exact absurd ⟨rfl, hm⟩ hpm)
                          have HG1 := Lib.hid (Gone.mk HF3.out HO3.out HMR.out.1)
                          obtain ⟨A1, c1, rfl⟩ := own_formP HMR.out.1.1
                          clear HMR HO3 HF3
                          have hd : done = false ∨ (done = true ∧ ml.length = 0) := by
                            cases done
                            · exact .inl rfl
                            · exact .inr ⟨rfl, by
                                rcases Nat.eq_zero_or_pos ml.length with h | h
                                · exact h
                                · exact absurd ⟨rfl, h⟩ hpm⟩
                          rcases hd with rfl | ⟨rfl, hml⟩
                          · go_wp2
                            go_roundg (gk - 1)
                            case measure => omega
                            case rel => exact ⟨k + 1, _, _, by go_num, by omega, by omega, Lib.hid HG1.out.fix, Lib.hid HG1.out.out, by omega, Lib.hid (by rw [show out2 = out2 ++ ps by rw [HPS2.out, List.append_nil]]; exact HK4.out)⟩
                          · rw [hml]
                            go_wp2
                            go_roundg (gk - 1)
                            case measure => omega
                            case rel => exact ⟨k + 1, _, _, by go_num, by omega, by omega, Lib.hid HG1.out.fix, Lib.hid HG1.out.out, by omega, Lib.hid (by rw [show out2 = out2 ++ ps by rw [HPS2.out, List.append_nil]]; exact HK4.out)⟩
              · have HE2 : Hid (out2 = ptK t acts li (E t) M 0 0 out) := Lib.hid (by
                  rw [← HK.out]
                  by_cases h : k ≤ L
                  · rw [if_pos h, show M - k = 0 by omega]; rfl
                  · rw [if_neg h])
                have hend : ¬ k < M ∨ (k < M ∧ ¬ k ≤ L) := by omega
                rcases hend with h1 | ⟨h1, h2⟩
                all_goals
                  go_wp2
                  go_roundg gt
                  case measure => omega
                  case rel => exact ⟨t + 1, out2, vq, by go_num, by omega, HF2, HO2, by have := HSU.out; omega, Lib.hid (by rw [← HTS.out, HE2.out])⟩
          | zero =>
            obtain rfl : t = nc := by omega
            have hsm := sumL_take_le cs t
            have hs2 := HSUM.out
            have hfin : out = ptT cs acts E cs.length 0 [] := by rw [← HT.out]; rfl
            have hp := HPR.out
            rw [← hfin] at hp
            have HP := Lib.hid hp
            obtain ⟨A, c, rfl⟩ := own_formP HO.out.2
            have hcO := HO.out.1.cell 0
            simp only [List.getElem?_toArray, List.getElem?_cons_zero] at hcO
            have HS := Lib.hid (rsort_f A out.length c (O + 1) O out wr HO.out.2 rfl (by omega) hf5 hcO (by omega))
            have HBO := Lib.hid HO.out.1
            have HO2 := Lib.hid HO.out.2
            clear HO HT HPR hp hfin HC HRA HRE
            go_wp2_with (go_at_call 14; refine HS.out.mono ?_; rintro e w1 ⟨rfl, hr1, hb1⟩; have HR1 := Lib.hid hr1; have HB1 := Lib.hid hb1; clear hr1 hb1)
            have hF1 := HF.out.below HB1.out
            have HBF := Lib.hid hF1.1
            have HBW := Lib.hid hF1.2.2.2.2.2
            have HSZ := Lib.hid hF1.2.2.2.2.1
            have hco1 := (HBO.out.below HB1.out (by omega)).cell 0
            have e0 := hF1.1.cell 0
            have e1 := hF1.1.cell 1
            have f0 := hF1.1.frozen 0
            have f1 := hF1.1.frozen 1
            have l1 := hF1.1.lt
            have l2 := hF1.2.2.2.2.1
            simp only [List.getElem?_toArray, List.getElem?_cons_zero, List.getElem?_cons_succ] at hco1 e0 e1
            have HAD := Lib.hid (show ∀ ad, A = some ad → ad.block ≠ w.heap.size from fun ad e h => by have := (HO2.out.lt ad.block (by rw [e]; rfl)).1; omega)
            have HBE := Lib.hid (Blk.drew (((hF1.1.set_ 0 (.int .i64 0)).set_ 1 (.int .i64 (-1))).alloc (.cells #[.int .i64 0, .int .i64 (-1)] 29)))
            clear hF1 HF hcO HB HO2
            go_region_with ((go_at_call 16; refine (good_f _).mono ?_; rintro e w2 ⟨rfl, rfl⟩))
            all_goals go_wp2
            all_goals exact post5 HBE.out rfl rfl (rdone HP.out HR1.out HAD.out HBW.out)
end Go.Proofs.YthnbbgmajdjgeaaDoor
