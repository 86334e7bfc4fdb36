/-
  The walks of LinReplays, part one: what comes of calls at points, in the program. Conditions: calls and points lie below this call's memory.
-/
import Derived.Test.YtepoahinnfjaiaaDoorLinV
import Derived.Deep.QuietTactic
import Derived.BigQuiet
import Derived.Deep.RegionHeld3
import Derived.OneCell
namespace Go.Proofs.YtepoahinnfjaiaaDoor
open Go.RowKit Go.Extern.Stop Go.Stop Go.Extern

theorem MapP.drewN {w : World} {m n : Nat} {S : Int → Int → Int} (h : MapP w m n S) (q : Nat) : MapP (w.drewN q) m n S := h
theorem undrew_grown {w w' : World} {r : Option Nat} (h : w.drew.grownBy w' r) : w.grownBy w' r := ⟨h.os, h.tape, h.output, h.size, h.block⟩
theorem rep_ok' {cs : List (List Cl)} {l : List Pt} {f k : Nat} {s : St} {outs : List Int} {x : Pt} {c c' : Cl} {V : Int} {st : St} {ans : Int} (hx : l[k]? = some x) (hc : getC cs x.th x.ca = some c) (hV : lastK l outs x.th x.ca k = V) (hf : fixC c x.la V = c') (hd : doS s c' = ⟨st, ans, 0⟩) :
    rep cs l (f + 1) k s outs = rep cs l f (k + 1) st (outs ++ [ans]) := by
  subst hV hf
  rw [rep_ok hx hc (by rw [hd]), hd]
theorem rep_bad' {cs : List (List Cl)} {l : List Pt} {f k : Nat} {s : St} {outs : List Int} {x : Pt} {c c' : Cl} {V : Int} {st : St} {ans : Int} (hx : l[k]? = some x) (hc : getC cs x.th x.ca = some c) (hV : lastK l outs x.th x.ca k = V) (hf : fixC c x.la V = c') (hd : doS s c' = ⟨st, ans, 1⟩) :
    rep cs l (f + 1) k s outs = ⟨⟨false, 0, 0, 0⟩, [], 1, k⟩ := by
  subst hV hf
  exact rep_bad hx hc (by rw [hd]; exact Int.one_ne_zero)
theorem getC_some {cs : List (List Cl)} {T C : Nat} {l : List Cl} {c : Cl} (h1 : cs[T]? = some l) (h2 : l[C]? = some c) : getC cs (T : Int) (C : Int) = some c := by
  unfold getC
  rw [if_pos ⟨by omega, by omega⟩]
  simp [h1, h2]
theorem getC_neg {cs : List (List Cl)} {th ca : Int} (h : th < 0 ∨ ca < 0) : getC cs th ca = none := by
  unfold getC
  rw [if_neg (by omega)]
theorem getC_out {cs : List (List Cl)} {T : Nat} {ca : Int} (h1 : cs.length ≤ T) : getC cs (T : Int) ca = none := by
  unfold getC
  split
  · simp [List.getElem?_eq_none h1]
  · rfl
theorem getC_out2 {cs : List (List Cl)} {T C : Nat} {l : List Cl} (h1 : cs[T]? = some l) (h2 : l.length ≤ C) : getC cs (T : Int) (C : Int) = none := by
  unfold getC
  rw [if_pos ⟨by omega, by omega⟩]
  simp [h1, List.getElem?_eq_none h2]
set_option maxRecDepth 100000 in
set_option maxHeartbeats 64000000 in
theorem replay_calls (s0 : St) (Ac : Option Addr) (nc cc : Nat) (cs : List (List Cl)) (Ap : Option Addr) (n cp B : Nat) (l : List Pt) (w : World) (hl : l.length = n) (hn : n ≤ 100) (hr : Reads w B 4 Ap n (flatP l)) (hB : B ≤ w.heap.size)
    (hcs : CallsIn w B Ac nc cs) (_hnc : nc ≤ 20) (hcl : ∀ c ∈ cs, c.length ≤ 140737488355328) (hwf : ∀ x ∈ l, wfI x.th ∧ wfI x.ca) :
    Calls Tryd.prog 49 #[stv s0, .slice Ac nc cc, .slice Ap n cp] w (RepEnd (rep cs l n 0 s0 []) w) := by
  have hmm := @run_makeMap Tryd.prog
  obtain ⟨i0, hi0, hz0, hzs1, hz2⟩ := info_parts Tryd.info3f
  have HL := Lib.hid hl
  have HWF := Lib.hid hwf
  have HCL := Lib.hid hcl
  have HCS := Lib.hid hcs
  clear hl hwf hcl hcs
  go_enter Tryd.func49, Tryd.ntmps49
  go_wp2
  have hst := lrel_start w l s0
  have HST := Lib.hid hst
  clear hst
  go_loopw [21, 10] (fun i v wr => ∃ (k : Nat) (s : St) (outs : List Int), k ≤ n ∧ i = .int .i64 k ∧ LRel w l k s outs v wr ∧ rep cs l n 0 s0 [] = rep cs l (n - k) k s outs) (fun i _ _ => n - (intOf i).toNat)
  case atStart => exact ⟨0, s0, [], Nat.zero_le _, rfl, HST.out, rfl⟩
  case round =>
    obtain ⟨k, s, outs, hk, rfl, hrel, hrep⟩ := hrel
    have HRL := Lib.hid hrel
    have HREP := Lib.hid hrep
    clear hrep
    obtain ⟨Av, cv, rfl⟩ := own_formL hrel.2.2.2.1
    obtain ⟨hA, hZ, hM, hown, hol, hbel, hsz⟩ := hrel
    have y1 : w.heap.size + 1 < wr.heap.size := by omega
    have y0 : w.heap.size < wr.heap.size := by omega
    have y2 : w.heap.size + 1 + 1 < wr.heap.size := by omega
    have za0 := hZ.cell 0
    have za1 := hZ.cell 1
    have za2 := hZ.cell 2
    have za3 := hZ.cell 3
    simp at za0 za1 za2 za3
    have zf0 := hZ.frozen 0
    have zf1 := hZ.frozen 1
    have zf2 := hZ.frozen 2
    have zf3 := hZ.frozen 3
    have HA := Lib.hid hA
    have HZ := Lib.hid hZ
    have HMP := Lib.hid hM
    have HOL := Lib.hid hol
    clear hA hZ hM hol
    by_cases hlt : k < n
    · obtain ⟨ap, rfl, _, c0, c1, c2, c3⟩ := (hr.below (hbel.mono hB)).pt HL.out hlt
      have hkl : k < l.length := by rw [HL.out]; exact hlt
      obtain ⟨f, hf⟩ : ∃ f, n - k = f + 1 := ⟨n - k - 1, by omega⟩
      have hrf := HREP.out
      rw [hf] at hrf
      have HRF := Lib.hid hrf
      have HFE := Lib.hid hf
      clear hf hrf
      obtain ⟨x, hx⟩ : ∃ x, l[k]'hkl = x := ⟨_, rfl⟩
      have hw := HWF.out _ (List.getElem_mem hkl)
      have HX := Lib.hid (show l[k]? = some x by rw [List.getElem?_eq_getElem hkl, hx])
      rw [hx] at c0 c1 c2 c3 hw
      clear hx
      obtain ⟨wh, th, ca, la⟩ := x
      simp only at c0 c1 c2 c3 hw
      have HW := Lib.hid hw
      clear hw
      by_cases t0 : 0 ≤ th
      · obtain ⟨T, rfl⟩ := Int.eq_ofNat_of_zero_le t0
        have d0 : decide ((T : Int) < 0) = false := by simp
        by_cases t1 : T < nc
        · obtain ⟨ac, Ai, ci, rfl, hacB, hci, hri⟩ := (HCS.out.below (hbel.mono hB)).2 T (by rw [HCS.out.1]; exact t1)
          have hTl : T < cs.length := by rw [HCS.out.1]; exact t1
          obtain ⟨li, hli⟩ : ∃ li, cs[T]'hTl = li := ⟨_, rfl⟩
          have HLI := Lib.hid (show cs[T]? = some li by rw [List.getElem?_eq_getElem hTl, hli])
          have hlen := HCL.out _ (List.getElem_mem hTl)
          rw [hli] at hci hri hlen
          clear hli
          obtain ⟨nl, hnl⟩ : ∃ nl, li.length = nl := ⟨_, rfl⟩
          rw [hnl] at hci hri hlen
          have HNL := Lib.hid hnl
          clear hnl
          have t1' : (T : Int) < (nc : Int) := by omega
          have t2' : (0 : Int) ≤ (T : Int) := by omega
          have d1 : decide (nc ≤ T) = false := by simp; omega
          by_cases u0 : 0 ≤ ca
          · obtain ⟨C, rfl⟩ := Int.eq_ofNat_of_zero_le u0
            have d2 : decide ((C : Int) < 0) = false := by simp
            have hciW : (wr.alloc (.cells #[.int .i64 wh, .int .i64 (T : Int), .int .i64 (C : Int), .bool la] 151)).cell? (ac.add T) = some (.slice Ai nl ci) := by
              rw [World.cell?_alloc_lt _ _ _ (by rw [block_of_add]; omega)]; exact hci
            by_cases u1 : C < nl
            · obtain ⟨al, rfl, halB, f0, f1⟩ := hri.cl HNL.out u1
              have hCl : C < li.length := by rw [HNL.out]; exact u1
              obtain ⟨c, hc⟩ : ∃ c, li[C]'hCl = c := ⟨_, rfl⟩
              rw [hc] at f0 f1
              have HG := Lib.hid (getC_some HLI.out (show li[C]? = some c by rw [List.getElem?_eq_getElem hCl, hc]))
              clear hc hci
              obtain ⟨what, m⟩ := c
              simp only at f0 f1
              have d3 : decide (nl ≤ C) = false := by simp; omega
              have f0W : (wr.alloc (.cells #[.int .i64 wh, .int .i64 (T : Int), .int .i64 (C : Int), .bool la] 151)).cell? (al.add (C * 2)) = some (.int .i64 what) := by
                rw [World.cell?_alloc_lt _ _ _ (by rw [block_of_add]; omega)]; exact f0
              have f1W : (wr.alloc (.cells #[.int .i64 wh, .int .i64 (T : Int), .int .i64 (C : Int), .bool la] 151)).cell? ⟨(al.add (C * 2)).block, (al.add (C * 2)).off + 1, none⟩ = some (.int .i64 m) := by
                rw [World.cell?_alloc_lt _ _ _ (by simp only [block_of_add]; omega)]; exact f1
              have x1 := (Blk.new wr 151 #[.int .i64 wh, .int .i64 (T : Int), .int .i64 (C : Int), .bool la]).cell 1
              have x2 := (Blk.new wr 151 #[.int .i64 wh, .int .i64 (T : Int), .int .i64 (C : Int), .bool la]).cell 2
              simp at x1 x2
              have u1' : (C : Int) < (nl : Int) := by omega
              have u2' : (0 : Int) ≤ (C : Int) := by omega
              have hriX := Lib.hid hri
              clear hri hlen
              go_wp2
              go_quiet (fail)
              go_wp2
              go_region_held3 (fun w' => w'.cell? ⟨wr.heap.size, 1, none⟩ = some (.int .i64 (T : Int)) ∧ w'.cell? ⟨wr.heap.size, 2, none⟩ = some (.int .i64 (C : Int)) ∧ w'.cell? (ac.add T) = some (.slice (some al) nl ci) ∧ w'.cell? (al.add (C * 2)) = some (.int .i64 what) ∧ w'.cell? ⟨(al.add (C * 2)).block, (al.add (C * 2)).off + 1, none⟩ = some (.int .i64 m)) (go_keep) (fail)
              have a0 := HA.out.cell 0
              have a1 := HA.out.cell 1
              have a2 := HA.out.cell 2
              have a3 := HA.out.cell 3
              simp at a0 a1 a2 a3
              have af0 := HA.out.frozen 0
              have af1 := HA.out.frozen 1
              have af2 := HA.out.frozen 2
              have af3 := HA.out.frozen 3
              have yy0 : w.heap.size < wr.heap.size + 1 := by omega
              have yy1 : w.heap.size < wr.heap.size + 1 + 1 := by omega
              clear f0 f1 f0W f1W x1 x2
              obtain ⟨V, hV⟩ : ∃ V, lastK l outs (T : Int) (C : Int) k = V := ⟨_, rfl⟩
              have HV := Lib.hid hV
              clear hV
              by_cases hw9 : what = 9
              · subst hw9
                cases la
                · have hfx : fixC ⟨9, m⟩ false V = ⟨7, m⟩ := rfl
                  have HFX := Lib.hid hfx
                  clear hfx
                  obtain ⟨hdo, herr, han0, han1⟩ := doS_is s ⟨7, m⟩
                  obtain ⟨d, hd⟩ : ∃ d, doS s ⟨7, m⟩ = d := ⟨_, rfl⟩
                  rw [hd] at hdo herr han0 han1
                  have HDD := Lib.hid hd
                  clear hd
                  obtain ⟨⟨do_, dph, dpa, dwa⟩, dan, der⟩ := d
                  simp only at hdo herr han0 han1
                  have HDO := Lib.hid hdo
                  clear hdo
                  rcases herr with rfl | rfl
                  · have HREQ := Lib.hid (HRF.out.trans (rep_ok' HX.out HG.out HV.out HFX.out HDD.out))
                    go_wp2_with (go_at_call 45; refine (HDO.out.prog _).mono ?_; rintro e w6 ⟨rfl, hb6⟩; rw [errV_zero]; have hch := (((below_drewN ((Below.refl wr.heap.size wr).alloc (Nat.le_refl _) _) (nq + 1)).alloc (by simp) _).alloc (by simp; omega) _).trans (hb6.mono (by simp; omega)); have hL6 := HRL.out.below hch; have HL6 := Lib.hid hL6; have HCH := Lib.hid hch; have HB6 := Lib.hid hb6; have hP6 := (blk_at (t := 154) (cs := #[.int .i64 (T : Int), .int .i64 (C : Int)]) (by simp : _ = wr.heap.size + 1 + 1)).below hb6 (by simp); have HP6 := Lib.hid hP6; have zb0 := hL6.2.1.cell 0; have zb1 := hL6.2.1.cell 1; have zb2 := hL6.2.1.cell 2; have zb3 := hL6.2.1.cell 3; simp at zb0 zb1 zb2 zb3; have zg0 := hL6.2.1.frozen 0; have zg1 := hL6.2.1.frozen 1; have zg2 := hL6.2.1.frozen 2; have zg3 := hL6.2.1.frozen 3; have hz6 : w.heap.size < w6.heap.size := (by have := hL6.1.lt; omega); have hz7 : w.heap.size + 1 < w6.heap.size := (by have := hL6.2.1.lt; omega); clear hL6 hch hP6 hb6)
                    have hpl := HP6.out.lt
                    have hwl : w.heap.size + 1 + 1 < w6.heap.size := HL6.out.2.2.1.lt
                    have hL7 := (HL6.out.below ((Below.refl _ _).alloc (Nat.le_refl _) (.cells #[.bool do_, .int .i64 dph, .int .i64 dpa, .int .i64 dwa] 39))).below (Below.refl _ _).drew
                    have hP7 := (HP6.out.alloc (.cells #[.bool do_, .int .i64 dph, .int .i64 dpa, .int .i64 dwa] 39)).drew
                    have hQ7 := (Blk.new w6 39 #[.bool do_, .int .i64 dph, .int .i64 dpa, .int .i64 dwa]).drew
                    have hLY := ((lrel_set (s' := ⟨do_, dph, dpa, dwa⟩) HL6.out).below ((Below.refl _ _).alloc (Nat.le_refl _) (.cells #[.bool do_, .int .i64 dph, .int .i64 dpa, .int .i64 dwa] 39))).below (Below.refl _ _).drew
                    have hPY := (((((HP6.out.far (p := ⟨w.heap.size, 0, none⟩) (by simp; omega) (.bool do_)).far (p := ⟨w.heap.size, 1, none⟩) (by simp; omega) (.int .i64 dph)).far (p := ⟨w.heap.size, 2, none⟩) (by simp; omega) (.int .i64 dpa)).far (p := ⟨w.heap.size, 3, none⟩) (by simp; omega) (.int .i64 dwa)).alloc (.cells #[.bool do_, .int .i64 dph, .int .i64 dpa, .int .i64 dwa] 39)).drew
                    have hQY := (blk_at (w := ((((w6.setCell ⟨w.heap.size, 0, none⟩ (.bool do_)).setCell ⟨w.heap.size, 1, none⟩ (.int .i64 dph)).setCell ⟨w.heap.size, 2, none⟩ (.int .i64 dpa)).setCell ⟨w.heap.size, 3, none⟩ (.int .i64 dwa))) (b := w6.heap.size) (t := 39) (cs := #[.bool do_, .int .i64 dph, .int .i64 dpa, .int .i64 dwa]) (by simp)).drew
                    obtain ⟨wa, hra, hma, hga⟩ := hL7.2.2.1.store Tryd.underlying153 (by unfold maxLen; omega) (T : Int) (C : Int) dan HW.out.1 HW.out.2 (wfI_in (by omega) (by omega))
                    obtain ⟨wb, hrb, hmb, hgb⟩ := hLY.2.2.1.store Tryd.underlying153 (by unfold maxLen; omega) (T : Int) (C : Int) dan HW.out.1 HW.out.2 (wfI_in (by omega) (by omega))
                    have HMA := Lib.hid (mid_map hL7 hma hga ⟨do_, dph, dpa, dwa⟩)
                    have HMB := Lib.hid (mid_any hLY hmb hgb)
                    have hPa := hP7.grown hga (by simp; omega)
                    have hQa := hQ7.grown hga (by simp; omega)
                    have hPb := hPY.grown hgb (by simp; omega)
                    have hQb := hQY.grown hgb (by simp; omega)
                    have hPc := (((hPa.far (p := ⟨w.heap.size, 0, none⟩) (by simp; omega) (.bool do_)).far (p := ⟨w.heap.size, 1, none⟩) (by simp; omega) (.int .i64 dph)).far (p := ⟨w.heap.size, 2, none⟩) (by simp; omega) (.int .i64 dpa)).far (p := ⟨w.heap.size, 3, none⟩) (by simp; omega) (.int .i64 dwa)
                    have hQc := (((hQa.far (p := ⟨w.heap.size, 0, none⟩) (by simp; omega) (.bool do_)).far (p := ⟨w.heap.size, 1, none⟩) (by simp; omega) (.int .i64 dph)).far (p := ⟨w.heap.size, 2, none⟩) (by simp; omega) (.int .i64 dpa)).far (p := ⟨w.heap.size, 3, none⟩) (by simp; omega) (.int .i64 dwa)
                    have HS0 := Lib.hid (six hP7 hQ7)
                    have HS1 := Lib.hid (six hPY hQY)
                    have HS2 := Lib.hid (six hPa hQa)
                    have HS3 := Lib.hid (six hPb hQb)
                    have HS4 := Lib.hid (six hPc hQc)
                    obtain ⟨⟨s0_, s1_, s2_, s3_⟩, sf0, sf1, sf2, sf3⟩ := four (hL7.1.grown hga (by simp; omega)) rfl
                    obtain ⟨⟨r0_, r1_, r2_, r3_⟩, rf0, rf1, rf2, rf3⟩ := four HL6.out.1 rfl
                    clear hL7 hP7 hQ7 hLY hPY hQY hma hga hmb hgb hPa hQa hPb hQb hPc hQc
                    go_region_held3 (fun w' => w'.cell? ⟨wr.heap.size + 1 + 1, 0, none⟩ = some (.int .i64 (T : Int)) ∧ w'.cell? ⟨wr.heap.size + 1 + 1, 1, none⟩ = some (.int .i64 (C : Int)) ∧ w'.cell? ⟨w6.heap.size, 0, none⟩ = some (.bool do_) ∧ w'.cell? ⟨w6.heap.size, 1, none⟩ = some (.int .i64 dph) ∧ w'.cell? ⟨w6.heap.size, 2, none⟩ = some (.int .i64 dpa) ∧ w'.cell? ⟨w6.heap.size, 3, none⟩ = some (.int .i64 dwa)) (first | exact HS0.out | exact HS1.out | exact HS2.out | exact HS3.out | exact HS4.out | go_keep) (fail)
                    first
                      | (go_wp2_with (at_builtin; (refine wpList_append_own _ rfl (.tmp 100) (.tmp 102) 50 rfl (w.heap.size + 1 + 1 + 1) 3 i0 _ 1 8 Tryd.underlying50 hi0 hz0 hzs1 hz2 rfl (by omega) (.slice Av k cv) k _ rfl (HMB.out.2.2.2.1.alloc _) ⟨wb.heap.size, 0, none⟩ 1 1 [.int .i64 dan] rfl rfl ?_ ?_ ?_ ?_ ?_ ?_); (exact cell_lit _ [.int .i64 dan] 3); (simp [Value.oneCell']); (unfold maxLen; omega); (omega); (have := HMB.out.2.2.2.2.2.2; simp; omega); intro v' w9 hown9 hg9 hnil9)
                         go_roundw
                         case rel => exact ⟨k + 1, ⟨do_, dph, dpa, dwa⟩, outs ++ [dan], by omega, by go_num, mid_next HMB.out HX.out rfl rfl hg9 hown9, by rw [show n - (k + 1) = f by have := HFE.out; omega]; exact HREQ.out⟩
                         case measure => simp [intOf]; omega)
                      | (go_wp2_with (at_builtin; (refine wpList_append_own _ rfl (.tmp 100) (.tmp 102) 50 rfl (w.heap.size + 1 + 1 + 1) 3 i0 _ 1 8 Tryd.underlying50 hi0 hz0 hzs1 hz2 rfl (by omega) (.slice Av k cv) k _ rfl (HMA.out.2.2.2.1.alloc _) ⟨wa.heap.size, 0, none⟩ 1 1 [.int .i64 dan] rfl rfl ?_ ?_ ?_ ?_ ?_ ?_); (have := cell_lit ((((wa.setCell ⟨w.heap.size, 0, none⟩ (.bool do_)).setCell ⟨w.heap.size, 1, none⟩ (.int .i64 dph)).setCell ⟨w.heap.size, 2, none⟩ (.int .i64 dpa)).setCell ⟨w.heap.size, 3, none⟩ (.int .i64 dwa)) [.int .i64 dan] 3; simpa using this); (simp [Value.oneCell']); (unfold maxLen; omega); (omega); (have := HMA.out.2.2.2.2.2.2; simp at this; simp; omega); intro v' w9 hown9 hg9 hnil9)
                         go_roundw
                         case rel => exact ⟨k + 1, ⟨do_, dph, dpa, dwa⟩, outs ++ [dan], by omega, by go_num, mid_next HMA.out HX.out rfl rfl hg9 hown9, by rw [show n - (k + 1) = f by have := HFE.out; omega]; exact HREQ.out⟩
                         case measure => simp [intOf]; omega)
                  · have HREQ := Lib.hid (HRF.out.trans (rep_bad' HX.out HG.out HV.out HFX.out HDD.out))
                    have HER := Lib.hid (show errV 1 = .iface 26 (.int .i64 1) from rfl)
                    go_wp2_with (go_at_call 45; refine (HDO.out.prog _).mono ?_; rintro e w6 ⟨rfl, hb6⟩; rw [HER.out]; have hch := (((below_drewN ((Below.refl wr.heap.size wr).alloc (Nat.le_refl _) _) (nq + 1)).alloc (by simp) _).alloc (by simp; omega) _).trans (hb6.mono (by simp; omega)); have hL6 := HRL.out.below hch; have HL6 := Lib.hid hL6; have HCH := Lib.hid hch; have HB6 := Lib.hid hb6; have hP6 := (blk_at (t := 154) (cs := #[.int .i64 (T : Int), .int .i64 (C : Int)]) (by simp : _ = wr.heap.size + 1 + 1)).below hb6 (by simp); have HP6 := Lib.hid hP6; have zb0 := hL6.2.1.cell 0; have zb1 := hL6.2.1.cell 1; have zb2 := hL6.2.1.cell 2; have zb3 := hL6.2.1.cell 3; simp at zb0 zb1 zb2 zb3; have zg0 := hL6.2.1.frozen 0; have zg1 := hL6.2.1.frozen 1; have zg2 := hL6.2.1.frozen 2; have zg3 := hL6.2.1.frozen 3; have hz6 : w.heap.size < w6.heap.size := (by have := hL6.1.lt; omega); have hz7 : w.heap.size + 1 < w6.heap.size := (by have := hL6.2.1.lt; omega); clear hL6 hch hP6 hb6)
                    have B0 := HL6.out.2.1.set_ 0 (.bool false)
                    have B1 := B0.set_ 1 (.int .i64 0)
                    have B2 := B1.set_ 2 (.int .i64 0)
                    have B3 := B2.set_ 3 (.int .i64 0)
                    have e0 := B0.cell 0
                    have e1 := B1.cell 1
                    have e2 := B2.cell 2
                    have e3 := B3.cell 3
                    simp at e0 e1 e2 e3
                    refine bodyPost_ret (v := .tuple #[.agg zst, .slice none 0 0, .iface 146 (.pointer (some ⟨w6.heap.size + 1, 0, none⟩))]) (by simp [results, Tryd.results49, go_sem, e0, e1, e2, e3, hz6, hz7]) rfl ?_
                    exact fail_any (by decide) (((((HL6.out.2.2.2.2.2.1.setCell (p := ⟨w.heap.size + 1, 0, none⟩) (by simp) _).setCell (p := ⟨w.heap.size + 1, 1, none⟩) (by simp) _).setCell (p := ⟨w.heap.size + 1, 2, none⟩) (by simp) _).setCell (p := ⟨w.heap.size + 1, 3, none⟩) (by simp) _).alloc (by have := HL6.out.2.2.2.2.2.1.size; simp; omega) _) (by simp) HREQ.out
                · by_cases hv0 : V ≤ 0
                  · have hfx : fixC ⟨9, m⟩ true V = ⟨10, 0⟩ := congrArg (Cl.mk 10) (Int.max_eq_left hv0)
                    have HFX := Lib.hid hfx
                    clear hfx
                    have hlk := ((((HMP.out.alloc (.cells #[.int .i64 wh, .int .i64 (T : Int), .int .i64 (C : Int), .bool true] 151)).drewN (nq + 1)).alloc (.cells #[.int .i64 7, .int .i64 m] 79)).alloc (.cells #[.int .i64 (T : Int), .int .i64 (C : Int)] 154)).look Tryd.underlying153 (by kernel_rfl) (T : Int) (C : Int) HW.out.1 HW.out.2
                    rw [HV.out] at hlk
                    obtain ⟨hdo, herr, han0, han1⟩ := doS_is s ⟨10, 0⟩
                    obtain ⟨d, hd⟩ : ∃ d, doS s ⟨10, 0⟩ = d := ⟨_, rfl⟩
                    rw [hd] at hdo herr han0 han1
                    have HDD := Lib.hid hd
                    clear hd
                    obtain ⟨⟨do_, dph, dpa, dwa⟩, dan, der⟩ := d
                    simp only at hdo herr han0 han1
                    have HDO := Lib.hid hdo
                    clear hdo
                    rcases herr with rfl | rfl
                    · have HREQ := Lib.hid (HRF.out.trans (rep_ok' HX.out HG.out HV.out HFX.out HDD.out))
                      go_wp2_with (go_at_call 45; refine (HDO.out.prog _).mono ?_; rintro e w6 ⟨rfl, hb6⟩; rw [errV_zero]; have hch := (((below_drewN ((Below.refl wr.heap.size wr).alloc (Nat.le_refl _) _) (nq + 1)).alloc (by simp) _).alloc (by simp; omega) _).trans (hb6.mono (by simp; omega)); have hL6 := HRL.out.below hch; have HL6 := Lib.hid hL6; have HCH := Lib.hid hch; have HB6 := Lib.hid hb6; have hP6 := (blk_at (t := 154) (cs := #[.int .i64 (T : Int), .int .i64 (C : Int)]) (by simp : _ = wr.heap.size + 1 + 1)).below hb6 (by simp); have HP6 := Lib.hid hP6; have zb0 := hL6.2.1.cell 0; have zb1 := hL6.2.1.cell 1; have zb2 := hL6.2.1.cell 2; have zb3 := hL6.2.1.cell 3; simp at zb0 zb1 zb2 zb3; have zg0 := hL6.2.1.frozen 0; have zg1 := hL6.2.1.frozen 1; have zg2 := hL6.2.1.frozen 2; have zg3 := hL6.2.1.frozen 3; have hz6 : w.heap.size < w6.heap.size := (by have := hL6.1.lt; omega); have hz7 : w.heap.size + 1 < w6.heap.size := (by have := hL6.2.1.lt; omega); clear hL6 hch hP6 hb6)
                      have hpl := HP6.out.lt
                      have hwl : w.heap.size + 1 + 1 < w6.heap.size := HL6.out.2.2.1.lt
                      have hL7 := (HL6.out.below ((Below.refl _ _).alloc (Nat.le_refl _) (.cells #[.bool do_, .int .i64 dph, .int .i64 dpa, .int .i64 dwa] 39))).below (Below.refl _ _).drew
                      have hP7 := (HP6.out.alloc (.cells #[.bool do_, .int .i64 dph, .int .i64 dpa, .int .i64 dwa] 39)).drew
                      have hQ7 := (Blk.new w6 39 #[.bool do_, .int .i64 dph, .int .i64 dpa, .int .i64 dwa]).drew
                      have hLY := ((lrel_set (s' := ⟨do_, dph, dpa, dwa⟩) HL6.out).below ((Below.refl _ _).alloc (Nat.le_refl _) (.cells #[.bool do_, .int .i64 dph, .int .i64 dpa, .int .i64 dwa] 39))).below (Below.refl _ _).drew
                      have hPY := (((((HP6.out.far (p := ⟨w.heap.size, 0, none⟩) (by simp; omega) (.bool do_)).far (p := ⟨w.heap.size, 1, none⟩) (by simp; omega) (.int .i64 dph)).far (p := ⟨w.heap.size, 2, none⟩) (by simp; omega) (.int .i64 dpa)).far (p := ⟨w.heap.size, 3, none⟩) (by simp; omega) (.int .i64 dwa)).alloc (.cells #[.bool do_, .int .i64 dph, .int .i64 dpa, .int .i64 dwa] 39)).drew
                      have hQY := (blk_at (w := ((((w6.setCell ⟨w.heap.size, 0, none⟩ (.bool do_)).setCell ⟨w.heap.size, 1, none⟩ (.int .i64 dph)).setCell ⟨w.heap.size, 2, none⟩ (.int .i64 dpa)).setCell ⟨w.heap.size, 3, none⟩ (.int .i64 dwa))) (b := w6.heap.size) (t := 39) (cs := #[.bool do_, .int .i64 dph, .int .i64 dpa, .int .i64 dwa]) (by simp)).drew
                      obtain ⟨wa, hra, hma, hga⟩ := hL7.2.2.1.store Tryd.underlying153 (by unfold maxLen; omega) (T : Int) (C : Int) dan HW.out.1 HW.out.2 (wfI_in (by omega) (by omega))
                      obtain ⟨wb, hrb, hmb, hgb⟩ := hLY.2.2.1.store Tryd.underlying153 (by unfold maxLen; omega) (T : Int) (C : Int) dan HW.out.1 HW.out.2 (wfI_in (by omega) (by omega))
                      have HMA := Lib.hid (mid_map hL7 hma hga ⟨do_, dph, dpa, dwa⟩)
                      have HMB := Lib.hid (mid_any hLY hmb hgb)
                      have hPa := hP7.grown hga (by simp; omega)
                      have hQa := hQ7.grown hga (by simp; omega)
                      have hPb := hPY.grown hgb (by simp; omega)
                      have hQb := hQY.grown hgb (by simp; omega)
                      have hPc := (((hPa.far (p := ⟨w.heap.size, 0, none⟩) (by simp; omega) (.bool do_)).far (p := ⟨w.heap.size, 1, none⟩) (by simp; omega) (.int .i64 dph)).far (p := ⟨w.heap.size, 2, none⟩) (by simp; omega) (.int .i64 dpa)).far (p := ⟨w.heap.size, 3, none⟩) (by simp; omega) (.int .i64 dwa)
                      have hQc := (((hQa.far (p := ⟨w.heap.size, 0, none⟩) (by simp; omega) (.bool do_)).far (p := ⟨w.heap.size, 1, none⟩) (by simp; omega) (.int .i64 dph)).far (p := ⟨w.heap.size, 2, none⟩) (by simp; omega) (.int .i64 dpa)).far (p := ⟨w.heap.size, 3, none⟩) (by simp; omega) (.int .i64 dwa)
                      have HS0 := Lib.hid (six hP7 hQ7)
                      have HS1 := Lib.hid (six hPY hQY)
                      have HS2 := Lib.hid (six hPa hQa)
                      have HS3 := Lib.hid (six hPb hQb)
                      have HS4 := Lib.hid (six hPc hQc)
                      obtain ⟨⟨s0_, s1_, s2_, s3_⟩, sf0, sf1, sf2, sf3⟩ := four (hL7.1.grown hga (by simp; omega)) rfl
                      obtain ⟨⟨r0_, r1_, r2_, r3_⟩, rf0, rf1, rf2, rf3⟩ := four HL6.out.1 rfl
                      clear hL7 hP7 hQ7 hLY hPY hQY hma hga hmb hgb hPa hQa hPb hQb hPc hQc
                      go_region_held3 (fun w' => w'.cell? ⟨wr.heap.size + 1 + 1, 0, none⟩ = some (.int .i64 (T : Int)) ∧ w'.cell? ⟨wr.heap.size + 1 + 1, 1, none⟩ = some (.int .i64 (C : Int)) ∧ w'.cell? ⟨w6.heap.size, 0, none⟩ = some (.bool do_) ∧ w'.cell? ⟨w6.heap.size, 1, none⟩ = some (.int .i64 dph) ∧ w'.cell? ⟨w6.heap.size, 2, none⟩ = some (.int .i64 dpa) ∧ w'.cell? ⟨w6.heap.size, 3, none⟩ = some (.int .i64 dwa)) (first | exact HS0.out | exact HS1.out | exact HS2.out | exact HS3.out | exact HS4.out | go_keep) (fail)
                      first
                        | (go_wp2_with (at_builtin; (refine wpList_append_own _ rfl (.tmp 100) (.tmp 102) 50 rfl (w.heap.size + 1 + 1 + 1) 3 i0 _ 1 8 Tryd.underlying50 hi0 hz0 hzs1 hz2 rfl (by omega) (.slice Av k cv) k _ rfl (HMB.out.2.2.2.1.alloc _) ⟨wb.heap.size, 0, none⟩ 1 1 [.int .i64 dan] rfl rfl ?_ ?_ ?_ ?_ ?_ ?_); (exact cell_lit _ [.int .i64 dan] 3); (simp [Value.oneCell']); (unfold maxLen; omega); (omega); (have := HMB.out.2.2.2.2.2.2; simp; omega); intro v' w9 hown9 hg9 hnil9)
                           go_roundw
                           case rel => exact ⟨k + 1, ⟨do_, dph, dpa, dwa⟩, outs ++ [dan], by omega, by go_num, mid_next HMB.out HX.out rfl rfl hg9 hown9, by rw [show n - (k + 1) = f by have := HFE.out; omega]; exact HREQ.out⟩
                           case measure => simp [intOf]; omega)
                        | (go_wp2_with (at_builtin; (refine wpList_append_own _ rfl (.tmp 100) (.tmp 102) 50 rfl (w.heap.size + 1 + 1 + 1) 3 i0 _ 1 8 Tryd.underlying50 hi0 hz0 hzs1 hz2 rfl (by omega) (.slice Av k cv) k _ rfl (HMA.out.2.2.2.1.alloc _) ⟨wa.heap.size, 0, none⟩ 1 1 [.int .i64 dan] rfl rfl ?_ ?_ ?_ ?_ ?_ ?_); (have := cell_lit ((((wa.setCell ⟨w.heap.size, 0, none⟩ (.bool do_)).setCell ⟨w.heap.size, 1, none⟩ (.int .i64 dph)).setCell ⟨w.heap.size, 2, none⟩ (.int .i64 dpa)).setCell ⟨w.heap.size, 3, none⟩ (.int .i64 dwa)) [.int .i64 dan] 3; simpa using this); (simp [Value.oneCell']); (unfold maxLen; omega); (omega); (have := HMA.out.2.2.2.2.2.2; simp at this; simp; omega); intro v' w9 hown9 hg9 hnil9)
                           go_roundw
                           case rel => exact ⟨k + 1, ⟨do_, dph, dpa, dwa⟩, outs ++ [dan], by omega, by go_num, mid_next HMA.out HX.out rfl rfl hg9 hown9, by rw [show n - (k + 1) = f by have := HFE.out; omega]; exact HREQ.out⟩
                           case measure => simp [intOf]; omega)
                    · have HREQ := Lib.hid (HRF.out.trans (rep_bad' HX.out HG.out HV.out HFX.out HDD.out))
                      have HER := Lib.hid (show errV 1 = .iface 26 (.int .i64 1) from rfl)
                      go_wp2_with (go_at_call 45; refine (HDO.out.prog _).mono ?_; rintro e w6 ⟨rfl, hb6⟩; rw [HER.out]; have hch := (((below_drewN ((Below.refl wr.heap.size wr).alloc (Nat.le_refl _) _) (nq + 1)).alloc (by simp) _).alloc (by simp; omega) _).trans (hb6.mono (by simp; omega)); have hL6 := HRL.out.below hch; have HL6 := Lib.hid hL6; have HCH := Lib.hid hch; have HB6 := Lib.hid hb6; have hP6 := (blk_at (t := 154) (cs := #[.int .i64 (T : Int), .int .i64 (C : Int)]) (by simp : _ = wr.heap.size + 1 + 1)).below hb6 (by simp); have HP6 := Lib.hid hP6; have zb0 := hL6.2.1.cell 0; have zb1 := hL6.2.1.cell 1; have zb2 := hL6.2.1.cell 2; have zb3 := hL6.2.1.cell 3; simp at zb0 zb1 zb2 zb3; have zg0 := hL6.2.1.frozen 0; have zg1 := hL6.2.1.frozen 1; have zg2 := hL6.2.1.frozen 2; have zg3 := hL6.2.1.frozen 3; have hz6 : w.heap.size < w6.heap.size := (by have := hL6.1.lt; omega); have hz7 : w.heap.size + 1 < w6.heap.size := (by have := hL6.2.1.lt; omega); clear hL6 hch hP6 hb6)
                      have B0 := HL6.out.2.1.set_ 0 (.bool false)
                      have B1 := B0.set_ 1 (.int .i64 0)
                      have B2 := B1.set_ 2 (.int .i64 0)
                      have B3 := B2.set_ 3 (.int .i64 0)
                      have e0 := B0.cell 0
                      have e1 := B1.cell 1
                      have e2 := B2.cell 2
                      have e3 := B3.cell 3
                      simp at e0 e1 e2 e3
                      refine bodyPost_ret (v := .tuple #[.agg zst, .slice none 0 0, .iface 146 (.pointer (some ⟨w6.heap.size + 1, 0, none⟩))]) (by simp [results, Tryd.results49, go_sem, e0, e1, e2, e3, hz6, hz7]) rfl ?_
                      exact fail_any (by decide) (((((HL6.out.2.2.2.2.2.1.setCell (p := ⟨w.heap.size + 1, 0, none⟩) (by simp) _).setCell (p := ⟨w.heap.size + 1, 1, none⟩) (by simp) _).setCell (p := ⟨w.heap.size + 1, 2, none⟩) (by simp) _).setCell (p := ⟨w.heap.size + 1, 3, none⟩) (by simp) _).alloc (by have := HL6.out.2.2.2.2.2.1.size; simp; omega) _) (by simp) HREQ.out
                  · have hv1 : 0 < V := by omega
                    have hfx : fixC ⟨9, m⟩ true V = ⟨10, V⟩ := congrArg (Cl.mk 10) (Int.max_eq_right (by omega))
                    have HFX := Lib.hid hfx
                    clear hfx hv0
                    have hlk := ((((HMP.out.alloc (.cells #[.int .i64 wh, .int .i64 (T : Int), .int .i64 (C : Int), .bool true] 151)).drewN (nq + 1)).alloc (.cells #[.int .i64 7, .int .i64 m] 79)).alloc (.cells #[.int .i64 (T : Int), .int .i64 (C : Int)] 154)).look Tryd.underlying153 (by kernel_rfl) (T : Int) (C : Int) HW.out.1 HW.out.2
                    rw [HV.out] at hlk
                    obtain ⟨hdo, herr, han0, han1⟩ := doS_is s ⟨10, V⟩
                    obtain ⟨d, hd⟩ : ∃ d, doS s ⟨10, V⟩ = d := ⟨_, rfl⟩
                    rw [hd] at hdo herr han0 han1
                    have HDD := Lib.hid hd
                    clear hd
                    obtain ⟨⟨do_, dph, dpa, dwa⟩, dan, der⟩ := d
                    simp only at hdo herr han0 han1
                    have HDO := Lib.hid hdo
                    clear hdo
                    rcases herr with rfl | rfl
                    · have HREQ := Lib.hid (HRF.out.trans (rep_ok' HX.out HG.out HV.out HFX.out HDD.out))
                      go_wp2_with (go_at_call 45; refine (HDO.out.prog _).mono ?_; rintro e w6 ⟨rfl, hb6⟩; rw [errV_zero]; have hch := (((below_drewN ((Below.refl wr.heap.size wr).alloc (Nat.le_refl _) _) (nq + 1)).alloc (by simp) _).alloc (by simp; omega) _).trans (hb6.mono (by simp; omega)); have hL6 := HRL.out.below hch; have HL6 := Lib.hid hL6; have HCH := Lib.hid hch; have HB6 := Lib.hid hb6; have hP6 := (blk_at (t := 154) (cs := #[.int .i64 (T : Int), .int .i64 (C : Int)]) (by simp : _ = wr.heap.size + 1 + 1)).below hb6 (by simp); have HP6 := Lib.hid hP6; have zb0 := hL6.2.1.cell 0; have zb1 := hL6.2.1.cell 1; have zb2 := hL6.2.1.cell 2; have zb3 := hL6.2.1.cell 3; simp at zb0 zb1 zb2 zb3; have zg0 := hL6.2.1.frozen 0; have zg1 := hL6.2.1.frozen 1; have zg2 := hL6.2.1.frozen 2; have zg3 := hL6.2.1.frozen 3; have hz6 : w.heap.size < w6.heap.size := (by have := hL6.1.lt; omega); have hz7 : w.heap.size + 1 < w6.heap.size := (by have := hL6.2.1.lt; omega); clear hL6 hch hP6 hb6)
                      have hpl := HP6.out.lt
                      have hwl : w.heap.size + 1 + 1 < w6.heap.size := HL6.out.2.2.1.lt
                      have hL7 := (HL6.out.below ((Below.refl _ _).alloc (Nat.le_refl _) (.cells #[.bool do_, .int .i64 dph, .int .i64 dpa, .int .i64 dwa] 39))).below (Below.refl _ _).drew
                      have hP7 := (HP6.out.alloc (.cells #[.bool do_, .int .i64 dph, .int .i64 dpa, .int .i64 dwa] 39)).drew
                      have hQ7 := (Blk.new w6 39 #[.bool do_, .int .i64 dph, .int .i64 dpa, .int .i64 dwa]).drew
                      have hLY := ((lrel_set (s' := ⟨do_, dph, dpa, dwa⟩) HL6.out).below ((Below.refl _ _).alloc (Nat.le_refl _) (.cells #[.bool do_, .int .i64 dph, .int .i64 dpa, .int .i64 dwa] 39))).below (Below.refl _ _).drew
                      have hPY := (((((HP6.out.far (p := ⟨w.heap.size, 0, none⟩) (by simp; omega) (.bool do_)).far (p := ⟨w.heap.size, 1, none⟩) (by simp; omega) (.int .i64 dph)).far (p := ⟨w.heap.size, 2, none⟩) (by simp; omega) (.int .i64 dpa)).far (p := ⟨w.heap.size, 3, none⟩) (by simp; omega) (.int .i64 dwa)).alloc (.cells #[.bool do_, .int .i64 dph, .int .i64 dpa, .int .i64 dwa] 39)).drew
                      have hQY := (blk_at (w := ((((w6.setCell ⟨w.heap.size, 0, none⟩ (.bool do_)).setCell ⟨w.heap.size, 1, none⟩ (.int .i64 dph)).setCell ⟨w.heap.size, 2, none⟩ (.int .i64 dpa)).setCell ⟨w.heap.size, 3, none⟩ (.int .i64 dwa))) (b := w6.heap.size) (t := 39) (cs := #[.bool do_, .int .i64 dph, .int .i64 dpa, .int .i64 dwa]) (by simp)).drew
                      obtain ⟨wa, hra, hma, hga⟩ := hL7.2.2.1.store Tryd.underlying153 (by unfold maxLen; omega) (T : Int) (C : Int) dan HW.out.1 HW.out.2 (wfI_in (by omega) (by omega))
                      obtain ⟨wb, hrb, hmb, hgb⟩ := hLY.2.2.1.store Tryd.underlying153 (by unfold maxLen; omega) (T : Int) (C : Int) dan HW.out.1 HW.out.2 (wfI_in (by omega) (by omega))
                      have HMA := Lib.hid (mid_map hL7 hma hga ⟨do_, dph, dpa, dwa⟩)
                      have HMB := Lib.hid (mid_any hLY hmb hgb)
                      have hPa := hP7.grown hga (by simp; omega)
                      have hQa := hQ7.grown hga (by simp; omega)
                      have hPb := hPY.grown hgb (by simp; omega)
                      have hQb := hQY.grown hgb (by simp; omega)
                      have hPc := (((hPa.far (p := ⟨w.heap.size, 0, none⟩) (by simp; omega) (.bool do_)).far (p := ⟨w.heap.size, 1, none⟩) (by simp; omega) (.int .i64 dph)).far (p := ⟨w.heap.size, 2, none⟩) (by simp; omega) (.int .i64 dpa)).far (p := ⟨w.heap.size, 3, none⟩) (by simp; omega) (.int .i64 dwa)
                      have hQc := (((hQa.far (p := ⟨w.heap.size, 0, none⟩) (by simp; omega) (.bool do_)).far (p := ⟨w.heap.size, 1, none⟩) (by simp; omega) (.int .i64 dph)).far (p := ⟨w.heap.size, 2, none⟩) (by simp; omega) (.int .i64 dpa)).far (p := ⟨w.heap.size, 3, none⟩) (by simp; omega) (.int .i64 dwa)
                      have HS0 := Lib.hid (six hP7 hQ7)
                      have HS1 := Lib.hid (six hPY hQY)
                      have HS2 := Lib.hid (six hPa hQa)
                      have HS3 := Lib.hid (six hPb hQb)
                      have HS4 := Lib.hid (six hPc hQc)
                      obtain ⟨⟨s0_, s1_, s2_, s3_⟩, sf0, sf1, sf2, sf3⟩ := four (hL7.1.grown hga (by simp; omega)) rfl
                      obtain ⟨⟨r0_, r1_, r2_, r3_⟩, rf0, rf1, rf2, rf3⟩ := four HL6.out.1 rfl
                      clear hL7 hP7 hQ7 hLY hPY hQY hma hga hmb hgb hPa hQa hPb hQb hPc hQc
                      go_region_held3 (fun w' => w'.cell? ⟨wr.heap.size + 1 + 1, 0, none⟩ = some (.int .i64 (T : Int)) ∧ w'.cell? ⟨wr.heap.size + 1 + 1, 1, none⟩ = some (.int .i64 (C : Int)) ∧ w'.cell? ⟨w6.heap.size, 0, none⟩ = some (.bool do_) ∧ w'.cell? ⟨w6.heap.size, 1, none⟩ = some (.int .i64 dph) ∧ w'.cell? ⟨w6.heap.size, 2, none⟩ = some (.int .i64 dpa) ∧ w'.cell? ⟨w6.heap.size, 3, none⟩ = some (.int .i64 dwa)) (first | exact HS0.out | exact HS1.out | exact HS2.out | exact HS3.out | exact HS4.out | go_keep) (fail)
                      first
                        | (go_wp2_with (at_builtin; (refine wpList_append_own _ rfl (.tmp 100) (.tmp 102) 50 rfl (w.heap.size + 1 + 1 + 1) 3 i0 _ 1 8 Tryd.underlying50 hi0 hz0 hzs1 hz2 rfl (by omega) (.slice Av k cv) k _ rfl (HMB.out.2.2.2.1.alloc _) ⟨wb.heap.size, 0, none⟩ 1 1 [.int .i64 dan] rfl rfl ?_ ?_ ?_ ?_ ?_ ?_); (exact cell_lit _ [.int .i64 dan] 3); (simp [Value.oneCell']); (unfold maxLen; omega); (omega); (have := HMB.out.2.2.2.2.2.2; simp; omega); intro v' w9 hown9 hg9 hnil9)
                           go_roundw
                           case rel => exact ⟨k + 1, ⟨do_, dph, dpa, dwa⟩, outs ++ [dan], by omega, by go_num, mid_next HMB.out HX.out rfl rfl hg9 hown9, by rw [show n - (k + 1) = f by have := HFE.out; omega]; exact HREQ.out⟩
                           case measure => simp [intOf]; omega)
                        | (go_wp2_with (at_builtin; (refine wpList_append_own _ rfl (.tmp 100) (.tmp 102) 50 rfl (w.heap.size + 1 + 1 + 1) 3 i0 _ 1 8 Tryd.underlying50 hi0 hz0 hzs1 hz2 rfl (by omega) (.slice Av k cv) k _ rfl (HMA.out.2.2.2.1.alloc _) ⟨wa.heap.size, 0, none⟩ 1 1 [.int .i64 dan] rfl rfl ?_ ?_ ?_ ?_ ?_ ?_); (have := cell_lit ((((wa.setCell ⟨w.heap.size, 0, none⟩ (.bool do_)).setCell ⟨w.heap.size, 1, none⟩ (.int .i64 dph)).setCell ⟨w.heap.size, 2, none⟩ (.int .i64 dpa)).setCell ⟨w.heap.size, 3, none⟩ (.int .i64 dwa)) [.int .i64 dan] 3; simpa using this); (simp [Value.oneCell']); (unfold maxLen; omega); (omega); (have := HMA.out.2.2.2.2.2.2; simp at this; simp; omega); intro v' w9 hown9 hg9 hnil9)
                           go_roundw
                           case rel => exact ⟨k + 1, ⟨do_, dph, dpa, dwa⟩, outs ++ [dan], by omega, by go_num, mid_next HMA.out HX.out rfl rfl hg9 hown9, by rw [show n - (k + 1) = f by have := HFE.out; omega]; exact HREQ.out⟩
                           case measure => simp [intOf]; omega)
                    · have HREQ := Lib.hid (HRF.out.trans (rep_bad' HX.out HG.out HV.out HFX.out HDD.out))
                      have HER := Lib.hid (show errV 1 = .iface 26 (.int .i64 1) from rfl)
                      go_wp2_with (go_at_call 45; refine (HDO.out.prog _).mono ?_; rintro e w6 ⟨rfl, hb6⟩; rw [HER.out]; have hch := (((below_drewN ((Below.refl wr.heap.size wr).alloc (Nat.le_refl _) _) (nq + 1)).alloc (by simp) _).alloc (by simp; omega) _).trans (hb6.mono (by simp; omega)); have hL6 := HRL.out.below hch; have HL6 := Lib.hid hL6; have HCH := Lib.hid hch; have HB6 := Lib.hid hb6; have hP6 := (blk_at (t := 154) (cs := #[.int .i64 (T : Int), .int .i64 (C : Int)]) (by simp : _ = wr.heap.size + 1 + 1)).below hb6 (by simp); have HP6 := Lib.hid hP6; have zb0 := hL6.2.1.cell 0; have zb1 := hL6.2.1.cell 1; have zb2 := hL6.2.1.cell 2; have zb3 := hL6.2.1.cell 3; simp at zb0 zb1 zb2 zb3; have zg0 := hL6.2.1.frozen 0; have zg1 := hL6.2.1.frozen 1; have zg2 := hL6.2.1.frozen 2; have zg3 := hL6.2.1.frozen 3; have hz6 : w.heap.size < w6.heap.size := (by have := hL6.1.lt; omega); have hz7 : w.heap.size + 1 < w6.heap.size := (by have := hL6.2.1.lt; omega); clear hL6 hch hP6 hb6)
                      have B0 := HL6.out.2.1.set_ 0 (.bool false)
                      have B1 := B0.set_ 1 (.int .i64 0)
                      have B2 := B1.set_ 2 (.int .i64 0)
                      have B3 := B2.set_ 3 (.int .i64 0)
                      have e0 := B0.cell 0
                      have e1 := B1.cell 1
                      have e2 := B2.cell 2
                      have e3 := B3.cell 3
                      simp at e0 e1 e2 e3
                      refine bodyPost_ret (v := .tuple #[.agg zst, .slice none 0 0, .iface 146 (.pointer (some ⟨w6.heap.size + 1, 0, none⟩))]) (by simp [results, Tryd.results49, go_sem, e0, e1, e2, e3, hz6, hz7]) rfl ?_
                      exact fail_any (by decide) (((((HL6.out.2.2.2.2.2.1.setCell (p := ⟨w.heap.size + 1, 0, none⟩) (by simp) _).setCell (p := ⟨w.heap.size + 1, 1, none⟩) (by simp) _).setCell (p := ⟨w.heap.size + 1, 2, none⟩) (by simp) _).setCell (p := ⟨w.heap.size + 1, 3, none⟩) (by simp) _).alloc (by have := HL6.out.2.2.2.2.2.1.size; simp; omega) _) (by simp) HREQ.out
              · have hb9 : (what == 9) = false := by simpa using hw9
                have hfx : fixC ⟨what, m⟩ la V = ⟨what, m⟩ := by unfold fixC; rw [if_neg hw9]
                have HFX := Lib.hid hfx
                clear hfx hw9
                obtain ⟨hdo, herr, han0, han1⟩ := doS_is s ⟨what, m⟩
                obtain ⟨d, hd⟩ : ∃ d, doS s ⟨what, m⟩ = d := ⟨_, rfl⟩
                rw [hd] at hdo herr han0 han1
                have HDD := Lib.hid hd
                clear hd
                obtain ⟨⟨do_, dph, dpa, dwa⟩, dan, der⟩ := d
                simp only at hdo herr han0 han1
                have HDO := Lib.hid hdo
                clear hdo
                rcases herr with rfl | rfl
                · have HREQ := Lib.hid (HRF.out.trans (rep_ok' HX.out HG.out HV.out HFX.out HDD.out))
                  go_wp2_with (go_at_call 45; refine (HDO.out.prog _).mono ?_; rintro e w6 ⟨rfl, hb6⟩; rw [errV_zero]; have hch := (((below_drewN ((Below.refl wr.heap.size wr).alloc (Nat.le_refl _) _) (nq + 1)).alloc (by simp) _).alloc (by simp; omega) _).trans (hb6.mono (by simp; omega)); have hL6 := HRL.out.below hch; have HL6 := Lib.hid hL6; have HCH := Lib.hid hch; have HB6 := Lib.hid hb6; have hP6 := (blk_at (t := 154) (cs := #[.int .i64 (T : Int), .int .i64 (C : Int)]) (by simp : _ = wr.heap.size + 1 + 1)).below hb6 (by simp); have HP6 := Lib.hid hP6; have zb0 := hL6.2.1.cell 0; have zb1 := hL6.2.1.cell 1; have zb2 := hL6.2.1.cell 2; have zb3 := hL6.2.1.cell 3; simp at zb0 zb1 zb2 zb3; have zg0 := hL6.2.1.frozen 0; have zg1 := hL6.2.1.frozen 1; have zg2 := hL6.2.1.frozen 2; have zg3 := hL6.2.1.frozen 3; have hz6 : w.heap.size < w6.heap.size := (by have := hL6.1.lt; omega); have hz7 : w.heap.size + 1 < w6.heap.size := (by have := hL6.2.1.lt; omega); clear hL6 hch hP6 hb6)
                  have hpl := HP6.out.lt
                  have hwl : w.heap.size + 1 + 1 < w6.heap.size := HL6.out.2.2.1.lt
                  have hL7 := (HL6.out.below ((Below.refl _ _).alloc (Nat.le_refl _) (.cells #[.bool do_, .int .i64 dph, .int .i64 dpa, .int .i64 dwa] 39))).below (Below.refl _ _).drew
                  have hP7 := (HP6.out.alloc (.cells #[.bool do_, .int .i64 dph, .int .i64 dpa, .int .i64 dwa] 39)).drew
                  have hQ7 := (Blk.new w6 39 #[.bool do_, .int .i64 dph, .int .i64 dpa, .int .i64 dwa]).drew
                  have hLY := ((lrel_set (s' := ⟨do_, dph, dpa, dwa⟩) HL6.out).below ((Below.refl _ _).alloc (Nat.le_refl _) (.cells #[.bool do_, .int .i64 dph, .int .i64 dpa, .int .i64 dwa] 39))).below (Below.refl _ _).drew
                  have hPY := (((((HP6.out.far (p := ⟨w.heap.size, 0, none⟩) (by simp; omega) (.bool do_)).far (p := ⟨w.heap.size, 1, none⟩) (by simp; omega) (.int .i64 dph)).far (p := ⟨w.heap.size, 2, none⟩) (by simp; omega) (.int .i64 dpa)).far (p := ⟨w.heap.size, 3, none⟩) (by simp; omega) (.int .i64 dwa)).alloc (.cells #[.bool do_, .int .i64 dph, .int .i64 dpa, .int .i64 dwa] 39)).drew
                  have hQY := (blk_at (w := ((((w6.setCell ⟨w.heap.size, 0, none⟩ (.bool do_)).setCell ⟨w.heap.size, 1, none⟩ (.int .i64 dph)).setCell ⟨w.heap.size, 2, none⟩ (.int .i64 dpa)).setCell ⟨w.heap.size, 3, none⟩ (.int .i64 dwa))) (b := w6.heap.size) (t := 39) (cs := #[.bool do_, .int .i64 dph, .int .i64 dpa, .int .i64 dwa]) (by simp)).drew
                  obtain ⟨wa, hra, hma, hga⟩ := hL7.2.2.1.store Tryd.underlying153 (by unfold maxLen; omega) (T : Int) (C : Int) dan HW.out.1 HW.out.2 (wfI_in (by omega) (by omega))
                  obtain ⟨wb, hrb, hmb, hgb⟩ := hLY.2.2.1.store Tryd.underlying153 (by unfold maxLen; omega) (T : Int) (C : Int) dan HW.out.1 HW.out.2 (wfI_in (by omega) (by omega))
                  have HMA := Lib.hid (mid_map hL7 hma hga ⟨do_, dph, dpa, dwa⟩)
                  have HMB := Lib.hid (mid_any hLY hmb hgb)
                  have hPa := hP7.grown hga (by simp; omega)
                  have hQa := hQ7.grown hga (by simp; omega)
                  have hPb := hPY.grown hgb (by simp; omega)
                  have hQb := hQY.grown hgb (by simp; omega)
                  have hPc := (((hPa.far (p := ⟨w.heap.size, 0, none⟩) (by simp; omega) (.bool do_)).far (p := ⟨w.heap.size, 1, none⟩) (by simp; omega) (.int .i64 dph)).far (p := ⟨w.heap.size, 2, none⟩) (by simp; omega) (.int .i64 dpa)).far (p := ⟨w.heap.size, 3, none⟩) (by simp; omega) (.int .i64 dwa)
                  have hQc := (((hQa.far (p := ⟨w.heap.size, 0, none⟩) (by simp; omega) (.bool do_)).far (p := ⟨w.heap.size, 1, none⟩) (by simp; omega) (.int .i64 dph)).far (p := ⟨w.heap.size, 2, none⟩) (by simp; omega) (.int .i64 dpa)).far (p := ⟨w.heap.size, 3, none⟩) (by simp; omega) (.int .i64 dwa)
                  have HS0 := Lib.hid (six hP7 hQ7)
                  have HS1 := Lib.hid (six hPY hQY)
                  have HS2 := Lib.hid (six hPa hQa)
                  have HS3 := Lib.hid (six hPb hQb)
                  have HS4 := Lib.hid (six hPc hQc)
                  obtain ⟨⟨s0_, s1_, s2_, s3_⟩, sf0, sf1, sf2, sf3⟩ := four (hL7.1.grown hga (by simp; omega)) rfl
                  obtain ⟨⟨r0_, r1_, r2_, r3_⟩, rf0, rf1, rf2, rf3⟩ := four HL6.out.1 rfl
                  clear hL7 hP7 hQ7 hLY hPY hQY hma hga hmb hgb hPa hQa hPb hQb hPc hQc
                  go_region_held3 (fun w' => w'.cell? ⟨wr.heap.size + 1 + 1, 0, none⟩ = some (.int .i64 (T : Int)) ∧ w'.cell? ⟨wr.heap.size + 1 + 1, 1, none⟩ = some (.int .i64 (C : Int)) ∧ w'.cell? ⟨w6.heap.size, 0, none⟩ = some (.bool do_) ∧ w'.cell? ⟨w6.heap.size, 1, none⟩ = some (.int .i64 dph) ∧ w'.cell? ⟨w6.heap.size, 2, none⟩ = some (.int .i64 dpa) ∧ w'.cell? ⟨w6.heap.size, 3, none⟩ = some (.int .i64 dwa)) (first | exact HS0.out | exact HS1.out | exact HS2.out | exact HS3.out | exact HS4.out | go_keep) (fail)
                  first
                    | (go_wp2_with (at_builtin; (refine wpList_append_own _ rfl (.tmp 100) (.tmp 102) 50 rfl (w.heap.size + 1 + 1 + 1) 3 i0 _ 1 8 Tryd.underlying50 hi0 hz0 hzs1 hz2 rfl (by omega) (.slice Av k cv) k _ rfl (HMB.out.2.2.2.1.alloc _) ⟨wb.heap.size, 0, none⟩ 1 1 [.int .i64 dan] rfl rfl ?_ ?_ ?_ ?_ ?_ ?_); (exact cell_lit _ [.int .i64 dan] 3); (simp [Value.oneCell']); (unfold maxLen; omega); (omega); (have := HMB.out.2.2.2.2.2.2; simp; omega); intro v' w9 hown9 hg9 hnil9)
                       go_roundw
                       case rel => exact ⟨k + 1, ⟨do_, dph, dpa, dwa⟩, outs ++ [dan], by omega, by go_num, mid_next HMB.out HX.out rfl rfl hg9 hown9, by rw [show n - (k + 1) = f by have := HFE.out; omega]; exact HREQ.out⟩
                       case measure => simp [intOf]; omega)
                    | (go_wp2_with (at_builtin; (refine wpList_append_own _ rfl (.tmp 100) (.tmp 102) 50 rfl (w.heap.size + 1 + 1 + 1) 3 i0 _ 1 8 Tryd.underlying50 hi0 hz0 hzs1 hz2 rfl (by omega) (.slice Av k cv) k _ rfl (HMA.out.2.2.2.1.alloc _) ⟨wa.heap.size, 0, none⟩ 1 1 [.int .i64 dan] rfl rfl ?_ ?_ ?_ ?_ ?_ ?_); (have := cell_lit ((((wa.setCell ⟨w.heap.size, 0, none⟩ (.bool do_)).setCell ⟨w.heap.size, 1, none⟩ (.int .i64 dph)).setCell ⟨w.heap.size, 2, none⟩ (.int .i64 dpa)).setCell ⟨w.heap.size, 3, none⟩ (.int .i64 dwa)) [.int .i64 dan] 3; simpa using this); (simp [Value.oneCell']); (unfold maxLen; omega); (omega); (have := HMA.out.2.2.2.2.2.2; simp at this; simp; omega); intro v' w9 hown9 hg9 hnil9)
                       go_roundw
                       case rel => exact ⟨k + 1, ⟨do_, dph, dpa, dwa⟩, outs ++ [dan], by omega, by go_num, mid_next HMA.out HX.out rfl rfl hg9 hown9, by rw [show n - (k + 1) = f by have := HFE.out; omega]; exact HREQ.out⟩
                       case measure => simp [intOf]; omega)
                · have HREQ := Lib.hid (HRF.out.trans (rep_bad' HX.out HG.out HV.out HFX.out HDD.out))
                  have HER := Lib.hid (show errV 1 = .iface 26 (.int .i64 1) from rfl)
                  go_wp2_with (go_at_call 45; refine (HDO.out.prog _).mono ?_; rintro e w6 ⟨rfl, hb6⟩; rw [HER.out]; have hch := (((below_drewN ((Below.refl wr.heap.size wr).alloc (Nat.le_refl _) _) (nq + 1)).alloc (by simp) _).alloc (by simp; omega) _).trans (hb6.mono (by simp; omega)); have hL6 := HRL.out.below hch; have HL6 := Lib.hid hL6; have HCH := Lib.hid hch; have HB6 := Lib.hid hb6; have hP6 := (blk_at (t := 154) (cs := #[.int .i64 (T : Int), .int .i64 (C : Int)]) (by simp : _ = wr.heap.size + 1 + 1)).below hb6 (by simp); have HP6 := Lib.hid hP6; have zb0 := hL6.2.1.cell 0; have zb1 := hL6.2.1.cell 1; have zb2 := hL6.2.1.cell 2; have zb3 := hL6.2.1.cell 3; simp at zb0 zb1 zb2 zb3; have zg0 := hL6.2.1.frozen 0; have zg1 := hL6.2.1.frozen 1; have zg2 := hL6.2.1.frozen 2; have zg3 := hL6.2.1.frozen 3; have hz6 : w.heap.size < w6.heap.size := (by have := hL6.1.lt; omega); have hz7 : w.heap.size + 1 < w6.heap.size := (by have := hL6.2.1.lt; omega); clear hL6 hch hP6 hb6)
                  have B0 := HL6.out.2.1.set_ 0 (.bool false)
                  have B1 := B0.set_ 1 (.int .i64 0)
                  have B2 := B1.set_ 2 (.int .i64 0)
                  have B3 := B2.set_ 3 (.int .i64 0)
                  have e0 := B0.cell 0
                  have e1 := B1.cell 1
                  have e2 := B2.cell 2
                  have e3 := B3.cell 3
                  simp at e0 e1 e2 e3
                  refine bodyPost_ret (v := .tuple #[.agg zst, .slice none 0 0, .iface 146 (.pointer (some ⟨w6.heap.size + 1, 0, none⟩))]) (by simp [results, Tryd.results49, go_sem, e0, e1, e2, e3, hz6, hz7]) rfl ?_
                  exact fail_any (by decide) (((((HL6.out.2.2.2.2.2.1.setCell (p := ⟨w.heap.size + 1, 0, none⟩) (by simp) _).setCell (p := ⟨w.heap.size + 1, 1, none⟩) (by simp) _).setCell (p := ⟨w.heap.size + 1, 2, none⟩) (by simp) _).setCell (p := ⟨w.heap.size + 1, 3, none⟩) (by simp) _).alloc (by have := HL6.out.2.2.2.2.2.1.size; simp; omega) _) (by simp) HREQ.out
            · have u1' : nl ≤ C := by omega
              have d3 : decide (nl ≤ C) = true := by simpa using u1'
              clear u1
              have HG := Lib.hid (HRF.out.trans (rep_none HX.out (getC_out2 HLI.out (by rw [HNL.out]; omega))))
              go_wp2
              go_quiet (fail)
              go_wp2
              have B0 := ((HZ.out.alloc (.cells #[.int .i64 wh, .int .i64 (T : Int), .int .i64 (C : Int), .bool la] 151)).drewN nq).set_ 0 (.bool false)
              have B1 := B0.set_ 1 (.int .i64 0)
              have B2 := B1.set_ 2 (.int .i64 0)
              have B3 := B2.set_ 3 (.int .i64 0)
              have e0 := B0.cell 0
              have e1 := B1.cell 1
              have e2 := B2.cell 2
              have e3 := B3.cell 3
              simp at e0 e1 e2 e3
              refine bodyPost_ret (v := .tuple #[.agg zst, .slice none 0 0, .iface 146 (.pointer (some ⟨wr.heap.size + 1, 0, none⟩))]) (by simp [results, Tryd.results49, go_sem, e0, e1, e2, e3, y0]) rfl ?_
              exact fail_end (by decide) (below_drewN (hbel.alloc hbel.size _) _) (by simp) (HG.out) _ _ _ _
          · have u0' : ca < 0 := by omega
            have d2 : decide (ca < 0) = true := by simpa using u0'
            clear u0
            have HG := Lib.hid (HRF.out.trans (rep_none HX.out (getC_neg (.inr (show ca < 0 by omega)))))
            go_wp2
            go_quiet (fail)
            go_wp2
            have B0 := ((HZ.out.alloc (.cells #[.int .i64 wh, .int .i64 (T : Int), .int .i64 ca, .bool la] 151)).drewN nq).set_ 0 (.bool false)
            have B1 := B0.set_ 1 (.int .i64 0)
            have B2 := B1.set_ 2 (.int .i64 0)
            have B3 := B2.set_ 3 (.int .i64 0)
            have e0 := B0.cell 0
            have e1 := B1.cell 1
            have e2 := B2.cell 2
            have e3 := B3.cell 3
            simp at e0 e1 e2 e3
            refine bodyPost_ret (v := .tuple #[.agg zst, .slice none 0 0, .iface 146 (.pointer (some ⟨wr.heap.size + 1, 0, none⟩))]) (by simp [results, Tryd.results49, go_sem, e0, e1, e2, e3, y0]) rfl ?_
            exact fail_end (by decide) (below_drewN (hbel.alloc hbel.size _) _) (by simp) (HG.out) _ _ _ _
        · have t1' : nc ≤ T := by omega
          have d1 : decide (nc ≤ T) = true := by simpa using t1'
          clear t1
          have HG := Lib.hid (HRF.out.trans (rep_none HX.out (getC_out (by rw [HCS.out.1]; omega))))
          go_wp2
          go_quiet (fail)
          go_wp2
          have B0 := ((HZ.out.alloc (.cells #[.int .i64 wh, .int .i64 (T : Int), .int .i64 ca, .bool la] 151)).drewN nq).set_ 0 (.bool false)
          have B1 := B0.set_ 1 (.int .i64 0)
          have B2 := B1.set_ 2 (.int .i64 0)
          have B3 := B2.set_ 3 (.int .i64 0)
          have e0 := B0.cell 0
          have e1 := B1.cell 1
          have e2 := B2.cell 2
          have e3 := B3.cell 3
          simp at e0 e1 e2 e3
          refine bodyPost_ret (v := .tuple #[.agg zst, .slice none 0 0, .iface 146 (.pointer (some ⟨wr.heap.size + 1, 0, none⟩))]) (by simp [results, Tryd.results49, go_sem, e0, e1, e2, e3, y0]) rfl ?_
          exact fail_end (by decide) (below_drewN (hbel.alloc hbel.size _) _) (by simp) (HG.out) _ _ _ _
      · have t0' : th < 0 := by omega
        have d0 : decide (th < 0) = true := by simpa using t0'
        clear t0
        have HG := Lib.hid (HRF.out.trans (rep_none HX.out (getC_neg (.inl (show th < 0 by omega)))))
        go_wp2
        go_quiet (fail)
        go_wp2
        have B0 := ((HZ.out.alloc (.cells #[.int .i64 wh, .int .i64 th, .int .i64 ca, .bool la] 151)).drewN nq).set_ 0 (.bool false)
        have B1 := B0.set_ 1 (.int .i64 0)
        have B2 := B1.set_ 2 (.int .i64 0)
        have B3 := B2.set_ 3 (.int .i64 0)
        have e0 := B0.cell 0
        have e1 := B1.cell 1
        have e2 := B2.cell 2
        have e3 := B3.cell 3
        simp at e0 e1 e2 e3
        refine bodyPost_ret (v := .tuple #[.agg zst, .slice none 0 0, .iface 146 (.pointer (some ⟨wr.heap.size + 1, 0, none⟩))]) (by simp [results, Tryd.results49, go_sem, e0, e1, e2, e3, y0]) rfl ?_
        exact fail_end (by decide) (below_drewN (hbel.alloc hbel.size _) _) (by simp) (HG.out) _ _ _ _
    · obtain rfl : k = n := by omega
      have a0 := HA.out.cell 0
      have a1 := HA.out.cell 1
      have a2 := HA.out.cell 2
      have a3 := HA.out.cell 3
      simp at a0 a1 a2 a3
      have HOWN := Lib.hid hown
      clear hown
      go_wp2
      have B0 := HZ.out.set_ 0 (.bool s.o)
      have B1 := B0.set_ 1 (.int .i64 s.ph)
      have B2 := B1.set_ 2 (.int .i64 s.pa)
      have B3 := B2.set_ 3 (.int .i64 s.wa)
      have e0 := B0.cell 0
      have e1 := B1.cell 1
      have e2 := B2.cell 2
      have e3 := B3.cell 3
      simp at e0 e1 e2 e3
      refine bodyPost_ret (v := .tuple #[stv s, .slice Av k cv, .nilIface]) (by simp [results, Tryd.results49, go_sem, e0, e1, e2, e3]) rfl ?_
      exact done_end hbel HOWN.out HOL.out (by rw [HREP.out, Nat.sub_self]; rfl) _ _ _ _
end Go.Proofs.YtepoahinnfjaiaaDoor
