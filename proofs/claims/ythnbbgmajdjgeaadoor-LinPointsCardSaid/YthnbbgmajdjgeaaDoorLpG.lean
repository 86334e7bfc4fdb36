/- LinPoints, the program's half: lin.Points (function 6). Conditions: calls, acts and events lie below this call's memory. -/
import Derived.Test.YthnbbgmajdjgeaaDoorLpF
import Derived.Deep.RegionLawGrows
import Derived.Deep.AppendLies
namespace Go.Proofs.YthnbbgmajdjgeaaDoor
open Go.RowKit Go.Extern.Stop Go.Stop Go.Extern

structure PR where
  code : Int
  place : Int
  pts : List Pt
/-- What comes of it: an error at a place, or the points. -/
noncomputable def ptsR (cs : List (List Cl)) (acts : List Ac) (evs : List Ev) : PR :=
  if 16 < cs.length then ⟨4, -1, []⟩ else match evF cs evs 0 (fun _ => []) with
    | (some i, _) => ⟨13, i, []⟩
    | (none, E) => ⟨0, -1, sortP (ptT cs acts E cs.length 0 [])⟩
theorem ptsR_limit {cs : List (List Cl)} {acts : List Ac} {evs : List Ev} (h : 16 < cs.length) : ptsR cs acts evs = ⟨4, -1, []⟩ := by unfold ptsR; rw [if_pos h]
theorem ptsR_false {cs : List (List Cl)} {acts : List Ac} {evs : List Ev} {i : Nat} {E : Nat → List Int} (h : ¬ 16 < cs.length) (h2 : evF cs evs 0 (fun _ => []) = (some i, E)) : ptsR cs acts evs = ⟨13, i, []⟩ := by unfold ptsR; rw [if_neg h, h2]
theorem ptsR_ok {cs : List (List Cl)} {acts : List Ac} {evs : List Ev} {E : Nat → List Int} (h : ¬ 16 < cs.length) (h2 : evF cs evs 0 (fun _ => []) = (none, E)) : ptsR cs acts evs = ⟨0, -1, sortP (ptT cs acts E cs.length 0 [])⟩ := by unfold ptsR; rw [if_neg h, h2]
def PEnd (R : PR) (w : World) (e : Ending) (w' : World) : Prop :=
  ∃ A c v, e = .returned (.tuple #[.slice A R.pts.length c, v]) ∧ Reads w' w'.heap.size 4 A R.pts.length (flatP R.pts) ∧ IsErr w' v R.code R.place ∧ Below w.heap.size w w'
def EvRel (w : World) (cs : List (List Cl)) (nc : Nat) (evs : List Ev) (i : Nat) (E : Nat → List Int) (wr : World) : Prop :=
  EndsIn wr w.heap.size w.heap.size nc E ∧ evF cs (evs.drop i) i E = evF cs evs 0 (fun _ => []) ∧ (∀ t l, cs[t]? = some l → (E t).length ≤ l.length) ∧ (∀ t, (E t).length ≤ i) ∧ Below w.heap.size w wr
theorem evRel_start (w : World) (cs : List (List Cl)) (nc : Nat) (evs : List Ev) : EvRel w cs nc evs 0 (fun _ => []) (w.alloc (.cells (madeCells #[.slice none 0 0] nc) 64)) :=
  ⟨EndsIn.start w nc _, rfl, fun _ _ _ => Nat.zero_le _, fun _ => Nat.le_refl _, (Below.refl _ _).alloc (Nat.le_refl _) _⟩
theorem evRel_next {w wr w' : World} {cs : List (List Cl)} {nc : Nat} {evs : List Ev} {i T : Nat} {E : Nat → List Int} {e : Ev} {l : List Cl} (h : EvRel w cs nc evs i E wr) (he : evs[i]? = some e) (hw : e.wt = 3) (hT : e.th = T) (hl : cs[T]? = some l) (hlt : (E T).length < l.length)
    (hE : EndsIn w' w.heap.size w.heap.size nc (updE E T e.wh)) (hb : Below w.heap.size w w') : EvRel w cs nc evs (i + 1) (updE E T e.wh) w' := by
  obtain ⟨h1, h2, h3, h4, h5⟩ := h
  obtain ⟨hi, rfl⟩ := List.getElem?_eq_some_iff.1 he
  have hTl : T < cs.length := (List.getElem?_eq_some_iff.1 hl).1
  refine ⟨hE, ?_, fun t l' hl' => ?_, fun t => ?_, hb⟩
  · rw [← h2, List.drop_eq_getElem_cons hi, evF_ok ⟨hw, by omega, by omega, by rw [hT, Int.toNat_natCast, hl]; exact hlt⟩, hT, Int.toNat_natCast]
  · unfold updE
    by_cases e : t = T
    · subst e
      rw [if_pos rfl, List.length_append]
      rw [hl] at hl'
      injection hl' with hl'
      subst hl'
      simp only [List.length_cons, List.length_nil]
      omega
    · rw [if_neg e]; exact h3 t l' hl'
  · unfold updE
    have := h4 t
    split
    · rw [List.length_append]; simp only [List.length_cons, List.length_nil]; omega
    · omega
theorem evRel_bad {w wr : World} {cs : List (List Cl)} {nc : Nat} {acts : List Ac} {evs : List Ev} {i : Nat} {E : Nat → List Int} {e : Ev} (h : EvRel w cs nc evs i E wr) (hc : ¬ 16 < cs.length) (he : evs[i]? = some e) (hb : ¬ evOk cs E e) : ptsR cs acts evs = ⟨13, i, []⟩ := by
  obtain ⟨_, h2, _⟩ := h
  obtain ⟨hi, rfl⟩ := List.getElem?_eq_some_iff.1 he
  refine ptsR_false (E := E) hc ?_
  rw [← h2, List.drop_eq_getElem_cons hi, evF_bad hb]
theorem below_drn {B : Nat} {w wr : World} (h3 : Below B w wr) (q : Nat) : Below B w (wr.drewN q) := ⟨h3.os, h3.tape, h3.output, h3.size, h3.block⟩
theorem pfail {w wr : World} {R : PR} {code place : Int} {g : Nat} (hR : R = ⟨code, place, []⟩) (hc : code ≠ 0) (hb : Below w.heap.size w wr) (hg : wr.heap.size = g) :
    PEnd R w (.returned (.tuple #[.slice none 0 0, .iface 65 (.pointer (some ⟨g, 0, none⟩))])) (wr.alloc (.cells #[.int .i64 code, .int .i64 place] 67)) := by
  subst hR hg
  have hB := Blk.new wr 67 #[.int .i64 code, .int .i64 place]
  exact ⟨none, 0, _, rfl, Reads.none_, .inr (.inr ⟨_, 0, rfl, hc, hB.cell 0, hB.cell 1⟩), hb.alloc hb.size _⟩
theorem pdone {w w1 : World} {R : PR} {out : List Pt} {A : Option Addr} {c : Nat} (hR : R = ⟨0, -1, sortP out⟩) (hr : Reads w1 w1.heap.size 4 A out.length (flatP (sortP out))) (hb : Below w.heap.size w w1) :
    PEnd R w (.returned (.tuple #[.slice A out.length c, .nilIface])) w1 := by
  subst hR
  exact ⟨A, c, _, by simp only [sortP_len], by simp only [sortP_len]; exact hr, IsErr.nil_ _, hb⟩
theorem Tryd.info64 : (Tryd.prog.info? 64).map (fun i => (i.zero, i.size, i.bytes)) = some (some (.slice none 0 0), 1, 24) := by kernel_rfl
theorem Tryd.info3p : (Tryd.prog.info? 3).map (fun i => (i.zero, i.size, i.bytes)) = some (some (.int .i64 0), 1, 8) := by kernel_rfl
theorem Tryd.info39p : (Tryd.prog.info? 39).map (fun i => (i.zero, i.size, i.bytes)) = some (some zPt, 4, 32) := by kernel_rfl
theorem effS_nd (t fr x y : Int) : ∀ (l : List Ac) (s : Option Int × Option Int), effS t fr x false l s = effS t fr y false l s
  | [], _ => rfl
  | a :: l, s => by
    rw [effS, effS]
    exact effS_nd t fr x y l _
theorem eff_nd (t k what : Int) (acts : List Ac) (fr x y : Int) : eff t k what acts fr x false = eff t k what acts fr y false := by unfold eff; rw [effS_nd t fr x y]
def OutRel (w : World) (nc : Nat) (E : Nat → List Int) (b : Nat) (out : List Pt) (v : Value) (wr : World) : Prop :=
  wr.ownsRow w.heap.size 39 4 v out.length (flatP out) ∧ EndsIn wr w.heap.size w.heap.size nc E ∧ out.length ≤ b ∧ Below w.heap.size w wr
theorem outRel_next {w wr w1 w2 : World} {nc b m : Nat} {E : Nat → List Int} {out ps : List Pt} {v v' : Value} (h : OutRel w nc E b out v wr) (hb : Below wr.heap.size wr w1) (hm : ps.length = m) (hp : m ≤ 2)
    (hown : w2.ownsRow w.heap.size 39 4 v' (out.length + m) (flatP out ++ flatP ps)) (hg : w1.grownBy w2 v.ownBlock) : OutRel w nc E (b + 2) (out ++ ps) v' w2 := by
  obtain ⟨h1, h2, h3, h4⟩ := h
  have h1' := own_belowP h1 hb
  have h4' := h4.trans (hb.mono h4.size)
  refine ⟨?_, (h2.below hb).grown h1' (by decide) (by decide) hg, by rw [List.length_append]; omega, h4'.grown hg h4'.size (fun g e => (h1.lt g e).1)⟩
  rw [List.length_append, flatP_append, hm]
  exact hown
theorem ptc_all (l : List Pt) : ∀ u ∈ flatP l, u.oneCell' = true := by
  intro u hu
  obtain ⟨x, _, hx⟩ := List.mem_flatMap.1 hu
  exact ptc_one x u hx
set_option maxRecDepth 100000 in
set_option maxHeartbeats 32000000 in
theorem points_f (Ap : Option Addr) (nc cc : Nat) (cs : List (List Cl)) (Aa : Option Addr) (na ca : Nat) (acts : List Ac) (Ae : Option Addr) (ne ce : Nat) (evs : List Ev) (B : Nat) (w : World)
    (hcs : CallsIn w B Ap nc cs) (ha : acts.length = na) (hra : Reads w B 6 Aa na (flatA acts)) (he : evs.length = ne) (hre : Reads w B 4 Ae ne (flatE evs)) (hB : B ≤ w.heap.size) (hnc : nc ≤ 20) (hna : na ≤ 300) (hne : ne ≤ 100) (hsum : sumL cs ≤ 200) :
    Calls Tryd.prog 6 #[.slice Ap nc cc, .slice Aa na ca, .slice Ae ne ce] w (PEnd (ptsR cs acts evs) w) := by
  by_cases h16 : nc ≤ 16
  case neg =>
    have hR : ptsR cs acts evs = ⟨4, -1, []⟩ := ptsR_limit (by rw [hcs.1]; omega)
    rw [hR]
    have h16' : (16 : Int) < (nc : Int) := by omega
    clear hcs hra hre hR
    go_enter Tryd.func6, Tryd.ntmps6
    go_wp2
    go_ret2
    exact ⟨none, 0, _, rfl, Reads.none_, IsErr.bare_ _ 4 (by decide), Below.refl _ _⟩
  case pos =>
    have hmk := fun w => run_make_row' (P := Tryd.prog) 63 64 (.slice none 0 0) 24 Tryd.underlying63 Tryd.info64 rfl .i64 .i64 nc (by omega) (by omega) w
    obtain ⟨i0, hi0, hz0, hzs1, hz2⟩ := info_parts Tryd.info3p
    have HC := Lib.hid hcs
    have HRA := Lib.hid hra
    have HRE := Lib.hid hre
    have HEL := Lib.hid he
    have HAL := Lib.hid ha
    have HSUM := Lib.hid hsum
    have HST := Lib.hid (evRel_start w cs nc evs)
    have HN16 := Lib.hid (show ¬ 16 < cs.length by rw [hcs.1]; omega)
    have mixed : Tryd.prog.follows .mixedOrders = true := by kernel_rfl
    clear hcs hra hre he ha hsum
    go_enter Tryd.func6, Tryd.ntmps6
    go_wp2
    go_loopg [28] ne (fun g vi wr => ∃ (i : Nat) (E : Nat → List Int), vi = .int .i64 i ∧ i + g = ne ∧ Hid (EvRel w cs nc evs i E wr))
    case atStart => exact ⟨0, _, rfl, by omega, HST⟩
    case round =>
      clear HST
      obtain ⟨i, E, rfl, hi, HR⟩ := hrel
      have hebl := HR.out.1.lt
      have hsz := HR.out.2.2.2.2.size
      cases gk with
      | succ gk =>
        have hlt : i < ne := by omega
        obtain ⟨ad, rfl, hadB, c0, c1, c2, c3⟩ := (HRE.out.below (HR.out.2.2.2.2.mono hB)).ev HEL.out hlt
        have hil : i < evs.length := by rw [HEL.out]; exact hlt
        obtain ⟨e, hev⟩ : ∃ e, evs[i]'hil = e := ⟨_, rfl⟩
        have HE := Lib.hid (show evs[i]? = some e by rw [List.getElem?_eq_getElem hil, hev])
        rw [hev] at c0 c1 c2 c3
        clear hev
        obtain ⟨wh, wt, th, va⟩ := e
        simp only at c0 c1 c2 c3
        by_cases h1 : wt = 3
        · subst h1
          by_cases h2 : th < 0
          · have HB := Lib.hid (evRel_bad (acts := acts) HR.out HN16.out HE.out (fun h => by have := h.2.1; simp only at this; omega))
            have HBL := Lib.hid (HR.out.2.2.2.2.alloc HR.out.2.2.2.2.size (.cells #[.int .i64 wh, .int .i64 3, .int .i64 th, .int .i64 va] 47))
            have d2 : decide (th < 0) = true := decide_eq_true h2
            clear HR
            go_wp2
            go_quiet (fail)
            go_wp2
            go_ret2
            exact pfail HB.out (by decide) (below_drn HBL.out _) (by simp)
          · by_cases h3 : (nc : Int) ≤ th
            · have HB := Lib.hid (evRel_bad (acts := acts) HR.out HN16.out HE.out (fun h => by have := h.2.2.1; simp only [HC.out.1] at this; omega))
              have HBL := Lib.hid (HR.out.2.2.2.2.alloc HR.out.2.2.2.2.size (.cells #[.int .i64 wh, .int .i64 3, .int .i64 th, .int .i64 va] 47))
              have d2 : decide (th < 0) = false := decide_eq_false h2
              have d3 : decide ((nc : Int) ≤ th) = true := decide_eq_true h3
              clear HR
              go_wp2
              go_quiet (fail)
              go_wp2
              go_ret2
              exact pfail HB.out (by decide) (below_drn HBL.out _) (by simp)
            · obtain ⟨T, rfl⟩ := Int.eq_ofNat_of_zero_le (by omega : 0 ≤ th)
              have hT : T < nc := by omega
              have hTl : T < cs.length := by rw [HC.out.1]; exact hT
              have HBL := Lib.hid (HR.out.2.2.2.2.alloc HR.out.2.2.2.2.size (.cells #[.int .i64 wh, .int .i64 3, .int .i64 (T : Int), .int .i64 va] 47))
              obtain ⟨ac, Ai, ci, rfl, hacB, hci, _⟩ := (HC.out.below (HBL.out.mono hB)).2 T hTl
              obtain ⟨li, hli⟩ : ∃ li, cs[T]'hTl = li := ⟨_, rfl⟩
              have HLI := Lib.hid (show cs[T]? = some li by rw [List.getElem?_eq_getElem hTl, hli])
              rw [hli] at hci
              clear hli
              have hle := HR.out.2.2.1 T li HLI.out
              have hEi := HR.out.2.2.2.1 T
              have HX := Lib.hid (((HR.out.2.2.2.2.alloc HR.out.2.2.2.2.size (.cells #[.int .i64 wh, .int .i64 3, .int .i64 (T : Int), .int .i64 va] 47)).alloc ((HR.out.2.2.2.2.alloc HR.out.2.2.2.2.size (.cells #[.int .i64 wh, .int .i64 3, .int .i64 (T : Int), .int .i64 va] 47)).size) (.cells #[.int .i64 wh] 3)))
              have hEX : EndsIn (((wr.alloc (.cells #[.int .i64 wh, .int .i64 3, .int .i64 (T : Int), .int .i64 va] 47)).alloc (.cells #[.int .i64 wh] 3)).drew) w.heap.size w.heap.size nc E := ((HR.out.1.alloc _).alloc _).below ⟨rfl, rfl, rfl, Nat.le_refl _, fun _ _ => rfl⟩
              obtain ⟨A, c, hcell, hfz, hown, hupd⟩ := hEX.slot hT
              have hcw : wr.cell? ⟨w.heap.size, T, none⟩ = some (.slice A (E T).length c) := by
                rw [← hcell]
                show _ = ((wr.alloc _).alloc _).cell? _
                rw [World.cell?_alloc_lt _ _ ⟨w.heap.size, T, none⟩ (by simp; omega), World.cell?_alloc_lt _ _ ⟨w.heap.size, T, none⟩ hebl]
              have hfw : wr.frozen? ⟨w.heap.size, T, none⟩ = false := by
                obtain ⟨_, _, _, h, _⟩ := HR.out.1.slot hT
                exact h
              have d3 : decide (nc ≤ T) = false := decide_eq_false (by omega)
              have d5 : decide ((nc : Int) ≤ (T : Int)) = false := decide_eq_false (by omega)
              obtain ⟨M, hM⟩ : ∃ M, li.length = M := ⟨_, rfl⟩
              have HM := Lib.hid hM
              rw [hM] at hci
              obtain ⟨L, hL⟩ : ∃ L, (E T).length = L := ⟨_, rfl⟩
              rw [hL] at hcw hown hupd hle hEi
              rw [hM] at hle
              clear hM
              by_cases h4 : L = M
              · have HB := Lib.hid (evRel_bad (acts := acts) HR.out HN16.out HE.out (fun h => by
                  have := h.2.2.2
                  simp only [Int.toNat_natCast, HLI.out, Option.getD_some, HM.out] at this
                  omega))
                subst h4
                clear h2 h3
                clear HR HX hEX hcell hfz hown hupd hL hle
                go_wp2
                go_quiet (fail)
                go_wp2
                go_ret2
                exact pfail HB.out (by decide) (below_drn HBL.out _) (by simp)
              · have d4 : ((L : Int) == (M : Int)) = false := by rw [beq_eq_false_iff_ne]; omega
                have d6 : (L == M) = false := by rw [beq_eq_false_iff_ne]; exact h4
                have d7 : decide (L = M) = false := decide_eq_false h4
                clear h2 h3
                clear hfz hcell hEX
                have HBX := Lib.hid (Blk.new wr 47 #[.int .i64 wh, .int .i64 3, .int .i64 (T : Int), .int .i64 va])
                have HEN := Lib.hid (HR.out.1.alloc (.cells #[.int .i64 wh, .int .i64 3, .int .i64 (T : Int), .int .i64 va] 47))
                clear HX hown hupd
                go_wp2
                go_quiet (fail)
                go_wp2_with fail
                have HZ := Lib.hid (show ((wr.alloc (.cells #[.int .i64 wh, .int .i64 3, .int .i64 (T : Int), .int .i64 va] 47)).drewN nq).heap.size = wr.heap.size + 1 by simp)
                have HBQ := Lib.hid (HBX.out.drewN nq)
                have HEQ := Lib.hid (HEN.out.below (below_drn (Below.refl _ _) nq))
                have HBL2 := Lib.hid (below_drn HBL.out nq)
                clear HBX HEN HBL hcw hfw c0 c1 c2 c3 hci hacB d3 d4 d5 d6 d7
                generalize (wr.alloc (.cells #[.int .i64 wh, .int .i64 3, .int .i64 (T : Int), .int .i64 va] 47)).drewN nq = wq at HZ HBQ HEQ HBL2 ⊢
                have b0 := HBQ.out.cell 0
                have b2 := HBQ.out.cell 2
                simp only [List.getElem?_toArray, List.getElem?_cons_zero, List.getElem?_cons_succ] at b0 b2
                have hlq := HBQ.out.lt
                have heq := HEQ.out.lt
                have hEX : EndsIn (wq.alloc (.cells #[.int .i64 wh] 3)).drew w.heap.size w.heap.size nc E := (HEQ.out.alloc _).below (below_dr (Below.refl _ _))
                obtain ⟨A2, c2, hcell2, _, hown2, hupd2⟩ := hEX.slot hT
                have hcq : wq.cell? ⟨w.heap.size, T, none⟩ = some (.slice A2 (E T).length c2) := by
                  rw [← hcell2]
                  show _ = (wq.alloc _).cell? _
                  rw [World.cell?_alloc_lt _ _ ⟨w.heap.size, T, none⟩ heq]
                rw [hL] at hcq hown2 hupd2
                have HUP := Lib.hid hupd2
                have t1 := Lib.hid (show L + 1 ≤ maxLen by unfold maxLen; omega)
                have t2 := Lib.hid (show (L + 1) * 8 ≤ 140737488355328 by omega)
                have t3 := Lib.hid (show w.heap.size ≤ (wq.alloc (.cells #[.int .i64 wh] 3)).drew.heap.size by simp; omega)
                have t4 := Lib.hid (show (wq.alloc (.cells #[.int .i64 wh] 3)).drew.heap.size = wq.heap.size + 1 by simp)
                have t5 := Lib.hid (show ∀ u ∈ [Value.int .i64 wh], u.oneCell' = true by simp [Value.oneCell'])
                have t6 := Lib.hid (World.news_of_block (w := (wq.alloc (.cells #[.int .i64 wh] 3)).drew) (cs := #[.int .i64 wh]) (t := 3) (fr := (0, 0)) (heap_alloc_new wq _))
                have t7 := Lib.hid hown2
                have t8 := Lib.hid (below_dr (HBL2.out.alloc HBL2.out.size (.cells #[.int .i64 wh] 3)))
                have t9 := Lib.hid (fun (w2 : World) (hg2 : ((wq.alloc (.cells #[.int .i64 wh] 3)).drew).grownBy w2 (Value.slice A2 L c2).ownBlock) => ((HBQ.out.alloc (.cells #[.int .i64 wh] 3)).drew.grown hg2 (fun e => own_blk_ne hown2 ((HBQ.out.alloc (.cells #[.int .i64 wh] 3)).drew) (by decide) e.symm)))
                clear hEX hcell2 hown2 hupd2
                go_region_law ((refine step_append_lies _ (by rfl) _ _ _ (by rfl) w.heap.size 3 i0 _ 1 8 Tryd.underlying64 hi0 hz0 hzs1 hz2 rfl Nat.zero_lt_one (.slice A2 L c2) L _ (by rfl) t7.out ⟨wq.heap.size, 0, none⟩ 1 1 [.int .i64 wh] (by rfl) (by rfl) t6.out t5.out Nat.zero_lt_one t1.out t2.out t3.out (wq.heap.size + 1) t4.out ?_; intro gg cap w2 hown3 hg2 hat hlt9; have HU := Lib.hid (HUP.out w2 gg cap wh hown3 hg2 (hat.imp id (fun h => by rw [t4.out, h]; exact Nat.le_refl _))); have k1 := HU.out.1.1; have k2 := HU.out.1.2; have k3 := (t9.out _ hg2).cell 0; have k4 := (t9.out _ hg2).cell 2; simp at k3 k4))
                all_goals
                  go_wp2
                  go_roundg gk
                  case measure => omega
                  case rel => exact ⟨i + 1, updE E T wh, by go_num, by omega, Lib.hid (evRel_next HR.out HE.out rfl rfl HLI.out (by rw [hL, HM.out]; omega) HU.out.2 ((t8.out.grown hg2 (by have := t3.out; exact this) (fun g hg => (t7.out.lt g hg).1)).setCell (by simp) _))⟩
        · have HB := Lib.hid (evRel_bad (acts := acts) HR.out HN16.out HE.out (fun h => h1 h.1))
          have HBL := Lib.hid (HR.out.2.2.2.2.alloc HR.out.2.2.2.2.size (.cells #[.int .i64 wh, .int .i64 wt, .int .i64 th, .int .i64 va] 47))
          have d1 : (wt != 3) = true := by simpa using h1
          clear HR
          go_wp2
          go_quiet (fail)
          go_wp2
          go_ret2
          exact pfail HB.out (by decide) (below_drn HBL.out _) (by simp)
      | zero =>
        obtain rfl : i = ne := by omega
        have HPR : Hid (ptsR cs acts evs = ⟨0, -1, sortP (ptT cs acts E cs.length 0 [])⟩) := Lib.hid (ptsR_ok HN16.out (by
          rw [← HR.out.2.1, List.drop_eq_nil_of_le (by rw [HEL.out]; exact Nat.le_refl _)]
          rfl))
        have HOR : Hid (OutRel w nc E 0 [] (.slice none 0 0) wr) := Lib.hid ⟨World.ownsRow_nil _ _ _ _, HR.out.1, Nat.le_refl _, HR.out.2.2.2.2⟩
        have HLC := Lib.hid HC.out.1
        obtain ⟨i9, hi9, hz9, hzs9, hb9⟩ := info_parts Tryd.info39p
        clear HR hmk hi0 hz0 hzs1 hz2
        go_wp2
        go_loopg [83, 11] nc (fun g v83 v11 wr => ∃ (t : Nat) (out : List Pt), v83 = .int .i64 t ∧ t + g = nc ∧ Hid (OutRel w nc E (2 * sumL (cs.take t)) out v11 wr) ∧ Hid (ptT cs acts E g t out = ptT cs acts E cs.length 0 []))
        case atStart => exact ⟨0, [], rfl, by omega, HOR, Lib.hid (by rw [HLC.out])⟩
        case round =>
          clear HOR hebl hsz
          obtain ⟨t, out, rfl, ht, HO, HT⟩ := hrel
          have hsz := HO.out.2.2.2.size
          cases gk with
          | succ gk =>
            have htn : t < nc := by omega
            have hTl : t < cs.length := by rw [HLC.out]; exact htn
            obtain ⟨ac, Ai, ci, rfl, hacB, hci, hri⟩ := HC.out.2 t hTl
            obtain ⟨li, hli⟩ : ∃ li, cs[t]'hTl = li := ⟨_, rfl⟩
            have HLI := Lib.hid (show cs[t]? = some li by rw [List.getElem?_eq_getElem hTl, hli])
            rw [hli] at hci hri
            clear hli
            obtain ⟨M, hM⟩ : ∃ M, li.length = M := ⟨_, rfl⟩
            rw [hM] at hci hri
            have HM := Lib.hid hM
            have HTS := Lib.hid (show ptT cs acts E gk (t + 1) (ptK t acts li (E t) M 0 0 out) = ptT cs acts E cs.length 0 [] by rw [← HT.out, ptT_step HLI.out, hM])
            have HSU := Lib.hid (show sumL (cs.take (t + 1)) = sumL (cs.take t) + M by rw [sumL_take_succ HLI.out, hM])
            have HSL := Lib.hid (show sumL (cs.take (t + 1)) ≤ 200 by have := sumL_take_le cs (t + 1); have := HSUM.out; omega)
            have HRI := Lib.hid (show ∀ w', Below w.heap.size w w' → Reads w' B 2 Ai M (flatC li) from fun w' hb => hri.below (hb.mono hB))
            have hci := (HO.out.2.2.2.cell (p := ac.add t) (by rw [block_of_add]; omega)).trans hci
            clear hM HT hri
            go_wp2
            go_loopg [90, 14, 11] M (fun g2 v90 v14 v11 wq => ∃ (k : Nat) (fr : Int) (out2 : List Pt), v90 = .int .i64 k ∧ v14 = .int .i64 fr ∧ k + g2 = M ∧ Hid (OutRel w nc E (2 * sumL (cs.take t) + 2 * k) out2 v11 wq) ∧ Hid (ptK t acts li (E t) g2 k fr out2 = ptK t acts li (E t) M 0 0 out))
            case atStart => exact ⟨0, 0, out, rfl, rfl, by omega, Lib.hid HO.out, Lib.hid rfl⟩
            case round =>
              obtain ⟨k, fr, out2, rfl, rfl, hk, HO2, HK⟩ := hrel
              have hs3 := HO2.out.2.2.2.size
              have hb3 := HO2.out.2.2.1
              obtain ⟨Ao, co, rfl⟩ := own_formP HO2.out.1
              cases gk with
              | zero =>
                obtain rfl : k = M := by omega
                have HE2 := Lib.hid (show out2 = ptK t acts li (E t) k 0 0 out by rw [← HK.out]; rfl)
                go_wp2
                go_roundg gk
                case measure => omega
                case rel =>
                  refine ⟨t + 1, out2, by go_num, by omega, Lib.hid ⟨HO2.out.1, HO2.out.2.1, by rw [HSU.out]; omega, HO2.out.2.2.2⟩, Lib.hid ?_⟩
                  rw [← HTS.out, HE2.out]
              | succ g2 =>
                have hkM : k < M := by omega
                have hkl : k < li.length := by rw [HM.out]; exact hkM
                obtain ⟨ai, rfl, haiB, c0, c1⟩ := (HRI.out _ HO2.out.2.2.2).cl HM.out hkM
                obtain ⟨cl, hcl⟩ : ∃ cl, li[k]'hkl = cl := ⟨_, rfl⟩
                have HCL := Lib.hid (show li[k]? = some cl by rw [List.getElem?_eq_getElem hkl, hcl])
                rw [hcl] at c0 c1
                clear hcl
                obtain ⟨what, cn⟩ := cl
                simp only at c0 c1
                obtain ⟨A, c, hcell, _, hown, _⟩ := HO2.out.2.1.slot htn
                have hebl := HO2.out.2.1.lt
                obtain ⟨L, hL⟩ : ∃ L, (E t).length = L := ⟨_, rfl⟩
                rw [hL] at hcell hown
                have HL := Lib.hid hL
                have hL200 : M ≤ 200 := by have := HSU.out; have := HSL.out; omega
                have hno : out2.length ≤ 400 := by have := HSU.out; have := HSL.out; omega
                have HRW := Lib.hid (HRA.out.below ((HO2.out.2.2.2.alloc hs3 (.cells #[.int .i64 what, .int .i64 cn] 59)).mono hB))
                have hBW : B ≤ (wr.alloc (.cells #[.int .i64 what, .int .i64 cn] 59)).heap.size := by simp; omega
                by_cases hkL : k < L
                · obtain ⟨g, cap, hA, hg1, hg2⟩ := hown.form (by omega)
                  injection hA with hA _ hc
                  subst hA hc
                  obtain ⟨x, hx⟩ : ∃ x, (E t)[k]? = some x := ⟨_, List.getElem?_eq_getElem (by rw [HL.out]; exact hkL)⟩
                  have hcx : wr.cell? ⟨g, k, none⟩ = some (.int .i64 x) := by
                    rw [hown.cellAt k (by omega)]
                    simp [ints, hx]
                  have HX := Lib.hid hx
                  obtain ⟨ps, hps⟩ : ∃ ps, eff t k what acts fr x true = ps := ⟨_, rfl⟩
                  have hpl := eff_len t k what acts fr x true
                  have HF := effects_f t k what cn Aa na ca B acts fr x true (wr.alloc (.cells #[.int .i64 what, .int .i64 cn] 59)) HAL.out hna HRW.out hBW
                  rw [hps] at HF hpl
                  have HF := Lib.hid HF
                  have HPS := Lib.hid hps
                  clear hps hx hown HL hL
                  go_wp2_with (first
                    | (go_at_call 17
                       refine HF.out.mono ?_
                       rintro e w1 ⟨ve, rfl, hown1, hb1⟩
                       obtain ⟨A1, c1', rfl⟩ := own_formP hown1
                       have HB1 := Lib.hid (((Below.refl wr.heap.size wr).alloc (Nat.le_refl _) (.cells #[.int .i64 what, .int .i64 cn] 59)).trans (hb1.mono (by simp)))
                       have HO1 := Lib.hid hown1
                       have HOW := Lib.hid (own_belowP HO2.out.1 HB1.out)
                       have HS1 := Lib.hid (show w.heap.size ≤ w1.heap.size from Nat.le_trans hs3 HB1.out.size)
                       clear hown1 hb1)
                    | (at_builtin
                       refine wpList_append_any _ rfl (.tmp 110) (.tmp 118) _ rfl w.heap.size 39 i9 _ 4 32 Tryd.underlying26 hi9 hz9 hzs9 hb9 rfl (by omega) (.slice Ao out2.length co) out2.length (flatP out2) rfl HOW.out w1.heap.size A1 ps.length c1' (flatP ps) rfl (Reads.of_own HO1.out) (ptc_all ps) (by unfold maxLen; omega) (by omega) HS1.out ?_
                       intro v9 w9 hown9 hg9 hat9
                       have HO9 := Lib.hid (outRel_next HO2.out HB1.out rfl hpl hown9 hg9)
                       clear hown9 hg9 hat9)
                    | fail)
                  go_roundg g2
                  case measure => omega
                  case rel => exact ⟨k + 1, x, out2 ++ ps, by go_num, rfl, by omega, Lib.hid HO9.out, Lib.hid (by rw [← HK.out, ptK_done HCL.out HX.out, HPS.out])⟩
                · have hx : (E t)[k]? = none := List.getElem?_eq_none (by rw [HL.out]; omega)
                  have HX := Lib.hid hx
                  obtain ⟨ps, hps⟩ : ∃ ps, eff t k what acts fr 0 false = ps := ⟨_, rfl⟩
                  have hpl := eff_len t k what acts fr 0 false
                  have HF := effects_f t k what cn Aa na ca B acts fr 9223372036854775807 false (wr.alloc (.cells #[.int .i64 what, .int .i64 cn] 59)) HAL.out hna HRW.out hBW
                  rw [eff_nd t k what acts fr 9223372036854775807 0] at HF
                  rw [hps] at HF hpl
                  have HF := Lib.hid HF
                  have HPS := Lib.hid hps
                  clear hps hx hown HL hL
                  go_wp2_with (first
                    | (go_at_call 17
                       refine HF.out.mono ?_
                       rintro e w1 ⟨ve, rfl, hown1, hb1⟩
                       obtain ⟨A1, c1', rfl⟩ := own_formP hown1
                       have HB1 := Lib.hid (((Below.refl wr.heap.size wr).alloc (Nat.le_refl _) (.cells #[.int .i64 what, .int .i64 cn] 59)).trans (hb1.mono (by simp)))
                       have HO1 := Lib.hid hown1
                       have HOW := Lib.hid (own_belowP HO2.out.1 HB1.out)
                       have HS1 := Lib.hid (show w.heap.size ≤ w1.heap.size from Nat.le_trans hs3 HB1.out.size)
                       clear hown1 hb1)
                    | (at_builtin
                       refine wpList_append_any _ rfl (.tmp 110) (.tmp 118) _ rfl w.heap.size 39 i9 _ 4 32 Tryd.underlying26 hi9 hz9 hzs9 hb9 rfl (by omega) (.slice Ao out2.length co) out2.length (flatP out2) rfl HOW.out w1.heap.size A1 ps.length c1' (flatP ps) rfl (Reads.of_own HO1.out) (ptc_all ps) (by unfold maxLen; omega) (by omega) HS1.out ?_
                       intro v9 w9 hown9 hg9 hat9
                       have HO9 := Lib.hid (outRel_next HO2.out HB1.out rfl hpl hown9 hg9)
                       clear hown9 hg9 hat9)
                    | fail)
                  go_roundg gk
                  case measure => omega
                  case rel =>
                    refine ⟨t + 1, out2 ++ ps, by go_num, by omega, Lib.hid ⟨HO9.out.1, HO9.out.2.1, ?_, HO9.out.2.2.2⟩, Lib.hid ?_⟩
                    · have := HO9.out.2.2.1
                      rw [HSU.out]
                      omega
                    · have e := HK.out
                      rw [ptK_last HCL.out HX.out] at e
                      rw [← HTS.out, ← e, HPS.out]
          | zero =>
            obtain rfl : t = nc := by omega
            have hb2 := HO.out.2.2.1
            have hsm := sumL_take_le cs t
            have hs2 := HSUM.out
            have hfin : out = ptT cs acts E cs.length 0 [] := by rw [← HT.out]; rfl
            have hp := HPR.out
            rw [← hfin] at hp
            have HP := Lib.hid hp
            obtain ⟨A, c, rfl⟩ := own_formP HO.out.1
            have HS := Lib.hid (psort_f A out.length c w.heap.size out wr HO.out.1 rfl (by omega) hsz)
            have HBO := Lib.hid HO.out.2.2.2
            clear HO HT HPR hp hfin HC HRA HRE
            go_wp2_with (go_at_call 18; refine HS.out.mono ?_; rintro e w1 ⟨rfl, hr1, hb1⟩)
            go_ret2
            exact pdone HP.out hr1 (HBO.out.trans hb1)
end Go.Proofs.YthnbbgmajdjgeaaDoor
