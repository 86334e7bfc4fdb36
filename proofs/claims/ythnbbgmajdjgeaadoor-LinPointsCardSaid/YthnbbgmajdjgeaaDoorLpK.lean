/- LinPoints: the law's own function (function 3), over what the reference's Points does. Conditions: errors.errorType is laid; calls, acts and events lie in memory. -/
import Derived.Test.YthnbbgmajdjgeaaDoorLpR
import Derived.Test.YthnbbgmajdjgeaaDoorLpL
namespace Go.Proofs.YthnbbgmajdjgeaaDoor
open Go.RowKit Go.Extern.Stop Go.Stop Go.Extern

theorem ptsR_len (cs : List (List Cl)) (acts : List Ac) (evs : List Ev) (h : sumL cs ≤ 200) : (ptsR cs acts evs).pts.length ≤ 400 := by
  unfold ptsR
  split
  · exact Nat.zero_le _
  · split
    · exact Nat.zero_le _
    · rename_i E _
      show (sortP _).length ≤ 400
      rw [sortP_len]
      have := ptT_len cs acts E cs.length 0 [] (Nat.zero_le _)
      omega
set_option maxRecDepth 100000 in
set_option maxHeartbeats 4000000 in
theorem law_points (Ap : Option Addr) (nc cc : Nat) (cs : List (List Cl)) (Aa : Option Addr) (na ca : Nat) (acts : List Ac) (Ae : Option Addr) (ne ce : Nat) (evs : List Ev) (w : World)
    (hnm : nc ≤ 9223372036854775807) (hcs : CallsIn w w.heap.size Ap nc cs) (hcl : ∀ c ∈ cs, c.length ≤ 140737488355328) (ha : acts.length = na) (hra : Reads w w.heap.size 6 Aa na (flatA acts)) (he : evs.length = ne) (hre : Reads w w.heap.size 4 Ae ne (flatE evs)) (hg : HasErr w)
    (hrp : nc ≤ 20 → na ≤ 300 → ne ≤ 100 → sumL cs ≤ 200 → Calls Tryd.prog 5 #[.slice Ap nc cc, .slice Aa na ca, .slice Ae ne ce] w (RPEnd (ptsR cs acts evs) w)) :
    Calls Tryd.prog 3 #[.slice Ap nc cc, .slice Aa na ca, .slice Ae ne ce] w fun e w' => e = .returned (.bool true) ∧ Below w.heap.size w w' := by
  have HC := Lib.hid hcs
  have HCL := Lib.hid hcl
  have HRA := Lib.hid hra
  have HRE := Lib.hid hre
  have HEL := Lib.hid he
  have HAL := Lib.hid ha
  have HG := Lib.hid hg
  have HRP := Lib.hid hrp
  have h3 := hg.lt
  clear hcs hcl hra hre he ha hg hrp
  go_enter Tryd.func3, Tryd.ntmps3
  go_wp2
  go_loopg [16, 7] nc (fun g v16 v7 wr => ∃ (t : Nat) (m : Int), v16 = .int .i64 t ∧ v7 = .int .i64 m ∧ t + g = nc ∧ Hid (nc ≤ 20 → m = sumL (cs.take t)) ∧ w = wr)
  case atStart => exact ⟨0, 0, rfl, rfl, by omega, Lib.hid (fun _ => rfl), rfl⟩
  case round =>
    obtain ⟨t, m, rfl, rfl, ht, HM, rfl⟩ := hrel
    cases gk with
    | succ gk =>
      have htn : t < nc := by omega
      have hTl : t < cs.length := by rw [HC.out.1]; exact htn
      obtain ⟨ac, Ai, ci, rfl, hacB, hci, _⟩ := HC.out.2 t hTl
      obtain ⟨li, hli⟩ : ∃ li, cs[t]'hTl = li := ⟨_, rfl⟩
      have HLI := Lib.hid (show cs[t]? = some li by rw [List.getElem?_eq_getElem hTl, hli])
      have hl47 := HCL.out _ (List.getElem_mem hTl)
      rw [hli] at hci hl47
      clear hli
      obtain ⟨M, hM⟩ : ∃ M, li.length = M := ⟨_, rfl⟩
      rw [hM] at hci hl47
      have HMM := Lib.hid hM
      have HM2 : Hid (nc ≤ 20 → wrap64 (m + (M : Int)) = sumL (cs.take (t + 1))) := Lib.hid (fun h20 => by
        have e := HM.out h20
        have hb : sumL (cs.take t) ≤ t * 140737488355328 := by
          have : ∀ u, u ≤ cs.length → sumL (cs.take u) ≤ u * 140737488355328 := fun u => by
            induction u with
            | zero => intro _; exact Nat.zero_le _
            | succ u ih =>
              intro hu
              have h1 := ih (by omega)
              obtain ⟨l, hl⟩ : ∃ l, cs[u]? = some l := ⟨_, List.getElem?_eq_getElem (by omega)⟩
              have h2 := HCL.out l (List.mem_of_getElem? hl)
              rw [sumL_take_succ hl]
              omega
          exact this t (by omega)
        rw [sumL_take_succ HLI.out, HMM.out, e]
        have : t ≤ 20 := by omega
        unfold wrap64
        omega)
      clear hM
      go_wp2
      go_roundg gk
      case measure => omega
      case rel => exact ⟨t + 1, _, by go_num, rfl, by omega, HM2, rfl⟩
    | zero =>
      obtain rfl : t = nc := by omega
      by_cases h20 : t ≤ 20
      case neg =>
        have h20' : (20 : Int) < (t : Int) := by omega
        go_wp2
        go_ret
        exact ⟨rfl, Below.refl _ _⟩
      case pos =>
        have hm := HM.out h20
        rw [List.take_of_length_le (by rw [HC.out.1]; exact Nat.le_refl _)] at hm
        subst hm
        have h20' : ¬ (20 : Int) < (t : Int) := by omega
        by_cases h2 : sumL cs ≤ 200
        case neg =>
          have h2' : (200 : Int) < (sumL cs : Int) := by omega
          go_wp2
          go_ret
          exact ⟨rfl, Below.refl _ _⟩
        case pos =>
          have h2' : ¬ (200 : Int) < (sumL cs : Int) := by omega
          by_cases h4 : na ≤ 300
          case neg =>
            have h4' : (300 : Int) < (na : Int) := by omega
            go_wp2
            go_ret
            exact ⟨rfl, Below.refl _ _⟩
          case pos =>
            have h4' : ¬ (300 : Int) < (na : Int) := by omega
            by_cases h5 : ne ≤ 100
            case neg =>
              have h5' : (100 : Int) < (ne : Int) := by omega
              go_wp2
              go_ret
              exact ⟨rfl, Below.refl _ _⟩
            case pos =>
              have h5' : ¬ (100 : Int) < (ne : Int) := by omega
              have HR := Lib.hid (HRP.out h20 h4 h5 h2)
              have hlen := ptsR_len cs acts evs h2
              have HP := fun (w1 : World) (hb : Below w.heap.size w w1) => points_f Ap t cc cs Aa na ca acts Ae ne ce evs w.heap.size w1 (HC.out.below hb) HAL.out (HRA.out.below hb) HEL.out (HRE.out.below hb) hb.size h20 h4 h5 h2
              have HP := Lib.hid HP
              obtain ⟨R, hR⟩ : ∃ R, ptsR cs acts evs = R := ⟨_, rfl⟩
              rw [hR] at HR HP hlen
              obtain ⟨code, place, pts⟩ := R
              simp only at hlen
              clear hR HM HRP
              go_wp2_with (first
                | (go_at_call 5
                   refine HR.out.mono ?_
                   rintro e w1 ⟨A1, c1, rfl, hr1, hb1⟩
                   have HR1 := Lib.hid hr1
                   have hbA := hb1.alloc hb1.size (.cells #[.int .i64 code, .int .i64 place] 29)
                   have HBA := Lib.hid hbA
                   clear hr1 hbA)
                | (go_at_call 6
                   refine (HP.out _ HBA.out).mono ?_
                   rintro e w2 ⟨A2, c2, ev, rfl, hr2, he2, hb2⟩
                   have HB2 := Lib.hid (HBA.out.trans (hb2.mono HBA.out.size))
                   have hC := (Blk.new w1 29 #[.int .i64 code, .int .i64 place]).below hb2 (by simp)
                   have c0 := hC.cell 0
                   have c1' := hC.cell 1
                   simp at c0 c1'
                   have HR2 := Lib.hid hr2
                   have HE2 := Lib.hid he2
                   have HRO := Lib.hid (((HR1.out.alloc (Nat.le_refl _) (.cells #[.int .i64 code, .int .i64 place] 29)).below (hb2.mono (by simp))))
                   clear hr2 he2 hC)
                | (go_at_call 7
                   refine (placed_any ev code place _ (HG.out.below HB2.out h3) HE2.out).mono ?_
                   rintro e w3 ⟨rfl, hb3⟩
                   have hle := hb2.size
                   have HRO3 := Lib.hid (HRO.out.below (hb3.mono (by simp at hle; omega)))
                   have HR3 := Lib.hid (HR2.out.below hb3)
                   have HB3 := Lib.hid (HB2.out.trans (hb3.mono HB2.out.size)))
                | (go_at_call 8
                   refine (equal_pt A1 A2 pts.length c1 c2 _ _ pts _ rfl HRO3.out HR3.out (by omega)).mono ?_
                   rintro e w4 ⟨rfl, k, rfl⟩)
                | fail)
              go_ret
              exact ⟨rfl, below_drn HB3.out _⟩
end Go.Proofs.YthnbbgmajdjgeaaDoor
