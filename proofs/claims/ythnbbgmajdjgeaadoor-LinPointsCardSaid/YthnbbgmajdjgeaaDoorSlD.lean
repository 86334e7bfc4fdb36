/- The program's stable sort, walked: slices.insertionSortCmpFunc and stableCmpFunc (functions 59, 34): it computes 'stbl'. Conditions: what is asked of the comparison and the row ('CS'). -/
import Derived.Test.YthnbbgmajdjgeaaDoorSlC
namespace Go.Proofs.YthnbbgmajdjgeaaDoor
open Go.RowKit Go.Sort Go.Shelf Go.Lib
variable {P : Program} {k : Nat} {α : Type} [Inhabited α] {cf : α → α → Int} {enc : α → List Value} {g : Nat} {cb : Array Value} {blk off size : Nat}

set_option maxHeartbeats 4000000 in
set_option maxRecDepth 100000 in
theorem cins_f (B : SB P k) (a b cap : Nat) (d : Array α) (W : World) (L : CS P cf enc k g cb blk off d.size W) (hH : HoldsK enc k W blk off d) (hab : a ≤ b) (hb : b ≤ d.size) (hsz : d.size < 2305843009213693952) :
    Calls P 59 #[.slice (some ⟨blk, off, none⟩) d.size cap, .int .i64 a, .int .i64 b, .func (.func g) #[] cb] W fun e w' => e = .returned (.tuple #[]) ∧ SWK enc k W blk off (insertionSort (ltOf cf) d a b) w' := by
  have R := Lib.hid (L.row hH)
  have S1 := Lib.hid (SWK.start hH)
  have HC := Lib.hid L.cmp
  have EG := L.eg
  have HK := Lib.hid L.hk
  have mixed := B.mixed; have t3 := B.t3; have a3 := B.a3; have z3 := B.z3; have t26 := B.t26; have a26 := B.a26; have z26 := B.z26; have a39 := B.a39; have z39 := B.z39; have t4 := B.t4
  have u26 := run_underlying B.t26
  clear L hH
  go_enter B.f59, Tryd.ntmps59
  go_wp2
  go_loopg [8] (b - a) (fun g1 vi wr => ∃ (i : Nat) (dk : Array α), vi = .int .i64 i ∧ a < i ∧ i ≤ b + 1 ∧ b + 1 - i ≤ g1 + 1 ∧ dk.size = d.size ∧ Hid (SWK enc k W blk off dk wr) ∧ Hid (insOuter (ltOf cf) a b i dk = insOuter (ltOf cf) a b (a + 1) d))
  case atStart => exact ⟨a + 1, d, by go_num, by omega, by omega, by omega, rfl, S1, Lib.hid rfl⟩
  case round =>
    obtain ⟨i, dk, rfl, hai, hib, hg1, hsk, S, HO⟩ := hrel
    by_cases hlt : i < b
    · have hltz : (i : Int) < (b : Int) := by omega
      go_wp2
      go_loopg [9] i (fun g2 vj wr2 => ∃ (j : Nat) (dj : Array α), vj = .int .i64 j ∧ a ≤ j ∧ j ≤ i ∧ j ≤ g2 ∧ dj.size = d.size ∧ Hid (SWK enc k W blk off dj wr2) ∧ Hid (insInner (ltOf cf) a j dj = insInner (ltOf cf) a i dk))
      case atStart => exact ⟨i, dk, rfl, by omega, Nat.le_refl _, Nat.le_refl _, hsk, S, Lib.hid rfl⟩
      case round =>
        clear S
        obtain ⟨j, dj, rfl, haj, hji, hg2, hsj, S, HI⟩ := hrel
        have OUT : Hid ((j ≤ a ∨ ltOf cf dj[j]! dj[j - 1]! = false) → Hid (insOuter (ltOf cf) a b (i + 1) dj = insOuter (ltOf cf) a b (a + 1) d)) := Lib.hid fun hs => Lib.hid (by
          rw [← HO.out, insOuter_go _ _ _ _ _ hlt, ← HI.out, insInner_stop _ _ _ _ hs])
        by_cases hja : a < j
        · as_aux_lemma =>
          have hjaz : (a : Int) < (j : Int) := by omega
          obtain ⟨jp, rfl⟩ : ∃ jp, j = jp + 1 := ⟨j - 1, by omega⟩
          have hwp : IntKind.i64.wrap (jp : Int) = (jp : Int) := by rw [IntKind.wrap_i64]; omega
          have jz : (jp : Int) + 1 < (d.size : Int) := by omega
          have jz1 : (jp : Int) < (d.size : Int) := by omega
          have hjaz' : (a : Int) < (jp : Int) + 1 := by omega
          have p0 : (0 : Int) ≤ (jp : Int) + 1 := by omega
          have e0 : ((jp : Int) + 1).toNat = jp + 1 := by omega
          have l1 := S.out.ld R.out hsj P (jp + 1) (by omega)
          have l2 := S.out.ld R.out hsj P jp (by omega)
          have hcg := S.out.cmp HC.out hsj dj[jp + 1]! dj[jp]!
          have HG := Lib.hid (fun n os => S.out.grown (n := n) (os := os))
          clear S
          obtain ⟨xj, hxj⟩ : ∃ x, dj[jp + 1]! = x := ⟨_, rfl⟩
          obtain ⟨xp, hxp⟩ : ∃ x, dj[jp]! = x := ⟨_, rfl⟩
          have HX := Lib.hid (And.intro hxj hxp)
          rw [hxj] at l1 hcg
          rw [hxp] at l2 hcg
          clear hxj hxp
          obtain ⟨bb, hbb⟩ : ∃ bb, decide (cf xj xp < 0) = bb := ⟨_, rfl⟩
          go_wp2_with fail
          go_quiet_grown (first | (go_at_fn g; refine Calls.grown_of (hcg _ _)))
          clear l1 l2 hcg
          have HBX := Lib.hid hbb
          clear hbb
          cases bb with
          | true =>
            have HI2 := Lib.hid ((insInner_go (ltOf cf) a (jp + 1) dj hja (by simp only [Nat.add_sub_cancel]; rw [HX.out.1, HX.out.2]; exact HBX.out)).symm.trans HI.out)
            simp only [Nat.add_sub_cancel] at HI2
            go_wp2_with fail
            have S := Lib.hid (HG.out nq osq)
            generalize grow (wr.drewN nq) osq = wq at S ⊢
            have la := S.out.ld1 R.out hsj P (jp + 1) (by omega)
            have lb := S.out.ld1 R.out hsj P jp (by omega)
            have s1 := S.out.st1 R.out hsj P (jp + 1) (by omega) (dj[jp]!)
            have s2 := S.out.st2 R.out hsj P (jp + 1) jp (by omega) (by omega) (dj[jp]!) (dj[jp + 1]!)
            have S2 := Lib.hid (S.out.swapped R.out (jp + 1) jp (by omega) (by omega))
            have hd2 : (swp dj (jp + 1) jp).size = d.size := by rw [size_swp]; exact hsj
            have hlA := HK.out (dj[jp + 1]!)
            have hlB := HK.out (dj[jp]!)
            obtain ⟨cA, hcA⟩ : ∃ c, c = enc (dj[jp + 1]!) := ⟨_, rfl⟩
            obtain ⟨cB, hcB⟩ : ∃ c, c = enc (dj[jp]!) := ⟨_, rfl⟩
            rw [← hcA] at la s2 S2 hlA
            rw [← hcB] at lb s1 s2 S2 hlB
            clear S hcA hcB
            go_big_region_o
            all_goals go_wp2
            go_roundg jp
            case measure => omega
            case rel => exact ⟨jp, _, by first | rfl | go_num | (congr 1; omega), by omega, by omega, Nat.le_refl _, hd2, S2, HI2⟩
          | false =>
            have HO2 := OUT.out (Or.inr (by simp only [Nat.add_sub_cancel]; rw [HX.out.1, HX.out.2]; exact HBX.out))
            go_wp2
            go_roundg (b - (i + 1))
            case measure => omega
            case rel => exact ⟨i + 1, dj, by go_num, by omega, by omega, by omega, hsj, Lib.hid (HG.out _ _), HO2⟩
        · have hjaz : decide ((j : Int) > (a : Int)) = false := decide_eq_false (by omega)
          have hjaz' : ¬ (a : Int) < (j : Int) := by omega
          have HO2 := OUT.out (Or.inl (by omega))
          have S2 := Lib.hid S.out.drew
          go_wp2_with fail
          go_big_region_o
          all_goals go_wp2
          go_roundg (b - (i + 1))
          case measure => omega
          case rel => exact ⟨i + 1, dj, by go_num, by omega, by omega, by omega, hsj, S2, HO2⟩
    · have hltz : ¬ (i : Int) < (b : Int) := by omega
      go_wp2
      go_end0
      have e := HO.out
      rw [insOuter_stop (ltOf cf) a b i dk hlt] at e
      exact ⟨rfl, by unfold insertionSort; rw [← e]; exact S.out⟩

set_option maxHeartbeats 2000000 in
set_option maxRecDepth 100000 in
theorem cstable_f (B : SB P k) (cap : Nat) (d : Array α) (W : World) (L : CS P cf enc k g cb blk off d.size W) (hH : HoldsK enc k W blk off d) (hsz : d.size < 100000) :
    Calls P 34 #[.slice (some ⟨blk, off, none⟩) d.size cap, .int .i64 d.size, .func (.func g) #[] cb] W fun e w' => e = .returned (.tuple #[]) ∧ SWK enc k W blk off (stbl (ltOf cf) d) w' := by
  have L1 := Lib.hid L
  have hH1 := Lib.hid hH
  have LT := Lib.hid L.lt
  have S1 := Lib.hid (SWK.start hH)
  have B1 := Lib.hid B
  have e59 : ∀ args w, (callFunc 59 args).run P w = .ok (.enter 59 args) w := enters_of B.f59 (by kernel_rfl) rfl
  have e60 : ∀ args w, (callFunc 60 args).run P w = .ok (.enter 60 args) w := enters_of B.f60 (by kernel_rfl) rfl
  have mixed := B.mixed; have t3 := B.t3; have a3 := B.a3; have z3 := B.z3; have t26 := B.t26; have a26 := B.a26; have z26 := B.z26; have t4 := B.t4
  obtain ⟨n, hn⟩ : ∃ n, d.size = n := ⟨_, rfl⟩
  obtain ⟨d1, hd1⟩ : ∃ d1, stIns (ltOf cf) n n 0 d = d1 := ⟨_, rfl⟩
  have hd1s : d1.size = n := by rw [← hd1, size_stIns, hn]
  have hT : stbl (ltOf cf) d = pas (ltOf cf) n n 20 d1 := by rw [stbl, hn, hd1]
  rw [hT, hn]
  have HD1 := Lib.hid hd1
  have HN := Lib.hid hn
  have hn1 : n < 100000 := by omega
  clear L hH hT hd1 hn hsz
  go_enter B.f34, Tryd.ntmps34
  go_wp2
  go_loopg [7, 8] n (fun g1 va vb wr => ∃ (a : Nat) (dk : Array α), va = .int .i64 a ∧ vb = .int .i64 ((a : Int) + 20) ∧ a ≤ n ∧ n ≤ a + g1 ∧ dk.size = n ∧ Hid (SWK enc k W blk off dk wr) ∧ Hid (stIns (ltOf cf) n g1 a dk = d1))
  case atStart => exact ⟨0, d, rfl, rfl, Nat.zero_le _, by omega, HN.out, S1, HD1⟩
  case round =>
    obtain ⟨a, dk, rfl, rfl, ha, hag, hds, S, HE⟩ := hrel
    have hds' : dk.size = d.size := hds.trans HN.out.symm
    have LS1 := Lib.hid (L1.out.on S.out hds')
    have LH1 := Lib.hid (S.out.holds L1.out.lt hH1.out hds')
    have HDS := Lib.hid hds
    have HDS' := Lib.hid hds'
    clear hds hds'
    by_cases hab : a + 20 ≤ n
    · obtain ⟨gg, rfl⟩ : ∃ gg, gk = gg + 1 := ⟨gk - 1, by omega⟩
      have HE2 : Hid (stIns (ltOf cf) n gg (a + 20) (insertionSort (ltOf cf) dk a (a + 20)) = d1) := Lib.hid (by rw [← HE.out, stIns, if_pos hab])
      have hcall := cins_f B1.out a (a + 20) cap dk wr (by rw [HDS'.out]; exact LS1.out) LH1.out (by omega) (by rw [HDS.out]; exact hab) (by rw [HDS.out]; omega)
      rw [show ((a + 20 : Nat) : Int) = (a : Int) + 20 by omega, HDS.out] at hcall
      have HC := Lib.hid hcall
      clear hcall
      go_wp2_with (go_at_fn 59; refine HC.out.mono ?_; rintro e w1 ⟨rfl, hs1⟩)
      go_roundg gg
      case measure => omega
      case rel => exact ⟨a + 20, _, by first | rfl | (congr 1; omega), by first | rfl | (congr 1; omega), hab, by omega, (size_ins _ _ _ _).trans HDS.out, Lib.hid (cswk_trans S.out L1.out.lt hs1 (size_ins _ _ _ _)), HE2⟩
    · have HE2 : Hid (insertionSort (ltOf cf) dk a n = d1) := Lib.hid (by
        rw [← HE.out]
        cases gk with
        | zero => rw [stIns]
        | succ gg => rw [stIns, if_neg hab])
      have hcall := cins_f B1.out a n cap dk wr (by rw [HDS'.out]; exact LS1.out) LH1.out ha (by rw [HDS.out]; exact Nat.le_refl _) (by rw [HDS.out]; omega)
      rw [HE2.out, HDS.out] at hcall
      have HC := Lib.hid hcall
      have HD1S := Lib.hid hd1s
      clear hcall HE HE2 hd1s
      go_wp2_with (go_at_fn 59; refine HC.out.mono ?_; rintro e w1 ⟨rfl, hs1⟩)
      have S2 := Lib.hid (cswk_trans S.out L1.out.lt hs1 (HD1S.out.trans HDS.out.symm))
      clear hs1 HC S LS1 LH1
      go_loopg [6] n (fun g1 vs wr => ∃ (s : Nat) (dk : Array α), vs = .int .i64 s ∧ 20 ≤ s ∧ s ≤ 2 * n + 20 ∧ n ≤ s + g1 ∧ dk.size = n ∧ Hid (SWK enc k W blk off dk wr) ∧ Hid (pas (ltOf cf) n g1 s dk = pas (ltOf cf) n n 20 d1))
      case atStart => exact ⟨20, d1, rfl, Nat.le_refl _, by omega, by omega, HD1S.out, S2, Lib.hid rfl⟩
      case round =>
        clear S2
        obtain ⟨s, dq, rfl, hs20, hsn, hsg, hdq, S, HE⟩ := hrel
        by_cases hlt : s < n
        · obtain ⟨gg, rfl⟩ : ∃ gg, gk = gg + 1 := ⟨gk - 1, by omega⟩
          obtain ⟨dm, hdm⟩ : ∃ dm, mrg (ltOf cf) n s (n + 1) 0 dq = dm := ⟨_, rfl⟩
          have HE2 : Hid (pas (ltOf cf) n gg (2 * s) dm = pas (ltOf cf) n n 20 d1) := Lib.hid (by rw [← HE.out, pas, if_pos hlt, hdm])
          have hdms : dm.size = n := by rw [← hdm, size_mrg, hdq]
          have HDM := Lib.hid hdm
          have HDMS := Lib.hid hdms
          clear HE hdm hdms
          go_wp2
          go_loopg [7, 8] (n + 1) (fun g1 va vb wr => ∃ (a : Nat) (dk : Array α), va = .int .i64 a ∧ vb = .int .i64 ((a : Int) + 2 * (s : Int)) ∧ a ≤ n ∧ n + 1 ≤ a + g1 ∧ dk.size = n ∧ Hid (SWK enc k W blk off dk wr) ∧ Hid (mrg (ltOf cf) n s g1 a dk = dm))
          case atStart => exact ⟨0, dq, rfl, by first | rfl | (congr 1; omega), Nat.zero_le _, by omega, hdq, S, HDM⟩
          case round =>
            clear S
            obtain ⟨a2, dk2, rfl, rfl, ha2, hag2, hds2, S, HE⟩ := hrel
            have hds' : dk2.size = d.size := hds2.trans HN.out.symm
            have LS1 := Lib.hid (L1.out.on S.out hds')
            have LH1 := Lib.hid (S.out.holds L1.out.lt hH1.out hds')
            have HDS2 := Lib.hid hds2
            have HDS2' := Lib.hid hds'
            clear hds2 hds'
            obtain ⟨g2, rfl⟩ : ∃ g2, gk = g2 + 1 := ⟨gk - 1, by omega⟩
            by_cases hab2 : a2 + 2 * s ≤ n
            · have hab2i : (a2 : Int) + 2 * (s : Int) ≤ (n : Int) := by omega
              have HE3 : Hid (mrg (ltOf cf) n s g2 (a2 + 2 * s) (symM (ltOf cf) n a2 (a2 + s) (a2 + 2 * s) dk2) = dm) := Lib.hid (by rw [← HE.out, mrg, if_pos hab2])
              have hcall := csymMerge_f B1.out n a2 (a2 + s) (a2 + 2 * s) cap dk2 wr (by rw [HDS2'.out]; exact LS1.out) LH1.out (by omega) (by omega) (by rw [HDS2.out]; exact hab2) (by omega) (by rw [HDS2.out]; omega)
              rw [show ((a2 + s : Nat) : Int) = (a2 : Int) + (s : Int) by omega, show ((a2 + 2 * s : Nat) : Int) = (a2 : Int) + 2 * (s : Int) by omega, HDS2.out] at hcall
              have HC2 := Lib.hid hcall
              clear hcall HE
              go_wp2_with (go_at_fn 60; refine HC2.out.mono ?_; rintro e w2 ⟨rfl, hs2⟩)
              go_roundg g2
              case measure => omega
              case rel => exact ⟨a2 + 2 * s, _, by first | rfl | (congr 1; omega), by first | rfl | (congr 1; omega), hab2, by omega, (size_symM _ _ _ _ _ _).trans HDS2.out, Lib.hid (cswk_trans S.out L1.out.lt hs2 (size_symM _ _ _ _ _ _)), HE3⟩
            · have hab2i : ¬ (a2 : Int) + 2 * (s : Int) ≤ (n : Int) := by omega
              by_cases ham : a2 + s < n
              · have hami : (a2 : Int) + (s : Int) < (n : Int) := by omega
                have HE3 : Hid (symM (ltOf cf) n a2 (a2 + s) n dk2 = dm) := Lib.hid (by rw [← HE.out, mrg, if_neg hab2, if_pos ham])
                have hcall := csymMerge_f B1.out n a2 (a2 + s) n cap dk2 wr (by rw [HDS2'.out]; exact LS1.out) LH1.out (by omega) (by omega) (by rw [HDS2.out]; exact Nat.le_refl _) (by omega) (by rw [HDS2.out]; omega)
                rw [show ((a2 + s : Nat) : Int) = (a2 : Int) + (s : Int) by omega, HE3.out, HDS2.out] at hcall
                have HC2 := Lib.hid hcall
                clear hcall HE HE3
                go_wp2_with (go_at_fn 60; refine HC2.out.mono ?_; rintro e w2 ⟨rfl, hs2⟩)
                go_roundg gg
                case measure => omega
                case rel => exact ⟨2 * s, dm, by first | rfl | (congr 1; omega), by omega, by omega, by omega, HDMS.out, Lib.hid (cswk_trans S.out L1.out.lt hs2 (HDMS.out.trans HDS2.out.symm)), HE2⟩
              · have hami : ¬ (a2 : Int) + (s : Int) < (n : Int) := by omega
                have HE3 : Hid (dk2 = dm) := Lib.hid (by rw [← HE.out, mrg, if_neg hab2, if_neg ham])
                clear HE
                go_wp2
                go_roundg gg
                case measure => omega
                case rel => exact ⟨2 * s, dm, by first | rfl | (congr 1; omega), by omega, by omega, by omega, HDMS.out, Lib.hid (HE3.out ▸ S.out), HE2⟩
        · have HE2 : Hid (dq = pas (ltOf cf) n n 20 d1) := Lib.hid (by
            rw [← HE.out]
            cases gk with
            | zero => rw [pas]
            | succ gg => rw [pas, if_neg hlt])
          clear HE
          go_wp2
          go_end0
          refine ⟨rfl, ?_⟩
          rw [← HE2.out]
          exact S.out

end Go.Proofs.YthnbbgmajdjgeaaDoor
