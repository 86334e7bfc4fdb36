/- The program's stable sort, walked: slices.symMergeCmpFunc (function 60), its long case and the whole. Conditions: what is asked of the comparison and the row ('CS'), the bounds. -/
import Derived.Test.YthnbbgmajdjgeaaDoorSlB
namespace Go.Proofs.YthnbbgmajdjgeaaDoor
open Go.RowKit Go.Sort Go.Shelf Go.Lib
variable {P : Program} {k : Nat} {α : Type} [Inhabited α] {cf : α → α → Int} {enc : α → List Value} {g : Nat} {cb : Array Value} {blk off size : Nat}

/-- What symMerge does, to a depth. -/
def CSymAt (P : Program) (cf : α → α → Int) (enc : α → List Value) (k g : Nat) (cb : Array Value) (blk off f : Nat) : Prop :=
  ∀ (a m b cap : Nat) (d : Array α) (W : World), CS P cf enc k g cb blk off d.size W → HoldsK enc k W blk off d → a < m → m < b → b ≤ d.size → b - a ≤ f → d.size < 2305843009213693952 →
    Calls P 60 #[.slice (some ⟨blk, off, none⟩) d.size cap, .int .i64 a, .int .i64 m, .int .i64 b, .func (.func g) #[] cb] W fun e w' => e = .returned (.tuple #[]) ∧ SWK enc k W blk off (symM (ltOf cf) f a m b d) w'

theorem csym_split {a m b st r md : Nat} (h1 : a < m) (h2 : m < b) (hmd : md = (a + b) / 2) (hst : (if md < m then md + m - b else a) = st) (hr : (if md < m then md else m) = r) :
    a ≤ md ∧ md < b ∧ (md < m → st + b = md + m ∧ r = md) ∧ (¬ md < m → st = a ∧ r = m) ∧ a ≤ st ∧ r ≤ m ∧ r ≤ md + m := by
  by_cases h : md < m
  · rw [if_pos h] at hst hr
    omega
  · rw [if_neg h] at hst hr
    omega

set_option maxHeartbeats 2000000 in
set_option maxRecDepth 100000 in
theorem csymMerge_mid (B : SB P k) (f a m b cap : Nat) (d : Array α) (W : World) (IH : CSymAt P cf enc k g cb blk off f) (L : CS P cf enc k g cb blk off d.size W) (hH : HoldsK enc k W blk off d) (ham : a + 1 < m) (hmb : m + 1 < b) (hb : b ≤ d.size) (hf : b - a ≤ f + 1) (hsz : d.size < 2305843009213693952) :
    Calls P 60 #[.slice (some ⟨blk, off, none⟩) d.size cap, .int .i64 a, .int .i64 m, .int .i64 b, .func (.func g) #[] cb] W fun e w' => e = .returned (.tuple #[]) ∧ SWK enc k W blk off (symM (ltOf cf) (f + 1) a m b d) w' := by
  obtain ⟨md, hmd⟩ : ∃ md, md = (a + b) / 2 := ⟨_, rfl⟩
  obtain ⟨s, hs⟩ : ∃ s, symS (ltOf cf) a m b d = s := ⟨_, rfl⟩
  have hM : symM (ltOf cf) (f + 1) a m b d = (fun d2 => if md < md + m - s ∧ md + m - s < b then symM (ltOf cf) f md (md + m - s) b d2 else d2) (if a < s ∧ s < md then symM (ltOf cf) f a s md (symR a m b s d) else symR a m b s d) := by
    rw [symM, if_neg (by omega), if_neg (by omega), hs, ← hmd]
  rw [hM]
  clear hM
  have L1 := Lib.hid L
  have hH1 := Lib.hid hH
  have LT := Lib.hid L.lt
  have S1 := Lib.hid (SWK.start hH)
  have R := Lib.hid (L.row hH)
  have HC := Lib.hid L.cmp
  have EG := L.eg
  have e73 : ∀ args w, (callFunc 73 args).run P w = .ok (.enter 73 args) w := enters_of B.f73 (by kernel_rfl) rfl
  have e60 : ∀ args w, (callFunc 60 args).run P w = .ok (.enter 60 args) w := enters_of B.f60 (by kernel_rfl) rfl
  have mixed := B.mixed; have t3 := B.t3; have a3 := B.a3; have z3 := B.z3; have t26 := B.t26; have a26 := B.a26; have z26 := B.z26; have a39 := B.a39; have z39 := B.z39; have t139 := B.t139; have t4 := B.t4
  have u26 := run_underlying B.t26
  obtain ⟨st, hst⟩ : ∃ st, (if md < m then md + m - b else a) = st := ⟨_, rfl⟩
  obtain ⟨r, hr⟩ : ∃ r, (if md < m then md else m) = r := ⟨_, rfl⟩
  have hq : bsr (fun c => !ltOf cf d[md + m - 1 - c]! d[c]!) (b - a) st r = s := by rw [← hs, ← hst, ← hr, hmd]; rfl
  obtain ⟨hmd1, hmd2, hst1, hst2, hst3, hst4, hst5⟩ := csym_split (by omega) (by omega) hmd hst hr
  have hsr : st ≤ r := by
    by_cases h : md < m
    · have := hst1 h; omega
    · have := hst2 h; omega
  have hB := bsr_bounds (fun c => !ltOf cf d[md + m - 1 - c]! d[c]!) (b - a) st r hsr
  rw [hq] at hB
  have hpm : r ≤ md + m ∧ md + m ≤ st + b ∧ r + st ≤ md + m := by
    by_cases h : md < m
    · have := hst1 h; omega
    · have := hst2 h; omega
  have HQ := Lib.hid hq
  have HSR : Hid (∀ x : Array α, symR a m b s x = if s < m ∧ m < md + m - s then rot s m (md + m - s) x else x) := Lib.hid (fun (x : Array α) => by show (if s < m ∧ m < (a + b) / 2 + m - s then rot s m ((a + b) / 2 + m - s) x else x) = _; rw [← hmd])
  have hRs := size_symR a m b s d
  obtain ⟨dr, hdr⟩ : ∃ dr, symR a m b s d = dr := ⟨_, rfl⟩
  have HDR := Lib.hid (hdr.symm.trans (HSR.out d))
  rw [hdr] at hRs ⊢
  obtain ⟨d2, hd2⟩ : ∃ d2, (if a < s ∧ s < md then symM (ltOf cf) f a s md dr else dr) = d2 := ⟨_, rfl⟩
  rw [hd2]
  have hds : d2.size = d.size := by
    rw [← hd2]
    by_cases h1 : a < s ∧ s < md
    · rw [if_pos h1, size_symM, hRs]
    · rw [if_neg h1, hRs]
  have HD2 := Lib.hid hd2
  clear hd2 hdr HSR
  have HMD := Lib.hid hmd
  have hmd0 : a < md := by omega
  have hmdI : ((a : Int) + (b : Int)) / 2 = (md : Int) := by omega
  have HMDI := Lib.hid hmdI
  have HST1 := Lib.hid hst1
  have HST2 := Lib.hid hst2
  clear L hH hq hs hst hr hmd hst1 hst2 hmdI
  have hone : ((m : Int) - (a : Int) == 1) = false := by rw [beq_eq_false_iff_ne]; omega
  have hone2 : ((b : Int) - (m : Int) == 1) = false := by rw [beq_eq_false_iff_ne]; omega
  go_enter B.f60, Tryd.ntmps60
  go_upto_if 140 with fail
  go_cut [18, 19, 20, 21] (fun s16 s17 s18 s19 wc => s16 = .int .i64 md ∧ s17 = .int .i64 ((md : Int) + (m : Int)) ∧ s18 = .int .i64 st ∧ s19 = .int .i64 r ∧ W = wc)
  case first =>
    as_aux_lemma =>
      have hmdI := HMDI.out
      by_cases hmm : md < m
      · have h1 := (HST1.out hmm).1
        have h2 := (HST1.out hmm).2
        subst h2
        go_wp2_with fail
        go_meet
        exact ⟨by first | rfl | rw [hmdI], by first | rfl | rw [hmdI], by congr 1; omega, by first | rfl | (congr 1; omega), rfl⟩
      · have h1 := (HST2.out hmm).1
        have h2 := (HST2.out hmm).2
        subst h1
        subst h2
        go_wp2_with fail
        go_meet
        exact ⟨by first | rfl | rw [hmdI], by first | rfl | rw [hmdI], rfl, rfl, rfl⟩
  case rest =>
    obtain ⟨rfl, rfl, rfl, rfl, rfl⟩ := hcut
    go_wp2
    go_loopg [20, 21] (b - a) (fun g1 vi vj wr => ∃ (i j : Nat), vi = .int .i64 i ∧ vj = .int .i64 j ∧ st ≤ i ∧ i ≤ j ∧ j ≤ r ∧ j - i ≤ g1 ∧ Hid (SWK enc k W blk off d wr) ∧ Hid (bsr (fun c => !ltOf cf d[md + m - 1 - c]! d[c]!) g1 i j = s))
    case atStart => exact ⟨st, r, rfl, rfl, Nat.le_refl _, by omega, Nat.le_refl _, by omega, S1, HQ⟩
    case round =>
      obtain ⟨i, j, rfl, rfl, hai, hij, hjb, hg, S, HE⟩ := hrel
      by_cases hlt : i < j
      · as_aux_lemma =>
          obtain ⟨gg, rfl⟩ : ∃ gg, gk = gg + 1 := ⟨gk - 1, by omega⟩
          obtain ⟨h, hh⟩ : ∃ h, (i + j) / 2 = h := ⟨_, rfl⟩
          have hh1 : i ≤ h := by omega
          have hh2 : h < j := by omega
          have hI : ((i : Int) + (j : Int)) / 2 = (h : Int) := by omega
          obtain ⟨pp, hpp⟩ : ∃ pp, md + m - 1 - h = pp := ⟨_, rfl⟩
          have hpI : (md : Int) + (m : Int) - 1 - (h : Int) = (pp : Int) := by omega
          have hwp : IntKind.i64.wrap (pp : Int) = (pp : Int) := by rw [IntKind.wrap_i64]; omega
          have hhs : h < d.size := by omega
          have has : pp < d.size := by omega
          have l1 := S.out.ld R.out rfl P pp has
          have l2 := S.out.ld R.out rfl P h hhs
          have hcg := S.out.cmp HC.out rfl d[pp]! d[h]!
          have HG := Lib.hid (fun n os => S.out.grown (n := n) (os := os))
          clear S
          obtain ⟨xj, hxj⟩ : ∃ x, d[pp]! = x := ⟨_, rfl⟩
          obtain ⟨xp, hxp⟩ : ∃ x, d[h]! = x := ⟨_, rfl⟩
          have HX := Lib.hid (And.intro hxj hxp)
          rw [hxj] at l1 hcg
          rw [hxp] at l2 hcg
          clear hxj hxp
          obtain ⟨bb, hbb⟩ : ∃ bb, decide (cf xj xp < 0) = bb := ⟨_, rfl⟩
          go_wp2_with fail
          go_quiet_grown (first | (go_at_fn g; refine Calls.grown_of (hcg _ _)))
          clear l1 l2 hcg
          have HBX := Lib.hid hbb
          clear hbb
          cases bb with
          | true =>
            have hnb : (!decide (cf xj xp < 0)) = false := by rw [HBX.out]; rfl
            have HE2 := Lib.hid ((bsr_f (p := fun c => !ltOf cf d[md + m - 1 - c]! d[c]!) hlt (by rw [hh]; simp only [hpp]; rw [HX.out.1, HX.out.2]; exact hnb)).symm.trans HE.out)
            rw [hh] at HE2
            clear hnb
            go_wp2
            go_roundg gg
            case measure => omega
            case rel => exact ⟨i, h, rfl, by first | rfl | (congr 1; omega), hai, by omega, by omega, by omega, Lib.hid (HG.out _ _), HE2⟩
          | false =>
            have hnb : (!decide (cf xj xp < 0)) = true := by rw [HBX.out]; rfl
            have HE2 := Lib.hid ((bsr_t (p := fun c => !ltOf cf d[md + m - 1 - c]! d[c]!) hlt (by rw [hh]; simp only [hpp]; rw [HX.out.1, HX.out.2]; exact hnb)).symm.trans HE.out)
            rw [hh] at HE2
            clear hnb
            go_wp2
            go_roundg gg
            case measure => omega
            case rel => exact ⟨h + 1, j, by first | rfl | (congr 1; omega), rfl, by omega, by omega, hjb, by omega, Lib.hid (HG.out _ _), HE2⟩
      · obtain rfl : s = i := by rw [← HE.out, bsr_stop hlt]
        clear HE
        have ees : ((md + m - s : Nat) : Int) = (md : Int) + (m : Int) - (s : Int) := by omega
        go_upto_region 39 with fail
        go_cut [185] (fun s145 wc => s145 = .bool (decide (s < m ∧ m < md + m - s)) ∧ wc = wr)
        case first =>
          as_aux_lemma =>
            by_cases h1 : s < m
            · by_cases h2 : m < md + m - s
              · have h3 : (m : Int) < (md : Int) + (m : Int) - (s : Int) := by omega
                go_wp2_with fail
                go_meet
                exact ⟨congrArg Value.bool (decide_eq_true (p := s < m ∧ m < md + m - s) ⟨h1, h2⟩).symm, rfl⟩
              · have h3 : ¬ (m : Int) < (md : Int) + (m : Int) - (s : Int) := by omega
                go_wp2_with fail
                go_meet
                exact ⟨congrArg Value.bool (decide_eq_false (p := s < m ∧ m < md + m - s) (by omega)).symm, rfl⟩
            · go_wp2_with fail
              go_meet
              exact ⟨congrArg Value.bool (decide_eq_false (p := s < m ∧ m < md + m - s) (by omega)).symm, rfl⟩
        case rest =>
        obtain ⟨rfl, rfl⟩ := hcut
        obtain ⟨bb, hbb⟩ : ∃ bb, decide (s < m ∧ m < md + m - s) = bb := ⟨_, rfl⟩
        rw [hbb]
        have HBB := Lib.hid hbb
        clear hbb
        go_upto_if 185 with fail
        go_cut [] (fun wc => Hid (SWK enc k W blk off dr wc))
        case first =>
          as_aux_lemma =>
            cases bb with
            | true =>
              obtain ⟨h1, h2⟩ := of_decide_eq_true HBB.out
              have hcall := crotate_f B s m (md + m - s) cap d wc (L1.out.on S.out rfl) (S.out.holds L1.out.lt hH1.out rfl) h1 h2 (by omega) (by omega)
              rw [ees] at hcall
              have HCC := Lib.hid hcall
              have HR : Hid (dr = rot s m (md + m - s) d) := Lib.hid (by rw [HDR.out, if_pos ⟨h1, h2⟩])
              clear hcall
              go_wp2_with (go_at_fn 73; refine HCC.out.mono ?_; rintro e w1 ⟨rfl, hs1⟩)
              go_meet
              exact Lib.hid (by rw [HR.out]; exact cswk_trans S.out L1.out.lt hs1 (size_rot _ _ _ _))
            | false =>
              have HR : Hid (dr = d) := Lib.hid (by rw [HDR.out, if_neg (of_decide_eq_false HBB.out)])
              go_wp2_with fail
              go_meet
              rw [HR.out]
              exact S
        case rest =>
          clear S
          have S := hcut
          clear hcut
          clear HBB
          go_upto_region 41 with fail
          go_cut [199] (fun s158 wd => s158 = .bool (decide (a < s ∧ s < md)) ∧ wd = wc)
          case first =>
            as_aux_lemma =>
              by_cases h1 : a < s
              · by_cases h2 : s < md
                · go_wp2_with fail
                  go_meet
                  exact ⟨congrArg Value.bool (decide_eq_true (p := a < s ∧ s < md) ⟨h1, h2⟩).symm, rfl⟩
                · go_wp2_with fail
                  go_meet
                  exact ⟨congrArg Value.bool (decide_eq_false (p := a < s ∧ s < md) (by omega)).symm, rfl⟩
              · go_wp2_with fail
                go_meet
                exact ⟨congrArg Value.bool (decide_eq_false (p := a < s ∧ s < md) (by omega)).symm, rfl⟩
          case rest =>
          obtain ⟨rfl, rfl⟩ := hcut
          obtain ⟨bb, hbb⟩ : ∃ bb, decide (a < s ∧ s < md) = bb := ⟨_, rfl⟩
          rw [hbb]
          have HBB := Lib.hid hbb
          clear hbb
          go_upto_if 199 with fail
          go_cut [] (fun wc => Hid (SWK enc k W blk off d2 wc))
          case first =>
            as_aux_lemma =>
              cases bb with
              | true =>
                obtain ⟨h1, h2⟩ := of_decide_eq_true HBB.out
                have hcall := IH a s md cap dr wc (by rw [hRs]; exact L1.out.on S.out hRs) (S.out.holds L1.out.lt hH1.out hRs) h1 h2 (by omega) (by omega) (by omega)
                rw [hRs] at hcall
                have HCC := Lib.hid hcall
                have HR : Hid (d2 = symM (ltOf cf) f a s md dr) := Lib.hid (by rw [← HD2.out, if_pos ⟨h1, h2⟩])
                clear hcall
                go_wp2_with (go_at_fn 60; refine HCC.out.mono ?_; rintro e w1 ⟨rfl, hs1⟩)
                go_meet
                exact Lib.hid (by rw [HR.out]; exact cswk_trans S.out L1.out.lt hs1 (size_symM _ _ _ _ _ _))
              | false =>
                have HR : Hid (d2 = dr) := Lib.hid (by rw [← HD2.out, if_neg (of_decide_eq_false HBB.out)])
                go_wp2_with fail
                go_meet
                rw [HR.out]
                exact S
          case rest =>
            clear S
            have S := hcut
            clear hcut
            by_cases h1 : md < md + m - s
            · have h1i : (md : Int) < (md : Int) + (m : Int) - (s : Int) := by omega
              by_cases h2 : md + m - s < b
              · have h2i : (md : Int) + (m : Int) - (s : Int) < (b : Int) := by omega
                have hcall := IH md (md + m - s) b cap d2 wc (by rw [hds]; exact L1.out.on S.out hds) (S.out.holds L1.out.lt hH1.out hds) h1 h2 (by omega) (by omega) (by omega)
                rw [ees, hds] at hcall
                have HCC := Lib.hid hcall
                clear hcall
                go_wp2_with (go_at_fn 60; refine HCC.out.mono ?_; rintro e w1 ⟨rfl, hs1⟩)
                go_end0
                refine ⟨rfl, ?_⟩
                exact cswk_trans S.out L1.out.lt hs1 (size_symM _ _ _ _ _ _)
              · have h2i : ¬ (md : Int) + (m : Int) - (s : Int) < (b : Int) := by omega
                go_wp2
                go_end0
                refine ⟨rfl, ?_⟩
                exact S.out
            · have h1i : ¬ (md : Int) < (md : Int) + (m : Int) - (s : Int) := by omega
              go_wp2
              go_end0
              refine ⟨rfl, ?_⟩
              exact S.out

theorem csymMerge_f (B : SB P k) (f : Nat) : CSymAt P cf enc k g cb blk off f := by
  induction f with
  | zero => intro a m b cap d W L hH h1 h2 h3 h4 h5; omega
  | succ f ih =>
    intro a m b cap d W L hH h1 h2 h3 h4 h5
    by_cases e1 : m = a + 1
    · subst e1
      have := csymMerge_one B f a b cap d W L hH h2 h3 h5
      rw [show ((a + 1 : Nat) : Int) = (a : Int) + 1 by omega]
      exact this
    · by_cases e2 : b = m + 1
      · subst e2
        have := csymMerge_last B f a m cap d W L hH (by omega) h3 h5
        rw [show ((m + 1 : Nat) : Int) = (m : Int) + 1 by omega]
        exact this
      · exact csymMerge_mid B f a m b cap d W ih L hH (by omega) (by omega) h3 h4 h5

end Go.Proofs.YthnbbgmajdjgeaaDoor
