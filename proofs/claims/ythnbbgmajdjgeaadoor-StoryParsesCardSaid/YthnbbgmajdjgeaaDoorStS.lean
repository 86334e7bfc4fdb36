/-
  StoryParses' walks, part three: Parse of the program. Conditions: the tables are laid.
-/
import Derived.Test.YthnbbgmajdjgeaaDoorStU
namespace Go.Proofs.YthnbbgmajdjgeaaDoor
open Go.RowKit Go.Extern.Stop Go.Stop Go.Extern
attribute [local go_sem ↓] Go.wp_at_zero Go.wp_at_succ

set_option maxRecDepth 100000 in
set_option maxHeartbeats 4000000 in
theorem parse_any (s : ByteArray) (w : World) (hw : Std w.heap.size w) (hs : s.size ≤ 2000) :
    Calls Tryd.prog 10 #[.string s] w (PsEnd (prs stepP s.size s.data.toList []) w) := by
  have HW := Lib.hid hw
  clear hw
  obtain ⟨i0, hi0, hz0, hzs1, hz2⟩ := info_parts Tryd.info47
  go_enter Tryd.func10, Tryd.ntmps10
  go_wp2_with fail
  go_loopg [0, 4] s.size (fun g s0 v wr => ∃ (S : ByteArray) (L : List Ev) (n : Nat), s0 = .string S ∧ S.size ≤ g ∧ S.size + n ≤ s.size ∧ wr.ownsRow w.heap.size 47 4 v n (flatE L) ∧ (n = 0 → v = .slice none 0 0) ∧ Below w.heap.size w wr ∧ Hid (L.length = n) ∧ Hid (prs stepP s.size s.data.toList [] = prs stepP g S.data.toList L))
  case atStart => exact ⟨s, [], 0, rfl, Nat.le_refl _, by simp, World.ownsRow_nil w _ 47 4, fun _ => rfl, Below.refl _ _, Lib.hid rfl, Lib.hid rfl⟩
  case round =>
    obtain ⟨S, L, n, rfl, hg, hsz, hown, hnil, hbel, HN, hprs⟩ := hrel
    obtain ⟨A, c, rfl⟩ := own_form hown
    have HO := Lib.hid hown
    have HB := Lib.hid hbel
    have HNIL := Lib.hid hnil
    clear hown hbel hnil
    by_cases hS : S.data.toList = []
    · have hS1 : S.toList.isEmpty = true := by rw [ByteArray.toList_eq, hS]; rfl
      have HS := Lib.hid hS
      clear hS
      go_wp2_with fail
      go_ret2
      have hT := hprs.out
      rw [HS.out, prs_nil] at hT
      rw [hT]
      obtain rfl := HN.out
      exact ⟨A, c, .nilIface, rfl, Reads.of_own HO.out, IsErr.nil_ _, HB.out⟩
    · have hS1 : S.toList.isEmpty = false := by rw [ByteArray.toList_eq]; simpa using hS
      have HS := Lib.hid hS
      clear hS
      have hs2 : S.size ≤ 10000 := by omega
      go_upto_region 5 with (first
        | (go_at_call 27; refine (cut_any S _ (HW.out.below HB.out).out hs2).mono ?_; rintro e w1 ⟨X, Y, b, rfl, hcut, hb1⟩; have hX : X.size ≤ 10000 := (by have h1 := (cut_len S.data.toList).1; rw [hcut.out] at h1; simp at h1; omega))
        | (go_at_call 28; refine (line_ev X _ ((HW.out.below (HB.out.trans (hb1.mono HB.out.size))).more (Nat.le_trans HB.out.size hb1.size)) hX).mono ?_; rintro e w2 ⟨ev, ok, rfl, hline, hb2⟩)
        | fail)
      obtain ⟨wh, wt, th, va⟩ := ev
      have hE := Blk.new w2 47 #[.int .i64 wh, .int .i64 wt, .int .i64 th, .int .i64 va]
      have hbA := (hb1.trans (hb2.mono hb1.size)).alloc (Nat.le_trans hb1.size hb2.size) (.cells #[.int .i64 wh, .int .i64 wt, .int .i64 th, .int .i64 va] 47)
      obtain ⟨W, hWe⟩ : ∃ W, W = w2.alloc (.cells #[.int .i64 wh, .int .i64 wt, .int .i64 th, .int .i64 va] 47) := ⟨_, rfl⟩
      rw [← hWe] at hE hbA
      simp only
      rw [← hWe]
      clear hWe
      obtain ⟨e8, he8⟩ : ∃ e8, w2.heap.size = e8 := ⟨_, rfl⟩
      rw [he8] at hE ⊢
      clear he8
      have he8 := hE.lt
      have x0 := hE.cell 0
      have x1 := hE.cell 1
      have x2 := hE.cell 2
      have x3 := hE.cell 3
      simp at x0 x1 x2 x3
      have HE := Lib.hid hE
      have HBA := Lib.hid hbA
      clear hE hbA
      have HOW := Lib.hid (own_below HO.out HBA.out)
      go_cut [45] (fun s45 wc => s45 = .bool (!(b && ok && stB 0 (lastL L ++ [⟨wh, wt, th, va⟩]))) ∧ Below W.heap.size W wc)
      case first =>
        by_cases hbo : b = true ∧ ok = true
        · obtain ⟨rfl, rfl⟩ := hbo
          have hk := HOW.out
          rcases Nat.eq_zero_or_pos n with h0 | h0
          · subst h0
            obtain ⟨rfl, rfl⟩ : A = none ∧ c = 0 := by have := HNIL.out rfl; simpa using this
            have hlast : lastL L = [] := by
              have := HN.out
              rw [List.eq_nil_of_length_eq_zero this]; rfl
            have HLAST := Lib.hid hlast
            clear hk hlast
            have t6 := Lib.hid (World.news_of_block (w := (W.alloc (.cells #[.int .i64 wh, .int .i64 wt, .int .i64 th, .int .i64 va] 47)).drew) (cs := #[.int .i64 wh, .int .i64 wt, .int .i64 th, .int .i64 va]) (t := 47) (fr := (0, 0)) (heap_alloc_new W _))
            have t5 := Lib.hid (show ∀ u ∈ [Value.int .i64 wh, .int .i64 wt, .int .i64 th, .int .i64 va], u.oneCell' = true by simp [Value.oneCell'])
            have t1 := Lib.hid (show 0 + 1 ≤ maxLen by decide)
            have hw0 : IntKind.i64.wrap (-1) = -1 := by decide
            have hmax0 : max (0 : Int) (IntKind.i64.wrap (-1)) = 0 := by decide
            have hmax : max (0 : Int) (-1) = 0 := rfl
            have t2 := Lib.hid (show (0 + 1) * 32 ≤ 140737488355328 by decide)
            go_region_held3 (fun w' => Below W.heap.size W w' ∧ ∀ b o, b < W.heap.size → w'.cell? ⟨b, o, none⟩ = W.cell? ⟨b, o, none⟩)
              (first
                | exact ks_below (ks_refl _) (Below.refl _ _).drew
                | with_reducible exact ks_below (by with_reducible assumption) hb9
                | with_reducible exact ks_below (by with_reducible assumption) hb8
                | with_reducible exact ks_alloc (by with_reducible assumption) _
                | exact ks_below (ks_alloc (ks_refl _) _) (Below.refl _ _).drew
                | with_reducible assumption
                | fail)
              ((first
                | (refine step_none (by rfl) _ _ _ (by rfl) 47 i0 _ 4 32 Tryd.underlying24 hi0 hz0 hzs1 hz2 rfl (by decide) (by rfl) ⟨W.heap.size, 0, none⟩ 1 1 [.int .i64 wh, .int .i64 wt, .int .i64 th, .int .i64 va] (by rfl) (by rfl) t6.out t5.out t1.out t2.out ?_
                   intro v9 w9 hown9 hg9
                   obtain ⟨A9, c9, rfl⟩ := own_form hown9
                   have hb9 := below_none hg9
                   have HR9 := Lib.hid (Reads.of_own hown9)
                   clear hown9 hg9)
                | (go_at_call 29
                   refine (stright A9 (0 + 1) c9 _ (lastL L ++ [⟨wh, wt, th, va⟩]) _ (by rw [HLAST.out]; rfl) (by omega) (by rw [HLAST.out]; exact HR9.out) (Nat.le_refl _)).mono ?_
                   rintro e w8 ⟨rfl, hb8⟩)
                | fail))
            all_goals
              go_wp2_with fail
              go_meet
              exact ⟨rfl, (And.left ‹Below W.heap.size W w8 ∧ ∀ b o, b < W.heap.size → w8.cell? ⟨b, o, none⟩ = W.cell? ⟨b, o, none⟩›)⟩
          · obtain ⟨m, rfl⟩ : ∃ m, n = m + 1 := ⟨n - 1, by omega⟩
            obtain ⟨g, cap, hv, hgb, hgl⟩ := hk.form (by omega)
            injection hv with hv1 _ hv3
            subst hv1
            subst hv3
            have hcap := own_cap hk
            have hlc := last_cells hk HN.out
            have hll := last_len HN.out
            have HLL := Lib.hid hll
            have t9 := Lib.hid hlc.1
            have t8 := Lib.hid (fun j u (hu : (flatE (lastL L))[j]? = some u) => (show (W.alloc (.cells #[.int .i64 wh, .int .i64 wt, .int .i64 th, .int .i64 va] 47)).drew.cell? ((⟨g, m * 4, none⟩ : Addr).add j) = some u from (World.cell?_alloc_lt W _ _ (by rw [block_of_add]; exact hgl)).trans (hlc.2 j u hu)))
            clear hk hlc hll
            have t6 := Lib.hid (World.news_of_block (w := (W.alloc (.cells #[.int .i64 wh, .int .i64 wt, .int .i64 th, .int .i64 va] 47)).drew) (cs := #[.int .i64 wh, .int .i64 wt, .int .i64 th, .int .i64 va]) (t := 47) (fr := (0, 0)) (heap_alloc_new W _))
            have t1 := Lib.hid (show 1 + 1 ≤ maxLen by decide)
            have t2 := Lib.hid (show (1 + 1) * 32 ≤ 140737488355328 by decide)
            have hw1 : IntKind.i64.wrap (m : Int) = (m : Int) := IntWalk.i64_in _ (by omega)
            have hmax : max (0 : Int) (m : Int) = (m : Int) := by omega
            have hmax1 : max (0 : Int) (IntKind.i64.wrap (m : Int)) = (m : Int) := by rw [hw1]; exact hmax
            have q1 : (0 : Int) ≤ (m : Int) := by omega
            have q2 : (m : Int) ≤ (m : Int) + 1 := by omega
            have q3 : (m : Int) + 1 ≤ (c : Int) := by omega
            have q4 : ¬ m + 1 = m := by omega
            go_region_held3 (fun w' => Below W.heap.size W w' ∧ ∀ b o, b < W.heap.size → w'.cell? ⟨b, o, none⟩ = W.cell? ⟨b, o, none⟩)
              (first
                | exact ks_below (ks_refl _) (Below.refl _ _).drew
                | with_reducible exact ks_below (by with_reducible assumption) hb9
                | with_reducible exact ks_below (by with_reducible assumption) hb8
                | with_reducible exact ks_alloc (by with_reducible assumption) _
                | exact ks_below (ks_alloc (ks_refl _) _) (Below.refl _ _).drew
                | with_reducible assumption
                | fail)
              ((first
                | (refine step_full (by rfl) _ _ _ (by rfl) 47 i0 _ 4 32 Tryd.underlying24 hi0 hz0 hzs1 hz2 rfl (by decide) ⟨g, m * 4, none⟩ 1 1 (flatE (lastL L)) (by rfl) t9.out t8.out ⟨W.heap.size, 0, none⟩ 1 1 [.int .i64 wh, .int .i64 wt, .int .i64 th, .int .i64 va] (by rfl) (by rfl) t6.out (by decide) t1.out t2.out ?_
                   intro v9 w9 hown9 hg9
                   obtain ⟨A9, c9, rfl⟩ := own_form hown9
                   have hb9 := below_none hg9
                   have HR9 := Lib.hid (Reads.of_own hown9)
                   clear hown9 hg9)
                | (go_at_call 29
                   refine (stright A9 (1 + 1) c9 _ (lastL L ++ [⟨wh, wt, th, va⟩]) _ (by rw [List.length_append, HLL.out]; rfl) (by omega) (by rw [flatE_app]; exact HR9.out) (Nat.le_refl _)).mono ?_
                   rintro e w8 ⟨rfl, hb8⟩)
                | fail))
            all_goals
              go_wp2_with fail
              go_meet
              exact ⟨rfl, (And.left ‹Below W.heap.size W w8 ∧ ∀ b o, b < W.heap.size → w8.cell? ⟨b, o, none⟩ = W.cell? ⟨b, o, none⟩›)⟩
        · have hbo2 : (b && ok) = false := by cases b <;> cases ok <;> simp_all
          have HBO := Lib.hid hbo2
          have hcs : b = false ∨ (b = true ∧ ok = false) := by cases b <;> cases ok <;> simp_all
          clear hbo hbo2
          rcases hcs with rfl | ⟨rfl, rfl⟩
          all_goals
            go_quiet (fail)
            go_wp2_with fail
            go_meet
            exact ⟨by rw [HBO.out]; rfl, ⟨rfl, rfl, rfl, Nat.le_refl _, fun _ _ => rfl⟩⟩
      case rest =>
        obtain ⟨rfl, hbW⟩ := hcut
        have hst := stepP_of (L := L) hcut.out hline.out
        obtain ⟨q, hq⟩ : ∃ q, (b && ok && stB 0 (lastL L ++ [⟨wh, wt, th, va⟩])) = q := ⟨_, rfl⟩
        rw [hq] at hst
        have hlen := (cut_len S.data.toList).2.2
        rw [hcut.out] at hlen
        simp only [hq]
        have HBW := Lib.hid (HB.out.trans ((HBA.out.trans (hbW.mono HBA.out.size)).mono HB.out.size))
        have hEc := HE.out.below hbW he8
        have y0 := hEc.cell 0
        have y1 := hEc.cell 1
        have y2 := hEc.cell 2
        have y3 := hEc.cell 3
        simp at y0 y1 y2 y3
        have HOC := Lib.hid (own_below HOW.out hbW)
        have HST := Lib.hid hst
        have HQ := Lib.hid hq
        have HLEN := Lib.hid hlen
        clear hst hq hlen hEc hbW x0 x1 x2 x3 he8
        cases q with
        | false =>
          have hT := hprs.out
          rw [prs_fail HS.out (by simpa using hg) (by rw [HST.out]; rfl)] at hT
          have HT := Lib.hid hT
          clear hT hprs
          go_wp2_with fail
          go_ret2
          rw [HT.out]
          refine ⟨none, 0, _, rfl, ⟨by simp [flatE], fun h => absurd h (by simp)⟩, .inr (.inr ⟨_, _, rfl, (show (3 : Int) ≠ 0 by decide), ?_, ?_⟩), HBW.out.alloc HBW.out.size _⟩
          · exact (Blk.new wc 67 _).cell 0
          · rw [HN.out]; exact (Blk.new wc 67 _).cell 1
        | true =>
          obtain ⟨f, hf, hnx⟩ := prs_next (step := stepP) (r := Y.data.toList) (e := ⟨wh, wt, th, va⟩) HS.out (by simpa using hg) (by rw [HST.out]; rfl)
          have hnx2 := hprs.out.trans hnx
          have HNX := Lib.hid hnx2
          have hb : b = true := by
            have := HQ.out
            cases b
            · simp at this
            · rfl
          have hl2 := HLEN.out hb
          simp at hl2
          have H1 := Lib.hid (show ∀ u ∈ [Value.int .i64 wh, .int .i64 wt, .int .i64 th, .int .i64 va], u.oneCell' = true by simp [Value.oneCell'])
          have hBc := HBW.out.size
          have HF := Lib.hid hf
          clear hf hnx hprs hnx2
          go_wp2_with (at_builtin; (refine wpList_append_any _ rfl (.tmp 51) (.tmp 53) _ rfl w.heap.size 47 i0 _ 4 32 Tryd.underlying24 hi0 hz0 hzs1 hz2 rfl (by omega) (.slice A n c) n (flatE L) rfl (own_below HOC.out ((Below.refl _ _).alloc (Nat.le_refl _) _)) (wc.heap.size + 1) (some ⟨wc.heap.size, 0, none⟩) 1 1 [.int .i64 wh, .int .i64 wt, .int .i64 th, .int .i64 va] rfl ⟨rfl, fun _ => ⟨_, rfl, by simp, World.news_of_block (heap_alloc_new wc _)⟩⟩ H1.out (by simp only [maxLen]; omega) (by omega) (by simp; omega) ?_); intro v9 w9 hown9 hg9 hat9; have HO9 := Lib.hid hown9; have HG9 := Lib.hid hg9; clear hown9 hg9 hat9)
          go_roundg f
          case rel => 
            refine ⟨Y, L ++ [⟨wh, wt, th, va⟩], n + 1, rfl, by have := HF.out; omega, by omega, ?_, fun h => absurd h (by omega), ?_, Lib.hid (by rw [List.length_append, HN.out]; rfl), Lib.hid HNX.out⟩
            · rw [flatE_app]; exact HO9.out
            · exact (HBW.out.alloc HBW.out.size _).grown HG9.out (by simp; omega) (fun g hg => (HOC.out.lt g hg).1)
          case measure => have := HF.out; omega
end Go.Proofs.YthnbbgmajdjgeaaDoor
