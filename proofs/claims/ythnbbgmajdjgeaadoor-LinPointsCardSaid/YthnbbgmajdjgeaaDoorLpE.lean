/- LinPoints, the program's half: a call's points (lin.effects, function 17). Conditions: the acts lie below this call's memory. -/
import Derived.Test.YthnbbgmajdjgeaaDoorLpB
import Derived.Laws.OwnMore
namespace Go.Proofs.YthnbbgmajdjgeaaDoor
open Go.RowKit Go.Extern.Stop Go.Stop Go.Extern

/-- A time that may be there: a nil slice, or a row of this call's own that holds it. -/
def OptIs (w : World) (base : Nat) (v : Value) (o : Option Int) : Prop :=
  (v = .slice none 0 0 ∧ o = none) ∨ ∃ x g, o = some x ∧ v = .slice (some ⟨g, 0, none⟩) 1 1 ∧ base ≤ g ∧ g < w.heap.size ∧ w.cell? ⟨g, 0, none⟩ = some (.int .i64 x)
theorem OptIs.below {w w' : World} {base : Nat} {v : Value} {o : Option Int} (h : OptIs w base v o) (hb : Below w.heap.size w w') : OptIs w' base v o := by
  rcases h with h | ⟨x, g, h1, h2, h3, h4, h5⟩
  · exact .inl h
  · exact .inr ⟨x, g, h1, h2, h3, Nat.lt_of_lt_of_le h4 hb.size, by rw [hb.cell (p := ⟨g, 0, none⟩) h4]; exact h5⟩
theorem OptIs.alloc {w : World} {base : Nat} {v : Value} {o : Option Int} (h : OptIs w base v o) (x : Obj) : OptIs (w.alloc x) base v o := h.below ((Below.refl _ _).alloc (Nat.le_refl _) x)
theorem optIs_new {w : World} {base : Nat} (hb : base ≤ w.heap.size) (x : Int) : OptIs (w.alloc (.cells #[.int .i64 x] 3)) base (.slice (some ⟨w.heap.size, 0, none⟩) 1 1) (some x) :=
  .inr ⟨x, _, rfl, rfl, hb, by simp, by simp⟩
theorem own_lit39 {w : World} {base n : Nat} (cs : Array Value) (hb : base ≤ w.heap.size) (hn : n ≤ 1000) (hs : cs.size = n * 4) :
    (w.alloc (.cells cs 39)).ownsRow base 39 4 (.slice (some ⟨w.heap.size, 0, none⟩) n n) n cs.toList := World.ownsRow_lit w cs n hb (by unfold maxLen; omega) hs
theorem mine_f1 {t fr tt : Int} {done : Bool} {a : Ac} (h : a.th ≠ t) : isMine t fr tt done a = false := by unfold isMine; rw [decide_eq_false h]; rfl
theorem mine_f2 {t fr tt : Int} {done : Bool} {a : Ac} (h : a.ce ≠ 0) : isMine t fr tt done a = false := by unfold isMine; rw [decide_eq_false h]; simp
theorem mine_f3 {t fr tt : Int} {done : Bool} {a : Ac} (h : ¬ fr < a.wh) : isMine t fr tt done a = false := by unfold isMine; rw [decide_eq_false h]; simp
theorem mine_f4 {t fr tt : Int} {a : Ac} (h : ¬ a.wh < tt) : isMine t fr tt true a = false := by unfold isMine; rw [decide_eq_false h]; simp
theorem mine_t {t fr tt : Int} {done : Bool} {a : Ac} (h1 : a.th = t) (h2 : a.ce = 0) (h3 : fr < a.wh) (h4 : done = false ∨ a.wh < tt) : isMine t fr tt done a = true := by
  unfold isMine
  rw [decide_eq_true h1, decide_eq_true h2, decide_eq_true h3]
  rcases h4 with h4 | h4
  · rw [h4]; rfl
  · rw [decide_eq_true h4]; simp
theorem chg_f1 {a : Ac} (h : a.op ≠ 9) : isChg a = false := by unfold isChg; rw [decide_eq_false h]; rfl
theorem chg_f2 {a : Ac} (h : a.old = a.now) : isChg a = false := by unfold isChg; rw [decide_eq_false (not_not_intro h)]; simp
theorem chg_t {a : Ac} (h1 : a.op = 9) (h2 : a.old ≠ a.now) : isChg a = true := by unfold isChg; rw [decide_eq_true h1, decide_eq_true h2]; rfl
theorem ne_nil (w : World) : (binOp .neq 64 (.slice none 0 0) (.slice none 0 0)).run Tryd.prog w = .ok (.bool false) w := by kernel_rfl
theorem ne_some (g : Nat) (w : World) : (binOp .neq 64 (.slice (some ⟨g, 0, none⟩) 1 1) (.slice none 0 0)).run Tryd.prog w = .ok (.bool true) w := by kernel_rfl
def EffEnd (ps : List Pt) (w : World) (e : Ending) (w' : World) : Prop := ∃ v, e = .returned v ∧ w'.ownsRow w.heap.size 39 4 v ps.length (flatP ps) ∧ Below w.heap.size w w'
theorem eff_end0 {w wr : World} {E : List Pt} (hb : Below w.heap.size w wr) (hE : E = []) : EffEnd E w (.returned (.slice none 0 0)) wr := by
  subst hE
  exact ⟨_, rfl, World.ownsRow_nil _ _ _ _, hb⟩
theorem eff_end1 {w wr : World} {E : List Pt} {g : Nat} {x : Pt} (hb : Below w.heap.size w wr) (hg : wr.heap.size = g) (hE : E = [x]) : EffEnd E w (.returned (.slice (some ⟨g, 0, none⟩) 1 1)) (wr.alloc (.cells #[.int .i64 x.wh, .int .i64 x.th, .int .i64 x.ca, .bool x.la] 39)) := by
  subst hE hg
  exact ⟨_, rfl, own_lit39 _ hb.size (by omega) rfl, hb.alloc hb.size _⟩
theorem eff_end2 {w wr : World} {E : List Pt} {g : Nat} {x y : Pt} (hb : Below w.heap.size w wr) (hg : wr.heap.size = g) (hE : E = [x, y]) :
    EffEnd E w (.returned (.slice (some ⟨g, 0, none⟩) 2 2)) (wr.alloc (.cells #[.int .i64 x.wh, .int .i64 x.th, .int .i64 x.ca, .bool x.la, .int .i64 y.wh, .int .i64 y.th, .int .i64 y.ca, .bool y.la] 39)) := by
  subst hE hg
  exact ⟨_, rfl, own_lit39 _ hb.size (by omega) rfl, hb.alloc hb.size _⟩
theorem below_dr {B : Nat} {w wr : World} (h3 : Below B w wr) : Below B w wr.drew := ⟨h3.os, h3.tape, h3.output, h3.size, h3.block⟩
theorem effEnd_drew {w wr : World} {E : List Pt} {e : Ending} (h : EffEnd E w e wr) : EffEnd E w e wr.drew := by
  obtain ⟨v, h1, h2, h3⟩ := h
  exact ⟨v, h1, h2, ⟨h3.os, h3.tape, h3.output, h3.size, h3.block⟩⟩
def EffRel (w : World) (t fr tt : Int) (done : Bool) (what cn : Int) (l : List Ac) (i : Nat) (s : Option Int × Option Int) (v1 v2 : Value) (wr : World) : Prop :=
  OptIs wr w.heap.size v1 s.1 ∧ OptIs wr w.heap.size v2 s.2 ∧ (s.2 = none → s.1 = none) ∧ effS t fr tt done (l.drop i) s = effS t fr tt done l (none, none) ∧ Blk wr w.heap.size 59 #[.int .i64 what, .int .i64 cn] ∧ Below w.heap.size w wr
theorem EffRel.skip {w wr : World} {t fr tt : Int} {done : Bool} {what cn : Int} {l : List Ac} {i : Nat} {s : Option Int × Option Int} {v1 v2 : Value} {a : Ac} (h : EffRel w t fr tt done what cn l i s v1 v2 wr) (o : Obj) (ha : l[i]? = some a) (hm : isMine t fr tt done a = false) :
    EffRel w t fr tt done what cn l (i + 1) s v1 v2 (wr.alloc o) := by
  obtain ⟨h1, h2, h3, h4, h5, h6⟩ := h
  obtain ⟨hi, rfl⟩ := List.getElem?_eq_some_iff.1 ha
  refine ⟨h1.alloc o, h2.alloc o, h3, ?_, h5.alloc o, h6.alloc h6.size o⟩
  rw [← h4, List.drop_eq_getElem_cons hi, effS_skip hm]
theorem EffRel.last {w wr : World} {t fr tt : Int} {done : Bool} {what cn : Int} {l : List Ac} {i : Nat} {s : Option Int × Option Int} {v1 v2 : Value} {a : Ac} (h : EffRel w t fr tt done what cn l i s v1 v2 wr) (o : Obj) (ha : l[i]? = some a) (hm : isMine t fr tt done a = true) (hc : isChg a = false) :
    EffRel w t fr tt done what cn l (i + 1) (s.1, some a.wh) v1 (.slice (some ⟨wr.heap.size + 1, 0, none⟩) 1 1) ((wr.alloc o).alloc (.cells #[.int .i64 a.wh] 3)) := by
  obtain ⟨h1, h2, h3, h4, h5, h6⟩ := h
  obtain ⟨hi, rfl⟩ := List.getElem?_eq_some_iff.1 ha
  have h7 := h6.alloc h6.size o
  have hn := optIs_new (base := w.heap.size) h7.size (x := l[i].wh)
  rw [World.size_alloc] at hn
  refine ⟨(h1.alloc o).alloc _, hn, (fun h => by cases h), ?_, (h5.alloc o).alloc _, h7.alloc h7.size _⟩
  rw [← h4, List.drop_eq_getElem_cons hi, effS_last hm hc]
theorem EffRel.both {w wr : World} {t fr tt : Int} {done : Bool} {what cn : Int} {l : List Ac} {i : Nat} {s : Option Int × Option Int} {v1 v2 : Value} {a : Ac} (h : EffRel w t fr tt done what cn l i s v1 v2 wr) (o : Obj) (ha : l[i]? = some a) (hm : isMine t fr tt done a = true) (hc : isChg a = true) :
    EffRel w t fr tt done what cn l (i + 1) (some a.wh, some a.wh) (.slice (some ⟨wr.heap.size + 1, 0, none⟩) 1 1) (.slice (some ⟨wr.heap.size + 1, 0, none⟩) 1 1) ((wr.alloc o).alloc (.cells #[.int .i64 a.wh] 3)) := by
  obtain ⟨h1, h2, h3, h4, h5, h6⟩ := h
  obtain ⟨hi, rfl⟩ := List.getElem?_eq_some_iff.1 ha
  have h7 := h6.alloc h6.size o
  have hn := optIs_new (base := w.heap.size) h7.size (x := l[i].wh)
  rw [World.size_alloc] at hn
  refine ⟨hn, hn, (fun h => by cases h), ?_, (h5.alloc o).alloc _, h7.alloc h7.size _⟩
  rw [← h4, List.drop_eq_getElem_cons hi, effS_both hm hc]
set_option maxRecDepth 100000 in
set_option maxHeartbeats 16000000 in
theorem effects_f (t k : Int) (what cn : Int) (A : Option Addr) (n cap B : Nat) (l : List Ac) (fr tt : Int) (done : Bool) (w : World) (hl : l.length = n) (hn : n ≤ 300) (hr : Reads w B 6 A n (flatA l)) (hB : B ≤ w.heap.size) :
    Calls Tryd.prog 17 #[.int .i64 t, .int .i64 k, .agg #[.int .i64 what, .int .i64 cn], .slice A n cap, .int .i64 fr, .int .i64 tt, .bool done] w (EffEnd (eff t k what l fr tt done) w) := by
  have HL := Lib.hid hl
  have HST : Hid (EffRel w t fr tt done what cn l 0 (none, none) (.slice none 0 0) (.slice none 0 0) (w.alloc (.cells #[.int .i64 what, .int .i64 cn] 59))) :=
    Lib.hid ⟨.inl ⟨rfl, rfl⟩, .inl ⟨rfl, rfl⟩, fun _ => rfl, rfl, Blk.new _ _ _, (Below.refl _ _).alloc (Nat.le_refl _) _⟩
  have HD : Hid (eff t k what l fr tt done = effP t k what done (effS t fr tt done l (none, none))) := Lib.hid rfl
  clear hl
  go_enter Tryd.func17, Tryd.ntmps17
  go_wp2
  go_loopg [23, 15, 16] n (fun g vi v1 v2 wr => ∃ (i : Nat) (s : Option Int × Option Int), vi = .int .i64 i ∧ i + g = n ∧ Hid (EffRel w t fr tt done what cn l i s v1 v2 wr))
  case atStart => exact ⟨0, (none, none), rfl, by omega, HST⟩
  case round =>
    clear HST
    obtain ⟨i, s, rfl, hi, HR⟩ := hrel
    cases gk with
    | succ gk =>
      as_aux_lemma =>
        have hlt : i < n := by omega
        obtain ⟨ad, rfl, _, c0, c1, c2, c3, c4, c5⟩ := (hr.below (HR.out.2.2.2.2.2.mono hB)).ac HL.out hlt
        have hil : i < l.length := by rw [HL.out]; exact hlt
        obtain ⟨a, ha⟩ : ∃ a, l[i]'hil = a := ⟨_, rfl⟩
        have HA := Lib.hid (show l[i]? = some a by rw [List.getElem?_eq_getElem hil, ha])
        rw [ha] at c0 c1 c2 c3 c4 c5
        clear ha
        obtain ⟨wh, th, op, ce, old, now⟩ := a
        simp only at c0 c1 c2 c3 c4 c5
        have hsz := HR.out.2.2.2.2.1.lt
        by_cases h1 : th = t
        · by_cases h2 : ce = 0
          · by_cases h3 : fr < wh
            · have h3' : ¬ wh ≤ fr := by omega
              by_cases h4 : done = true ∧ tt ≤ wh
              · obtain ⟨rfl, h4⟩ := h4
                have HR2 := Lib.hid (fun o => HR.out.skip o HA.out (mine_f4 (by simpa using h4)))
                clear HR
                go_wp2
                go_roundg gk
                case measure => omega
                case rel => exact ⟨i + 1, s, by go_num, by omega, Lib.hid (HR2.out _)⟩
              · have h4' : done = false ∨ (done = true ∧ ¬ tt ≤ wh) := by
                  cases done
                  · exact .inl rfl
                  · exact .inr ⟨rfl, fun h => h4 ⟨rfl, h⟩⟩
                have HM : Hid (isMine t fr tt done ⟨wh, th, op, ce, old, now⟩ = true) := Lib.hid (mine_t h1 h2 h3 (by
                  rcases h4' with h | ⟨_, h⟩
                  · exact .inl h
                  · exact .inr (by show wh < tt; omega)))
                clear h4
                by_cases h5 : op = 9
                · by_cases h6 : old = now
                  · have HR2 := Lib.hid (fun o => HR.out.last o HA.out HM.out (chg_f2 h6))
                    clear HR HM
                    rcases h4' with rfl | ⟨rfl, h4⟩
                    all_goals
                      go_wp2
                      go_roundg gk
                      case measure => omega
                      case rel => exact ⟨i + 1, _, by go_num, by omega, Lib.hid (HR2.out _)⟩
                  · have HR2 := Lib.hid (fun o => HR.out.both o HA.out HM.out (chg_t h5 h6))
                    clear HR HM
                    rcases h4' with rfl | ⟨rfl, h4⟩
                    all_goals
                      go_wp2
                      go_roundg gk
                      case measure => omega
                      case rel => exact ⟨i + 1, _, by go_num, by omega, Lib.hid (HR2.out _)⟩
                · have HR2 := Lib.hid (fun o => HR.out.last o HA.out HM.out (chg_f1 h5))
                  clear HR HM
                  rcases h4' with rfl | ⟨rfl, h4⟩
                  all_goals
                    go_wp2
                    go_roundg gk
                    case measure => omega
                    case rel => exact ⟨i + 1, _, by go_num, by omega, Lib.hid (HR2.out _)⟩
            · have h3' : wh ≤ fr := by omega
              have HR2 := Lib.hid (fun o => HR.out.skip o HA.out (mine_f3 h3))
              clear HR
              go_wp2
              go_roundg gk
              case measure => omega
              case rel => exact ⟨i + 1, s, by go_num, by omega, Lib.hid (HR2.out _)⟩
          · have HR2 := Lib.hid (fun o => HR.out.skip o HA.out (mine_f2 h2))
            clear HR
            go_wp2
            go_roundg gk
            case measure => omega
            case rel => exact ⟨i + 1, s, by go_num, by omega, Lib.hid (HR2.out _)⟩
        · have HR2 := Lib.hid (fun o => HR.out.skip o HA.out (mine_f1 h1))
          clear HR
          go_wp2
          go_roundg gk
          case measure => omega
          case rel => exact ⟨i + 1, s, by go_num, by omega, Lib.hid (HR2.out _)⟩
    | zero =>
      as_aux_lemma =>
        obtain ⟨h1, h2, h3, h4, h5, h6⟩ := HR.out
        obtain rfl : i = n := by omega
        rw [List.drop_eq_nil_of_le (by rw [HL.out]; exact Nat.le_refl _)] at h4
        have hE : eff t k what l fr tt done = effP t k what done s := by rw [HD.out, ← h4]; rfl
        have HE := Lib.hid hE
        have k0 := h5.cell 0
        simp at k0
        have hlt := h5.lt
        have H6 := Lib.hid (fun o => h6.alloc h6.size o)
        have H7 := Lib.hid (fun o o' => (h6.alloc h6.size o).alloc ((h6.alloc h6.size o).size) o')
        have hge := Lib.hid h6.size
        clear HR HD hE h4 h5 h6 hr HL
        have nn := ne_nil
        have ns := ne_some
        have mixed : Tryd.prog.follows .mixedOrders = true := by kernel_rfl
        obtain ⟨s1, s2⟩ := s
        rcases h2 with ⟨rfl, rfl⟩ | ⟨x2, g2, rfl, rfl, hg2, hl2, hc2⟩
        · obtain rfl := h3 rfl
          rcases h1 with ⟨rfl, _⟩ | ⟨x1, g1, e, _⟩
          · cases done
            all_goals
              go_wp2
              go_ret
              exact eff_end0 (H6.out _) HE.out
          · cases e
        · rcases h1 with ⟨rfl, rfl⟩ | ⟨x1, g1, rfl, rfl, hg1, hl1, hc1⟩
          · cases done
            · go_wp2
              go_ret
              exact eff_end0 (H6.out _) HE.out
            · go_upto_region 20 with fail
              refine wp_region_lit ?_
              refine wpList_load_row rfl 39 (.tmp 19) rfl wr.heap.size rfl 39 #[.int .i64 x2, .int .i64 t, .int .i64 k, .bool false] (0, 0) _ (Blk.new _ _ _) Tryd.underlying39 rfl (by kernel_rfl) ?_
              refine wpList_build39 rfl (.tmp 110) rfl _ _ _ _ rfl ?_
              go_wp2
              go_ret
              exact eff_end1 (x := ⟨x2, t, k, false⟩) (H6.out _) (by simp) HE.out
          · by_cases hw : what = 9
            · subst hw
              cases done
              · go_upto_region 20 with fail
                refine wp_region_lit ?_
                refine wpList_load_row rfl 39 (.tmp 19) rfl wr.heap.size rfl 39 #[.int .i64 x1, .int .i64 t, .int .i64 k, .bool false] (0, 0) _ (Blk.new _ _ _) Tryd.underlying39 rfl (by kernel_rfl) ?_
                refine wpList_build39 rfl (.tmp 110) rfl _ _ _ _ rfl ?_
                go_wp2
                go_ret
                exact eff_end1 (x := ⟨x1, t, k, false⟩) (H6.out _) (by simp) HE.out
              · go_wp2_with fail
                go_big_region_o
                have hB1 := Lib.hid (Blk.drew (((Blk.new wr 39 #[.int .i64 x1, .int .i64 t, .int .i64 k, .bool false]).alloc (.cells #[.int .i64 x2, .int .i64 t, .int .i64 k, .bool true] 39))))
                have hB2 := Lib.hid (Blk.drew (Blk.new (wr.alloc (.cells #[.int .i64 x1, .int .i64 t, .int .i64 k, .bool false] 39)) 39 #[.int .i64 x2, .int .i64 t, .int .i64 k, .bool true]))
                have hBb := Lib.hid (below_dr (H7.out (.cells #[.int .i64 x1, .int .i64 t, .int .i64 k, .bool false] 39) (.cells #[.int .i64 x2, .int .i64 t, .int .i64 k, .bool true] 39)))
                have hsz : ((wr.alloc (.cells #[.int .i64 x1, .int .i64 t, .int .i64 k, .bool false] 39)).alloc (.cells #[.int .i64 x2, .int .i64 t, .int .i64 k, .bool true] 39)).drew.heap.size = wr.heap.size + 1 + 1 := by simp
                rw [World.size_alloc] at hB2
                generalize ((wr.alloc (.cells #[.int .i64 x1, .int .i64 t, .int .i64 k, .bool false] 39)).alloc (.cells #[.int .i64 x2, .int .i64 t, .int .i64 k, .bool true] 39)).drew = wz at hB1 hB2 hBb hsz ⊢
                clear H6 H7 hc1 hc2 hl1 hl2 k0
                go_upto_region 15 with fail
                refine wp_region_lit ?_
                refine wpList_load_row rfl 39 (.tmp 19) rfl wr.heap.size rfl 39 #[.int .i64 x1, .int .i64 t, .int .i64 k, .bool false] (0, 0) _ hB1.out Tryd.underlying39 rfl (by kernel_rfl) ?_
                refine wpList_load_row rfl 39 (.tmp 20) rfl (wr.heap.size + 1) rfl 39 #[.int .i64 x2, .int .i64 t, .int .i64 k, .bool true] (0, 0) _ hB2.out Tryd.underlying39 rfl (by kernel_rfl) ?_
                refine wpList_build39b rfl (.tmp 90) (.tmp 91) rfl _ _ _ _ _ _ _ _ rfl rfl ?_
                go_wp2
                go_ret
                exact eff_end2 (x := ⟨x1, t, k, false⟩) (y := ⟨x2, t, k, true⟩) hBb.out hsz HE.out
            · have HE2 : Hid (eff t k what l fr tt done = [⟨x1, t, k, false⟩]) := Lib.hid (by
                rw [HE.out]
                show (if (done && decide (what = 9)) = true then _ else _) = _
                rw [decide_eq_false hw, Bool.and_false, if_neg Bool.false_ne_true])
              go_upto_region 20 with fail
              refine wp_region_lit ?_
              refine wpList_load_row rfl 39 (.tmp 19) rfl wr.heap.size rfl 39 #[.int .i64 x1, .int .i64 t, .int .i64 k, .bool false] (0, 0) _ (Blk.new _ _ _) Tryd.underlying39 rfl (by kernel_rfl) ?_
              refine wpList_build39 rfl (.tmp 110) rfl _ _ _ _ rfl ?_
              go_wp2
              go_ret
              exact eff_end1 (x := ⟨x1, t, k, false⟩) (H6.out _) (by simp) HE2.out
end Go.Proofs.YthnbbgmajdjgeaaDoor
