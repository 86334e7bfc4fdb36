/-
  StoryParses' walks, part one: what the tables are that this package's calls read, numerals. Conditions: as each states.
-/
import Derived.Test.YthnbbgmajdjgeaaDoorStP
import Derived.Test.YthnbbgmajdjgeaaDoorEvZ
import Derived.Lib.SmallJoins
namespace Go.Proofs.YthnbbgmajdjgeaaDoor
open Go.RowKit Go.Extern.Stop Go.Stop Go.Extern
attribute [local go_sem ↓] Go.wp_at_zero Go.wp_at_succ

/-- The tables and errors that the parsers read are laid. -/
structure Std0 (w : World) : Prop where
  tab : HasTab w
  names : HasNames w
  syn : ∃ te pe, w.cell? ⟨5, 0, none⟩ = some (.iface te pe)
  rng : ∃ te pe, w.cell? ⟨6, 0, none⟩ = some (.iface te pe)
  mx : ∃ m, w.cell? ⟨4, 0, none⟩ = some (.int .i64 m)
  asc : Lib.TabIs Tryd.prog w "strings.asciiSpace" .u8 Lib.asciiSpaceTab
  wht : Lib.WhiteTab 2 w
  lt : 7 < w.heap.size
theorem Tryd.gAsc : Tryd.prog.globalNamed "strings.asciiSpace" = some 0 := by kernel_rfl
theorem Std0.below {w w' : World} (h : Std0 w) (hb : Below w.heap.size w w') : Std0 w' where
  tab := h.tab.below hb (by have := h.lt; omega)
  names := h.names.below hb (by have := h.lt; omega)
  syn := by obtain ⟨te, pe, hc⟩ := h.syn; exact ⟨te, pe, (hb.cell (p := ⟨5, 0, none⟩) (by have := h.lt; show 5 < _; omega)).trans hc⟩
  rng := by obtain ⟨te, pe, hc⟩ := h.rng; exact ⟨te, pe, (hb.cell (p := ⟨6, 0, none⟩) (by have := h.lt; show 6 < _; omega)).trans hc⟩
  mx := by obtain ⟨m, hc⟩ := h.mx; exact ⟨m, (hb.cell (p := ⟨4, 0, none⟩) (by have := h.lt; show 4 < _; omega)).trans hc⟩
  asc := by
    have h1 := h.asc
    unfold Lib.TabIs World.var? at h1 ⊢
    rw [Tryd.gAsc] at h1 ⊢
    simp only [Option.bind_some] at h1 ⊢
    rw [hb.block 0 (by have := h.lt; omega)]
    exact h1
  wht := WhiteTab_below h.wht hb
  lt := Nat.lt_of_lt_of_le h.lt hb.size
/-- They are laid below B. -/
def Std (B : Nat) (w : World) : Prop := ∃ W, Std0 W ∧ W.heap.size ≤ B ∧ Below W.heap.size W w
theorem Std.out {B : Nat} {w : World} (h : Std B w) : Std0 w := by
  obtain ⟨W, h1, h2, h3⟩ := h
  exact h1.below h3
theorem Std.below {B : Nat} {w w' : World} (h : Std B w) (hb : Below B w w') : Std B w' := by
  obtain ⟨W, h1, h2, h3⟩ := h
  exact ⟨W, h1, h2, h3.trans (hb.mono h2)⟩
theorem Std.more {B B' : Nat} {w : World} (h : Std B w) (hB : B ≤ B') : Std B' w := by
  obtain ⟨W, h1, h2, h3⟩ := h
  exact ⟨W, h1, Nat.le_trans h2 hB, h3⟩
theorem Std.of {w : World} (h : Std0 w) : Std w.heap.size w := ⟨w, h, Nat.le_refl _, Below.refl _ _⟩
theorem atoi_none (s : ByteArray) (hlim : s.size ≤ 281474976710656) {x : Lib.NumEnd Int} (h : Lib.atoiAll s.data.toList = x) (h1 : ∀ v, x ≠ .ok v) (h2 : x ≠ .range) (ev : Value) (w : World) (hv : w.cell? ⟨5, 0, none⟩ = some ev) (hev : ev = .nilIface ∨ ∃ te pe, ev = .iface te pe) :
    Calls Tryd.prog 24 #[.string s] w fun e w' => ∃ N, e = .returned (.tuple #[.int .i64 (0), .iface 134 (.pointer (some ⟨N, 0, none⟩))]) ∧ w.heap.size ≤ N ∧ w'.heap[N]? = some (.cells #[.string ⟨#[65, 116, 111, 105]⟩, .string s, ev] 163 (0, 0)) ∧ Below w.heap.size w w' := by
  rcases x with v | _ | _
  · exact absurd rfl (h1 v)
  · exact Any.strconv_Atoi_syntax Tryd.laysC172 s hlim h ev w hv hev
  · exact absurd rfl h2
theorem atoi_t (s : ByteArray) (w : World) (hs : s.size ≤ 10000) (h : numR s.data.toList = true) :
    Calls Tryd.prog 24 #[.string s] w fun e w' => e = .returned (.tuple #[.int .i64 (numV s.data.toList), .nilIface]) ∧ Below w.heap.size w w' := by
  rcases ha : Lib.atoiAll s.data.toList with v | _ | _
  · have hv : numV s.data.toList = v := by unfold numV; rw [ha]
    rw [hv]
    refine (Tryd.strconv_Atoi_ok s (by omega) v ha w).mono ?_
    rintro e w' ⟨rfl, h | ⟨t, h⟩⟩
    · subst h; exact ⟨rfl, Below.refl _ _⟩
    · subst h; exact ⟨rfl, Joins.below_bytesWorld _ _ _ _ (Nat.le_refl _)⟩
  · unfold numR at h; rw [ha] at h; cases h
  · unfold numR at h; rw [ha] at h; cases h
def AtoiF (s : ByteArray) (w : World) (e : Ending) (w' : World) : Prop := ∃ N : Nat, e = .returned (.tuple #[.int .i64 (numV s.data.toList), .iface 134 (.pointer (some ⟨N, 0, none⟩))]) ∧ Below w.heap.size w w'
theorem atoi_f (s : ByteArray) (w : World) (hw : Std0 w) (hs : s.size ≤ 10000) (h : numR s.data.toList = false) :
    Calls Tryd.prog 24 #[.string s] w (AtoiF s w) := by
  rcases ha : Lib.atoiAll s.data.toList with v | _ | _
  · unfold numR at h; rw [ha] at h; cases h
  · have hv : numV s.data.toList = 0 := by unfold numV; rw [ha]
    obtain ⟨te, pe, hc⟩ := hw.syn
    refine (atoi_none s (by omega) ha (fun _ h => by cases h) (fun h => by cases h) _ w hc (.inr ⟨te, pe, rfl⟩)).mono ?_
    rintro e w' ⟨N, rfl, _, _, hb⟩
    exact ⟨N, by rw [hv], hb⟩
  · have hv : numV s.data.toList = Lib.atoiSat s.data.toList := by unfold numV; rw [ha]
    obtain ⟨te, pe, hc⟩ := hw.rng
    refine (Tryd.strconv_Atoi_range s (by omega) ha _ w hc (.inr ⟨te, pe, rfl⟩)).mono ?_
    rintro e w' ⟨N, rfl, _, _, hb⟩
    exact ⟨N, by rw [hv], hb⟩
theorem numOk_eq (s : ByteArray) (h : numR s.data.toList = true) : numOk s.data.toList = decide (itoaS (numV s.data.toList) = s) := by
  unfold numOk
  rw [h, Bool.true_and]
  refine decide_eq_decide.2 ⟨fun h => ?_, fun h => ?_⟩
  · unfold itoaS
    rw [h]
  · have h2 := congrArg (fun x : ByteArray => x.data.toList) h
    exact h2
def NumEnd (s : ByteArray) (g : Nat) (o : Bool) (w : World) (e : Ending) (w' : World) : Prop := e = .returned (.int .i64 (numV s.data.toList)) ∧ Blk w' g 4 #[.bool (o && numOk s.data.toList)] ∧ Below g w w' ∧ ∀ e t cs, e ≠ g → Blk w e t cs → Blk w' e t cs
theorem num_keep {w w1 : World} {g : Nat} (hb : Below w.heap.size w w1) (v : Value) : ∀ e t cs, e ≠ g → Blk w e t cs → Blk (w1.setCell ⟨g, 0, none⟩ v) e t cs :=
  fun _ _ _ hn h => (h.below hb h.lt).far hn v
theorem number_any (s : ByteArray) (g : Nat) (o : Bool) (w : World) (hw : Std g w) (hs : s.size ≤ 10000) (hg : Blk w g 4 #[.bool o]) :
    Calls Tryd.prog 47 #[.string s, .pointer (some ⟨g, 0, none⟩)] w (NumEnd s g o w) := by
  have hgl := hg.lt
  have c0 := hg.cell 0
  simp at c0
  have HG := Lib.hid hg
  have HW := Lib.hid hw
  clear hg hw
  have hB := numV_B64 s.data.toList
  have HB := Lib.hid hB
  clear hB
  cases hr : numR s.data.toList with
  | false =>
    have ho : numOk s.data.toList = false := by unfold numOk; rw [hr]; rfl
    have HA := Lib.hid (atoi_f s w HW.out.out hs hr)
    have HO := Lib.hid ho
    clear hr ho
    cases o
    all_goals
      go_enter Tryd.func47, Tryd.ntmps47
      go_wp2_with (go_at_call 24; refine HA.out.mono ?_; rintro e w1 ⟨N, rfl, hb1⟩; have hg1 := HG.out.below hb1 hgl; have c1 := hg1.cell 0; simp at c1; have f1 := hg1.frozen 0; have hs1 := hb1.size)
      go_ret
      refine ⟨rfl, ?_, (hb1.mono (Nat.le_of_lt hgl)).setCell (Nat.le_refl _) _, num_keep hb1 _⟩
      have := hg1.set_ 0 (.bool false)
      simpa [HO.out] using this
  | true =>
    have ho := numOk_eq s hr
    have HA := Lib.hid (atoi_t s w hs hr)
    have HO := Lib.hid ho
    clear hr ho
    cases o
    · go_enter Tryd.func47, Tryd.ntmps47
      go_wp2_with (go_at_call 24; refine HA.out.mono ?_; rintro e w1 ⟨rfl, hb1⟩; have hg1 := HG.out.below hb1 hgl; have c1 := hg1.cell 0; simp at c1; have f1 := hg1.frozen 0; have hs1 := hb1.size)
      go_ret
      refine ⟨rfl, ?_, (hb1.mono (Nat.le_of_lt hgl)).setCell (Nat.le_refl _) _, num_keep hb1 _⟩
      have := hg1.set_ 0 (.bool false)
      simpa using this
    · go_enter Tryd.func47, Tryd.ntmps47
      go_wp2_with (first
        | (go_at_call 24; refine HA.out.mono ?_; rintro e w1 ⟨rfl, hb1⟩; have hg1 := HG.out.below hb1 hgl; have c1 := hg1.cell 0; simp at c1; have f1 := hg1.frozen 0; have hs1 := hb1.size)
        | (go_at_call 43; refine (itoa_any _ _ HB.out (HW.out.below (hb1.mono (Nat.le_of_lt hgl))).out.tab).mono ?_; rintro e w2 ⟨rfl, hb2⟩; have hg2 := hg1.below hb2 hg1.lt; have c2 := hg2.cell 0; simp at c2; have f2 := hg2.frozen 0; have hs2 := hb2.size)
        | fail)
      go_ret
      refine ⟨rfl, ?_, ((hb1.mono (Nat.le_of_lt hgl)).trans (hb2.mono (Nat.le_of_lt hg1.lt))).setCell (Nat.le_refl _) _, num_keep (hb1.trans (hb2.mono hb1.size)) _⟩
      have h3 := hg2.set_ 0 (.bool ((itoaS (numV s.data.toList)).toList == s.toList))
      rw [HO.out, Bool.true_and]
      have h4 : decide (itoaS (numV s.data.toList) = s) = ((itoaS (numV s.data.toList)).toList == s.toList) := by
        rw [ByteArray.toList_eq, ByteArray.toList_eq]
        by_cases hq : itoaS (numV s.data.toList) = s
        · rw [decide_eq_true hq, hq]; simp
        · rw [decide_eq_false hq]
          symm
          rw [beq_eq_false_iff_ne]
          intro hc
          exact hq (ByteArray.ext (Array.toList_inj.1 hc))
      rw [h4]
      simpa using h3
end Go.Proofs.YthnbbgmajdjgeaaDoor
