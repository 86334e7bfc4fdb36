/-
  The walks of FairIs, part two: whether picks are fair, in the reference, and the law. Conditions: errors.errorType is laid; the picks lie below this call's memory.
-/
import Derived.Test.YtepoahinnfjaiaaDoorFaiW
namespace Go.Proofs.YtepoahinnfjaiaaDoor
open Go.RowKit Go.Extern.Stop Go.Stop Go.Extern

/-- Block b is a map of at most n entries whose keys are the ints ks. -/
def SetIs (w : World) (b n : Nat) (ks : List Int) : Prop :=
  ∃ D : DataW Unit, w.ownsMap Tryd.prog 3 (plainElem Tryd.prog 4) b n D ∧ Maps.Tidy D ∧ Maps.size D = ks.length ∧ ks.Nodup ∧ ∀ t, wfI t → (Maps.has D (.int .i64 t) = true ↔ t ∈ ks)
section
variable {w : World} {b n : Nat} {ks : List Int}
theorem SetIs.made (w : World) : SetIs (w.alloc (.map #[] 0)) w.heap.size 0 [] :=
  ⟨.map [], World.ownsMap_made _ _ _ _, Maps.tidy_empty, rfl, List.nodup_nil, fun t _ => by simp [Maps.has]⟩
theorem SetIs.lt (h : SetIs w b n ks) : b < w.heap.size := by obtain ⟨D, h1, _⟩ := h; exact h1.lt
theorem SetIs.mono (h : SetIs w b n ks) {n' : Nat} (hn : n ≤ n') : SetIs w b n' ks := by
  obtain ⟨D, h1, h2⟩ := h; exact ⟨D, h1.mono hn, h2⟩
theorem SetIs.len (h : SetIs w b n ks) (T ty : TypeId) (hT : Tryd.prog.underlying T = some (.map 3 4)) : (Builtin.len_ #[T] ty #[.map (some b)]).run Tryd.prog w = .ok (.int .i64 (ks.length : Nat)) w := by
  obtain ⟨D, h1, h2, h3, _⟩ := h
  rw [h1.len hT ty, h3]
set_option maxRecDepth 100000 in
theorem SetIs.store (h : SetIs w b n ks) {T : TypeId} (hT : Tryd.prog.underlying T = some (.map 3 4)) (hn : n < maxLen) (t : Int) (hw : wfI t) :
    ∃ w', (Instr.mapUpdate T (.map (some b)) (.int .i64 t) (.bool true)).run Tryd.prog w = .ok () w' ∧ SetIs w' b (n + 1) (if t ∈ ks then ks else t :: ks) ∧ w.grownBy w' (some b) := by
  obtain ⟨D, h1, h2, h3, h4, h5⟩ := h
  obtain ⟨w', hrun, hown, hg⟩ := h1.update (Maps.int_keyed Tryd.underlying3) hT hn (Maps.keyOf_int_mk Tryd.underlying3 hw) (plainElem_bool Tryd.underlying4 true)
  refine ⟨w', hrun, ⟨_, hown, hown.tidy (Maps.int_keyed Tryd.underlying3), ?_, ?_, fun x hx => ?_⟩, hg⟩
  · rw [Maps.size_put h2]
    by_cases ht : t ∈ ks
    · rw [if_pos ht, if_pos ((h5 t hw).2 ht)]; exact h3
    · rw [if_neg ht, if_neg (fun hc => ht ((h5 t hw).1 hc)), List.length_cons, h3]
  · by_cases ht : t ∈ ks
    · rw [if_pos ht]; exact h4
    · rw [if_neg ht]; exact List.nodup_cons.2 ⟨ht, h4⟩
  · by_cases hxt : x = t
    · subst hxt
      rw [Maps.has_put_same h2.isMap (by simp [WideAt.IsKeyLit])]
      by_cases ht : x ∈ ks <;> simp [ht]
    · rw [Maps.has_put_other (by intro h; injection h with _ h; exact hxt h), h5 x hx]
      by_cases ht : t ∈ ks <;> simp [ht, hxt]
end

theorem pis_f (l : List Int) (n win : Int) (A : Option Addr) (len cap : Nat) (w : World) (h : ¬ (0 ≤ n ∧ n ≤ 16 ∧ 1 ≤ win)) :
    Calls Tryd.prog 30 #[.slice A len cap, .int .i64 n, .int .i64 win] w fun e w' => e = .returned (.bool (fairB l n win)) ∧ Below w.heap.size w w' := by
  have hno : fairB l n win = false := fairB_f (fun hf => h ⟨hf.1, hf.2.1, hf.2.2.1⟩)
  have HNO := Lib.hid hno
  have hc : ¬ (0 ≤ n ∧ n ≤ 16) ∨ ((0 ≤ n ∧ n ≤ 16) ∧ win < 1) := by omega
  clear h hno
  rcases hc with h1 | ⟨⟨h1, h2⟩, h3⟩
  · have H1 := Lib.hid h1
    clear h1
    go_enter Tryd.func30, Tryd.ntmps30
    go_wp2_with (go_at_call 78; refine (within_f _ _ _ _ (by have := H1.out; omega)).mono ?_; rintro e w1 ⟨rfl, rfl⟩)
    go_ret
    exact ⟨by rw [HNO.out]; rfl, Below.refl _ _⟩
  · go_enter Tryd.func30, Tryd.ntmps30
    go_wp2_with (go_at_call 78; refine (within_t _ _ _ _ (by omega) (by omega)).mono ?_; rintro e w1 ⟨rfl, rfl⟩)
    go_ret
    exact ⟨by rw [HNO.out]; rfl, Below.refl _ _⟩
theorem mem_step {l : List Int} {n : Nat} {i q : Nat} {t : Int} {ks ks' : List Int} (ht : l[i + q]? = some t) (h : ∀ x : Int, x ∈ ks ↔ 0 ≤ x ∧ x < n ∧ ∃ j : Nat, i ≤ j ∧ j < i + q ∧ l[j]? = some x)
    (hk : ∀ x : Int, x ∈ ks' ↔ x ∈ ks ∨ (0 ≤ t ∧ t < n ∧ x = t)) : ∀ x : Int, x ∈ ks' ↔ 0 ≤ x ∧ x < n ∧ ∃ j : Nat, i ≤ j ∧ j < i + (q + 1) ∧ l[j]? = some x := by
  intro x
  rw [hk, h]
  constructor
  · rintro (⟨h0, h1, j, j0, j1, j2⟩ | ⟨h0, h1, rfl⟩)
    · exact ⟨h0, h1, j, j0, by omega, j2⟩
    · exact ⟨h0, h1, i + q, by omega, by omega, ht⟩
  · rintro ⟨h0, h1, j, j0, j1, j2⟩
    by_cases hj : j = i + q
    · subst hj
      rw [ht] at j2
      injection j2 with j2
      subst j2
      exact .inr ⟨h0, h1, rfl⟩
    · exact .inl ⟨h0, h1, j, j0, by omega, j2⟩
set_option maxRecDepth 100000 in
set_option maxHeartbeats 2000000 in
theorem pis_t (l : List Int) (n W : Nat) (A : Option Addr) (len cap B : Nat) (w : World) (hl : l.length = len) (hlen : len ≤ 150) (hr : Reads w B 1 A len (ints l)) (hB : B ≤ w.heap.size) (hn : n ≤ 16) (hw : 1 ≤ W) (hw2 : W ≤ 9223372036854775807)
    (hcap : len ≤ cap) (hcap2 : cap ≤ 9223372036854775807) (hwf : ∀ t ∈ l, wfI t) :
    Calls Tryd.prog 30 #[.slice A len cap, .int .i64 n, .int .i64 W] w fun e w' => e = .returned (.bool (fairB l n W)) ∧ Below w.heap.size w w' := by
  have hmm := @run_makeMap Tryd.prog
  have HL := Lib.hid hl
  have HWF := Lib.hid hwf
  clear hl hwf
  go_enter Tryd.func30, Tryd.ntmps30
  go_wp2_with (go_at_call 78; refine (within_t _ _ _ _ (by omega) (by omega)).mono ?_; rintro e w1 ⟨rfl, rfl⟩)
  go_loopw [7] (fun v wr => ∃ i : Nat, i ≤ len ∧ v = .int .i64 i ∧ Below w.heap.size w wr ∧ ∀ x : Nat, x < i → (x : Int) + (W : Int) ≤ l.length → WinOk l n W x) (fun v _ => len + 1 - (intOf v).toNat)
  case atStart => exact ⟨0, Nat.zero_le _, rfl, Below.refl _ _, fun x hx => by omega⟩
  case round =>
    obtain ⟨i, hi, rfl, hbel, hwin⟩ := hrel
    have HWIN := Lib.hid hwin
    clear hwin
    by_cases hfit : i + W ≤ len
    · have hWl : W ≤ len := by omega
      have hWl' : (W : Int) ≤ (len : Int) := by omega
      have hil : (i : Int) ≤ (len : Int) - (W : Int) := by omega
      have hic : (i : Int) + (W : Int) ≤ (cap : Int) := by omega
      have hne : ¬ cap = i := by omega
      obtain ⟨ad, rfl, hadB, _⟩ := hr.int_ HL.out (show i < len by omega)
      go_wp2
      rw [show i + W - i = W by omega]
      have hbel0 := hbel.alloc hbel.size (.map #[] 0)
      have hmw := SetIs.made wr
      have hmb : w.heap.size ≤ wr.heap.size := hbel.size
      obtain ⟨mb, hmbe⟩ : ∃ mb, wr.heap.size = mb := ⟨_, rfl⟩
      rw [hmbe] at hmw hmb ⊢
      have HMW := Lib.hid hmw
      clear hmbe hmw
      go_loopw [40] (fun v w' => ∃ (q : Nat) (ks : List Int), q ≤ W ∧ v = .int .i64 q ∧ SetIs w' mb q ks ∧ (∀ x : Int, x ∈ ks ↔ 0 ≤ x ∧ x < n ∧ ∃ j : Nat, i ≤ j ∧ j < i + q ∧ l[j]? = some x) ∧ Below w.heap.size w w') (fun v _ => W - (intOf v).toNat)
      case atStart => exact ⟨0, [], Nat.zero_le _, rfl, HMW.out, fun x => by simp; intro _ _ j _ hj; omega, hbel0⟩
      case round =>
        obtain ⟨q, ks, hq, rfl, hset, hmem, hbel2⟩ := hrel
        have HMEM := Lib.hid hmem
        have HSET := Lib.hid hset
        clear hmem hset
        by_cases hlt : q < W
        · obtain ⟨ad', hade, _, hc⟩ := (hr.below (hbel2.mono hB)).int_ HL.out (show i + q < len by omega)
          injection hade with hade
          subst hade
          rw [← add_of_add] at hc
          obtain ⟨t, ht⟩ : ∃ t, l[i + q]? = some t := ⟨_, List.getElem?_eq_getElem (by rw [HL.out]; omega)⟩
          have hte : l[i + q]'(by rw [HL.out]; omega) = t := by
            rw [List.getElem?_eq_getElem (by rw [HL.out]; omega)] at ht; exact Option.some.inj ht
          rw [hte] at hc
          have hwt : wfI t := HWF.out t (by rw [← hte]; exact List.getElem_mem _)
          have HT := Lib.hid ht
          have HWT := Lib.hid hwt
          clear ht hte hwt
          by_cases hin : 0 ≤ t ∧ t < n
          · obtain ⟨t0, t1⟩ := hin
            obtain ⟨w2, hrun, hset2, hg2⟩ := HSET.out.store Tryd.underlying134 (by unfold maxLen; omega) t HWT.out
            have hb3 := hbel2.grown hg2 hbel2.size (fun g hg => by cases hg; exact hmb)
            have HS2 := Lib.hid hset2
            clear hset2
            go_wp2_with (go_at_call 78; refine (within_t _ _ _ _ (by omega) (by omega)).mono ?_; rintro e w1 ⟨rfl, rfl⟩)
            go_roundw
            case rel =>
              refine ⟨q + 1, _, by omega, by go_num, HS2.out, mem_step HT.out HMEM.out (fun x => ?_), hb3⟩
              by_cases hk : t ∈ ks
              · rw [if_pos hk]; exact ⟨.inl, fun h => h.elim id (fun ⟨_, _, e⟩ => e ▸ hk)⟩
              · rw [if_neg hk, List.mem_cons]; exact ⟨fun h => h.elim (fun e => .inr ⟨t0, t1, e⟩) .inl, fun h => h.elim .inr (fun ⟨_, _, e⟩ => .inl e)⟩
            case measure => simp [intOf]; omega
          · have HIN := Lib.hid hin
            clear hin
            go_wp2_with (go_at_call 78; refine (within_f _ _ _ _ (by have := HIN.out; omega)).mono ?_; rintro e w1 ⟨rfl, rfl⟩)
            go_roundw
            case rel =>
              refine ⟨q + 1, ks, by omega, by go_num, HSET.out.mono (by omega), mem_step HT.out HMEM.out (fun x => ⟨.inl, fun h => h.elim id (fun ⟨h0, h1, _⟩ => absurd ⟨h0, h1⟩ HIN.out)⟩), hbel2⟩
            case measure => simp [intOf]; omega
        · obtain rfl : q = W := by omega
          have hln := HSET.out.len 134 3 Tryd.underlying134
          obtain ⟨D, _, _, _, hnd, _⟩ := HSET.out
          have HND := Lib.hid hnd
          clear hnd
          by_cases hks : ks.length < n
          · have hno : fairB l n q = false := fairB_f (fun hf => by
              have h := win_of_ago hf.2.2.1 hf.2.2.2 i (by have := HL.out; omega)
              have h2 := len_of_all n ks HND.out (fun t t0 t1 => (HMEM.out t).2 ⟨t0, t1, by
                obtain ⟨j, j0, j1, j2⟩ := h t t0 t1
                exact ⟨j, j0, by omega, j2⟩⟩)
              omega)
            have HNO := Lib.hid hno
            clear hno
            go_wp2
            go_ret
            exact ⟨by rw [HNO.out]; rfl, hbel2⟩
          · have hks' : n ≤ ks.length := by omega
            clear hks
            go_wp2
            go_roundw
            case rel =>
              refine ⟨i + 1, by omega, by go_num, hbel2, fun x hx hxl => ?_⟩
              by_cases hxi : x = i
              · subst hxi
                intro t t0 t1
                have := (HMEM.out t).1 (all_of_len n ks HND.out (fun y hy => by have := (HMEM.out y).1 hy; exact ⟨this.1, this.2.1⟩) hks' t t0 t1)
                obtain ⟨_, _, j, j0, j1, j2⟩ := this
                exact ⟨j, j0, by omega, j2⟩
              · exact HWIN.out x (by omega) hxl
            case measure => simp [intOf]; omega
    · have hexit : FairOk l n W := ⟨by omega, by omega, by omega, ago_of_win (by omega) (fun x hx => HWIN.out x (by have := HL.out; omega) hx)⟩
      have hyes := fairB_t hexit
      have HY := Lib.hid hyes
      clear hyes hexit
      by_cases hWl : W ≤ len
      · have hil : (len : Int) - (W : Int) < (i : Int) := by omega
        go_wp2
        go_ret
        exact ⟨by rw [HY.out]; rfl, hbel⟩
      · go_wp2
        go_ret
        exact ⟨by rw [HY.out]; rfl, hbel⟩
end Go.Proofs.YtepoahinnfjaiaaDoor
