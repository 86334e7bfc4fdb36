/- LinPoints: both sorts of points, by when, are one function 'sortP': slices.SortStableFunc (function 18) in the program, sort.SliceStable (function 14) in the reference. Conditions: the points lie in a row of this call's own. -/
import Derived.Test.YthnbbgmajdjgeaaDoorLpO
import Derived.Test.YthnbbgmajdjgeaaDoorSoD
import Derived.Test.YthnbbgmajdjgeaaDoorSlD
import Derived.Shelf.GgSortMore.Stable
import Derived.Shelf.GgSortFunc.SmallK
namespace Go.Proofs.YthnbbgmajdjgeaaDoor
open Go.RowKit Go.Sort Go.Shelf Go.Lib

def ltP (x y : Pt) : Bool := decide (x.wh < y.wh)
def cfP (x y : Pt) : Int := if x.wh < y.wh then -1 else if y.wh < x.wh then 1 else 0
theorem ltOf_cfP : ltOf cfP = ltP := by
  funext x y
  show decide (cfP x y < 0) = decide (x.wh < y.wh)
  refine decide_eq_decide.2 ?_
  unfold cfP
  by_cases h : x.wh < y.wh
  · rw [if_pos h]; exact ⟨fun _ => h, fun _ => by decide⟩
  · rw [if_neg h]
    by_cases h2 : y.wh < x.wh
    · rw [if_pos h2]; exact ⟨fun h3 => by omega, fun h3 => absurd h3 h⟩
    · rw [if_neg h2]; exact ⟨fun h3 => by omega, fun h3 => absurd h3 h⟩
/-- The points, by when; those of one time as they stood. -/
def sortP (l : List Pt) : List Pt := (stbl ltP l.toArray).toList
theorem sortP_len (l : List Pt) : (sortP l).length = l.length := by
  have := size_stbl ltP l.toArray
  unfold sortP
  simpa using this
theorem ptc_one (x : Pt) : ∀ v ∈ ptc x, v.oneCell' = true := by
  intro v hv
  simp only [ptc, List.mem_cons, List.not_mem_nil, or_false] at hv
  rcases hv with rfl | rfl | rfl | rfl <;> rfl

/-! ### Rows -/
theorem holds_of_own {w : World} {base n cap g : Nat} {l : List Pt} (h : w.ownsRow base 39 4 (.slice (some ⟨g, 0, none⟩) n cap) n (flatP l)) (hl : l.length = n) : HoldsK ptc 4 w g 0 l.toArray := by
  intro j hj
  have hj4 : j < n * 4 := by
    rw [size_flatK] at hj
    simpa [hl] using hj
  have hd : j / 4 < l.length := by omega
  have hm : j % 4 < 4 := Nat.mod_lt _ (by omega)
  refine ⟨?_, h.frozenAt _⟩
  rw [Nat.zero_add, h.cellAt j hj4, get_flatK _ _ _ _ (by simpa [hl] using hj4)]
  have e : j = j / 4 * 4 + j % 4 := by omega
  have hg := flatMap_get ptc_len l (j / 4) (j % 4) hd hm
  rw [← e] at hg
  show (flatP l)[j]? = _
  unfold flatP
  rw [hg]
  have e2 : l.toArray[j / 4]! = l[j / 4] := by rw [getElem!_pos _ _ (by simpa using hd)]; simp
  rw [e2, List.getElem?_eq_getElem (by rw [ptc_len]; exact hm), getElem!_pos (ptc l[j / 4]) (j % 4) (by rw [ptc_len]; exact hm)]
  rfl
theorem reads_of_holds {w : World} {g : Nat} {d : Array Pt} (h : HoldsK ptc 4 w g 0 d) : Reads w w.heap.size 4 (some ⟨g, 0, none⟩) d.size (flatP d.toList) := by
  have := reads_of (w := w) ptc_len (by omega) d.toList ⟨g, 0, none⟩ (fun i hi j hj => by
    have hi' : i < d.size := by simpa using hi
    have hc := (h.cell (i := i) (c := j) hi' hj).1
    have e2 : d[i]! = d.toList[i] := by rw [getElem!_pos d i hi']; simp
    rw [e2] at hc
    rw [List.getElem?_eq_getElem (by rw [ptc_len]; exact hj), ← getElem!_pos (ptc d.toList[i]) j (by rw [ptc_len]; exact hj), ← hc, Addr.add_lit]
    congr 2
    omega)
  simpa [flatP] using this
theorem swk_below {α : Type} [Inhabited α] {enc : α → List Value} {k g off B : Nat} {dk : Array α} {w w' : World} (h : SWK enc k w g off dk w') (hB : B ≤ g) (hb : B ≤ w.heap.size) : Below B w w' := by
  obtain ⟨n, os, rfl⟩ := h
  refine ⟨rfl, rfl, rfl, ?_, fun b hlt => ?_⟩
  · have : (sortWorldK enc k w g off n dk os).heap.size = w.heap.size + os.size := by unfold sortWorldK; rw [size_grow, size_putRowK]; rfl
    omega
  · have hne : b ≠ g := by omega
    have e : (sortWorldK enc k w g off n dk os).heap = w.heap.modify g (onCells (putCells id off (flatK enc k dk))) ++ os := rfl
    rw [e, Array.getElem?_append_left (by rw [Array.size_modify]; omega), Array.getElem?_modify, if_neg (fun e => hne e.symm)]

/-! ### The program's -/
theorem isnan_f (n : Int) (w : World) : Calls Tryd.prog 35 #[.int .i64 n] w fun e w' => e = .returned (.bool false) ∧ w' = w := by
  go_enter Tryd.func35, Tryd.ntmps35
  go_wp2
  go_ret
  exact ⟨by simp, rfl⟩
theorem compare_f (a b : Int) (w : World) : Calls Tryd.prog 20 #[.int .i64 a, .int .i64 b] w fun e w' => e = .returned (.int .i64 (if a < b then -1 else if b < a then 1 else 0)) ∧ w' = w := by
  by_cases h1 : a < b
  · rw [if_pos h1]
    go_enter Tryd.func20, Tryd.ntmps20
    go_wp2_with (go_at_call 35; refine (isnan_f _ _).mono ?_; rintro e w1 ⟨rfl, rfl⟩)
    go_ret
    exact ⟨rfl, rfl⟩
  · rw [if_neg h1]
    by_cases h2 : b < a
    · rw [if_pos h2]
      go_enter Tryd.func20, Tryd.ntmps20
      go_wp2_with (go_at_call 35; refine (isnan_f _ _).mono ?_; rintro e w1 ⟨rfl, rfl⟩)
      go_ret
      exact ⟨rfl, rfl⟩
    · rw [if_neg h2]
      go_enter Tryd.func20, Tryd.ntmps20
      go_wp2_with (go_at_call 35; refine (isnan_f _ _).mono ?_; rintro e w1 ⟨rfl, rfl⟩)
      go_ret
      exact ⟨rfl, rfl⟩
theorem cmp_f (x y : Pt) (w : World) : Calls Tryd.prog 19 #[.agg (ptc x).toArray, .agg (ptc y).toArray] w fun e w' => e = .returned (.int .i64 (cfP x y)) ∧ ∃ q os', w' = grow (w.drewN q) os' := by
  obtain ⟨a, a1, a2, a3⟩ := x
  obtain ⟨b, b1, b2, b3⟩ := y
  have hc := compare_f a b
  obtain ⟨r, hr⟩ : ∃ r, cfP ⟨a, a1, a2, a3⟩ ⟨b, b1, b2, b3⟩ = r := ⟨_, rfl⟩
  have hr2 : (if a < b then -1 else if b < a then 1 else 0 : Int) = r := hr
  rw [hr2] at hc
  rw [hr]
  have HC := Lib.hid hc
  clear hr hr2 hc
  show Calls Tryd.prog 19 #[.agg #[.int .i64 a, .int .i64 a1, .int .i64 a2, .bool a3], .agg #[.int .i64 b, .int .i64 b1, .int .i64 b2, .bool b3]] w _
  go_enter Tryd.func19, Tryd.ntmps19
  go_wp2_with (go_at_call 20; refine (HC.out _).mono ?_; rintro e w1 ⟨rfl, rfl⟩)
  go_ret
  exact ⟨rfl, 0, _, by rw [alloc_eq_grow, alloc_eq_grow, grow_grow]; rfl⟩
theorem cs_any (blk off size : Nat) (w : World) (hb : blk < w.heap.size) : CS Tryd.prog cfP ptc 4 19 #[] blk off size w where
  hk := ptc_len
  h1 := ptc_one
  eg := enters_of Tryd.func19 (by kernel_rfl) rfl
  cmp := fun _ _ _ _ x y => cmp_f x y _
  lt := hb
theorem cstable_nil (v cv : Value) (w : World) : Calls Tryd.prog 34 #[v, .int .i64 0, cv] w fun e w' => e = .returned (.tuple #[]) ∧ w' = w := by
  have hi : ∀ w1, Calls Tryd.prog 59 #[v, .int .i64 0, .int .i64 0, cv] w1 fun e w' => e = .returned (.tuple #[]) ∧ w' = w1 := fun w1 => by
    go_enter Tryd.func59, Tryd.ntmps59
    go_wp2
    refine wp_loop_rounds 1 ?_
    rw [rounds_succ]
    go_wp2
    go_end0
    exact ⟨rfl, rfl⟩
  go_enter Tryd.func34, Tryd.ntmps34
  go_wp2
  refine wp_loop_rounds 1 ?_
  rw [rounds_succ]
  go_wp2_with (go_at_call 59; refine (hi _).mono ?_; rintro e w1 ⟨rfl, rfl⟩)
  refine wp_loop_rounds 1 ?_
  rw [rounds_succ]
  go_wp2
  go_end0
  exact ⟨rfl, rfl⟩
set_option maxRecDepth 100000 in
/-- slices.SortStableFunc at points of an own row. -/
theorem psort_f (A : Option Addr) (n cap base : Nat) (l : List Pt) (w : World) (h : w.ownsRow base 39 4 (.slice A n cap) n (flatP l)) (hl : l.length = n) (hn : n < 100000) (hb : base ≤ w.heap.size) :
    Calls Tryd.prog 18 #[.slice A n cap, .func (.func 19) #[] #[]] w fun e w' => e = .returned (.tuple #[]) ∧ Reads w' w'.heap.size 4 A n (flatP (sortP l)) ∧ Below base w w' := by
  rcases h.2 with ⟨hv, h0⟩ | ⟨g, cap', cur, hv, hg, hc, _⟩
  · subst h0
    have hln : l = [] := List.eq_nil_of_length_eq_zero hl
    subst hln
    have hs : sortP [] = [] := List.eq_nil_of_length_eq_zero (sortP_len [])
    rw [hs]
    obtain ⟨rfl, _, rfl⟩ : A = none ∧ 0 = 0 ∧ cap = 0 := by injection hv with a b c; exact ⟨a, rfl, c⟩
    go_enter Tryd.func18, Tryd.ntmps18
    go_wp2_with (go_at_call 34; refine (cstable_nil _ _ _).mono ?_; rintro e w1 ⟨rfl, rfl⟩)
    go_end0
    exact ⟨rfl, Reads.none_, Below.refl _ _⟩
  · obtain ⟨rfl, rfl⟩ : A = some ⟨g, 0, none⟩ ∧ cap = cap' := by injection hv with a _ c; exact ⟨a, c⟩
    have hH := holds_of_own h hl
    have hlt : g < w.heap.size := (h.lt g rfl).2
    have hS := cstable_f Tryd.sb cap l.toArray w (cs_any g 0 _ w hlt) hH (by simpa [hl] using hn)
    have hsz : l.toArray.size = n := by simpa using hl
    rw [hsz] at hS
    have HS := Lib.hid hS
    have HH := Lib.hid hH
    clear hS hH h
    go_enter Tryd.func18, Tryd.ntmps18
    go_wp2_with (go_at_call 34; refine HS.out.mono ?_; rintro e w1 ⟨rfl, hs1⟩)
    go_end0
    refine ⟨rfl, ?_, swk_below hs1 hg hb⟩
    have hr := reads_of_holds (hs1.holds hlt HH.out (size_stbl _ _))
    rw [size_stbl, hsz, ltOf_cfP] at hr
    exact hr

/-! ### The reference's -/
noncomputable def Tryd.ptT : TypeInfo := (Tryd.prog.info? 26).get (by kernel_rfl)
noncomputable def Tryd.ptE : TypeInfo := (Tryd.prog.info? 39).get (by kernel_rfl)
theorem Tryd.ptK (n : Nat) (h2 : 2 ≤ n) : Lib.swapperK n Tryd.ptE 25 = 9 := by
  have a : Tryd.ptE.hasPointers = false := by kernel_rfl
  have b : Tryd.ptE.bytes = 32 := by kernel_rfl
  have c : (n == 0) = false := by simp; omega
  have d : (n == 1) = false := by simp; omega
  simp [Lib.swapperK, a, b, c, d]
set_option maxHeartbeats 2000000 in
theorem less_f (blk off c Bs size : Nat) (W : World) (G : Nat → Int) (hs : W.cell? ⟨Bs, 0, none⟩ = some (.slice (some ⟨blk, off, none⟩) size c))
    (hc : ∀ t, t < size → W.cell? ⟨blk, off + t * 4, none⟩ = some (.int .i64 (G t))) (i j : Nat) (hi : i < size) (hj : j < size) (_hsz : size < 4611686018427387904) :
    Calls Tryd.prog 15 #[.int .i64 i, .int .i64 j, .pointer (some ⟨Bs, 0, none⟩)] W fun e w' => e = .returned (.bool (decide (G i < G j))) ∧ ∃ q, w' = W.drewN q := by
  have ci := hc i hi
  have cj := hc j hj
  go_enter Tryd.func15, Tryd.ntmps15
  go_wp2
  go_quiet (fail)
  go_wp2
  go_ret
  exact ⟨rfl, nq, rfl⟩
theorem lessReads_f {w : World} {g cap Bs n : Nat} {d : Array Pt} (hH : HoldsK ptc 4 w g 0 d) (hd : d.size = n) (hg : g < w.heap.size) (hs : w.cell? ⟨Bs, 0, none⟩ = some (.slice (some ⟨g, 0, none⟩) n cap)) (hne : Bs ≠ g) (hn : n < 100000) :
    LessReadsK Tryd.prog 15 #[.pointer (some ⟨Bs, 0, none⟩)] ptc 4 ltP g 0 n w := by
  intro m os dk hk i j hi hj
  refine less_f g 0 cap Bs n _ (fun t => dk[t]!.wh) ?_ (fun t ht => ?_) i j hi hj (by omega)
  · rw [cell_sort_other w m dk os ⟨Bs, 0, none⟩ hne (World.block_lt_of_cell? w _ hs)]; exact hs
  · have hS : SWK ptc 4 w g 0 dk (sortWorldK ptc 4 w g 0 m dk os) := ⟨m, os, rfl⟩
    exact ((hS.holds hg hH (by rw [hk, hd])).cell (i := t) (c := 0) (by omega) (by omega)).1
set_option maxRecDepth 100000 in
set_option maxHeartbeats 2000000 in
/-- sort.SliceStable at points of an own row, whose slice lies in the cell of block Bs. -/
theorem rsort_f (A : Option Addr) (n cap base Bs : Nat) (l : List Pt) (w : World) (h : w.ownsRow base 39 4 (.slice A n cap) n (flatP l)) (hl : l.length = n) (hn : n < 100000) (hb : base ≤ w.heap.size)
    (hs : w.cell? ⟨Bs, 0, none⟩ = some (.slice A n cap)) (hB : Bs < base) :
    Calls Tryd.prog 14 #[.iface 26 (.slice A n cap), .func (.func 15) #[] #[.pointer (some ⟨Bs, 0, none⟩)]] w fun e w' => e = .returned (.tuple #[]) ∧ Reads w' w'.heap.size 4 A n (flatP (sortP l)) ∧ Below base w w' := by
  have tiny : n ≤ 1 → Calls Tryd.prog 14 #[.iface 26 (.slice A n cap), .func (.func 15) #[] #[.pointer (some ⟨Bs, 0, none⟩)]] w fun e w' => e = .returned (.tuple #[]) ∧ ∃ os, w' = grow w os := fun h1 => by
    have hf : ∃ f, Tryd.prog.funcs.findIdx? (·.name == "internal/reflectlite" ++ ".Swapper$" ++ toString (swapperK n Tryd.ptE 25)) = some f := by
      rcases (by omega : n = 0 ∨ n = 1) with rfl | rfl
      · exact ⟨48, by kernel_rfl⟩
      · exact ⟨49, by kernel_rfl⟩
    obtain ⟨f, hf⟩ := hf
    exact Any.sort_SliceStable_tiny Tryd.laysGt8 26 39 Tryd.ptT Tryd.ptE (by kernel_rfl) (by kernel_rfl) (by kernel_rfl) (by kernel_rfl) 25 (fun _ => by kernel_rfl) A n cap h1 f hf _ _ _ w
  have below_grow : ∀ os, Below base w (grow w os) := fun os => ⟨rfl, rfl, rfl, by rw [size_grow]; omega, fun b hlt => by
    show (w.heap ++ os)[b]? = _
    rw [Array.getElem?_append_left (by omega)]⟩
  have sort1 : ∀ l : List Pt, l.length ≤ 1 → sortP l = l := fun l hl => by
    match l, hl with
    | [], _ =>
      show (pas ltP 0 0 20 (insertionSort ltP #[] 0 0)).toList = []
      unfold insertionSort
      rw [insOuter_stop _ _ _ _ _ (by omega)]
      rfl
    | [x], _ =>
      show (pas ltP 1 1 20 (insertionSort ltP #[x] 0 1)).toList = [x]
      unfold insertionSort
      rw [insOuter_stop _ _ _ _ _ (by omega)]
      rfl
  rcases h.2 with ⟨hv, h0⟩ | ⟨g, cap', cur, hv, hg, hc, _⟩
  · subst h0
    rw [sort1 l (by omega)]
    have hln : l = [] := List.eq_nil_of_length_eq_zero hl
    subst hln
    refine (tiny (by omega)).mono ?_
    rintro e w' ⟨rfl, os, rfl⟩
    exact ⟨rfl, ⟨rfl, fun h => absurd h (by omega)⟩, below_grow os⟩
  · obtain ⟨rfl, rfl⟩ : A = some ⟨g, 0, none⟩ ∧ cap = cap' := by injection hv with a _ c; exact ⟨a, c⟩
    have hH := holds_of_own h hl
    have hlt : g < w.heap.size := (h.lt g rfl).2
    have hsz : l.toArray.size = n := by simpa using hl
    by_cases h1 : n ≤ 1
    · rw [sort1 l (by omega)]
      refine (tiny h1).mono ?_
      rintro e w' ⟨rfl, os, rfl⟩
      refine ⟨rfl, ?_, below_grow os⟩
      have hr := reads_of_holds (holdsK_grow ptc 4 w os g 0 _ hlt hH)
      rw [hsz] at hr
      simpa using hr
    · have hne : Bs ≠ g := by omega
      have h2 : 2 ≤ n := by omega
      have hP : SWK ptc 4 w g 0 l.toArray (stableWorld Tryd.prog Tryd.laysGt8_ren 26 (some ⟨g, 0, none⟩) n cap w) := ((SWK.start hH).alloc _).alloc _
      generalize hWs : stableWorld Tryd.prog Tryd.laysGt8_ren 26 (some ⟨g, 0, none⟩) n cap w = ws at hP
      have hHs := hP.holds hlt hH rfl
      have hcs : ws.cell? ⟨Bs, 0, none⟩ = some (.slice (some ⟨g, 0, none⟩) n cap) := by
        obtain ⟨m, os, rfl⟩ := hP
        rw [cell_sort_other w m _ os ⟨Bs, 0, none⟩ hne (World.block_lt_of_cell? w _ hs)]; exact hs
      have LS1 : LS ltP ptc 4 15 #[.pointer (some ⟨Bs, 0, none⟩)] 56 #[.slice (some ⟨g, 0, none⟩) n cap, typeHandle Tryd.prog 39] g 0 n ws :=
        ⟨ptc_len, enters_of Tryd.func15 (by kernel_rfl) rfl, lessReads_f hHs hsz (hP.lt hlt) hcs hne hn,
          swapSwapsK_of_literal false 56 (fun args W => run_callFunc_extern Tryd.func56 (by kernel_rfl) (by kernel_rfl) (by kernel_rfl) (e := Extern.ReflectliteSwapper.swap false) (by kernel_rfl) args W) 39 Tryd.ptE (by kernel_rfl) ptc 4 ptc_len (by kernel_rfl) (fun _ => by kernel_rfl) ptc_one g 0 n cap, hP.lt hlt⟩
      have hst := stable_f l.toArray ws (by rw [hsz]; exact LS1) hHs (by rw [hsz]; exact hn)
      rw [hsz] at hst
      have hB2 : sliceBound Tryd.prog 39 Tryd.ptE 25 (some ⟨g, 0, none⟩) n cap = #[.slice (some ⟨g, 0, none⟩) n cap, typeHandle Tryd.prog 39] := by
        unfold sliceBound; rw [if_neg (swapperK_gt _ _ _ h2)]
      have := Any.sort_SliceStable_of_stable Tryd.laysGt8 26 39 Tryd.ptT Tryd.ptE (by kernel_rfl) (by kernel_rfl) (by kernel_rfl) (by kernel_rfl) 25 (fun _ => by kernel_rfl) (some ⟨g, 0, none⟩) n cap (by omega) 56 (by rw [Tryd.ptK _ h2]; kernel_rfl) (.func 15) #[] #[.pointer (some ⟨Bs, 0, none⟩)] w
        (fun w' => SWK ptc 4 ws g 0 (stbl ltP l.toArray) w') (by rw [hB2, hWs]; exact hst)
      refine Calls.mono (show Calls Tryd.prog 14 _ w _ from this) ?_
      rintro e w' ⟨rfl, hs1⟩
      have hs2 := swk_trans hP hlt hs1 (size_stbl _ _)
      refine ⟨rfl, ?_, swk_below hs2 hg hb⟩
      have hr := reads_of_holds (hs2.holds hlt hH (size_stbl _ _))
      rw [size_stbl, hsz] at hr
      exact hr
end Go.Proofs.YthnbbgmajdjgeaaDoor
