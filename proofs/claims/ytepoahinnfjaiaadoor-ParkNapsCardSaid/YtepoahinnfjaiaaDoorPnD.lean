/-
  ParkNaps: slices.Delete at those who sleep, over the lot's own row. Conditions: the row is this call's own.
-/
import Derived.Test.YtepoahinnfjaiaaDoorPnQ
import Derived.Laws.CopyRow
import Derived.Deep.RegionLaw
namespace Go.Proofs.YtepoahinnfjaiaaDoor
open Go.RowKit Go.Extern.Stop Go.Stop Go.Extern
attribute [local go_sem ↓] Go.wp_at_zero Go.wp_at_succ

/-- Nothing but one block has turned. -/
def Gone (g : Nat) (w w' : World) : Prop := w'.os = w.os ∧ w'.tape = w.tape ∧ w'.output = w.output ∧ w'.heap.size = w.heap.size ∧ ∀ i, i ≠ g → w'.heap[i]? = w.heap[i]?
theorem Gone.refl (g : Nat) (w : World) : Gone g w w := ⟨rfl, rfl, rfl, rfl, fun _ _ => rfl⟩
theorem Gone.trans {g : Nat} {a b c : World} (h : Gone g a b) (k : Gone g b c) : Gone g a c := ⟨k.1.trans h.1, k.2.1.trans h.2.1, k.2.2.1.trans h.2.2.1, k.2.2.2.1.trans h.2.2.2.1, fun i hi => (k.2.2.2.2 i hi).trans (h.2.2.2.2 i hi)⟩
theorem Gone.drew (g : Nat) (w : World) : Gone g w w.drew := ⟨rfl, rfl, rfl, rfl, fun _ _ => rfl⟩
theorem Gone.cell (g i : Nat) (w : World) (v : Value) : Gone g w (w.setCell ⟨g, i, none⟩ v) := ⟨rfl, rfl, rfl, by simp, fun j hj => Below.heap_setCell w _ _ j hj⟩
theorem Gone.below {g base : Nat} {w w' : World} (h : Gone g w w') (hg : base ≤ g) : Below base w w' := ⟨h.1, h.2.1, h.2.2.1, by rw [h.2.2.2.1]; exact Nat.le_refl _, fun i hi => h.2.2.2.2 i (by omega)⟩
theorem Gone.frP {g : Nat} {w w' : World} {cs : Array Value} (h : Gone g w w') (hb : Blk w g 161 cs) : FrP w w' :=
  ⟨by rw [h.2.2.2.1]; exact Nat.le_refl _, fun i o hi ho => h.2.2.2.2 i (fun e => by subst e; rw [hb] at hi; cases hi; exact (ho _ _ _ rfl).2 rfl)⟩
theorem Gone.far {g b : Nat} {t : TypeId} {w w' : World} {cs : Array Value} (h : Gone g w w') (hb : Blk w b t cs) (hne : b ≠ g) : Blk w' b t cs := (h.2.2.2.2 b hne).trans hb
/-- One who sleeps lies at place i of the row. -/
def CellAt (w : World) (g i : Nat) (e : Sl) : Prop := w.cell? ⟨g, i * 2, none⟩ = some (.int .i64 e.th) ∧ w.cell? ⟨g, i * 2 + 1, none⟩ = some (.int .i64 e.ce)
/-- The lot's row. -/
structure SRow (base g cap : Nat) (w : World) : Prop where
  blk : ∃ cur, Blk w g 161 cur ∧ cur.size = cap * 2
  lo : base ≤ g
  hi : cap ≤ maxLen
theorem flat_get (L : List Sl) (i : Nat) (hi : i < L.length) : (flatS L)[i * 2]? = some (.int .i64 L[i].th) ∧ (flatS L)[i * 2 + 1]? = some (.int .i64 L[i].ce) :=
  ⟨flatMap_get slc_len L i 0 hi (by omega), flatMap_get slc_len L i 1 hi (by omega)⟩
theorem add_lit0 (g i : Nat) : Addr.add ⟨g, 0, none⟩ i = ⟨g, i, none⟩ := by unfold Addr.add; split <;> simp_all
theorem own_to {w : World} {base g cap n : Nat} {L : List Sl} (h : w.ownsRow base 161 2 (.slice (some ⟨g, 0, none⟩) n cap) n (flatS L)) :
    SRow base g cap w ∧ n ≤ cap ∧ ∀ (i : Nat) (hi : i < L.length), CellAt w g i L[i] := by
  have hc := h.cells (g := g) rfl
  rcases h.2 with ⟨h2, _⟩ | ⟨g', cap', cur, hv, hb, hk, hcap, hm, hs, ht⟩
  · simp at h2
  · simp only [Value.slice.injEq, Option.some.injEq, Addr.mk.injEq, and_true, true_and] at hv
    obtain ⟨rfl, rfl⟩ := hv
    refine ⟨⟨⟨cur, hk, hs⟩, hb, hm⟩, hcap, fun i hi => ?_⟩
    have h1 := hc _ _ (flat_get L i hi).1
    have h2 := hc _ _ (flat_get L i hi).2
    rw [add_lit0] at h1 h2
    exact ⟨h1, h2⟩
theorem own_from {w : World} {base g cap n : Nat} {L : List Sl} (h : SRow base g cap w) (hn : n ≤ cap) (hL : L.length = n) (hc : ∀ (i : Nat) (hi : i < L.length), CellAt w g i L[i]) :
    w.ownsRow base 161 2 (.slice (some ⟨g, 0, none⟩) n cap) n (flatS L) := by
  obtain ⟨cur, hk, hs⟩ := h.blk
  have hfl : (flatS L).length = n * 2 := by rw [← hL]; exact flatMap_len slc_len L
  refine ⟨hfl, .inr ⟨g, cap, cur, rfl, h.lo, hk, hn, h.hi, hs, ?_⟩⟩
  refine List.ext_getElem? fun j => ?_
  by_cases hj : j < n * 2
  · have e : j = j / 2 * 2 + j % 2 := by omega
    have hi : j / 2 < L.length := by omega
    rw [List.getElem?_take_of_lt hj]
    have hcell : ∀ x, cur.toList[x]? = w.cell? ⟨g, x, none⟩ := fun x => by rw [hk.cell x]; simp
    rcases Nat.mod_two_eq_zero_or_one j with h0 | h0
    · rw [h0, Nat.add_zero] at e
      rw [e, hcell, (hc _ hi).1, (flat_get L _ hi).1]
    · rw [h0] at e
      rw [e, hcell, (hc _ hi).2, (flat_get L _ hi).2]
  · rw [List.getElem?_take_eq_none (by omega), List.getElem?_eq_none (by omega)]
theorem SRow.set {base g cap : Nat} {w : World} (h : SRow base g cap w) (i : Nat) (v : Value) : SRow base g cap (w.setCell ⟨g, i, none⟩ v) := by
  obtain ⟨cur, hk, hs⟩ := h.blk
  exact ⟨⟨_, hk.set_ i v, by simpa using hs⟩, h.lo, h.hi⟩
theorem SRow.setCells {base g cap : Nat} : ∀ (vs : List Value) (o : Nat) {w : World}, SRow base g cap w → SRow base g cap (w.setCells g o vs)
  | [], _, _, h => h
  | v :: vs, o, _, h => SRow.setCells vs (o + 1) (h.set o v)
theorem Gone.cells (g : Nat) : ∀ (vs : List Value) (o : Nat) (w : World), Gone g w (w.setCells g o vs)
  | [], _, w => Gone.refl g w
  | v :: vs, o, w => (Gone.cell g o w v).trans (Gone.cells g vs (o + 1) _)
theorem SRow.drew {base g cap : Nat} {w : World} (h : SRow base g cap w) : SRow base g cap w.drew := ⟨h.blk, h.lo, h.hi⟩
theorem SRow.some_ {base g cap : Nat} {w : World} (h : SRow base g cap w) (i : Nat) (hi : i < cap * 2) : (w.cell? ⟨g, i, none⟩).isSome = true ∧ w.frozen? ⟨g, i, none⟩ = false := by
  obtain ⟨cur, hk, hs⟩ := h.blk
  refine ⟨?_, hk.frozen i⟩
  rw [hk.cell i, Array.getElem?_eq_getElem (by omega)]
  rfl
theorem SRow.lt {base g cap : Nat} {w : World} (h : SRow base g cap w) : g < w.heap.size := by
  obtain ⟨cur, hk, _⟩ := h.blk; exact hk.lt
theorem SRow.ofBlock {base g cap : Nat} {w w' : World} (h : SRow base g cap w) (hb : w'.heap[g]? = w.heap[g]?) : SRow base g cap w' := by
  obtain ⟨cur, hk, hs⟩ := h.blk; exact ⟨⟨cur, hb.trans hk, hs⟩, h.lo, h.hi⟩
theorem setRow_other (w : World) (g i : Nat) (cs : Array Value) (h : i ≠ g) : (w.setRow g cs).heap[i]? = w.heap[i]? := by
  unfold World.setRow
  simp only [Array.getElem?_modify]
  split
  · rename_i he; exact absurd he.symm h
  · rfl
/-- 'clear' of k elements of the row, from place o on. -/
theorem clear_run {base g cap : Nat} {w : World} (h : SRow base g cap w) (k o c : Nat) (hk : 0 < k) (ho : o * 2 + k * 2 ≤ cap * 2) (ty : TypeId) :
    ∃ w', (Builtin.clear_ #[155] ty #[.slice (some ⟨g, o * 2, none⟩) k c]).run Tryd.prog w = .ok (.tuple #[]) w' ∧ SRow base g cap w' ∧ Gone g w w' ∧ ∀ i e, i < o → CellAt w g i e → CellAt w' g i e := by
  obtain ⟨cur, hb, hs⟩ := h.blk
  obtain ⟨k', rfl⟩ : ∃ k', k = k' + 1 := ⟨k - 1, by omega⟩
  have hlen : (Builtin.zeroCells #[.int .i64 0, .int .i64 0] (k' + 1)).toList.length = (k' + 1) * 2 := by simp [Builtin.zeroCells]
  have hone : ∀ u ∈ (Builtin.zeroCells #[.int .i64 0, .int .i64 0] (k' + 1)).toList, u.oneCell' = true := fun u hu => by
    simp [Builtin.zeroCells] at hu
    obtain ⟨x, _, rfl⟩ := hu
    rcases Nat.mod_two_eq_zero_or_one x with h | h <;> simp [h, Value.oneCell']
  have hst := run_storeCells_at Tryd.prog g (o * 2) 161 _ 0 cur w hb (by rw [hlen]; omega) hone
  simp only [Nat.add_zero] at hst
  refine ⟨w.setRow g (cur.toList.take (o * 2) ++ (Builtin.zeroCells #[.int .i64 0, .int .i64 0] (k' + 1)).toList ++ cur.toList.drop (o * 2 + (Builtin.zeroCells #[.int .i64 0, .int .i64 0] (k' + 1)).toList.length)).toArray, ?_, ?_, ?_, ?_⟩
  · simp [Builtin.clear_, run_underlying Tryd.underlying155, Tryd.zeroValue161, Result.andThen, Value.cells, hst]
  · have := setRow_heap w g cur (cur.toList.take (o * 2) ++ (Builtin.zeroCells #[.int .i64 0, .int .i64 0] (k' + 1)).toList ++ cur.toList.drop (o * 2 + (Builtin.zeroCells #[.int .i64 0, .int .i64 0] (k' + 1)).toList.length)).toArray 161 (0, 0) hb
    refine ⟨⟨_, this, ?_⟩, h.lo, h.hi⟩
    have hcl : cur.toList.length = cap * 2 := by simpa using hs
    simp only [List.size_toArray, List.length_append, List.length_take, List.length_drop, hlen, hcl]
    omega
  · exact ⟨rfl, rfl, rfl, by simp [World.setRow], fun i hi => setRow_other w g i _ hi⟩
  · intro i e hi hc
    have := setRow_heap w g cur (cur.toList.take (o * 2) ++ (Builtin.zeroCells #[.int .i64 0, .int .i64 0] (k' + 1)).toList ++ cur.toList.drop (o * 2 + (Builtin.zeroCells #[.int .i64 0, .int .i64 0] (k' + 1)).toList.length)).toArray 161 (0, 0) hb
    have hb' : Blk (w.setRow g (cur.toList.take (o * 2) ++ (Builtin.zeroCells #[.int .i64 0, .int .i64 0] (k' + 1)).toList ++ cur.toList.drop (o * 2 + (Builtin.zeroCells #[.int .i64 0, .int .i64 0] (k' + 1)).toList.length)).toArray) g 161 _ := this
    have key : ∀ x, x < o * 2 → (w.setRow g (cur.toList.take (o * 2) ++ (Builtin.zeroCells #[.int .i64 0, .int .i64 0] (k' + 1)).toList ++ cur.toList.drop (o * 2 + (Builtin.zeroCells #[.int .i64 0, .int .i64 0] (k' + 1)).toList.length)).toArray).cell? ⟨g, x, none⟩ = w.cell? ⟨g, x, none⟩ := fun x hx => by
      rw [hb'.cell x, hb.cell x]
      have hcl : cur.toList.length = cap * 2 := by simpa using hs
      rw [List.getElem?_toArray, List.append_assoc, List.getElem?_append_left (by rw [List.length_take]; omega), List.getElem?_take_of_lt hx]
      simp
    exact ⟨by rw [key _ (by omega)]; exact hc.1, by rw [key _ (by omega)]; exact hc.2⟩
theorem flat_drop (L : List Sl) (j x : Nat) (hx : j + x < L.length) : ((flatS (L.drop j))[x * 2]? = some (.int .i64 L[j + x].th)) ∧ (flatS (L.drop j))[x * 2 + 1]? = some (.int .i64 L[j + x].ce) := by
  have h := flat_get (L.drop j) x (by simp; omega)
  simp only [List.getElem_drop] at h
  exact h
set_option maxRecDepth 100000 in
set_option maxHeartbeats 4000000 in
theorem del87 (base g cap i n : Nat) (L : List Sl) (w : World) (hL : L.length = n) (hi : i < n) (hn : n ≤ 1000) (h : w.ownsRow base 161 2 (.slice (some ⟨g, 0, none⟩) n cap) n (flatS L)) :
    Calls Tryd.prog 87 #[.slice (some ⟨g, 0, none⟩) n cap, .int .i64 i, .int .i64 ((i : Int) + 1)] w fun e w' => e = .returned (.slice (some ⟨g, 0, none⟩) (n - 1) cap) ∧ w'.ownsRow base 161 2 (.slice (some ⟨g, 0, none⟩) (n - 1) cap) (n - 1) (flatS (L.eraseIdx i)) ∧ Gone g w w' := by
  obtain ⟨i0, hi0, hz0, hz1, hz2⟩ := info_parts Tryd.info161
  obtain ⟨hS, hnc, hc⟩ := own_to h
  have hcm := hS.hi
  unfold maxLen at hcm
  -- what is moved
  have hnl : (flatS (L.drop (i + 1))).length = (n - (i + 1)) * 2 := by
    have := flatMap_len slc_len (L.drop (i + 1))
    rw [List.length_drop, hL] at this
    exact this
  obtain ⟨A, hA, hnews⟩ : ∃ A : Addr, (if cap = i + 1 then some (⟨g, 0, none⟩ : Addr) else some ⟨g, (i + 1) * 2, none⟩) = some A ∧ Hid (∀ x u, (flatS (L.drop (i + 1)))[x]? = some u → w.drew.cell? (A.add x) = some u) := by
    by_cases hce : cap = i + 1
    · refine ⟨⟨g, 0, none⟩, by simp [hce], fun x u hu => ?_⟩
      have : (flatS (L.drop (i + 1))).length = 0 := by rw [hnl]; omega
      rw [List.length_eq_zero_iff.1 this] at hu
      simp at hu
    · refine ⟨⟨g, (i + 1) * 2, none⟩, by simp [hce], fun x u hu => ?_⟩
      have hx : x < (n - (i + 1)) * 2 := by rw [← hnl]; exact (List.getElem?_eq_some_iff.1 hu).1
      have hjl : i + 1 + x / 2 < L.length := by omega
      have hcc := hc (i + 1 + x / 2) hjl
      have hff := flat_drop L (i + 1) (x / 2) hjl
      rw [Addr.add_lit]
      have e : x = x / 2 * 2 + x % 2 := by omega
      show w.cell? _ = some u
      rw [← hu]
      rcases Nat.mod_two_eq_zero_or_one x with h0 | h0
      · rw [show (i + 1) * 2 + x = (i + 1 + x / 2) * 2 by omega, hcc.1]
        rw [h0, Nat.add_zero] at e
        conv => rhs; rw [e]
        exact hff.1.symm
      · rw [show (i + 1) * 2 + x = (i + 1 + x / 2) * 2 + 1 by omega, hcc.2]
        rw [h0] at e
        conv => rhs; rw [e]
        exact hff.2.symm
  have s1 : Hid ((flatS (L.drop (i + 1))).length = (n - (i + 1)) * 2) := hnl
  have s2 : Hid (∀ u ∈ flatS (L.drop (i + 1)), u.oneCell' = true) := by
    intro u hu
    unfold flatS at hu
    obtain ⟨e, _, he⟩ := List.mem_flatMap.1 hu
    simp [slc] at he
    rcases he with rfl | rfl <;> rfl
  have s3 : Hid (∀ x, x < (flatS (L.drop (i + 1))).length → (w.drew.cell? ⟨g, 0 + i * 2 + x, none⟩).isSome = true ∧ w.drew.frozen? ⟨g, 0 + i * 2 + x, none⟩ = false) := by
    intro x hx
    rw [hnl] at hx
    exact hS.some_ (0 + i * 2 + x) (by omega)
  -- the world behind the move
  have hSm : SRow base g cap (w.drew.setCells g (0 + i * 2) (flatS (L.drop (i + 1)))) := hS.drew.setCells _ _
  have hGm : Gone g w (w.drew.setCells g (0 + i * 2) (flatS (L.drop (i + 1)))) := (Gone.drew g w).trans (Gone.cells g _ _ _)
  have hcm2 : ∀ (x : Nat) (hx : x < (L.eraseIdx i).length), CellAt (w.drew.setCells g (0 + i * 2) (flatS (L.drop (i + 1)))) g x (L.eraseIdx i)[x] := fun x hx => by
    have hxl : x < n - 1 := by rw [List.length_eraseIdx, if_pos (by omega)] at hx; omega
    rw [List.getElem_eraseIdx]
    split
    · rename_i hxi
      have hcc := hc x (by omega)
      exact ⟨by rw [World.cell?_setCells_out _ _ _ _ _ (fun _ _ => .inl (by show x * 2 < 0 + i * 2; omega))]; exact hcc.1, by rw [World.cell?_setCells_out _ _ _ _ _ (fun _ _ => .inl (by show x * 2 + 1 < 0 + i * 2; omega))]; exact hcc.2⟩
    · rename_i hxi
      have hin := World.cell?_setCells_in g (flatS (L.drop (i + 1))) (0 + i * 2) w.drew (fun y hy => (s3 y hy).1)
      have hff := flat_drop L (i + 1) (x - i) (by omega)
      have e1 := hin ((x - i) * 2) (by rw [hnl]; omega)
      have e2 := hin ((x - i) * 2 + 1) (by rw [hnl]; omega)
      rw [show 0 + i * 2 + (x - i) * 2 = x * 2 by omega] at e1
      rw [show 0 + i * 2 + ((x - i) * 2 + 1) = x * 2 + 1 by omega] at e2
      have e3 : i + 1 + (x - i) = x + 1 := by omega
      simp only [e3] at hff
      refine ⟨e1.trans ?_, e2.trans ?_⟩
      · rw [← hff.1, List.getElem?_eq_getElem]
      · rw [← hff.2, List.getElem?_eq_getElem]
  obtain ⟨F, hF⟩ : ∃ F, flatS (L.drop (i + 1)) = F := ⟨_, rfl⟩
  rw [hF] at hnews s1 s2 s3 hSm hGm hcm2
  obtain ⟨W2, hW2⟩ : ∃ W2, w.drew.setCells g (0 + i * 2) F = W2 := ⟨_, rfl⟩
  rw [hW2] at hSm hGm hcm2
  rw [Nat.zero_add] at hW2
  obtain ⟨w3, hcl, hS3, hG3, hc3⟩ := clear_run hSm 1 (n - 1) (cap - (n - 1)) (by omega) (by omega) 0
  have hfin : w3.ownsRow base 161 2 (.slice (some ⟨g, 0, none⟩) (n - 1) cap) (n - 1) (flatS (L.eraseIdx i)) ∧ Gone g w w3 :=
    ⟨own_from hS3 (by omega) (by rw [List.length_eraseIdx, if_pos (by omega), hL]) (fun x hx => hc3 x _ (by rw [List.length_eraseIdx, if_pos (by omega)] at hx; omega) (hcm2 x hx)), hGm.trans hG3⟩
  have HFIN := Lib.hid hfin
  obtain ⟨m, hm⟩ : ∃ m, n - (i + 1) = m := ⟨_, rfl⟩
  obtain ⟨q, hq⟩ : ∃ q, n - 1 = q := ⟨_, rfl⟩
  rw [hm] at s1
  rw [hq] at HFIN hcl
  have HQ := Lib.hid hq
  have him : i + m = q := by omega
  have hnq : n - q = 1 := by omega
  have hcq : ¬ cap = q := by omega
  have hin : (i : Int) < (n : Int) := by omega
  have hni : ¬ n = i := by omega
  have h1 : (0 : Int) ≤ (i : Int) + 1 := by omega
  have h2 : (i : Int) + 1 ≤ (n : Int) := by omega
  have h3 : ((i : Int) + 1).toNat = i + 1 := by omega
  have h4 : (i : Int) ≤ (i : Int) + 1 := by omega
  have h5 : (n : Int) ≤ (cap : Int) := by omega
  have h6 : (0 : Int) ≤ (q : Int) := by omega
  have h7 : (q : Int) ≤ (n : Int) := by omega
  have h8 : (i : Int) ≤ (cap : Int) := by omega
  have h9 : ((i : Int) == (i : Int) + 1) = false := by simp; omega
  have ha : i + m ≤ cap := by omega
  have HAA := Lib.hid ha
  have HL := Lib.hid hL
  clear hq hc hcm2 hSm hGm hS3 hG3 hc3 hfin hS h hF hnl hL ha hcm
  go_enter Tryd.func87, Tryd.ntmps87
  go_wp2_with fail
  go_region_law (refine step_append_room rfl (.tmp 22) (.tmp 25) 155 rfl 161 i0 2 Tryd.underlying155 hi0 hz1 g 0 i cap (by simp [Act.eval, Act.put]) A m (cap - (i + 1)) F (by simp [Act.eval, Act.put]) s1.out hnews.out s2.out HAA.out s3.out ?_)
  go_wp2
  go_ret
  rw [HQ.out]
  exact ⟨rfl, HFIN.out⟩
end Go.Proofs.YtepoahinnfjaiaaDoor
