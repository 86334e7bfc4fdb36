/-
  StoryParses' walks, part two: a line of the program. Conditions: the tables are laid.
-/
import Derived.Test.YthnbbgmajdjgeaaDoorStQ
import Derived.Deep.DeepCutAuto
import Derived.Deep.LoopGhost
namespace Go.Proofs.YthnbbgmajdjgeaaDoor
open Go.RowKit Go.Extern.Stop Go.Stop Go.Extern
attribute [local go_sem ↓] Go.wp_at_zero Go.wp_at_succ

theorem split_count (s : ByteArray) (c : UInt8) : Lib.split s.data.toList [c] = (Lib.splitB ⟨#[c]⟩ 0 (Lib.countB s ⟨#[c]⟩) s).map (·.data.toList) :=
  (Lib.splitB_data ⟨#[c]⟩ 0 _ s).symm
theorem countB_one (s : ByteArray) (c : UInt8) : Lib.countB s ⟨#[c]⟩ = s.data.toList.count c := Lib.count_one _ _
theorem spl_len {c : UInt8} {s : List UInt8} {ps : List (List UInt8)} (h : Spl c s ps) : ps.length = s.count c + 1 := by
  induction h with
  | one h => rw [List.count_eq_zero_of_not_mem h]; rfl
  | cons h t ih =>
    rw [List.count_append, List.count_eq_zero_of_not_mem h, List.count_cons_self, List.length_cons, ih]
    omega
theorem spl_mem {c : UInt8} {s : List UInt8} {ps : List (List UInt8)} (h : Spl c s ps) : ∀ p ∈ ps, p.length ≤ s.length := by
  induction h with
  | one h => intro p hp; rw [List.mem_singleton.1 hp]; exact Nat.le_refl _
  | cons h t ih =>
    intro p hp
    rw [List.length_append, List.length_cons]
    rcases List.mem_cons.1 hp with rfl | hp
    · omega
    · have := ih p hp; omega
/-- The pieces of a line, where they are four. -/
theorem pieces4 (s : ByteArray) (h : Lib.countB s ⟨#[32]⟩ = 3) : ∃ A B C D : ByteArray, Lib.splitB ⟨#[32]⟩ 0 3 s = [A, B, C, D] ∧ Lib.split s.data.toList [32] = [A.data.toList, B.data.toList, C.data.toList, D.data.toList] ∧ A.size ≤ s.size ∧ B.size ≤ s.size ∧ C.size ≤ s.size ∧ D.size ≤ s.size := by
  have h1 := split_count s 32
  have h2 := spl_len (split_of s.data.toList 32)
  have h3 := spl_mem (split_of s.data.toList 32)
  rw [h] at h1
  rw [← countB_one, h, h1, List.length_map] at h2
  match hq : Lib.splitB ⟨#[32]⟩ 0 3 s, h2 with
  | [A, B, C, D], _ =>
    rw [hq] at h1
    rw [h1] at h3
    exact ⟨A, B, C, D, rfl, h1, by simpa using h3 A.data.toList (by simp), by simpa using h3 B.data.toList (by simp), by simpa using h3 C.data.toList (by simp), by simpa using h3 D.data.toList (by simp)⟩
theorem lineP_no (s : ByteArray) (h : Lib.countB s ⟨#[32]⟩ ≠ 3) : lineP s.data.toList = (⟨0, 0, 0, 0⟩, false) := by
  have h2 := spl_len (split_of s.data.toList 32)
  rw [← countB_one] at h2
  unfold lineP
  split
  · rename_i hq
    rw [hq] at h2
    simp at h2
    omega
  · rfl
def LineEnd (s : ByteArray) (w : World) (e : Ending) (w' : World) : Prop :=
  e = .returned (.tuple #[.agg (evc (lineP s.data.toList).1).toArray, .bool (lineP s.data.toList).2]) ∧ Below w.heap.size w w'
theorem line_no (s : ByteArray) (w : World) (hw : Std w.heap.size w) (hs : s.size ≤ 10000) (h : Lib.countB s ⟨#[32]⟩ ≠ 3) :
    Calls Tryd.prog 28 #[.string s] w (LineEnd s w) := by
  have HE := Lib.hid (lineP_no s h)
  have HW := Lib.hid hw
  have h1 : ¬ (Lib.countB s ⟨#[32]⟩ + 1 = 4) := by omega
  clear hw
  go_enter Tryd.func28, Tryd.ntmps28
  go_wp2_with (first
    | (go_at_call 46
       obtain ⟨m, hm⟩ := (HW.out.below ((Below.refl _ _).alloc (Nat.le_refl _) _)).out.mx
       refine (Tryd.strings_Split s _ m _ (by omega) hm (by decide)).mono ?_
       rintro e w1 ⟨rfl, rfl⟩)
    | fail)
  refine bodyPost_ret (v := .tuple #[.agg #[.int .i64 0, .int .i64 0, .int .i64 0, .int .i64 0], .bool false]) (by simp [results, Tryd.results28, go_sem]) rfl ⟨by rw [HE.out]; rfl, ?_⟩
  exact ((Below.refl _ _).alloc (Nat.le_refl _) _).alloc (by simp) _
/-- What every world of the region keeps of W: what lies below g, and the three pieces of block p. -/
theorem kl_below {W w w' : World} {g p : Nat} {a c d : Value} (h : Below g W w ∧ g < w.heap.size ∧ w.cell? ⟨p, 0, none⟩ = some a ∧ w.cell? ⟨p, 2, none⟩ = some c ∧ w.cell? ⟨p, 3, none⟩ = some d) (hp : p < g) (hb : Below g w w') :
    Below g W w' ∧ g < w'.heap.size ∧ w'.cell? ⟨p, 0, none⟩ = some a ∧ w'.cell? ⟨p, 2, none⟩ = some c ∧ w'.cell? ⟨p, 3, none⟩ = some d := by
  obtain ⟨h1, h2, h3, h4, h5⟩ := h
  exact ⟨h1.trans hb, Nat.lt_of_lt_of_le h2 hb.size, (hb.cell (p := ⟨p, 0, none⟩) hp).trans h3, (hb.cell (p := ⟨p, 2, none⟩) hp).trans h4, (hb.cell (p := ⟨p, 3, none⟩) hp).trans h5⟩
theorem kl_alloc {W w : World} {g p : Nat} {a c d : Value} (h : Below g W w ∧ g < w.heap.size ∧ w.cell? ⟨p, 0, none⟩ = some a ∧ w.cell? ⟨p, 2, none⟩ = some c ∧ w.cell? ⟨p, 3, none⟩ = some d) (hp : p < g) (o : Obj) :
    Below g W (w.alloc o) ∧ g < (w.alloc o).heap.size ∧ (w.alloc o).cell? ⟨p, 0, none⟩ = some a ∧ (w.alloc o).cell? ⟨p, 2, none⟩ = some c ∧ (w.alloc o).cell? ⟨p, 3, none⟩ = some d :=
  kl_below h hp ((Below.refl _ _).alloc (Nat.le_of_lt h.2.1) _)
theorem kl_set4 {W w : World} {g p e : Nat} {a c d a0 a1 a2 a3 : Value} (h : Below g W w ∧ g < w.heap.size ∧ w.cell? ⟨p, 0, none⟩ = some a ∧ w.cell? ⟨p, 2, none⟩ = some c ∧ w.cell? ⟨p, 3, none⟩ = some d) (hp : p < g) (he : g < e) :
    Below g W ((((w.setCell ⟨e, 0, none⟩ a0).setCell ⟨e, 1, none⟩ a1).setCell ⟨e, 2, none⟩ a2).setCell ⟨e, 3, none⟩ a3) ∧ g < ((((w.setCell ⟨e, 0, none⟩ a0).setCell ⟨e, 1, none⟩ a1).setCell ⟨e, 2, none⟩ a2).setCell ⟨e, 3, none⟩ a3).heap.size ∧ ((((w.setCell ⟨e, 0, none⟩ a0).setCell ⟨e, 1, none⟩ a1).setCell ⟨e, 2, none⟩ a2).setCell ⟨e, 3, none⟩ a3).cell? ⟨p, 0, none⟩ = some a ∧ ((((w.setCell ⟨e, 0, none⟩ a0).setCell ⟨e, 1, none⟩ a1).setCell ⟨e, 2, none⟩ a2).setCell ⟨e, 3, none⟩ a3).cell? ⟨p, 2, none⟩ = some c ∧ ((((w.setCell ⟨e, 0, none⟩ a0).setCell ⟨e, 1, none⟩ a1).setCell ⟨e, 2, none⟩ a2).setCell ⟨e, 3, none⟩ a3).cell? ⟨p, 3, none⟩ = some d :=
  kl_below h hp (((((Below.refl _ _).setCell (p := ⟨e, 0, none⟩) (Nat.le_of_lt he) _).setCell (p := ⟨e, 1, none⟩) (Nat.le_of_lt he) _).setCell (p := ⟨e, 2, none⟩) (Nat.le_of_lt he) _).setCell (p := ⟨e, 3, none⟩) (Nat.le_of_lt he) _)
theorem blk_set4 {w : World} {e : Nat} (h : Blk w e 47 #[.int .i64 0, .int .i64 0, .int .i64 0, .int .i64 0]) (a b c d : Value) :
    Blk ((((w.setCell ⟨e, 0, none⟩ a).setCell ⟨e, 1, none⟩ b).setCell ⟨e, 2, none⟩ c).setCell ⟨e, 3, none⟩ d) e 47 #[a, b, c, d] := by
  have := (((h.set_ 0 a).set_ 1 b).set_ 2 c).set_ 3 d
  simpa using this
theorem blk_far4 {w : World} {e g : Nat} {t : TypeId} {cs : Array Value} (h : Blk w g t cs) (hn : g < e) (a b c d : Value) :
    Blk ((((w.setCell ⟨e, 0, none⟩ a).setCell ⟨e, 1, none⟩ b).setCell ⟨e, 2, none⟩ c).setCell ⟨e, 3, none⟩ d) g t cs :=
  (((h.far (p := ⟨e, 0, none⟩) (Nat.ne_of_lt hn) _).far (p := ⟨e, 1, none⟩) (Nat.ne_of_lt hn) _).far (p := ⟨e, 2, none⟩) (Nat.ne_of_lt hn) _).far (p := ⟨e, 3, none⟩) (Nat.ne_of_lt hn) _
def wtK : Nat → List UInt8 → Nat
  | 0, _ => 0
  | k + 1, b => if 0 < k ∧ nameL k = b then k else wtK k b
theorem wtK_wtN (b : List UInt8) : wtK 4 b = wtN b := by
  unfold wtN
  simp only [wtK]
  by_cases h1 : b = nameL 1
  · subst h1; decide
  · by_cases h2 : b = nameL 2
    · subst h2; decide
    · by_cases h3 : b = nameL 3
      · subst h3; decide
      · rw [if_neg (fun h => h3 h.2.symm), if_neg (fun h => h2 h.2.symm), if_neg (fun h => h1 h.2.symm), if_neg (by omega), if_neg h1, if_neg h2, if_neg h3]
theorem name_eq (k : Nat) (B : ByteArray) : ((nameS k).toList == B.toList) = decide (nameL k = B.data.toList) := by
  rw [ByteArray.toList_eq, ByteArray.toList_eq]
  have h : (nameS k).data.toList = nameL k := rfl
  rw [h]
  exact Bool.beq_eq_decide_eq _ _
theorem kl_std {W w : World} {g p : Nat} {a c d : Value} (h : Below g W w ∧ g < w.heap.size ∧ w.cell? ⟨p, 0, none⟩ = some a ∧ w.cell? ⟨p, 2, none⟩ = some c ∧ w.cell? ⟨p, 3, none⟩ = some d) (hs : Std g W) : Std g w := hs.below h.1
set_option maxRecDepth 100000 in
set_option maxHeartbeats 4000000 in
theorem line_four (s A B C D : ByteArray) (w : World) (hw : Std w.heap.size w) (hs : s.size ≤ 10000) (h : Lib.countB s ⟨#[32]⟩ = 3) (hsp : Lib.splitB ⟨#[32]⟩ 0 3 s = [A, B, C, D])
    (hl : lineP s.data.toList = (evP A.data.toList B.data.toList C.data.toList D.data.toList, numOk A.data.toList && numOk C.data.toList && numOk D.data.toList)) (sA : A.size ≤ s.size) (sC : C.size ≤ s.size) (sD : D.size ≤ s.size) :
    Calls Tryd.prog 28 #[.string s] w (LineEnd s w) := by
  have HE := Lib.hid hl
  have HW := Lib.hid hw
  have HS := Lib.hid hsp
  have HC := Lib.hid h
  have tA : A.size ≤ 10000 := by omega
  have tC : C.size ≤ 10000 := by omega
  have tD : D.size ≤ 10000 := by omega
  clear hw hl hsp h sA sC sD
  go_enter Tryd.func28, Tryd.ntmps28
  go_upto_region 5 with (first
    | (go_at_call 46
       obtain ⟨m, hm⟩ := (HW.out.below ((Below.refl _ _).alloc (Nat.le_refl _) _)).out.mx
       refine (Tryd.strings_Split s _ m _ (by omega) hm (by decide)).mono ?_
       rintro e w1 ⟨rfl, hw1⟩
       rw [HC.out, HS.out] at hw1
       rw [HC.out]
       have hR := (Blk.new w 47 #[.int .i64 0, .int .i64 0, .int .i64 0, .int .i64 0]).alloc (.cells #[.string A, .string B, .string C, .string D] 9)
       have hP := Blk.new (w.alloc (.cells #[.int .i64 0, .int .i64 0, .int .i64 0, .int .i64 0] 47)) 9 #[.string A, .string B, .string C, .string D]
       have hB1 := ((Below.refl w.heap.size w).alloc (Nat.le_refl _) (.cells #[.int .i64 0, .int .i64 0, .int .i64 0, .int .i64 0] 47)).alloc (by simp) (.cells #[.string A, .string B, .string C, .string D] 9)
       have hz1 : w1.heap.size = w.heap.size + 2 := by rw [hw1]; simp
       simp only [List.map_cons, List.map_nil] at hw1
       rw [← hw1] at hR hP hB1
       clear hw1 hm
       have hz0 : (w.alloc (.cells #[.int .i64 0, .int .i64 0, .int .i64 0, .int .i64 0] 47)).heap.size = w.heap.size + 1 := by simp
       rw [hz0] at hP ⊢
       clear hz0)
    | fail)
  have hG := Blk.new w1 4 #[.bool true]
  have hR2 := hR.alloc (.cells #[.bool true] 4)
  have hP2 := hP.alloc (.cells #[.bool true] 4)
  have hB2 := hB1.alloc hB1.size (.cells #[.bool true] 4)
  rw [hz1] at hG
  have hz2 : (w1.alloc (.cells #[.bool true] 4)).heap.size = w.heap.size + 3 := by simp [hz1]
  obtain ⟨W, hWe⟩ : ∃ W, W = w1.alloc (.cells #[.bool true] 4) := ⟨_, rfl⟩
  rw [← hWe] at hG hR2 hP2 hB2 hz2 ⊢
  clear hWe hR hP hB1 hz1
  have hWW := HW.out.below hB2
  have hSt : Std (w.heap.size + 2) W := hWW.more (by omega)
  have HSt := Lib.hid hSt
  clear hSt hWW
  have p0 := hP2.cell 0
  have p2 := hP2.cell 2
  have p3 := hP2.cell 3
  simp at p0 p2 p3
  have hgl : w.heap.size + 2 < W.heap.size := by omega
  have hpg : w.heap.size + 1 < w.heap.size + 2 := by omega
  have hgd : w.heap.size + 2 < W.drew.heap.size := hgl
  clear hz2
  have HG := Lib.hid hG
  have HP2 := Lib.hid hP2
  have HR2 := Lib.hid hR2
  have HB2 := Lib.hid hB2
  clear hP2 hR2 hB2
  go_cut [6] (fun s6 wc => ∃ e : Nat, s6 = .pointer (some ⟨e, 0, none⟩) ∧ w.heap.size + 2 < e ∧ Blk wc e 47 #[.int .i64 (numV A.data.toList), .int .i64 0, .int .i64 (numV C.data.toList), .int .i64 (numV D.data.toList)] ∧ Blk wc (w.heap.size + 2) 4 #[.bool (numOk A.data.toList && numOk C.data.toList && numOk D.data.toList)] ∧ Below (w.heap.size + 2) W wc)
  case first =>
    go_region_held3 (fun w' => Below (w.heap.size + 2) W w' ∧ w.heap.size + 2 < w'.heap.size ∧ w'.cell? ⟨w.heap.size + 1, 0, none⟩ = some (.string A) ∧ w'.cell? ⟨w.heap.size + 1, 2, none⟩ = some (.string C) ∧ w'.cell? ⟨w.heap.size + 1, 3, none⟩ = some (.string D))
      (first
        | with_reducible exact kl_below ⟨Below.refl _ _, hgl, p0, p2, p3⟩ hpg (Below.refl _ _).drew
        | with_reducible exact kl_below (kl_alloc ⟨Below.refl _ _, hgl, p0, p2, p3⟩ hpg _) hpg (Below.refl _ _).drew
        | with_reducible exact kl_below (by with_reducible assumption) hpg hb6
        | with_reducible exact kl_below (by with_reducible assumption) hpg hb7
        | with_reducible exact kl_below (by with_reducible assumption) hpg hb8
        | with_reducible exact kl_alloc (by with_reducible assumption) hpg _
        | with_reducible exact kl_alloc hk8 hpg _
        | with_reducible exact kl_set4 hk8 hpg hk7.2.1
        | with_reducible exact kl_set4 hk8 hpg hk6.2.1
        | with_reducible exact kl_set4 hk8 hpg hgl
        | with_reducible exact kl_set4 hk8 hpg hgd
        | fail)
      ((first
        | (go_at_call 47
           with_reducible refine (number_any A (w.heap.size + 2) true (W.alloc _).drew (kl_std (p := w.heap.size + 1) (a := .string A) (c := .string C) (d := .string D) (by with_reducible assumption) HSt.out) tA ?_).mono ?_
           · exact (HG.out.alloc _).drew
           rintro e w6 ⟨rfl, hg6, hb6, ho6⟩
           have HG6 := Lib.hid hg6
           have hk6 := kl_below (W := W) (p := w.heap.size + 1) (a := .string A) (c := .string C) (d := .string D) (by with_reducible assumption) hpg hb6
           have HE6 := Lib.hid (ho6 _ _ _ (by omega) (Blk.new W 47 #[.int .i64 0, .int .i64 0, .int .i64 0, .int .i64 0]).drew)
           clear ho6 hg6)
        | (go_at_call 47
           with_reducible refine (number_any A (w.heap.size + 2) true _ (kl_std (p := w.heap.size + 1) (a := .string A) (c := .string C) (d := .string D) (by with_reducible assumption) HSt.out) tA ?_).mono ?_
           · exact HG.out.drew
           rintro e w6 ⟨rfl, hg6, hb6, ho6⟩
           have HG6 := Lib.hid hg6
           have hk6 := kl_below (W := W) (p := w.heap.size + 1) (a := .string A) (c := .string C) (d := .string D) (by with_reducible assumption) hpg hb6
           clear ho6 hg6)
        | (go_at_call 47
           with_reducible refine (number_any C (w.heap.size + 2) (true && numOk A.data.toList) (w6.alloc _) (kl_std (p := w.heap.size + 1) (a := .string A) (c := .string C) (d := .string D) (by with_reducible assumption) HSt.out) tC ?_).mono ?_
           · exact HG6.out.alloc _
           rintro e w7 ⟨rfl, hg7, hb7, ho7⟩
           have HG7 := Lib.hid hg7
           have hk7 := kl_below (W := W) (p := w.heap.size + 1) (a := .string A) (c := .string C) (d := .string D) (by with_reducible assumption) hpg hb7
           have HE7 := Lib.hid (ho7 _ _ _ (by have := hk6.2.1; omega) (Blk.new w6 47 #[.int .i64 0, .int .i64 0, .int .i64 0, .int .i64 0]))
           clear ho7 hg7)
        | (go_at_call 47
           with_reducible refine (number_any C (w.heap.size + 2) (true && numOk A.data.toList) _ (kl_std (p := w.heap.size + 1) (a := .string A) (c := .string C) (d := .string D) (by with_reducible assumption) HSt.out) tC ?_).mono ?_
           · exact HG6.out
           rintro e w7 ⟨rfl, hg7, hb7, ho7⟩
           have HG7 := Lib.hid hg7
           have hk7 := kl_below (W := W) (p := w.heap.size + 1) (a := .string A) (c := .string C) (d := .string D) (by with_reducible assumption) hpg hb7
           (try have HE7 := Lib.hid (ho7 _ _ _ (by omega) HE6.out))
           clear ho7 hg7)
        | (go_at_call 47
           with_reducible refine (number_any D (w.heap.size + 2) ((true && numOk A.data.toList) && numOk C.data.toList) (w7.alloc _) (kl_std (p := w.heap.size + 1) (a := .string A) (c := .string C) (d := .string D) (by with_reducible assumption) HSt.out) tD ?_).mono ?_
           · exact HG7.out.alloc _
           rintro e w8 ⟨rfl, hg8, hb8, ho8⟩
           have HG8 := Lib.hid (show Blk w8 (w.heap.size + 2) 4 #[.bool (numOk A.data.toList && numOk C.data.toList && numOk D.data.toList)] from by simpa only [Bool.true_and] using hg8)
           have hk8 := kl_below (W := W) (p := w.heap.size + 1) (a := .string A) (c := .string C) (d := .string D) (by with_reducible assumption) hpg hb8
           have HE8 := Lib.hid (ho8 _ _ _ (by have := hk7.2.1; omega) (Blk.new w7 47 #[.int .i64 0, .int .i64 0, .int .i64 0, .int .i64 0]))
           clear ho8 hg8
           have q0 := HE8.out.cell 0
           have q1 := HE8.out.cell 1
           have q2 := HE8.out.cell 2
           have q3 := HE8.out.cell 3
           have qf := HE8.out.frozen 0
           have qf1 := HE8.out.frozen 1
           have qf2 := HE8.out.frozen 2
           have qf3 := HE8.out.frozen 3
           have ql := HE8.out.lt
           simp at q0 q1 q2 q3)
        | (go_at_call 47
           with_reducible refine (number_any D (w.heap.size + 2) ((true && numOk A.data.toList) && numOk C.data.toList) _ (kl_std (p := w.heap.size + 1) (a := .string A) (c := .string C) (d := .string D) (by with_reducible assumption) HSt.out) tD ?_).mono ?_
           · exact HG7.out
           rintro e w8 ⟨rfl, hg8, hb8, ho8⟩
           have HG8 := Lib.hid (show Blk w8 (w.heap.size + 2) 4 #[.bool (numOk A.data.toList && numOk C.data.toList && numOk D.data.toList)] from by simpa only [Bool.true_and] using hg8)
           have hk8 := kl_below (W := W) (p := w.heap.size + 1) (a := .string A) (c := .string C) (d := .string D) (by with_reducible assumption) hpg hb8
           (try have HE8 := Lib.hid (ho8 _ _ _ (by first | omega | (have := hk6.2.1; omega)) HE7.out))
           clear ho8 hg8
           (try
             (have q0 := HE8.out.cell 0
              have q1 := HE8.out.cell 1
              have q2 := HE8.out.cell 2
              have q3 := HE8.out.cell 3
              have qf := HE8.out.frozen 0
              have qf1 := HE8.out.frozen 1
              have qf2 := HE8.out.frozen 2
              have qf3 := HE8.out.frozen 3
              have ql := HE8.out.lt
              simp at q0 q1 q2 q3)))
        | fail))
    · go_wp2_with fail
      go_meet
      exact ⟨_, rfl, hk8.2.1, Blk.new _ _ _, HG8.out.alloc _, (kl_alloc hk8 hpg _).1⟩
    · go_wp2_with fail
      go_meet
      exact ⟨_, rfl, hk7.2.1, blk_set4 HE8.out _ _ _ _, blk_far4 HG8.out hk7.2.1 _ _ _ _, (kl_set4 hk8 hpg hk7.2.1).1⟩
    · go_wp2_with fail
      go_meet
      exact ⟨_, rfl, hk6.2.1, blk_set4 HE8.out _ _ _ _, blk_far4 HG8.out hk6.2.1 _ _ _ _, (kl_set4 hk8 hpg hk6.2.1).1⟩
    · go_wp2_with fail
      go_meet
      exact ⟨_, rfl, hgl, blk_set4 HE8.out _ _ _ _, blk_far4 HG8.out hgl _ _ _ _, (kl_set4 hk8 hpg hgl).1⟩
  case rest =>
    obtain ⟨e, rfl, hge, he, hg, hbW⟩ := hcut
    have hnm := (HSt.out.below hbW).out.names
    have n0 := hnm 0 (by omega)
    have n1 := hnm 1 (by omega)
    have n2 := hnm 2 (by omega)
    have n3 := hnm 3 (by omega)
    have HBW := Lib.hid hbW
    have HE0 := Lib.hid he
    have HG0 := Lib.hid hg
    clear hnm hbW he hg hG hgl
    have i0 : ∀ w, (Instr.index 114 (.agg #[.string (nameS 0), .string (nameS 1), .string (nameS 2), .string (nameS 3)]) (.int .i64 0)).run Tryd.prog w = .ok (.string (nameS 0)) w := fun _ => by kernel_rfl
    have i1 : ∀ w, (Instr.index 114 (.agg #[.string (nameS 0), .string (nameS 1), .string (nameS 2), .string (nameS 3)]) (.int .i64 1)).run Tryd.prog w = .ok (.string (nameS 1)) w := fun _ => by kernel_rfl
    have i2 : ∀ w, (Instr.index 114 (.agg #[.string (nameS 0), .string (nameS 1), .string (nameS 2), .string (nameS 3)]) (.int .i64 2)).run Tryd.prog w = .ok (.string (nameS 2)) w := fun _ => by kernel_rfl
    have i3 : ∀ w, (Instr.index 114 (.agg #[.string (nameS 0), .string (nameS 1), .string (nameS 2), .string (nameS 3)]) (.int .i64 3)).run Tryd.prog w = .ok (.string (nameS 3)) w := fun _ => by kernel_rfl
    go_wp2_with fail
    go_loopw [29] (fun i wr => ∃ (k : Nat) (n : Int), Hid (n = k) ∧ k ≤ 4 ∧ i = .int .i64 n ∧ Blk wr e 47 #[.int .i64 (numV A.data.toList), .int .i64 (wtK k B.data.toList : Nat), .int .i64 (numV C.data.toList), .int .i64 (numV D.data.toList)] ∧ Blk wr (w.heap.size + 2) 4 #[.bool (numOk A.data.toList && numOk C.data.toList && numOk D.data.toList)] ∧ Below (w.heap.size + 2) W wr) (fun i _ => 4 - (intOf i).toNat)
    case atStart => exact ⟨0, 0, Lib.hid rfl, by omega, rfl, HE0.out, HG0.out, HBW.out⟩
    case round =>
      obtain ⟨k, n, hkn, hk, rfl, he, hg, hb⟩ := hrel
      by_cases hlt : k < 4
      · have p1 := (HP2.out.below hb (by omega)).cell 1
        have e0 := he.cell 1
        have ef := he.frozen 1
        simp at p1 e0
        have HE1 := Lib.hid he
        have HG1 := Lib.hid hg
        have HB1 := Lib.hid hb
        clear he hg hb
        have hcase : k = 0 ∨ (1 ≤ k ∧ nameL k = B.data.toList) ∨ (1 ≤ k ∧ ¬ nameL k = B.data.toList) := by
          rcases Nat.eq_zero_or_pos k with h | h
          · exact .inl h
          · by_cases hq : nameL k = B.data.toList
            · exact .inr (.inl ⟨h, hq⟩)
            · exact .inr (.inr ⟨h, hq⟩)
        rcases hcase with rfl | ⟨h1, hq⟩ | ⟨h1, hq⟩
        · obtain rfl : n = 0 := hkn.out
          go_wp2_with fail
          go_roundw
          case rel => exact ⟨1, _, Lib.hid rfl, by omega, by go_num, HE1.out, HG1.out, HB1.out⟩
          case measure => simp [intOf]
        · have hs : wtK (k + 1) B.data.toList = k := by simp only [wtK]; rw [if_pos ⟨h1, hq⟩]
          have hn : ((nameS k).toList == B.toList) = true := by rw [name_eq]; exact decide_eq_true hq
          have HS1 := Lib.hid hs
          clear hs hq
          have hcc : k = 1 ∨ k = 2 ∨ k = 3 := by omega
          clear hlt hk h1
          rcases hcc with rfl | rfl | rfl
          · obtain rfl : n = 1 := hkn.out
            go_wp2_with fail
            go_roundw
            case rel => exact ⟨2, 2, Lib.hid rfl, by omega, by go_num, by rw [HS1.out]; simpa using HE1.out.set_ 1 _, HG1.out.far (p := ⟨e, 1, none⟩) (Nat.ne_of_lt hge) _, HB1.out.setCell (p := ⟨e, 1, none⟩) (Nat.le_of_lt hge) _⟩
            case measure => simp [intOf]
          · obtain rfl : n = 2 := hkn.out
            go_wp2_with fail
            go_roundw
            case rel => exact ⟨3, 3, Lib.hid rfl, by omega, by go_num, by rw [HS1.out]; simpa using HE1.out.set_ 1 _, HG1.out.far (p := ⟨e, 1, none⟩) (Nat.ne_of_lt hge) _, HB1.out.setCell (p := ⟨e, 1, none⟩) (Nat.le_of_lt hge) _⟩
            case measure => simp [intOf]
          · obtain rfl : n = 3 := hkn.out
            go_wp2_with fail
            go_roundw
            case rel => exact ⟨4, 4, Lib.hid rfl, by omega, by go_num, by rw [HS1.out]; simpa using HE1.out.set_ 1 _, HG1.out.far (p := ⟨e, 1, none⟩) (Nat.ne_of_lt hge) _, HB1.out.setCell (p := ⟨e, 1, none⟩) (Nat.le_of_lt hge) _⟩
            case measure => simp [intOf]
        · have hs : wtK (k + 1) B.data.toList = wtK k B.data.toList := by simp only [wtK]; rw [if_neg (fun h => hq h.2)]
          have hn : ((nameS k).toList == B.toList) = false := by rw [name_eq]; exact decide_eq_false hq
          have HS1 := Lib.hid hs
          clear hs hq
          have hcc : k = 1 ∨ k = 2 ∨ k = 3 := by omega
          clear hlt hk h1
          rcases hcc with rfl | rfl | rfl
          · obtain rfl : n = 1 := hkn.out
            go_wp2_with fail
            go_roundw
            case rel => exact ⟨2, 2, Lib.hid rfl, by omega, by go_num, by rw [HS1.out]; exact HE1.out, HG1.out, HB1.out⟩
            case measure => simp [intOf]
          · obtain rfl : n = 2 := hkn.out
            go_wp2_with fail
            go_roundw
            case rel => exact ⟨3, 3, Lib.hid rfl, by omega, by go_num, by rw [HS1.out]; exact HE1.out, HG1.out, HB1.out⟩
            case measure => simp [intOf]
          · obtain rfl : n = 3 := hkn.out
            go_wp2_with fail
            go_roundw
            case rel => exact ⟨4, 4, Lib.hid rfl, by omega, by go_num, by rw [HS1.out]; exact HE1.out, HG1.out, HB1.out⟩
            case measure => simp [intOf]
      · obtain rfl : k = 4 := by omega
        obtain rfl : n = 4 := hkn.out
        have hw4 := wtK_wtN B.data.toList
        rw [hw4] at he
        have e0 := he.cell 0
        have e1 := he.cell 1
        have e2 := he.cell 2
        have e3 := he.cell 3
        have g0 := hg.cell 0
        have hr := HR2.out.below hb (by omega)
        have hrf := hr.frozen 0
        have hrf1 := hr.frozen 1
        have hrf2 := hr.frozen 2
        have hrf3 := hr.frozen 3
        have r0 := hr.cell 0
        have r1 := hr.cell 1
        have r2 := hr.cell 2
        have r3 := hr.cell 3
        simp at e0 e1 e2 e3 g0 r0 r1 r2 r3
        have HR3 := Lib.hid hr
        have HB1 := Lib.hid hb
        clear hr hb he hg hw4
        go_wp2_with fail
        go_region
        go_wp2_with fail
        refine bodyPost_ret (v := .tuple #[.agg #[.int .i64 (numV A.data.toList), .int .i64 (wtN B.data.toList : Nat), .int .i64 (numV C.data.toList), .int .i64 (numV D.data.toList)], .bool (numOk A.data.toList && numOk C.data.toList && numOk D.data.toList)]) ?_ rfl ⟨by rw [HE.out]; rfl, ?_⟩
        · simp [results, Tryd.results28, go_sem, r0, r1, r2, r3]
        · exact ((((((HB2.out.trans (HB1.out.mono (by omega))).setCell (p := ⟨w.heap.size, 0, none⟩) (Nat.le_refl _) _).setCell (p := ⟨w.heap.size, 1, none⟩) (Nat.le_refl _) _).setCell (p := ⟨w.heap.size, 2, none⟩) (Nat.le_refl _) _).setCell (p := ⟨w.heap.size, 3, none⟩) (Nat.le_refl _) _)).drew
theorem line_any (s : ByteArray) (w : World) (hw : Std w.heap.size w) (hs : s.size ≤ 10000) : Calls Tryd.prog 28 #[.string s] w (LineEnd s w) := by
  by_cases h : Lib.countB s ⟨#[32]⟩ = 3
  · obtain ⟨A, B, C, D, h1, h2, h3, _, h5, h6⟩ := pieces4 s h
    exact line_four s A B C D w hw hs h h1 (by unfold lineP; rw [h2]) h3 h5 h6
  · exact line_no s w hw hs h
end Go.Proofs.YthnbbgmajdjgeaaDoor
