/-
  StoryParses' walks, part four: StoryParse of the reference. Conditions: the tables are laid.
-/
import Derived.Test.YthnbbgmajdjgeaaDoorStU
import Derived.Test.YthnbbgmajdjgeaaDoorMapT
namespace Go.Proofs.YthnbbgmajdjgeaaDoor
open Go.RowKit Go.Extern.Stop Go.Stop Go.Extern
attribute [local go_sem ↓] Go.wp_at_zero Go.wp_at_succ

def strB (x : List UInt8) : ByteArray := ⟨x.toArray⟩
theorem fields_walk (X : ByteArray) (w : World) (hw : Std0 w) (hs : X.size ≤ 10000) :
    Calls Tryd.prog 23 #[.string X] w fun e w' => ∃ A : Nat, e = .returned (.slice (some ⟨A, 0, none⟩) (Lib.fieldsD X.data.toList).length (Lib.fieldsD X.data.toList).length) ∧ Below w.heap.size w w' ∧ w.heap.size ≤ A ∧
      Hid (∀ j x, (Lib.fieldsD X.data.toList)[j]? = some x → w'.cell? ⟨A, j, none⟩ = some (.string (strB x))) := by
  refine (Tryd.strings_Fields_any X w (by omega) hw.asc hw.wht).mono ?_
  rintro e w' ⟨A, rfl, hA, hown, hb⟩
  refine ⟨A, rfl, hb, hA, Lib.hid (fun j x hx => ?_)⟩
  · have := hown.cells (g := A) rfl j (.string (strB x)) (by rw [List.getElem?_map, hx]; rfl)
    have e : (Addr.add ⟨A, 0, none⟩ j) = ⟨A, j, none⟩ := by unfold Addr.add; split <;> simp_all
    rw [e] at this
    exact this
theorem own_set {w : World} {B n : Nat} {v : Value} {xs : List Value} (h : w.ownsRow (B + 1) 47 4 v n xs) (j : Nat) (u : Value) : (w.setCell ⟨B, j, none⟩ u).ownsRow (B + 1) 47 4 v n xs :=
  ownsRow_setCell_below h (by simp) _
theorem fields_not (X : ByteArray) (w : World) (hw : Std0 w) (hs : X.size ≤ 10000) (h : (Lib.fieldsD X.data.toList).length ≠ 4) :
    Calls Tryd.prog 23 #[.string X] w fun e w' => ∃ (A m : Nat), e = .returned (.slice (some ⟨A, 0, none⟩) m m) ∧ m ≠ 4 ∧ Below w.heap.size w w' := by
  refine (fields_walk X w hw hs).mono ?_
  rintro e w' ⟨A, rfl, hb, _, _⟩
  exact ⟨A, _, rfl, h, hb⟩
theorem fields_four (X : ByteArray) (w : World) (hw : Std0 w) (hs : X.size ≤ 10000) (a b c d : List UInt8) (h : Lib.fieldsD X.data.toList = [a, b, c, d]) :
    Calls Tryd.prog 23 #[.string X] w fun e w' => ∃ (A : Nat), e = .returned (.slice (some ⟨A, 0, none⟩) 4 4) ∧ Below w.heap.size w w' ∧ A < w'.heap.size ∧
      w'.cell? ⟨A, 0, none⟩ = some (.string (strB a)) ∧ w'.cell? ⟨A, 1, none⟩ = some (.string (strB b)) ∧ w'.cell? ⟨A, 2, none⟩ = some (.string (strB c)) ∧ w'.cell? ⟨A, 3, none⟩ = some (.string (strB d)) := by
  refine (fields_walk X w hw hs).mono ?_
  rintro e w' ⟨A, rfl, hb, _, hc⟩
  rw [h] at hc ⊢
  have h0 := hc.out 0 a rfl
  exact ⟨A, rfl, hb, World.block_lt_of_cell? w' _ h0, h0, hc.out 1 b rfl, hc.out 2 c rfl, hc.out 3 d rfl⟩
theorem mk79 (w : World) : (Instr.makeMap 79 none).run Tryd.prog w = .ok (.map (some w.heap.size)) (w.alloc (.map #[] 0)) := by
  simp [Instr.makeMap]
theorem reads_new (w : World) (a b c d : Value) : Reads (w.alloc (.cells #[a, b, c, d] 47)) (w.heap.size + 1) 4 (some ⟨w.heap.size, 0, none⟩) 1 [a, b, c, d] :=
  ⟨rfl, fun _ => ⟨_, rfl, by simp, World.news_of_block (cs := #[a, b, c, d]) (heap_alloc_new w _)⟩⟩
theorem ks_grown {W w w' : World} {v : Value} {n : Nat} {xs : List Value} (h : Below W.heap.size W w ∧ ∀ b o, b < W.heap.size → w.cell? ⟨b, o, none⟩ = W.cell? ⟨b, o, none⟩) (ho : w.ownsRow W.heap.size 47 4 v n xs) (hg : w.grownBy w' v.ownBlock) :
    Below W.heap.size W w' ∧ ∀ b o, b < W.heap.size → w'.cell? ⟨b, o, none⟩ = W.cell? ⟨b, o, none⟩ := by
  have h2 := h.1.grown hg h.1.size (fun g hg => (ho.lt g hg).1)
  exact ⟨h2, fun b o hb => h2.cell (p := ⟨b, o, none⟩) hb⟩
theorem ks_reads {W w : World} {size n : Nat} {A : Option Addr} {xs : List Value} (h : Below W.heap.size W w ∧ ∀ b o, b < W.heap.size → w.cell? ⟨b, o, none⟩ = W.cell? ⟨b, o, none⟩) (hr : Reads W W.heap.size size A n xs) : Reads w W.heap.size size A n xs := hr.below h.1
theorem ks_le {W w : World} (h : Below W.heap.size W w ∧ ∀ b o, b < W.heap.size → w.cell? ⟨b, o, none⟩ = W.cell? ⟨b, o, none⟩) : W.heap.size ≤ w.heap.size := h.1.size
theorem flatE_one (l : List Ev) : ∀ u ∈ flatE l, u.oneCell' = true := by
  intro u hu
  obtain ⟨e, _, he⟩ := List.mem_flatMap.1 hu
  simp only [evc, List.mem_cons, List.not_mem_nil, or_false] at he
  rcases he with rfl | rfl | rfl | rfl <;> simp [Value.oneCell']
theorem chain {a b c : World} (h1 : Below a.heap.size a b) (h2 : Below b.heap.size b c) : Below a.heap.size a c := h1.trans (h2.mono h1.size)
theorem last2 {L : List Ev} {m : Nat} (e : Ev) (hl : L.length = m + 1) : lastL L ++ [e] = (L ++ [e]).drop m := by
  unfold lastL
  rw [hl, List.drop_append_of_le_length (by omega)]
  rfl
theorem reads_last {w : World} {base g m c : Nat} {L : List Ev} {e : Ev} (h : w.ownsRow base 47 4 (.slice (some ⟨g, 0, none⟩) (m + 1 + 1) c) (m + 1 + 1) (flatE (L ++ [e]))) (hl : L.length = m + 1) :
    Reads w w.heap.size 4 (some ⟨g, m * 4, none⟩) 2 (flatE (lastL L ++ [e])) := by
  have h1 := Reads.of_own h
  have h2 := h1.cut (k := m) (cap := m + 1 + 1) (by omega) (Nat.le_refl _)
  have e2 : (Addr.add ⟨g, 0, none⟩ (m * 4)) = (⟨g, m * 4, none⟩ : Addr) := by unfold Addr.add; split <;> simp_all
  rw [if_neg (by omega), show m + 1 + 1 - m = 2 by omega, ← flatE_drop, ← last2 e hl] at h2
  simp only [Option.map_some, e2] at h2
  exact h2
theorem cmp_t {ev : Value} {x : List UInt8} (h : Hid (∀ w, (binOp .neq 33 ev .nilIface).run Tryd.prog w = .ok (.bool (!numR x)) w)) (hx : numR x = false) : ∀ w, (binOp .neq 33 ev .nilIface).run Tryd.prog w = .ok (.bool true) w := by
  intro w
  have := h.out w
  rw [hx] at this
  exact this
theorem cmp_f {ev : Value} {x : List UInt8} (h : Hid (∀ w, (binOp .neq 33 ev .nilIface).run Tryd.prog w = .ok (.bool (!numR x)) w)) (hx : numR x = true) : ∀ w, (binOp .neq 33 ev .nilIface).run Tryd.prog w = .ok (.bool false) w := by
  intro w
  have := h.out w
  rw [hx] at this
  exact this
noncomputable def goodR (a c d l : List UInt8) (es : List Ev) : Bool := numR a && (numR c && (numR d && (stB 0 es && (Lib.hasSuffix (prR es) ([10] ++ (l ++ [10])) || decide (prR es = l ++ [10])))))
theorem lineR_eq {L : List Ev} {l a b c d : List UInt8} (h : Lib.fieldsD l = [a, b, c, d]) : lineR L l = if goodR a c d l (lastL L ++ [evP a b c d]) = true then some (evP a b c d) else none := by
  unfold lineR goodR
  rw [h]
  simp only [Bool.and_eq_true, Bool.or_eq_true, decide_eq_true_eq]
theorem suf_any (T Y : ByteArray) (q : Bool) (w : World) (hs : T.size ≤ 10000) (hq : Lib.hasSuffix T.data.toList Y.data.toList = q) :
    Calls Tryd.prog 26 #[.string T, .string Y] w fun e w' => e = .returned (.bool q) ∧ w' = w := by
  have := Tryd.strings_HasSuffix T Y w (by omega)
  rw [hq] at this
  exact this
theorem own_base {w : World} {B B' n : Nat} {v : Value} {xs : List Value} (h : w.ownsRow B 47 4 v n xs) (hB : B' ≤ B) : w.ownsRow B' 47 4 v n xs := by
  refine ⟨h.1, ?_⟩
  rcases h.2 with h | ⟨g, cap, cur, h1, h2, h3⟩
  · exact .inl h
  · exact .inr ⟨g, cap, cur, h1, Nat.le_trans hB h2, h3⟩
theorem fieldsGoD_len : ∀ (f : Nat) (cur l : List UInt8), ∀ x ∈ Lib.fieldsGoD f cur l, x.length ≤ cur.length + l.length
  | 0, cur, l => by
    intro x hx
    unfold Lib.fieldsGoD at hx
    split at hx
    · simp at hx
    · rw [List.mem_singleton.1 hx]; omega
  | f + 1, cur, l => by
    intro x hx
    unfold Lib.fieldsGoD at hx
    have hlt : (l.take (Lib.decodeL l).2).length + (l.drop (Lib.decodeL l).2).length = l.length := by
      rw [← List.length_append, List.take_append_drop]
    split at hx
    · split at hx
      · simp at hx
      · rw [List.mem_singleton.1 hx]; omega
    · split at hx
      · rcases List.mem_append.1 hx with hx | hx
        · split at hx
          · simp at hx
          · rw [List.mem_singleton.1 hx]; omega
        · have := fieldsGoD_len f [] _ x hx
          simp only [List.length_nil] at this
          omega
      · have := fieldsGoD_len f _ _ x hx
        rw [List.length_append] at this
        omega
theorem fieldsD_len (l : List UInt8) : ∀ x ∈ Lib.fieldsD l, x.length ≤ l.length := by
  intro x hx
  have := fieldsGoD_len _ _ _ x hx
  simpa using this
theorem stepR_no (s : List UInt8) (L : List Ev) (h : (10 : UInt8) ∉ s) : stepR s L = none := by
  unfold stepR
  rw [byte_no s 10 h, if_pos (by decide)]
theorem stepR_at (l r : List UInt8) (L : List Ev) (hl : (10 : UInt8) ∉ l) : stepR (l ++ 10 :: r) L = (lineR L l).map fun e => (e, r) := by
  unfold stepR
  rw [byte_at l r 10 hl, if_neg (by omega)]
  have e2 : (l ++ 10 :: r).take ((l.length : Nat) : Int).toNat = l := by simp
  have e3 : (l ++ 10 :: r).drop (((l.length : Nat) : Int).toNat + 1) = r := by simp
  rw [e2, e3]
theorem idx_no (S : ByteArray) (w : World) (h : (10 : UInt8) ∉ S.data.toList) : Calls Tryd.prog 22 #[.string S, .int .u8 10] w fun e w' => e = .returned (.int .i64 (-1)) ∧ w' = w := by
  have := Tryd.strings_IndexByte S 10 w
  rw [show Lib.indexByte S.data.toList (10 : Int).toNat.toUInt8 = -1 from byte_no _ 10 h] at this
  exact this
theorem idx_at (S : ByteArray) (w : World) (l r : List UInt8) (hS : S.data.toList = l ++ 10 :: r) (h : (10 : UInt8) ∉ l) : Calls Tryd.prog 22 #[.string S, .int .u8 10] w fun e w' => e = .returned (.int .i64 (l.length : Nat)) ∧ w' = w := by
  have := Tryd.strings_IndexByte S 10 w
  rw [show Lib.indexByte S.data.toList (10 : Int).toNat.toUInt8 = (l.length : Nat) from by rw [hS]; exact byte_at l r 10 h] at this
  exact this
def F29 (n p : Int) : Value := .agg #[.int .i64 n, .int .i64 p]
theorem good_any (w : World) : Calls Tryd.prog 16 #[] w fun e w' => e = .returned (.agg #[.int .i64 0, .int .i64 (-1)]) ∧ Below w.heap.size w w' := by
  go_enter Tryd.func16, Tryd.ntmps16
  go_wp2_with fail
  exact bodyPost_ret (v := .agg #[.int .i64 0, .int .i64 (-1)]) (by simp [results, Tryd.results16, go_sem]) rfl ⟨rfl, (Below.refl _ _).alloc (Nat.le_refl _) _⟩
theorem neq_nil (ty : TypeId) (v : Value) (w : World) : (binOp .neq 33 (.iface ty v) .nilIface).run Tryd.prog w = .ok (.bool true) w := by
  go_simp
theorem neq_nil0 (w : World) : (binOp .neq 33 .nilIface .nilIface).run Tryd.prog w = .ok (.bool false) w := by
  go_simp
theorem guard_nil (t : Nat) (ty : TypeId) (v : Value) (w : World) : (eqGuard .neq 33 (.tmp t) (.const .nilIface) (.iface ty v) .nilIface).run Tryd.prog w = .ok () w := by
  go_simp
theorem guard_nil0 (t : Nat) (w : World) : (eqGuard .neq 33 (.tmp t) (.const .nilIface) .nilIface .nilIface).run Tryd.prog w = .ok () w := by
  go_simp
theorem atoi_any (s : ByteArray) (w : World) (hw : Std0 w) (hs : s.size ≤ 10000) :
    Calls Tryd.prog 24 #[.string s] w fun e w' => ∃ ev, e = .returned (.tuple #[.int .i64 (numV s.data.toList), ev]) ∧ Hid (∀ w, (binOp .neq 33 ev .nilIface).run Tryd.prog w = .ok (.bool (!numR s.data.toList)) w) ∧ Hid (∀ t w, (eqGuard .neq 33 (.tmp t) (.const .nilIface) ev .nilIface).run Tryd.prog w = .ok () w) ∧ Below w.heap.size w w' := by
  cases hr : numR s.data.toList with
  | true =>
    refine (atoi_t s w hs hr).mono ?_
    rintro e w' ⟨rfl, hb⟩
    exact ⟨_, rfl, Lib.hid neq_nil0, Lib.hid guard_nil0, hb⟩
  | false =>
    refine (atoi_f s w hw hs hr).mono ?_
    rintro e w' ⟨N, rfl, hb⟩
    exact ⟨_, rfl, Lib.hid (neq_nil _ _), Lib.hid (fun t w => guard_nil t _ _ w), hb⟩
theorem print_any (A : Option Addr) (len cap B : Nat) (l : List Ev) (w : World) (hl : l.length = len) (hlen : len ≤ 100) (hr : Reads w B 4 A len (flatE l)) (hB : B ≤ w.heap.size) (hT : HasTab w) (hwf : EvWf l) :
    Calls Tryd.prog 25 #[.slice A len cap] w fun e w' => ∃ (T : ByteArray) (q : Int), e = .returned (.tuple #[.string T, .int .i64 q]) ∧ Hid (q = if stB 0 l = true then 0 else 1) ∧ Hid (T.data.toList = prR l) ∧ Below w.heap.size w w' := by
  cases hs : stB 0 l with
  | false =>
    refine (pprint_f A len cap B l w hl hlen hr hB hs).mono ?_
    rintro e w' ⟨rfl, hb⟩
    exact ⟨_, _, rfl, Lib.hid (by simp), Lib.hid (by unfold prR; rw [hs]; rfl), hb⟩
  | true =>
    refine (pprint_t A len cap B l w hl hlen hr hB hs hT hwf).mono ?_
    rintro e w' ⟨rfl, hb⟩
    exact ⟨_, _, rfl, Lib.hid (by simp), Lib.hid (by unfold prR; rw [hs]; rfl), hb⟩
def RpEnd (T : List Ev × Int × Int) (w : World) (e : Ending) (w' : World) : Prop :=
  ∃ (A : Option Addr) (c : Nat), e = .returned (.tuple #[.slice A T.1.length c, .agg #[.int .i64 T.2.1, .int .i64 T.2.2]]) ∧ Reads w' w'.heap.size 4 A T.1.length (flatE T.1) ∧ Below w.heap.size w w'
set_option maxRecDepth 100000 in
set_option maxHeartbeats 4000000 in
theorem rparse_any (s : ByteArray) (w : World) (hw : Std w.heap.size w) (hs : s.size ≤ 2000) :
    Calls Tryd.prog 9 #[.string s] w (RpEnd (prs stepR s.size s.data.toList []) w) := by
  have HW := Lib.hid hw
  clear hw
  obtain ⟨i0, hi0, hz0, hzs1, hz2⟩ := info_parts Tryd.info47
  have hF0 := Blk.new w 29 #[.int .i64 0, .int .i64 0]
  have hB0 := (Below.refl w.heap.size w).alloc (Nat.le_refl _) (.cells #[.int .i64 0, .int .i64 0] 29)
  have HF0 := Lib.hid hF0
  have HB0 := Lib.hid hB0
  clear hF0 hB0
  go_enter Tryd.func9, Tryd.ntmps9
  go_wp2_with fail
  go_loopg [0, 4, 5] s.size (fun g s0 v i wr => ∃ (S : ByteArray) (L : List Ev) (n : Nat), s0 = .string S ∧ i = .int .i64 n ∧ S.size ≤ g ∧ S.size + n ≤ s.size ∧ wr.ownsRow (w.heap.size + 1) 47 4 v n (flatE L) ∧ Below w.heap.size w wr ∧ Blk wr w.heap.size 29 #[.int .i64 0, .int .i64 0] ∧ Hid (L.length = n) ∧ Hid (EvWf L) ∧ Hid (prs stepR s.size s.data.toList [] = prs stepR g S.data.toList L))
  case atStart => exact ⟨s, [], 0, rfl, rfl, Nat.le_refl _, by simp, World.ownsRow_nil _ _ 47 4, HB0.out, HF0.out, Lib.hid rfl, Lib.hid (fun e he => by simp at he), Lib.hid rfl⟩
  case round =>
    obtain ⟨S, L, n, rfl, rfl, hg, hsz, hown, hbel, hF, HN, HWF, hprs⟩ := hrel
    obtain ⟨A, c, rfl⟩ := own_form hown
    have f0 := hF.cell 0
    have f1 := hF.cell 1
    have ff0 := hF.frozen 0
    have ff1 := hF.frozen 1
    simp at f0 f1
    have HO := Lib.hid hown
    have HB := Lib.hid hbel
    have HF := Lib.hid hF
    have hwr := hbel.size
    clear hown hbel hF
    by_cases hS : S.data.toList = []
    · have hS1 : S.toList.isEmpty = true := by rw [ByteArray.toList_eq, hS]; rfl
      have HS := Lib.hid hS
      clear hS
      have hT := hprs.out
      rw [HS.out, prs_nil] at hT
      have HT := Lib.hid hT
      clear hT hprs
      go_wp2_with (go_at_call 16; refine (good_any _).mono ?_; rintro e w1 ⟨rfl, hb1⟩; have h1 := HF.out.below hb1 HF.out.lt; have f2 := h1.cell 0; have f3 := h1.cell 1; have ff2 := h1.frozen 0; have ff3 := h1.frozen 1; simp at f2 f3; have HB1 := Lib.hid hb1; clear h1 hb1)
      refine bodyPost_ret (v := .tuple #[.slice A n c, .agg #[.int .i64 0, .int .i64 (-1)]]) (by simp [results, Tryd.results9, go_sem, f2, f3]) rfl ?_
      rw [HT.out]
      obtain rfl := HN.out
      refine ⟨A, c, rfl, ?_, ?_⟩
      · exact Reads.of_own (own_set (own_set (own_below HO.out HB1.out) 0 _) 1 _)
      · exact ((HB.out.trans (HB1.out.mono hwr)).setCell (p := ⟨w.heap.size, 0, none⟩) (Nat.le_refl _) _).setCell (p := ⟨w.heap.size, 1, none⟩) (Nat.le_refl _) _
    · have hS1 : S.toList.isEmpty = false := by rw [ByteArray.toList_eq]; simpa using hS
      have HS := Lib.hid hS
      clear hS
      have hs2 : S.size ≤ 10000 := by omega
      rcases dec_at S.data.toList 10 with hno | ⟨l, r, hS2, hno⟩
      · have HNO := Lib.hid hno
        clear hno
        have hT := hprs.out
        rw [prs_fail HS.out (by simpa using hg) (stepR_no _ _ HNO.out)] at hT
        have HT := Lib.hid hT
        clear hT hprs
        go_wp2_with (go_at_call 22; refine (idx_no S _ HNO.out).mono ?_; rintro e w1 ⟨rfl, rfl⟩)
        refine bodyPost_ret (v := .tuple #[.slice none 0 0, .agg #[.int .i64 3, .int .i64 n]]) (by simp [results, Tryd.results9, go_sem, f0, f1]) rfl ?_
        rw [HT.out]
        refine ⟨none, 0, by rw [HN.out]; rfl, ⟨by simp [flatE], fun h => absurd h (by simp)⟩, ?_⟩
        exact (HB.out.setCell (p := ⟨w.heap.size, 0, none⟩) (Nat.le_refl _) _).setCell (p := ⟨w.heap.size, 1, none⟩) (Nat.le_refl _) _
      · have HS2 := Lib.hid hS2
        have HNO := Lib.hid hno
        have hsl : l.length + 1 + r.length = S.size := by
          have := congrArg List.length hS2
          simp at this
          omega
        have q1 : (l.length : Int) + 1 ≤ (S.size : Int) := by omega
        clear hno hS2
        have hX : ∃ X : ByteArray, X = S.extract 0 l.length ∧ X.data.toList = l := ⟨_, rfl, by rw [Lib.extract_from_zero, HS2.out]; simp⟩
        obtain ⟨X, hXe, hXl⟩ := hX
        have hXs : X.size ≤ 10000 := by
          have := congrArg List.length hXl
          simp at this
          omega
        have HXE := Lib.hid hXe
        have HXL := Lib.hid hXl
        clear hXe hXl
        by_cases h4 : (Lib.fieldsD l).length = 4
        · obtain ⟨a, b, c', d, hfd⟩ : ∃ a b c d, Lib.fieldsD l = [a, b, c, d] := by
            match hq : Lib.fieldsD l, h4 with
            | [a, b, c, d], _ => exact ⟨a, b, c, d, rfl⟩
          have hmem := fieldsD_len l
          rw [hfd] at hmem
          have sa : (strB a).size ≤ 10000 := by have := hmem a (by simp); show a.toArray.size ≤ _; simp; omega
          have sb : (strB b).size ≤ 10000 := by have := hmem b (by simp); show b.toArray.size ≤ _; simp; omega
          have sc : (strB c').size ≤ 10000 := by have := hmem c' (by simp); show c'.toArray.size ≤ _; simp; omega
          have sd : (strB d).size ≤ 10000 := by have := hmem d (by simp); show d.toArray.size ≤ _; simp; omega
          have HFD := Lib.hid (show Lib.fieldsD X.data.toList = [a, b, c', d] by rw [HXL.out]; exact hfd)
          have HFL := Lib.hid hfd
          clear hfd hmem h4
          go_upto_region 14 with (first
            | (go_at_call 22; refine (idx_at S _ l r HS2.out HNO.out).mono ?_; rintro e w1 ⟨rfl, rfl⟩)
            | (go_at_call 23
               rw [← HXE.out]
               refine (fields_four X _ (HW.out.below HB.out).out hXs a b c' d HFD.out).mono ?_
               rintro e w2 ⟨A2, rfl, hb2, hA2, g0, g1, g2, g3⟩
               have hbw2 := Lib.hid (HB.out.trans (hb2.mono hwr)))
            | (go_at_call 24
               with_reducible refine (atoi_any (strB a) _ (HW.out.below hbw2.out).out sa).mono ?_
               rintro e w3 ⟨ev1, rfl, hcmp1, hgd1, hb3⟩
               have hbw3 := Lib.hid (hbw2.out.trans (hb3.mono hbw2.out.size))
               have hA3 := Nat.lt_of_lt_of_le hA2 hb3.size
               have k1 := (hb3.cell (p := ⟨A2, 1, none⟩) hA2).trans g1
               have k2 := (hb3.cell (p := ⟨A2, 2, none⟩) hA2).trans g2
               have k3 := (hb3.cell (p := ⟨A2, 3, none⟩) hA2).trans g3
               clear g0 g1 g2 g3)
            | (go_at_call 24
               with_reducible refine (atoi_any (strB c') _ (HW.out.below hbw3.out).out sc).mono ?_
               rintro e w4 ⟨ev2, rfl, hcmp2, hgd2, hb4⟩
               have hbw4 := Lib.hid (hbw3.out.trans (hb4.mono hbw3.out.size))
               have hA4 := Nat.lt_of_lt_of_le hA3 hb4.size
               have j1 := (hb4.cell (p := ⟨A2, 1, none⟩) hA3).trans k1
               have j3 := (hb4.cell (p := ⟨A2, 3, none⟩) hA3).trans k3
               clear k1 k2 k3)
            | (go_at_call 24
               with_reducible refine (atoi_any (strB d) _ (HW.out.below hbw4.out).out sd).mono ?_
               rintro e w5 ⟨ev3, rfl, hcmp3, hgd3, hb5⟩
               have hbw5 := Lib.hid (hbw4.out.trans (hb5.mono hbw4.out.size))
               have hA5 := Nat.lt_of_lt_of_le hA4 hb5.size
               have i1 := (hb5.cell (p := ⟨A2, 1, none⟩) hA4).trans j1
               obtain ⟨m1, m2, m3, r1, r2, r3, hlook, hbm⟩ := lit3 w5
               have hmk := mk79 w5
               have hlk := hlook (strB b) (by simp only [maxLen]; omega)
               have l1 := (hbm.cell (p := ⟨A2, 1, none⟩) hA5).trans i1
               have HBM := Lib.hid (hbw5.out.trans (hbm.mono hbw5.out.size))
               have HCH := Lib.hid (chain (chain (chain (chain hb2 hb3) hb4) hb5) hbm)
               clear hlook hbm j1 j3 i1)
            | fail)
          have va : numV (strB a).data.toList = numV a := rfl
          have vc : numV (strB c').data.toList = numV c' := rfl
          have vd : numV (strB d).data.toList = numV d := rfl
          have vb : wtN (strB b).data.toList = wtN b := rfl
          simp only [va, vc, vd, vb]
          clear va vc vd vb hlk hmk r1 r2 r3 l1
          obtain ⟨xa, hxa⟩ : ∃ x, numV a = x := ⟨_, rfl⟩
          obtain ⟨xb, hxb⟩ : ∃ x, ((wtN b : Nat) : Int) = x := ⟨_, rfl⟩
          obtain ⟨xc, hxc⟩ : ∃ x, numV c' = x := ⟨_, rfl⟩
          obtain ⟨xd, hxd⟩ : ∃ x, numV d = x := ⟨_, rfl⟩
          simp only [hxa, hxb, hxc, hxd]
          have hev : evP a b c' d = ⟨xa, xb, xc, xd⟩ := by unfold evP; rw [hxa, hxb, hxc, hxd]
          have hwfe : B64 xa ∧ B64 xc ∧ B64 xd := ⟨hxa ▸ numV_B64 _, hxc ▸ numV_B64 _, hxd ▸ numV_B64 _⟩
          have HEV := Lib.hid hev
          have HWFE := Lib.hid hwfe
          clear hxa hxb hxc hxd hev hwfe
          have hE := Blk.new m3 47 #[.int .i64 xa, .int .i64 xb, .int .i64 xc, .int .i64 xd]
          have hCW := HCH.out.alloc HCH.out.size (.cells #[.int .i64 xa, .int .i64 xb, .int .i64 xc, .int .i64 xd] 47)
          have hBW := HBM.out.alloc HBM.out.size (.cells #[.int .i64 xa, .int .i64 xb, .int .i64 xc, .int .i64 xd] 47)
          obtain ⟨W, hWe⟩ : ∃ W, W = m3.alloc (.cells #[.int .i64 xa, .int .i64 xb, .int .i64 xc, .int .i64 xd] 47) := ⟨_, rfl⟩
          rw [← hWe] at hE hBW hCW ⊢
          clear hWe
          obtain ⟨e8, he8⟩ : ∃ e8, m3.heap.size = e8 := ⟨_, rfl⟩
          rw [he8] at hE ⊢
          clear he8
          have he8 := hE.lt
          have x0 := hE.cell 0
          have x1 := hE.cell 1
          have x2 := hE.cell 2
          have x3 := hE.cell 3
          simp at x0 x1 x2 x3
          have HE := Lib.hid hE
          have HBW := Lib.hid hBW
          have HRW := Lib.hid (show Reads W W.heap.size 4 A n (flatE L) from Reads.of_own (own_below HO.out hCW))
          have HFW := Lib.hid (show Blk W w.heap.size 29 #[.int .i64 0, .int .i64 0] from HF.out.below hCW HF.out.lt)
          have H1 := Lib.hid (show ∀ u ∈ ([.int .i64 xa, .int .i64 xb, .int .i64 xc, .int .i64 xd] : List Value), u.oneCell' = true by simp [Value.oneCell'])
          have b1 := Lib.hid (show 0 + n ≤ maxLen by simp only [maxLen]; omega)
          have b2 := Lib.hid (show (0 + n) * 32 ≤ 140737488355328 by omega)
          have b3 := Lib.hid (show n + 1 ≤ maxLen by simp only [maxLen]; omega)
          have b4 := Lib.hid (show (n + 1) * 32 ≤ 140737488355328 by omega)
          clear hE hBW hCW
          go_cut [15] (fun s15 wc => ∃ A9 c9, s15 = .slice A9 (n + 1) c9 ∧ wc.ownsRow W.heap.size 47 4 (.slice A9 (n + 1) c9) (n + 1) (flatE (L ++ [⟨xa, xb, xc, xd⟩])) ∧ Below W.heap.size W wc)
          case first =>
            go_region_held3 (fun w' => Below W.heap.size W w' ∧ ∀ b o, b < W.heap.size → w'.cell? ⟨b, o, none⟩ = W.cell? ⟨b, o, none⟩)
              (first
                | exact ks_below (ks_refl _) (Below.refl _ _).drew
                | with_reducible exact hS9
                | with_reducible exact hS8
                | with_reducible exact ks_alloc (by with_reducible assumption) _
                | exact ks_below (ks_alloc (ks_refl _) _) (Below.refl _ _).drew
                | fail)
              ((first
                | (refine step_append_any (w := (W.alloc (.cells #[.int .i64 xa, .int .i64 xb, .int .i64 xc, .int .i64 xd] 47)).drew) rfl (.const (.slice none 0 0)) (.tmp 66) 24 rfl W.heap.size 47 i0 _ 4 32 Tryd.underlying24 hi0 hz0 hzs1 hz2 rfl (by decide) (.slice none 0 0) 0 [] rfl (World.ownsRow_nil _ W.heap.size 47 4) W.heap.size A n c (flatE L) rfl (ks_reads (by with_reducible assumption) HRW.out) (flatE_one L) b1.out b2.out (ks_le (by with_reducible assumption)) ?_
                   intro v8 w8 hown8 hg8 hat8
                   have hS8 := ks_grown (by with_reducible assumption) (World.ownsRow_nil _ W.heap.size 47 4) hg8
                   rw [Nat.zero_add, List.nil_append] at hown8
                   obtain ⟨A8, c8, rfl⟩ := own_form hown8
                   have HO8 := Lib.hid hown8
                   have HN8 := Lib.hid (((reads_new W (.int .i64 xa) (.int .i64 xb) (.int .i64 xc) (.int .i64 xd)).drew.below ((below_none (w := (W.alloc (.cells #[.int .i64 xa, .int .i64 xb, .int .i64 xc, .int .i64 xd] 47)).drew) hg8).mono (show W.heap.size + 1 ≤ _ by simp))))
                   clear hown8 hg8 hat8)
                | (refine step_append_any _ rfl (.const (.slice none 0 0)) (.tmp 66) 24 rfl W.heap.size 47 i0 _ 4 32 Tryd.underlying24 hi0 hz0 hzs1 hz2 rfl (by decide) (.slice none 0 0) 0 [] rfl (World.ownsRow_nil _ W.heap.size 47 4) W.heap.size A n c (flatE L) rfl (ks_reads (by with_reducible assumption) HRW.out) (flatE_one L) b1.out b2.out (ks_le (by with_reducible assumption)) ?_
                   intro v8 w8 hown8 hg8 hat8
                   have hS8 := ks_grown (by with_reducible assumption) (World.ownsRow_nil _ W.heap.size 47 4) hg8
                   rw [Nat.zero_add, List.nil_append] at hown8
                   obtain ⟨A8, c8, rfl⟩ := own_form hown8
                   have HO8 := Lib.hid hown8
                   clear hown8 hg8 hat8)
                | (refine step_append_any _ rfl (.tmp 67) (.tmp 69) 24 rfl W.heap.size 47 i0 _ 4 32 Tryd.underlying24 hi0 hz0 hzs1 hz2 rfl (by decide) (.slice A8 n c8) n (flatE L) rfl HO8.out (W.heap.size + 1) (some ⟨W.heap.size, 0, none⟩) 1 1 [.int .i64 xa, .int .i64 xb, .int .i64 xc, .int .i64 xd] rfl HN8.out H1.out b3.out b4.out (ks_le (by with_reducible assumption)) ?_
                   intro v9 w9 hown9 hg9 hat9
                   have hS9 := ks_grown (by with_reducible assumption) HO8.out hg9
                   obtain ⟨A9, c9, rfl⟩ := own_form hown9
                   have HO9 := Lib.hid hown9
                   clear hown9 hg9 hat9)
                | (refine step_append_any _ rfl (.tmp 67) (.tmp 69) 24 rfl W.heap.size 47 i0 _ 4 32 Tryd.underlying24 hi0 hz0 hzs1 hz2 rfl (by decide) (.slice A8 n c8) n (flatE L) rfl (HO8.out.alloc _) (w8.heap.size + 1) (some ⟨w8.heap.size, 0, none⟩) 1 1 [.int .i64 xa, .int .i64 xb, .int .i64 xc, .int .i64 xd] rfl (reads_new w8 _ _ _ _) H1.out b3.out b4.out (ks_le (by with_reducible assumption)) ?_
                   intro v9 w9 hown9 hg9 hat9
                   have hS9 := ks_grown (by with_reducible assumption) (HO8.out.alloc _) hg9
                   obtain ⟨A9, c9, rfl⟩ := own_form hown9
                   have HO9 := Lib.hid hown9
                   clear hown9 hg9 hat9)
                | fail))
            all_goals
              go_wp2_with fail
              go_meet
              exact ⟨_, _, rfl, by rw [flatE_app]; exact HO9.out, And.left ‹Below W.heap.size W w9 ∧ ∀ b o, b < W.heap.size → w9.cell? ⟨b, o, none⟩ = W.cell? ⟨b, o, none⟩›⟩
          case rest =>
            obtain ⟨A9, c9, rfl, hown9, hbW⟩ := hcut
            have HO9 := Lib.hid hown9
            have HBC := Lib.hid (chain HBW.out (hbW.mono (Nat.le_refl _)))
            have HTC := Lib.hid (HW.out.below HBC.out).out.tab
            have hFc := HFW.out.below hbW HFW.out.lt
            have y0 := hFc.cell 0
            have y1 := hFc.cell 1
            have yf0 := hFc.frozen 0
            have yf1 := hFc.frozen 1
            simp at y0 y1
            have HFC := Lib.hid hFc
            have HBC2 := Lib.hid hbW
            obtain ⟨g9, cap9, hv9, hgb9, hgl9⟩ := hown9.form (by omega)
            injection hv9 with hv1 _ hv3
            subst hv1
            subst hv3
            have hcap9 := own_cap hown9
            clear hown9 hbW hFc x0 x1 x2 x3 he8
            have hwl : EvWf (lastL L ++ [⟨xa, xb, xc, xd⟩]) := by
              intro e he
              rcases List.mem_append.1 he with he | he
              · exact HWF.out e (List.mem_of_mem_drop he)
              · rw [List.mem_singleton.1 he]; exact HWFE.out
            have HWL := Lib.hid hwl
            clear hwl
            go_upto_region 15 with fail
            go_cut [16, 17] (fun s16 s17 wd => ∃ (T : ByteArray) (q : Int), s16 = .string T ∧ s17 = .int .i64 q ∧ Hid (q = if stB 0 (lastL L ++ [⟨xa, xb, xc, xd⟩]) = true then 0 else 1) ∧ Hid (T.data.toList = prR (lastL L ++ [⟨xa, xb, xc, xd⟩])) ∧ Below wc.heap.size wc wd)
            case first =>
              rcases Nat.eq_zero_or_pos n with h0 | h0
              · subst h0
                have hlast : lastL L = [] := by
                  have := HN.out
                  rw [List.eq_nil_of_length_eq_zero this]; rfl
                have hL0 : L = [] := List.eq_nil_of_length_eq_zero HN.out
                have HR9 := Lib.hid (show Reads wc wc.heap.size 4 (some ⟨g9, 0, none⟩) 1 (flatE (lastL L ++ [⟨xa, xb, xc, xd⟩])) by rw [hlast]; have := Reads.of_own HO9.out; rw [hL0] at this; exact this)
                have HLL := Lib.hid (show (lastL L ++ [(⟨xa, xb, xc, xd⟩ : Ev)]).length = 1 by rw [hlast]; rfl)
                have hw0 : IntKind.i64.wrap (-1) = -1 := by decide
                have hmax0 : max (0 : Int) (IntKind.i64.wrap (-1)) = 0 := by decide
                have hmax : max (0 : Int) (-1) = 0 := rfl
                clear hlast hL0
                go_wp2_with (go_at_call 25; refine (print_any (some ⟨g9, 0, none⟩) 1 c9 _ (lastL L ++ [⟨xa, xb, xc, xd⟩]) _ HLL.out (by omega) HR9.out (Nat.le_refl _) HTC.out HWL.out).mono ?_; rintro e wd ⟨T, q, rfl, hq, hTx, hbd⟩)
                go_meet
                exact ⟨T, q, rfl, rfl, hq, hTx, hbd⟩
              · obtain ⟨m, rfl⟩ : ∃ m, n = m + 1 := ⟨n - 1, by omega⟩
                have HR9 := Lib.hid (reads_last HO9.out HN.out)
                have hll := last_len HN.out
                have HLL := Lib.hid (show (lastL L ++ [(⟨xa, xb, xc, xd⟩ : Ev)]).length = 2 by rw [List.length_append, hll]; rfl)
                clear hll
                have hw1 : IntKind.i64.wrap (m : Int) = (m : Int) := IntWalk.i64_in _ (by omega)
                have hw2 : IntKind.i64.wrap ((m : Int) + 1 + 1 - 2) = (m : Int) := by rw [show (m : Int) + 1 + 1 - 2 = (m : Int) by omega]; exact hw1
                have hmax : max (0 : Int) (m : Int) = (m : Int) := by omega
                have q2 : (0 : Int) ≤ (m : Int) := by omega
                have q3 : (m : Int) ≤ (m : Int) + 1 + 1 := by omega
                have q4 : (m : Int) + 1 + 1 ≤ (c9 : Int) := by omega
                have q5 : ¬ c9 = m := by omega
                go_wp2_with (go_at_call 25; rw [show m + 1 + 1 - m = 2 by omega]; refine (print_any (some ⟨g9, m * 4, none⟩) 2 _ _ (lastL L ++ [⟨xa, xb, xc, xd⟩]) _ HLL.out (by omega) HR9.out (Nat.le_refl _) HTC.out HWL.out).mono ?_; rintro e wd ⟨T, q, rfl, hq, hTx, hbd⟩)
                go_meet
                exact ⟨T, q, rfl, rfl, hq, hTx, hbd⟩
            case rest =>
              obtain ⟨T, q, rfl, rfl, HQ, HTX, hbd⟩ := hcut
              have HBD := Lib.hid hbd
              have hFd := HFC.out.below hbd HFC.out.lt
              have z0 := hFd.cell 0
              have z1 := hFd.cell 1
              have zf0 := hFd.frozen 0
              have zf1 := hFd.frozen 1
              simp at z0 z1
              clear hbd hFd y0 y1 yf0 yf1
              go_upto_region 16 with fail
              have hTs : T.size ≤ 10000 := by
                have h1 : T.data.toList.length = T.size := Array.length_toList
                rw [HTX.out] at h1
                unfold prR at h1
                split at h1
                · have h2 := text_len _ HWL.out
                  have h3 : (lastL L ++ [(⟨xa, xb, xc, xd⟩ : Ev)]).length ≤ 2 := by
                    rw [List.length_append]; unfold lastL; rw [List.length_drop]; simp; omega
                  omega
                · simp at h1; omega
              have hX1 : (S.extract 0 (l.length + 1)).data.toList = l ++ [10] := by
                rw [Lib.extract_from_zero, HS2.out, show l ++ 10 :: r = (l ++ [10]) ++ r by simp, List.take_left' (by simp)]
              have hX1s : (S.extract 0 (l.length + 1)).size ≤ 10000 := by
                have h1 : (S.extract 0 (l.length + 1)).data.toList.length = (S.extract 0 (l.length + 1)).size := Array.length_toList
                rw [hX1] at h1; simp only [List.length_append, List.length_cons, List.length_nil] at h1; omega
              have HX1 := Lib.hid hX1
              have hX2 : ((⟨#[10]⟩ : ByteArray) ++ S.extract 0 (l.length + 1)).data.toList = [10] ++ (l ++ [10]) := by
                rw [ByteArray.data_append, Array.toList_append, hX1]
              have HX2 := Lib.hid hX2
              have hneq : (T.toList != (S.extract 0 (l.length + 1)).toList) = !decide (prR (lastL L ++ [⟨xa, xb, xc, xd⟩]) = l ++ [10]) := by
                rw [ByteArray.toList_eq, ByteArray.toList_eq, hX1, HTX.out, bne, Bool.beq_eq_decide_eq]
              have HNEQ := Lib.hid hneq
              clear hX1 hX2 hneq
              have q6 : (l.length : Int) + 1 ≤ (S.size : Int) := q1
              have gd1 := hgd1.out
              have gd2 := hgd2.out
              have gd3 := hgd3.out
              have hw9 : IntKind.i64.wrap ((l.length : Int) + 1) = (l.length : Int) + 1 := IntWalk.i64_in _ (by omega)
              go_cut [112] (fun s112 wx => s112 = .bool (!goodR a c' d l (lastL L ++ [⟨xa, xb, xc, xd⟩])) ∧ Below wc.heap.size wc wx)
              case first =>
                cases hA : numR a with
                | false =>
                  have HGD := Lib.hid (show goodR a c' d l (lastL L ++ [⟨xa, xb, xc, xd⟩]) = false by unfold goodR; rw [hA]; rfl)
                  have k1 := cmp_t hcmp1 hA
                  clear hA
                  go_wp2_with fail
                  go_meet
                  exact ⟨by rw [HGD.out]; rfl, Below.refl _ _⟩
                | true =>
                  have k1 := cmp_f hcmp1 hA
                  cases hC : numR c' with
                  | false =>
                    have HGD := Lib.hid (show goodR a c' d l (lastL L ++ [⟨xa, xb, xc, xd⟩]) = false by unfold goodR; rw [hA, hC]; rfl)
                    have k2 := cmp_t hcmp2 hC
                    clear hA hC
                    go_wp2_with fail
                    go_meet
                    exact ⟨by rw [HGD.out]; rfl, Below.refl _ _⟩
                  | true =>
                    have k2 := cmp_f hcmp2 hC
                    cases hD : numR d with
                    | false =>
                      have HGD := Lib.hid (show goodR a c' d l (lastL L ++ [⟨xa, xb, xc, xd⟩]) = false by unfold goodR; rw [hA, hC, hD]; rfl)
                      have k3 := cmp_t hcmp3 hD
                      clear hA hC hD
                      go_wp2_with fail
                      go_meet
                      exact ⟨by rw [HGD.out]; rfl, Below.refl _ _⟩
                    | true =>
                      have k3 := cmp_f hcmp3 hD
                      cases hB : stB 0 (lastL L ++ [⟨xa, xb, xc, xd⟩]) with
                      | false =>
                        have HGD := Lib.hid (show goodR a c' d l (lastL L ++ [⟨xa, xb, xc, xd⟩]) = false by unfold goodR; rw [hA, hC, hD, hB]; rfl)
                        have hq := HQ.out
                        rw [hB] at hq
                        simp at hq
                        subst hq
                        clear hA hC hD hB
                        go_wp2_with fail
                        go_meet
                        exact ⟨by rw [HGD.out]; rfl, Below.refl _ _⟩
                      | true =>
                        have hq := HQ.out
                        rw [hB] at hq
                        simp at hq
                        subst hq
                        cases hsf : Lib.hasSuffix (prR (lastL L ++ [⟨xa, xb, xc, xd⟩])) ([10] ++ (l ++ [10])) with
                        | true =>
                          have HGD := Lib.hid (show goodR a c' d l (lastL L ++ [⟨xa, xb, xc, xd⟩]) = true by unfold goodR; rw [hA, hC, hD, hB, hsf]; rfl)
                          have HSF := Lib.hid (suf_any T (⟨#[10]⟩ ++ S.extract 0 (l.length + 1)) true wc hTs (by rw [HTX.out, HX2.out]; exact hsf))
                          clear hA hC hD hB hsf
                          go_wp2_with (go_at_call 26; refine HSF.out.mono ?_; rintro e w6 ⟨rfl, rfl⟩)
                          go_meet
                          exact ⟨by rw [HGD.out]; rfl, Below.refl _ _⟩
                        | false =>
                          have HSF := Lib.hid (suf_any T (⟨#[10]⟩ ++ S.extract 0 (l.length + 1)) false wc hTs (by rw [HTX.out, HX2.out]; exact hsf))
                          have hg2 : goodR a c' d l (lastL L ++ [⟨xa, xb, xc, xd⟩]) = decide (prR (lastL L ++ [⟨xa, xb, xc, xd⟩]) = l ++ [10]) := by unfold goodR; rw [hA, hC, hD, hB, hsf]; rfl
                          have HGD := Lib.hid hg2
                          clear hA hC hD hB hsf hg2
                          go_wp2_with (go_at_call 26; refine HSF.out.mono ?_; rintro e w6 ⟨rfl, rfl⟩)
                          go_meet
                          exact ⟨congrArg Value.bool (HNEQ.out.trans (by rw [HGD.out])), Below.refl _ _⟩
              case rest =>
                obtain ⟨rfl, hbx⟩ := hcut
                have hBX := chain HBD.out hbx
                have hst := lineR_eq (L := L) HFL.out
                rw [HEV.out] at hst
                have hst2 : stepR S.data.toList L = (lineR L l).map fun e => (e, r) := by rw [HS2.out]; exact stepR_at l r L HNO.out
                rw [hst] at hst2
                obtain ⟨gd, hgd⟩ : ∃ gd, goodR a c' d l (lastL L ++ [⟨xa, xb, xc, xd⟩]) = gd := ⟨_, rfl⟩
                rw [hgd] at hst2
                simp only [hgd]
                have hFx := HFC.out.below hBX HFC.out.lt
                have v0 := hFx.cell 0
                have v1 := hFx.cell 1
                have vf0 := hFx.frozen 0
                have vf1 := hFx.frozen 1
                simp at v0 v1
                have HFX := Lib.hid hFx
                have HBX := Lib.hid hBX
                have HBY := Lib.hid (chain HBC.out (hBX.mono (Nat.le_refl _)))
                have HST := Lib.hid hst2
                clear hst hst2 hgd hFx hBX hbx z0 z1 zf0 zf1
                cases gd with
                | false =>
                  have hT := hprs.out
                  rw [prs_fail HS.out (by simpa using hg) (by rw [HST.out]; rfl)] at hT
                  have HT := Lib.hid hT
                  clear hT hprs
                  go_wp2_with fail
                  refine bodyPost_ret (v := .tuple #[.slice none 0 0, .agg #[.int .i64 3, .int .i64 n]]) (by simp [results, Tryd.results9, go_sem, v0, v1]) rfl ?_
                  rw [HT.out]
                  refine ⟨none, 0, by rw [HN.out]; rfl, ⟨by simp [flatE], fun h => absurd h (by simp)⟩, ?_⟩
                  exact (HBY.out.setCell (p := ⟨w.heap.size, 0, none⟩) (Nat.le_refl _) _).setCell (p := ⟨w.heap.size, 1, none⟩) (Nat.le_refl _) _
                | true =>
                  obtain ⟨f, hf, hnx⟩ := prs_next (step := stepR) (r := r) (e := ⟨xa, xb, xc, xd⟩) HS.out (by simpa using hg) (by rw [HST.out]; rfl)
                  have hnx2 := hprs.out.trans hnx
                  have HNX := Lib.hid hnx2
                  have HFU := Lib.hid hf
                  have hrs : (S.extract (l.length + 1) S.size).data.toList = r := by
                    rw [Lib.extract_to_end, HS2.out, show l ++ 10 :: r = (l ++ [10]) ++ r by simp, List.drop_left' (by simp)]
                  have hrz : (S.extract (l.length + 1) S.size).size = r.length := by
                    have h1 : (S.extract (l.length + 1) S.size).data.toList.length = (S.extract (l.length + 1) S.size).size := Array.length_toList
                    rw [hrs] at h1; exact h1.symm
                  have HRS := Lib.hid hrs
                  have HRZ := Lib.hid hrz
                  have hwn : IntKind.i64.wrap ((n : Int) + 1) = (n : Int) + 1 := IntWalk.i64_in _ (by omega)
                  clear hf hnx hprs hnx2 hrs hrz
                  go_wp2_with fail
                  go_quiet (fail)
                  go_wp2_with fail
                  go_roundg f
                  case rel =>
                    have h1 := HRZ.out
                    have h2 := HFU.out
                    refine ⟨S.extract (l.length + 1) S.size, L ++ [⟨xa, xb, xc, xd⟩], n + 1, rfl, by go_num, by omega, by omega, ?_, ?_, ?_, Lib.hid (by rw [List.length_append, HN.out]; rfl), Lib.hid ?_, Lib.hid (by rw [HRS.out]; exact HNX.out)⟩
                    · exact own_base (own_below (own_below HO9.out HBX.out) ⟨rfl, rfl, rfl, Nat.le_refl _, fun _ _ => rfl⟩) HFW.out.lt
                    · exact HBY.out.trans ⟨rfl, rfl, rfl, Nat.le_refl _, fun _ _ => rfl⟩
                    · exact HFX.out.drewN _
                    · intro e he
                      rcases List.mem_append.1 he with he | he
                      · exact HWF.out e he
                      · rw [List.mem_singleton.1 he]; exact HWFE.out
                  case measure => have h2 := HFU.out; omega
        · have h4b := h4
          have HM := Lib.hid (show (Lib.fieldsD X.data.toList).length ≠ 4 by rw [HXL.out]; exact h4b)
          have hst2 : stepR S.data.toList L = none := by
            rw [HS2.out, stepR_at l r L HNO.out]
            unfold lineR
            split
            · rename_i hq
              rw [hq] at h4b
              simp at h4b
            · rfl
          have hT := hprs.out
          rw [prs_fail HS.out (by simpa using hg) hst2] at hT
          have HT := Lib.hid hT
          clear hT hprs h4 h4b hst2
          go_wp2_with (first
            | (go_at_call 22; refine (idx_at S _ l r HS2.out HNO.out).mono ?_; rintro e w1 ⟨rfl, rfl⟩)
            | (go_at_call 23
               rw [← HXE.out]
               refine (fields_not X _ (HW.out.below HB.out).out hXs HM.out).mono ?_
               rintro e w2 ⟨A2, m, rfl, hm4, hb2⟩
               have hm4' : ¬ (m : Int) = 4 := by omega
               have hm5 : ((m : Int) != 4) = true := by simpa using hm4'
               have h1 := HF.out.below hb2 HF.out.lt
               have v0 := h1.cell 0
               have v1 := h1.cell 1
               have vf0 := h1.frozen 0
               have vf1 := h1.frozen 1
               simp at v0 v1
               have HB2 := Lib.hid (chain (Below.refl _ _) hb2)
               clear h1)
            | fail)
          refine bodyPost_ret (v := .tuple #[.slice none 0 0, .agg #[.int .i64 3, .int .i64 n]]) (by simp [results, Tryd.results9, go_sem, v0, v1]) rfl ?_
          rw [HT.out]
          refine ⟨none, 0, by rw [HN.out]; rfl, ⟨by simp [flatE], fun h => absurd h (by simp)⟩, ?_⟩
          exact ((HB.out.trans (HB2.out.mono hwr)).setCell (p := ⟨w.heap.size, 0, none⟩) (Nat.le_refl _) _).setCell (p := ⟨w.heap.size, 1, none⟩) (Nat.le_refl _) _
end Go.Proofs.YthnbbgmajdjgeaaDoor
