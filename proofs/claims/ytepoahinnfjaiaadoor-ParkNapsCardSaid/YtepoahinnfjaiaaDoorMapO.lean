/-
  A map of this call's own from int to an integer kind is told here by one function: what each key holds, if anything; and a range over it. Conditions: as each states.
-/
import Derived.Test.YtepoahinnfjaiaaDoorMapI
import Derived.Maps.RangeWalk
namespace Go.Proofs.YtepoahinnfjaiaaDoor
open Go.RowKit
def OfO (q : IntKind) (D : DataW Unit) (F : Int → Option Int) : Prop :=
  Maps.IsMap D ∧ ∀ t, wfI t → Maps.has D (.int .i64 t) = (F t).isSome ∧ D.atKey (.int .i64 t) (.lit (.int q 0)) = .lit (.int q ((F t).getD 0))
/-- Block b is a map of at most n entries, F t at key t. -/
def MapO (e : TypeId) (q : IntKind) (w : World) (b n : Nat) (F : Int → Option Int) : Prop :=
  ∃ D : DataW Unit, w.ownsMap Tryd.prog 3 (plainElem Tryd.prog e) b n D ∧ OfO q D F
/-- .. under a range: L says which keys are still to come. -/
def RangeO (e : TypeId) (q : IntKind) (w : World) (b r n : Nat) (F : Int → Option Int) (L : Int → Bool) (cnt : Nat) : Prop :=
  ∃ (D : DataW Unit) (left : Lit → Bool), w.ranges Tryd.prog 3 (plainElem Tryd.prog e) b r n D left cnt ∧ OfO q D F ∧ ∀ t, wfI t → left (.int .i64 t) = L t
theorem OfO.put {q : IntKind} {D : DataW Unit} {F : Int → Option Int} (h : OfO q D F) (t v : Int) : OfO q (D.put (.int .i64 t) (.lit (.int q v))) (fun x => if x = t then some v else F x) := by
  refine ⟨h.1.put _ _, fun x hx => ?_⟩
  by_cases hxt : x = t
  · subst hxt
    rw [Maps.has_put_same h.1 (by simp [WideAt.IsKeyLit]), Maps.atKey_put_same h.1 (by simp [WideAt.IsKeyLit])]; simp
  · rw [Maps.has_put_other (by intro h; injection h with _ h; exact hxt h), Maps.atKey_put_other (by intro h; injection h with _ h; exact hxt h)]
    simp only [if_neg hxt]
    exact h.2 x hx
theorem OfO.del {q : IntKind} {D : DataW Unit} {F : Int → Option Int} (h : OfO q D F) (t : Int) : OfO q (D.del (.int .i64 t)) (fun x => if x = t then none else F x) := by
  refine ⟨h.1.del _, fun x hx => ?_⟩
  by_cases hxt : x = t
  · subst hxt
    rw [Maps.has_del_same, Maps.atKey_del_same]; simp
  · rw [Maps.has_del_other (by intro h; injection h with _ h; exact hxt h), Maps.atKey_del_other (by intro h; injection h with _ h; exact hxt h)]
    simp only [if_neg hxt]
    exact h.2 x hx
section
variable {e : TypeId} {q : IntKind} {w : World} {b n : Nat} {F : Int → Option Int}
theorem MapO.made (w : World) : MapO e q (w.alloc (.map #[] 0)) w.heap.size 0 (fun _ => none) :=
  ⟨.map [], World.ownsMap_made _ _ _ _, Maps.isMap_empty, fun _ _ => ⟨rfl, rfl⟩⟩
theorem MapO.lt (h : MapO e q w b n F) : b < w.heap.size := by
  obtain ⟨D, h1, _⟩ := h; exact h1.lt
theorem MapO.mono (h : MapO e q w b n F) {n' : Nat} (hn : n ≤ n') : MapO e q w b n' F := by
  obtain ⟨D, h1, h2⟩ := h; exact ⟨D, h1.mono hn, h2⟩
theorem MapO.congr (h : MapO e q w b n F) {F' : Int → Option Int} (hF : ∀ t, F t = F' t) : MapO e q w b n F' := by
  obtain rfl : F = F' := funext hF
  exact h
theorem MapO.ofBlock (h : MapO e q w b n F) {w' : World} (hb : w'.heap[b]? = w.heap[b]?) : MapO e q w' b n F := by
  obtain ⟨D, ⟨es, clock, h1, F, hs, hD⟩, h2⟩ := h
  exact ⟨D, ⟨es, clock, hb.trans h1, F, hs, hD⟩, h2⟩
theorem MapO.alloc (h : MapO e q w b n F) (o : Obj) : MapO e q (w.alloc o) b n F := by
  obtain ⟨D, h1, h2⟩ := h; exact ⟨D, h1.alloc o, h2⟩
theorem MapO.drew (h : MapO e q w b n F) : MapO e q w.drew b n F := h
theorem MapO.below {B : Nat} (h : MapO e q w b n F) {w' : World} (hb : Below B w w') (hB : b < B) : MapO e q w' b n F := h.ofBlock (hb.block b hB)
theorem MapO.grown (h : MapO e q w b n F) {w' : World} {row : Option Nat} (hg : w.grownBy w' row) (hne : some b ≠ row) : MapO e q w' b n F := h.ofBlock (hg.block b h.lt hne)
theorem MapO.setCell (h : MapO e q w b n F) {a : Addr} (ha : b ≠ a.block) (u : Value) : MapO e q (w.setCell a u) b n F := h.ofBlock (Below.heap_setCell w a u b ha)
set_option maxRecDepth 100000 in
theorem MapO.look (h : MapO e q w b n F) {T : TypeId} (ht : Tryd.prog.underlying T = some (.map 3 e)) (he : Tryd.prog.underlying e = some (.int q)) (hz : (zeroValue e).run Tryd.prog w = .ok (.int q 0) w)
    (t : Int) (hw : wfI t) : (Instr.lookup T (.map (some b)) (.int .i64 t) false).run Tryd.prog w = .ok (.int q ((F t).getD 0)) w := by
  obtain ⟨D, h1, h2, h3⟩ := h
  obtain ⟨c, hrun, hat, _⟩ := h1.lookup_int (Maps.int_keyed Tryd.underlying3) ht he hz (Maps.keyOf_int_mk Tryd.underlying3 hw)
  rw [(h3 t hw).2] at hat
  injection hat with hat
  injection hat with _ hat
  rw [hrun, hat]
set_option maxRecDepth 100000 in
theorem MapO.lookOk (h : MapO e q w b n F) {T : TypeId} (ht : Tryd.prog.underlying T = some (.map 3 e)) (he : Tryd.prog.underlying e = some (.int q)) (hz : (zeroValue e).run Tryd.prog w = .ok (.int q 0) w) (hq : (Lit.int q 0).wf = true)
    (t : Int) (hw : wfI t) : (Instr.lookup T (.map (some b)) (.int .i64 t) true).run Tryd.prog w = .ok (.tuple #[.int q ((F t).getD 0), .bool (F t).isSome]) w := by
  obtain ⟨D, h1, h2, h3⟩ := h
  obtain ⟨v, ps, hrun, hv⟩ := h1.look_ok (Maps.int_keyed Tryd.underlying3) ht hz (plainElem_int he hq) (Maps.keyOf_int_mk Tryd.underlying3 hw)
  obtain ⟨c, rfl, hc, _⟩ := plainElem_int_inv he hv
  have hc' := congrArg Prod.fst hc
  simp only [(h3 t hw).2] at hc'
  injection hc' with hc'
  injection hc' with _ hc'
  rw [hrun, ← hc', (h3 t hw).1]
set_option maxRecDepth 100000 in
theorem MapO.store (h : MapO e q w b n F) {T : TypeId} (ht : Tryd.prog.underlying T = some (.map 3 e)) (he : Tryd.prog.underlying e = some (.int q)) (hn : n < maxLen)
    (t v : Int) (hw : wfI t) (hv : (Lit.int q v).wf = true) : ∃ w', (Instr.mapUpdate T (.map (some b)) (.int .i64 t) (.int q v)).run Tryd.prog w = .ok () w' ∧ MapO e q w' b (n + 1) (fun x => if x = t then some v else F x) ∧ w.grownBy w' (some b) ∧ w'.heap.size = w.heap.size := by
  obtain ⟨D, h1, h2⟩ := h
  obtain ⟨w', hrun, hown, hg⟩ := h1.store (Maps.int_keyed Tryd.underlying3) ht hn (Maps.keyOf_int_mk Tryd.underlying3 hw) (plainElem_int he hv)
  refine ⟨w', hrun, ⟨_, hown, h2.put t v⟩, hg.grown, ?_⟩
  obtain ⟨es, clock, es', clock', hb, rfl⟩ := hg
  simp [Go.ChangeMaps.setBlock]
set_option maxRecDepth 100000 in
theorem MapO.delete (h : MapO e q w b n F) {T : TypeId} (ht : Tryd.prog.underlying T = some (.map 3 e)) (ty : TypeId)
    (t : Int) (hw : wfI t) : ∃ w', (Builtin.delete_ #[T, 3] ty #[.map (some b), .int .i64 t]).run Tryd.prog w = .ok (.tuple #[]) w' ∧ MapO e q w' b n (fun x => if x = t then none else F x) ∧ w.grownBy w' (some b) ∧ w'.heap.size = w.heap.size := by
  obtain ⟨D, h1, h2⟩ := h
  obtain ⟨w', hrun, hown, hg⟩ := h1.drop (Maps.int_keyed Tryd.underlying3) ht (Maps.keyOf_int_mk Tryd.underlying3 hw) ty
  refine ⟨w', hrun, ⟨_, hown, h2.del t⟩, hg.grown, ?_⟩
  obtain ⟨es, clock, es', clock', hb, rfl⟩ := hg
  simp [Go.ChangeMaps.setBlock]
set_option maxRecDepth 100000 in
theorem MapO.range (h : MapO e q w b n F) {T : TypeId} (ht : Tryd.prog.underlying T = some (.map 3 e)) :
    ∃ w' cnt, (Instr.range T (.map (some b))).run Tryd.prog w = .ok (.pointer (some ⟨w.heap.size, 0, none⟩)) w' ∧ RangeO e q w' b w.heap.size n F (fun t => (F t).isSome) cnt ∧ w.grownBy w' none ∧ w'.heap.size = w.heap.size + 1 := by
  obtain ⟨D, h1, h2⟩ := h
  obtain ⟨w', hrun, hr, hg, hs⟩ := h1.range (Maps.int_keyed Tryd.underlying3) ht
  exact ⟨w', _, hrun, ⟨D, _, hr, h2, fun t ht => (h2.2 t ht).1⟩, hg, hs⟩
variable {r cnt : Nat} {L : Int → Bool}
theorem RangeO.owns (h : RangeO e q w b r n F L cnt) : MapO e q w b n F := by
  obtain ⟨D, left, h1, h2, _⟩ := h; exact ⟨D, h1.owns, h2⟩
theorem RangeO.left_eq (h : RangeO e q w b r n F L cnt) : w.rangeLeft b r = cnt := by
  obtain ⟨D, left, h1, _⟩ := h; exact h1.left_eq
theorem RangeO.lt (h : RangeO e q w b r n F L cnt) : r < w.heap.size := by
  obtain ⟨D, left, h1, _⟩ := h; exact h1.lt
theorem RangeO.kept {w' : World} {row : Option Nat} (h : RangeO e q w b r n F L cnt) (hg : w.grownBy w' row) (hb' : some b ≠ row) (hr' : some r ≠ row) : RangeO e q w' b r n F L cnt := by
  obtain ⟨D, left, h1, h2, h3⟩ := h; exact ⟨D, left, h1.kept hg hb' hr', h2, h3⟩
theorem RangeO.alloc (h : RangeO e q w b r n F L cnt) (o : Obj) : RangeO e q (w.alloc o) b r n F L cnt := h.kept (World.grownBy_alloc w o none) (by simp) (by simp)
set_option maxRecDepth 100000 in
theorem wpList_next_O {ops : Array Oper} {rest : List Oper} {o : Oper} {a : Act} {Q : Exit → Act → World → Prop} (hg : o.guard = none) (it : Operand) (hop : o.op = Op.next it false) (he : Tryd.prog.underlying e = some (.int q))
    (b r n : Nat) (F : Int → Option Int) (L : Int → Bool) (cnt : Nat) (hit : a.eval it = .pointer (some ⟨r, 0, none⟩)) (h : RangeO e q w b r n F L cnt)
    (hDone : (∀ t, wfI t → L t = false) → wpList Tryd.prog ops Q rest (a.put o.dst (.tuple #[.bool false])) w)
    (hMore : ∀ (x c : Int) (w' : World) (cnt' : Nat), wfI x → (Lit.int q c).wf = true → L x = true → F x = some c → RangeO e q w' b r n F (fun t => L t && !decide (t = x)) cnt' → cnt' < cnt →
      w.grownBy w' (some r) → w'.heap.size = w.heap.size → (Instr.entry (.pointer (some ⟨r, 0, none⟩))).run Tryd.prog w' = .ok (.tuple #[.int .i64 x, .int q c]) w' → wpList Tryd.prog ops Q rest (a.put o.dst (.tuple #[.bool true, .int .i64 x, .int q c])) w') :
    wpList Tryd.prog ops Q (o :: rest) a w := by
  obtain ⟨D, left, h1, h2, h3⟩ := h
  refine wpList_next_ranges_ii w hg it hop 3 e .i64 q (Maps.int_keyed Tryd.underlying3) Tryd.underlying3 he b r n D left cnt hit h1 (fun _ hl => hDone fun t ht => by rw [← h3 t ht]; exact hl _) ?_
  intro x c w' cnt' hwx hwc hlx hat hrg hlt hgr hsz hen
  have hh := h2.2 x hwx
  have hF : F x = some c := by
    have e1 := hat (.lit (.int q 0))
    rw [hh.2] at e1
    injection e1 with e1
    injection e1 with _ e1
    have e2 : Maps.has D (.int .i64 x) = true := Maps.has_true_of_atKey hat
    rw [hh.1] at e2
    obtain ⟨y, hy⟩ := Option.isSome_iff_exists.1 e2
    rw [hy] at e1 ⊢
    simp at e1
    rw [e1]
  refine hMore x c w' cnt' hwx hwc (by rw [← h3 x hwx]; exact hlx) hF ⟨D, _, hrg, h2, fun t ht => ?_⟩ hlt hgr hsz hen
  have hk : (Lit.int .i64 t).sameKey (.int .i64 x) = decide (t = x) := by
    by_cases htx : t = x
    · subst htx
      rw [WideAt.sameKey_self (by simp [WideAt.IsKeyLit])]; simp
    · rw [Maps.sameKey_ne (by intro h; injection h with _ h; exact htx h)]; simp [htx]
  rw [h3 t ht, hk]
end
end Go.Proofs.YtepoahinnfjaiaaDoor
