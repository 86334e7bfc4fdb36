/-
  ParkNaps: how both lots lie in memory, and what leaves them as they are. Conditions: as each states.
-/
import Derived.Test.YtepoahinnfjaiaaDoorPnM
import Derived.Test.YtepoahinnfjaiaaDoorMapO
import Derived.Test.YtepoahinnfjaiaaDoorMtT
import Derived.Test.YtepoahinnfjaiaaDoorFaiW
import Derived.WideKeyEntry
namespace Go.Proofs.YtepoahinnfjaiaaDoor
open Go.RowKit
/-- Nothing has turned but maps, and the reference's lot. -/
def FrR (w w' : World) : Prop := w.heap.size ≤ w'.heap.size ∧ ∀ (g : Nat) cs t fr, w.heap[g]? = some (.cells cs t fr) → t ≠ 159 → w'.heap[g]? = w.heap[g]?
/-- Nothing has turned but the program's lot. -/
def FrP (w w' : World) : Prop := w.heap.size ≤ w'.heap.size ∧ ∀ (g : Nat) (o : Obj), w.heap[g]? = some o → (∀ cs t fr, o = .cells cs t fr → t ≠ 157 ∧ t ≠ 161) → w'.heap[g]? = w.heap[g]?
theorem heap_lt {w : World} {g : Nat} {o : Obj} (h : w.heap[g]? = some o) : g < w.heap.size := by
  rcases Nat.lt_or_ge g w.heap.size with h' | h'
  · exact h'
  · rw [Array.getElem?_eq_none h'] at h; cases h
theorem FrR.refl (w : World) : FrR w w := ⟨Nat.le_refl _, fun _ _ _ _ _ _ => rfl⟩
theorem FrP.refl (w : World) : FrP w w := ⟨Nat.le_refl _, fun _ _ _ _ => rfl⟩
theorem FrR.trans {a b c : World} (h : FrR a b) (k : FrR b c) : FrR a c :=
  ⟨Nat.le_trans h.1 k.1, fun g cs t fr hg ht => (k.2 g cs t fr ((h.2 g cs t fr hg ht).trans hg) ht).trans (h.2 g cs t fr hg ht)⟩
theorem FrP.trans {a b c : World} (h : FrP a b) (k : FrP b c) : FrP a c :=
  ⟨Nat.le_trans h.1 k.1, fun g o hg ht => (k.2 g o ((h.2 g o hg ht).trans hg) ht).trans (h.2 g o hg ht)⟩
theorem FrR.of {w w' : World} (h : Below w.heap.size w w') : FrR w w' := ⟨h.size, fun g _ _ _ hg _ => h.block g (heap_lt hg)⟩
theorem FrP.of {w w' : World} (h : Below w.heap.size w w') : FrP w w' := ⟨h.size, fun g _ hg _ => h.block g (heap_lt hg)⟩
theorem FrR.map {w w' : World} {b : Nat} (hg : w.grownBy w' (some b)) (hb : ∀ cs t fr, w.heap[b]? ≠ some (.cells cs t fr)) : FrR w w' :=
  ⟨hg.size, fun g cs t fr h _ => hg.block g (heap_lt h) (fun e => by cases e; exact hb _ _ _ h)⟩
theorem FrR.cell {w : World} {g : Nat} {cs : Array Value} (h : Blk w g 159 cs) (i : Nat) (v : Value) : FrR w (w.setCell ⟨g, i, none⟩ v) :=
  ⟨by simp, fun g' cs' t fr hg ht => Below.heap_setCell w _ _ g' (by intro e; simp only at e; subst e; rw [h] at hg; cases hg; exact ht rfl)⟩
theorem FrP.cell {w : World} {g : Nat} {t : TypeId} {cs : Array Value} (h : Blk w g t cs) (ht : t = 157 ∨ t = 161) (i : Nat) (v : Value) : FrP w (w.setCell ⟨g, i, none⟩ v) :=
  ⟨by simp, fun g' o hg ho => Below.heap_setCell w _ _ g' (by
    intro e; simp only at e; subst e
    rw [h] at hg; cases hg
    have := ho _ _ _ rfl
    rcases ht with rfl | rfl
    · exact this.1 rfl
    · exact this.2 rfl)⟩
theorem FrR.blk {w w' : World} {g : Nat} {t : TypeId} {cs : Array Value} (h : FrR w w') (hb : Blk w g t cs) (ht : t ≠ 159) : Blk w' g t cs := (h.2 g cs t (0, 0) hb ht).trans hb
theorem FrP.blk {w w' : World} {g : Nat} {t : TypeId} {cs : Array Value} (h : FrP w w') (hb : Blk w g t cs) (h1 : t ≠ 157) (h2 : t ≠ 161) : Blk w' g t cs :=
  (h.2 g _ hb (fun _ _ _ e => by cases e; exact ⟨h1, h2⟩)).trans hb
theorem FrR.own {w w' : World} {base n : Nat} {e : TypeId} {size : Nat} {v : Value} {xs : List Value} (h : FrR w w') (ho : w.ownsRow base e size v n xs) (he : e ≠ 159) : w'.ownsRow base e size v n xs := by
  refine ⟨ho.1, ?_⟩
  rcases ho.2 with h2 | ⟨g, cap, cur, rfl, h0, h2, r⟩
  · exact .inl h2
  · exact .inr ⟨g, cap, cur, rfl, h0, h.blk h2 he, r⟩
theorem FrP.own {w w' : World} {base n : Nat} {e : TypeId} {size : Nat} {v : Value} {xs : List Value} (h : FrP w w') (ho : w.ownsRow base e size v n xs) (h1 : e ≠ 157) (h3 : e ≠ 161) : w'.ownsRow base e size v n xs := by
  refine ⟨ho.1, ?_⟩
  rcases ho.2 with h2 | ⟨g, cap, cur, rfl, h0, h2, r⟩
  · exact .inl h2
  · exact .inr ⟨g, cap, cur, rfl, h0, h.blk h2 h1 h3, r⟩
theorem MapO.heap {e : TypeId} {q : IntKind} {w : World} {b n : Nat} {F : Int → Option Int} (h : MapO e q w b n F) : ∃ es clock, w.heap[b]? = some (.map es clock) := by
  obtain ⟨D, ⟨es, clock, h1, _⟩, _⟩ := h
  exact ⟨es, clock, h1⟩
theorem MapO.notCells {e : TypeId} {q : IntKind} {w : World} {b n : Nat} {F : Int → Option Int} (h : MapO e q w b n F) : ∀ cs t fr, w.heap[b]? ≠ some (.cells cs t fr) := by
  obtain ⟨es, clock, h1⟩ := h.heap
  intro cs t fr h2
  rw [h1] at h2; cases h2
theorem FrP.map {e : TypeId} {q : IntKind} {w w' : World} {b n : Nat} {F : Int → Option Int} (h : FrP w w') (hm : MapO e q w b n F) : MapO e q w' b n F := by
  obtain ⟨es, clock, h1⟩ := hm.heap
  exact hm.ofBlock (h.2 b _ h1 (fun _ _ _ e => by cases e))
/-- How one who sleeps lies in the program's memory. -/
def slc (e : Sl) : List Value := [.int .i64 e.th, .int .i64 e.ce]
theorem slc_len (e : Sl) : (slc e).length = 2 := rfl
def flatS (L : List Sl) : List Value := L.flatMap slc
/-- The program's lot at p. -/
structure LotP (base : Nat) (w : World) (p n : Nat) (v : Value) (L : List Sl) : Prop where
  blk : Blk w p 157 #[.int .i64 n, v]
  own : w.ownsRow base 161 2 v L.length (flatS L)
  lo : base ≤ p
/-- The reference's lot at r: its maps at a and b. -/
structure LotR (base : Nat) (w : World) (r a b n : Nat) (s : Lt) : Prop where
  blk : Blk w r 159 #[.int .i64 n, .int .i64 s.clk, .map (some a), .map (some b)]
  since : MapO 3 .i64 w a s.clk (sinceF s.L)
  wher : ∃ F, MapO 3 .i64 w b s.clk F ∧ ∀ e ∈ s.L, F e.th = some e.ce
  ab : a ≠ b
  lo : base ≤ r ∧ base ≤ a ∧ base ≤ b
theorem LotP.below {base : Nat} {w w' : World} {p n : Nat} {v : Value} {L : List Sl} (h : LotP base w p n v L) (hb : Below w.heap.size w w') : LotP base w' p n v L :=
  ⟨h.blk.below hb h.blk.lt, own_belowM h.own hb (fun g hg => (h.own.lt g hg).2), h.lo⟩
theorem LotP.frR {base : Nat} {w w' : World} {p n : Nat} {v : Value} {L : List Sl} (h : LotP base w p n v L) (hb : FrR w w') : LotP base w' p n v L :=
  ⟨hb.blk h.blk (by decide), hb.own h.own (by decide), h.lo⟩
theorem LotR.lts {base : Nat} {w : World} {r a b n : Nat} {s : Lt} (h : LotR base w r a b n s) : r < w.heap.size ∧ a < w.heap.size ∧ b < w.heap.size := by
  obtain ⟨F, hF, _⟩ := h.wher
  exact ⟨h.blk.lt, h.since.lt, hF.lt⟩
theorem LotR.below {base : Nat} {w w' : World} {r a b n : Nat} {s : Lt} (h : LotR base w r a b n s) {B : Nat} (hb : Below B w w') (hB : r < B ∧ a < B ∧ b < B) : LotR base w' r a b n s := by
  obtain ⟨F, hF, hok⟩ := h.wher
  exact ⟨h.blk.below hb hB.1, h.since.below hb hB.2.1, ⟨F, hF.below hb hB.2.2, hok⟩, h.ab, h.lo⟩
theorem LotR.frP {base : Nat} {w w' : World} {r a b n : Nat} {s : Lt} (h : LotR base w r a b n s) (hb : FrP w w') : LotR base w' r a b n s := by
  obtain ⟨F, hF, hok⟩ := h.wher
  exact ⟨hb.blk h.blk (by decide) (by decide), hb.map h.since, ⟨F, hb.map hF, hok⟩, h.ab, h.lo⟩
theorem LotR.ne {base : Nat} {w : World} {r a b n : Nat} {s : Lt} (h : LotR base w r a b n s) : r ≠ a ∧ r ≠ b := by
  obtain ⟨F, hF, _⟩ := h.wher
  exact ⟨fun e => h.since.notCells _ _ _ (e ▸ h.blk), fun e => hF.notCells _ _ _ (e ▸ h.blk)⟩
theorem LotR.c0 {base : Nat} {w : World} {r a b n : Nat} {s : Lt} (h : LotR base w r a b n s) : w.cell? ⟨r, 0, none⟩ = some (.int .i64 n) := h.blk.cell 0
theorem LotR.c1 {base : Nat} {w : World} {r a b n : Nat} {s : Lt} (h : LotR base w r a b n s) : w.cell? ⟨r, 1, none⟩ = some (.int .i64 s.clk) := h.blk.cell 1
theorem LotR.c2 {base : Nat} {w : World} {r a b n : Nat} {s : Lt} (h : LotR base w r a b n s) : w.cell? ⟨r, 2, none⟩ = some (.map (some a)) := h.blk.cell 2
theorem LotR.c3 {base : Nat} {w : World} {r a b n : Nat} {s : Lt} (h : LotR base w r a b n s) : w.cell? ⟨r, 3, none⟩ = some (.map (some b)) := h.blk.cell 3
/-- What p.Since says of a thread. -/
def sinV (L : List Sl) (t : Int) : Int := (sinceF L t).getD 0
theorem LotR.look1 {base : Nat} {w : World} {r a b n : Nat} {s : Lt} (h : LotR base w r a b n s) (t : Int) (ht : wfI t) : (Instr.lookup 141 (.map (some a)) (.int .i64 t) false).run Tryd.prog w = .ok (.int .i64 (sinV s.L t)) w :=
  h.since.look Tryd.underlying141 Tryd.underlying3 (Tryd.zeroValue3 _) t ht
theorem LotR.look2 {base : Nat} {w : World} {r a b n : Nat} {s : Lt} (h : LotR base w r a b n s) {e : Sl} (he : e ∈ s.L) (ht : wfI e.th) : (Instr.lookup 141 (.map (some b)) (.int .i64 e.th) false).run Tryd.prog w = .ok (.int .i64 e.ce) w := by
  obtain ⟨F, hF, hok⟩ := h.wher
  have := hF.look Tryd.underlying141 Tryd.underlying3 (Tryd.zeroValue3 _) e.th ht
  rw [hok e he] at this
  exact this
theorem sinV_pos {n : Nat} {s : Lt} (h : LtOk n s) {t : Int} (ht : hasT s.L t) : 0 < sinV s.L t := by
  obtain ⟨e, he, rfl⟩ := ht
  unfold sinV
  rw [sinceF_mem h.dis he]
  have := (h.rng e he).1
  simp; omega
theorem sinV_zero {L : List Sl} {t : Int} (ht : ¬ hasT L t) : sinV L t = 0 := by
  unfold sinV
  rw [sinceF_none ht]
  rfl
theorem goInt_eq (n : Nat) : goInt n = .int .i64 n := rfl
section
open Go.ChangeShapes Go.WideShapes Go.MapKept Go.ChangeMaps Go.WideElems
variable {H : Type} {P : Program} {w : World} {t k e : TypeId} {R : Value → Option (DataW H × List MemPlace)} {b : Nat} {es : Array MapEntry} {clock : Nat}
theorem entry_store_keyed (K : Maps.Keyed P k) (ht : P.underlying t = some (.map k e)) {z : Value} (hz : ∀ u : World, (zeroValue e).run P u = .ok z u) (hb : w.heap[b]? = some (.map es clock)) (F : Fit P k R es clock)
    {key : Value} {kl : Lit} (hkey : keyOf P k key = some kl) :
    ∃ (v0 : Value) (st : Nat) (es1 : Array MapEntry) (clock1 : Nat), (Instr.mapEntry t (.map (some b)) key).run P w = .ok (.tuple #[v0, goInt st]) (setBlock w b (.map es1 clock1)) ∧
      ((∃ e0 ∈ es.toList, e0.key = key ∧ v0 = e0.val) ∨ ((∀ x ∈ es.toList, x.key ≠ key) ∧ v0 = z)) ∧
      ∀ (w2 : World) (val : Value), w2.heap[b]? = some (.map es1 clock1) → ∃ es' clock', (Instr.entryStore t (.map (some b)) (goInt st) val).run P w2 = .ok () (setBlock w2 b (.map es' clock')) ∧
        (Instr.mapUpdate t (.map (some b)) key val).run P w = .ok () (setBlock w b (.map es' clock')) := by
  obtain ⟨s1, s2, _⟩ := F.stamped
  rcases K.find w hkey es.toList F.keys with ⟨h1, h2⟩ | ⟨j, e0, h1, h2, h3⟩
  · refine ⟨z, clock, es.push ⟨key, z, clock⟩, clock + 1, ?_, Or.inr ⟨h2, rfl⟩, fun w2 val hw2 => ⟨es.push ⟨key, val, clock⟩, clock + 1, ?_, ?_⟩⟩
    · simp [Instr.mapEntry, run_underlying ht, MapKept.run_getObj_map hb, K.check w false hkey, h1, hz, MapKept.run_setObj_map _ hb, Result.andThen, setBlock]
    · have hidx : (es.push ⟨key, z, clock⟩).findIdx? (fun e => ((e.born : Nat) : Int) == ((clock : Nat) : Int)) = some es.size := by
        rw [findIdx_arr]
        have := findIdx_born (l := (es.push ⟨key, z, clock⟩).toList) (j := es.size) (e0 := ⟨key, z, clock⟩) (by
          simp only [Array.toList_push, List.map_append, List.map_cons, List.map_nil]
          refine List.nodup_append.2 ⟨s2, by simp, fun a ha c hc e1 => ?_⟩
          simp only [List.mem_singleton] at hc
          obtain ⟨x, hx, rfl⟩ := List.mem_map.1 ha
          have := s1 x hx
          omega) (by simp)
        exact this
      have hmod : (es.push ⟨key, z, clock⟩).modify es.size (fun e => { e with val := val }) = es.push ⟨key, val, clock⟩ := by
        apply Array.ext'
        rw [Array.toList_modify, Array.toList_push, Array.toList_push, ← Array.length_toList, modify_last]
      simp [Instr.entryStore, MapKept.run_getObj_map hw2, asInt, asIntOf, goInt, hidx, hmod, MapKept.run_setObj_map _ hw2, Result.andThen, setBlock]
    · simp [Instr.mapUpdate, run_underlying ht, MapKept.run_getObj_map hb, K.check w false hkey, h1, MapKept.run_setObj_map _ hb, Result.andThen, setBlock]
  · have hj : es[j]? = some e0 := by simpa using h2
    have hsame : es.modify j (fun e => { e with key := key }) = es := by
      apply Array.ext'
      rw [Array.toList_modify, modify_eq_set _ _ _ _ h2]
      have : ({ e0 with key := key } : MapEntry) = e0 := by rw [← h3]
      rw [this]
      exact set_self _ _ _ h2
    refine ⟨e0.val, e0.born, es, clock, ?_, Or.inl ⟨e0, List.mem_of_getElem? h2, h3, rfl⟩, fun w2 val hw2 => ⟨es.modify j (fun e' => { e' with key := key, val := val }), clock, ?_, ?_⟩⟩
    · simp [Instr.mapEntry, run_underlying ht, MapKept.run_getObj_map hb, K.check w false hkey, h1, hj, h3, K.stays w hkey, hsame, MapKept.run_setObj_map _ hb, Result.andThen, setBlock]
    · have hidx : es.findIdx? (fun e => ((e.born : Nat) : Int) == ((e0.born : Nat) : Int)) = some j := by
        rw [findIdx_arr]
        exact findIdx_born s2 h2
      have hmod : es.modify j (fun e => { e with val := val }) = es.modify j (fun e' => { e' with key := key, val := val }) := by
        apply Array.ext'
        rw [Array.toList_modify, Array.toList_modify, modify_eq_set _ _ _ _ h2, modify_eq_set _ _ _ _ h2, ← h3]
      simp [Instr.entryStore, MapKept.run_getObj_map hw2, asInt, asIntOf, goInt, hidx, hmod, MapKept.run_setObj_map _ hw2, Result.andThen, setBlock]
    · simp [Instr.mapUpdate, run_underlying ht, MapKept.run_getObj_map hb, K.check w false hkey, h1, hj, h3, K.stays w hkey, MapKept.run_setObj_map _ hb, Result.andThen, setBlock]
end
set_option maxRecDepth 100000 in
/-- 'm[k], .. = v, ..': the entry is laid first, the value stored later. -/
theorem MapO.entry {w : World} {b n : Nat} {F : Int → Option Int} (h : MapO 3 .i64 w b n F) (hn : n < maxLen) (t v : Int) (hw : wfI t) (hv : wfI v) :
    ∃ (v0 : Value) (st : Nat) (w1 : World), (Instr.mapEntry 141 (.map (some b)) (.int .i64 t)).run Tryd.prog w = .ok (.tuple #[v0, .int .i64 st]) w1 ∧ w.grownBy w1 (some b) ∧ w1.heap.size = w.heap.size ∧
      (∀ cs t fr, w1.heap[b]? ≠ some (.cells cs t fr)) ∧
      ∀ w2 : World, w2.heap[b]? = w1.heap[b]? → ∃ w3, (Instr.entryStore 141 (.map (some b)) (.int .i64 st) (.int .i64 v)).run Tryd.prog w2 = .ok () w3 ∧ MapO 3 .i64 w3 b (n + 1) (fun x => if x = t then some v else F x) ∧ w2.grownBy w3 (some b) ∧ w3.heap.size = w2.heap.size := by
  obtain ⟨w', hrun, hm, _⟩ := h.store Tryd.underlying141 Tryd.underlying3 hn t v hw hv
  obtain ⟨D, ⟨es, clock, hb, F1, hs, hD⟩, h2⟩ := h
  obtain ⟨v0, st, es1, clock1, hr1, _, hr2⟩ := entry_store_keyed (Maps.int_keyed Tryd.underlying3) Tryd.underlying141 (fun u => Tryd.zeroValue3 u) hb F1 (Maps.keyOf_int_mk Tryd.underlying3 hw)
  have hb1 : (ChangeMaps.setBlock w b (.map es1 clock1)).heap[b]? = some (.map es1 clock1) := Go.ChangeMaps.heap_setBlock_same hb _
  refine ⟨v0, st, _, hr1, ⟨rfl, rfl, rfl, by simp [ChangeMaps.setBlock], fun i _ hi => Go.ChangeMaps.heap_setBlock_other hb _ (fun e => hi (by rw [e]))⟩, by simp [ChangeMaps.setBlock], (fun cs t fr h => by rw [hb1] at h; cases h), fun w2 hw2 => ?_⟩
  obtain ⟨es', clock', hs1, hs2⟩ := hr2 w2 (.int .i64 v) (hw2.trans hb1)
  have he : w' = ChangeMaps.setBlock w b (.map es' clock') := by
    rw [hrun] at hs2
    injection hs2
  have hw2b := hw2.trans hb1
  refine ⟨_, hs1, hm.ofBlock ?_, ⟨rfl, rfl, rfl, by simp [ChangeMaps.setBlock], fun i _ hi => Go.ChangeMaps.heap_setBlock_other hw2b _ (fun e => hi (by rw [e]))⟩, by simp [ChangeMaps.setBlock]⟩
  rw [he, Go.ChangeMaps.heap_setBlock_same hb, Go.ChangeMaps.heap_setBlock_same hw2b]
end Go.Proofs.YtepoahinnfjaiaaDoor
