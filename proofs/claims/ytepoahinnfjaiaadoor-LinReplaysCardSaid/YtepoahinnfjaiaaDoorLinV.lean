/-
  The facts on memory that the walks of LinReplays carry. Conditions: calls and points lie below this call's memory.
-/
import Derived.Test.YtepoahinnfjaiaaDoorLinM
import Derived.Test.YtepoahinnfjaiaaDoorLinK
import Derived.Test.YtepoahinnfjaiaaDoorFaiW
import Derived.Deep.QuietTactic
import Derived.BigQuiet
import Derived.Deep.RegionHeld3
import Derived.OneCell
namespace Go.Proofs.YtepoahinnfjaiaaDoor
open Go.RowKit Go.Extern.Stop Go.Stop Go.Extern

abbrev stv (s : St) : Value := phv s.o s.ph s.pa s.wa
abbrev sta (s : St) : Array Value := #[.bool s.o, .int .i64 s.ph, .int .i64 s.pa, .int .i64 s.wa]
abbrev zst : Array Value := #[.bool false, .int .i64 0, .int .i64 0, .int .i64 0]
def RepEnd (R : Rp) (w : World) (e : Ending) (w' : World) : Prop :=
  ∃ A c v, e = .returned (.tuple #[stv R.st, .slice A R.outs.length c, v]) ∧ Reads w' w'.heap.size 1 A R.outs.length (ints R.outs) ∧ IsErr w' v R.code R.place ∧ Below w.heap.size w w'
/-- What holds of memory at a round's head. -/
def LRel (w : World) (l : List Pt) (k : Nat) (s : St) (outs : List Int) (v : Value) (wr : World) : Prop :=
  Blk wr w.heap.size 39 (sta s) ∧ Blk wr (w.heap.size + 1) 39 zst ∧ MapP wr (w.heap.size + 1 + 1) k (fun a b => lastK l outs a b k) ∧ wr.ownsRow (w.heap.size + 1 + 1 + 1) 3 1 v k (ints outs) ∧ outs.length = k ∧ Below w.heap.size w wr ∧ w.heap.size + 1 + 1 + 1 ≤ wr.heap.size
theorem lrel_start (w : World) (l : List Pt) (s : St) : LRel w l 0 s [] (.slice none 0 0) (((w.alloc (.cells (sta s) 39)).alloc (.cells zst 39)).alloc (.map #[] 0)) := by
  have h0 := ((Blk.new w 39 (sta s)).alloc (.cells zst 39)).alloc (.map #[] 0)
  have h1 := (Blk.new (w.alloc (.cells (sta s) 39)) 39 zst).alloc (.map #[] 0)
  have h2 := MapP.made ((w.alloc (.cells (sta s) 39)).alloc (.cells zst 39))
  simp only [World.size_alloc] at h1 h2
  exact ⟨h0, h1, h2.congr (fun _ _ => rfl), ⟨rfl, .inl ⟨rfl, rfl⟩⟩, rfl, (((Below.refl _ _).alloc (Nat.le_refl _) _).alloc (by simp) _).alloc (by simp; omega) _, by simp⟩
theorem fail_end {w W0 : World} {xb : Nat} {code place : Int} {R : Rp} (hc : code ≠ 0) (hb : Below w.heap.size w W0) (hs : W0.heap.size = xb) (hR : R = ⟨⟨false, 0, 0, 0⟩, [], code, place⟩) (u0 u1 u2 u3 : Value) :
    RepEnd R w (.returned (.tuple #[.agg zst, .slice none 0 0, .iface 146 (.pointer (some ⟨xb, 0, none⟩))])) (((((W0.setCell ⟨w.heap.size + 1, 0, none⟩ u0).setCell ⟨w.heap.size + 1, 1, none⟩ u1).setCell ⟨w.heap.size + 1, 2, none⟩ u2).setCell ⟨w.heap.size + 1, 3, none⟩ u3).alloc (.cells #[.int .i64 code, .int .i64 place] 148)) := by
  subst hR
  have h4 := (((hb.setCell (p := ⟨w.heap.size + 1, 0, none⟩) (by simp) u0).setCell (p := ⟨w.heap.size + 1, 1, none⟩) (by simp) u1).setCell (p := ⟨w.heap.size + 1, 2, none⟩) (by simp) u2).setCell (p := ⟨w.heap.size + 1, 3, none⟩) (by simp) u3
  have hz : ((((W0.setCell ⟨w.heap.size + 1, 0, none⟩ u0).setCell ⟨w.heap.size + 1, 1, none⟩ u1).setCell ⟨w.heap.size + 1, 2, none⟩ u2).setCell ⟨w.heap.size + 1, 3, none⟩ u3).heap.size = xb := by simp [hs]
  have hB := Blk.new ((((W0.setCell ⟨w.heap.size + 1, 0, none⟩ u0).setCell ⟨w.heap.size + 1, 1, none⟩ u1).setCell ⟨w.heap.size + 1, 2, none⟩ u2).setCell ⟨w.heap.size + 1, 3, none⟩ u3) 148 #[.int .i64 code, .int .i64 place]
  rw [hz] at hB
  exact ⟨none, 0, _, rfl, Reads.none_, .inr (.inr ⟨xb, 0, rfl, hc, by have := hB.cell 0; simpa using this, by have := hB.cell 1; simpa using this⟩), h4.alloc h4.size _⟩
theorem own_formL {w : World} {base n size : Nat} {e : TypeId} {v : Value} {xs : List Value} (h : w.ownsRow base e size v n xs) : ∃ A c, v = .slice A n c := by
  rcases h.2 with ⟨rfl, rfl⟩ | ⟨g, cap, cur, rfl, _⟩
  · exact ⟨_, _, rfl⟩
  · exact ⟨_, _, rfl⟩
theorem done_end {w wr : World} {s : St} {k c : Nat} {A : Option Addr} {outs : List Int} {R : Rp} (hb : Below w.heap.size w wr) (ho : wr.ownsRow (w.heap.size + 1 + 1 + 1) 3 1 (.slice A k c) k (ints outs)) (hl : outs.length = k) (hR : R = ⟨s, outs, 0, -1⟩) (u0 u1 u2 u3 : Value) :
    RepEnd R w (.returned (.tuple #[stv s, .slice A k c, .nilIface])) ((((wr.setCell ⟨w.heap.size + 1, 0, none⟩ u0).setCell ⟨w.heap.size + 1, 1, none⟩ u1).setCell ⟨w.heap.size + 1, 2, none⟩ u2).setCell ⟨w.heap.size + 1, 3, none⟩ u3) := by
  subst hR hl
  have h4 := ownsRow_setCell_below (ownsRow_setCell_below (ownsRow_setCell_below (ownsRow_setCell_below ho (a := ⟨w.heap.size + 1, 0, none⟩) (by simp) u0) (a := ⟨w.heap.size + 1, 1, none⟩) (by simp) u1) (a := ⟨w.heap.size + 1, 2, none⟩) (by simp) u2) (a := ⟨w.heap.size + 1, 3, none⟩) (by simp) u3
  exact ⟨A, c, _, rfl, Reads.of_own h4, IsErr.nil_ _, (((hb.setCell (by simp) _).setCell (by simp) _).setCell (by simp) _).setCell (by simp) _⟩
theorem blk_at {w : World} {b : Nat} {t : TypeId} {cs : Array Value} (h : w.heap.size = b) : Blk (w.alloc (.cells cs t)) b t cs := h ▸ Blk.new w t cs
theorem own_belowL {w w' : World} {base B : Nat} {e : TypeId} {size n : Nat} {v : Value} {xs : List Value} (h : w.ownsRow base e size v n xs) (hb : Below B w w') (hv : ∀ g, v.ownBlock = some g → g < B) : w'.ownsRow base e size v n xs := by
  refine ⟨h.1, ?_⟩
  rcases h.2 with h0 | ⟨g, cap, cur, rfl, h1, h2, h3⟩
  · exact .inl h0
  · exact .inr ⟨g, cap, cur, rfl, h1, (hb.block g (hv g rfl)).trans h2, h3⟩
theorem LRel.below {w wr w' : World} {l : List Pt} {k : Nat} {s : St} {outs : List Int} {v : Value} (h : LRel w l k s outs v wr) (hb : Below wr.heap.size wr w') : LRel w l k s outs v w' := by
  obtain ⟨h1, h2, h3, h4, h5, h6, h7⟩ := h
  exact ⟨h1.below hb h1.lt, h2.below hb h2.lt, h3.below hb h3.lt, own_belowL h4 hb (fun g hg => (h4.lt g hg).2), h5, h6.trans (hb.mono h6.size), by have := hb.size; omega⟩
theorem MapP.alloc {w : World} {m n : Nat} {S : Int → Int → Int} (h : MapP w m n S) (o : Obj) : MapP (w.alloc o) m n S := h.ofBlock (Below.heap_alloc w o m h.lt)
theorem MapP.setCell {w : World} {m n : Nat} {S : Int → Int → Int} (h : MapP w m n S) {p : Addr} (hp : m ≠ p.block) (u : Value) : MapP (w.setCell p u) m n S := h.ofBlock (Below.heap_setCell w p u m hp)
theorem own_grownL {w w' : World} {base m : Nat} {e : TypeId} {size n : Nat} {v : Value} {xs : List Value} (h : w.ownsRow base e size v n xs) (hg : w.grownBy w' (some m)) (hm : m < base) : w'.ownsRow base e size v n xs := by
  refine ⟨h.1, ?_⟩
  rcases h.2 with h0 | ⟨g, cap, cur, rfl, h1, h2, h3⟩
  · exact .inl h0
  · have hlt := (h.lt g rfl).2
    exact .inr ⟨g, cap, cur, rfl, h1, (hg.block g hlt (fun e => by injection e; omega)).trans h2, h3⟩
/-- The state is stored and the answer is kept: what holds then, the store ahead or behind. -/
def LMid (w : World) (l : List Pt) (k : Nat) (s' : St) (outs : List Int) (a b dan : Int) (v : Value) (w8 : World) : Prop :=
  Blk w8 w.heap.size 39 (sta s') ∧ Blk w8 (w.heap.size + 1) 39 zst ∧ MapP w8 (w.heap.size + 1 + 1) (k + 1) (fun x y => if x = a ∧ y = b then dan else lastK l outs x y k) ∧ w8.ownsRow (w.heap.size + 1 + 1 + 1) 3 1 v k (ints outs) ∧ outs.length = k ∧ Below w.heap.size w w8 ∧ w.heap.size + 1 + 1 + 1 ≤ w8.heap.size
theorem set_sta {w : World} {g : Nat} {cs : Array Value} (h : Blk w g 39 cs) (hs : cs.size = 4) (s' : St) :
    Blk ((((w.setCell ⟨g, 0, none⟩ (.bool s'.o)).setCell ⟨g, 1, none⟩ (.int .i64 s'.ph)).setCell ⟨g, 2, none⟩ (.int .i64 s'.pa)).setCell ⟨g, 3, none⟩ (.int .i64 s'.wa)) g 39 (sta s') := by
  have h4 := (((h.set_ 0 (.bool s'.o)).set_ 1 (.int .i64 s'.ph)).set_ 2 (.int .i64 s'.pa)).set_ 3 (.int .i64 s'.wa)
  have e : (((cs.setIfInBounds 0 (.bool s'.o)).setIfInBounds 1 (.int .i64 s'.ph)).setIfInBounds 2 (.int .i64 s'.pa)).setIfInBounds 3 (.int .i64 s'.wa) = sta s' := by
    obtain ⟨cl⟩ := cs
    match cl, hs with
    | [a, b, c, d], _ => rfl
  rw [e] at h4
  exact h4
/-- The map first, the state behind it. -/
theorem mid_map {w w7 wa : World} {l : List Pt} {k : Nat} {s : St} {outs : List Int} {v : Value} {a b dan : Int} (h : LRel w l k s outs v w7)
    (hm : MapP wa (w.heap.size + 1 + 1) (k + 1) (fun x y => if x = a ∧ y = b then dan else lastK l outs x y k)) (hg : w7.grownBy wa (some (w.heap.size + 1 + 1))) (s' : St) :
    LMid w l k s' outs a b dan v ((((wa.setCell ⟨w.heap.size, 0, none⟩ (.bool s'.o)).setCell ⟨w.heap.size, 1, none⟩ (.int .i64 s'.ph)).setCell ⟨w.heap.size, 2, none⟩ (.int .i64 s'.pa)).setCell ⟨w.heap.size, 3, none⟩ (.int .i64 s'.wa)) := by
  obtain ⟨h1, h2, h3, h4, h5, h6, h7⟩ := h
  have g1 := h1.grown hg (by simp; omega)
  have g2 := h2.grown hg (by simp)
  have hsz := hg.size
  refine ⟨set_sta g1 rfl s', (((g2.far (by simp) _).far (by simp) _).far (by simp) _).far (by simp) _, (((hm.setCell (by simp; omega) _).setCell (by simp; omega) _).setCell (by simp; omega) _).setCell (by simp; omega) _, ?_, h5, ?_, by simp; omega⟩
  · exact ownsRow_setCell_below (ownsRow_setCell_below (ownsRow_setCell_below (ownsRow_setCell_below (own_grownL h4 hg (by omega)) (by simp; omega) _) (by simp; omega) _) (by simp; omega) _) (by simp; omega) _
  · exact ((((h6.grown hg (by omega) (fun g hg => by cases hg; omega)).setCell (by simp) _).setCell (by simp) _).setCell (by simp) _).setCell (by simp) _
/-- The state first, the map behind it. -/
theorem mid_set {w w7 wb : World} {l : List Pt} {k : Nat} {s s' : St} {outs : List Int} {v : Value} {a b dan : Int} (h : LRel w l k s outs v w7)
    (hm : MapP wb (w.heap.size + 1 + 1) (k + 1) (fun x y => if x = a ∧ y = b then dan else lastK l outs x y k))
    (hg : ((((w7.setCell ⟨w.heap.size, 0, none⟩ (.bool s'.o)).setCell ⟨w.heap.size, 1, none⟩ (.int .i64 s'.ph)).setCell ⟨w.heap.size, 2, none⟩ (.int .i64 s'.pa)).setCell ⟨w.heap.size, 3, none⟩ (.int .i64 s'.wa)).grownBy wb (some (w.heap.size + 1 + 1))) :
    LMid w l k s' outs a b dan v wb := by
  obtain ⟨h1, h2, h3, h4, h5, h6, h7⟩ := h
  have g1 := (set_sta h1 rfl s').grown hg (by simp; omega)
  have g2 := ((((h2.far (p := ⟨w.heap.size, 0, none⟩) (by simp) (.bool s'.o)).far (p := ⟨w.heap.size, 1, none⟩) (by simp) (.int .i64 s'.ph)).far (p := ⟨w.heap.size, 2, none⟩) (by simp) (.int .i64 s'.pa)).far (p := ⟨w.heap.size, 3, none⟩) (by simp) (.int .i64 s'.wa)).grown hg (by simp)
  have hsz := hg.size
  simp at hsz
  refine ⟨g1, g2, hm, ?_, h5, ?_, by omega⟩
  · exact own_grownL (ownsRow_setCell_below (ownsRow_setCell_below (ownsRow_setCell_below (ownsRow_setCell_below h4 (by simp; omega) _) (by simp; omega) _) (by simp; omega) _) (by simp; omega) _) hg (by omega)
  · exact (((((h6.setCell (by simp) _).setCell (by simp) _).setCell (by simp) _).setCell (by simp) _)).grown hg (by simp; omega) (fun g hg => by cases hg; omega)
theorem mid_next {w w8 w9 : World} {l : List Pt} {k : Nat} {s' : St} {outs : List Int} {v v' : Value} {a b dan : Int} {o : Obj} {x : Pt} (h : LMid w l k s' outs a b dan v w8) (hx : l[k]? = some x) (ha : x.th = a) (hb : x.ca = b)
    (hg : (w8.alloc o).grownBy w9 v.ownBlock) (hown : w9.ownsRow (w.heap.size + 1 + 1 + 1) 3 1 v' (k + 1) (ints outs ++ [.int .i64 dan])) : LRel w l (k + 1) s' (outs ++ [dan]) v' w9 := by
  obtain ⟨h1, h2, h3, h4, h5, h6, h7⟩ := h
  have hlo : ∀ g, v.ownBlock = some g → w.heap.size + 1 + 1 + 1 ≤ g := fun g hg => (h4.lt g hg).1
  have hne : ∀ g, g < w.heap.size + 1 + 1 + 1 → some g ≠ v.ownBlock := fun g hg e => by have := hlo g e.symm; omega
  have hsz := hg.size
  simp only [World.size_alloc] at hsz
  refine ⟨(h1.alloc o).grown hg (hne _ (by omega)), (h2.alloc o).grown hg (hne _ (by omega)), ?_, ?_, by simp [h5], (h6.alloc h6.size o).grown hg (by simp; omega) (fun g hg => by have := hlo g hg; omega), by omega⟩
  · have hm := (h3.alloc o).ofBlock (hg.block (w.heap.size + 1 + 1) (by simp; omega) (hne _ (by omega)))
    refine hm.congr fun p q => ?_
    have e : lastK l (outs ++ [dan]) p q (k + 1) = if (l[k]?).map (fun x => (x.th, x.ca)) = some (p, q) then (outs ++ [dan]).getD k 0 else lastK l (outs ++ [dan]) p q k := rfl
    rw [e, lastK_snoc l outs dan p q k (by omega), hx]
    subst ha hb
    by_cases hpq : p = x.th ∧ q = x.ca
    · obtain ⟨rfl, rfl⟩ := hpq
      simp [List.getD_eq_getElem?_getD, h5]
    · rw [if_neg hpq, if_neg]
      intro e
      simp at e
      exact hpq ⟨e.1.symm, e.2.symm⟩
  · simpa [ints] using hown
/-- The state alone is stored. -/
theorem lrel_set {w w6 : World} {l : List Pt} {k : Nat} {s s' : St} {outs : List Int} {v : Value} (h : LRel w l k s outs v w6) :
    LRel w l k s' outs v ((((w6.setCell ⟨w.heap.size, 0, none⟩ (.bool s'.o)).setCell ⟨w.heap.size, 1, none⟩ (.int .i64 s'.ph)).setCell ⟨w.heap.size, 2, none⟩ (.int .i64 s'.pa)).setCell ⟨w.heap.size, 3, none⟩ (.int .i64 s'.wa)) := by
  obtain ⟨h1, h2, h3, h4, h5, h6, h7⟩ := h
  refine ⟨set_sta h1 rfl s', (((h2.far (by simp) _).far (by simp) _).far (by simp) _).far (by simp) _, (((h3.setCell (by simp; omega) _).setCell (by simp; omega) _).setCell (by simp; omega) _).setCell (by simp; omega) _, ?_, h5, (((h6.setCell (by simp) _).setCell (by simp) _).setCell (by simp) _).setCell (by simp) _, by simp; omega⟩
  exact ownsRow_setCell_below (ownsRow_setCell_below (ownsRow_setCell_below (ownsRow_setCell_below h4 (by simp; omega) _) (by simp; omega) _) (by simp; omega) _) (by simp; omega) _
theorem mid_any {w y wb : World} {l : List Pt} {k : Nat} {s' : St} {outs : List Int} {v : Value} {a b dan : Int} (h : LRel w l k s' outs v y)
    (hm : MapP wb (w.heap.size + 1 + 1) (k + 1) (fun x y => if x = a ∧ y = b then dan else lastK l outs x y k)) (hg : y.grownBy wb (some (w.heap.size + 1 + 1))) : LMid w l k s' outs a b dan v wb := by
  obtain ⟨h1, h2, h3, h4, h5, h6, h7⟩ := h
  have hsz := hg.size
  exact ⟨h1.grown hg (by simp; omega), h2.grown hg (by simp), hm, own_grownL h4 hg (by omega), h5, h6.grown hg (by omega) (fun g hg => by cases hg; omega), by omega⟩
theorem six {w' : World} {p q : Nat} {T C : Int} {o : Bool} {x y z : Int} (hP : Blk w' p 154 #[.int .i64 T, .int .i64 C]) (hQ : Blk w' q 39 #[.bool o, .int .i64 x, .int .i64 y, .int .i64 z]) :
    w'.cell? ⟨p, 0, none⟩ = some (.int .i64 T) ∧ w'.cell? ⟨p, 1, none⟩ = some (.int .i64 C) ∧ w'.cell? ⟨q, 0, none⟩ = some (.bool o) ∧ w'.cell? ⟨q, 1, none⟩ = some (.int .i64 x) ∧ w'.cell? ⟨q, 2, none⟩ = some (.int .i64 y) ∧ w'.cell? ⟨q, 3, none⟩ = some (.int .i64 z) :=
  ⟨hP.cell 0, hP.cell 1, hQ.cell 0, hQ.cell 1, hQ.cell 2, hQ.cell 3⟩
theorem four {w' : World} {q : Nat} {cs : Array Value} {a b c d : Value} (h : Blk w' q 39 cs) (hc : cs = #[a, b, c, d]) :
    (w'.cell? ⟨q, 0, none⟩ = some a ∧ w'.cell? ⟨q, 1, none⟩ = some b ∧ w'.cell? ⟨q, 2, none⟩ = some c ∧ w'.cell? ⟨q, 3, none⟩ = some d) ∧ w'.frozen? ⟨q, 0, none⟩ = false ∧ w'.frozen? ⟨q, 1, none⟩ = false ∧ w'.frozen? ⟨q, 2, none⟩ = false ∧ w'.frozen? ⟨q, 3, none⟩ = false := by
  subst hc
  exact ⟨⟨h.cell 0, h.cell 1, h.cell 2, h.cell 3⟩, h.frozen 0, h.frozen 1, h.frozen 2, h.frozen 3⟩
theorem fail_any {w W' : World} {xb : Nat} {code place : Int} {R : Rp} (hc : code ≠ 0) (hb : Below w.heap.size w W') (hs : W'.heap.size = xb) (hR : R = ⟨⟨false, 0, 0, 0⟩, [], code, place⟩) :
    RepEnd R w (.returned (.tuple #[.agg zst, .slice none 0 0, .iface 146 (.pointer (some ⟨xb, 0, none⟩))])) (W'.alloc (.cells #[.int .i64 code, .int .i64 place] 148)) := by
  subst hR hs
  have hB := Blk.new W' 148 #[.int .i64 code, .int .i64 place]
  exact ⟨none, 0, _, rfl, Reads.none_, .inr (.inr ⟨_, 0, rfl, hc, hB.cell 0, hB.cell 1⟩), hb.alloc hb.size _⟩
end Go.Proofs.YtepoahinnfjaiaaDoor
