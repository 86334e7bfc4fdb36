/- LinPoints, the program's half: when answers came, kept in rows of this call's own: the relation on memory that the walk of lin.Points carries. Conditions: as each states. -/
import Derived.Test.YthnbbgmajdjgeaaDoorLpE
import Derived.Test.YthnbbgmajdjgeaaDoorErr
import Derived.Laws.MakeOwn
namespace Go.Proofs.YthnbbgmajdjgeaaDoor
open Go.RowKit Go.Extern.Stop Go.Stop Go.Extern

def ints (l : List Int) : List Value := l.map (Value.int .i64)
theorem ints_app (l : List Int) (x : Int) : ints (l ++ [x]) = ints l ++ [.int .i64 x] := by simp [ints]
theorem own_formP {w : World} {base n size : Nat} {e : TypeId} {v : Value} {xs : List Value} (h : w.ownsRow base e size v n xs) : ∃ A c, v = .slice A n c := by
  rcases h.2 with ⟨rfl, rfl⟩ | ⟨g, cap, cur, rfl, _⟩
  · exact ⟨_, _, rfl⟩
  · exact ⟨_, _, rfl⟩
theorem own_belowP {w w' : World} {base : Nat} {e : TypeId} {size n : Nat} {v : Value} {xs : List Value} (h : w.ownsRow base e size v n xs) (hb : Below w.heap.size w w') : w'.ownsRow base e size v n xs := by
  refine ⟨h.1, ?_⟩
  rcases h.2 with h0 | ⟨g, cap, cur, rfl, h1, h2, h3⟩
  · exact .inl h0
  · exact .inr ⟨g, cap, cur, rfl, h1, (hb.block g (h.lt g rfl).2).trans h2, h3⟩
theorem own_farP {w : World} {base n size : Nat} {e : TypeId} {v : Value} {xs : List Value} {p : Addr} {u : Value} (h : w.ownsRow base e size v n xs) (hv : v.ownBlock ≠ some p.block) : (w.setCell p u).ownsRow base e size v n xs := by
  refine ⟨h.1, ?_⟩
  rcases h.2 with h0 | ⟨g, cap, cur, rfl, ha, hb, hc⟩
  · exact .inl h0
  · have hne : g ≠ p.block := fun e => hv (by subst e; rfl)
    exact .inr ⟨g, cap, cur, rfl, ha, (Below.heap_setCell w p u g hne).trans hb, hc⟩
theorem own_ne_type {w : World} {base base' n n' size size' : Nat} {e e' : TypeId} {v v' : Value} {xs xs' : List Value} (h : w.ownsRow base e size v n xs) (h' : w.ownsRow base' e' size' v' n' xs') (hne : e ≠ e') : v.ownBlock = none ∨ v.ownBlock ≠ v'.ownBlock := by
  rcases h.2 with ⟨rfl, _⟩ | ⟨g, cap, cur, rfl, _, hg, _⟩
  · exact .inl rfl
  · refine .inr fun e2 => ?_
    rcases h'.2 with ⟨rfl, _⟩ | ⟨g', cap', cur', rfl, _, hg', _⟩
    · cases e2
    · have : g = g' := by simpa [Value.ownBlock] using e2
      subst this
      rw [hg] at hg'
      injection hg' with hg'
      injection hg' with _ ht
      exact hne ht
/-- Block eb is a row of n slices; slice t is a row of its own that holds E t. -/
def EndsIn (w : World) (eb base n : Nat) (E : Nat → List Int) : Prop :=
  ∃ V : Nat → Value, (∃ cs : Array Value, Blk w eb 64 cs ∧ cs.size = n ∧ ∀ t, t < n → cs[t]? = some (V t)) ∧ (∀ t, t < n → w.ownsRow base 3 1 (V t) (E t).length (ints (E t))) ∧
    ∀ t u, t < n → u < n → t ≠ u → (V t).ownBlock = none ∨ (V t).ownBlock ≠ (V u).ownBlock
theorem EndsIn.lt {w : World} {eb base n : Nat} {E : Nat → List Int} (h : EndsIn w eb base n E) : eb < w.heap.size := by
  obtain ⟨V, ⟨cs, hB, _⟩, _⟩ := h; exact hB.lt
theorem EndsIn.start (w : World) (n base : Nat) : EndsIn (w.alloc (.cells (madeCells #[.slice none 0 0] n) 64)) w.heap.size base n (fun _ => []) := by
  refine ⟨fun _ => .slice none 0 0, ⟨_, Blk.new _ _ _, by rw [size_madeCells], fun t ht => ?_⟩, fun t _ => World.ownsRow_nil _ _ _ _, fun t u _ _ _ => .inl rfl⟩
  simp [madeCells, ht, Nat.mod_one]
theorem EndsIn.below {w w' : World} {eb base n : Nat} {E : Nat → List Int} (h : EndsIn w eb base n E) (hb : Below w.heap.size w w') : EndsIn w' eb base n E := by
  obtain ⟨V, ⟨cs, hB, h1, h2⟩, h3, h4⟩ := h
  exact ⟨V, ⟨cs, hB.below hb hB.lt, h1, h2⟩, fun t ht => own_belowP (h3 t ht) hb, h4⟩
theorem EndsIn.alloc {w : World} {eb base n : Nat} {E : Nat → List Int} (h : EndsIn w eb base n E) (o : Obj) : EndsIn (w.alloc o) eb base n E := h.below ((Below.refl _ _).alloc (Nat.le_refl _) o)
theorem EndsIn.grown {w w' : World} {eb base n m b' s' : Nat} {e' : TypeId} {E : Nat → List Int} {v : Value} {xs : List Value} (h : EndsIn w eb base n E) (hv : w.ownsRow b' e' s' v m xs) (h1 : e' ≠ 3) (h2 : e' ≠ 64) (hg : w.grownBy w' v.ownBlock) : EndsIn w' eb base n E := by
  obtain ⟨V, ⟨cs, hB, h3, h4⟩, h5, h6⟩ := h
  refine ⟨V, ⟨cs, hB.grown hg (fun e => own_blk_ne hv hB h2 e.symm), h3, h4⟩, fun t ht => (h5 t ht).kept hg ?_, h6⟩
  exact own_ne_type (h5 t ht) hv (fun e => h1 e.symm)
/-- Slice t, as it is read. -/
theorem EndsIn.slot {w : World} {eb base n T : Nat} {E : Nat → List Int} (h : EndsIn w eb base n E) (hT : T < n) :
    ∃ A c, w.cell? ⟨eb, T, none⟩ = some (.slice A (E T).length c) ∧ w.frozen? ⟨eb, T, none⟩ = false ∧ w.ownsRow base 3 1 (.slice A (E T).length c) (E T).length (ints (E T)) ∧
      ∀ (w' : World) (g cap : Nat) (x : Int), w'.ownsRow base 3 1 (.slice (some ⟨g, 0, none⟩) ((E T).length + 1) cap) ((E T).length + 1) (ints (E T) ++ [.int .i64 x]) → w.grownBy w' (Value.slice A (E T).length c).ownBlock → ((Value.slice A (E T).length c).ownBlock = some g ∨ w.heap.size ≤ g) →
        (w'.cell? ⟨eb, T, none⟩ = some (.slice A (E T).length c) ∧ w'.frozen? ⟨eb, T, none⟩ = false) ∧ EndsIn (w'.setCell ⟨eb, T, none⟩ (.slice (some ⟨g, 0, none⟩) ((E T).length + 1) cap)) eb base n (updE E T x) := by
  obtain ⟨V, ⟨cs, hB, h3, h4⟩, h5, h6⟩ := h
  obtain ⟨A, c, hA⟩ := own_formP (h5 T hT)
  have hc : w.cell? ⟨eb, T, none⟩ = some (.slice A (E T).length c) := by rw [hB.cell, h4 T hT, hA]
  have hT5 := h5 T hT
  rw [hA] at hT5
  refine ⟨A, c, hc, hB.frozen _, hT5, fun w' g cap x ho hg hat => ?_⟩
  have hne : some eb ≠ (Value.slice A (E T).length c).ownBlock := fun e => own_blk_ne hT5 hB (by decide) e.symm
  have hB' := hB.grown hg hne
  refine ⟨⟨by rw [hB'.cell, h4 T hT, hA], hB'.frozen _⟩, ?_⟩
  have hge : g ≠ eb := fun e => by
    subst e
    exact own_blk_ne ho hB' (by decide) rfl
  refine ⟨fun t => if t = T then .slice (some ⟨g, 0, none⟩) ((E T).length + 1) cap else V t, ⟨_, hB'.set_ T _, by simpa using h3, fun t ht => ?_⟩, fun t ht => ?_, fun t u ht hu htu => ?_⟩
  · dsimp only
    by_cases e : t = T
    · subst e
      rw [Array.getElem?_setIfInBounds_self_of_lt (by omega), if_pos rfl]
    · rw [Array.getElem?_setIfInBounds_ne (fun h => e h.symm), if_neg e]; exact h4 t ht
  · by_cases e : t = T
    · subst e
      simp only [if_pos, updE]
      rw [List.length_append, ints_app]
      exact own_farP ho (fun e2 => hge (by simpa [Value.ownBlock] using e2))
    · simp only [if_neg e, updE]
      have hk : (V t).ownBlock = none ∨ (V t).ownBlock ≠ (Value.slice A (E T).length c).ownBlock := by
        have := h6 t T ht hT e
        rw [hA] at this
        exact this
      exact own_farP ((h5 t ht).kept hg hk) (fun e2 => own_blk_ne (h5 t ht) hB (by decide) e2)
  · dsimp only
    have hgv : ∀ r, r < n → r ≠ T → (V r).ownBlock ≠ some g := fun r hr hrT e => by
      rcases hat with h | h
      · rcases h6 r T hr hT hrT with h7 | h7
        · rw [h7] at e; cases e
        · rw [hA, h] at h7; exact h7 e
      · have := ((h5 r hr).lt g e).2; omega
    by_cases e : t = T
    · subst e
      rw [if_pos rfl, if_neg (fun h => htu h.symm)]
      exact .inr fun h => hgv u hu (fun h => htu h.symm) h.symm
    · rw [if_neg e]
      by_cases e2 : u = T
      · subst e2
        rw [if_pos rfl]
        exact .inr fun h => hgv t ht e h
      · rw [if_neg e2]
        exact h6 t u ht hu htu
end Go.Proofs.YthnbbgmajdjgeaaDoor
