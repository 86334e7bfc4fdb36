/-
  The walks of MemTouches, part three: each of the program's methods does what the plain step says. Conditions: the memory is this call's own.
-/
import Derived.Test.YtepoahinnfjaiaaDoorMtM
import Derived.Test.YtepoahinnfjaiaaDoorErr
namespace Go.Proofs.YtepoahinnfjaiaaDoor
open Go.RowKit Go.Extern.Stop Go.Stop Go.Extern

theorem own_set {w : World} {base g n c : Nat} {e : TypeId} {xs : List Value} (h : w.ownsRow base e 1 (.slice (some ⟨g, 0, none⟩) n c) n xs) (j : Nat) (u : Value) :
    (w.setCell ⟨g, j, none⟩ u).ownsRow base e 1 (.slice (some ⟨g, 0, none⟩) n c) n (xs.set j u) := by
  obtain ⟨h1, h2⟩ := h
  refine ⟨by simpa using h1, ?_⟩
  rcases h2 with ⟨h2, _⟩ | ⟨g', cap, cur, hv, hb, hk, hc, hm, hs, ht⟩
  · simp at h2
  · simp only [Value.slice.injEq, Option.some.injEq, Addr.mk.injEq, and_true, true_and] at hv
    obtain ⟨rfl, rfl⟩ := hv
    refine .inr ⟨g, c, cur.setIfInBounds j u, rfl, hb, Blk.set_ hk j u, hc, hm, by simpa using hs, ?_⟩
    rw [← ht]
    simp [List.take_set]
theorem own_far {w : World} {base n : Nat} {e : TypeId} {size : Nat} {v : Value} {xs : List Value} (h : w.ownsRow base e size v n xs) {a : Addr} (ha : v.ownBlock ≠ some a.block) (u : Value) : (w.setCell a u).ownsRow base e size v n xs := by
  obtain ⟨h1, h2⟩ := h
  refine ⟨h1, ?_⟩
  rcases h2 with h2 | ⟨g, cap, cur, rfl, hb, hk, r⟩
  · exact .inl h2
  · exact .inr ⟨g, cap, cur, rfl, hb, (Below.heap_setCell w a u g (by intro h; exact ha (by simp [Value.ownBlock, h]))).trans hk, r⟩
theorem own_belowM {w w' : World} {base B : Nat} {e : TypeId} {size n : Nat} {v : Value} {xs : List Value} (h : w.ownsRow base e size v n xs) (hb : Below B w w') (hv : ∀ g, v.ownBlock = some g → g < B) : w'.ownsRow base e size v n xs := by
  refine ⟨h.1, ?_⟩
  rcases h.2 with h0 | ⟨g, cap, cur, rfl, h1, h2, h3⟩
  · exact .inl h0
  · exact .inr ⟨g, cap, cur, rfl, h1, (hb.block g (hv g rfl)).trans h2, h3⟩
theorem MemP.cell {base : Nat} {w : World} {p : Nat} {v : Value} {n : Nat} {ms : List Int} (h : MemP base w p v n ms) : w.cell? ⟨p, 0, none⟩ = some v := h.blk.cell 0
theorem MemP.at_ {base : Nat} {w : World} {p : Nat} {v : Value} {n : Nat} {ms : List Int} (h : MemP base w p v n ms) (j : Nat) (hj : j < n) :
    ∃ g c, v = .slice (some ⟨g, 0, none⟩) n c ∧ w.cell? ⟨g, j, none⟩ = some (.int .u64 (ms.getD j 0)) ∧ w.frozen? ⟨g, j, none⟩ = false ∧ base ≤ g ∧ ∀ x : Int, MemP base (w.setCell ⟨g, j, none⟩ (.int .u64 x)) p v n (ms.set j x) := by
  have ho := h.own
  have hl := h.len
  rcases ho.2 with ⟨_, hn⟩ | ⟨g, cap, cur, rfl, hb, hk, hc, hm, hs, ht⟩
  · omega
  · have hcell := ho.cells (g := g) rfl j (.int .u64 (ms.getD j 0)) (by
      simp only [u64s, List.getElem?_map, List.getD_eq_getElem?_getD, List.getElem?_eq_getElem (show j < ms.length by omega)]; rfl)
    have e : Addr.add ⟨g, 0, none⟩ j = ⟨g, j, none⟩ := by unfold Addr.add; split <;> simp_all
    rw [e] at hcell
    refine ⟨g, cap, rfl, hcell, Blk.frozen (show Blk w g 35 cur from hk) j, hb, fun x => ?_⟩
    have hne : g ≠ p := fun hgp => by
      have := own_blk_ne ho h.blk (by decide)
      exact this (by simp [Value.ownBlock, hgp])
    exact ⟨h.blk.far (fun e => hne e.symm) _, by
      have := own_set ho j (.int .u64 x)
      rw [show u64s (ms.set j x) = (u64s ms).set j (.int .u64 x) by simp [u64s]]
      exact this, by simpa using hl, h.lo⟩
theorem MemP.ofB {base : Nat} {w w' : World} {p : Nat} {v : Value} {n : Nat} {ms : List Int} (h : MemP base w p v n ms) (hb : Below w.heap.size w w') : MemP base w' p v n ms :=
  ⟨h.blk.below hb h.blk.lt, own_belowM h.own hb (fun g hg => (h.own.lt g hg).2), h.len, h.lo⟩
def TouchEnd (base : Nat) (w : World) (p : Nat) (v : Value) (n : Nat) (r : TR) (res : Value) (e : Ending) (w' : World) : Prop :=
  e = .returned res ∧ MemP base w' p v n r.ms ∧ Below base w w' ∧ ∀ b, v.ownBlock ≠ some b → w'.heap[b]? = w.heap[b]?
section
variable (base p : Nat) (v : Value) (n : Nat) (ms : List Int) (t : Tc) (w : World)
theorem tch_bad (hr : ¬ (0 ≤ t.ix ∧ t.ix < ms.length)) : tstep ms t = ⟨ms, 0, false, 2⟩ := by unfold tstep; rw [if_neg hr]
theorem tch1 (h : MemP base w p v n ms) (hw : t.wt = 1) : Calls Tryd.prog 69 #[.pointer (some ⟨p, 0, none⟩), .int .i64 t.ix, .int .u64 t.x] w (TouchEnd base w p v n (tstep ms t) (errV (tstep ms t).code)) := by
  obtain ⟨A, c, rfl⟩ := own_formM h.own
  by_cases hr : 0 ≤ t.ix ∧ t.ix < ms.length
  · obtain ⟨j, hj⟩ := Int.eq_ofNat_of_zero_le hr.1
    have hjn : j < n := by have := h.len; omega
    obtain ⟨g, c', hv, hc, hf, hb, hset⟩ := h.at_ j hjn
    simp only [Value.slice.injEq] at hv
    obtain ⟨rfl, _, rfl⟩ := hv
    have e1 : tstep ms t = ⟨ms.set j t.x, 0, false, 0⟩ := by unfold tstep; rw [if_pos hr, if_pos hw, hj]; rfl
    rw [e1, hj]
    refine (store_t _ n c w g j _ t.x h.cell hjn hc hf).mono ?_
    rintro e w' ⟨rfl, rfl⟩
    exact ⟨rfl, hset t.x, (Below.refl _ _).setCell hb _, fun b hb' => Below.heap_setCell w _ _ b (by intro e; exact hb' (by simp [Value.ownBlock, e]))⟩
  · rw [tch_bad ms t hr]
    refine (store_f _ A n c w t.ix t.x h.cell (by rw [← h.len]; exact hr)).mono ?_
    rintro e w' ⟨rfl, rfl⟩
    exact ⟨rfl, h, Below.refl _ _, fun _ _ => rfl⟩
theorem tch2 (h : MemP base w p v n ms) (hw : t.wt = 2) : Calls Tryd.prog 70 #[.pointer (some ⟨p, 0, none⟩), .int .i64 t.ix, .int .u64 t.x] w (TouchEnd base w p v n (tstep ms t) (.tuple #[.int .u64 (tstep ms t).got, errV (tstep ms t).code])) := by
  obtain ⟨A, c, rfl⟩ := own_formM h.own
  by_cases hr : 0 ≤ t.ix ∧ t.ix < ms.length
  · obtain ⟨j, hj⟩ := Int.eq_ofNat_of_zero_le hr.1
    have hjn : j < n := by have := h.len; omega
    obtain ⟨g, c', hv, hc, hf, hb, hset⟩ := h.at_ j hjn
    simp only [Value.slice.injEq] at hv
    obtain ⟨rfl, _, rfl⟩ := hv
    have e1 : tstep ms t = ⟨ms.set j (IntKind.u64.wrap (ms.getD j 0 + t.x)), ms.getD j 0, false, 0⟩ := by unfold tstep; rw [if_pos hr, if_neg (by omega), if_pos hw, hj]; rfl
    rw [e1, hj]
    refine (fetch_t _ n c w g j _ t.x h.cell hjn hc hf).mono ?_
    rintro e w' ⟨rfl, rfl⟩
    exact ⟨rfl, hset _, (Below.refl _ _).setCell hb _, fun b hb' => Below.heap_setCell w _ _ b (by intro e; exact hb' (by simp [Value.ownBlock, e]))⟩
  · rw [tch_bad ms t hr]
    refine (fetch_f _ A n c w t.ix t.x h.cell (by rw [← h.len]; exact hr)).mono ?_
    rintro e w' ⟨rfl, rfl⟩
    exact ⟨rfl, h, Below.refl _ _, fun _ _ => rfl⟩
theorem tch3 (h : MemP base w p v n ms) (hw : t.wt = 3) : Calls Tryd.prog 71 #[.pointer (some ⟨p, 0, none⟩), .int .i64 t.ix, .int .u64 t.x, .int .u64 t.y] w (TouchEnd base w p v n (tstep ms t) (.tuple #[.bool (tstep ms t).did, errV (tstep ms t).code])) := by
  obtain ⟨A, c, rfl⟩ := own_formM h.own
  by_cases hr : 0 ≤ t.ix ∧ t.ix < ms.length
  · obtain ⟨j, hj⟩ := Int.eq_ofNat_of_zero_le hr.1
    have hjn : j < n := by have := h.len; omega
    obtain ⟨g, c', hv, hc, hf, hb, hset⟩ := h.at_ j hjn
    simp only [Value.slice.injEq] at hv
    obtain ⟨rfl, _, rfl⟩ := hv
    by_cases hx : ms.getD j 0 = t.x
    · have e1 : tstep ms t = ⟨ms.set j t.y, 0, true, 0⟩ := by unfold tstep; rw [if_pos hr, if_neg (by omega), if_neg (by omega), if_pos hw, hj]; simp only [Int.toNat_natCast]; rw [if_pos hx]
      rw [e1, hj]
      rw [hx] at hc
      refine (swap_t _ n c w g j _ t.y h.cell hjn hc hf).mono ?_
      rintro e w' ⟨rfl, rfl⟩
      exact ⟨rfl, hset _, (Below.refl _ _).setCell hb _, fun b hb' => Below.heap_setCell w _ _ b (by intro e; exact hb' (by simp [Value.ownBlock, e]))⟩
    · have e1 : tstep ms t = ⟨ms, 0, false, 0⟩ := by unfold tstep; rw [if_pos hr, if_neg (by omega), if_neg (by omega), if_pos hw, hj]; simp only [Int.toNat_natCast]; rw [if_neg hx]
      rw [e1, hj]
      refine (swap_n _ n c w g j _ t.x t.y h.cell hjn hc (by simpa using hx)).mono ?_
      rintro e w' ⟨rfl, rfl⟩
      exact ⟨rfl, h, Below.refl _ _, fun _ _ => rfl⟩
  · rw [tch_bad ms t hr]
    refine (swap_f _ A n c w t.ix t.x t.y h.cell (by rw [← h.len]; exact hr)).mono ?_
    rintro e w' ⟨rfl, rfl⟩
    exact ⟨rfl, h, Below.refl _ _, fun _ _ => rfl⟩
theorem tch0 (h : MemP base w p v n ms) (h1 : t.wt ≠ 1) (h2 : t.wt ≠ 2) (h3 : t.wt ≠ 3) : Calls Tryd.prog 72 #[.pointer (some ⟨p, 0, none⟩), .int .i64 t.ix] w (TouchEnd base w p v n (tstep ms t) (.tuple #[.int .u64 (tstep ms t).got, errV (tstep ms t).code])) := by
  obtain ⟨A, c, rfl⟩ := own_formM h.own
  by_cases hr : 0 ≤ t.ix ∧ t.ix < ms.length
  · obtain ⟨j, hj⟩ := Int.eq_ofNat_of_zero_le hr.1
    have hjn : j < n := by have := h.len; omega
    obtain ⟨g, c', hv, hc, hf, hb, hset⟩ := h.at_ j hjn
    simp only [Value.slice.injEq] at hv
    obtain ⟨rfl, _, rfl⟩ := hv
    have e1 : tstep ms t = ⟨ms, ms.getD j 0, false, 0⟩ := by unfold tstep; rw [if_pos hr, if_neg h1, if_neg h2, if_neg h3, hj]; rfl
    rw [e1, hj]
    refine (load_t _ n c w g j _ h.cell hjn hc).mono ?_
    rintro e w' ⟨rfl, rfl⟩
    exact ⟨rfl, h, Below.refl _ _, fun _ _ => rfl⟩
  · rw [tch_bad ms t hr]
    refine (load_f _ A n c w t.ix h.cell (by rw [← h.len]; exact hr)).mono ?_
    rintro e w' ⟨rfl, rfl⟩
    exact ⟨rfl, h, Below.refl _ _, fun _ _ => rfl⟩
end
end Go.Proofs.YtepoahinnfjaiaaDoor
