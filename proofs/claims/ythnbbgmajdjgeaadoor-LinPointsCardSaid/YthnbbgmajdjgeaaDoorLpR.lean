/- LinPoints, the reference's half: when answers came (the first loop of Points, function 5). Conditions: calls and events lie below this call's memory. -/
import Derived.Test.YthnbbgmajdjgeaaDoorLpG
import Derived.Test.YthnbbgmajdjgeaaDoorLpM
namespace Go.Proofs.YthnbbgmajdjgeaaDoor
open Go.RowKit Go.Extern.Stop Go.Stop Go.Extern

def aS (E : Nat → List Int) (x : Int) : Int := if 0 ≤ x then ((E x.toNat).length : Int) else 0
def qS (E : Nat → List Int) (a b : Int) : Option Int := if 0 ≤ a ∧ 0 ≤ b then (E a.toNat)[b.toNat]? else none
theorem aS_at (E : Nat → List Int) (T : Nat) : aS E (T : Int) = ((E T).length : Int) := by unfold aS; rw [if_pos (by omega), Int.toNat_natCast]
theorem qS_at (E : Nat → List Int) (T k : Nat) : qS E (T : Int) (k : Int) = (E T)[k]? := by unfold qS; rw [if_pos ⟨by omega, by omega⟩, Int.toNat_natCast, Int.toNat_natCast]
theorem aS_upd (E : Nat → List Int) (T : Nat) (v x : Int) : (if x = (T : Int) then ((E T).length : Int) + 1 else aS E x) = aS (updE E T v) x := by
  unfold aS updE
  by_cases h : 0 ≤ x
  · obtain ⟨y, rfl⟩ := Int.eq_ofNat_of_zero_le h
    simp only [if_pos h, Int.toNat_natCast]
    by_cases e : y = T
    · subst e; simp
    · rw [if_neg (by omega), if_neg e]
  · rw [if_neg (by omega), if_neg h, if_neg h]
theorem qS_upd (E : Nat → List Int) (T : Nat) (v a b : Int) : (if a = (T : Int) ∧ b = ((E T).length : Int) then some v else qS E a b) = qS (updE E T v) a b := by
  unfold qS updE
  by_cases h : 0 ≤ a ∧ 0 ≤ b
  · obtain ⟨x, rfl⟩ := Int.eq_ofNat_of_zero_le h.1
    obtain ⟨y, rfl⟩ := Int.eq_ofNat_of_zero_le h.2
    simp only [if_pos h, Int.toNat_natCast]
    by_cases e : x = T
    · subst e
      rw [if_pos rfl]
      by_cases e2 : y = (E x).length
      · subst e2
        rw [if_pos ⟨rfl, rfl⟩, List.getElem?_append_right (Nat.le_refl _)]
        simp
      · rw [if_neg (fun h => e2 (by omega))]
        rcases Nat.lt_or_ge y (E x).length with h3 | h3
        · rw [List.getElem?_append_left h3]
        · rw [List.getElem?_eq_none h3, List.getElem?_eq_none (by rw [List.length_append]; simp only [List.length_cons, List.length_nil]; omega)]
    · rw [if_neg (fun h => e (by omega)), if_neg e]
  · rw [if_neg (fun h2 => h ⟨by omega, by omega⟩), if_neg h, if_neg h]
def RPEnd (R : PR) (w : World) (e : Ending) (w' : World) : Prop :=
  ∃ A c, e = .returned (.tuple #[.slice A R.pts.length c, .agg #[.int .i64 R.code, .int .i64 R.place]]) ∧ Reads w' w'.heap.size 4 A R.pts.length (flatP R.pts) ∧ Below w.heap.size w w'
theorem post5 {R : Ending → World → Prop} {tm : Array Value} {W : World} {q : Nat} {a b v : Value} (hB : Blk W q 29 #[a, b]) (h6 : tm.getD 6 undef = v) (h7 : tm.getD 7 undef = .pointer (some ⟨q, 0, none⟩))
    (hR : R (.returned (.tuple #[v, .agg #[a, b]])) W) : bodyPost Tryd.prog Tryd.f5 R .ret ⟨tm, []⟩ W := by
  have e4 := hB.cell 0
  have e5 := hB.cell 1
  simp only [List.getElem?_toArray, List.getElem?_cons_zero, List.getElem?_cons_succ] at e4 e5
  simp only [Array.getD_eq_getD_getElem?] at h6 h7
  exact bodyPost_ret (v := .tuple #[v, .agg #[a, b]]) (by simp [results, Tryd.results5, go_sem, h6, h7, e4, e5]) rfl hR
theorem bare_f (n : Int) (w : World) : Calls Tryd.prog 12 #[.int .i64 n] w fun e w' => e = .returned (.agg #[.int .i64 n, .int .i64 (-1)]) ∧ w' = w.alloc (.cells #[.int .i64 n, .int .i64 (-1)] 29) := by
  go_enter Tryd.func12, Tryd.ntmps12
  go_wp2
  exact bodyPost_ret (v := .agg #[.int .i64 n, .int .i64 (-1)]) (by simp [results, Tryd.results12, go_sem]) rfl ⟨rfl, rfl⟩
theorem good_f (w : World) : Calls Tryd.prog 16 #[] w fun e w' => e = .returned (.agg #[.int .i64 0, .int .i64 (-1)]) ∧ w' = w.alloc (.cells #[.int .i64 0, .int .i64 (-1)] 29) := by
  go_enter Tryd.func16, Tryd.ntmps16
  go_wp2
  exact bodyPost_ret (v := .agg #[.int .i64 0, .int .i64 (-1)]) (by simp [results, Tryd.results16, go_sem]) rfl ⟨rfl, rfl⟩
theorem rfail {w W : World} {R : PR} {code place : Int} (hR : R = ⟨code, place, []⟩) (hb : Below w.heap.size w W) : RPEnd R w (.returned (.tuple #[.slice none 0 0, .agg #[.int .i64 code, .int .i64 place]])) W := by
  subst hR
  exact ⟨none, 0, rfl, Reads.none_, hb⟩
def REvRel (w : World) (cs : List (List Cl)) (evs : List Ev) (i : Nat) (E : Nat → List Int) (wr : World) : Prop :=
  Blk wr w.heap.size 29 #[.int .i64 0, .int .i64 0] ∧ MapIs 3 .i64 wr (w.heap.size + 1) i (aS E) ∧ MapQ wr (w.heap.size + 1 + 1) i (qS E) ∧
    evF cs (evs.drop i) i E = evF cs evs 0 (fun _ => []) ∧ (∀ t l, cs[t]? = some l → (E t).length ≤ l.length) ∧ (∀ t, (E t).length ≤ i) ∧ Below w.heap.size w wr
theorem REvRel.bad {w wr : World} {cs : List (List Cl)} {acts : List Ac} {evs : List Ev} {i : Nat} {E : Nat → List Int} {e : Ev} (h : REvRel w cs evs i E wr) (hc : ¬ 16 < cs.length) (he : evs[i]? = some e) (hb : ¬ evOk cs E e) : ptsR cs acts evs = ⟨13, i, []⟩ := by
  obtain ⟨_, _, _, h2, _⟩ := h
  obtain ⟨hi, rfl⟩ := List.getElem?_eq_some_iff.1 he
  refine ptsR_false (E := E) hc ?_
  rw [← h2, List.drop_eq_getElem_cons hi, evF_bad hb]
theorem REvRel.start (w : World) (cs : List (List Cl)) (evs : List Ev) : REvRel w cs evs 0 (fun _ => []) (((w.alloc (.cells #[.int .i64 0, .int .i64 0] 29)).alloc (.map #[] 0)).alloc (.map #[] 0)) := by
  have h1 := (MapIs.made (e := 3) (q := .i64) (w.alloc (.cells #[.int .i64 0, .int .i64 0] 29))).alloc (.map #[] 0)
  have h2 := MapQ.made ((w.alloc (.cells #[.int .i64 0, .int .i64 0] 29)).alloc (.map #[] 0))
  simp only [World.size_alloc] at h1 h2
  refine ⟨((Blk.new w 29 _).alloc _).alloc _, h1.congr (fun x _ => ?_), h2.congr (fun a b => ?_), rfl, fun _ _ _ => Nat.zero_le _, fun _ => Nat.le_refl _, (((Below.refl _ _).alloc (Nat.le_refl _) _).alloc (by simp) _).alloc (by simp; omega) _⟩
  · unfold aS; split <;> rfl
  · unfold qS; split <;> simp
theorem REvRel.next {w wr w' : World} {cs : List (List Cl)} {evs : List Ev} {i T : Nat} {E : Nat → List Int} {e : Ev} {l : List Cl} (h : REvRel w cs evs i E wr) (he : evs[i]? = some e) (hw : e.wt = 3) (hT : e.th = T) (hl : cs[T]? = some l) (hlt : (E T).length < l.length)
    (h1 : Blk w' w.heap.size 29 #[.int .i64 0, .int .i64 0]) (h2 : MapIs 3 .i64 w' (w.heap.size + 1) (i + 1) (aS (updE E T e.wh))) (h3 : MapQ w' (w.heap.size + 1 + 1) (i + 1) (qS (updE E T e.wh))) (hb : Below w.heap.size w w') : REvRel w cs evs (i + 1) (updE E T e.wh) w' := by
  obtain ⟨_, _, _, k2, k3, k4, _⟩ := h
  obtain ⟨hi, rfl⟩ := List.getElem?_eq_some_iff.1 he
  have hTl : T < cs.length := (List.getElem?_eq_some_iff.1 hl).1
  refine ⟨h1, h2, h3, ?_, fun t l' hl' => ?_, fun t => ?_, hb⟩
  · rw [← k2, List.drop_eq_getElem_cons hi, evF_ok ⟨hw, by omega, by omega, by rw [hT, Int.toNat_natCast, hl]; exact hlt⟩, hT, Int.toNat_natCast]
  · unfold updE
    by_cases e : t = T
    · subst e
      rw [if_pos rfl, List.length_append]
      rw [hl] at hl'
      injection hl' with hl'
      subst hl'
      simp only [List.length_cons, List.length_nil]
      omega
    · rw [if_neg e]; exact k3 t l' hl'
  · unfold updE
    have := k4 t
    split
    · rw [List.length_append]; simp only [List.length_cons, List.length_nil]; omega
    · omega
/-! ### What stays while points are gathered -/
def FixRel (w : World) (E : Nat → List Int) (n O : Nat) (wr : World) : Prop :=
  Blk wr w.heap.size 29 #[.int .i64 0, .int .i64 0] ∧ MapIs 3 .i64 wr (w.heap.size + 1) n (aS E) ∧ MapQ wr (w.heap.size + 1 + 1) n (qS E) ∧ w.heap.size + 1 + 1 < O ∧ O < wr.heap.size ∧ Below w.heap.size w wr
theorem FixRel.below {w wr w' : World} {E : Nat → List Int} {n O : Nat} (h : FixRel w E n O wr) (hb : Below (O + 1) wr w') : FixRel w E n O w' := by
  obtain ⟨h1, h2, h3, h4, h5, h6⟩ := h
  exact ⟨h1.below hb (by omega), h2.below hb (by omega), h3.below hb (by omega), h4, Nat.lt_of_lt_of_le h5 hb.size, h6.trans (hb.mono (by omega))⟩
def OutC (wr : World) (O : Nat) (v : Value) (out : List Pt) : Prop := Blk wr O 26 #[v] ∧ wr.ownsRow (O + 1) 39 4 v out.length (flatP out)
theorem OutC.below {wr w' : World} {O : Nat} {v : Value} {out : List Pt} (h : OutC wr O v out) (hb : Below wr.heap.size wr w') : OutC w' O v out := ⟨h.1.below hb h.1.lt, own_belowP h.2 hb⟩
theorem OutC.grown {wr w' : World} {O n : Nat} {v u : Value} {out : List Pt} {xs : List Value} (h : OutC wr O v out) (hu : wr.ownsRow (O + 1) 57 6 u n xs) (hg : wr.grownBy w' u.ownBlock) : OutC w' O v out :=
  ⟨h.1.grown hg (fun e => own_blk_ne hu h.1 (by decide) e.symm), h.2.kept hg (own_ne_type h.2 hu (by decide))⟩
theorem below_row {wr w' : World} {O n size : Nat} {e : TypeId} {u : Value} {xs : List Value} (hu : wr.ownsRow (O + 1) e size u n xs) (hO : O < wr.heap.size) (hg : wr.grownBy w' u.ownBlock) : Below (O + 1) wr w' :=
  (Below.refl _ _).grown hg (by omega) (fun g e => (hu.lt g e).1)
def Dis (v1 v2 : Value) : Prop := ∀ g, v1.ownBlock = some g → v2.ownBlock ≠ some g
theorem Dis.symm {v1 v2 : Value} (h : Dis v1 v2) : Dis v2 v1 := fun g e1 e2 => h g e2 e1
def Half (wr : World) (O : Nat) (v1 v2 : Value) (ml cl : List Ac) : Prop :=
  wr.ownsRow (O + 1) 57 6 v1 ml.length (flatA ml) ∧ wr.ownsRow (O + 1) 57 6 v2 cl.length (flatA cl) ∧ Dis v1 v2
theorem Half.symm {wr : World} {O : Nat} {v1 v2 : Value} {ml cl : List Ac} (h : Half wr O v1 v2 ml cl) : Half wr O v2 v1 cl ml := ⟨h.2.1, h.1, h.2.2.symm⟩
theorem Half.below {wr w' : World} {O : Nat} {v1 v2 : Value} {ml cl : List Ac} (h : Half wr O v1 v2 ml cl) (hb : Below wr.heap.size wr w') : Half w' O v1 v2 ml cl := ⟨own_belowP h.1 hb, own_belowP h.2.1 hb, h.2.2⟩
theorem Half.push {wr w' : World} {O : Nat} {v1 v2 v' : Value} {ml cl : List Ac} {a : Ac} (h : Half wr O v1 v2 ml cl) (hown : w'.ownsRow (O + 1) 57 6 v' (ml.length + 1) (flatA ml ++ acc a)) (hg : wr.grownBy w' v1.ownBlock) (hat : v'.ownBlock = v1.ownBlock ∨ v'.ownBlock = some wr.heap.size) :
    Half w' O v' v2 (ml ++ [a]) cl := by
  obtain ⟨h1, h2, h3⟩ := h
  refine ⟨?_, h2.kept hg ?_, fun g e1 e2 => ?_⟩
  · rw [List.length_append, flatA_append]
    simpa [flatA] using hown
  · cases e : v2.ownBlock with
    | none => exact .inl rfl
    | some g => exact .inr fun e2 => h3 g e2.symm e
  · rcases hat with hat | hat
    · rw [hat] at e1; exact h3 g e1 e2
    · rw [hat] at e1
      injection e1 with e1
      have := (h2.lt g e2).2
      omega
def MineR (wr : World) (O : Nat) (t fr tt : Int) (done : Bool) (acts : List Ac) (j : Nat) (v1 v2 : Value) (ml cl : List Ac) : Prop :=
  Half wr O v1 v2 ml cl ∧ effS t fr tt done (acts.drop j) (cl.getLast?.map Ac.wh, ml.getLast?.map Ac.wh) = effS t fr tt done acts (none, none) ∧ ml.length ≤ j ∧ cl.length ≤ j
theorem MineR.start (wr : World) (O : Nat) (t fr tt : Int) (done : Bool) (acts : List Ac) : MineR wr O t fr tt done acts 0 (.slice none 0 0) (.slice none 0 0) [] [] :=
  ⟨⟨World.ownsRow_nil _ _ _ _, World.ownsRow_nil _ _ _ _, fun _ e => by cases e⟩, rfl, Nat.le_refl _, Nat.le_refl _⟩
theorem MineR.skip {wr w' : World} {O : Nat} {t fr tt : Int} {done : Bool} {acts : List Ac} {j : Nat} {v1 v2 : Value} {ml cl : List Ac} {a : Ac} (h : MineR wr O t fr tt done acts j v1 v2 ml cl) (ha : acts[j]? = some a) (hm : isMine t fr tt done a = false) (hb : Below wr.heap.size wr w') :
    MineR w' O t fr tt done acts (j + 1) v1 v2 ml cl := by
  obtain ⟨h1, h4, h5, h6⟩ := h
  obtain ⟨hi, rfl⟩ := List.getElem?_eq_some_iff.1 ha
  refine ⟨h1.below hb, ?_, by omega, by omega⟩
  rw [← h4, List.drop_eq_getElem_cons hi, effS_skip hm]
theorem MineR.one {wr w' : World} {O : Nat} {t fr tt : Int} {done : Bool} {acts : List Ac} {j : Nat} {v1 v2 v1' : Value} {ml cl : List Ac} {a : Ac} (h : MineR wr O t fr tt done acts j v1 v2 ml cl) (ha : acts[j]? = some a) (hm : isMine t fr tt done a = true) (hc : isChg a = false) (hh : Half w' O v1' v2 (ml ++ [a]) cl) :
    MineR w' O t fr tt done acts (j + 1) v1' v2 (ml ++ [a]) cl := by
  obtain ⟨h1, h4, h5, h6⟩ := h
  obtain ⟨hi, rfl⟩ := List.getElem?_eq_some_iff.1 ha
  refine ⟨hh, ?_, by rw [List.length_append]; simp only [List.length_cons, List.length_nil]; omega, by omega⟩
  rw [← h4, List.drop_eq_getElem_cons hi, effS_last hm hc]
  simp
theorem MineR.two {wr w' : World} {O : Nat} {t fr tt : Int} {done : Bool} {acts : List Ac} {j : Nat} {v1 v2 v1' v2' : Value} {ml cl : List Ac} {a : Ac} (h : MineR wr O t fr tt done acts j v1 v2 ml cl) (ha : acts[j]? = some a) (hm : isMine t fr tt done a = true) (hc : isChg a = true) (hh : Half w' O v1' v2' (ml ++ [a]) (cl ++ [a])) :
    MineR w' O t fr tt done acts (j + 1) v1' v2' (ml ++ [a]) (cl ++ [a]) := by
  obtain ⟨h1, h4, h5, h6⟩ := h
  obtain ⟨hi, rfl⟩ := List.getElem?_eq_some_iff.1 ha
  refine ⟨hh, ?_, by rw [List.length_append]; simp only [List.length_cons, List.length_nil]; omega, by rw [List.length_append]; simp only [List.length_cons, List.length_nil]; omega⟩
  rw [← h4, List.drop_eq_getElem_cons hi, effS_both hm hc]
  simp
theorem acc_one (a : Ac) : ∀ u ∈ acc a, u.oneCell' = true := by
  intro u hu
  simp only [acc, List.mem_cons, List.not_mem_nil, or_false] at hu
  rcases hu with rfl | rfl | rfl | rfl | rfl | rfl <;> rfl
theorem Tryd.info57p : (Tryd.prog.info? 57).map (fun i => (i.zero, i.size, i.bytes)) = some (some zAc, 6, 48) := by kernel_rfl
theorem rdone {w w1 : World} {R : PR} {out : List Pt} {A : Option Addr} {c : Nat} {u v : Value} {o : Obj} (hR : R = ⟨0, -1, sortP out⟩) (hr : Reads w1 w1.heap.size 4 A out.length (flatP (sortP out))) (hA : ∀ ad, A = some ad → ad.block ≠ w.heap.size) (hb : Below w.heap.size w w1) :
    RPEnd R w (.returned (.tuple #[.slice A out.length c, .agg #[.int .i64 0, .int .i64 (-1)]])) (((w1.setCell ⟨w.heap.size, 0, none⟩ u).setCell ⟨w.heap.size, 1, none⟩ v).alloc o).drew := by
  subst hR
  have hb2 := ((hb.setCell (p := ⟨w.heap.size, 0, none⟩) (Nat.le_refl _) u).setCell (p := ⟨w.heap.size, 1, none⟩) (Nat.le_refl _) v)
  refine ⟨A, c, by simp only [sortP_len], ?_, below_dr (hb2.alloc hb2.size o)⟩
  simp only [sortP_len]
  refine ⟨hr.1, fun hn => ?_⟩
  obtain ⟨ad, e, hbl, hc⟩ := hr.2 hn
  have hne := hA ad e
  refine ⟨ad, e, by simp; omega, fun j x hx => ?_⟩
  have hbj : (ad.add j).block = ad.block := block_of_add ad j
  show (World.alloc _ o).cell? _ = _
  rw [World.cell?_alloc_lt _ _ _ (by rw [hbj]; simpa using hbl), World.cell?_setCell_other _ _ _ _ (fun h => hne (by rw [← hbj, ← h])), World.cell?_setCell_other _ _ _ _ (fun h => hne (by rw [← hbj, ← h]))]
  exact hc j x hx
theorem step_build39 {ops : Array Oper} {o : Oper} {a : Act} {w : World} {K : Act → World → Prop} {Q : Exit → Act → World → Prop} {E : Prop} (hgd : o.guard = none) (x : Operand) (ho : o.op = .buildSlice 26 1 #[(0, x)])
    (c0 c1 c2 c3 : Value) (hx : a.eval x = .agg #[c0, c1, c2, c3]) (h : K (a.put o.dst (.slice (some ⟨w.heap.size, 0, none⟩) 1 1)) (w.alloc (.cells #[c0, c1, c2, c3] 39))) :
    if Region.wanted o (yielded ops a.tmps) = true then Oper.wp Tryd.prog o a w K Q else E := by
  have hw : Region.wanted o (yielded ops a.tmps) = true := by simp [Region.wanted, hgd]
  rw [if_pos hw]
  refine wp_buildSlice 26 39 1 _ ho #[c0, c1, c2, c3] Tryd.ptE zPt Tryd.underlying26 (by kernel_rfl) (by kernel_rfl) (by rw [Tryd.ptS]; omega) (by rw [Tryd.ptS]; omega) ?_ h
  rw [Tryd.ptS]
  simp only [List.map_toArray, List.map_cons, List.map_nil, hx]
  exact fill4 c0 c1 c2 c3
end Go.Proofs.YthnbbgmajdjgeaaDoor
