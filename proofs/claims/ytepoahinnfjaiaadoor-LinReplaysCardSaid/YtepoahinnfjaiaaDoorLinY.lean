/-
  The walks of LinReplays, part two: what comes of calls at points, in the reference. Conditions: calls and points lie below this call's memory.
-/
import Derived.Test.YtepoahinnfjaiaaDoorLinX
import Derived.Deep.DeepCutAuto
import Derived.Deep.LoopGhost
import Derived.IntWalk
namespace Go.Proofs.YtepoahinnfjaiaaDoor
open Go.RowKit Go.Extern.Stop Go.Stop Go.Extern

theorem rr_ok {cs : List (List Cl)} {l : List Pt} {f k : Nat} {s : St} {outs : List Int} {x : Pt} {c c' : Cl} {V : Int} {st : St} {ans : Int} (hx : l[k]? = some x) (hc : getC cs x.th x.ca = some c) (hV : lastK l outs x.th x.ca k = V) (hf : fixC c x.la V = c') (hd : doS s c' = ⟨st, ans, 0⟩) :
    rep cs l (f + 1) k s outs = rep cs l f (k + 1) st (outs ++ [ans]) := by
  subst hV hf
  rw [rep_ok hx hc (by rw [hd]), hd]
theorem rr_bad {cs : List (List Cl)} {l : List Pt} {f k : Nat} {s : St} {outs : List Int} {x : Pt} {c c' : Cl} {V : Int} {st : St} {ans : Int} (hx : l[k]? = some x) (hc : getC cs x.th x.ca = some c) (hV : lastK l outs x.th x.ca k = V) (hf : fixC c x.la V = c') (hd : doS s c' = ⟨st, ans, 1⟩) :
    rep cs l (f + 1) k s outs = ⟨⟨false, 0, 0, 0⟩, [], 1, k⟩ := by
  subst hV hf
  exact rep_bad hx hc (by rw [hd]; exact Int.one_ne_zero)
theorem gC_some {cs : List (List Cl)} {T C : Nat} {l : List Cl} {c : Cl} (h1 : cs[T]? = some l) (h2 : l[C]? = some c) : getC cs (T : Int) (C : Int) = some c := by
  unfold getC
  rw [if_pos ⟨by omega, by omega⟩]
  simp [h1, h2]
theorem gC_th {cs : List (List Cl)} {th ca : Int} {nc : Nat} (hn : cs.length = nc) (h : ¬ (0 ≤ th ∧ th ≤ (nc : Int) - 1)) : getC cs th ca = none := by
  unfold getC
  split
  · rw [List.getElem?_eq_none (by omega)]; rfl
  · rfl
theorem gC_ca {cs : List (List Cl)} {T : Nat} {ca : Int} {l : List Cl} {nl : Nat} (h1 : cs[T]? = some l) (hn : l.length = nl) (h : ¬ (0 ≤ ca ∧ ca ≤ (nl : Int) - 1)) : getC cs (T : Int) ca = none := by
  unfold getC
  split
  · simp only [Int.toNat_natCast, h1, Option.bind_some]
    rw [List.getElem?_eq_none (by omega)]
  · rfl
theorem pfail_end {w w' : World} {code place : Int} {R : Rp} (hb : Below w.heap.size w w') (hR : R = ⟨⟨false, 0, 0, 0⟩, [], code, place⟩) :
    PRepEnd R w (.returned (.tuple #[.agg zst, .slice none 0 0, .agg #[.int .i64 code, .int .i64 place]])) w' := by
  subst hR
  exact ⟨none, 0, rfl, Reads.none_, hb⟩
theorem pdone_end {w w' : World} {s : St} {k c base : Nat} {A : Option Addr} {outs : List Int} {R : Rp} (hb : Below w.heap.size w w') (ho : w'.ownsRow base 3 1 (.slice A k c) k (ints outs)) (hl : outs.length = k) (hR : R = ⟨s, outs, 0, -1⟩) :
    PRepEnd R w (.returned (.tuple #[stv s, .slice A k c, .agg #[.int .i64 0, .int .i64 (-1)]])) w' := by
  subst hR hl
  exact ⟨A, c, rfl, Reads.of_own ho, hb⟩
theorem sb {w' : World} {q : Nat} {s : St} (h : Blk w' q 39 (sta s)) : (w'.cell? ⟨q, 0, none⟩ = some (.bool s.o) ∧ w'.cell? ⟨q, 1, none⟩ = some (.int .i64 s.ph) ∧ w'.cell? ⟨q, 2, none⟩ = some (.int .i64 s.pa) ∧ w'.cell? ⟨q, 3, none⟩ = some (.int .i64 s.wa)) ∧ Blk w' q 39 (sta s) :=
  ⟨⟨h.cell 0, h.cell 1, h.cell 2, h.cell 3⟩, h⟩
/-- What the two blocks of the results read as, written cell by cell. -/
theorem end_cells {W : World} {q : Nat} {cs fs : Array Value} (hZ : Blk W q 39 cs) (hF : Blk W (q + 1) 68 fs) (hc : cs.size = 4) (hf : fs.size = 2) (a b c d e f : Value) :
    Blk ((((((W.setCell ⟨q, 0, none⟩ a).setCell ⟨q, 1, none⟩ b).setCell ⟨q, 2, none⟩ c).setCell ⟨q, 3, none⟩ d).setCell ⟨q + 1, 0, none⟩ e).setCell ⟨q + 1, 1, none⟩ f) q 39 #[a, b, c, d] ∧
    Blk ((((((W.setCell ⟨q, 0, none⟩ a).setCell ⟨q, 1, none⟩ b).setCell ⟨q, 2, none⟩ c).setCell ⟨q, 3, none⟩ d).setCell ⟨q + 1, 0, none⟩ e).setCell ⟨q + 1, 1, none⟩ f) (q + 1) 68 #[e, f] := by
  have h1 := ((((((hZ.set_ 0 a).set_ 1 b).set_ 2 c).set_ 3 d).far (p := ⟨q + 1, 0, none⟩) (by simp) e).far (p := ⟨q + 1, 1, none⟩) (by simp) f)
  have h2 := ((((((hF.far (p := ⟨q, 0, none⟩) (by simp) a).far (p := ⟨q, 1, none⟩) (by simp) b).far (p := ⟨q, 2, none⟩) (by simp) c).far (p := ⟨q, 3, none⟩) (by simp) d).set_ 0 e).set_ 1 f)
  have e1 : (((cs.setIfInBounds 0 a).setIfInBounds 1 b).setIfInBounds 2 c).setIfInBounds 3 d = #[a, b, c, d] := by
    obtain ⟨cl⟩ := cs
    match cl, hc with
    | [_, _, _, _], _ => rfl
  have e2 : (fs.setIfInBounds 0 e).setIfInBounds 1 f = #[e, f] := by
    obtain ⟨cl⟩ := fs
    match cl, hf with
    | [_, _], _ => rfl
  rw [e1] at h1
  rw [e2] at h2
  exact ⟨h1, h2⟩
theorem end_cells' {W : World} {q : Nat} {cs fs : Array Value} (hZ : Blk W q 39 cs) (hF : Blk W (q + 1) 68 fs) (hc : cs.size = 4) (hf : fs.size = 2) (a b c d e f : Value) :
    Blk ((((((W.setCell ⟨q + 1, 0, none⟩ e).setCell ⟨q + 1, 1, none⟩ f).setCell ⟨q, 0, none⟩ a).setCell ⟨q, 1, none⟩ b).setCell ⟨q, 2, none⟩ c).setCell ⟨q, 3, none⟩ d) q 39 #[a, b, c, d] ∧
    Blk ((((((W.setCell ⟨q + 1, 0, none⟩ e).setCell ⟨q + 1, 1, none⟩ f).setCell ⟨q, 0, none⟩ a).setCell ⟨q, 1, none⟩ b).setCell ⟨q, 2, none⟩ c).setCell ⟨q, 3, none⟩ d) (q + 1) 68 #[e, f] := by
  have h1 := ((((((hZ.far (p := ⟨q + 1, 0, none⟩) (by simp) e).far (p := ⟨q + 1, 1, none⟩) (by simp) f).set_ 0 a).set_ 1 b).set_ 2 c).set_ 3 d)
  have h2 := ((((((hF.set_ 0 e).set_ 1 f).far (p := ⟨q, 0, none⟩) (by simp) a).far (p := ⟨q, 1, none⟩) (by simp) b).far (p := ⟨q, 2, none⟩) (by simp) c).far (p := ⟨q, 3, none⟩) (by simp) d)
  have e1 : (((cs.setIfInBounds 0 a).setIfInBounds 1 b).setIfInBounds 2 c).setIfInBounds 3 d = #[a, b, c, d] := by
    obtain ⟨cl⟩ := cs
    match cl, hc with
    | [_, _, _, _], _ => rfl
  have e2 : (fs.setIfInBounds 0 e).setIfInBounds 1 f = #[e, f] := by
    obtain ⟨cl⟩ := fs
    match cl, hf with
    | [_, _], _ => rfl
  rw [e1] at h1
  rw [e2] at h2
  exact ⟨h1, h2⟩
theorem post48 {R : Ending → World → Prop} {tm : Array Value} {W : World} {q : Nat} {a b c d e f v : Value} (hB : Blk W q 39 #[a, b, c, d] ∧ Blk W (q + 1) 68 #[e, f]) (h6 : tm.getD 6 undef = .pointer (some ⟨q, 0, none⟩)) (h7 : tm.getD 7 undef = v)
    (h8 : tm.getD 8 undef = .pointer (some ⟨q + 1, 0, none⟩)) (hR : R (.returned (.tuple #[.agg #[a, b, c, d], v, .agg #[e, f]])) W) : bodyPost Tryd.prog Tryd.f48 R .ret ⟨tm, []⟩ W := by
  have e0 := hB.1.cell 0
  have e1 := hB.1.cell 1
  have e2 := hB.1.cell 2
  have e3 := hB.1.cell 3
  have e4 := hB.2.cell 0
  have e5 := hB.2.cell 1
  simp only [List.getElem?_toArray, List.getElem?_cons_zero, List.getElem?_cons_succ] at e0 e1 e2 e3 e4 e5
  simp only [Array.getD_eq_getD_getElem?] at h6 h7 h8
  exact bodyPost_ret (v := .tuple #[.agg #[a, b, c, d], v, .agg #[e, f]]) (by simp [results, Tryd.results48, go_sem, h6, h7, h8, e0, e1, e2, e3, e4, e5]) rfl hR
theorem blk_far {w : World} {g : Nat} {t : TypeId} {cs : Array Value} {p : Addr} {u : Value} (hp : g ≠ p.block) (h : Blk w g t cs) : Blk (w.setCell p u) g t cs := h.far hp u
theorem PRel.far {w wr : World} {k : Nat} {s : St} {outs : List Int} {v : Value} (h : PRel w k s outs v wr) {p : Addr} (hp : w.heap.size + 1 + 1 + 1 ≤ p.block) (hv : v.ownBlock ≠ some p.block) (u : Value) : PRel w k s outs v (wr.setCell p u) := by
  obtain ⟨h1, h2, h3, h4, h5, h6, h7⟩ := h
  refine ⟨h1.far (by omega) u, h2.far (by omega) u, h3.far (by omega) u, ?_, h5, h6.setCell (by omega) u, by simpa using h7⟩
  refine ⟨h4.1, ?_⟩
  rcases h4.2 with h0 | ⟨g, cap, cur, rfl, ha, hb, hc⟩
  · exact .inl h0
  · have hne : g ≠ p.block := fun e => hv (by subst e; rfl)
    exact .inr ⟨g, cap, cur, rfl, ha, (Below.heap_setCell wr p u g hne).trans hb, hc⟩
theorem own_far {w : World} {base g : Nat} {v : Value} {n : Nat} {xs : List Value} {cs : Array Value} (h : w.ownsRow base 3 1 v n xs) (hB : Blk w g 79 cs) : v.ownBlock ≠ some g := own_blk_ne h hB (by decide)
theorem fix_t {m V : Int} {c : Cl} (h : fixC ⟨9, m⟩ true V = c) : c = ⟨10, max 0 V⟩ := h.symm
theorem fix_f {m V : Int} {c : Cl} (h : fixC ⟨9, m⟩ false V = c) : c = ⟨7, m⟩ := h.symm
theorem fix_n {a m V : Int} {la : Bool} {c : Cl} (ha : a ≠ 9) (h : fixC ⟨a, m⟩ la V = c) : c = ⟨a, m⟩ := by
  unfold fixC at h; rw [if_neg ha] at h; exact h.symm
theorem lastK_hit {l : List Pt} {outs : List Int} {j : Nat} {y : Pt} {T C : Int} (hy : l[j]? = some y) (h1 : y.th = T) (h2 : y.ca = C) (hj : j < outs.length) : lastK l outs T C (j + 1) = outs[j] := by
  unfold lastK
  rw [hy, if_pos (by simp [h1, h2])]
  simp [List.getD_eq_getElem?_getD, List.getElem?_eq_getElem hj]
theorem lastK_miss {l : List Pt} {outs : List Int} {j : Nat} {y : Pt} {T C : Int} (hy : l[j]? = some y) (h : ¬ (y.th = T ∧ y.ca = C)) : lastK l outs T C (j + 1) = lastK l outs T C j := by
  have e : lastK l outs T C (j + 1) = if (l[j]?).map (fun x => (x.th, x.ca)) = some (T, C) then outs.getD j 0 else lastK l outs T C j := rfl
  rw [e, hy, if_neg]
  intro e
  simp at e
  exact h e
theorem PRel.drewN {w wr : World} {k : Nat} {s : St} {outs : List Int} {v : Value} (h : PRel w k s outs v wr) (q : Nat) : PRel w k s outs v (wr.drewN q) := h.below (below_drewN (Below.refl _ _) q)
theorem sbq {w' : World} {q : Nat} {s : St} (h : Blk w' q 39 (sta s)) : (w'.cell? ⟨q, 0, none⟩ = some (.bool s.o) ∧ w'.cell? ⟨q, 1, none⟩ = some (.int .i64 s.ph) ∧ w'.cell? ⟨q, 2, none⟩ = some (.int .i64 s.pa) ∧ w'.cell? ⟨q, 3, none⟩ = some (.int .i64 s.wa)) ∧ Blk w' q 39 (sta s) := sb h
theorem PRel.new {w wr : World} {k : Nat} {s : St} {outs : List Int} {v : Value} (h : PRel w k s outs v wr) (o : Obj) : PRel w k s outs v (wr.alloc o) := h.below ((Below.refl _ _).alloc (Nat.le_refl _) o)
theorem own_ne_new {w wr : World} {k : Nat} {s : St} {outs : List Int} {v : Value} (h : PRel w k s outs v wr) : some wr.heap.size ≠ v.ownBlock := fun e => by
  have := (h.2.2.2.1.lt _ e.symm).2
  omega
theorem within_tq (n lo hi : Int) (w : World) (h1 : lo ≤ n) (h2 : n ≤ hi) : Calls Tryd.prog 78 #[.int .i64 n, .int .i64 lo, .int .i64 hi] w fun e w' => e = .returned (.bool true) ∧ w' = w :=
  (within_t n lo hi w h1 h2).mono fun _ _ ⟨a, b⟩ => ⟨a, b.symm⟩
theorem within_fq (n lo hi : Int) (w : World) (h : n < lo ∨ hi < n) : Calls Tryd.prog 78 #[.int .i64 n, .int .i64 lo, .int .i64 hi] w fun e w' => e = .returned (.bool false) ∧ w' = w :=
  (within_f n lo hi w h).mono fun _ _ ⟨a, b⟩ => ⟨a, b.symm⟩
theorem good_r (w : World) : Calls Tryd.prog 81 #[] w fun e w' => e = .returned (.agg #[.int .i64 0, .int .i64 (-1)]) ∧ w' = w.alloc (.cells #[.int .i64 0, .int .i64 (-1)] 68) := by
  go_enter Tryd.func81, Tryd.ntmps81
  go_wp2
  exact bodyPost_ret (v := .agg #[.int .i64 0, .int .i64 (-1)]) (by simp [results, Tryd.results81, go_sem]) rfl ⟨rfl, rfl⟩
set_option maxRecDepth 100000 in
set_option maxHeartbeats 64000000 in
theorem preplay_calls (s0 : St) (Ac : Option Addr) (nc cc : Nat) (cs : List (List Cl)) (Ap : Option Addr) (n cp B : Nat) (l : List Pt) (w : World) (hl : l.length = n) (hn : n ≤ 100) (hr : Reads w B 4 Ap n (flatP l)) (hB : B ≤ w.heap.size)
    (hcs : CallsIn w B Ac nc cs) (_hnc : nc ≤ 20) (hcl : ∀ c ∈ cs, c.length ≤ 140737488355328) (hwf : ∀ x ∈ l, wfI x.th ∧ wfI x.ca) :
    Calls Tryd.prog 48 #[stv s0, .slice Ac nc cc, .slice Ap n cp] w (PRepEnd (rep cs l n 0 s0 []) w) := by
  obtain ⟨i0, hi0, hz0, hzs1, hz2⟩ := info_parts Tryd.info3f
  have HL := Lib.hid hl
  have HWF := Lib.hid hwf
  have HCL := Lib.hid hcl
  have HCS := Lib.hid hcs
  clear hl hwf hcl hcs
  go_enter Tryd.func48, Tryd.ntmps48
  go_wp2
  have hst := prel_start w s0
  have HST := Lib.hid hst
  clear hst
  go_loopg [20, 9] n (fun g i v wr => ∃ (k : Nat) (s : St) (outs : List Int), k + g = n ∧ i = .int .i64 k ∧ PRel w k s outs v wr ∧ rep cs l n 0 s0 [] = rep cs l g k s outs)
  case atStart => exact ⟨0, s0, [], by omega, rfl, HST.out, rfl⟩
  case round =>
    obtain ⟨k, s, outs, hk, rfl, hrel, hrep⟩ := hrel
    have HRL := Lib.hid hrel
    have HREP := Lib.hid hrep
    clear hrep
    obtain ⟨Av, cv, rfl⟩ := own_formL hrel.2.2.2.1
    obtain ⟨hA, hZ, hF, hown, hol, hbel, hsz⟩ := hrel
    have y1 : w.heap.size + 1 < wr.heap.size := by omega
    have y0 : w.heap.size < wr.heap.size := by omega
    have y2 : w.heap.size + 1 + 1 < wr.heap.size := by omega
    have za0 := hZ.cell 0
    have za1 := hZ.cell 1
    have za2 := hZ.cell 2
    have za3 := hZ.cell 3
    have zb0 := hF.cell 0
    have zb1 := hF.cell 1
    simp at za0 za1 za2 za3 zb0 zb1
    have zf0 := hZ.frozen 0
    have zf1 := hZ.frozen 1
    have zf2 := hZ.frozen 2
    have zf3 := hZ.frozen 3
    have zg0 := hF.frozen 0
    have zg1 := hF.frozen 1
    have HA := Lib.hid hA
    have HZ := Lib.hid hZ
    have HF := Lib.hid hF
    have HOL := Lib.hid hol
    clear hA hZ hF hol
    by_cases hlt : k < n
    · obtain ⟨ap, rfl, _, c0, c1, c2, c3⟩ := (hr.below (hbel.mono hB)).pt HL.out hlt
      have hkl : k < l.length := by rw [HL.out]; exact hlt
      obtain ⟨f, hf⟩ : ∃ f, gk = f + 1 := ⟨gk - 1, by omega⟩
      subst hf
      obtain ⟨x, hx⟩ : ∃ x, l[k]'hkl = x := ⟨_, rfl⟩
      have hw := HWF.out _ (List.getElem_mem hkl)
      have HX := Lib.hid (show l[k]? = some x by rw [List.getElem?_eq_getElem hkl, hx])
      rw [hx] at c0 c1 c2 c3 hw
      clear hx
      obtain ⟨wh, th, ca, la⟩ := x
      simp only at c0 c1 c2 c3 hw
      have HW := Lib.hid hw
      clear hw
      have wnc : IntKind.i64.wrap ((nc : Int) - 1) = (nc : Int) - 1 := IntWalk.i64_in _ (by omega)
      by_cases t0 : 0 ≤ th ∧ th ≤ (nc : Int) - 1
      · obtain ⟨T, rfl⟩ := Int.eq_ofNat_of_zero_le t0.1
        have t1 : T < nc := by omega
        obtain ⟨ac, Ai, ci, rfl, hacB, hci, hri⟩ := (HCS.out.below (hbel.mono hB)).2 T (by rw [HCS.out.1]; exact t1)
        have hTl : T < cs.length := by rw [HCS.out.1]; exact t1
        obtain ⟨li, hli⟩ : ∃ li, cs[T]'hTl = li := ⟨_, rfl⟩
        have HLI := Lib.hid (show cs[T]? = some li by rw [List.getElem?_eq_getElem hTl, hli])
        have hlen := HCL.out _ (List.getElem_mem hTl)
        rw [hli] at hci hri hlen
        clear hli
        obtain ⟨nl, hnl⟩ : ∃ nl, li.length = nl := ⟨_, rfl⟩
        rw [hnl] at hci hri hlen
        have HNL := Lib.hid hnl
        clear hnl
        have t1' : (T : Int) < (nc : Int) := by omega
        have t2' : (0 : Int) ≤ (T : Int) := by omega
        have t3' : (T : Int) ≤ (nc : Int) - 1 := by omega
        have wnl : IntKind.i64.wrap ((nl : Int) - 1) = (nl : Int) - 1 := IntWalk.i64_in _ (by omega)
        have hciW : (wr.alloc (.cells #[.int .i64 wh, .int .i64 (T : Int), .int .i64 ca, .bool la] 151)).cell? (ac.add T) = some (.slice Ai nl ci) := by
          rw [World.cell?_alloc_lt _ _ _ (by rw [block_of_add]; omega)]; exact hci
        clear t0
        by_cases u0 : 0 ≤ ca ∧ ca ≤ (nl : Int) - 1
        · obtain ⟨C, rfl⟩ := Int.eq_ofNat_of_zero_le u0.1
          have u1 : C < nl := by omega
          obtain ⟨al, rfl, halB, f0, f1⟩ := hri.cl HNL.out u1
          have hCl : C < li.length := by rw [HNL.out]; exact u1
          obtain ⟨c, hc⟩ : ∃ c, li[C]'hCl = c := ⟨_, rfl⟩
          rw [hc] at f0 f1
          have HG := Lib.hid (gC_some HLI.out (show li[C]? = some c by rw [List.getElem?_eq_getElem hCl, hc]))
          clear hc hci
          obtain ⟨what, m⟩ := c
          simp only at f0 f1
          have f0W : (wr.alloc (.cells #[.int .i64 wh, .int .i64 (T : Int), .int .i64 (C : Int), .bool la] 151)).cell? (al.add (C * 2)) = some (.int .i64 what) := by
            rw [World.cell?_alloc_lt _ _ _ (by rw [block_of_add]; omega)]; exact f0
          have f1W : (wr.alloc (.cells #[.int .i64 wh, .int .i64 (T : Int), .int .i64 (C : Int), .bool la] 151)).cell? ⟨(al.add (C * 2)).block, (al.add (C * 2)).off + 1, none⟩ = some (.int .i64 m) := by
            rw [World.cell?_alloc_lt _ _ _ (by simp only [block_of_add]; omega)]; exact f1
          have x1 := (Blk.new wr 151 #[.int .i64 wh, .int .i64 (T : Int), .int .i64 (C : Int), .bool la]).cell 1
          have x2 := (Blk.new wr 151 #[.int .i64 wh, .int .i64 (T : Int), .int .i64 (C : Int), .bool la]).cell 2
          simp at x1 x2
          have u1' : (C : Int) < (nl : Int) := by omega
          have u2' : (0 : Int) ≤ (C : Int) := by omega
          have u3' : (C : Int) ≤ (nl : Int) - 1 := by omega
          have hriX := Lib.hid hri
          clear hri u0
          go_wp2
          go_quiet ((go_at_call 78; first | exact Calls.quiet_of_same (within_tq _ _ _ _ (by omega) (by omega)) | exact quiet_add_same (within_tq _ _ _ _ (by omega) (by omega))))
          go_wp2
          go_region_held3 (fun w' => w'.cell? ⟨wr.heap.size, 1, none⟩ = some (.int .i64 (T : Int)) ∧ w'.cell? ⟨wr.heap.size, 2, none⟩ = some (.int .i64 (C : Int)) ∧ w'.cell? (ac.add T) = some (.slice (some al) nl ci) ∧ w'.cell? (al.add (C * 2)) = some (.int .i64 what) ∧ w'.cell? ⟨(al.add (C * 2)).block, (al.add (C * 2)).off + 1, none⟩ = some (.int .i64 m)) (go_keep) (fail)
          go_upto_region 8 with fail
          have hRL8 := HRL.out.below ((below_drewN ((Below.refl wr.heap.size wr).alloc (Nat.le_refl _) (.cells #[.int .i64 wh, .int .i64 (T : Int), .int .i64 (C : Int), .bool la] 151)) (nq + 1)).alloc (by simp) (.cells #[.int .i64 what, .int .i64 m] 79))
          have hX8 := ((Blk.new wr 151 #[.int .i64 wh, .int .i64 (T : Int), .int .i64 (C : Int), .bool la]).drewN (nq + 1)).alloc (.cells #[.int .i64 what, .int .i64 m] 79)
          go_cut [63] (fun s63 wc => s63 = .bool (decide (what = 9) && la) ∧ PRel w k s outs (.slice Av k cv) wc ∧ Blk wc wr.heap.size 151 #[.int .i64 wh, .int .i64 (T : Int), .int .i64 (C : Int), .bool la] ∧ Blk wc (wr.heap.size + 1) 79 #[.int .i64 what, .int .i64 m])
          case first =>
            by_cases hw9 : what = 9
            · subst hw9
              cases la
              all_goals
                go_wp2_with fail
                go_meet
                exact ⟨rfl, hRL8, hX8, blk_at (by simp)⟩
            · have hb9 : (what == 9) = false := by simpa using hw9
              have HW9 := Lib.hid hw9
              clear hw9
              go_wp2_with fail
              go_meet
              exact ⟨by rw [decide_eq_false HW9.out]; rfl, hRL8, hX8, blk_at (by simp)⟩
          case rest =>
            obtain ⟨rfl, hR8, hX8, hC8⟩ := hcut
            obtain ⟨V, hV⟩ : ∃ V, lastK l outs (T : Int) (C : Int) k = V := ⟨_, rfl⟩
            obtain ⟨fc, hfc⟩ : ∃ fc, fixC ⟨what, m⟩ la V = fc := ⟨_, rfl⟩
            obtain ⟨fw, fn⟩ := fc
            have HV := Lib.hid hV
            have HFC := Lib.hid hfc
            have HR8 := Lib.hid hR8
            have HX8 := Lib.hid hX8
            have HC8 := Lib.hid hC8
            clear hV hfc hR8 hX8 hC8 hRL8
            have hCl8 : wr.heap.size + 1 < wc.heap.size := HC8.out.lt
            go_upto_if 63 with fail
            go_cut [13] (fun s13 wd => PRel w k s outs (.slice Av k cv) wd ∧ Blk wd (wr.heap.size + 1) 79 #[.int .i64 fw, .int .i64 fn])
            case first =>
              have hnb : (Value.slice Av k cv).ownBlock ≠ some (wr.heap.size + 1) := own_far HR8.out.2.2.2.1 HC8.out
              have HNB := Lib.hid hnb
              clear hnb
              by_cases hw9 : what = 9
              · subst hw9
                cases la
                · have cc0 := HC8.out.cell 0
                  have cc1 := HC8.out.frozen 0
                  simp at cc0
                  have he := fix_f HFC.out
                  injection he with he1 he2
                  subst he1 he2
                  go_wp2_with fail
                  go_meet
                  exact ⟨HR8.out.far (by simp; omega) HNB.out _, by have h := HC8.out.set_ 0 (.int .i64 7); simpa using h⟩
                · have he := fix_t HFC.out
                  injection he with he1 he2
                  have HE2 := Lib.hid he2
                  clear he2
                  subst he1
                  go_wp2_with fail
                  obtain ⟨wo, rfl⟩ : ∃ wo : World, wo = wr := ⟨_, rfl⟩
                  go_loopg [13, 65] k (fun g s13 s65 wx => ∃ j : Nat, j + g = k ∧ s65 = .int .i64 j ∧ s13 = .int .i64 (lastK l outs (T : Int) (C : Int) j) ∧ PRel w k s outs (.slice Av k cv) wx ∧ Blk wx wo.heap.size 151 #[.int .i64 wh, .int .i64 (T : Int), .int .i64 (C : Int), .bool true] ∧ Blk wx (wo.heap.size + 1) 79 #[.int .i64 9, .int .i64 m])
                  case atStart => exact ⟨0, by omega, rfl, rfl, HR8.out, HX8.out, HC8.out⟩
                  case round =>
                    obtain ⟨j, hj, rfl, rfl, hRj, hXj, hCj⟩ := hrel
                    have HRJ := Lib.hid hRj
                    have HXJ := Lib.hid hXj
                    have HCJ := Lib.hid hCj
                    have hszj : wo.heap.size + 1 < wr.heap.size := hCj.lt
                    have xx1 := hXj.cell 1
                    have xx2 := hXj.cell 2
                    simp at xx1 xx2
                    by_cases hjk : j < k
                    · obtain ⟨ap', hap', hapB, d0', d1', d2', d3'⟩ := (hr.below (hRj.2.2.2.2.2.1.mono hB)).pt HL.out (show j < n by omega)
                      injection hap' with hap'
                      subst hap'
                      have hjl : j < l.length := by rw [HL.out]; omega
                      obtain ⟨y, hy⟩ : ∃ y, l[j]'hjl = y := ⟨_, rfl⟩
                      have HY := Lib.hid (show l[j]? = some y by rw [List.getElem?_eq_getElem hjl, hy])
                      rw [hy] at d0' d1' d2' d3'
                      clear hy
                      obtain ⟨wh', th', ca', la'⟩ := y
                      simp only at d0' d1' d2' d3'
                      obtain ⟨av, uv, hav, havB, huv, hcv⟩ := (Reads.of_own hRj.2.2.2.1).at_ hjk
                      subst hav
                      have hjo : j < outs.length := by rw [HOL.out]; exact hjk
                      have huv' : uv = .int .i64 (outs[j]'hjo) := by
                        have : (ints outs)[j]? = some (.int .i64 (outs[j]'hjo)) := by simp [ints, List.getElem?_eq_getElem hjo]
                        rw [this] at huv; injection huv with huv; exact huv.symm
                      subst huv'
                      clear huv hRj hXj hCj
                      have hjn : (j : Int) < (n : Int) := by omega
                      have hjk' : (j : Int) < (k : Int) := by omega
                      have hj0 : (0 : Int) ≤ (j : Int) := by omega
                      by_cases e1 : th' = (T : Int)
                      · subst e1
                        by_cases e2 : ca' = (C : Int)
                        · subst e2
                          go_wp2_with fail
                          go_quiet (fail)
                          go_wp2_with fail
                          go_roundg (gk - 1)
                          case rel => exact ⟨j + 1, by omega, by go_num, by rw [lastK_hit HY.out rfl rfl hjo], HRJ.out.drewN _, HXJ.out.drewN _, HCJ.out.drewN _⟩
                          case measure => omega
                        · have hb2 : (ca' == (C : Int)) = false := by simpa using e2
                          have E2 := Lib.hid e2
                          clear e2
                          go_wp2_with fail
                          go_quiet (fail)
                          go_wp2_with fail
                          go_roundg (gk - 1)
                          case rel => exact ⟨j + 1, by omega, by go_num, by rw [lastK_miss HY.out (fun h => E2.out h.2)], HRJ.out.drewN _, HXJ.out.drewN _, HCJ.out.drewN _⟩
                          case measure => omega
                      · have hb1 : (th' == (T : Int)) = false := by simpa using e1
                        have E1 := Lib.hid e1
                        clear e1
                        go_wp2_with fail
                        go_quiet (fail)
                        go_wp2_with fail
                        go_roundg (gk - 1)
                        case rel => exact ⟨j + 1, by omega, by go_num, by rw [lastK_miss HY.out (fun h => E1.out h.1)], HRJ.out.drewN _, HXJ.out.drewN _, HCJ.out.drewN _⟩
                        case measure => omega
                    · obtain rfl : j = k := by omega
                      rw [HV.out]
                      have cc0 := HCJ.out.frozen 0
                      have cc1 := HCJ.out.frozen 1
                      have cc2 := HCJ.out.cell 0
                      have cc3 := HCJ.out.cell 1
                      simp at cc2 cc3
                      have hset : ∀ a b : Value, Blk ((wr.setCell ⟨wo.heap.size + 1, 0, none⟩ a).setCell ⟨wo.heap.size + 1, 1, none⟩ b) (wo.heap.size + 1) 79 #[a, b] := fun a b => by
                        have h := (HCJ.out.set_ 0 a).set_ 1 b
                        simpa using h
                      have HSET := Lib.hid hset
                      clear hset hRj hXj hCj
                      by_cases hv0 : V ≤ 0
                      · go_wp2_with fail
                        all_goals go_meet
                        all_goals exact ⟨(HRJ.out.far (by simp; omega) HNB.out _).far (by simp; omega) HNB.out _, by rw [HE2.out]; first | (rw [Int.max_eq_left hv0]; exact HSET.out _ _) | (rw [Int.max_eq_right (by omega)]; exact HSET.out _ _)⟩
                      · have hv1 : 0 < V := by omega
                        have hv2 : ¬ V ≤ 0 := hv0
                        clear hv0
                        go_wp2_with fail
                        all_goals go_meet
                        all_goals exact ⟨(HRJ.out.far (by simp; omega) HNB.out _).far (by simp; omega) HNB.out _, by rw [HE2.out, Int.max_eq_right (by omega)]; exact HSET.out _ _⟩
              · have hb9 : (what == 9) = false := by simpa using hw9
                have he := fix_n hw9 HFC.out
                injection he with he1 he2
                subst he1 he2
                have cc0 := HC8.out.cell 0
                simp at cc0
                go_wp2_with fail
                go_meet
                exact ⟨HR8.out, HC8.out⟩
            case rest =>
              obtain ⟨hRd, hCd⟩ := hcut
              have HRD := Lib.hid hRd
              have HCD := Lib.hid hCd
              have p0 := hRd.1.cell 0
              have p1 := hRd.1.cell 1
              have p2 := hRd.1.cell 2
              have p3 := hRd.1.cell 3
              have q0 := hCd.cell 0
              have q1 := hCd.cell 1
              simp at p0 p1 p2 p3 q0 q1
              clear hRd hCd
              obtain ⟨hdo, herr, han0, han1⟩ := doS_is s ⟨fw, fn⟩
              obtain ⟨d, hd⟩ : ∃ d, doS s ⟨fw, fn⟩ = d := ⟨_, rfl⟩
              rw [hd] at hdo herr han0 han1
              have HDD := Lib.hid hd
              clear hd
              obtain ⟨⟨do_, dph, dpa, dwa⟩, dan, der⟩ := d
              simp only at hdo herr han0 han1
              have HDO := Lib.hid hdo
              clear hdo
              rcases herr with rfl | rfl
              · have HREQ := Lib.hid (HREP.out.trans (rr_ok HX.out HG.out HV.out HFC.out HDD.out))
                go_wp2_with (go_at_call 44; refine (HDO.out.ref _).mono ?_; rintro e w6 ⟨rfl, hb6⟩; have hL6 := HRD.out.below hb6; have HL6 := Lib.hid hL6; clear hL6 hb6)
                have T8 := Lib.hid (own_ne_new HL6.out)
                have HQ := Lib.hid (Blk.new w6 39 (sta ⟨do_, dph, dpa, dwa⟩))
                have hpl : w.heap.size < w6.heap.size := HL6.out.1.lt
                obtain ⟨⟨s0_, s1_, s2_, s3_⟩, sf0, sf1, sf2, sf3⟩ := four HL6.out.1 rfl
                have hw7 : w.heap.size + 1 + 1 + 1 ≤ w6.heap.size := HL6.out.2.2.2.2.2.2
                have L7 := (HL6.out.new (.cells (sta ⟨do_, dph, dpa, dwa⟩) 39)).new (.cells #[.int .i64 dan] 3)
                have M7 := ((prel_set (s' := ⟨do_, dph, dpa, dwa⟩) HL6.out).new (.cells (sta ⟨do_, dph, dpa, dwa⟩) 39)).new (.cells #[.int .i64 dan] 3)
                have HL7 := Lib.hid (L7.below (Below.refl _ _).drew)
                have HM7 := Lib.hid (M7.below (Below.refl _ _).drew)
                have A7 := Lib.hid HL7.out.2.2.2.1
                have B7 := Lib.hid HM7.out.2.2.2.1
                have N1 := Lib.hid (World.news_of_block (blk_at (w := w6.alloc (.cells (sta ⟨do_, dph, dpa, dwa⟩) 39)) (b := w6.heap.size + 1) (t := 3) (cs := #[.int .i64 dan]) (by simp)).drew)
                have N2 := Lib.hid (World.news_of_block (blk_at (w := ((((w6.setCell ⟨w.heap.size, 0, none⟩ (.bool do_)).setCell ⟨w.heap.size, 1, none⟩ (.int .i64 dph)).setCell ⟨w.heap.size, 2, none⟩ (.int .i64 dpa)).setCell ⟨w.heap.size, 3, none⟩ (.int .i64 dwa)).alloc (.cells (sta ⟨do_, dph, dpa, dwa⟩) 39)) (b := w6.heap.size + 1) (t := 3) (cs := #[.int .i64 dan]) (by simp)).drew)
                have T5 := Lib.hid (show ∀ u ∈ [Value.int .i64 dan], u.oneCell' = true by simp [Value.oneCell'])
                have T1 := Lib.hid (show k + 1 ≤ maxLen by unfold maxLen; omega)
                have T2 := Lib.hid (show (k + 1) * 8 ≤ 140737488355328 by omega)
                have P3 := Lib.hid HL7.out.2.2.2.2.2.2
                have Q3 := Lib.hid HM7.out.2.2.2.2.2.2
                have P4 := Lib.hid (show ((w6.alloc (.cells (sta ⟨do_, dph, dpa, dwa⟩) 39)).alloc (.cells #[.int .i64 dan] 3)).drew.heap.size = w6.heap.size + 1 + 1 by simp)
                have Q4 := Lib.hid (show ((((((w6.setCell ⟨w.heap.size, 0, none⟩ (.bool do_)).setCell ⟨w.heap.size, 1, none⟩ (.int .i64 dph)).setCell ⟨w.heap.size, 2, none⟩ (.int .i64 dpa)).setCell ⟨w.heap.size, 3, none⟩ (.int .i64 dwa)).alloc (.cells (sta ⟨do_, dph, dpa, dwa⟩) 39)).alloc (.cells #[.int .i64 dan] 3)).drew.heap.size = w6.heap.size + 1 + 1 by simp)
                have hq0 : w.heap.size ≠ w6.heap.size := by omega
                have TP := Lib.hid (show some w.heap.size ≠ (Value.slice Av k cv).ownBlock from fun e => by have := (HL6.out.2.2.2.1.lt _ e.symm).1; omega)
                clear L7 M7
                go_region_held3 (fun w' => (w'.cell? ⟨w6.heap.size, 0, none⟩ = some (.bool do_) ∧ w'.cell? ⟨w6.heap.size, 1, none⟩ = some (.int .i64 dph) ∧ w'.cell? ⟨w6.heap.size, 2, none⟩ = some (.int .i64 dpa) ∧ w'.cell? ⟨w6.heap.size, 3, none⟩ = some (.int .i64 dwa)) ∧ Blk w' w6.heap.size 39 (sta ⟨do_, dph, dpa, dwa⟩))
                  ((refine sbq (q := w6.heap.size) (s := ⟨do_, dph, dpa, dwa⟩) ?_; first | exact HQ.out.drew | exact Blk.grown (And.right (by assumption)) hg9 T8.out | (repeat (first | with_reducible exact And.right (by assumption) | with_reducible exact HQ.out | with_reducible refine Blk.drew ?_ | with_reducible refine Blk.alloc ?_ _ | (with_reducible refine blk_far ?_ ?_; · (first | (simp; done) | (simp; omega)))))))
                  ((first
                    | (refine step_append_lies _ (by rfl) _ _ _ (by rfl) (w.heap.size + 1 + 1 + 1) 3 i0 _ 1 8 Tryd.underlying50 hi0 hz0 hzs1 hz2 rfl Nat.zero_lt_one (.slice Av k cv) k _ (by rfl) A7.out ⟨w6.heap.size + 1, 0, none⟩ 1 1 [.int .i64 dan] (by rfl) (by rfl) N1.out T5.out Nat.zero_lt_one T1.out T2.out P3.out (w6.heap.size + 1 + 1) P4.out ?_; intro gg cap w9 hown9 hg9 hat9 hlt9; obtain ⟨⟨v0_, v1_, v2_, v3_⟩, vf0, vf1, vf2, vf3⟩ := four (HL7.out.1.grown hg9 TP.out) rfl)
                    | (refine step_append_lies _ (by rfl) _ _ _ (by rfl) (w.heap.size + 1 + 1 + 1) 3 i0 _ 1 8 Tryd.underlying50 hi0 hz0 hzs1 hz2 rfl Nat.zero_lt_one (.slice Av k cv) k _ (by rfl) B7.out ⟨w6.heap.size + 1, 0, none⟩ 1 1 [.int .i64 dan] (by rfl) (by rfl) N2.out T5.out Nat.zero_lt_one T1.out T2.out Q3.out (w6.heap.size + 1 + 1) Q4.out ?_; intro gg cap w9 hown9 hg9 hat9 hlt9; obtain ⟨⟨v0_, v1_, v2_, v3_⟩, vf0, vf1, vf2, vf3⟩ := four (HM7.out.1.grown hg9 TP.out) rfl)))
                all_goals go_wp2
                go_roundg f
                case rel => exact ⟨k + 1, ⟨do_, dph, dpa, dwa⟩, outs ++ [dan], by omega, by go_num, prel_set (prel_append HL7.out hg9 hown9), HREQ.out⟩
                case measure => exact Nat.lt_succ_self f
              · have HREQ := Lib.hid (HREP.out.trans (rr_bad HX.out HG.out HV.out HFC.out HDD.out))
                go_wp2_with (go_at_call 44; refine (HDO.out.ref _).mono ?_; rintro e w6 ⟨rfl, hb6⟩; have hL6 := HRD.out.below hb6; have HL6 := Lib.hid hL6; clear hL6 hb6; obtain ⟨⟨s0_, s1_, s2_, s3_⟩, sf0, sf1, sf2, sf3⟩ := four HL6.out.2.1 rfl; have t0_ := HL6.out.2.2.1.cell 0; have t1_ := HL6.out.2.2.1.cell 1; have tf0 := HL6.out.2.2.1.frozen 0; have tf1 := HL6.out.2.2.1.frozen 1; simp at t0_ t1_; have hz6 : w.heap.size + 1 < w6.heap.size := HL6.out.2.1.lt; have hz7 : w.heap.size + 1 + 1 < w6.heap.size := HL6.out.2.2.1.lt)
                have hE := end_cells HL6.out.2.1 HL6.out.2.2.1 rfl rfl (.bool false) (.int .i64 0) (.int .i64 0) (.int .i64 0) (.int .i64 1) (.int .i64 k)
                have hE1 := hE.1.alloc (.cells #[.bool do_, .int .i64 dph, .int .i64 dpa, .int .i64 dwa] 39)
                have hE2 := hE.2.alloc (.cells #[.bool do_, .int .i64 dph, .int .i64 dpa, .int .i64 dwa] 39)
                refine post48 (q := w.heap.size + 1) ⟨hE1, hE2⟩ rfl rfl rfl ?_
                refine pfail_end ?_ HREQ.out
                repeat (first | with_reducible refine Below.setCell ?_ (by first | omega | (simp <;> omega)) _ | with_reducible refine Below.alloc ?_ (by first | omega | (simp <;> omega)) _)
                exact HL6.out.2.2.2.2.2.1
        · have U0 := Lib.hid u0
          clear u0 hci
          have HRI := Lib.hid hri
          clear hri
          go_wp2
          go_quiet ((go_at_call 78; first | exact Calls.quiet_of_same (within_tq _ _ _ _ (by omega) (by omega)) | exact Calls.quiet_of_same (within_fq _ _ _ _ (by have := U0.out; omega)) | exact quiet_add_same (within_tq _ _ _ _ (by omega) (by omega)) | exact quiet_add_same (within_fq _ _ _ _ (by have := U0.out; omega))))
          go_wp2
          refine post48 (end_cells ((HZ.out.alloc (.cells #[.int .i64 wh, .int .i64 (T : Int), .int .i64 ca, .bool la] 151)).drewN nq) ((HF.out.alloc (.cells #[.int .i64 wh, .int .i64 (T : Int), .int .i64 ca, .bool la] 151)).drewN nq) rfl rfl (.bool false) (.int .i64 0) (.int .i64 0) (.int .i64 0) (.int .i64 2) (.int .i64 k)) rfl rfl rfl ?_
          refine pfail_end ?_ (HREP.out.trans (rep_none HX.out (gC_ca HLI.out HNL.out U0.out)))
          repeat (first | with_reducible refine Below.setCell ?_ (by first | omega | (simp <;> omega)) _ | with_reducible refine below_drewN ?_ _ | with_reducible refine Below.alloc ?_ (by first | omega | (simp <;> omega)) _)
          exact hbel
      · have T0 := Lib.hid t0
        clear t0
        go_wp2
        go_quiet ((go_at_call 78; exact Calls.quiet_of_same (within_fq _ _ _ _ (by have := T0.out; omega))))
        go_wp2
        refine post48 (end_cells ((HZ.out.alloc (.cells #[.int .i64 wh, .int .i64 th, .int .i64 ca, .bool la] 151)).drewN nq) ((HF.out.alloc (.cells #[.int .i64 wh, .int .i64 th, .int .i64 ca, .bool la] 151)).drewN nq) rfl rfl (.bool false) (.int .i64 0) (.int .i64 0) (.int .i64 0) (.int .i64 2) (.int .i64 k)) rfl rfl rfl ?_
        refine pfail_end ?_ (HREP.out.trans (rep_none HX.out (gC_th HCS.out.1 T0.out)))
        repeat (first | with_reducible refine Below.setCell ?_ (by first | omega | (simp <;> omega)) _ | with_reducible refine below_drewN ?_ _ | with_reducible refine Below.alloc ?_ (by first | omega | (simp <;> omega)) _)
        exact hbel
    · obtain rfl : k = n := by omega
      have a0 := HA.out.cell 0
      have a1 := HA.out.cell 1
      have a2 := HA.out.cell 2
      have a3 := HA.out.cell 3
      simp at a0 a1 a2 a3
      have HOWN := Lib.hid hown
      clear hown
      go_wp2
      have hA0 := HA.out
      go_region_held3 (fun w' => (w'.cell? ⟨w.heap.size, 0, none⟩ = some (.bool s.o) ∧ w'.cell? ⟨w.heap.size, 1, none⟩ = some (.int .i64 s.ph) ∧ w'.cell? ⟨w.heap.size, 2, none⟩ = some (.int .i64 s.pa) ∧ w'.cell? ⟨w.heap.size, 3, none⟩ = some (.int .i64 s.wa)) ∧ Blk w' w.heap.size 39 (sta s))
        ((refine sb ?_; repeat (first | with_reducible assumption | with_reducible exact And.right (by assumption) | with_reducible refine Blk.drew ?_ | with_reducible refine Blk.alloc ?_ _ | (with_reducible refine blk_far ?_ ?_; · (first | (simp; done) | (simp; omega)))))) ((go_at_call 81; refine (good_r _).mono ?_; rintro e w6 ⟨rfl, rfl⟩))
      obtain rfl : gk = 0 := by omega
      have HD := Lib.hid (show w.heap.size < w.heap.size + 1 from Nat.lt_succ_self _)
      all_goals go_wp2
      refine post48 ⟨((end_cells HZ.out HF.out rfl rfl _ _ _ _ _ _).1.alloc _).drew, ((end_cells HZ.out HF.out rfl rfl _ _ _ _ _ _).2.alloc _).drew⟩ rfl rfl rfl ?_
      refine pdone_end (base := w.heap.size + 1 + 1 + 1) ?_ ?_ HOL.out (HREP.out.trans (rep_end _ _ _ _ _))
      · refine Below.drew ?_
        repeat (first | with_reducible refine Below.setCell ?_ (by first | omega | (simp <;> omega)) _ | with_reducible refine Below.alloc ?_ (by first | omega | (simp <;> omega)) _)
        exact hbel
      · refine World.ownsRow.drew (World.ownsRow.alloc ?_ _)
        repeat (first | with_reducible refine ownsRow_setCell_below ?_ (by first | omega | (simp <;> omega)) _)
        exact HOWN.out
end Go.Proofs.YtepoahinnfjaiaaDoor
