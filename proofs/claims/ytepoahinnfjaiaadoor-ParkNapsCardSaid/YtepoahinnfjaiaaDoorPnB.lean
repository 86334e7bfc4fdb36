/-
  The walk of ParkNaps in the reference: waking. Conditions: the lot is this call's own.
-/
import Derived.Test.YtepoahinnfjaiaaDoorPnA
namespace Go.Proofs.YtepoahinnfjaiaaDoor
open Go.RowKit Go.Extern.Stop Go.Stop Go.Extern
attribute [local go_sem ↓] Go.wp_at_zero Go.wp_at_succ

theorem own_cut1 {w : World} {base g n c m : Nat} {e : TypeId} {xs : List Value} (h : w.ownsRow base e 1 (.slice (some ⟨g, 0, none⟩) n c) n xs) (hm : m ≤ n) :
    w.ownsRow base e 1 (.slice (some ⟨g, 0, none⟩) m c) m (xs.take m) := by
  obtain ⟨h1, h2⟩ := h
  refine ⟨by simp; omega, ?_⟩
  rcases h2 with ⟨h2, _⟩ | ⟨g', cap, cur, hv, hb, hk, hc, hm', hs, ht⟩
  · simp at h2
  · simp only [Value.slice.injEq, Option.some.injEq, Addr.mk.injEq, and_true, true_and] at hv
    obtain ⟨rfl, rfl⟩ := hv
    refine .inr ⟨g, c, cur, rfl, hb, hk, by omega, hm', hs, ?_⟩
    rw [← ht, List.take_take]
    congr 1
    omega
theorem slice_head (T : TypeId) (hT : Tryd.prog.underlying T = some (.slice (Tryd.prog.elem T))) (k : Nat) (hk : ∀ W, (Go.sizeOf (Tryd.prog.elem T)).run Tryd.prog W = .ok k W) (A : Option Addr) (hA : A = none ∨ ∃ g, A = some ⟨g, 0, none⟩) (l c q : Nat) (hq : q ≤ c) (W : World) :
    (Instr.sliceAt T (.slice A l c) none (some (.int .i64 (q : Int))) none).run Tryd.prog W = .ok (.slice A q c) W := by
  rw [run_sliceAt_slice W T _ _ _ _ hT, run_slice_h W T A l c hT .i64 (q : Int) (by omega) (by omega), hk]
  rcases hA with rfl | ⟨g, rfl⟩ <;> simp [Result.andThen, sliced, Addr.add]
/-- Those whom a waking has struck so far. -/
def strF (L : List Sl) (xs : List Int) (t : Int) : Option Int := if t ∈ xs then none else sinceF L t
theorem strF_snoc (L : List Sl) (xs : List Int) (y : Int) (t : Int) : (if t = y then none else strF L xs t) = strF L (xs ++ [y]) t := by
  unfold strF
  by_cases h : t = y
  · subst h; simp
  · simp [h]
theorem strF_end {n : Nat} {s : Lt} (h : LtOk n s) (c m : Int) (t : Int) : strF s.L (wk c m s.L).2 t = sinceF (wk c m s.L).1 t := by
  rw [wk_kept c m s.L h.dis]
  have := sinceF_del s.L (fun y => !((wk c m s.L).2.contains y)) t
  rw [this]
  unfold strF
  by_cases ht : t ∈ (wk c m s.L).2 <;> simp [ht]
theorem wk_sub {n : Nat} {s : Lt} (h : LtOk n s) (c m : Int) : ∀ e ∈ (wk c m s.L).1, e ∈ s.L := fun e he => by
  rw [wk_kept c m s.L h.dis] at he
  exact (List.mem_filter.1 he).1
def RWEnd (base : Nat) (w : World) (r a b n : Nat) (xs : List Int) (s : Lt) (e : Ending) (w' : World) : Prop :=
  ∃ v, e = .returned v ∧ RowAt w.heap.size w' v xs ∧ LotR base w' r a b n s ∧ Below base w w' ∧ FrR w w'
/-- The lot while those who are woken are struck. -/
structure StrR (base : Nat) (w : World) (r a b n : Nat) (s : Lt) (xs : List Int) : Prop where
  blk : Blk w r 159 #[.int .i64 n, .int .i64 s.clk, .map (some a), .map (some b)]
  since : MapO 3 .i64 w a s.clk (strF s.L xs)
  wher : ∃ F, MapO 3 .i64 w b s.clk F ∧ ∀ e ∈ s.L, F e.th = some e.ce
  ab : a ≠ b
  lo : base ≤ r ∧ base ≤ a ∧ base ≤ b
  ra : r ≠ a
theorem LotR.str {base : Nat} {w : World} {r a b n : Nat} {s : Lt} (h : LotR base w r a b n s) : StrR base w r a b n s [] :=
  ⟨h.blk, h.since.congr (fun t => by simp [strF]), h.wher, h.ab, h.lo, h.ne.1⟩
theorem StrR.lot {base : Nat} {w : World} {r a b n : Nat} {s : Lt} {c m : Int} (h : StrR base w r a b n s (wk c m s.L).2) (hok : LtOk n s) : LotR base w r a b n (wakS c m s) := by
  obtain ⟨F, hF, hw⟩ := h.wher
  exact ⟨h.blk, h.since.congr (strF_end hok c m), ⟨F, hF, fun e he => hw e (wk_sub hok c m e he)⟩, h.ab, h.lo⟩
theorem wk_shape {w1 : World} {b0 q : Nat} {v : Value} {xs : List Int} (h : w1.ownsRow b0 3 1 v xs.length (ints xs)) (hql : q ≤ xs.length) :
    ∃ A cp, v = .slice A xs.length cp ∧ q ≤ cp ∧ (A = none ∨ ∃ g, A = some ⟨g, 0, none⟩) ∧ w1.ownsRow b0 3 1 (.slice A q cp) q (ints (xs.take q)) := by
  rcases h.2 with ⟨hv, h0⟩ | ⟨g, cap, cur, hv, _, _, hc, _⟩
  · obtain rfl : q = 0 := by omega
    exact ⟨none, 0, by rw [hv, h0], Nat.le_refl _, .inl rfl, ⟨by simp [ints], .inl ⟨rfl, rfl⟩⟩⟩
  · subst hv
    have := own_cut1 h hql
    refine ⟨_, cap, rfl, by omega, .inr ⟨g, rfl⟩, ?_⟩
    rw [show ints (xs.take q) = (ints xs).take q by simp [ints]]
    exact this
section
variable {base : Nat} {w : World} {r a b n : Nat} {s : Lt}
set_option maxRecDepth 100000 in
set_option maxHeartbeats 4000000 in
theorem rwake (h : LotR base w r a b n s) (hok : LtOk n s) (hn : n ≤ 16) (hclk : s.clk ≤ 1000) (c m : Int) :
    Calls Tryd.prog 56 #[.pointer (some ⟨r, 0, none⟩), .int .i64 c, .int .i64 m] w (RWEnd base w r a b n (wk c m s.L).2 (wakS c m s)) := by
  have hat := rat h hok hn hclk c
  have hlts := h.lts
  have HL := Lib.hid h
  have HK := Lib.hid hok
  have HAT := Lib.hid hat
  have hwf : ∀ x ∈ atL c s.L, wfI x := fun x hx => by
    obtain ⟨e, he, rfl⟩ := atL_th hx
    have := hok.rng e he
    exact wfI_in (by omega) (by omega)
  have hlen := Nat.le_trans (atL_len c s.L) hok.len
  have hout := wk_out c m s.L
  obtain ⟨xs, hxs⟩ : ∃ xs, atL c s.L = xs := ⟨_, rfl⟩
  rw [hxs] at HAT hwf hlen hout
  have HWF := Lib.hid hwf
  have HOUT := Lib.hid hout
  have hbase : base ≤ w.heap.size := by have := h.lo.1; omega
  clear h hok hat hwf hout hxs
  obtain ⟨q, hq⟩ : ∃ q, q = min m.toNat xs.length := ⟨_, rfl⟩
  have htk : (wk c m s.L).2 = xs.take q := by
    rw [HOUT.out, hq]
    by_cases h1 : m.toNat ≤ xs.length
    · rw [Nat.min_eq_left h1]
    · rw [Nat.min_eq_right (by omega), List.take_of_length_le (by omega), List.take_of_length_le (Nat.le_refl _)]
  have HTK := Lib.hid htk
  have hql : q ≤ xs.length := by omega
  have hcase : (m < 0 ∧ q = 0) ∨ (0 ≤ m ∧ m ≤ xs.length ∧ m = (q : Int)) ∨ ((xs.length : Int) < m ∧ q = xs.length) := by omega
  clear htk hq
  go_enter Tryd.func56, Tryd.ntmps56
  have hmm : max 0 (min m (xs.length : Int)) = (q : Int) := by omega
  clear hcase
  go_wp2_with (go_at_call 62; refine HAT.out.mono ?_; rintro e w1 ⟨v, rfl, ho1, hb1⟩; have HB1 := Lib.hid hb1; obtain ⟨A, cp, rfl, hqc, hA, hoq⟩ := wk_shape ho1 hql; have hsl := slice_head 50 (by simp [Program.elem, Tryd.underlying50]) 1 (fun W => by simp only [Program.elem, Tryd.underlying50]; exact Tryd.sizeOf3 W) A hA xs.length cp q hqc; clear ho1 hb1; have HOQ := Lib.hid hoq; have HA := Lib.hid hA; clear hoq hA hqc)
  have hst := Lib.hid ((HL.out.below HB1.out hlts).str)
  have hbb := Lib.hid (HB1.out.mono hbase)
  have hff := Lib.hid (FrR.of HB1.out)
  have hsz1 := HB1.out.size
  go_loopw [22] (fun i wr => ∃ j : Nat, j ≤ q ∧ i = .int .i64 j ∧ StrR base wr r a b n s (xs.take j) ∧ wr.ownsRow w.heap.size 3 1 (.slice A q cp) q (ints (xs.take q)) ∧ Below base w wr ∧ FrR w wr) (fun i _ => q - (intOf i).toNat)
  case atStart => exact ⟨0, Nat.zero_le _, rfl, hst.out, HOQ.out, hbb.out, hff.out⟩
  case round =>
    obtain ⟨j, hj, rfl, hS, hO, hB, hF⟩ := hrel
    have HS := Lib.hid hS
    have HO := Lib.hid hO
    have HB := Lib.hid hB
    have HF := Lib.hid hF
    have c2 := hS.blk.cell 2
    simp at c2
    clear hS hO hB hF
    by_cases hlt : j < q
    · obtain ⟨g, rfl⟩ : ∃ g, A = some ⟨g, 0, none⟩ := by
        rcases HA.out with h | h
        · subst h
          rcases HO.out.2 with ⟨_, h0⟩ | ⟨g, cap, cur, hv, _⟩
          · omega
          · simp at hv
        · exact h
      have hjl : j < xs.length := by have := HO.out.1; simp [ints] at this; omega
      have hcell := HO.out.cells (g := g) rfl j (.int .i64 xs[j]) (by simp [ints, hlt, hjl])
      have e : Addr.add ⟨g, 0, none⟩ j = ⟨g, j, none⟩ := by unfold Addr.add; split <;> simp_all
      rw [e] at hcell
      clear e
      have hwy := HWF.out _ (List.getElem_mem hjl)
      have htake := List.take_succ_eq_append_getElem hjl
      obtain ⟨y, hy⟩ : ∃ y, xs[j] = y := ⟨_, rfl⟩
      rw [hy] at hcell hwy htake
      obtain ⟨w2, hrun, hm2, hg2, hs2⟩ := HS.out.since.delete Tryd.underlying141 0 y hwy
      have HFIN := Lib.hid (show StrR base w2 r a b n s (xs.take (j + 1)) ∧ w2.ownsRow w.heap.size 3 1 (.slice (some ⟨g, 0, none⟩) q cp) q (ints (xs.take q)) ∧ Below base w w2 ∧ FrR w w2 by
        obtain ⟨F, hF, hw⟩ := HS.out.wher
        have hab := HS.out.ab
        have hra := HS.out.ra
        refine ⟨⟨HS.out.blk.grown hg2 (by simp; exact hra), hm2.congr (fun t => by rw [htake]; exact strF_snoc _ _ _ _), ⟨F, hF.grown hg2 (by simp; omega), hw⟩, hab, HS.out.lo, hra⟩, HO.out.kept hg2 (.inr (own_map_ne HO.out HS.out.since)), HB.out.grown hg2 (by have := HS.out.lo.2.1; have := HS.out.since.lt; omega) (fun g hg => by cases hg; exact HS.out.lo.2.1), HF.out.trans (FrR.map hg2 HS.out.since.notCells)⟩)
      clear hy hwy htake hm2 hg2 hs2 hjl
      go_wp2
      go_roundw
      case rel => exact ⟨j + 1, by omega, by go_num, HFIN.out⟩
      case measure => simp [intOf]; omega
    · obtain rfl : j = q := by omega
      have HEND := Lib.hid (show RWEnd base w r a b n (wk c m s.L).2 (wakS c m s) (.returned (.slice A j cp)) wr by
        refine ⟨_, rfl, ?_, StrR.lot (by rw [HTK.out]; exact HS.out) HK.out, HB.out, HF.out⟩
        unfold RowAt
        rw [HTK.out]
        have h := HO.out
        have hl : (xs.take j).length = j := by have := h.1; simp [ints] at this; simp; omega
        rw [hl]
        exact h)
      go_wp2
      go_ret
      exact HEND.out
end
end Go.Proofs.YtepoahinnfjaiaaDoor
