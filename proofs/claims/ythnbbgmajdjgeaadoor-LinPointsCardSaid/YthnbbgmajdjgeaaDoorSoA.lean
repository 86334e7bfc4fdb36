/- The reference's stable sort, walked: sort.swapRange_func, rotate_func, symMerge_func (functions 89, 72, 58). Conditions: what is asked of the comparison, the exchange and the row ('LS'), the bounds. -/
import Derived.Test.YthnbbgmajdjgeaaDoorSoM
import Derived.Test.YthnbbgmajdjgeaaDoorPlace
import Derived.Deep.QuietTactic
import Derived.BigQuiet
import Derived.Deep.LoopGhost
import Derived.Deep.CutRange
import Derived.Deep.DeepCutAuto
namespace Go.Proofs.YthnbbgmajdjgeaaDoor
open Go.RowKit Go.Sort Go.Shelf Go.Lib
variable {α : Type} [Inhabited α] {lt : α → α → Bool} {enc : α → List Value} {k g : Nat} {lb : Array Value} {sf : Nat} {sb : Array Value} {blk off size : Nat}

/-- What the sort is told of its row, its comparison and its exchange. -/
structure LS (lt : α → α → Bool) (enc : α → List Value) (k g : Nat) (lb : Array Value) (sf : Nat) (sb : Array Value) (blk off size : Nat) (W : World) : Prop where
  hk : ∀ x, (enc x).length = k
  eg : ∀ args w, (callFunc g args).run Tryd.prog w = .ok (.enter g args) w
  less : LessReadsK Tryd.prog g lb enc k lt blk off size W
  swap : SwapSwapsK Tryd.prog sf sb enc k blk off size
  lt : blk < W.heap.size

theorem LS.on {W W' : World} {dk : Array α} (L : LS lt enc k g lb sf sb blk off size W) (S : SWK enc k W blk off dk W') (hs : dk.size = size) : LS lt enc k g lb sf sb blk off size W' :=
  ⟨L.hk, L.eg, S.lessReads L.less L.lt hs, L.swap, S.lt L.lt⟩

theorem swk_trans {W W1 W2 : World} {d1 d2 : Array α} (h1 : SWK enc k W blk off d1 W1) (hb : blk < W.heap.size) (h2 : SWK enc k W1 blk off d2 W2) (hs : d2.size = d1.size) : SWK enc k W blk off d2 W2 := by
  obtain ⟨m, os, rfl⟩ := h2
  exact h1.on hb m d2 os hs

theorem cell_sort_other (W : World) (n : Nat) (dk : Array α) (os : Array Obj) (a : Addr) (h1 : a.block ≠ blk) (h2 : a.block < W.heap.size) : (sortWorldK enc k W blk off n dk os).cell? a = W.cell? a := by
  unfold sortWorldK
  rw [cell?_grow _ _ _ (by rw [size_putRowK]; exact h2), cell?_putRowK_other enc k _ blk off dk a h1]
  rfl

theorem box_at {W wr : World} {f0 f1 : Value} {t : TypeId} {dk : Array α} (h : SWK enc k (W.alloc (.cells #[f0, f1] t)) blk off dk wr) (hb : blk < W.heap.size) :
    wr.cell? ⟨W.heap.size, 0, none⟩ = some f0 ∧ wr.cell? ⟨W.heap.size, 1, none⟩ = some f1 ∧ W.heap.size < wr.heap.size := by
  have hne : W.heap.size ≠ blk := by omega
  have hl : W.heap.size < (W.alloc (.cells #[f0, f1] t)).heap.size := by simp
  have := h.le
  obtain ⟨n, os, rfl⟩ := h
  refine ⟨?_, ?_, by omega⟩
  · rw [cell_sort_other _ n dk os _ hne hl]; simp
  · rw [cell_sort_other _ n dk os _ hne hl]; simp

set_option maxHeartbeats 1000000 in
set_option maxRecDepth 100000 in
theorem swapRange_f (a b n : Nat) (d : Array α) (W : World) (L : LS lt enc k g lb sf sb blk off d.size W) (hH : HoldsK enc k W blk off d) (ha : a + n ≤ d.size) (hb : b + n ≤ d.size) (hsz : d.size < 4611686018427387904) :
    Calls Tryd.prog 89 #[.agg #[.func (.func g) #[] lb, .func (.func sf) #[] sb], .int .i64 a, .int .i64 b, .int .i64 n] W fun e w' => e = .returned (.tuple #[]) ∧ SWK enc k W blk off (swpR a b 0 n d) w' := by
  have S0 : SWK enc k W blk off d (W.alloc (.cells #[.func (.func g) #[] lb, .func (.func sf) #[] sb] 97)) := (SWK.start hH).alloc _
  have L1 := Lib.hid (L.on S0 rfl)
  have hH1 := Lib.hid (S0.holds L.lt hH rfl)
  have HS0 := Lib.hid S0
  have LT := Lib.hid L.lt
  have S1 := Lib.hid (SWK.start hH1.out)
  clear L hH S0
  go_enter Tryd.func89, Tryd.ntmps89
  go_wp2
  go_loopg [8] n (fun g1 vi wr => ∃ (i : Nat) (dk : Array α), vi = .int .i64 i ∧ i + g1 = n ∧ dk.size = d.size ∧ Hid (SWK enc k (W.alloc (.cells #[.func (.func g) #[] lb, .func (.func sf) #[] sb] 97)) blk off dk wr) ∧ Hid (swpR a b i g1 dk = swpR a b 0 n d))
  case atStart => exact ⟨0, d, rfl, by omega, rfl, S1, Lib.hid rfl⟩
  case round =>
    obtain ⟨i, dk, rfl, hi, hds, S, HE⟩ := hrel
    obtain ⟨c0, c1, hlt⟩ := box_at S.out LT.out
    cases gk with
    | zero =>
      have hni : ¬ i < n := by omega
      go_wp2
      go_end0
      exact ⟨rfl, by have h := swk_trans HS0.out LT.out S.out hds; rw [← HE.out]; exact h⟩
    | succ gk =>
      have hni : i < n := by omega
      have hs := L1.out.swap wr dk (S.out.holds L1.out.lt hH1.out hds) hds (a + i) (b + i) (by omega) (by omega)
      rw [show ((a + i : Nat) : Int) = (a : Int) + (i : Int) by omega, show ((b + i : Nat) : Int) = (b : Int) + (i : Int) by omega] at hs
      have S2 := Lib.hid (S.out.swap L1.out.hk L1.out.lt (a + i) (b + i) (by omega) (by omega))
      have hd2 : (swp dk (a + i) (b + i)).size = d.size := by rw [size_swp]; exact hds
      generalize (wr.setCells blk (off + (a + i) * k) (enc dk[b + i]!)).setCells blk (off + (b + i) * k) (enc dk[a + i]!) = w2 at hs S2
      clear S
      go_wp2
      go_roundg gk
      case measure => omega
      case rel => exact ⟨i + 1, _, by go_num, by omega, hd2, S2, HE⟩

set_option maxHeartbeats 1000000 in
set_option maxRecDepth 100000 in
theorem rotate_f (a m b : Nat) (d : Array α) (W : World) (L : LS lt enc k g lb sf sb blk off d.size W) (hH : HoldsK enc k W blk off d) (ham : a < m) (hmb : m < b) (hb : b ≤ d.size) (hsz : d.size < 4611686018427387904) :
    Calls Tryd.prog 72 #[.agg #[.func (.func g) #[] lb, .func (.func sf) #[] sb], .int .i64 a, .int .i64 m, .int .i64 b] W fun e w' => e = .returned (.tuple #[]) ∧ SWK enc k W blk off (rot a m b d) w' := by
  have S0 : SWK enc k W blk off d (W.alloc (.cells #[.func (.func g) #[] lb, .func (.func sf) #[] sb] 97)) := (SWK.start hH).alloc _
  have L1 := Lib.hid (L.on S0 rfl)
  have hH1 := Lib.hid (S0.holds L.lt hH rfl)
  have HS0 := Lib.hid S0
  have LT := Lib.hid L.lt
  have S1 := Lib.hid (SWK.start hH1.out)
  have e1 : ((m - a : Nat) : Int) = (m : Int) - (a : Int) := by omega
  have e2 : ((b - m : Nat) : Int) = (b : Int) - (m : Int) := by omega
  clear L hH S0
  go_enter Tryd.func72, Tryd.ntmps72
  go_wp2
  go_loopg [8, 9] (b - a) (fun g1 vi vj wr => ∃ (i j : Nat) (dk : Array α), vi = .int .i64 i ∧ vj = .int .i64 j ∧ 1 ≤ i ∧ 1 ≤ j ∧ i ≤ m ∧ m + j ≤ d.size ∧ i + j ≤ g1 ∧ dk.size = d.size ∧ Hid (SWK enc k (W.alloc (.cells #[.func (.func g) #[] lb, .func (.func sf) #[] sb] 97)) blk off dk wr) ∧ Hid (rotL m g1 i j dk = rot a m b d))
  case atStart => exact ⟨m - a, b - m, d, by rw [e1], by rw [e2], by omega, by omega, by omega, by omega, by omega, rfl, S1, Lib.hid rfl⟩
  case round =>
    obtain ⟨i, j, dk, rfl, rfl, hi1, hj1, him, hmj, hij, hds, S, HE⟩ := hrel
    obtain ⟨c0, c1, hlt⟩ := box_at S.out LT.out
    obtain ⟨gg, rfl⟩ : ∃ gg, gk = gg + 1 := ⟨gk - 1, by omega⟩
    have LS1 := Lib.hid (L1.out.on S.out hds)
    have LH1 := Lib.hid (S.out.holds L1.out.lt hH1.out hds)
    have emi : ((m - i : Nat) : Int) = (m : Int) - (i : Int) := by omega
    rcases Nat.lt_trichotomy i j with hlt2 | heq | hgt
    · have hne : ¬ i = j := by omega
      have hng : ¬ j < i := by omega
      have hrec : rotL m (gg + 1) i j dk = rotL m gg i (j - i) (swpR (m - i) (m + j - i) 0 i dk) := by rw [rotL, if_neg hne, if_neg hng]
      have HR := Lib.hid (hrec.symm.trans HE.out)
      have hcall := swapRange_f (lt := lt) (sf := sf) (sb := sb) (m - i) (m + j - i) i dk wr (by rw [hds]; exact LS1.out) LH1.out (by omega) (by omega) (by omega)
      rw [emi, show ((m + j - i : Nat) : Int) = (m : Int) + (j : Int) - (i : Int) by omega] at hcall
      have HC := Lib.hid hcall
      clear hcall hrec
      go_wp2_with (go_at_call 89; refine HC.out.mono ?_; rintro e w1 ⟨rfl, hs1⟩)
      go_roundg gg
      case measure => omega
      case rel => exact ⟨i, j - i, _, rfl, by congr 1; omega, hi1, by omega, him, by omega, by omega, (size_swpR _ _ _ _ _).trans hds, Lib.hid (swk_trans S.out L1.out.lt hs1 (size_swpR _ _ _ _ _)), HR⟩
    · subst heq
      have hrec : rotL m (gg + 1) i i dk = swpR (m - i) m 0 i dk := by rw [rotL, if_pos rfl]
      have HR := Lib.hid (hrec.symm.trans HE.out)
      have hcall := swapRange_f (lt := lt) (sf := sf) (sb := sb) (m - i) m i dk wr (by rw [hds]; exact LS1.out) LH1.out (by omega) (by omega) (by omega)
      rw [emi] at hcall
      have HC := Lib.hid hcall
      clear hcall hrec
      go_wp2_with (go_at_call 89; refine HC.out.mono ?_; rintro e w1 ⟨rfl, hs1⟩)
      go_end0
      refine ⟨rfl, ?_⟩
      rw [← HR.out]
      exact swk_trans HS0.out LT.out (swk_trans S.out L1.out.lt hs1 (size_swpR _ _ _ _ _)) ((size_swpR _ _ _ _ _).trans hds)
    · have hne : ¬ i = j := by omega
      have hrec : rotL m (gg + 1) i j dk = rotL m gg (i - j) j (swpR (m - i) m 0 j dk) := by rw [rotL, if_neg hne, if_pos hgt]
      have HR := Lib.hid (hrec.symm.trans HE.out)
      have hcall := swapRange_f (lt := lt) (sf := sf) (sb := sb) (m - i) m j dk wr (by rw [hds]; exact LS1.out) LH1.out (by omega) (by omega) (by omega)
      rw [emi] at hcall
      have HC := Lib.hid hcall
      clear hcall hrec
      go_wp2_with (go_at_call 89; refine HC.out.mono ?_; rintro e w1 ⟨rfl, hs1⟩)
      go_roundg gg
      case measure => omega
      case rel => exact ⟨i - j, j, _, by congr 1; omega, rfl, by omega, hj1, by omega, hmj, by omega, (size_swpR _ _ _ _ _).trans hds, Lib.hid (swk_trans S.out L1.out.lt hs1 (size_swpR _ _ _ _ _)), HR⟩

end Go.Proofs.YthnbbgmajdjgeaaDoor
