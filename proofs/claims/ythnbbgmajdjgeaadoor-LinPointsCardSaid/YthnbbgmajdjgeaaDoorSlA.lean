/- The program's stable sort, walked: slices.swapRangeCmpFunc, rotateCmpFunc (functions 90, 73). Conditions: what is asked of the comparison and the row ('CS'), the bounds. -/
import Derived.Test.YthnbbgmajdjgeaaDoorSoM
import Derived.Test.YthnbbgmajdjgeaaDoorProg
import Derived.Shelf.SlSortCmp.KitK
import Derived.Deep.QuietTactic
import Derived.BigQuiet
import Derived.Lib.Hide
import Derived.Deep.LoopGhost
import Derived.Deep.CutRange
import Derived.Deep.DeepCutAuto
namespace Go.Proofs.YthnbbgmajdjgeaaDoor
open Go.RowKit Go.Sort Go.Shelf Go.Lib
variable {P : Program} {k : Nat} {α : Type} [Inhabited α] {cf : α → α → Int} {enc : α → List Value} {g : Nat} {cb : Array Value} {blk off size : Nat}

/-- A program that bears the sort's bodies; its element has k cells. -/
structure SB (P : Program) (k : Nat) : Prop where
  mixed : P.follows .mixedOrders = true
  f34 : P.funcs[34]? = some Tryd.f34
  f59 : P.funcs[59]? = some Tryd.f59
  f60 : P.funcs[60]? = some Tryd.f60
  f73 : P.funcs[73]? = some Tryd.f73
  f90 : P.funcs[90]? = some Tryd.f90
  t3 : P.underlying 3 = some (TypeDesc.int IntKind.i64)
  a3 : ∀ w, (isAgg 3).run P w = .ok false w
  z3 : ∀ w, (Go.sizeOf 3).run P w = .ok 1 w
  t139 : P.underlying 139 = some (TypeDesc.int IntKind.u64)
  t4 : P.underlying 4 = some (TypeDesc.bool)
  t26 : P.underlying 26 = some (TypeDesc.slice 39)
  a26 : ∀ w, (isAgg 26).run P w = .ok false w
  z26 : ∀ w, (Go.sizeOf 26).run P w = .ok 1 w
  a39 : ∀ w, (isAgg 39).run P w = .ok true w
  z39 : ∀ w, (Go.sizeOf 39).run P w = .ok k w
theorem Tryd.sb : SB Tryd.prog 4 where
  mixed := by kernel_rfl
  f34 := Tryd.func34
  f59 := Tryd.func59
  f60 := Tryd.func60
  f73 := Tryd.func73
  f90 := Tryd.func90
  t3 := by kernel_rfl
  a3 := fun _ => by kernel_rfl
  z3 := fun _ => by kernel_rfl
  t139 := by kernel_rfl
  t4 := by kernel_rfl
  t26 := by kernel_rfl
  a26 := fun _ => by kernel_rfl
  z26 := fun _ => by kernel_rfl
  a39 := fun _ => by kernel_rfl
  z39 := fun _ => by kernel_rfl

/-- What the sort is told of its row and its comparison. -/
structure CS (P : Program) (cf : α → α → Int) (enc : α → List Value) (k g : Nat) (cb : Array Value) (blk off size : Nat) (W : World) : Prop where
  hk : ∀ x, (enc x).length = k
  h1 : ∀ x, ∀ v ∈ enc x, v.oneCell' = true
  eg : ∀ args w, (callFunc g args).run P w = .ok (.enter g args) w
  cmp : CmpLays P g cb enc k cf blk off size W
  lt : blk < W.heap.size

theorem CS.on {W W' : World} {dk : Array α} (L : CS P cf enc k g cb blk off size W) (S : SWK enc k W blk off dk W') (hs : dk.size = size) : CS P cf enc k g cb blk off size W' := by
  refine ⟨L.hk, L.h1, L.eg, ?_, S.lt L.lt⟩
  obtain ⟨m, os, rfl⟩ := S
  intro m' os' dk' hs' x y
  rw [sortWorldK_on enc k W blk off m m' dk dk' os os' L.lt (by rw [hs', hs])]
  exact L.cmp _ _ dk' hs' x y
theorem cswk_trans {W W1 W2 : World} {d1 d2 : Array α} (h1 : SWK enc k W blk off d1 W1) (hb : blk < W.heap.size) (h2 : SWK enc k W1 blk off d2 W2) (hs : d2.size = d1.size) : SWK enc k W blk off d2 W2 := by
  obtain ⟨m, os, rfl⟩ := h2
  exact h1.on hb m d2 os hs
theorem CS.row {W : World} {d : Array α} (L : CS P cf enc k g cb blk off size W) (hH : HoldsK enc k W blk off d) : RowK enc k W blk off d := ⟨L.hk, L.h1, hH, L.lt⟩

set_option maxHeartbeats 2000000 in
set_option maxRecDepth 100000 in
theorem cswapRange_f (B : SB P k) (a b n cap : Nat) (d : Array α) (W : World) (L : CS P cf enc k g cb blk off d.size W) (hH : HoldsK enc k W blk off d) (ha : a + n ≤ d.size) (hb : b + n ≤ d.size) (hsz : d.size < 4611686018427387904) :
    Calls P 90 #[.slice (some ⟨blk, off, none⟩) d.size cap, .int .i64 a, .int .i64 b, .int .i64 n, .func (.func g) #[] cb] W fun e w' => e = .returned (.tuple #[]) ∧ SWK enc k W blk off (swpR a b 0 n d) w' := by
  have R := Lib.hid (L.row hH)
  have S1 := Lib.hid (SWK.start hH)
  have LT := Lib.hid L.lt
  have HK := Lib.hid L.hk
  have mixed := B.mixed; have t3 := B.t3; have a3 := B.a3; have z3 := B.z3; have t26 := B.t26; have a26 := B.a26; have z26 := B.z26; have a39 := B.a39; have z39 := B.z39
  have u26 := run_underlying B.t26
  clear L hH
  go_enter B.f90, Tryd.ntmps90
  go_wp2
  go_loopg [10] n (fun g1 vi wr => ∃ (i : Nat) (dk : Array α), vi = .int .i64 i ∧ i + g1 = n ∧ dk.size = d.size ∧ Hid (SWK enc k W blk off dk wr) ∧ Hid (swpR a b i g1 dk = swpR a b 0 n d))
  case atStart => exact ⟨0, d, rfl, by omega, rfl, S1, Lib.hid rfl⟩
  case round =>
    obtain ⟨i, dk, rfl, hi, hds, S, HE⟩ := hrel
    cases gk with
    | zero =>
      have hni : ¬ i < n := by omega
      go_wp2
      go_end0
      exact ⟨rfl, by rw [← HE.out]; exact S.out⟩
    | succ gk =>
      have hni : i < n := by omega
      have la := S.out.ld1 R.out hds P (a + i) (by omega)
      have lb := S.out.ld1 R.out hds P (b + i) (by omega)
      have s1 := S.out.st1 R.out hds P (a + i) (by omega) (dk[b + i]!)
      have s2 := S.out.st2 R.out hds P (a + i) (b + i) (by omega) (by omega) (dk[b + i]!) (dk[a + i]!)
      have S2 := Lib.hid (S.out.swapped R.out (a + i) (b + i) (by omega) (by omega))
      have hd2 : (swp dk (a + i) (b + i)).size = d.size := by rw [size_swp]; exact hds
      have hlA := HK.out (dk[a + i]!)
      have hlB := HK.out (dk[b + i]!)
      obtain ⟨cA, hcA⟩ : ∃ c, c = enc (dk[a + i]!) := ⟨_, rfl⟩
      obtain ⟨cB, hcB⟩ : ∃ c, c = enc (dk[b + i]!) := ⟨_, rfl⟩
      rw [← hcA] at la s2 S2 hlA
      rw [← hcB] at lb s1 s2 S2 hlB
      clear S hcA hcB
      go_wp2_with fail
      go_big_region_o
      all_goals go_wp2
      go_roundg gk
      case measure => omega
      case rel => exact ⟨i + 1, _, by go_num, by omega, hd2, S2, HE⟩

set_option maxHeartbeats 2000000 in
set_option maxRecDepth 100000 in
theorem crotate_f (B : SB P k) (a m b cap : Nat) (d : Array α) (W : World) (L : CS P cf enc k g cb blk off d.size W) (hH : HoldsK enc k W blk off d) (ham : a < m) (hmb : m < b) (hb : b ≤ d.size) (hsz : d.size < 4611686018427387904) :
    Calls P 73 #[.slice (some ⟨blk, off, none⟩) d.size cap, .int .i64 a, .int .i64 m, .int .i64 b, .func (.func g) #[] cb] W fun e w' => e = .returned (.tuple #[]) ∧ SWK enc k W blk off (rot a m b d) w' := by
  have L1 := Lib.hid L
  have hH1 := Lib.hid hH
  have S1 := Lib.hid (SWK.start hH)
  have LT := Lib.hid L.lt
  have mixed := B.mixed; have t3 := B.t3; have a3 := B.a3; have z3 := B.z3; have t26 := B.t26; have a26 := B.a26; have z26 := B.z26
  have B1 := Lib.hid B
  have e90 : ∀ args w, (callFunc 90 args).run P w = .ok (.enter 90 args) w := enters_of B.f90 (by kernel_rfl) rfl
  have e1 : ((m - a : Nat) : Int) = (m : Int) - (a : Int) := by omega
  have e2 : ((b - m : Nat) : Int) = (b : Int) - (m : Int) := by omega
  clear L hH
  go_enter B.f73, Tryd.ntmps73
  go_wp2
  go_loopg [10, 11] (b - a) (fun g1 vi vj wr => ∃ (i j : Nat) (dk : Array α), vi = .int .i64 i ∧ vj = .int .i64 j ∧ 1 ≤ i ∧ 1 ≤ j ∧ i ≤ m ∧ m + j ≤ d.size ∧ i + j ≤ g1 ∧ dk.size = d.size ∧ Hid (SWK enc k W blk off dk wr) ∧ Hid (rotL m g1 i j dk = rot a m b d))
  case atStart => exact ⟨m - a, b - m, d, by rw [e1], by rw [e2], by omega, by omega, by omega, by omega, by omega, rfl, S1, Lib.hid rfl⟩
  case round =>
    obtain ⟨i, j, dk, rfl, rfl, hi1, hj1, him, hmj, hij, hds, S, HE⟩ := hrel
    obtain ⟨gg, rfl⟩ : ∃ gg, gk = gg + 1 := ⟨gk - 1, by omega⟩
    have LS1 := Lib.hid (L1.out.on S.out hds)
    have LH1 := Lib.hid (S.out.holds L1.out.lt hH1.out hds)
    have emi : ((m - i : Nat) : Int) = (m : Int) - (i : Int) := by omega
    rcases Nat.lt_trichotomy i j with hlt2 | heq | hgt
    · have hne : ¬ i = j := by omega
      have hng : ¬ j < i := by omega
      have hrec : rotL m (gg + 1) i j dk = rotL m gg i (j - i) (swpR (m - i) (m + j - i) 0 i dk) := by rw [rotL, if_neg hne, if_neg hng]
      have HR := Lib.hid (hrec.symm.trans HE.out)
      have hcall := cswapRange_f B1.out (m - i) (m + j - i) i cap dk wr (by rw [hds]; exact LS1.out) LH1.out (by omega) (by omega) (by omega)
      rw [emi, show ((m + j - i : Nat) : Int) = (m : Int) + (j : Int) - (i : Int) by omega, hds] at hcall
      have HC := Lib.hid hcall
      clear hcall hrec
      go_wp2_with (go_at_fn 90; refine HC.out.mono ?_; rintro e w1 ⟨rfl, hs1⟩)
      go_roundg gg
      case measure => omega
      case rel => exact ⟨i, j - i, _, rfl, by congr 1; omega, hi1, by omega, him, by omega, by omega, (size_swpR _ _ _ _ _).trans hds, Lib.hid (cswk_trans S.out L1.out.lt hs1 (size_swpR _ _ _ _ _)), HR⟩
    · subst heq
      have hrec : rotL m (gg + 1) i i dk = swpR (m - i) m 0 i dk := by rw [rotL, if_pos rfl]
      have HR := Lib.hid (hrec.symm.trans HE.out)
      have hcall := cswapRange_f B1.out (m - i) m i cap dk wr (by rw [hds]; exact LS1.out) LH1.out (by omega) (by omega) (by omega)
      rw [emi, hds] at hcall
      have HC := Lib.hid hcall
      clear hcall hrec
      go_wp2_with (go_at_fn 90; refine HC.out.mono ?_; rintro e w1 ⟨rfl, hs1⟩)
      go_end0
      refine ⟨rfl, ?_⟩
      rw [← HR.out]
      exact cswk_trans S.out L1.out.lt hs1 (size_swpR _ _ _ _ _)
    · have hne : ¬ i = j := by omega
      have hrec : rotL m (gg + 1) i j dk = rotL m gg (i - j) j (swpR (m - i) m 0 j dk) := by rw [rotL, if_neg hne, if_pos hgt]
      have HR := Lib.hid (hrec.symm.trans HE.out)
      have hcall := cswapRange_f B1.out (m - i) m j cap dk wr (by rw [hds]; exact LS1.out) LH1.out (by omega) (by omega) (by omega)
      rw [emi, hds] at hcall
      have HC := Lib.hid hcall
      clear hcall hrec
      go_wp2_with (go_at_fn 90; refine HC.out.mono ?_; rintro e w1 ⟨rfl, hs1⟩)
      go_roundg gg
      case measure => omega
      case rel => exact ⟨i - j, j, _, by congr 1; omega, rfl, by omega, hj1, by omega, hmj, by omega, (size_swpR _ _ _ _ _).trans hds, Lib.hid (cswk_trans S.out L1.out.lt hs1 (size_swpR _ _ _ _ _)), HR⟩

end Go.Proofs.YthnbbgmajdjgeaaDoor
