/-
  The walk of MemTouches in the reference: what comes of touches, by a map. Conditions: the table of powers is laid; words and touches lie below this call's memory.
-/
import Derived.Test.YtepoahinnfjaiaaDoorMtN
import Derived.Laws.Externs
import Derived.Deep.RegionWith
import Derived.Deep.OwnRows
namespace Go.Proofs.YtepoahinnfjaiaaDoor
open Go.RowKit Go.Extern.Stop Go.Stop Go.Extern
attribute [local go_sem ↓] Go.wp_at_zero Go.wp_at_succ

theorem Tryd.info9 : (Tryd.prog.info? 9).map (fun i => (i.zero, i.size, i.bytes)) = some (some (.string ⟨#[]⟩), 1, 16) := by kernel_rfl
theorem fbool (b : Bool) (w : World) : Calls Tryd.prog 74 #[.bool b] w fun e w' => e = .returned (.string (boolS b)) ∧ w = w' := by
  cases b
  all_goals
    go_enter Tryd.func74, Tryd.ntmps74
    go_wp2
    go_ret
    exact ⟨rfl, rfl⟩
theorem wrap_u64 (x : Int) : IntKind.u64.wrap x = x % 18446744073709551616 := by
  simp [IntKind.wrap, IntKind.bits, IntKind.signed]
theorem run_add64I (x y : Int) (hx : U64 x) (hy : U64 y) (w : World) :
    (callFunc 90 #[.int .u64 x, .int .u64 y, .int .u64 0]).run Tryd.prog w = .ok (.value (.tuple #[.int .u64 (IntKind.u64.wrap (x + y)), .int .u64 ((x + y) / 18446744073709551616)])) w := by
  rw [run_callFunc_extern Tryd.func90 (by kernel_rfl) (by kernel_rfl) (by kernel_rfl) (e := add64Entry) (by kernel_rfl), run_add64 x y 0 hx.1 hy.1 (by omega) (by omega), Int.add_zero, wrap_u64]
  rfl
def memF (ms : List Int) (t : Int) : Option Int := if 0 ≤ t ∧ t < ms.length then some (ms.getD t.toNat 0) else none
theorem own_map_ne {w : World} {base b n m : Nat} {e e' : TypeId} {q : IntKind} {size : Nat} {v : Value} {xs : List Value} {F : Int → Option Int} (h : w.ownsRow base e size v n xs) (hm : MapO e' q w b m F) : v.ownBlock ≠ some b := by
  obtain ⟨D, ⟨es, clock, h1, _⟩, _⟩ := hm
  rcases h.2 with ⟨rfl, _⟩ | ⟨g, cap, cur, rfl, _, h2, _⟩
  · simp [Value.ownBlock]
  · intro hg
    simp only [Value.ownBlock, Option.some.injEq] at hg
    subst hg
    rw [h1] at h2
    cases h2
theorem memF_in (ms : List Int) (j : Nat) (h : j < ms.length) : memF ms (j : Int) = some (ms.getD j 0) := by
  unfold memF; rw [if_pos ⟨by omega, by omega⟩]; simp
theorem memF_set (ms : List Int) (j : Nat) (h : j < ms.length) (v : Int) (t : Int) : (if t = (j : Int) then some v else memF ms t) = memF (ms.set j v) t := by
  by_cases ht : t = (j : Int)
  · subst ht
    rw [if_pos rfl, memF_in _ _ (by simpa using h)]
    simp [List.getD_eq_getElem?_getD, h]
  · rw [if_neg ht]
    unfold memF
    simp only [List.length_set]
    by_cases hr : 0 ≤ t ∧ t < ms.length
    · rw [if_pos hr, if_pos hr]
      have : j ≠ t.toNat := by omega
      simp [List.getD_eq_getElem?_getD, List.getElem?_set_ne this]
    · rw [if_neg hr, if_neg hr]
/-- What holds of memory at a touch's head, in the reference. -/
structure TRel (w : World) (n : Nat) (l : List Tc) (ms : List Int) (k : Nat) (v : Value) (wr : World) : Prop where
  map : MapO 35 .u64 wr w.heap.size (n + k) (memF (stA l ms k))
  own : wr.ownsRow w.heap.size 9 1 v k (outA l ms k)
  bel : Below w.heap.size w wr
theorem tfin {w W w6 w8 : World} {n k : Nat} {l : List Tc} {ms S' : List Int} {v v' : Value} {s : ByteArray} (hm : MapO 35 .u64 W w.heap.size (n + k + 1) (memF S')) (ho : W.ownsRow w.heap.size 9 1 v k (outA l ms k))
    (hbw : Below w.heap.size w W) (hb6 : Below W.heap.size W w6) (hown8 : w8.ownsRow w.heap.size 9 1 v' (k + 1) (outA l ms k ++ [.string s])) (hg8 : (w6.alloc (.cells #[.string s] 9)).grownBy w8 v.ownBlock)
    (he : tline (resA l ms k) = s) (hs : stA l ms (k + 1) = S') : TRel w n l ms (k + 1) v' w8 := by
  have h6 := hb6.size
  have hW := hbw.size
  refine ⟨?_, by rw [outA_succ, he]; exact hown8, ((hbw.trans (hb6.mono hW)).alloc (by omega) _).grown hg8 (by simp; omega) (fun g hg => (ho.lt g hg).1)⟩
  rw [hs]
  exact ((hm.below hb6 hm.lt).alloc _).grown hg8 (fun h => own_map_ne ho hm h.symm)
/-- The map while it is filled. -/
def firstF (ms : List Int) (k : Nat) (t : Int) : Option Int := if 0 ≤ t ∧ t < k then some (ms.getD t.toNat 0) else none
theorem firstF_succ (ms : List Int) (k : Nat) (t : Int) : (if t = (k : Int) then some (ms.getD k 0) else firstF ms k t) = firstF ms (k + 1) t := by
  unfold firstF
  by_cases h : t = (k : Int)
  · subst h; rw [if_pos rfl, if_pos (by omega)]; simp
  · rw [if_neg h]
    by_cases h2 : 0 ≤ t ∧ t < k
    · rw [if_pos h2, if_pos (by omega)]
    · rw [if_neg h2, if_neg (by omega)]
theorem Reads.word_ {w : World} {B n k : Nat} {A : Option Addr} {ms : List Int} (h : Reads w B 1 A n (u64s ms)) (hn : ms.length = n) (hk : k < n) :
    ∃ ad, A = some ad ∧ ad.block < B ∧ w.cell? (ad.add k) = some (.int .u64 (ms.getD k 0)) := by
  obtain ⟨ad, u, e, hb, hx, hc⟩ := h.at_ hk
  refine ⟨ad, e, hb, ?_⟩
  rw [hc, ← hx]
  simp [u64s, List.getD_eq_getElem?_getD, show k < ms.length by omega]
theorem cell_litT (w : World) (cs : List Value) (t : TypeId) (j : Nat) (x : Value) (h : cs[j]? = some x) : (w.alloc (.cells cs.toArray t)).cell? (Addr.add ⟨w.heap.size, 0, none⟩ j) = some x := by
  have e : (Addr.add ⟨w.heap.size, 0, none⟩ j) = ⟨w.heap.size, j, none⟩ := by unfold Addr.add; split <;> simp_all
  rw [e, (Blk.new w t cs.toArray).cell j]
  simpa using h
theorem own_belowT {w w' : World} {base : Nat} {e : TypeId} {size n : Nat} {v : Value} {xs : List Value} (h : w.ownsRow base e size v n xs) (hb : Below w.heap.size w w') : w'.ownsRow base e size v n xs :=
  own_belowM h hb (fun g hg => (h.lt g hg).2)
theorem ts_bad (S : List Int) (wt ix x y : Int) (h : ¬ (0 ≤ ix ∧ ix < S.length)) : tstep S ⟨wt, ix, x, y⟩ = ⟨S, 0, false, 2⟩ := by unfold tstep; rw [if_neg h]
theorem ts_1 (S : List Int) (j : Nat) (x y : Int) (h : j < S.length) : tstep S ⟨1, j, x, y⟩ = ⟨S.set j x, 0, false, 0⟩ := by
  unfold tstep; rw [if_pos ⟨by simp, by simp; omega⟩]; simp
theorem ts_2 (S : List Int) (j : Nat) (x y v : Int) (h : j < S.length) (hv : S.getD j 0 = v) : tstep S ⟨2, j, x, y⟩ = ⟨S.set j (IntKind.u64.wrap (v + x)), v, false, 0⟩ := by
  subst hv; unfold tstep; rw [if_pos ⟨by simp, by simp; omega⟩]; simp
theorem ts_3e (S : List Int) (j : Nat) (x y : Int) (h : j < S.length) (hv : S.getD j 0 = x) : tstep S ⟨3, j, x, y⟩ = ⟨S.set j y, 0, true, 0⟩ := by
  subst hv; unfold tstep; rw [if_pos ⟨by simp, by simp; omega⟩]; simp
theorem ts_3n (S : List Int) (j : Nat) (x y v : Int) (h : j < S.length) (hv : S.getD j 0 = v) (hne : v ≠ x) : tstep S ⟨3, j, x, y⟩ = ⟨S, 0, false, 0⟩ := by
  subst hv; unfold tstep; rw [if_pos ⟨by simp, by simp; omega⟩]; simp only [Int.toNat_natCast]; rw [if_neg (by decide), if_neg (by decide), if_pos trivial, if_neg hne]
theorem ts_e (S : List Int) (wt : Int) (j : Nat) (x y v : Int) (h : j < S.length) (hv : S.getD j 0 = v) (h1 : wt ≠ 1) (h2 : wt ≠ 2) (h3 : wt ≠ 3) : tstep S ⟨wt, j, x, y⟩ = ⟨S, v, false, 0⟩ := by
  subst hv; unfold tstep; rw [if_pos ⟨by simp, by simp; omega⟩, if_neg h1, if_neg h2, if_neg h3]; simp
theorem tline_ok (S : List Int) (V : Nat) (b : Bool) : tline ⟨S, (V : Int), b, 0⟩ = ((decS V ++ ⟨#[32]⟩) ++ boolS b) ++ ⟨#[32, 48]⟩ := by
  have e : (⟨#[32, 48]⟩ : ByteArray) = sp ++ itoaS 0 := by rw [itoaS0]; rfl
  rw [e]
  unfold tline
  simp only [Int.toNat_natCast, ByteArray.append_assoc]
  rfl
theorem tline_bad (S : List Int) : tline ⟨S, 0, false, 2⟩ = ⟨#[48, 32, 102, 97, 108, 115, 101, 32]⟩ ++ itoaS 2 := by
  unfold tline
  have e : decS 0 = ⟨#[48]⟩ := by unfold decS; rw [show Lib.decDigits 0 = [48] by decide +kernel]
  simp only [show (0 : Int).toNat = 0 from rfl, e, itoaS2]
  rfl
def PTEnd (l : List Tc) (ms : List Int) (n m : Nat) (w : World) (e : Ending) (w' : World) : Prop :=
  ∃ v v', e = .returned (.tuple #[v, v']) ∧ w'.ownsRow w.heap.size 9 1 v m (outA l ms m) ∧ w'.ownsRow w.heap.size 35 1 v' n (u64s (stA l ms m)) ∧ Below w.heap.size w w'
theorem own_own_ne {w : World} {base base' n n' : Nat} {e e' : TypeId} {size size' : Nat} {v v' : Value} {xs xs' : List Value} (h : w.ownsRow base e size v n xs) (h' : w.ownsRow base' e' size' v' n' xs') (he : e ≠ e') : v.ownBlock = none ∨ v.ownBlock ≠ v'.ownBlock := by
  rcases h.2 with ⟨rfl, _⟩ | ⟨g, cap, cur, rfl, _, h2, _⟩
  · exact .inl rfl
  · refine .inr fun hg => ?_
    rcases h'.2 with ⟨rfl, _⟩ | ⟨g', cap', cur', rfl, _, h2', _⟩
    · simp [Value.ownBlock] at hg
    · simp only [Value.ownBlock, Option.some.injEq] at hg
      subst hg
      rw [h2] at h2'
      simp at h2'
      exact he h2'.2
theorem pt_end {l : List Tc} {ms : List Int} {n m : Nat} {w w' : World} {v v' : Value} (h : w'.ownsRow w.heap.size 9 1 v m (outA l ms m)) (h' : w'.ownsRow w.heap.size 35 1 v' n (u64s (stA l ms m))) (hb : Below w.heap.size w w') : PTEnd l ms n m w (.returned (.tuple #[v, v'])) w' := by
  exact ⟨v, v', rfl, h, h', hb⟩
theorem words_succ (S : List Int) (p : Nat) (h : p < S.length) : u64s (S.take (p + 1)) = u64s (S.take p) ++ [.int .u64 (S.getD p 0)] := by
  rw [List.take_succ_eq_append_getElem h]
  unfold u64s
  rw [List.map_append, List.getD_eq_getElem?_getD, List.getElem?_eq_getElem h]
  rfl
set_option maxRecDepth 100000 in
set_option maxHeartbeats 8000000 in
theorem touches_calls (A : Option Addr) (n c B : Nat) (ms : List Int) (A2 : Option Addr) (m c2 : Nat) (l : List Tc) (w : World) (hr : Reads w B 1 A n (u64s ms)) (hl : ms.length = n) (hn : n ≤ 300)
    (hr2 : Reads w B 4 A2 m (flatT l)) (hl2 : l.length = m) (hm : m ≤ 100) (hB : B ≤ w.heap.size) (hU : U64s ms) (hTc : TcWf l) (ht : HasTab w) :
    Calls Tryd.prog 68 #[.slice A n c, .slice A2 m c2] w (PTEnd l ms n m w) := by
  obtain ⟨i9, hi9, hz9, hz91, hz92⟩ := info_parts Tryd.info9
  obtain ⟨i5, hi5, hz5, hz51, hz52⟩ := info_parts Tryd.info35
  have hmm := @run_makeMap Tryd.prog
  have hw2 := ht.lt
  have HL := Lib.hid hl
  have HL2 := Lib.hid hl2
  have HU := Lib.hid hU
  have HTC := Lib.hid hTc
  have HT := Lib.hid ht
  have HR := Lib.hid hr
  have HR2 := Lib.hid hr2
  clear hl hl2 hU hTc ht hr hr2
  go_enter Tryd.func68, Tryd.ntmps68
  go_wp2
  have hmade : MapO 35 .u64 (w.alloc (.map #[] 0)) w.heap.size 0 (firstF ms 0) := (MapO.made w).congr (fun t => by unfold firstF; rw [if_neg (by omega)])
  have hb0 : Below w.heap.size w (w.alloc (.map #[] 0)) := (Below.refl _ _).alloc (Nat.le_refl _) _
  have HMADE := Lib.hid hmade
  clear hmade
  go_loopw [21] (fun i wr => ∃ k : Nat, k ≤ n ∧ i = .int .i64 k ∧ MapO 35 .u64 wr w.heap.size k (firstF ms k) ∧ Below w.heap.size w wr) (fun i _ => n - (intOf i).toNat)
  case atStart => exact ⟨0, Nat.zero_le _, rfl, HMADE.out, hb0⟩
  case round =>
    obtain ⟨k, hk, rfl, hmap, hbel⟩ := hrel
    have HM := Lib.hid hmap
    clear hmap
    by_cases hlt : k < n
    · obtain ⟨ad, rfl, _, hc⟩ := (HR.out.below (hbel.mono hB)).word_ HL.out hlt
      have hwu := getD_U64 HU.out k
      obtain ⟨v, hv⟩ : ∃ v, ms.getD k 0 = v := ⟨_, rfl⟩
      rw [hv] at hc hwu
      have HV := Lib.hid hv
      clear hv
      obtain ⟨w2, hrun, hm2, hg2, hs2⟩ := HM.out.store Tryd.underlying172 Tryd.underlying35 (by unfold maxLen; omega) (k : Int) v (wfI_in (by omega) (by omega)) (WalkArith.wf_u64 ⟨hwu.1, by have := hwu.2; omega⟩)
      have hb2 := hbel.grown hg2 hbel.size (fun g hg => by cases hg; exact Nat.le_refl _)
      have HM2 := Lib.hid (hm2.congr (F' := firstF ms (k + 1)) (fun t => by rw [← HV.out]; exact firstF_succ ms k t))
      clear hm2 hwu
      go_wp2
      go_roundw
      case rel => exact ⟨k + 1, by omega, by go_num, HM2.out, hb2⟩
      case measure => simp [intOf]; omega
    · obtain rfl : k = n := by omega
      have hstart : TRel w k l ms 0 (.slice none 0 0) wr := ⟨HM.out.congr (fun t => by rw [← HL.out]; rfl), ⟨rfl, .inl ⟨rfl, rfl⟩⟩, hbel⟩
      have HSTART := Lib.hid hstart
      clear hstart HM
      obtain ⟨wo, rfl⟩ : ∃ wo : World, wo = wr := ⟨_, rfl⟩
      go_wp2
      go_loopw [32, 9] (fun i v wr => ∃ q : Nat, q ≤ m ∧ i = .int .i64 q ∧ TRel w k l ms q v wr) (fun i _ _ => m - (intOf i).toNat)
      case atStart => exact ⟨0, Nat.zero_le _, rfl, HSTART.out⟩
      case round =>
        obtain ⟨q, hq, rfl, hrel2⟩ := hrel
        have HREL := Lib.hid hrel2
        clear hrel2
        have hsz := HREL.out.bel.size
        obtain ⟨S, hS⟩ : ∃ S, stA l ms q = S := ⟨_, rfl⟩
        have hSl : S.length = k := by rw [← hS, stA_len]; exact HL.out
        have hmapq := HREL.out.map
        rw [hS] at hmapq
        by_cases hlt : q < m
        · obtain ⟨ad, rfl, _, c0, c1, c2, c3⟩ := (HR2.out.below (HREL.out.bel.mono hB)).tc HL2.out hlt
          obtain ⟨t, hte⟩ : ∃ t, l.getD q t0 = t := ⟨_, rfl⟩
          have htw := getD_wf HTC.out q
          have hsu := stA_U64 HU.out HTC.out q
          rw [hte] at c0 c1 c2 c3 htw
          rw [hS] at hsu
          obtain ⟨wt, ix, x, y⟩ := t
          have HRES := Lib.hid (show resA l ms q = tstep S ⟨wt, ix, x, y⟩ by unfold resA; rw [hS, hte])
          have HSU := Lib.hid hsu
          have HSL := Lib.hid hSl
          simp only at c0 c1 c2 c3 htw
          obtain ⟨hwi, hwx, hwy⟩ := htw
          have HMq := Lib.hid (hmapq.alloc (.cells #[.int .i64 wt, .int .i64 ix, .int .u64 x, .int .u64 y] 118))
          have HOq := Lib.hid (HREL.out.own.alloc (.cells #[.int .i64 wt, .int .i64 ix, .int .u64 x, .int .u64 y] 118))
          have HBq := Lib.hid (HREL.out.bel.alloc hsz (.cells #[.int .i64 wt, .int .i64 ix, .int .u64 x, .int .u64 y] 118))
          have hlk := HMq.out.lookOk Tryd.underlying172 Tryd.underlying35 (Tryd.zeroValue35 _) (by decide) ix hwi
          have HWI := Lib.hid hwi
          have HWX := Lib.hid hwx
          have HWY := Lib.hid hwy
          clear hte hS hSl hsu hmapq hwi hwx hwy
          by_cases hin : 0 ≤ ix ∧ ix < S.length
          · obtain ⟨j, rfl⟩ := Int.eq_ofNat_of_zero_le hin.1
            have hj : j < S.length := by omega
            have HJ := Lib.hid hj
            rw [memF_in _ _ hj] at hlk
            obtain ⟨v, hv⟩ : ∃ v, S.getD j 0 = v := ⟨_, rfl⟩
            have hvu : U64 v := by rw [← hv]; exact getD_U64 HSU.out j
            rw [hv] at hlk
            simp only [Option.getD_some, Option.isSome_some] at hlk
            obtain ⟨V, rfl⟩ := Int.eq_ofNat_of_zero_le hvu.1
            have HV := Lib.hid (show V < 18446744073709551616 by have := hvu.2; omega)
            have HVV := Lib.hid hv
            have HV0 := Lib.hid (show (0 : Nat) < 18446744073709551616 by decide)
            clear hv hvu hj hin
            by_cases h1 : wt = 1
            · subst h1
              obtain ⟨w2, hrun, hm2, hg2, hs2⟩ := HMq.out.store Tryd.underlying172 Tryd.underlying35 (by unfold maxLen; omega) (j : Int) x HWI.out (WalkArith.wf_u64 ⟨HWX.out.1, by have := HWX.out.2; omega⟩)
              have HM2 := Lib.hid (hm2.congr (memF_set S j HJ.out x))
              have HO := Lib.hid (HOq.out.kept hg2 (.inr (own_map_ne HOq.out HMq.out)))
              have HBW := Lib.hid (HBq.out.grown hg2 HBq.out.size (fun g hg => by cases hg; exact Nat.le_refl _))
              have HE := Lib.hid (show tline (resA l ms q) = ((decS 0 ++ ⟨#[32]⟩) ++ boolS false) ++ ⟨#[32, 48]⟩ from by rw [HRES.out, ts_1 S j x y HJ.out]; exact tline_ok _ 0 false)
              have HS := Lib.hid (show stA l ms (q + 1) = S.set j x from by show (resA l ms q).ms = S.set j x; rw [HRES.out, ts_1 S j x y HJ.out])
              clear hm2
              have z0 := decS_size 0 HV0.out
              have z1 := boolS_size false
              have e1 : ¬ 9223372036854775807 < (decS 0).size + 1 := by omega
              have e2 : ¬ 9223372036854775807 < (decS 0).size + 1 + (boolS false).size := by omega
              have e3 : ¬ 9223372036854775807 < (decS 0).size + 1 + (boolS false).size + 2 := by omega
              clear z0 z1
              go_wp2_with (first
                | (go_at_call 73; refine (fmtu 0 HV0.out _ (HT.out.below HBW.out hw2)).mono ?_; rintro e w6 ⟨rfl, hb6⟩; have HB6 := Lib.hid hb6; clear hb6)
                | (go_at_call 74; refine (fbool false _).mono ?_; rintro e w7 ⟨rfl, rfl⟩)
                | (at_builtin; (refine wpList_append_own _ rfl (.tmp 85) (.tmp 93) 114 rfl w.heap.size 9 i9 _ 1 16 Tryd.underlying114 hi9 hz9 hz91 hz92 rfl (by omega) u9 q _ rfl ((own_belowT HO.out HB6.out).alloc _) ⟨w6.heap.size, 0, none⟩ 1 1 [.string (((decS 0 ++ ⟨#[32]⟩) ++ boolS false) ++ ⟨#[32, 48]⟩)] rfl rfl ?_ ?_ ?_ ?_ ?_ ?_); (exact cell_litT w6 [.string (((decS 0 ++ ⟨#[32]⟩) ++ boolS false) ++ ⟨#[32, 48]⟩)] 9); (simp [Value.oneCell']); (unfold maxLen; omega); (omega); (have := HB6.out.size; have := HBW.out.size; simp; omega); intro v' w8 hown8 hg8 hnil8))
              have hfin := tfin HM2.out HO.out HBW.out HB6.out hown8 hg8 HE.out HS.out
              have HFIN := Lib.hid hfin
              clear hfin
              go_roundw
              case rel => exact ⟨q + 1, by omega, by go_num, HFIN.out⟩
              case measure => simp [intOf]; omega
            · by_cases h2 : wt = 2
              · subst h2
                have hadd := run_add64I V x ⟨by omega, by have := HV.out; omega⟩ HWX.out
                obtain ⟨z, hz⟩ : ∃ z, IntKind.u64.wrap ((V : Int) + x) = z := ⟨_, rfl⟩
                have HZ := Lib.hid (show U64 z by rw [← hz]; exact wrap_U64 _)
                simp only [hz] at hadd
                have HZZ := Lib.hid hz
                clear hz
                obtain ⟨w2, hrun, hm2, hg2, hs2⟩ := HMq.out.drew.store Tryd.underlying172 Tryd.underlying35 (by unfold maxLen; omega) (j : Int) z HWI.out (WalkArith.wf_u64 ⟨HZ.out.1, by have := HZ.out.2; omega⟩)
                have HM2 := Lib.hid (hm2.congr (memF_set S j HJ.out z))
                have HO := Lib.hid (HOq.out.drew.kept hg2 (.inr (own_map_ne HOq.out HMq.out)))
                have HBW := Lib.hid (HBq.out.drew.grown hg2 HBq.out.size (fun g hg => by cases hg; exact Nat.le_refl _))
                have HE := Lib.hid (show tline (resA l ms q) = ((decS V ++ ⟨#[32]⟩) ++ boolS false) ++ ⟨#[32, 48]⟩ from by rw [HRES.out, ts_2 S j x y V HJ.out HVV.out, HZZ.out]; exact tline_ok _ V false)
                have HS := Lib.hid (show stA l ms (q + 1) = S.set j z from by show (resA l ms q).ms = S.set j z; rw [HRES.out, ts_2 S j x y V HJ.out HVV.out, HZZ.out])
                clear hm2
                go_wp2
                go_region_with (fail)
                all_goals
                  have z0 := decS_size V HV.out
                  have z1 := boolS_size false
                  have e1 : ¬ 9223372036854775807 < (decS V).size + 1 := by omega
                  have e2 : ¬ 9223372036854775807 < (decS V).size + 1 + (boolS false).size := by omega
                  have e3 : ¬ 9223372036854775807 < (decS V).size + 1 + (boolS false).size + 2 := by omega
                  clear z0 z1
                  go_wp2_with (first
                    | (go_at_call 73; refine (fmtu V HV.out _ (HT.out.below HBW.out hw2)).mono ?_; rintro e w6 ⟨rfl, hb6⟩; have HB6 := Lib.hid hb6; clear hb6)
                    | (go_at_call 74; refine (fbool false _).mono ?_; rintro e w7 ⟨rfl, rfl⟩)
                    | (at_builtin; (refine wpList_append_own _ rfl (.tmp 85) (.tmp 93) 114 rfl w.heap.size 9 i9 _ 1 16 Tryd.underlying114 hi9 hz9 hz91 hz92 rfl (by omega) u9 q _ rfl ((own_belowT HO.out HB6.out).alloc _) ⟨w6.heap.size, 0, none⟩ 1 1 [.string (((decS V ++ ⟨#[32]⟩) ++ boolS false) ++ ⟨#[32, 48]⟩)] rfl rfl ?_ ?_ ?_ ?_ ?_ ?_); (exact cell_litT w6 [.string (((decS V ++ ⟨#[32]⟩) ++ boolS false) ++ ⟨#[32, 48]⟩)] 9); (simp [Value.oneCell']); (unfold maxLen; omega); (omega); (have := HB6.out.size; have := HBW.out.size; simp; omega); intro v' w8 hown8 hg8 hnil8))
                  have hfin := tfin HM2.out HO.out HBW.out HB6.out hown8 hg8 HE.out HS.out
                  have HFIN := Lib.hid hfin
                  clear hfin
                  go_roundw
                  case rel => exact ⟨q + 1, by omega, by go_num, HFIN.out⟩
                  case measure => simp [intOf]; omega
              · by_cases h3 : wt = 3
                · subst h3
                  by_cases hx : (V : Int) = x
                  · subst hx
                    obtain ⟨w2, hrun, hm2, hg2, hs2⟩ := HMq.out.store Tryd.underlying172 Tryd.underlying35 (by unfold maxLen; omega) (j : Int) y HWI.out (WalkArith.wf_u64 ⟨HWY.out.1, by have := HWY.out.2; omega⟩)
                    have HM2 := Lib.hid (hm2.congr (memF_set S j HJ.out y))
                    have HO := Lib.hid (HOq.out.kept hg2 (.inr (own_map_ne HOq.out HMq.out)))
                    have HBW := Lib.hid (HBq.out.grown hg2 HBq.out.size (fun g hg => by cases hg; exact Nat.le_refl _))
                    have HE := Lib.hid (show tline (resA l ms q) = ((decS 0 ++ ⟨#[32]⟩) ++ boolS true) ++ ⟨#[32, 48]⟩ from by rw [HRES.out, ts_3e S j V y HJ.out HVV.out]; exact tline_ok _ 0 true)
                    have HS := Lib.hid (show stA l ms (q + 1) = S.set j y from by show (resA l ms q).ms = S.set j y; rw [HRES.out, ts_3e S j V y HJ.out HVV.out])
                    clear hm2
                    have z0 := decS_size 0 HV0.out
                    have z1 := boolS_size true
                    have e1 : ¬ 9223372036854775807 < (decS 0).size + 1 := by omega
                    have e2 : ¬ 9223372036854775807 < (decS 0).size + 1 + (boolS true).size := by omega
                    have e3 : ¬ 9223372036854775807 < (decS 0).size + 1 + (boolS true).size + 2 := by omega
                    clear z0 z1
                    go_wp2_with (first
                      | (go_at_call 73; refine (fmtu 0 HV0.out _ (HT.out.below HBW.out hw2)).mono ?_; rintro e w6 ⟨rfl, hb6⟩; have HB6 := Lib.hid hb6; clear hb6)
                      | (go_at_call 74; refine (fbool true _).mono ?_; rintro e w7 ⟨rfl, rfl⟩)
                      | (at_builtin; (refine wpList_append_own _ rfl (.tmp 85) (.tmp 93) 114 rfl w.heap.size 9 i9 _ 1 16 Tryd.underlying114 hi9 hz9 hz91 hz92 rfl (by omega) u9 q _ rfl ((own_belowT HO.out HB6.out).alloc _) ⟨w6.heap.size, 0, none⟩ 1 1 [.string (((decS 0 ++ ⟨#[32]⟩) ++ boolS true) ++ ⟨#[32, 48]⟩)] rfl rfl ?_ ?_ ?_ ?_ ?_ ?_); (exact cell_litT w6 [.string (((decS 0 ++ ⟨#[32]⟩) ++ boolS true) ++ ⟨#[32, 48]⟩)] 9); (simp [Value.oneCell']); (unfold maxLen; omega); (omega); (have := HB6.out.size; have := HBW.out.size; simp; omega); intro v' w8 hown8 hg8 hnil8))
                    have hfin := tfin HM2.out HO.out HBW.out HB6.out hown8 hg8 HE.out HS.out
                    have HFIN := Lib.hid hfin
                    clear hfin
                    go_roundw
                    case rel => exact ⟨q + 1, by omega, by go_num, HFIN.out⟩
                    case measure => simp [intOf]; omega
                  · have hxb : ((V : Int) == x) = false := by simpa using hx
                    have HX := Lib.hid hx
                    clear hx
                    have HM2 := Lib.hid (HMq.out.mono (show k + q ≤ k + q + 1 by omega))
                    have HO := HOq
                    have HBW := HBq
                    have HE := Lib.hid (show tline (resA l ms q) = ((decS 0 ++ ⟨#[32]⟩) ++ boolS false) ++ ⟨#[32, 48]⟩ from by rw [HRES.out, ts_3n S j x y V HJ.out HVV.out HX.out]; exact tline_ok _ 0 false)
                    have HS := Lib.hid (show stA l ms (q + 1) = S from by show (resA l ms q).ms = S; rw [HRES.out, ts_3n S j x y V HJ.out HVV.out HX.out])
                    have z0 := decS_size 0 HV0.out
                    have z1 := boolS_size false
                    have e1 : ¬ 9223372036854775807 < (decS 0).size + 1 := by omega
                    have e2 : ¬ 9223372036854775807 < (decS 0).size + 1 + (boolS false).size := by omega
                    have e3 : ¬ 9223372036854775807 < (decS 0).size + 1 + (boolS false).size + 2 := by omega
                    clear z0 z1
                    go_wp2_with (first
                      | (go_at_call 73; refine (fmtu 0 HV0.out _ (HT.out.below HBW.out hw2)).mono ?_; rintro e w6 ⟨rfl, hb6⟩; have HB6 := Lib.hid hb6; clear hb6)
                      | (go_at_call 74; refine (fbool false _).mono ?_; rintro e w7 ⟨rfl, rfl⟩)
                      | (at_builtin; (refine wpList_append_own _ rfl (.tmp 85) (.tmp 93) 114 rfl w.heap.size 9 i9 _ 1 16 Tryd.underlying114 hi9 hz9 hz91 hz92 rfl (by omega) u9 q _ rfl ((own_belowT HO.out HB6.out).alloc _) ⟨w6.heap.size, 0, none⟩ 1 1 [.string (((decS 0 ++ ⟨#[32]⟩) ++ boolS false) ++ ⟨#[32, 48]⟩)] rfl rfl ?_ ?_ ?_ ?_ ?_ ?_); (exact cell_litT w6 [.string (((decS 0 ++ ⟨#[32]⟩) ++ boolS false) ++ ⟨#[32, 48]⟩)] 9); (simp [Value.oneCell']); (unfold maxLen; omega); (omega); (have := HB6.out.size; have := HBW.out.size; simp; omega); intro v' w8 hown8 hg8 hnil8))
                    have hfin := tfin HM2.out HO.out HBW.out HB6.out hown8 hg8 HE.out HS.out
                    have HFIN := Lib.hid hfin
                    clear hfin
                    go_roundw
                    case rel => exact ⟨q + 1, by omega, by go_num, HFIN.out⟩
                    case measure => simp [intOf]; omega
                · have H1 := Lib.hid h1
                  have H2 := Lib.hid h2
                  have H3 := Lib.hid h3
                  have d1 : (wt == 1) = false := by simpa using h1
                  have d2 : (wt == 2) = false := by simpa using h2
                  have d3 : (wt == 3) = false := by simpa using h3
                  clear h1 h2 h3
                  have HE := Lib.hid (show tline (resA l ms q) = ((decS V ++ ⟨#[32]⟩) ++ boolS false) ++ ⟨#[32, 48]⟩ from by rw [HRES.out, ts_e S wt j x y V HJ.out HVV.out H1.out H2.out H3.out]; exact tline_ok _ V false)
                  have HS := Lib.hid (show stA l ms (q + 1) = S from by show (resA l ms q).ms = S; rw [HRES.out, ts_e S wt j x y V HJ.out HVV.out H1.out H2.out H3.out])
                  have HM2 := Lib.hid (HMq.out.mono (show k + q ≤ k + q + 1 by omega))
                  have HO := HOq
                  have HBW := HBq
                  by_cases h0 : wt = 0
                  · subst h0
                    clear d1 d2 d3
                    have z0 := decS_size V HV.out
                    have z1 := boolS_size false
                    have e1 : ¬ 9223372036854775807 < (decS V).size + 1 := by omega
                    have e2 : ¬ 9223372036854775807 < (decS V).size + 1 + (boolS false).size := by omega
                    have e3 : ¬ 9223372036854775807 < (decS V).size + 1 + (boolS false).size + 2 := by omega
                    clear z0 z1
                    go_wp2_with (first
                      | (go_at_call 73; refine (fmtu V HV.out _ (HT.out.below HBW.out hw2)).mono ?_; rintro e w6 ⟨rfl, hb6⟩; have HB6 := Lib.hid hb6; clear hb6)
                      | (go_at_call 74; refine (fbool false _).mono ?_; rintro e w7 ⟨rfl, rfl⟩)
                      | (at_builtin; (refine wpList_append_own _ rfl (.tmp 85) (.tmp 93) 114 rfl w.heap.size 9 i9 _ 1 16 Tryd.underlying114 hi9 hz9 hz91 hz92 rfl (by omega) u9 q _ rfl ((own_belowT HO.out HB6.out).alloc _) ⟨w6.heap.size, 0, none⟩ 1 1 [.string (((decS V ++ ⟨#[32]⟩) ++ boolS false) ++ ⟨#[32, 48]⟩)] rfl rfl ?_ ?_ ?_ ?_ ?_ ?_); (exact cell_litT w6 [.string (((decS V ++ ⟨#[32]⟩) ++ boolS false) ++ ⟨#[32, 48]⟩)] 9); (simp [Value.oneCell']); (unfold maxLen; omega); (omega); (have := HB6.out.size; have := HBW.out.size; simp; omega); intro v' w8 hown8 hg8 hnil8))
                    have hfin := tfin HM2.out HO.out HBW.out HB6.out hown8 hg8 HE.out HS.out
                    have HFIN := Lib.hid hfin
                    clear hfin
                    go_roundw
                    case rel => exact ⟨q + 1, by omega, by go_num, HFIN.out⟩
                    case measure => simp [intOf]; omega
                  · have d0 : (wt == 0) = false := by simpa using h0
                    clear h0
                    have z0 := decS_size V HV.out
                    have z1 := boolS_size false
                    have e1 : ¬ 9223372036854775807 < (decS V).size + 1 := by omega
                    have e2 : ¬ 9223372036854775807 < (decS V).size + 1 + (boolS false).size := by omega
                    have e3 : ¬ 9223372036854775807 < (decS V).size + 1 + (boolS false).size + 2 := by omega
                    clear z0 z1
                    go_wp2_with (first
                      | (go_at_call 73; refine (fmtu V HV.out _ (HT.out.below HBW.out hw2)).mono ?_; rintro e w6 ⟨rfl, hb6⟩; have HB6 := Lib.hid hb6; clear hb6)
                      | (go_at_call 74; refine (fbool false _).mono ?_; rintro e w7 ⟨rfl, rfl⟩)
                      | (at_builtin; (refine wpList_append_own _ rfl (.tmp 85) (.tmp 93) 114 rfl w.heap.size 9 i9 _ 1 16 Tryd.underlying114 hi9 hz9 hz91 hz92 rfl (by omega) u9 q _ rfl ((own_belowT HO.out HB6.out).alloc _) ⟨w6.heap.size, 0, none⟩ 1 1 [.string (((decS V ++ ⟨#[32]⟩) ++ boolS false) ++ ⟨#[32, 48]⟩)] rfl rfl ?_ ?_ ?_ ?_ ?_ ?_); (exact cell_litT w6 [.string (((decS V ++ ⟨#[32]⟩) ++ boolS false) ++ ⟨#[32, 48]⟩)] 9); (simp [Value.oneCell']); (unfold maxLen; omega); (omega); (have := HB6.out.size; have := HBW.out.size; simp; omega); intro v' w8 hown8 hg8 hnil8))
                    have hfin := tfin HM2.out HO.out HBW.out HB6.out hown8 hg8 HE.out HS.out
                    have HFIN := Lib.hid hfin
                    clear hfin
                    go_roundw
                    case rel => exact ⟨q + 1, by omega, by go_num, HFIN.out⟩
                    case measure => simp [intOf]; omega
          · have HE := Lib.hid (show tline (resA l ms q) = ⟨#[48, 32, 102, 97, 108, 115, 101, 32]⟩ ++ itoaS 2 from by rw [HRES.out, ts_bad S wt ix x y hin]; exact tline_bad S)
            have HS := Lib.hid (show stA l ms (q + 1) = S from by show (resA l ms q).ms = S; rw [HRES.out, ts_bad S wt ix x y hin])
            have hno : memF S ix = none := by unfold memF; rw [if_neg hin]
            rw [hno] at hlk
            simp only [Option.getD_none, Option.isSome_none] at hlk
            have HM2 := Lib.hid (HMq.out.mono (show k + q ≤ k + q + 1 by omega))
            clear hno hin
            have e0 : ¬ 9223372036854775807 < 8 + (itoaS 2).size := by rw [itoaS_code 2 (.inr rfl)]; omega
            go_wp2_with (first
              | (go_at_call 75; refine (itoa_any 2 _ ⟨by decide, by decide⟩ (HT.out.below HBq.out hw2)).mono ?_; rintro e w6 ⟨rfl, hb6⟩; have HB6 := Lib.hid hb6; clear hb6)
              | (at_builtin; (refine wpList_append_own _ rfl (.tmp 45) (.tmp 48) 114 rfl w.heap.size 9 i9 _ 1 16 Tryd.underlying114 hi9 hz9 hz91 hz92 rfl (by omega) u9 q _ rfl ((own_belowT HOq.out HB6.out).alloc _) ⟨w6.heap.size, 0, none⟩ 1 1 [.string (⟨#[48, 32, 102, 97, 108, 115, 101, 32]⟩ ++ itoaS 2)] rfl rfl ?_ ?_ ?_ ?_ ?_ ?_); (exact cell_litT w6 [.string (⟨#[48, 32, 102, 97, 108, 115, 101, 32]⟩ ++ itoaS 2)] 9); (simp [Value.oneCell']); (unfold maxLen; omega); (omega); (have := HB6.out.size; have := HBq.out.size; simp; omega); intro v' w8 hown8 hg8 hnil8))
            have hfin := tfin HM2.out HOq.out HBq.out HB6.out hown8 hg8 HE.out HS.out
            have HFIN := Lib.hid hfin
            clear hfin
            go_roundw
            case rel => exact ⟨q + 1, by omega, by go_num, HFIN.out⟩
            case measure => simp [intOf]; omega
        · obtain rfl : q = m := by omega
          have HMq := Lib.hid hmapq
          have HSL := Lib.hid hSl
          have HSS := Lib.hid hS
          clear hmapq hSl hS hlt
          go_wp2
          go_loopw [98, 16] (fun i v wr => ∃ p : Nat, p ≤ k ∧ i = .int .i64 p ∧ wr.ownsRow w.heap.size 35 1 v p (u64s (S.take p)) ∧ wr.ownsRow w.heap.size 9 1 u9 q (outA l ms q) ∧ MapO 35 .u64 wr w.heap.size (k + q) (memF S) ∧ Below w.heap.size w wr) (fun i _ _ => k - (intOf i).toNat)
          case atStart => exact ⟨0, Nat.zero_le _, rfl, ⟨by simp [u64s], .inl ⟨rfl, rfl⟩⟩, HREL.out.own, HMq.out, HREL.out.bel⟩
          case round =>
            obtain ⟨p, hp, rfl, hw, ho, hm3, hb3⟩ := hrel
            have HW := Lib.hid hw
            have HO9 := Lib.hid ho
            have HM3 := Lib.hid hm3
            have HB3 := Lib.hid hb3
            have hs3 := hb3.size
            clear hw ho hm3 hb3
            by_cases hlt3 : p < k
            · have hlk := HM3.out.look Tryd.underlying172 Tryd.underlying35 (Tryd.zeroValue35 _) (p : Int) (wfI_in (by omega) (by omega))
              rw [memF_in S p (by rw [HSL.out]; exact hlt3)] at hlk
              simp only [Option.getD_some] at hlk
              obtain ⟨v, hv⟩ : ∃ v, S.getD p 0 = v := ⟨_, rfl⟩
              rw [hv] at hlk
              have HV := Lib.hid hv
              clear hv
              go_wp2_with (at_builtin; (refine wpList_append_own _ rfl (.tmp 101) (.tmp 105) 34 rfl w.heap.size 35 i5 _ 1 8 Tryd.underlying34 hi5 hz5 hz51 hz52 rfl (by omega) u16 p _ rfl (HW.out.alloc _) ⟨wr.heap.size, 0, none⟩ 1 1 [.int .u64 v] rfl rfl ?_ ?_ ?_ ?_ ?_ ?_); (exact cell_litT wr [.int .u64 v] 35); (simp [Value.oneCell']); (unfold maxLen; omega); (omega); (simp; omega); intro v' w8 hown8 hg8 hnil8)
              have HFIN := Lib.hid (show w8.ownsRow w.heap.size 35 1 v' (p + 1) (u64s (S.take (p + 1))) ∧ w8.ownsRow w.heap.size 9 1 u9 q (outA l ms q) ∧ MapO 35 .u64 w8 w.heap.size (k + q) (memF S) ∧ Below w.heap.size w w8 from
                ⟨by rw [words_succ S p (by rw [HSL.out]; exact hlt3), HV.out]; exact hown8, (HO9.out.alloc _).kept hg8 (own_own_ne HO9.out HW.out (by decide)), (HM3.out.alloc _).grown hg8 (fun h => own_map_ne HW.out HM3.out h.symm), (HB3.out.alloc hs3 _).grown hg8 (by simp; omega) (fun g hg => (HW.out.lt g hg).1)⟩)
              go_roundw
              case rel => exact ⟨p + 1, by omega, by go_num, HFIN.out⟩
              case measure => simp [intOf]; omega
            · obtain rfl : p = k := by omega
              have hall : S.take p = stA l ms q := by rw [HSS.out]; exact List.take_of_length_le (by rw [HSL.out]; exact Nat.le_refl _)
              have hend := pt_end HO9.out (by rw [← hall]; exact HW.out) HB3.out
              have HEND := Lib.hid hend
              clear hend hall
              go_wp2
              go_ret2
              exact HEND.out
end Go.Proofs.YtepoahinnfjaiaaDoor
