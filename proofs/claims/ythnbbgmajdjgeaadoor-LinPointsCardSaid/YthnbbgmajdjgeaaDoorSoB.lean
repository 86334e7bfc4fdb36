/- The reference's stable sort, walked: sort.symMerge_func (function 58). Conditions: what is asked of the comparison, the exchange and the row ('LS'), the bounds. -/
import Derived.Test.YthnbbgmajdjgeaaDoorSoA
namespace Go.Proofs.YthnbbgmajdjgeaaDoor
open Go.RowKit Go.Sort Go.Shelf Go.Lib
variable {α : Type} [Inhabited α] {lt : α → α → Bool} {enc : α → List Value} {k g : Nat} {lb : Array Value} {sf : Nat} {sb : Array Value} {blk off size : Nat}

theorem bsr_stop {p : Nat → Bool} {f i j : Nat} (h : ¬ i < j) : bsr p f i j = i := by
  cases f with
  | zero => rfl
  | succ f => rw [bsr, if_neg h]
theorem bsr_t {p : Nat → Bool} {f i j : Nat} (h : i < j) (hp : p ((i + j) / 2) = true) : bsr p (f + 1) i j = bsr p f ((i + j) / 2 + 1) j := by rw [bsr, if_pos h, if_pos hp]
theorem bsr_f {p : Nat → Bool} {f i j : Nat} (h : i < j) (hp : p ((i + j) / 2) = false) : bsr p (f + 1) i j = bsr p f i ((i + j) / 2) := by rw [bsr, if_pos h, if_neg (by rw [hp]; exact Bool.false_ne_true)]

set_option maxHeartbeats 1000000 in
set_option maxRecDepth 100000 in
theorem symMerge_one (f a b : Nat) (d : Array α) (W : World) (L : LS lt enc k g lb sf sb blk off d.size W) (hH : HoldsK enc k W blk off d) (hmb : a + 1 < b) (hb : b ≤ d.size) (hsz : d.size < 2305843009213693952) :
    Calls Tryd.prog 58 #[.agg #[.func (.func g) #[] lb, .func (.func sf) #[] sb], .int .i64 a, .int .i64 ((a : Int) + 1), .int .i64 b] W fun e w' => e = .returned (.tuple #[]) ∧ SWK enc k W blk off (symM lt (f + 1) a (a + 1) b d) w' := by
  have hM : symM lt (f + 1) a (a + 1) b d = mvU a (bsr (fun h => lt d[h]! d[a]!) (b - (a + 1)) (a + 1) b - 1 - a) d := by rw [symM, if_pos rfl]
  rw [hM]
  clear hM
  have S0 : SWK enc k W blk off d (W.alloc (.cells #[.func (.func g) #[] lb, .func (.func sf) #[] sb] 97)) := (SWK.start hH).alloc _
  have L1 := Lib.hid (L.on S0 rfl)
  have hH1 := Lib.hid (S0.holds L.lt hH rfl)
  have HS0 := Lib.hid S0
  have LT := Lib.hid L.lt
  have S1 := Lib.hid (SWK.start hH1.out)
  have HB := bsr_bounds (fun h => lt d[h]! d[a]!) (b - (a + 1)) (a + 1) b (by omega)
  obtain ⟨q, hq⟩ : ∃ q, bsr (fun h => lt d[h]! d[a]!) (b - (a + 1)) (a + 1) b = q := ⟨_, rfl⟩
  rw [hq] at HB ⊢
  have HQ := Lib.hid hq
  clear L hH S0 hq
  have hone : (a : Int) + 1 - (a : Int) = 1 := by omega
  go_enter Tryd.func58, Tryd.ntmps58
  go_wp2
  go_loopg [8, 9] (b - (a + 1)) (fun g1 vi vj wr => ∃ (i j : Nat), vi = .int .i64 i ∧ vj = .int .i64 j ∧ a + 1 ≤ i ∧ i ≤ j ∧ j ≤ b ∧ j - i ≤ g1 ∧ Hid (SWK enc k (W.alloc (.cells #[.func (.func g) #[] lb, .func (.func sf) #[] sb] 97)) blk off d wr) ∧ Hid (bsr (fun h => lt d[h]! d[a]!) g1 i j = q))
  case atStart => exact ⟨a + 1, b, by go_num, rfl, Nat.le_refl _, by omega, Nat.le_refl _, Nat.le_refl _, S1, HQ⟩
  case round =>
    obtain ⟨i, j, rfl, rfl, hai, hij, hjb, hg, S, HE⟩ := hrel
    obtain ⟨c0, c1, hlt1⟩ := box_at S.out LT.out
    by_cases hlt : i < j
    · obtain ⟨gg, rfl⟩ : ∃ gg, gk = gg + 1 := ⟨gk - 1, by omega⟩
      have hh1 : i ≤ (i + j) / 2 := by omega
      have hh2 : (i + j) / 2 < j := by omega
      have hl := S.out.less L1.out.less rfl ((i + j) / 2) a (by omega) (by omega)
      rw [show (((i + j) / 2 : Nat) : Int) = ((i : Int) + (j : Int)) / 2 by omega] at hl
      have HL := Lib.hid hl
      have EG := L1.out.eg
      clear hl
      cases hp : lt d[(i + j) / 2]! d[a]! with
      | true =>
        rw [hp] at HL
        have HE2 := Lib.hid ((bsr_t (p := fun h => lt d[h]! d[a]!) hlt hp).symm.trans HE.out)
        clear hp
        go_wp2_with (go_at_fn g; refine HL.out.mono ?_; rintro e w1 ⟨rfl, q1, rfl⟩)
        go_roundg gg
        case measure => omega
        case rel => exact ⟨(i + j) / 2 + 1, j, by first | rfl | (congr 1; omega), rfl, by omega, by omega, hjb, by omega, Lib.hid (S.out.drewN q1), HE2⟩
      | false =>
        rw [hp] at HL
        have HE2 := Lib.hid ((bsr_f (p := fun h => lt d[h]! d[a]!) hlt hp).symm.trans HE.out)
        clear hp
        go_wp2_with (go_at_fn g; refine HL.out.mono ?_; rintro e w1 ⟨rfl, q1, rfl⟩)
        go_roundg gg
        case measure => omega
        case rel => exact ⟨i, (i + j) / 2, rfl, by first | rfl | (congr 1; omega), hai, by omega, by omega, by omega, Lib.hid (S.out.drewN q1), HE2⟩
    · obtain rfl : q = i := by rw [← HE.out, bsr_stop hlt]
      clear HE
      go_wp2
      go_loopg [11] (q - 1 - a) (fun g1 v1 wr => ∃ (kk : Nat) (dk : Array α), v1 = .int .i64 kk ∧ kk + g1 = q - 1 ∧ a ≤ kk ∧ dk.size = d.size ∧ Hid (SWK enc k (W.alloc (.cells #[.func (.func g) #[] lb, .func (.func sf) #[] sb] 97)) blk off dk wr) ∧ Hid (mvU kk g1 dk = mvU a (q - 1 - a) d))
      case atStart => exact ⟨a, d, rfl, by omega, Nat.le_refl _, rfl, S, Lib.hid rfl⟩
      case round =>
        clear c0 c1 hlt1 S
        obtain ⟨kk, dk, rfl, hi, hka, hds, S, HE⟩ := hrel
        obtain ⟨c0, c1, hlt1⟩ := box_at S.out LT.out
        cases gk with
        | zero =>
          have hni : ¬ (kk : Int) < (q : Int) - 1 := by omega
          go_wp2
          (try simp only [Exit.inBlock, Exit.then])
          refine bodyPost_ret (results_none rfl _ _ _) rfl ?_
          exact ⟨rfl, by have h := swk_trans HS0.out LT.out S.out hds; rw [← HE.out]; exact h⟩
        | succ gk =>
          have hni : (kk : Int) < (q : Int) - 1 := by omega
          have hs := L1.out.swap wr dk (S.out.holds L1.out.lt hH1.out hds) hds kk (kk + 1) (by omega) (by omega)
          rw [show ((kk + 1 : Nat) : Int) = (kk : Int) + 1 by omega] at hs
          have S2 := Lib.hid (S.out.swap L1.out.hk L1.out.lt kk (kk + 1) (by omega) (by omega))
          have hd2 : (swp dk kk (kk + 1)).size = d.size := by rw [size_swp]; exact hds
          generalize (wr.setCells blk (off + kk * k) (enc dk[kk + 1]!)).setCells blk (off + (kk + 1) * k) (enc dk[kk]!) = w2 at hs S2
          clear S
          go_wp2
          go_roundg gk
          case measure => omega
          case rel => exact ⟨kk + 1, _, by go_num, by omega, by omega, hd2, S2, HE⟩

set_option maxHeartbeats 1000000 in
set_option maxRecDepth 100000 in
theorem symMerge_last (f a m : Nat) (d : Array α) (W : World) (L : LS lt enc k g lb sf sb blk off d.size W) (hH : HoldsK enc k W blk off d) (ham : a + 1 < m) (hb : m + 1 ≤ d.size) (hsz : d.size < 2305843009213693952) :
    Calls Tryd.prog 58 #[.agg #[.func (.func g) #[] lb, .func (.func sf) #[] sb], .int .i64 a, .int .i64 m, .int .i64 ((m : Int) + 1)] W fun e w' => e = .returned (.tuple #[]) ∧ SWK enc k W blk off (symM lt (f + 1) a m (m + 1) d) w' := by
  have hM : symM lt (f + 1) a m (m + 1) d = mvD m (m - bsr (fun h => !lt d[m]! d[h]!) (m - a) a m) d := by rw [symM, if_neg (by omega), if_pos rfl]
  rw [hM]
  clear hM
  have S0 : SWK enc k W blk off d (W.alloc (.cells #[.func (.func g) #[] lb, .func (.func sf) #[] sb] 97)) := (SWK.start hH).alloc _
  have L1 := Lib.hid (L.on S0 rfl)
  have hH1 := Lib.hid (S0.holds L.lt hH rfl)
  have HS0 := Lib.hid S0
  have LT := Lib.hid L.lt
  have S1 := Lib.hid (SWK.start hH1.out)
  have HB := bsr_bounds (fun h => !lt d[m]! d[h]!) (m - a) a m (by omega)
  obtain ⟨q, hq⟩ : ∃ q, bsr (fun h => !lt d[m]! d[h]!) (m - a) a m = q := ⟨_, rfl⟩
  rw [hq] at HB ⊢
  have HQ := Lib.hid hq
  clear L hH S0 hq
  have hone : ((m : Int) - (a : Int) == 1) = false := by rw [beq_eq_false_iff_ne]; omega
  have hone2 : (m : Int) + 1 - (m : Int) = 1 := by omega
  go_enter Tryd.func58, Tryd.ntmps58
  go_wp2
  go_loopg [12, 13] (m - a) (fun g1 vi vj wr => ∃ (i j : Nat), vi = .int .i64 i ∧ vj = .int .i64 j ∧ a ≤ i ∧ i ≤ j ∧ j ≤ m ∧ j - i ≤ g1 ∧ Hid (SWK enc k (W.alloc (.cells #[.func (.func g) #[] lb, .func (.func sf) #[] sb] 97)) blk off d wr) ∧ Hid (bsr (fun h => !lt d[m]! d[h]!) g1 i j = q))
  case atStart => exact ⟨a, m, rfl, rfl, Nat.le_refl _, by omega, Nat.le_refl _, Nat.le_refl _, S1, HQ⟩
  case round =>
    obtain ⟨i, j, rfl, rfl, hai, hij, hjb, hg, S, HE⟩ := hrel
    obtain ⟨c0, c1, hlt1⟩ := box_at S.out LT.out
    by_cases hlt : i < j
    · obtain ⟨gg, rfl⟩ : ∃ gg, gk = gg + 1 := ⟨gk - 1, by omega⟩
      have hh1 : i ≤ (i + j) / 2 := by omega
      have hh2 : (i + j) / 2 < j := by omega
      have hl := S.out.less L1.out.less rfl m ((i + j) / 2) (by omega) (by omega)
      rw [show (((i + j) / 2 : Nat) : Int) = ((i : Int) + (j : Int)) / 2 by omega] at hl
      have HL := Lib.hid hl
      have EG := L1.out.eg
      clear hl
      cases hp : lt d[m]! d[(i + j) / 2]! with
      | false =>
        rw [hp] at HL
        have HE2 := Lib.hid ((bsr_t (p := fun h => !lt d[m]! d[h]!) hlt (by simp only [hp]; rfl)).symm.trans HE.out)
        clear hp
        go_wp2_with (go_at_fn g; refine HL.out.mono ?_; rintro e w1 ⟨rfl, q1, rfl⟩)
        go_roundg gg
        case measure => omega
        case rel => exact ⟨(i + j) / 2 + 1, j, by first | rfl | (congr 1; omega), rfl, by omega, by omega, hjb, by omega, Lib.hid (S.out.drewN q1), HE2⟩
      | true =>
        rw [hp] at HL
        have HE2 := Lib.hid ((bsr_f (p := fun h => !lt d[m]! d[h]!) hlt (by simp only [hp]; rfl)).symm.trans HE.out)
        clear hp
        go_wp2_with (go_at_fn g; refine HL.out.mono ?_; rintro e w1 ⟨rfl, q1, rfl⟩)
        go_roundg gg
        case measure => omega
        case rel => exact ⟨i, (i + j) / 2, rfl, by first | rfl | (congr 1; omega), hai, by omega, by omega, by omega, Lib.hid (S.out.drewN q1), HE2⟩
    · obtain rfl : q = i := by rw [← HE.out, bsr_stop hlt]
      clear HE
      go_wp2
      go_loopg [15] (m - q) (fun g1 v1 wr => ∃ (kk : Nat) (dk : Array α), v1 = .int .i64 kk ∧ Hid (kk = q + g1) ∧ q + g1 ≤ kk ∧ kk ≤ m ∧ dk.size = d.size ∧ Hid (SWK enc k (W.alloc (.cells #[.func (.func g) #[] lb, .func (.func sf) #[] sb] 97)) blk off dk wr) ∧ Hid (mvD kk g1 dk = mvD m (m - q) d))
      case atStart => exact ⟨m, d, rfl, Lib.hid (by omega), by omega, Nat.le_refl _, rfl, S, Lib.hid rfl⟩
      case round =>
        clear c0 c1 hlt1 S
        obtain ⟨kk, dk, rfl, hi, hi2, hka, hds, S, HE⟩ := hrel
        obtain ⟨c0, c1, hlt1⟩ := box_at S.out LT.out
        cases gk with
        | zero =>
          have hni : ¬ (q : Int) < (kk : Int) := by have := hi.out; omega
          go_wp2
          (try simp only [Exit.inBlock, Exit.then])
          refine bodyPost_ret (results_none rfl _ _ _) rfl ?_
          exact ⟨rfl, by have h := swk_trans HS0.out LT.out S.out hds; rw [← HE.out]; exact h⟩
        | succ gk =>
          have hni : (q : Int) < (kk : Int) := by omega
          have hs := L1.out.swap wr dk (S.out.holds L1.out.lt hH1.out hds) hds kk (kk - 1) (by omega) (by omega)
          rw [show ((kk - 1 : Nat) : Int) = (kk : Int) - 1 by omega] at hs
          have S2 := Lib.hid (S.out.swap L1.out.hk L1.out.lt kk (kk - 1) (by omega) (by omega))
          have hd2 : (swp dk kk (kk - 1)).size = d.size := by rw [size_swp]; exact hds
          generalize (wr.setCells blk (off + kk * k) (enc dk[kk - 1]!)).setCells blk (off + (kk - 1) * k) (enc dk[kk]!) = w2 at hs S2
          clear S
          go_wp2
          go_roundg gk
          case measure => omega
          case rel => exact ⟨kk - 1, _, by first | rfl | (congr 1; omega), Lib.hid (by have := hi.out; omega), by omega, by omega, hd2, S2, HE⟩

end Go.Proofs.YthnbbgmajdjgeaaDoor
