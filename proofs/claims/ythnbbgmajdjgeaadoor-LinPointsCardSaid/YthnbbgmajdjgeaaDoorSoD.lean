/- The reference's stable sort, walked: sort.stable_func (function 32): it computes 'stbl'. Conditions: what is asked of the comparison, the exchange and the row ('LS'). -/
import Derived.Test.YthnbbgmajdjgeaaDoorSoC
import Derived.Test.YthnbbgmajdjgeaaDoorShelf
namespace Go.Proofs.YthnbbgmajdjgeaaDoor
open Go.RowKit Go.Sort Go.Shelf Go.Lib
variable {α : Type} [Inhabited α] {lt : α → α → Bool} {enc : α → List Value} {k g : Nat} {lb : Array Value} {sf : Nat} {sb : Array Value} {blk off size : Nat}

theorem ins_f (a b : Nat) (d : Array α) (W : World) (L : LS lt enc k g lb sf sb blk off d.size W) (hH : HoldsK enc k W blk off d) (hab : a ≤ b) (hb : b ≤ d.size) (hsz : d.size < 2305843009213693952) :
    Calls Tryd.prog 57 #[.agg #[.func (.func g) #[] lb, .func (.func sf) #[] sb], .int .i64 a, .int .i64 b] W fun e w' => e = .returned (.tuple #[]) ∧ SWK enc k W blk off (insertionSort lt d a b) w' :=
  Any.insertionSort_func_cells_w Tryd.laysGg26 enc k L.hk lt g lb sf sb blk off a b d W L.eg L.less L.swap hH L.lt hab hb (by omega)

set_option maxHeartbeats 2000000 in
set_option maxRecDepth 100000 in
theorem stable_f (d : Array α) (W : World) (L : LS lt enc k g lb sf sb blk off d.size W) (hH : HoldsK enc k W blk off d) (hsz : d.size < 100000) :
    Calls Tryd.prog 32 #[.agg #[.func (.func g) #[] lb, .func (.func sf) #[] sb], .int .i64 d.size] W fun e w' => e = .returned (.tuple #[]) ∧ SWK enc k W blk off (stbl lt d) w' := by
  have S0 : SWK enc k W blk off d (W.alloc (.cells #[.func (.func g) #[] lb, .func (.func sf) #[] sb] 97)) := (SWK.start hH).alloc _
  have L1 := Lib.hid (L.on S0 rfl)
  have hH1 := Lib.hid (S0.holds L.lt hH rfl)
  have HS0 := Lib.hid S0
  have LT := Lib.hid L.lt
  have S1 := Lib.hid (SWK.start hH1.out)
  obtain ⟨n, hn⟩ : ∃ n, d.size = n := ⟨_, rfl⟩
  obtain ⟨d1, hd1⟩ : ∃ d1, stIns lt n n 0 d = d1 := ⟨_, rfl⟩
  have hd1s : d1.size = n := by rw [← hd1, size_stIns, hn]
  have hT : stbl lt d = pas lt n n 20 d1 := by rw [stbl, hn, hd1]
  rw [hT, hn]
  have HD1 := Lib.hid hd1
  have HN := Lib.hid hn
  have hn1 : n < 100000 := by omega
  clear L hH S0 hT hd1 hn hsz
  go_enter Tryd.func32, Tryd.ntmps32
  go_wp2
  go_loopg [5, 6] n (fun g1 va vb wr => ∃ (a : Nat) (dk : Array α), va = .int .i64 a ∧ vb = .int .i64 ((a : Int) + 20) ∧ a ≤ n ∧ n ≤ a + g1 ∧ dk.size = n ∧ Hid (SWK enc k (W.alloc (.cells #[.func (.func g) #[] lb, .func (.func sf) #[] sb] 97)) blk off dk wr) ∧ Hid (stIns lt n g1 a dk = d1))
  case atStart => exact ⟨0, d, rfl, rfl, Nat.zero_le _, by omega, HN.out, S1, HD1⟩
  case round =>
    obtain ⟨a, dk, rfl, rfl, ha, hag, hds, S, HE⟩ := hrel
    obtain ⟨c0, c1, hlt⟩ := box_at S.out LT.out
    have hds' : dk.size = d.size := hds.trans HN.out.symm
    have LS1 := Lib.hid (L1.out.on S.out hds')
    have LH1 := Lib.hid (S.out.holds L1.out.lt hH1.out hds')
    have HDS := Lib.hid hds
    have HDS' := Lib.hid hds'
    clear hds hds'
    by_cases hab : a + 20 ≤ n
    · obtain ⟨gg, rfl⟩ : ∃ gg, gk = gg + 1 := ⟨gk - 1, by omega⟩
      have HE2 : Hid (stIns lt n gg (a + 20) (insertionSort lt dk a (a + 20)) = d1) := Lib.hid (by rw [← HE.out, stIns, if_pos hab])
      have hcall := ins_f (lt := lt) (sf := sf) (sb := sb) a (a + 20) dk wr (by rw [HDS'.out]; exact LS1.out) LH1.out (by omega) (by rw [HDS.out]; exact hab) (by rw [HDS.out]; omega)
      rw [show ((a + 20 : Nat) : Int) = (a : Int) + 20 by omega] at hcall
      have HC := Lib.hid hcall
      clear hcall
      go_wp2_with (go_at_call 57; refine HC.out.mono ?_; rintro e w1 ⟨rfl, hs1⟩)
      go_roundg gg
      case measure => omega
      case rel => exact ⟨a + 20, _, by first | rfl | (congr 1; omega), by first | rfl | (congr 1; omega), hab, by omega, (size_ins _ _ _ _).trans HDS.out, Lib.hid (swk_trans S.out L1.out.lt hs1 (size_ins _ _ _ _)), HE2⟩
    · have HE2 : Hid (insertionSort lt dk a n = d1) := Lib.hid (by
        rw [← HE.out]
        cases gk with
        | zero => rw [stIns]
        | succ gg => rw [stIns, if_neg hab])
      have hcall := ins_f (lt := lt) (sf := sf) (sb := sb) a n dk wr (by rw [HDS'.out]; exact LS1.out) LH1.out ha (by rw [HDS.out]; exact Nat.le_refl _) (by rw [HDS.out]; omega)
      rw [HE2.out] at hcall
      have HC := Lib.hid hcall
      have HD1S := Lib.hid hd1s
      clear hcall HE HE2 hd1s
      go_wp2_with (go_at_call 57; refine HC.out.mono ?_; rintro e w1 ⟨rfl, hs1⟩)
      have S2 := Lib.hid (swk_trans S.out L1.out.lt hs1 (HD1S.out.trans HDS.out.symm))
      clear hs1 HC S c0 c1 hlt LS1 LH1
      go_loopg [4] n (fun g1 vs wr => ∃ (s : Nat) (dk : Array α), vs = .int .i64 s ∧ 20 ≤ s ∧ s ≤ 2 * n + 20 ∧ n ≤ s + g1 ∧ dk.size = n ∧ Hid (SWK enc k (W.alloc (.cells #[.func (.func g) #[] lb, .func (.func sf) #[] sb] 97)) blk off dk wr) ∧ Hid (pas lt n g1 s dk = pas lt n n 20 d1))
      case atStart => exact ⟨20, d1, rfl, Nat.le_refl _, by omega, by omega, HD1S.out, S2, Lib.hid rfl⟩
      case round =>
        clear S2
        obtain ⟨s, dq, rfl, hs20, hsn, hsg, hdq, S, HE⟩ := hrel
        by_cases hlt : s < n
        · obtain ⟨gg, rfl⟩ : ∃ gg, gk = gg + 1 := ⟨gk - 1, by omega⟩
          obtain ⟨dm, hdm⟩ : ∃ dm, mrg lt n s (n + 1) 0 dq = dm := ⟨_, rfl⟩
          have HE2 : Hid (pas lt n gg (2 * s) dm = pas lt n n 20 d1) := Lib.hid (by rw [← HE.out, pas, if_pos hlt, hdm])
          have hdms : dm.size = n := by rw [← hdm, size_mrg, hdq]
          have HDM := Lib.hid hdm
          have HDMS := Lib.hid hdms
          clear HE hdm hdms
          go_wp2
          go_loopg [5, 6] (n + 1) (fun g1 va vb wr => ∃ (a : Nat) (dk : Array α), va = .int .i64 a ∧ vb = .int .i64 ((a : Int) + 2 * (s : Int)) ∧ a ≤ n ∧ n + 1 ≤ a + g1 ∧ dk.size = n ∧ Hid (SWK enc k (W.alloc (.cells #[.func (.func g) #[] lb, .func (.func sf) #[] sb] 97)) blk off dk wr) ∧ Hid (mrg lt n s g1 a dk = dm))
          case atStart => exact ⟨0, dq, rfl, by first | rfl | (congr 1; omega), Nat.zero_le _, by omega, hdq, S, HDM⟩
          case round =>
            clear S
            obtain ⟨a2, dk2, rfl, rfl, ha2, hag2, hds2, S, HE⟩ := hrel
            obtain ⟨c0, c1, hlt2⟩ := box_at S.out LT.out
            have hds' : dk2.size = d.size := hds2.trans HN.out.symm
            have LS1 := Lib.hid (L1.out.on S.out hds')
            have LH1 := Lib.hid (S.out.holds L1.out.lt hH1.out hds')
            have HDS2 := Lib.hid hds2
            have HDS2' := Lib.hid hds'
            clear hds2 hds'
            obtain ⟨g2, rfl⟩ : ∃ g2, gk = g2 + 1 := ⟨gk - 1, by omega⟩
            by_cases hab2 : a2 + 2 * s ≤ n
            · have hab2i : (a2 : Int) + 2 * (s : Int) ≤ (n : Int) := by omega
              have HE3 : Hid (mrg lt n s g2 (a2 + 2 * s) (symM lt n a2 (a2 + s) (a2 + 2 * s) dk2) = dm) := Lib.hid (by rw [← HE.out, mrg, if_pos hab2])
              have hcall := symMerge_f (lt := lt) (enc := enc) (k := k) (g := g) (lb := lb) (sf := sf) (sb := sb) (blk := blk) (off := off) n a2 (a2 + s) (a2 + 2 * s) dk2 wr (by rw [HDS2'.out]; exact LS1.out) LH1.out (by omega) (by omega) (by rw [HDS2.out]; exact hab2) (by omega) (by rw [HDS2.out]; omega)
              rw [show ((a2 + s : Nat) : Int) = (a2 : Int) + (s : Int) by omega, show ((a2 + 2 * s : Nat) : Int) = (a2 : Int) + 2 * (s : Int) by omega] at hcall
              have HC2 := Lib.hid hcall
              clear hcall HE
              go_wp2_with (go_at_call 58; refine HC2.out.mono ?_; rintro e w2 ⟨rfl, hs2⟩)
              go_roundg g2
              case measure => omega
              case rel => exact ⟨a2 + 2 * s, _, by first | rfl | (congr 1; omega), by first | rfl | (congr 1; omega), hab2, by omega, (size_symM _ _ _ _ _ _).trans HDS2.out, Lib.hid (swk_trans S.out L1.out.lt hs2 (size_symM _ _ _ _ _ _)), HE3⟩
            · have hab2i : ¬ (a2 : Int) + 2 * (s : Int) ≤ (n : Int) := by omega
              by_cases ham : a2 + s < n
              · have hami : (a2 : Int) + (s : Int) < (n : Int) := by omega
                have HE3 : Hid (symM lt n a2 (a2 + s) n dk2 = dm) := Lib.hid (by rw [← HE.out, mrg, if_neg hab2, if_pos ham])
                have hcall := symMerge_f (lt := lt) (enc := enc) (k := k) (g := g) (lb := lb) (sf := sf) (sb := sb) (blk := blk) (off := off) n a2 (a2 + s) n dk2 wr (by rw [HDS2'.out]; exact LS1.out) LH1.out (by omega) (by omega) (by rw [HDS2.out]; exact Nat.le_refl _) (by omega) (by rw [HDS2.out]; omega)
                rw [show ((a2 + s : Nat) : Int) = (a2 : Int) + (s : Int) by omega, HE3.out] at hcall
                have HC2 := Lib.hid hcall
                clear hcall HE HE3
                go_wp2_with (go_at_call 58; refine HC2.out.mono ?_; rintro e w2 ⟨rfl, hs2⟩)
                go_roundg gg
                case measure => omega
                case rel => exact ⟨2 * s, dm, by first | rfl | (congr 1; omega), by omega, by omega, by omega, HDMS.out, Lib.hid (swk_trans S.out L1.out.lt hs2 (HDMS.out.trans HDS2.out.symm)), HE2⟩
              · have hami : ¬ (a2 : Int) + (s : Int) < (n : Int) := by omega
                have HE3 : Hid (dk2 = dm) := Lib.hid (by rw [← HE.out, mrg, if_neg hab2, if_neg ham])
                clear HE
                go_wp2
                go_roundg gg
                case measure => omega
                case rel => exact ⟨2 * s, dm, by first | rfl | (congr 1; omega), by omega, by omega, by omega, HDMS.out, Lib.hid (HE3.out ▸ S.out), HE2⟩
        · have HE2 : Hid (dq = pas lt n n 20 d1) := Lib.hid (by
            rw [← HE.out]
            cases gk with
            | zero => rw [pas]
            | succ gg => rw [pas, if_neg hlt])
          clear HE
          go_wp2
          go_end0
          refine ⟨rfl, ?_⟩
          rw [← HE2.out]
          exact swk_trans HS0.out LT.out S.out (hdq.trans HN.out.symm)

end Go.Proofs.YthnbbgmajdjgeaaDoor
