/- The program's stable sort, walked: slices.insertionSortCmpFunc and symMergeCmpFunc's short cases (functions 59, 60). Conditions: what is asked of the comparison and the row ('CS'), the bounds. -/
import Derived.Test.YthnbbgmajdjgeaaDoorSlA
namespace Go.Proofs.YthnbbgmajdjgeaaDoor
open Go.RowKit Go.Sort Go.Shelf Go.Lib
variable {P : Program} {k : Nat} {α : Type} [Inhabited α] {cf : α → α → Int} {enc : α → List Value} {g : Nat} {cb : Array Value} {blk off size : Nat}

theorem bsr_stop {p : Nat → Bool} {f i j : Nat} (h : ¬ i < j) : bsr p f i j = i := by
  cases f with
  | zero => rfl
  | succ f => rw [bsr, if_neg h]
theorem bsr_t {p : Nat → Bool} {f i j : Nat} (h : i < j) (hp : p ((i + j) / 2) = true) : bsr p (f + 1) i j = bsr p f ((i + j) / 2 + 1) j := by rw [bsr, if_pos h, if_pos hp]
theorem bsr_f {p : Nat → Bool} {f i j : Nat} (h : i < j) (hp : p ((i + j) / 2) = false) : bsr p (f + 1) i j = bsr p f i ((i + j) / 2) := by rw [bsr, if_pos h, if_neg (by rw [hp]; exact Bool.false_ne_true)]

set_option maxHeartbeats 2000000 in
set_option maxRecDepth 100000 in
theorem csymMerge_one (B : SB P k) (f a b cap : Nat) (d : Array α) (W : World) (L : CS P cf enc k g cb blk off d.size W) (hH : HoldsK enc k W blk off d) (hmb : a + 1 < b) (hb : b ≤ d.size) (hsz : d.size < 2305843009213693952) :
    Calls P 60 #[.slice (some ⟨blk, off, none⟩) d.size cap, .int .i64 a, .int .i64 ((a : Int) + 1), .int .i64 b, .func (.func g) #[] cb] W fun e w' => e = .returned (.tuple #[]) ∧ SWK enc k W blk off (symM (ltOf cf) (f + 1) a (a + 1) b d) w' := by
  have hM : symM (ltOf cf) (f + 1) a (a + 1) b d = mvU a (bsr (fun h => ltOf cf d[h]! d[a]!) (b - (a + 1)) (a + 1) b - 1 - a) d := by rw [symM, if_pos rfl]
  rw [hM]
  clear hM
  have R := Lib.hid (L.row hH)
  have S1 := Lib.hid (SWK.start hH)
  have HC := Lib.hid L.cmp
  have EG := L.eg
  have HK := Lib.hid L.hk
  have mixed := B.mixed; have t3 := B.t3; have a3 := B.a3; have z3 := B.z3; have t26 := B.t26; have a26 := B.a26; have z26 := B.z26; have a39 := B.a39; have z39 := B.z39; have t139 := B.t139; have t4 := B.t4
  have u26 := run_underlying B.t26
  have HB := bsr_bounds (fun h => ltOf cf d[h]! d[a]!) (b - (a + 1)) (a + 1) b (by omega)
  obtain ⟨q, hq⟩ : ∃ q, bsr (fun h => ltOf cf d[h]! d[a]!) (b - (a + 1)) (a + 1) b = q := ⟨_, rfl⟩
  rw [hq] at HB ⊢
  have HQ := Lib.hid hq
  clear L hH hq
  have hone : (a : Int) + 1 - (a : Int) = 1 := by omega
  go_enter B.f60, Tryd.ntmps60
  go_wp2
  go_loopg [10, 11] (b - (a + 1)) (fun g1 vi vj wr => ∃ (i j : Nat), vi = .int .i64 i ∧ vj = .int .i64 j ∧ a + 1 ≤ i ∧ i ≤ j ∧ j ≤ b ∧ j - i ≤ g1 ∧ Hid (SWK enc k W blk off d wr) ∧ Hid (bsr (fun h => ltOf cf d[h]! d[a]!) g1 i j = q))
  case atStart => exact ⟨a + 1, b, by go_num, rfl, Nat.le_refl _, by omega, Nat.le_refl _, Nat.le_refl _, S1, HQ⟩
  case round =>
    obtain ⟨i, j, rfl, rfl, hai, hij, hjb, hg, S, HE⟩ := hrel
    by_cases hlt : i < j
    · obtain ⟨gg, rfl⟩ : ∃ gg, gk = gg + 1 := ⟨gk - 1, by omega⟩
      obtain ⟨h, hh⟩ : ∃ h, (i + j) / 2 = h := ⟨_, rfl⟩
      have hh1 : i ≤ h := by omega
      have hh2 : h < j := by omega
      have hI : ((i : Int) + (j : Int)) / 2 = (h : Int) := by omega
      have hhs : h < d.size := by omega
      have has : a < d.size := by omega
      have l1 := S.out.ld R.out rfl P h hhs
      have l2 := S.out.ld R.out rfl P a has
      have hcg := S.out.cmp HC.out rfl d[h]! d[a]!
      have HG := Lib.hid (fun n os => S.out.grown (n := n) (os := os))
      clear S
      by_cases hlv : cf d[h]! d[a]! < 0
      · have HE2 := Lib.hid ((bsr_t (p := fun h => ltOf cf d[h]! d[a]!) hlt (by rw [hh]; exact decide_eq_true hlv)).symm.trans HE.out)
        rw [hh] at HE2
        obtain ⟨xj, hxj⟩ : ∃ x, d[h]! = x := ⟨_, rfl⟩
        obtain ⟨xp, hxp⟩ : ∃ x, d[a]! = x := ⟨_, rfl⟩
        rw [hxj] at l1 hcg hlv
        rw [hxp] at l2 hcg hlv
        clear hxj hxp
        go_wp2_with fail
        go_quiet_grown (first | (go_at_fn g; refine Calls.grown_of (hcg _ _)))
        go_wp2
        go_roundg gg
        case measure => omega
        case rel => exact ⟨h + 1, j, by first | rfl | (congr 1; omega), rfl, by omega, by omega, hjb, by omega, Lib.hid (HG.out _ _), HE2⟩
      · have HE2 := Lib.hid ((bsr_f (p := fun h => ltOf cf d[h]! d[a]!) hlt (by rw [hh]; exact decide_eq_false hlv)).symm.trans HE.out)
        rw [hh] at HE2
        obtain ⟨xj, hxj⟩ : ∃ x, d[h]! = x := ⟨_, rfl⟩
        obtain ⟨xp, hxp⟩ : ∃ x, d[a]! = x := ⟨_, rfl⟩
        rw [hxj] at l1 hcg hlv
        rw [hxp] at l2 hcg hlv
        clear hxj hxp
        go_wp2_with fail
        go_quiet_grown (first | (go_at_fn g; refine Calls.grown_of (hcg _ _)))
        go_wp2
        go_roundg gg
        case measure => omega
        case rel => exact ⟨i, h, rfl, by first | rfl | (congr 1; omega), hai, by omega, by omega, by omega, Lib.hid (HG.out _ _), HE2⟩
    · obtain rfl : q = i := by rw [← HE.out, bsr_stop hlt]
      clear HE
      go_wp2
      go_loopg [13] (q - 1 - a) (fun g1 v1 wr => ∃ (kk : Nat) (dk : Array α), v1 = .int .i64 kk ∧ kk + g1 = q - 1 ∧ a ≤ kk ∧ dk.size = d.size ∧ Hid (SWK enc k W blk off dk wr) ∧ Hid (mvU kk g1 dk = mvU a (q - 1 - a) d))
      case atStart => exact ⟨a, d, rfl, by omega, Nat.le_refl _, rfl, S, Lib.hid rfl⟩
      case round =>
        clear S
        obtain ⟨kk, dk, rfl, hi, hka, hds, S, HE⟩ := hrel
        cases gk with
        | zero =>
          have hni : ¬ (kk : Int) < (q : Int) - 1 := by omega
          go_wp2
          (try simp only [Exit.inBlock, Exit.then])
          refine bodyPost_ret (results_none rfl _ _ _) rfl ?_
          exact ⟨rfl, by rw [← HE.out]; exact S.out⟩
        | succ gk =>
          have hni : (kk : Int) < (q : Int) - 1 := by omega
          have la := S.out.ld1 R.out hds P kk (by omega)
          have lb := S.out.ld1 R.out hds P (kk + 1) (by omega)
          have s1 := S.out.st1 R.out hds P kk (by omega) (dk[kk + 1]!)
          have s2 := S.out.st2 R.out hds P kk (kk + 1) (by omega) (by omega) (dk[kk + 1]!) (dk[kk]!)
          have S2 := Lib.hid (S.out.swapped R.out kk (kk + 1) (by omega) (by omega))
          have hd2 : (swp dk kk (kk + 1)).size = d.size := by rw [size_swp]; exact hds
          have hlA := HK.out (dk[kk]!)
          have hlB := HK.out (dk[kk + 1]!)
          obtain ⟨cA, hcA⟩ : ∃ c, c = enc (dk[kk]!) := ⟨_, rfl⟩
          obtain ⟨cB, hcB⟩ : ∃ c, c = enc (dk[kk + 1]!) := ⟨_, rfl⟩
          rw [← hcA] at la s2 S2 hlA
          rw [← hcB] at lb s1 s2 S2 hlB
          have k0 : (kk : Int) < (d.size : Int) := by omega
          have k1 : (kk : Int) + 1 < (d.size : Int) := by omega
          have k2 : ((kk : Int) + 1).toNat = kk + 1 := by omega
          clear S hcA hcB
          go_wp2_with fail
          go_big_region_o
          all_goals go_wp2
          go_roundg gk
          case measure => omega
          case rel => exact ⟨kk + 1, _, by go_num, by omega, by omega, hd2, S2, HE⟩

set_option maxHeartbeats 2000000 in
set_option maxRecDepth 100000 in
theorem csymMerge_last (B : SB P k) (f a m cap : Nat) (d : Array α) (W : World) (L : CS P cf enc k g cb blk off d.size W) (hH : HoldsK enc k W blk off d) (ham : a + 1 < m) (hb : m + 1 ≤ d.size) (hsz : d.size < 2305843009213693952) :
    Calls P 60 #[.slice (some ⟨blk, off, none⟩) d.size cap, .int .i64 a, .int .i64 m, .int .i64 ((m : Int) + 1), .func (.func g) #[] cb] W fun e w' => e = .returned (.tuple #[]) ∧ SWK enc k W blk off (symM (ltOf cf) (f + 1) a m (m + 1) d) w' := by
  have hM : symM (ltOf cf) (f + 1) a m (m + 1) d = mvD m (m - bsr (fun h => !ltOf cf d[m]! d[h]!) (m - a) a m) d := by rw [symM, if_neg (by omega), if_pos rfl]
  rw [hM]
  clear hM
  have R := Lib.hid (L.row hH)
  have S1 := Lib.hid (SWK.start hH)
  have HC := Lib.hid L.cmp
  have EG := L.eg
  have HK := Lib.hid L.hk
  have mixed := B.mixed; have t3 := B.t3; have a3 := B.a3; have z3 := B.z3; have t26 := B.t26; have a26 := B.a26; have z26 := B.z26; have a39 := B.a39; have z39 := B.z39; have t139 := B.t139; have t4 := B.t4
  have u26 := run_underlying B.t26
  have HB := bsr_bounds (fun h => !ltOf cf d[m]! d[h]!) (m - a) a m (by omega)
  obtain ⟨q, hq⟩ : ∃ q, bsr (fun h => !ltOf cf d[m]! d[h]!) (m - a) a m = q := ⟨_, rfl⟩
  rw [hq] at HB ⊢
  have HQ := Lib.hid hq
  clear L hH hq
  have hone : ((m : Int) - (a : Int) == 1) = false := by rw [beq_eq_false_iff_ne]; omega
  have hone2 : (m : Int) + 1 - (m : Int) = 1 := by omega
  go_enter B.f60, Tryd.ntmps60
  go_wp2
  go_loopg [14, 15] (m - a) (fun g1 vi vj wr => ∃ (i j : Nat), vi = .int .i64 i ∧ vj = .int .i64 j ∧ a ≤ i ∧ i ≤ j ∧ j ≤ m ∧ j - i ≤ g1 ∧ Hid (SWK enc k W blk off d wr) ∧ Hid (bsr (fun h => !ltOf cf d[m]! d[h]!) g1 i j = q))
  case atStart => exact ⟨a, m, rfl, rfl, Nat.le_refl _, by omega, Nat.le_refl _, Nat.le_refl _, S1, HQ⟩
  case round =>
    obtain ⟨i, j, rfl, rfl, hai, hij, hjb, hg, S, HE⟩ := hrel
    by_cases hlt : i < j
    · obtain ⟨gg, rfl⟩ : ∃ gg, gk = gg + 1 := ⟨gk - 1, by omega⟩
      obtain ⟨h, hh⟩ : ∃ h, (i + j) / 2 = h := ⟨_, rfl⟩
      have hh1 : i ≤ h := by omega
      have hh2 : h < j := by omega
      have hI : ((i : Int) + (j : Int)) / 2 = (h : Int) := by omega
      have hhs : h < d.size := by omega
      have has : m < d.size := by omega
      have l1 := S.out.ld R.out rfl P m has
      have l2 := S.out.ld R.out rfl P h hhs
      have hcg := S.out.cmp HC.out rfl d[m]! d[h]!
      have HG := Lib.hid (fun n os => S.out.grown (n := n) (os := os))
      clear S
      by_cases hlv : cf d[m]! d[h]! < 0
      · have HE2 := Lib.hid ((bsr_f (p := fun h => !ltOf cf d[m]! d[h]!) hlt (by rw [hh]; show (!decide (cf d[m]! d[h]! < 0)) = false; rw [decide_eq_true hlv]; rfl)).symm.trans HE.out)
        rw [hh] at HE2
        obtain ⟨xj, hxj⟩ : ∃ x, d[m]! = x := ⟨_, rfl⟩
        obtain ⟨xp, hxp⟩ : ∃ x, d[h]! = x := ⟨_, rfl⟩
        rw [hxj] at l1 hcg hlv
        rw [hxp] at l2 hcg hlv
        have hnb : (!decide (cf xj xp < 0)) = false := by rw [decide_eq_true hlv]; rfl
        clear hxj hxp
        go_wp2_with fail
        go_quiet_grown (first | (go_at_fn g; refine Calls.grown_of (hcg _ _)))
        go_wp2
        go_roundg gg
        case measure => omega
        case rel => exact ⟨i, h, rfl, by first | rfl | (congr 1; omega), hai, by omega, by omega, by omega, Lib.hid (HG.out _ _), HE2⟩
      · have HE2 := Lib.hid ((bsr_t (p := fun h => !ltOf cf d[m]! d[h]!) hlt (by rw [hh]; show (!decide (cf d[m]! d[h]! < 0)) = true; rw [decide_eq_false hlv]; rfl)).symm.trans HE.out)
        rw [hh] at HE2
        obtain ⟨xj, hxj⟩ : ∃ x, d[m]! = x := ⟨_, rfl⟩
        obtain ⟨xp, hxp⟩ : ∃ x, d[h]! = x := ⟨_, rfl⟩
        rw [hxj] at l1 hcg hlv
        rw [hxp] at l2 hcg hlv
        have hnb : (!decide (cf xj xp < 0)) = true := by rw [decide_eq_false hlv]; rfl
        clear hxj hxp
        go_wp2_with fail
        go_quiet_grown (first | (go_at_fn g; refine Calls.grown_of (hcg _ _)))
        go_wp2
        go_roundg gg
        case measure => omega
        case rel => exact ⟨h + 1, j, by first | rfl | (congr 1; omega), rfl, by omega, by omega, hjb, by omega, Lib.hid (HG.out _ _), HE2⟩
    · obtain rfl : q = i := by rw [← HE.out, bsr_stop hlt]
      clear HE
      go_wp2
      go_loopg [17] (m - q) (fun g1 v1 wr => ∃ (kk : Nat) (dk : Array α), v1 = .int .i64 kk ∧ Hid (kk = q + g1) ∧ q + g1 ≤ kk ∧ kk ≤ m ∧ dk.size = d.size ∧ Hid (SWK enc k W blk off dk wr) ∧ Hid (mvD kk g1 dk = mvD m (m - q) d))
      case atStart => exact ⟨m, d, rfl, Lib.hid (by omega), by omega, Nat.le_refl _, rfl, S, Lib.hid rfl⟩
      case round =>
        clear S
        obtain ⟨kk, dk, rfl, hi, hi2, hka, hds, S, HE⟩ := hrel
        cases gk with
        | zero =>
          have hni : ¬ (q : Int) < (kk : Int) := by have := hi.out; omega
          go_wp2
          (try simp only [Exit.inBlock, Exit.then])
          refine bodyPost_ret (results_none rfl _ _ _) rfl ?_
          exact ⟨rfl, by rw [← HE.out]; exact S.out⟩
        | succ gk =>
          obtain ⟨jp, rfl⟩ : ∃ jp, kk = jp + 1 := ⟨kk - 1, by omega⟩
          have hni : (q : Int) < (jp : Int) + 1 := by omega
          have la := S.out.ld1 R.out hds P (jp + 1) (by omega)
          have lb := S.out.ld1 R.out hds P jp (by omega)
          have s1 := S.out.st1 R.out hds P (jp + 1) (by omega) (dk[jp]!)
          have s2 := S.out.st2 R.out hds P (jp + 1) jp (by omega) (by omega) (dk[jp]!) (dk[jp + 1]!)
          have S2 := Lib.hid (S.out.swapped R.out (jp + 1) jp (by omega) (by omega))
          have hd2 : (swp dk (jp + 1) jp).size = d.size := by rw [size_swp]; exact hds
          have hlA := HK.out (dk[jp + 1]!)
          have hlB := HK.out (dk[jp]!)
          obtain ⟨cA, hcA⟩ : ∃ c, c = enc (dk[jp + 1]!) := ⟨_, rfl⟩
          obtain ⟨cB, hcB⟩ : ∃ c, c = enc (dk[jp]!) := ⟨_, rfl⟩
          rw [← hcA] at la s2 S2 hlA
          rw [← hcB] at lb s1 s2 S2 hlB
          have k0 : (jp : Int) < (d.size : Int) := by omega
          have k1 : (jp : Int) + 1 < (d.size : Int) := by omega
          have k2 : ((jp : Int) + 1).toNat = jp + 1 := by omega
          have k3 : (0 : Int) ≤ (jp : Int) + 1 := by omega
          have k4 : IntKind.i64.wrap (jp : Int) = (jp : Int) := by rw [IntKind.wrap_i64]; omega
          clear S hcA hcB
          go_wp2_with fail
          go_big_region_o
          all_goals go_wp2
          go_roundg gk
          case measure => omega
          case rel => exact ⟨jp, _, by first | rfl | go_num | (congr 1; omega), Lib.hid (by have := hi.out; omega), by omega, by omega, hd2, S2, HE⟩
end Go.Proofs.YthnbbgmajdjgeaaDoor
