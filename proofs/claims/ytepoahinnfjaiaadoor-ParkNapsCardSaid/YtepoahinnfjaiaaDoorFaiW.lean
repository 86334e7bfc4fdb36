/-
  The walks of FairIs: the rounds of picks, and whether picks are fair, in the program and in the reference. Conditions: the picks lie below this call's memory.
-/
import Derived.Test.YtepoahinnfjaiaaDoorFaiM
import Derived.Test.YtepoahinnfjaiaaDoorPartW
import Derived.Test.YtepoahinnfjaiaaDoorWords
import Derived.Test.YtepoahinnfjaiaaDoorKs
import Derived.Test.YtepoahinnfjaiaaDoorErr
import Derived.Test.YtepoahinnfjaiaaDoorMapI
import Derived.Deep.OwnRows
namespace Go.Proofs.YtepoahinnfjaiaaDoor
open Go.RowKit Go.Extern.Stop Go.Stop Go.Extern

theorem Tryd.info3f : (Tryd.prog.info? 3).map (fun i => (i.zero, i.size, i.bytes)) = some (some (.int .i64 0), 1, 8) := by kernel_rfl
abbrev ints (l : List Int) : List Value := l.map (Value.int .i64)
theorem cell_lit (w : World) (cs : List Value) (t : TypeId) (j : Nat) (x : Value) (h : cs[j]? = some x) : (w.alloc (.cells cs.toArray t)).cell? (Addr.add ⟨w.heap.size, 0, none⟩ j) = some x := by
  have e : (Addr.add ⟨w.heap.size, 0, none⟩ j) = ⟨w.heap.size, j, none⟩ := by unfold Addr.add; split <;> simp_all
  rw [e, (Blk.new w t cs.toArray).cell j]
  simpa using h
theorem Reads.int_ {w : World} {B n k : Nat} {A : Option Addr} {l : List Int} (h : Reads w B 1 A n (ints l)) (hn : l.length = n) (hk : k < n) :
    ∃ ad, A = some ad ∧ ad.block < B ∧ w.cell? (ad.add k) = some (.int .i64 (l[k]'(by omega))) := by
  obtain ⟨ad, u, e, hb, hx, hc⟩ := h.at_ hk
  refine ⟨ad, e, hb, ?_⟩
  rw [hc, ← hx]
  simp [ints, hn, hk]

/-- Threads one behind the other, over and over, m picks. -/
def rnd (n m : Nat) : List Int := (List.range m).map fun x => ((x % n : Nat) : Int)
theorem rnd_succ (n m : Nat) : rnd n (m + 1) = rnd n m ++ [((m % n : Nat) : Int)] := by simp [rnd, List.range_succ]
theorem rnd_len (n m : Nat) : (rnd n m).length = m := by simp [rnd]
def RoundsEnd (n m : Nat) (w : World) (e : Ending) (w' : World) : Prop :=
  ∃ A c, e = .returned (.tuple #[.slice A m c, .nilIface]) ∧ Reads w' w'.heap.size 1 A m (ints (rnd n m)) ∧ Below w.heap.size w w'
theorem own_ends {w w' : World} {n m : Nat} {v : Value} (h : w'.ownsRow w.heap.size 3 1 v m (ints (rnd n m))) (hb : Below w.heap.size w w') : RoundsEnd n m w (.returned (.tuple #[v, .nilIface])) w' := by
  rcases h.2 with ⟨rfl, rfl⟩ | ⟨g, cap, cur, rfl, _⟩
  · exact ⟨_, _, rfl, Reads.of_own h, hb⟩
  · exact ⟨_, _, rfl, Reads.of_own h, hb⟩
theorem rounds_f (n t : Int) (w : World) (h : ¬ (0 ≤ n ∧ n ≤ 16 ∧ 0 ≤ t ∧ t ≤ 1000)) :
    Calls Tryd.prog 28 #[.int .i64 n, .int .i64 t] w fun e w' => e = .returned (.tuple #[.slice none 0 0, .iface 26 (.int .i64 2)]) ∧ w = w' := by
  have hc : n < 0 ∨ (0 ≤ n ∧ 16 < n) ∨ (0 ≤ n ∧ n ≤ 16 ∧ t < 0) ∨ (0 ≤ n ∧ n ≤ 16 ∧ 0 ≤ t ∧ 1000 < t) := by omega
  clear h
  rcases hc with h1 | ⟨h1, h2⟩ | ⟨h1, h2, h3⟩ | ⟨h1, h2, h3, h4⟩
  all_goals
    go_enter Tryd.func28, Tryd.ntmps28
    go_wp2
    go_ret2
    exact ⟨rfl, rfl⟩
set_option maxRecDepth 100000 in
set_option maxHeartbeats 1000000 in
theorem rounds_t (n t : Nat) (w : World) (hn : n ≤ 16) (ht : t ≤ 1000) :
    Calls Tryd.prog 28 #[.int .i64 n, .int .i64 t] w (RoundsEnd n (t * n) w) := by
  obtain ⟨i0, hi0, hz0, hz1, hz2⟩ := info_parts Tryd.info3f
  go_enter Tryd.func28, Tryd.ntmps28
  go_wp2
  go_loopw [24, 6] (fun i v wr => ∃ a : Nat, a ≤ t ∧ i = .int .i64 a ∧ wr.ownsRow w.heap.size 3 1 v (a * n) (ints (rnd n (a * n))) ∧ Below w.heap.size w wr) (fun i _ _ => t - (intOf i).toNat)
  case atStart => exact ⟨0, Nat.zero_le _, rfl, by rw [Nat.zero_mul]; exact ⟨by simp [rnd], .inl ⟨rfl, rfl⟩⟩, Below.refl _ _⟩
  case round =>
    obtain ⟨a, ha, rfl, hown, hbel⟩ := hrel
    obtain ⟨wo, rfl⟩ : ∃ wo : World, wo = wr := ⟨_, rfl⟩
    by_cases hlt : a < t
    · have hc1 : a * n + n = (a + 1) * n := by rw [Nat.succ_mul]
      have hc2 : (a + 1) * n ≤ 16000 := Nat.le_trans (Nat.mul_le_mul (Nat.le_trans hlt ht) hn) (by omega)
      have hmod : ∀ b, b < n → (a * n + b) % n = b := fun b hb => by rw [Nat.mul_comm, Nat.mul_add_mod]; exact Nat.mod_eq_of_lt hb
      have hC := Lib.hid hc1
      rw [← hc1] at hc2
      generalize hcn : a * n = c at *
      have HCN := Lib.hid hcn
      have HMOD := Lib.hid hmod
      clear hc1 hcn hmod
      go_wp2
      go_loopw [27, 6] (fun i v wr => ∃ b : Nat, b ≤ n ∧ i = .int .i64 b ∧ wr.ownsRow w.heap.size 3 1 v (c + b) (ints (rnd n (c + b))) ∧ Below w.heap.size w wr) (fun i _ _ => n - (intOf i).toNat)
      case atStart => exact ⟨0, Nat.zero_le _, rfl, hown, hbel⟩
      case round =>
        obtain ⟨b, hb, rfl, hown2, hbel2⟩ := hrel
        by_cases hlt2 : b < n
        · have hlo : ∀ g, u6.ownBlock = some g → w.heap.size ≤ g := fun g hg => (hown2.lt g hg).1
          have HLO := Lib.hid hlo
          clear hlo
          go_wp2_with (at_builtin; (refine wpList_append_own _ rfl (.tmp 30) (.tmp 32) 50 rfl w.heap.size 3 i0 _ 1 8 Tryd.underlying50 hi0 hz0 hz1 hz2 rfl (by omega) u6 (c + b) _ rfl (hown2.alloc _) ⟨wr.heap.size, 0, none⟩ 1 1 [.int .i64 b] rfl rfl ?_ ?_ ?_ ?_ ?_ ?_); (exact cell_lit wr [.int .i64 b] 3); (simp [Value.oneCell']); (unfold maxLen; omega); (omega); (have := hbel2.size; simp; omega); intro v' w2 hown3 hg2 hnil2)
          have hb2 := (hbel2.alloc hbel2.size (.cells #[.int .i64 b] 3)).grown hg2 (by have := hbel2.size; simp; omega) HLO.out
          go_roundw
          case rel =>
            refine ⟨b + 1, by omega, by go_num, ?_, hb2⟩
            have e : ints (rnd n (c + (b + 1))) = ints (rnd n (c + b)) ++ [.int .i64 b] := by
              rw [← Nat.add_assoc, rnd_succ, HMOD.out b hlt2, ints, List.map_append]; rfl
            rw [e]
            exact hown3
          case measure => simp [intOf]; omega
        · obtain rfl : b = n := by omega
          go_wp2
          go_roundw
          case rel => exact ⟨a + 1, by omega, by go_num, by rw [← hC.out]; exact hown2, hbel2⟩
          case measure => simp [intOf]; omega
    · obtain rfl : a = t := by omega
      go_wp2
      go_ret2
      exact own_ends hown hbel

theorem Tryd.info3g : (Tryd.prog.info? 3).map (fun i => (i.zero, i.size, i.bytes)) = some (some (.int .i64 0), 1, 8) := by kernel_rfl
theorem is_f (l : List Int) (n win : Int) (A : Option Addr) (len cap : Nat) (w : World) (h : ¬ (0 ≤ n ∧ n ≤ 16 ∧ 1 ≤ win)) :
    Calls Tryd.prog 29 #[.slice A len cap, .int .i64 n, .int .i64 win] w fun e w' => e = .returned (.bool (fairB l n win)) ∧ Below w.heap.size w w' := by
  have hno : fairB l n win = false := fairB_f (fun hf => h ⟨hf.1, hf.2.1, hf.2.2.1⟩)
  have HNO := Lib.hid hno
  have hc : n < 0 ∨ (0 ≤ n ∧ 16 < n) ∨ (0 ≤ n ∧ n ≤ 16 ∧ win < 1) := by omega
  clear h hno
  rcases hc with h1 | ⟨h1, h2⟩ | ⟨h1, h2, h3⟩
  all_goals
    go_enter Tryd.func29, Tryd.ntmps29
    go_wp2
    go_ret
    exact ⟨by rw [HNO.out]; rfl, Below.refl _ _⟩
theorem lastI_succ_eq {l : List Int} {t : Int} {k : Nat} (h : l[k]? = some t) : lastI l t (k + 1) = k := by simp [lastI, h]
theorem lastI_succ_ne {l : List Int} {t : Int} {k : Nat} (h : l[k]? ≠ some t) : lastI l t (k + 1) = lastI l t k := by simp [lastI, h]
/-- The row that holds when each thread was picked last. -/
def lastV (l : List Int) (k : Nat) (j : Nat) : Value := .int .i64 (lastI l j k)
set_option maxRecDepth 100000 in
set_option maxHeartbeats 2000000 in
theorem is_t (l : List Int) (n : Nat) (win : Int) (A : Option Addr) (len cap B : Nat) (w : World) (hl : l.length = len) (hlen : len ≤ 150) (hr : Reads w B 1 A len (ints l)) (hB : B ≤ w.heap.size) (hn : n ≤ 16) (hw : 1 ≤ win) (hw2 : win ≤ 9223372036854775807) :
    Calls Tryd.prog 29 #[.slice A len cap, .int .i64 n, .int .i64 win] w fun e w' => e = .returned (.bool (fairB l n win)) ∧ Below w.heap.size w w' := by
  have hmk := fun w => run_make_row' (P := Tryd.prog) 50 3 (.int .i64 0) 8 Tryd.underlying50 Tryd.info3g rfl .i64 .i64 n (by omega) (by omega) w
  have HL := Lib.hid hl
  clear hl
  go_enter Tryd.func29, Tryd.ntmps29
  go_wp2
  go_loopw [27] (fun i wr => ∃ j : Nat, j ≤ n ∧ i = .int .i64 j ∧ wr.rowIs w.heap.size 3 n (fun x => if x < j then .int .i64 (-1) else .int .i64 0) ∧ Below w.heap.size w wr) (fun i _ => n - (intOf i).toNat)
  case atStart => exact ⟨0, Nat.zero_le _, rfl, (World.rowIs_made w (.int .i64 0) n 3).congr (fun j _ => by simp), (Below.refl _ _).alloc (Nat.le_refl _) _⟩
  case round =>
    obtain ⟨j, hj, rfl, hrow, hbel⟩ := hrel
    by_cases hlt : j < n
    · have cb := hrow.cell hlt
      have fb := hrow.frozen j
      have HR := Lib.hid hrow
      simp at cb
      clear hrow
      go_wp2
      go_roundw
      case rel =>
        refine ⟨j + 1, by omega, by go_num, (HR.out.set j (.int .i64 (-1))).congr (fun x _ => ?_), hbel.setCell (by simp) _⟩
        by_cases h1 : x = j
        · simp [h1]
        · by_cases h2 : x < j
          · simp [h1, h2, show x < j + 1 by omega]
          · simp [h1, h2, show ¬ x < j + 1 by omega]
      case measure => simp [intOf]; omega
    · obtain rfl : j = n := by omega
      have hrow2 : wr.rowIs w.heap.size 3 j (lastV l 0) := hrow.congr (fun x hx => by simp [hx, lastV, lastI])
      have HR0 := Lib.hid hrow2
      have HB0 := Lib.hid hbel
      clear hrow hrow2
      obtain ⟨wo, rfl⟩ : ∃ wo : World, wo = wr := ⟨_, rfl⟩
      go_wp2
      go_loopw [36] (fun i wr => ∃ k : Nat, k ≤ len ∧ i = .int .i64 k ∧ wr.rowIs w.heap.size 3 j (lastV l k) ∧ Below w.heap.size w wr ∧ ∀ x, x < k → AgoOk l j win x) (fun i _ => len - (intOf i).toNat)
      case atStart => exact ⟨0, Nat.zero_le _, rfl, HR0.out, hbel, fun x hx => by omega⟩
      case round =>
        obtain ⟨k, hk, rfl, hrow, hbel, hago⟩ := hrel
        have HAGO := Lib.hid hago
        clear hago
        by_cases hlt2 : k < len
        · obtain ⟨ad, rfl, _, hc⟩ := (hr.below (hbel.mono hB)).int_ HL.out hlt2
          obtain ⟨t, ht⟩ : ∃ t, l[k]? = some t := ⟨_, List.getElem?_eq_getElem (by rw [HL.out]; exact hlt2)⟩
          have hte : l[k]'(by rw [HL.out]; exact hlt2) = t := by
            rw [List.getElem?_eq_getElem (by rw [HL.out]; exact hlt2)] at ht; exact Option.some.inj ht
          rw [hte] at hc
          have HT := Lib.hid ht
          clear ht hte
          by_cases h0 : 0 ≤ t
          · obtain ⟨T, rfl⟩ := Int.eq_ofNat_of_zero_le h0
            by_cases h1 : T < j
            · have cb := hrow.cell h1
              have fb := hrow.frozen T
              have HR1 := Lib.hid ((hrow.set T (.int .i64 k)).congr (g := lastV l (k + 1)) (fun x _ => by
                by_cases hx : x = T
                · subst hx; simp only [if_true, lastV, lastI_succ_eq HT.out]
                · simp only [if_neg hx, lastV]
                  rw [lastI_succ_ne (by rw [HT.out]; intro e; injection e with e; omega)]))
              have HB1 := Lib.hid (hbel.setCell (p := ⟨w.heap.size, T, none⟩) (by simp) (.int .i64 k))
              have hcb : wr.cell? ⟨w.heap.size, T, none⟩ = some (.int .i64 (lastI l T k)) := cb
              clear hrow cb
              go_wp2
              go_loop [55] (fun i => ∃ q : Nat, q ≤ j ∧ i = .int .i64 q ∧ ∀ x : Nat, x < q → (k : Int) - lastI l x (k + 1) < win) (fun i => j - (intOf i).toNat)
              case atStart => exact ⟨0, Nat.zero_le _, rfl, fun x hx => by omega⟩
              case round =>
                obtain ⟨q, hq, rfl, hall⟩ := hrel
                have HALL := Lib.hid hall
                clear hall
                by_cases hlt3 : q < j
                · have hcq := HR1.out.cell hlt3
                  have hbd := lastI_bd l q (k + 1)
                  obtain ⟨v, hv⟩ : ∃ v, lastI l q (k + 1) = v := ⟨_, rfl⟩
                  have HV := Lib.hid hv
                  simp only [lastV, hv] at hcq
                  rw [hv] at hbd
                  clear hv
                  obtain ⟨v0, v1⟩ := hbd
                  have v2 : v < (k : Int) + 1 := by omega
                  by_cases hge : win ≤ (k : Int) - v
                  · have hno : fairB l j win = false := fairB_f (fun hf => by
                      have h := hf.2.2.2 k (by rw [HL.out]; exact hlt2) (q : Int) (by omega) (by omega)
                      rw [HV.out] at h
                      omega)
                    have HNO := Lib.hid hno
                    clear hno
                    go_wp2
                    go_ret
                    exact ⟨by rw [HNO.out]; rfl, HB1.out⟩
                  · have hge' : (k : Int) - v < win := by omega
                    clear hge
                    go_wp2
                    go_round
                    case rel =>
                      refine ⟨q + 1, by omega, by go_num, fun x hx => ?_⟩
                      by_cases hxq : x = q
                      · subst hxq; rw [HV.out]; omega
                      · exact HALL.out x (by omega)
                    case measure => simp [intOf]; omega
                · obtain rfl : q = j := by omega
                  go_wp2
                  go_roundw
                  case rel =>
                    refine ⟨k + 1, by omega, by go_num, HR1.out, HB1.out, fun x hx => ?_⟩
                    by_cases hxk : x = k
                    · subst hxk
                      intro t t0 t1
                      obtain ⟨T, rfl⟩ := Int.eq_ofNat_of_zero_le t0
                      exact HALL.out T (by omega)
                    · exact HAGO.out x (by omega)
                  case measure => simp [intOf]; omega
            · have h1' : (j : Int) ≤ (T : Int) := by omega
              have HR1 := Lib.hid (hrow.congr (g := lastV l (k + 1)) (fun x hx => by
                simp only [lastV]
                rw [lastI_succ_ne (by rw [HT.out]; intro e; injection e with e; omega)]))
              have HB1 := Lib.hid hbel
              clear hrow h1
              go_wp2
              go_loop [55] (fun i => ∃ q : Nat, q ≤ j ∧ i = .int .i64 q ∧ ∀ x : Nat, x < q → (k : Int) - lastI l x (k + 1) < win) (fun i => j - (intOf i).toNat)
              case atStart => exact ⟨0, Nat.zero_le _, rfl, fun x hx => by omega⟩
              case round =>
                obtain ⟨q, hq, rfl, hall⟩ := hrel
                have HALL := Lib.hid hall
                clear hall
                by_cases hlt3 : q < j
                · have hcq := HR1.out.cell hlt3
                  have hbd := lastI_bd l q (k + 1)
                  obtain ⟨v, hv⟩ : ∃ v, lastI l q (k + 1) = v := ⟨_, rfl⟩
                  have HV := Lib.hid hv
                  simp only [lastV, hv] at hcq
                  rw [hv] at hbd
                  clear hv
                  obtain ⟨v0, v1⟩ := hbd
                  have v2 : v < (k : Int) + 1 := by omega
                  by_cases hge : win ≤ (k : Int) - v
                  · have hno : fairB l j win = false := fairB_f (fun hf => by
                      have h := hf.2.2.2 k (by rw [HL.out]; exact hlt2) (q : Int) (by omega) (by omega)
                      rw [HV.out] at h
                      omega)
                    have HNO := Lib.hid hno
                    clear hno
                    go_wp2
                    go_ret
                    exact ⟨by rw [HNO.out]; rfl, HB1.out⟩
                  · have hge' : (k : Int) - v < win := by omega
                    clear hge
                    go_wp2
                    go_round
                    case rel =>
                      refine ⟨q + 1, by omega, by go_num, fun x hx => ?_⟩
                      by_cases hxq : x = q
                      · subst hxq; rw [HV.out]; omega
                      · exact HALL.out x (by omega)
                    case measure => simp [intOf]; omega
                · obtain rfl : q = j := by omega
                  go_wp2
                  go_roundw
                  case rel =>
                    refine ⟨k + 1, by omega, by go_num, HR1.out, HB1.out, fun x hx => ?_⟩
                    by_cases hxk : x = k
                    · subst hxk
                      intro t t0 t1
                      obtain ⟨T, rfl⟩ := Int.eq_ofNat_of_zero_le t0
                      exact HALL.out T (by omega)
                    · exact HAGO.out x (by omega)
                  case measure => simp [intOf]; omega
          · have h0' : t < 0 := by omega
            have HR1 := Lib.hid (hrow.congr (g := lastV l (k + 1)) (fun x hx => by
              simp only [lastV]
              rw [lastI_succ_ne (by rw [HT.out]; intro e; injection e with e; omega)]))
            have HB1 := Lib.hid hbel
            clear hrow h0
            go_wp2
            go_loop [55] (fun i => ∃ q : Nat, q ≤ j ∧ i = .int .i64 q ∧ ∀ x : Nat, x < q → (k : Int) - lastI l x (k + 1) < win) (fun i => j - (intOf i).toNat)
            case atStart => exact ⟨0, Nat.zero_le _, rfl, fun x hx => by omega⟩
            case round =>
              obtain ⟨q, hq, rfl, hall⟩ := hrel
              have HALL := Lib.hid hall
              clear hall
              by_cases hlt3 : q < j
              · have hcq := HR1.out.cell hlt3
                have hbd := lastI_bd l q (k + 1)
                obtain ⟨v, hv⟩ : ∃ v, lastI l q (k + 1) = v := ⟨_, rfl⟩
                have HV := Lib.hid hv
                simp only [lastV, hv] at hcq
                rw [hv] at hbd
                clear hv
                obtain ⟨v0, v1⟩ := hbd
                have v2 : v < (k : Int) + 1 := by omega
                by_cases hge : win ≤ (k : Int) - v
                · have hno : fairB l j win = false := fairB_f (fun hf => by
                    have h := hf.2.2.2 k (by rw [HL.out]; exact hlt2) (q : Int) (by omega) (by omega)
                    rw [HV.out] at h
                    omega)
                  have HNO := Lib.hid hno
                  clear hno
                  go_wp2
                  go_ret
                  exact ⟨by rw [HNO.out]; rfl, HB1.out⟩
                · have hge' : (k : Int) - v < win := by omega
                  clear hge
                  go_wp2
                  go_round
                  case rel =>
                    refine ⟨q + 1, by omega, by go_num, fun x hx => ?_⟩
                    by_cases hxq : x = q
                    · subst hxq; rw [HV.out]; omega
                    · exact HALL.out x (by omega)
                  case measure => simp [intOf]; omega
              · obtain rfl : q = j := by omega
                go_wp2
                go_roundw
                case rel =>
                  refine ⟨k + 1, by omega, by go_num, HR1.out, HB1.out, fun x hx => ?_⟩
                  by_cases hxk : x = k
                  · subst hxk
                    intro t t0 t1
                    obtain ⟨T, rfl⟩ := Int.eq_ofNat_of_zero_le t0
                    exact HALL.out T (by omega)
                  · exact HAGO.out x (by omega)
                case measure => simp [intOf]; omega
        · obtain rfl : k = len := by omega
          have hyes : fairB l j win = true := fairB_t ⟨by omega, by omega, hw, fun i hi => HAGO.out i (by rw [HL.out] at hi; exact hi)⟩
          have HY := Lib.hid hyes
          clear hyes
          go_wp2
          go_ret
          exact ⟨by rw [HY.out]; rfl, hbel⟩
end Go.Proofs.YtepoahinnfjaiaaDoor
