/-
  The walks of MemNews are proved here: mem.New, Words, slices.Equal at uint64, by contracts. Conditions: errors.errorType is laid.
-/
import Derived.Test.YtepoahinnfjaiaaDoorPlace
import Derived.Test.YtepoahinnfjaiaaDoorWords
import Derived.LoopTactic
import Derived.Deep.RegionWith
import Derived.Deep.RegionHeld3
import Derived.Deep.DeepMust
import Derived.IntWalk
namespace Go.Proofs.YtepoahinnfjaiaaDoor
open Go.RowKit Go.Extern.Stop Go.Stop Go.Extern

theorem Tryd.info35 : (Tryd.prog.info? 35).map (fun i => (i.zero, i.size, i.bytes)) = some (some (.int .u64 0), 1, 8) := by kernel_rfl

set_option maxRecDepth 100000 in
theorem mem_new_ok (n : Nat) (w : World) (h : n ≤ 300) :
    Calls Tryd.prog 19 #[.int .i64 n] w fun e w' => e = .returned (.tuple #[.pointer (some ⟨w.heap.size + 1, 0, none⟩), .nilIface]) ∧
      w' = (w.alloc (.cells (madeCells #[.int .u64 0] n) 35)).alloc (.cells #[.slice (some ⟨w.heap.size, 0, none⟩) n n] 132) := by
  have hmk := fun w => run_make_row' (P := Tryd.prog) 34 35 (.int .u64 0) 8 Tryd.underlying34 Tryd.info35 rfl .i64 .i64 n (by omega) (by omega) w
  go_enter Tryd.func19, Tryd.ntmps19
  go_wp2
  go_ret2
  exact ⟨rfl, rfl⟩
set_option maxRecDepth 100000 in
theorem mem_new_f (n : Int) (w : World) (h : n < 0 ∨ 300 < n) :
    Calls Tryd.prog 19 #[.int .i64 n] w fun e w' => e = .returned (.tuple #[.pointer none, .iface 26 (.int .i64 2)]) ∧ w = w' := by
  have H := Lib.hid h
  clear h
  go_enter Tryd.func19, Tryd.ntmps19
  go_wp2
  all_goals first | (exfalso; have := H.out; omega) | (go_ret2; exact ⟨rfl, rfl⟩)

theorem words_calls (p : Addr) (A : Option Addr) (n c B : Nat) (xs : List Value) (w : World) (hp : w.cell? p = some (.slice A n c)) (hr : Reads w B 1 A n xs)
    (h1 : ∀ u ∈ xs, u.oneCell' = true) (hn : n ≤ 1000) :
    Calls Tryd.prog 21 #[.pointer (some p)] w fun e w' => ∃ v, e = .returned v ∧ w'.ownsRow w.heap.size 35 1 v n xs ∧ Below w.heap.size w w' := by
  obtain ⟨i0, hi0, hz0, hz1, hz2⟩ := info_parts Tryd.info35
  go_enter Tryd.func21, Tryd.ntmps21
  go_wp2_with (at_builtin; (refine wpList_append_any _ rfl (.const (.slice none 0 0)) (.tmp 6) _ rfl w.heap.size 35 i0 _ 1 8 Tryd.underlying34 hi0 hz0 hz1 hz2 rfl (by omega) (.slice none 0 0) 0 [] rfl ⟨by simp, .inl ⟨rfl, rfl⟩⟩ B A n c xs rfl hr h1 (by simp only [maxLen]; omega) (by omega) (Nat.le_refl _) ?_); intro v1 w1 hown1 hg1 hat1)
  go_ret
  refine ⟨v1, rfl, by simpa using hown1, (Below.refl _ _).grown hg1 (Nat.le_refl _) (by simp [Value.ownBlock])⟩

theorem words_reads (p : Addr) (A : Option Addr) (n c B : Nat) (xs : List Value) (w : World) (hp : w.cell? p = some (.slice A n c)) (hr : Reads w B 1 A n xs)
    (h1 : ∀ u ∈ xs, u.oneCell' = true) (hn : n ≤ 1000) :
    Calls Tryd.prog 21 #[.pointer (some p)] w fun e w' => ∃ A' c', e = .returned (.slice A' n c') ∧ Reads w' w'.heap.size 1 A' n xs ∧ Below w.heap.size w w' := by
  refine (words_calls p A n c B xs w hp hr h1 hn).mono fun e w' ⟨v, he, ho, hb⟩ => ?_
  subst he
  rcases ho.2 with ⟨rfl, rfl⟩ | ⟨g, cap, cur, rfl, _⟩
  · exact ⟨none, 0, rfl, Reads.of_own ho, hb⟩
  · exact ⟨_, cap, rfl, Reads.of_own ho, hb⟩
set_option maxHeartbeats 1000000 in
theorem equal_u64 (A A' : Option Addr) (n c c' B B' : Nat) (xs : List Value) (w : World) (hr : Reads w B 1 A n xs) (hr' : Reads w B' 1 A' n xs)
    (h1 : ∀ u ∈ xs, ∃ k : Int, u = .int .u64 k) (hn : n ≤ 140737488355328) :
    Calls Tryd.prog 20 #[.slice A n c, .slice A' n c'] w fun e w' => e = .returned (.bool true) ∧ ∃ k, w' = w.drewN k := by
  go_enter Tryd.func20, Tryd.ntmps20
  go_wp2
  go_loopw [13] (fun t wr => ∃ k : Nat, k ≤ n ∧ t = .int .i64 k ∧ ∃ j, wr = w.drewN j) (fun t _ => n - (intOf t).toNat)
  case atStart => exact ⟨0, Nat.zero_le _, rfl, 0, rfl⟩
  case round =>
    obtain ⟨k, hk, rfl, j, rfl⟩ := hrel
    by_cases hlt : k < n
    · obtain ⟨ad, u, rfl, _, hx, hc⟩ := hr.at_ hlt
      obtain ⟨ad', u', rfl, _, hx', hc'⟩ := hr'.at_ hlt
      obtain rfl : u = u' := Option.some.inj (hx.symm.trans hx')
      obtain ⟨z, rfl⟩ := h1 u (List.mem_of_getElem? hx)
      go_wp2
      go_quiet (fail)
      go_wp2
      go_roundw
      case rel => exact ⟨k + 1, by omega, by go_num, _, rfl⟩
      case measure => simp [intOf]; omega
    · obtain rfl : k = n := by omega
      go_wp2
      go_ret
      exact ⟨rfl, _, rfl⟩

/-- A memory of n cells at p, none but zeros. -/
structure MemIs (w0 w : World) (p : Addr) (n : Nat) : Prop where
  cell : ∃ ad, w.cell? p = some (.slice (some ad) n n) ∧ Reads w w.heap.size 1 (some ad) n (List.replicate n (.int .u64 0))
  below : Below w0.heap.size w0 w
theorem reads_made (w : World) (n : Nat) (t : TypeId) : Reads (w.alloc (.cells (madeCells #[.int .u64 0] n) t)) (w.heap.size + 1) 1 (some ⟨w.heap.size, 0, none⟩) n (List.replicate n (.int .u64 0)) := by
  refine ⟨by simp, fun _ => ⟨_, rfl, by simp, fun j u hu => ?_⟩⟩
  have hn := (Blk.new w t (madeCells #[.int .u64 0] n)).cell j
  have e : Addr.add ⟨w.heap.size, 0, none⟩ j = ⟨w.heap.size, j, none⟩ := by unfold Addr.add; split <;> simp_all
  rw [e, hn, ← hu, ← toList_madeCells_one]
  simp
theorem mem_new_is (n : Nat) (w : World) (h : n ≤ 300) :
    Calls Tryd.prog 19 #[.int .i64 n] w fun e w' => e = .returned (.tuple #[.pointer (some ⟨w.heap.size + 1, 0, none⟩), .nilIface]) ∧ MemIs w w' ⟨w.heap.size + 1, 0, none⟩ n := by
  refine (mem_new_ok n w h).mono fun e w' ⟨he, hw⟩ => ⟨he, ?_⟩
  subst hw
  refine ⟨⟨⟨w.heap.size, 0, none⟩, by simp, ?_⟩, ?_⟩
  · have := (reads_made w n 35).alloc (by simp) (.cells #[.slice (some ⟨w.heap.size, 0, none⟩) n n] 132)
    exact this.more (by simp)
  · exact ((Below.refl _ _).alloc (Nat.le_refl _) _).alloc (by simp) _

set_option maxRecDepth 100000 in
set_option maxHeartbeats 400000 in
theorem law_mem_ok (n : Nat) (w : World) (hn : n ≤ 300) :
    Calls Tryd.prog 4 #[.int .i64 n] w fun e w' => e = .returned (.bool true) ∧ Below w.heap.size w w' := by
  have hmk := fun w => run_make_row' (P := Tryd.prog) 34 35 (.int .u64 0) 8 Tryd.underlying34 Tryd.info35 rfl .i64 .i64 n (by omega) (by omega) w
  go_enter Tryd.func4, Tryd.ntmps4
  go_wp2_with (go_at_call 19; refine (mem_new_is n _ hn).mono ?_; rintro e w2 ⟨rfl, hm⟩)
  obtain ⟨⟨ad, hc, hR⟩, hB⟩ := hm
  have h1 : ∀ u ∈ List.replicate n (Value.int .u64 0), u.oneCell' = true := fun u hu => by rw [List.eq_of_mem_replicate hu]; rfl
  have h2 : ∀ u ∈ List.replicate n (Value.int .u64 0), ∃ k : Int, u = .int .u64 k := fun u hu => ⟨0, List.eq_of_mem_replicate hu⟩
  have hlw : w.heap.size + 1 < w2.heap.size := World.block_lt_of_cell? w2 _ hc
  have h1' := Lib.hid h1
  have h2' := Lib.hid h2
  clear h1 h2
  go_region_held3 (fun w' => w'.cell? ⟨w.heap.size + 1, 0, none⟩ = some (.slice (some ad) n n))
    (first | go_keep | (rw [hb3.cell (p := ⟨w.heap.size + 1, 0, none⟩) (by first | exact hlw | (simp; omega))]; first | exact hc | assumption))
    ((first
      | (go_at_call 21
         refine (words_reads ⟨w.heap.size + 1, 0, none⟩ (some ad) n n w2.heap.size (List.replicate n (.int .u64 0)) _ ?_ ?_ h1'.out (by omega)).mono ?_
         · first | exact hc | (show (w2.alloc _).cell? _ = _; rw [World.cell?_alloc_lt _ _ ⟨w.heap.size + 1, 0, none⟩ hlw]; exact hc)
         · first | exact hR | exact (hR.alloc (Nat.le_refl _) _).drew
         rintro e w3 ⟨A', c', rfl, hR3, hb3⟩)
      | (go_at_call 20
         refine (equal_u64 _ _ n _ _ w3.heap.size (w3.heap.size + 1) (List.replicate n (.int .u64 0)) _ ?_ ?_ h2'.out ?_).mono ?_
         · exact hR3.alloc (Nat.le_refl _) _
         · exact reads_made w3 n 35
         · omega
         rintro e w4 ⟨rfl, k4, rfl⟩
         have hfin : Below w.heap.size w (w3.alloc (.cells (madeCells #[.int .u64 0] n) 35)) := (hB.trans ((below_drewN (Below.refl _ w2) 1).trans (hb3.mono (by show w.heap.size ≤ w2.heap.size; omega)))).alloc (by have := hb3.size; simp at this; have := hB.size; omega) _)
      | (go_at_call 20
         refine (equal_u64 _ _ n _ _ w3.heap.size (w2.heap.size + 1) (List.replicate n (.int .u64 0)) _ ?_ ?_ h2'.out ?_).mono ?_
         · exact hR3
         · exact (reads_made w2 n 35).drew.below (hb3.mono (by show w2.heap.size + 1 ≤ (w2.alloc _).heap.size; simp))
         · omega
         rintro e w4 ⟨rfl, k4, rfl⟩
         have hfin : Below w.heap.size w w3 := (hB.alloc (hB.size) (.cells (madeCells #[.int .u64 0] n) 35)).trans ((below_drewN (Below.refl _ _) 1).trans (hb3.mono (by show w.heap.size ≤ (w2.alloc _).heap.size; simp; have := hB.size; omega))))))
  all_goals
    go_wp2
    go_ret
    exact ⟨rfl, below_drewN hfin _⟩

theorem law_mem (n : Int) (w : World) (hg : HasErr w) :
    Calls Tryd.prog 4 #[.int .i64 n] w fun e w' => e = .returned (.bool true) ∧ Below w.heap.size w w' := by
  by_cases h : 0 ≤ n ∧ n ≤ 300
  · obtain ⟨m, rfl⟩ := Int.eq_ofNat_of_zero_le h.1
    exact law_mem_ok m w (by omega)
  · have H : n < 0 ∨ 300 < n := by omega
    have H' := Lib.hid H
    clear h
    rcases H with h | h
    all_goals
      go_enter Tryd.func4, Tryd.ntmps4
      go_wp2_with (first | (go_at_call 19; refine (mem_new_f n _ H'.out).mono ?_; rintro e w2 ⟨rfl, rfl⟩) | (go_at_call 14; refine (bare_e 2 _ hg).mono ?_; rintro e w2 ⟨rfl, hb⟩))
      go_ret
      exact ⟨rfl, hb⟩
end Go.Proofs.YtepoahinnfjaiaaDoor
