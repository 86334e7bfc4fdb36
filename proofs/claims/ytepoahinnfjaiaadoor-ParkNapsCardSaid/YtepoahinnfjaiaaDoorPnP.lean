/-
  The walks of ParkNaps in the program, part one: where a thread lies, falling asleep, where it sleeps, who sleeps at a cell. Conditions: the lot is this call's own.
-/
import Derived.Test.YtepoahinnfjaiaaDoorPnA
import Derived.Shelf.Abstract
namespace Go.Proofs.YtepoahinnfjaiaaDoor
open Go.RowKit Go.Extern.Stop Go.Stop Go.Extern
attribute [local go_sem ↓] Go.wp_at_zero Go.wp_at_succ

theorem Reads.sl {w : World} {B n k : Nat} {A : Option Addr} {L : List Sl} (h : Reads w B 2 A n (flatS L)) (hn : L.length = n) (hk : k < n) :
    ∃ ad, A = some ad ∧ ad.block < B ∧ w.cell? (ad.add (k * 2)) = some (.int .i64 (L[k]'(by omega)).th) ∧ w.cell? ⟨(ad.add (k * 2)).block, (ad.add (k * 2)).off + 1, none⟩ = some (.int .i64 (L[k]'(by omega)).ce) := by
  obtain ⟨ad, e, hb, hc⟩ := h.2 (by omega)
  have g := fun j hj => flatMap_get slc_len L k j (by omega) hj
  refine ⟨ad, e, hb, hc _ _ (g 0 (by omega)), ?_⟩
  rw [← add_split ad (k * 2) 0]; exact hc _ _ (g 1 (by omega))
/-- Where a thread lies: -1 if nowhere. -/
def idxT (L : List Sl) (t : Int) : Int := match L.findIdx? (fun e => e.th = t) with
  | some i => i
  | none => -1
theorem idxT_hit {L : List Sl} {t : Int} {k : Nat} (hk : k < L.length) (h : L[k].th = t) (hb : ∀ (j : Nat) (hj : j < L.length), j < k → L[j].th ≠ t) : idxT L t = k := by
  have : L.findIdx? (fun e => decide (e.th = t)) = some k := by
    rw [List.findIdx?_eq_some_iff_getElem]
    exact ⟨hk, by simpa using h, fun j hj => by simpa using hb j (by omega) hj⟩
  unfold idxT
  rw [this]
theorem idxT_miss {L : List Sl} {t : Int} (h : ∀ (j : Nat) (hj : j < L.length), L[j].th ≠ t) : idxT L t = -1 := by
  have : L.findIdx? (fun e => decide (e.th = t)) = none := by
    rw [List.findIdx?_eq_none_iff]
    intro e he
    obtain ⟨i, hi, rfl⟩ := List.getElem_of_mem he
    simpa using h i hi
  unfold idxT
  rw [this]
theorem idxT_has {L : List Sl} {t : Int} (h : hasT L t) : ∃ k : Nat, ∃ hk : k < L.length, idxT L t = k ∧ L[k].th = t := by
  obtain ⟨e, he, hte⟩ := h
  cases hf : L.findIdx? (fun e => decide (e.th = t)) with
  | none =>
    rw [List.findIdx?_eq_none_iff] at hf
    have := hf e he
    simp [hte] at this
  | some k =>
    rw [List.findIdx?_eq_some_iff_getElem] at hf
    obtain ⟨hk, h1, _⟩ := hf
    refine ⟨k, hk, ?_, by simpa using h1⟩
    exact idxT_hit hk (by simpa using h1) (fun j hj hjk => by
      obtain ⟨_, _, h2⟩ := (List.findIdx?_eq_some_iff_getElem).1 (show L.findIdx? (fun e => decide (e.th = t)) = some k by rw [List.findIdx?_eq_some_iff_getElem]; exact ⟨hk, h1, by assumption⟩)
      simpa using h2 j hjk)
theorem idxT_no {L : List Sl} {t : Int} (h : ¬ hasT L t) : idxT L t = -1 := idxT_miss fun j hj e => h ⟨L[j], List.getElem_mem hj, e⟩

theorem fn97 (th ce t : Int) (B : Nat) (w : World) (hB : w.cell? ⟨B, 0, none⟩ = some (.int .i64 t)) :
    Calls Tryd.prog 97 #[.agg #[.int .i64 th, .int .i64 ce], .pointer (some ⟨B, 0, none⟩)] w fun e w' => e = .returned (.bool (th == t)) ∧ Below w.heap.size w w' := by
  have hl : B < w.heap.size := World.block_lt_of_cell? w _ hB
  have hc : ∀ o, (w.alloc o).cell? ⟨B, 0, none⟩ = some (.int .i64 t) := fun o => by rw [World.cell?_alloc_lt _ _ ⟨B, 0, none⟩ hl]; exact hB
  have hc1 := hc (.cells #[.int .i64 th, .int .i64 ce] 161)
  clear hc
  go_enter Tryd.func97, Tryd.ntmps97
  go_wp2
  go_ret
  exact ⟨rfl, (Below.refl _ _).alloc (Nat.le_refl _) _⟩
set_option maxHeartbeats 1000000 in
theorem index_find (L : List Sl) (t : Int) (B0 B n c : Nat) (A : Option Addr) (w : World) (hl : L.length = n) (hn : n ≤ 1000) (hr : Reads w B0 2 A n (flatS L)) (hB0 : B0 ≤ w.heap.size) (hB : w.cell? ⟨B, 0, none⟩ = some (.int .i64 t)) :
    Calls Tryd.prog 96 #[.slice A n c, .func (.func 97) #[] #[.pointer (some ⟨B, 0, none⟩)]] w fun e w' => e = .returned (.int .i64 (idxT L t)) ∧ Below w.heap.size w w' := by
  have eg : ∀ args w, (callFunc 97 args).run Tryd.prog w = .ok (.enter 97 args) w := enters_of Tryd.func97 (by kernel_rfl) rfl
  have hbl : B < w.heap.size := World.block_lt_of_cell? w _ hB
  have HL := Lib.hid hl
  have HR := Lib.hid hr
  have HB := Lib.hid hB
  clear hl hr hB
  go_enter Tryd.func96, Tryd.ntmps96
  go_wp2
  go_loopw [8] (fun i wr => ∃ k : Nat, k ≤ n ∧ i = .int .i64 k ∧ Below w.heap.size w wr ∧ ∀ (j : Nat) (hj : j < L.length), j < k → L[j].th ≠ t) (fun i _ => n - (intOf i).toNat)
  case atStart => exact ⟨0, Nat.zero_le _, rfl, Below.refl _ _, fun j _ hj => by omega⟩
  case round =>
    obtain ⟨k, hk, rfl, hbel, hall⟩ := hrel
    have HALL := Lib.hid hall
    have hsz := hbel.size
    clear hall
    by_cases hlt : k < n
    · obtain ⟨ad, rfl, _, c0, c1⟩ := (HR.out.below (hbel.mono hB0)).sl HL.out hlt
      have hkl : k < L.length := by rw [HL.out]; exact hlt
      have hcB : wr.cell? ⟨B, 0, none⟩ = some (.int .i64 t) := by rw [hbel.cell (p := ⟨B, 0, none⟩) hbl]; exact HB.out
      obtain ⟨th, hth⟩ : ∃ th, L[k].th = th := ⟨_, rfl⟩
      obtain ⟨ce, hce⟩ : ∃ ce, L[k].ce = ce := ⟨_, rfl⟩
      rw [hth] at c0
      rw [hce] at c1
      have HTH := Lib.hid hth
      have HFN := Lib.hid (fn97 th ce t B wr hcB)
      clear hth hce hcB
      by_cases he : th = t
      · have hbt : (th == t) = true := by simpa using he
        have HE := Lib.hid (idxT_hit hkl (HTH.out.trans he) HALL.out)
        clear he
        go_wp2_with (go_at_fn 97; refine HFN.out.mono ?_; rintro e w' ⟨rfl, hb'⟩)
        go_ret
        exact ⟨by rw [HE.out]; rfl, hbel.trans (hb'.mono hsz)⟩
      · have hbt : (th == t) = false := by simpa using he
        have HE := Lib.hid he
        clear he
        go_wp2_with (go_at_fn 97; refine HFN.out.mono ?_; rintro e w' ⟨rfl, hb'⟩)
        go_roundw
        case rel =>
          refine ⟨k + 1, by omega, by go_num, hbel.trans (hb'.mono hsz), fun j hj hjk => ?_⟩
          by_cases hjk' : j = k
          · subst hjk'; rw [HTH.out]; exact HE.out
          · exact HALL.out j hj (by omega)
        case measure => simp [intOf]; omega
    · obtain rfl : k = n := by omega
      have HE := Lib.hid (idxT_miss (L := L) (t := t) (fun j hj => HALL.out j hj (by rw [← HL.out]; exact hj)))
      go_wp2
      go_ret
      exact ⟨by rw [HE.out]; rfl, hbel⟩
section
variable {base : Nat} {w : World} {p n : Nat} {v : Value} {L : List Sl}
theorem LotP.c0 (h : LotP base w p n v L) : w.cell? ⟨p, 0, none⟩ = some (.int .i64 n) := h.blk.cell 0
theorem LotP.c1 (h : LotP base w p n v L) : w.cell? ⟨p, 1, none⟩ = some v := h.blk.cell 1
theorem pfind (h : LotP base w p n v L) (hl : L.length ≤ 1000) (t : Int) :
    Calls Tryd.prog 84 #[.pointer (some ⟨p, 0, none⟩), .int .i64 t] w fun e w' => e = .returned (.int .i64 (idxT L t)) ∧ Below w.heap.size w w' := by
  obtain ⟨A, c, rfl⟩ := own_formM h.own
  have h1 := (h.below ((Below.refl _ _).alloc (Nat.le_refl _) (.cells #[.int .i64 t] 3))).c1
  have HI := Lib.hid (index_find L t w.heap.size w.heap.size L.length c A (w.alloc (.cells #[.int .i64 t] 3)) rfl hl ((Reads.of_own h.own).alloc (Nat.le_refl _) _) (by simp) (by simp))
  clear h
  go_enter Tryd.func84, Tryd.ntmps84
  go_wp2_with (go_at_call 96; refine HI.out.mono ?_; rintro e w' ⟨rfl, hb'⟩)
  go_ret
  exact ⟨rfl, ((Below.refl _ _).alloc (Nat.le_refl _) _).trans (hb'.mono (by simp))⟩
end
end Go.Proofs.YtepoahinnfjaiaaDoor
