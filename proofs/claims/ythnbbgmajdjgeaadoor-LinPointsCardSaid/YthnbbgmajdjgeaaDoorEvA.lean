/-
  Events, in the program and in the reference: how they lie in memory, and which may be. Conditions: the events lie below this call's memory.
-/
import Derived.Test.YthnbbgmajdjgeaaDoorPlace
import Derived.Test.YthnbbgmajdjgeaaDoorWords
import Derived.LoopTactic
import Derived.IntWalk
import Derived.Deep.QuietTactic
import Derived.BigQuiet
namespace Go.Proofs.YthnbbgmajdjgeaaDoor
open Go.RowKit Go.Extern.Stop Go.Stop Go.Extern

structure Ev where
  wh : Int
  wt : Int
  th : Int
  va : Int
theorem flatMap_get {α β : Type} {f : α → List β} {s : Nat} (hs : ∀ x, (f x).length = s) : ∀ (l : List α) (k j : Nat) (hk : k < l.length), j < s → (l.flatMap f)[k * s + j]? = (f l[k])[j]?
  | [], k, j, hk, _ => by simp at hk
  | x :: l, 0, j, _, hj => by
    rw [List.flatMap_cons, List.getElem?_append_left (by rw [hs]; omega)]
    simp
  | x :: l, k + 1, j, hk, hj => by
    have hk' : k < l.length := by simpa using hk
    have e : (k + 1) * s + j = s + (k * s + j) := by rw [Nat.succ_mul]; omega
    rw [List.flatMap_cons, List.getElem?_append_right (by rw [hs, e]; omega), hs, e, Nat.add_sub_cancel_left, flatMap_get hs l k j hk' hj]
    simp
theorem within_t (n lo hi : Int) (w : World) (h1 : lo ≤ n) (h2 : n ≤ hi) :
    Calls Tryd.prog 13 #[.int .i64 n, .int .i64 lo, .int .i64 hi] w fun e w' => e = .returned (.bool true) ∧ w = w' := by
  go_enter Tryd.func13, Tryd.ntmps13
  go_wp2
  go_ret
  exact ⟨rfl, rfl⟩
theorem within_f (n lo hi : Int) (w : World) (h : n < lo ∨ hi < n) :
    Calls Tryd.prog 13 #[.int .i64 n, .int .i64 lo, .int .i64 hi] w fun e w' => e = .returned (.bool false) ∧ w = w' := by
  by_cases h1 : lo ≤ n
  · have h2 : ¬ n ≤ hi := by omega
    go_enter Tryd.func13, Tryd.ntmps13
    go_wp2
    go_ret
    exact ⟨rfl, rfl⟩
  · go_enter Tryd.func13, Tryd.ntmps13
    go_wp2
    go_ret
    exact ⟨rfl, rfl⟩
def evc (v : Ev) : List Value := [.int .i64 v.wh, .int .i64 v.wt, .int .i64 v.th, .int .i64 v.va]
def flatE (l : List Ev) : List Value := l.flatMap evc
theorem evc_len (v : Ev) : (evc v).length = 4 := rfl
theorem add_split (a : Addr) (i j : Nat) : a.add (i + (j + 1)) = ⟨(a.add i).block, (a.add i).off + (j + 1), none⟩ := by
  rw [← add_of_add]; rfl
/-- The cells of event k. -/
theorem Reads.ev {w : World} {B n k : Nat} {A : Option Addr} {l : List Ev} (h : Reads w B 4 A n (flatE l)) (hn : l.length = n) (hk : k < n) :
    ∃ ad, A = some ad ∧ ad.block < B ∧ w.cell? (ad.add (k * 4)) = some (.int .i64 (l[k]'(by omega)).wh) ∧ w.cell? ⟨(ad.add (k * 4)).block, (ad.add (k * 4)).off + 1, none⟩ = some (.int .i64 (l[k]'(by omega)).wt) ∧
      w.cell? ⟨(ad.add (k * 4)).block, (ad.add (k * 4)).off + 2, none⟩ = some (.int .i64 (l[k]'(by omega)).th) ∧ w.cell? ⟨(ad.add (k * 4)).block, (ad.add (k * 4)).off + 3, none⟩ = some (.int .i64 (l[k]'(by omega)).va) := by
  obtain ⟨ad, e, hb, hc⟩ := h.2 (by omega)
  have g := fun j hj => flatMap_get evc_len l k j (by omega) hj
  refine ⟨ad, e, hb, hc _ _ (g 0 (by omega)), ?_, ?_, ?_⟩
  · rw [← add_split ad (k * 4) 0]; exact hc _ _ (g 1 (by omega))
  · rw [← add_split ad (k * 4) 1]; exact hc _ _ (g 2 (by omega))
  · rw [← add_split ad (k * 4) 2]; exact hc _ _ (g 3 (by omega))

def EvOk (last : Int) (e : Ev) : Prop := last < e.wh ∧ 1 ≤ e.wt ∧ e.wt ≤ 3 ∧ 0 ≤ e.th ∧ e.th ≤ 15
def StR : Int → List Ev → Prop
  | _, [] => True
  | last, e :: l => EvOk last e ∧ StR e.wh l
open Classical in
noncomputable def stB (last : Int) (l : List Ev) : Bool := decide (StR last l)
open Classical in
theorem stB_nil (last : Int) : stB last [] = true := decide_eq_true trivial
open Classical in
theorem stB_ok {last : Int} {e : Ev} {l : List Ev} (h : EvOk last e) : stB last (e :: l) = stB e.wh l := decide_eq_decide.2 ⟨fun hh => hh.2, fun hh => ⟨h, hh⟩⟩
open Classical in
theorem stB_bad {last : Int} {e : Ev} {l : List Ev} (h : ¬ EvOk last e) : stB last (e :: l) = false := decide_eq_false fun hh => h hh.1
theorem evOk_not {last : Int} {e : Ev} (h : ¬ EvOk last e) : e.wh ≤ last ∨ (last < e.wh ∧ e.wt < 1) ∨ (last < e.wh ∧ 1 ≤ e.wt ∧ 3 < e.wt) ∨ (last < e.wh ∧ 1 ≤ e.wt ∧ e.wt ≤ 3 ∧ e.th < 0) ∨ (last < e.wh ∧ 1 ≤ e.wt ∧ e.wt ≤ 3 ∧ 0 ≤ e.th ∧ 16 ≤ e.th) := by
  unfold EvOk at h; omega
set_option maxRecDepth 100000 in
set_option maxHeartbeats 2000000 in
theorem stright (A : Option Addr) (len cap B : Nat) (l : List Ev) (w : World) (hl : l.length = len) (hlen : len ≤ 100) (hr : Reads w B 4 A len (flatE l)) (hB : B ≤ w.heap.size) :
    Calls Tryd.prog 29 #[.slice A len cap] w fun e w' => e = .returned (.bool (stB 0 l)) ∧ Below w.heap.size w w' := by
  have HL := Lib.hid hl
  clear hl
  go_enter Tryd.func29, Tryd.ntmps29
  go_wp2
  go_loopw [8, 3] (fun i v wr => ∃ (k : Nat) (last : Int), k ≤ len ∧ i = .int .i64 k ∧ v = .int .i64 last ∧ stB 0 l = stB last (l.drop k) ∧ Below w.heap.size w wr) (fun i _ _ => len - (intOf i).toNat)
  case atStart => exact ⟨0, 0, Nat.zero_le _, rfl, rfl, rfl, Below.refl _ _⟩
  case round =>
    obtain ⟨k, last, hk, rfl, rfl, hst, hbel⟩ := hrel
    have HST := Lib.hid hst
    clear hst
    by_cases hlt : k < len
    · obtain ⟨ad, rfl, _, c0, c1, c2, c3⟩ := (hr.below (hbel.mono hB)).ev HL.out hlt
      have hd : l.drop k = l[k]'(by rw [HL.out]; exact hlt) :: l.drop (k + 1) := List.drop_eq_getElem_cons (by rw [HL.out]; exact hlt)
      obtain ⟨e, he⟩ : ∃ e, l[k]'(by rw [HL.out]; exact hlt) = e := ⟨_, rfl⟩
      rw [he] at c0 c1 c2 c3 hd
      obtain ⟨wh, wt, th, va⟩ := e
      simp only at c0 c1 c2 c3
      have HD := Lib.hid hd
      clear hd he
      by_cases hok : EvOk last ⟨wh, wt, th, va⟩
      · have HS := Lib.hid (HST.out.trans (by rw [HD.out, stB_ok hok]))
        obtain ⟨q1, q2, q3, q4, q5⟩ := hok
        simp only at q1 q2 q3 q4 q5
        go_wp2
        go_roundw
        case rel => exact ⟨k + 1, wh, by omega, by go_num, rfl, HS.out, hbel.alloc hbel.size _⟩
        case measure => simp [intOf]; omega
      · have HS := Lib.hid (HST.out.trans (by rw [HD.out, stB_bad hok]))
        have hc := evOk_not hok
        simp only at hc
        clear hok
        rcases hc with h1 | ⟨h1, h2⟩ | ⟨h1, h2, h3⟩ | ⟨h1, h2, h3, h4⟩ | ⟨h1, h2, h3, h4, h5⟩
        all_goals
          go_wp2
          go_ret
          exact ⟨by rw [HS.out]; rfl, hbel.alloc hbel.size _⟩
    · obtain rfl : k = len := by omega
      have HS := Lib.hid (HST.out.trans (by rw [List.drop_eq_nil_of_le (by rw [HL.out]; exact Nat.le_refl _), stB_nil]))
      go_wp2
      go_ret
      exact ⟨by rw [HS.out]; rfl, hbel⟩
theorem within_tq (n lo hi : Int) (w : World) (h1 : lo ≤ n) (h2 : n ≤ hi) : Calls Tryd.prog 13 #[.int .i64 n, .int .i64 lo, .int .i64 hi] w fun e w' => e = .returned (.bool true) ∧ w' = w :=
  (within_t n lo hi w h1 h2).mono fun _ _ ⟨a, b⟩ => ⟨a, b.symm⟩
theorem within_fq (n lo hi : Int) (w : World) (h : n < lo ∨ hi < n) : Calls Tryd.prog 13 #[.int .i64 n, .int .i64 lo, .int .i64 hi] w fun e w' => e = .returned (.bool false) ∧ w' = w :=
  (within_f n lo hi w h).mono fun _ _ ⟨a, b⟩ => ⟨a, b.symm⟩
set_option maxRecDepth 100000 in
set_option maxHeartbeats 2000000 in
theorem pstright (A : Option Addr) (len cap B : Nat) (l : List Ev) (w : World) (hl : l.length = len) (hlen : len ≤ 100) (hr : Reads w B 4 A len (flatE l)) (hB : B ≤ w.heap.size) :
    Calls Tryd.prog 42 #[.slice A len cap] w fun e w' => e = .returned (.bool (stB 0 l)) ∧ Below w.heap.size w w' := by
  have HL := Lib.hid hl
  clear hl
  go_enter Tryd.func42, Tryd.ntmps42
  go_wp2
  go_loopw [7] (fun i wr => ∃ (k : Nat) (last : Int), k ≤ len ∧ i = .int .i64 k ∧ 0 ≤ last ∧ (k = 0 → last = 0) ∧ (∀ j, k = j + 1 → ∀ e, l[j]? = some e → e.wh = last ∧ 1 ≤ last) ∧ stB 0 l = stB last (l.drop k) ∧ Below w.heap.size w wr) (fun i _ => len - (intOf i).toNat)
  case atStart => exact ⟨0, 0, Nat.zero_le _, rfl, by omega, fun _ => rfl, fun j h => by omega, rfl, Below.refl _ _⟩
  case round =>
    obtain ⟨k, last, hk, rfl, hl0, hk0, hkj, hst, hbel⟩ := hrel
    have HST := Lib.hid hst
    have HKJ := Lib.hid hkj
    have HK0 := Lib.hid hk0
    clear hst hkj hk0
    by_cases hlt : k < len
    · obtain ⟨ad, rfl, _, c0, c1, c2, c3⟩ := (hr.below (hbel.mono hB)).ev HL.out hlt
      have hd : l.drop k = l[k]'(by rw [HL.out]; exact hlt) :: l.drop (k + 1) := List.drop_eq_getElem_cons (by rw [HL.out]; exact hlt)
      obtain ⟨e, he⟩ : ∃ e, l[k]'(by rw [HL.out]; exact hlt) = e := ⟨_, rfl⟩
      have HEQ := Lib.hid (show l[k]? = some e by rw [List.getElem?_eq_getElem (by rw [HL.out]; exact hlt), he])
      rw [he] at c0 c1 c2 c3 hd
      obtain ⟨wh, wt, th, va⟩ := e
      simp only at c0 c1 c2 c3
      have HD := Lib.hid hd
      clear hd he
      by_cases hok : EvOk last ⟨wh, wt, th, va⟩
      · have HS := Lib.hid (HST.out.trans (by rw [HD.out, stB_ok hok]))
        obtain ⟨q1, q2, q3, q4, q5⟩ := hok
        simp only at q1 q2 q3 q4 q5
        have qw : 1 ≤ wh := by omega
        have d1 : decide (wh < 1) = false := by simp; omega
        have d2 : decide (wh ≤ last) = false := by simp; omega
        rcases k with _ | j
        · simp [Addr.add] at c0 c1 c2 c3
          go_wp2
          go_quiet ((first | (go_at_call 13; exact Calls.quiet_of_same (within_tq _ _ _ _ (by omega) (by omega))) | (go_at_call 13; exact Calls.quiet_of_same (within_fq _ _ _ _ (by omega))) | (go_at_call 13; exact quiet_add_same (within_tq _ _ _ _ (by omega) (by omega))) | (go_at_call 13; exact quiet_add_same (within_fq _ _ _ _ (by omega)))))
          go_wp2
          go_roundw
          case rel =>
            refine ⟨0 + 1, wh, by omega, by go_num, by omega, fun h => by omega, fun j' hj' e' he' => ?_, HS.out, below_drewN (hbel.alloc hbel.size _) _⟩
            obtain rfl : j' = 0 := by omega
            rw [HEQ.out] at he'
            injection he' with he'
            subst he'
            exact ⟨rfl, by omega⟩
          case measure => simp [intOf]; omega
        · have hcp : (wr.alloc (.cells #[.int .i64 wh, .int .i64 wt, .int .i64 th, .int .i64 va] 47)).cell? (ad.add (j * 4)) = some (.int .i64 last) := by
            obtain ⟨ad', ha, _, cj, _⟩ := ((hr.below (hbel.mono hB)).alloc (Nat.le_trans hB hbel.size) (.cells #[.int .i64 wh, .int .i64 wt, .int .i64 th, .int .i64 va] 47)).ev HL.out (show j < len by omega)
            injection ha with ha
            subst ha
            rw [cj, (HKJ.out j rfl _ (List.getElem?_eq_getElem (by rw [HL.out]; omega))).1]
          have hl1 : 1 ≤ last := (HKJ.out j rfl _ (List.getElem?_eq_getElem (by rw [HL.out]; omega))).2
          go_wp2
          go_quiet ((first | (go_at_call 13; exact Calls.quiet_of_same (within_tq _ _ _ _ (by omega) (by omega))) | (go_at_call 13; exact Calls.quiet_of_same (within_fq _ _ _ _ (by omega))) | (go_at_call 13; exact quiet_add_same (within_tq _ _ _ _ (by omega) (by omega))) | (go_at_call 13; exact quiet_add_same (within_fq _ _ _ _ (by omega)))))
          go_wp2
          go_roundw
          case rel =>
            refine ⟨j + 1 + 1, wh, by omega, by go_num, by omega, fun h => by omega, fun j' hj' e' he' => ?_, HS.out, below_drewN (hbel.alloc hbel.size _) _⟩
            obtain rfl : j' = j + 1 := by omega
            rw [HEQ.out] at he'
            injection he' with he'
            subst he'
            exact ⟨rfl, by omega⟩
          case measure => simp [intOf]; omega
      · have HS := Lib.hid (HST.out.trans (by rw [HD.out, stB_bad hok]))
        have hc := evOk_not hok
        simp only at hc
        clear hok
        rcases k with _ | j
        · simp [Addr.add] at c0 c1 c2 c3
          have hl0' : last = 0 := HK0.out rfl
          have hc' : (decide (wh < 1) = true ∧ wh < 1) ∨ (decide (wh < 1) = false ∧ 1 ≤ wh ∧ (wt < 1 ∨ (1 ≤ wt ∧ 3 < wt) ∨ (1 ≤ wt ∧ wt ≤ 3 ∧ th < 0) ∨ (1 ≤ wt ∧ wt ≤ 3 ∧ 0 ≤ th ∧ 16 ≤ th))) := by simp; omega
          clear hc hl0'
          rcases hc' with ⟨d1, h1⟩ | ⟨d1, h1, h2 | ⟨h2, h3⟩ | ⟨h2, h3, h4⟩ | ⟨h2, h3, h4, h5⟩⟩
          all_goals
            go_wp2
            go_quiet ((first | (go_at_call 13; exact Calls.quiet_of_same (within_tq _ _ _ _ (by omega) (by omega))) | (go_at_call 13; exact Calls.quiet_of_same (within_fq _ _ _ _ (by omega))) | (go_at_call 13; exact quiet_add_same (within_tq _ _ _ _ (by omega) (by omega))) | (go_at_call 13; exact quiet_add_same (within_fq _ _ _ _ (by omega)))))
            go_wp2
            go_ret
            exact ⟨by rw [HS.out]; rfl, below_drewN (hbel.alloc hbel.size _) _⟩
        · have hcp : (wr.alloc (.cells #[.int .i64 wh, .int .i64 wt, .int .i64 th, .int .i64 va] 47)).cell? (ad.add (j * 4)) = some (.int .i64 last) := by
            obtain ⟨ad', ha, _, cj, _⟩ := ((hr.below (hbel.mono hB)).alloc (Nat.le_trans hB hbel.size) (.cells #[.int .i64 wh, .int .i64 wt, .int .i64 th, .int .i64 va] 47)).ev HL.out (show j < len by omega)
            injection ha with ha
            subst ha
            rw [cj, (HKJ.out j rfl _ (List.getElem?_eq_getElem (by rw [HL.out]; omega))).1]
          have hl1 : 1 ≤ last := (HKJ.out j rfl _ (List.getElem?_eq_getElem (by rw [HL.out]; omega))).2
          have hc' : (decide (wh < 1) = true ∧ wh < 1) ∨ (decide (wh < 1) = false ∧ decide (wh ≤ last) = true ∧ 1 ≤ wh ∧ wh ≤ last) ∨ (decide (wh < 1) = false ∧ decide (wh ≤ last) = false ∧ 1 ≤ wh ∧ (wt < 1 ∨ (1 ≤ wt ∧ 3 < wt) ∨ (1 ≤ wt ∧ wt ≤ 3 ∧ th < 0) ∨ (1 ≤ wt ∧ wt ≤ 3 ∧ 0 ≤ th ∧ 16 ≤ th))) := by simp; omega
          clear hc
          rcases hc' with ⟨d1, h1⟩ | ⟨d1, d2, h1, h2⟩ | ⟨d1, d2, h1, h2 | ⟨h2, h3⟩ | ⟨h2, h3, h4⟩ | ⟨h2, h3, h4, h5⟩⟩
          all_goals
            go_wp2
            go_quiet ((first | (go_at_call 13; exact Calls.quiet_of_same (within_tq _ _ _ _ (by omega) (by omega))) | (go_at_call 13; exact Calls.quiet_of_same (within_fq _ _ _ _ (by omega))) | (go_at_call 13; exact quiet_add_same (within_tq _ _ _ _ (by omega) (by omega))) | (go_at_call 13; exact quiet_add_same (within_fq _ _ _ _ (by omega)))))
            go_wp2
            go_ret
            exact ⟨by rw [HS.out]; rfl, below_drewN (hbel.alloc hbel.size _) _⟩
    · obtain rfl : k = len := by omega
      have HS := Lib.hid (HST.out.trans (by rw [List.drop_eq_nil_of_le (by rw [HL.out]; exact Nat.le_refl _), stB_nil]))
      go_wp2
      go_ret
      exact ⟨by rw [HS.out]; rfl, hbel⟩
end Go.Proofs.YthnbbgmajdjgeaaDoor
