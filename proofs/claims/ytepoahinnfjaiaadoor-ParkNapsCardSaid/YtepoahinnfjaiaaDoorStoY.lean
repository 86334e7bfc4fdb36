/-
  The walks of StoryPrints, part three: events as text, in the program. Conditions: the two tables are laid; the events lie below this call's memory.
-/
import Derived.Test.YtepoahinnfjaiaaDoorStoX
namespace Go.Proofs.YtepoahinnfjaiaaDoor
open Go.RowKit Go.Extern.Stop Go.Stop Go.Extern
attribute [local go_sem ↓] Go.wp_at_zero Go.wp_at_succ

theorem HasTab.lt {w : World} (h : HasTab w) : 2 < w.heap.size := by
  unfold HasTab Lib.TabIs World.var? at h
  rw [Tryd.gTab] at h
  simp only [Option.bind_some] at h
  rcases Nat.lt_or_ge 2 w.heap.size with h' | h'
  · exact h'
  · rw [Array.getElem?_eq_none h'] at h; simp at h
theorem stR_mem {last : Int} {l : List Ev} (h : StR last l) : ∀ e ∈ l, 1 ≤ e.wt ∧ e.wt ≤ 3 ∧ 0 ≤ e.th ∧ e.th ≤ 15 := by
  induction l generalizing last with
  | nil => intro e he; simp at he
  | cons x l ih =>
    intro e he
    rcases List.mem_cons.1 he with rfl | he
    · exact ⟨h.1.2.1, h.1.2.2.1, h.1.2.2.2.1, h.1.2.2.2.2⟩
    · exact ih h.2 e he
theorem KB.low {B b : Nat} {W w' : World} (h : KB B b W w') : Below B W w' := h.1
theorem stB_true {last : Int} {l : List Ev} (h : stB last l = true) : StR last l := by
  unfold stB at h
  simpa using h
theorem line_bytes (wh th va : Int) (m : Nat) : Lib.strCells ((((((((itoaS wh) ++ ⟨#[32]⟩) ++ nameS m) ++ ⟨#[32]⟩) ++ itoaS th) ++ ⟨#[32]⟩) ++ itoaS va) ++ ⟨#[10]⟩) = Lib.byteCells (lineL ⟨wh, m, th, va⟩) := by
  unfold Lib.strCells lineL itoaS nameS
  simp [Lib.byteCells]
theorem line_size (l : List Ev) (k : Nat) (wh th va : Int) (m : Nat) (hk : k < l.length) (hk2 : k ≤ 100) (hw : EvWf l) (z0 : (itoaS wh).size ≤ 21) (z1 : (itoaS th).size ≤ 21) (z2 : (itoaS va).size ≤ 21) (z3 : (nameS m).size ≤ 4) :
    (Lib.byteCells (textL (l.take k))).length + ((((((((itoaS wh) ++ ⟨#[32]⟩) ++ nameS m) ++ ⟨#[32]⟩) ++ itoaS th) ++ ⟨#[32]⟩) ++ itoaS va) ++ ⟨#[10]⟩ : ByteArray).size ≤ 140737488355328 := by
  have h := text_len (l.take k) (fun e he => hw e (List.mem_of_mem_take he))
  have h2 : (l.take k).length = k := by simp; omega
  have h3 : (Lib.byteCells (textL (l.take k))).length = (textL (l.take k)).length := by simp [Lib.byteCells]
  have a := one_size 32
  have b := one_size 10
  simp only [ByteArray.size_append]
  omega
theorem bytes_append (a b : List UInt8) : Lib.byteCells (a ++ b) = Lib.byteCells a ++ Lib.byteCells b := by simp [Lib.byteCells]

theorem print_f (A : Option Addr) (len cap B : Nat) (l : List Ev) (w : World) (hl : l.length = len) (hlen : len ≤ 100) (hr : Reads w B 4 A len (flatE l)) (hB : B ≤ w.heap.size) (hno : stB 0 l = false) :
    Calls Tryd.prog 64 #[.slice A len cap] w fun e w' => e = .returned (.tuple #[.string ⟨#[]⟩, .iface 26 (.int .i64 1)]) ∧ Below w.heap.size w w' := by
  have hs := stright A len cap B l w hl hlen hr hB
  rw [hno] at hs
  have HS := Lib.hid hs
  clear hs hno hl hr
  go_enter Tryd.func64, Tryd.ntmps64
  go_wp2_with (go_at_call 65; refine HS.out.mono ?_; rintro e w1 ⟨rfl, hb1⟩)
  go_ret2
  exact ⟨rfl, hb1⟩
def PrEnd (l : List Ev) (w : World) (e : Ending) (w' : World) : Prop := e = .returned (.tuple #[.string ⟨(textL l).toArray⟩, .nilIface]) ∧ Below w.heap.size w w'
set_option maxRecDepth 100000 in
set_option maxHeartbeats 2000000 in
theorem print_t (A : Option Addr) (len cap B : Nat) (l : List Ev) (w : World) (hl : l.length = len) (hlen : len ≤ 100) (hr : Reads w B 4 A len (flatE l)) (hB : B ≤ w.heap.size) (hyes : stB 0 l = true) (hT : HasTab w) (hN : HasNames w) (hwf : EvWf l) :
    Calls Tryd.prog 64 #[.slice A len cap] w (PrEnd l w) := by
  have hs := stright A len cap B l w hl hlen hr hB
  rw [hyes] at hs
  have HS := Lib.hid hs
  have hmem := stR_mem (stB_true hyes)
  have HM := Lib.hid hmem
  have HL := Lib.hid hl
  have HT := Lib.hid hT
  have HN := Lib.hid hN
  have HW := Lib.hid hwf
  have h2 := hT.lt
  clear hs hyes hmem hl hT hN hwf
  go_enter Tryd.func64, Tryd.ntmps64
  go_wp2_with (go_at_call 65; refine HS.out.mono ?_; rintro e w1 ⟨rfl, hb1⟩)
  have hz1 := hb1.size
  have hfresh : Lib.IsBuilder 167 5 w.heap.size w1.heap.size (Lib.byteCells (textL (l.take 0))) (w1.alloc (.cells #[.pointer none, .slice none 0 0] 167)) :=
    .inl ⟨hz1, .slice none 0 0, heap_alloc_new w1 _, ⟨rfl, .inl ⟨rfl, rfl⟩⟩, by simp [Value.ownBlock]⟩
  have HF := Lib.hid hfresh
  clear hfresh
  obtain ⟨b, hbe⟩ : ∃ b, w1.heap.size = b := ⟨_, rfl⟩
  rw [hbe] at HF hz1 ⊢
  have HBE := Lib.hid hbe
  clear hbe
  go_loopw [13] (fun i wr => ∃ k : Nat, k ≤ len ∧ i = .int .i64 k ∧ Lib.IsBuilder 167 5 w.heap.size b (Lib.byteCells (textL (l.take k))) wr ∧ Below w.heap.size w wr) (fun i _ => len - (intOf i).toNat)
  case atStart => exact ⟨0, Nat.zero_le _, rfl, HF.out, hb1.alloc hb1.size _⟩
  case round =>
    obtain ⟨k, hk, rfl, hbd, hbel⟩ := hrel
    have HB := Lib.hid hbd
    clear hbd
    have hsz := hbel.size
    by_cases hlt : k < len
    · obtain ⟨ad, rfl, _, c0, c1, c2, c3⟩ := (hr.below (hbel.mono hB)).ev HL.out hlt
      have hkl : k < l.length := by rw [HL.out]; exact hlt
      obtain ⟨e, he⟩ : ∃ e, l[k]'hkl = e := ⟨_, rfl⟩
      have hmm := HM.out _ (List.getElem_mem hkl)
      have hww := HW.out _ (List.getElem_mem hkl)
      have htt := text_take l k hkl
      rw [he] at c0 c1 c2 c3 hmm hww htt
      clear he
      obtain ⟨wh, wt, th, va⟩ := e
      simp only at c0 c1 c2 c3 hmm hww
      obtain ⟨m1, m2, m3, m4⟩ := hmm
      obtain ⟨m, rfl⟩ := Int.eq_ofNat_of_zero_le (a := wt) (by omega)
      have m5 : m < 4 := by omega
      have m6 : (m : Int) < 4 := by omega
      obtain ⟨b0, b1, b2⟩ := hww
      have z0 := itoaS_size wh b0
      have z1 := itoaS_size th b1
      have z2 := itoaS_size va b2
      have z3 := nameS_size m
      have e1 : ¬ 9223372036854775807 < (itoaS wh).size + 1 := by omega
      have e2 : ¬ 9223372036854775807 < (itoaS wh).size + 1 + (nameS m).size := by omega
      have e3 : ¬ 9223372036854775807 < (itoaS wh).size + 1 + (nameS m).size + 1 := by omega
      have e4 : ¬ 9223372036854775807 < (itoaS wh).size + 1 + (nameS m).size + 1 + (itoaS th).size := by omega
      have e5 : ¬ 9223372036854775807 < (itoaS wh).size + 1 + (nameS m).size + 1 + (itoaS th).size + 1 := by omega
      have e6 : ¬ 9223372036854775807 < (itoaS wh).size + 1 + (nameS m).size + 1 + (itoaS th).size + 1 + (itoaS va).size := by omega
      have e7 : ¬ 9223372036854775807 < (itoaS wh).size + 1 + (nameS m).size + 1 + (itoaS th).size + 1 + (itoaS va).size + 1 := by omega
      have B0 := Lib.hid b0
      have B1 := Lib.hid b1
      have B2 := Lib.hid b2
      have HTT := Lib.hid htt
      have hlb := line_size l k wh th va m hkl (by omega) HW.out z0 z1 z2 z3
      have HLB := Lib.hid hlb
      clear hlb
      clear b0 b1 b2 htt
      go_wp2_with fail
      have hW := Blk.new wr 143 #[.int .i64 wh, .int .i64 (m : Int), .int .i64 th, .int .i64 va]
      have hbW := builder_below HB.out ((Below.refl wr.heap.size wr).alloc (Nat.le_refl _) (.cells #[.int .i64 wh, .int .i64 (m : Int), .int .i64 th, .int .i64 va] 143))
      have hBW := hbel.alloc hbel.size (.cells #[.int .i64 wh, .int .i64 (m : Int), .int .i64 th, .int .i64 va] 143)
      have hbl : b < wr.heap.size := by
        rcases HB.out with h | h
        · exact h.lt
        · exact h.lt
      obtain ⟨W, hWe⟩ : ∃ W, W = wr.alloc (.cells #[.int .i64 wh, .int .i64 (m : Int), .int .i64 th, .int .i64 va] 143) := ⟨_, rfl⟩
      rw [← hWe] at hW hbW hBW ⊢
      clear hWe
      obtain ⟨xb, hxe⟩ : ∃ xb, wr.heap.size = xb := ⟨_, rfl⟩
      rw [hxe] at hW hbl ⊢
      clear hxe
      have hTW := HT.out.below hBW h2
      have hNW := (HN.out.below hBW (by omega)) m m5
      have hKW := Blk.lt hW
      have HWB := Lib.hid hbW
      have HWX := Lib.hid hW
      have HTW := Lib.hid hTW
      have hsW := hBW.size
      have hne : xb ≠ b := by omega
      have HBW := Lib.hid hBW
      have hkk : ∀ w' : World, KB w.heap.size b W w' → (w'.cell? ⟨xb, 0, none⟩ = some (.int .i64 wh) ∧ w'.cell? ⟨xb, 1, none⟩ = some (.int .i64 (m : Int)) ∧ w'.cell? ⟨xb, 2, none⟩ = some (.int .i64 th) ∧ w'.cell? ⟨xb, 3, none⟩ = some (.int .i64 va) ∧ w'.cell? ⟨0, m, none⟩ = some (.string (nameS m))) ∧ KB w.heap.size b W w' := fun w' hk =>
        ⟨⟨hk.cell hW (by decide) hne 0, hk.cell hW (by decide) hne 1, hk.cell hW (by decide) hne 2, hk.cell hW (by decide) hne 3, by rw [hk.1.cell (p := ⟨0, m, none⟩) (by simp; omega)]; exact hNW⟩, hk⟩
      have HKK := Lib.hid hkk
      have hd0 : Below W.heap.size W W.drew := (Below.refl _ _).drew
      clear hbW hW hTW hNW hBW hkk
      go_region_held3 (fun w' => (w'.cell? ⟨xb, 0, none⟩ = some (.int .i64 wh) ∧ w'.cell? ⟨xb, 1, none⟩ = some (.int .i64 (m : Int)) ∧ w'.cell? ⟨xb, 2, none⟩ = some (.int .i64 th) ∧ w'.cell? ⟨xb, 3, none⟩ = some (.int .i64 va) ∧ w'.cell? ⟨0, m, none⟩ = some (.string (nameS m))) ∧ KB w.heap.size b W w')
        (first | exact HKK.out _ (KB.refl _ _ _).drew | exact HKK.out _ (KB.below (And.right (by assumption)) hb6 (Nat.le_trans hsW (Below.size (by assumption)))) | exact HKK.out _ (KB.write (And.right (by assumption)) hb7 hs7) | go_keep)
        ((first
          | (go_at_call 75
             refine (itoa_any _ _ ?_ ?_).mono ?_
             · first | exact B0.out | exact B1.out | exact B2.out
             · exact HTW.out.below (Below.trans (a := W) (by assumption) (Below.refl _ _)) (by omega)
             rintro e w6 ⟨rfl, hb6⟩
             have hk6 : Below W.heap.size W w6 := Below.trans (by assumption) (hb6.mono (Below.size (by assumption))))
          | (go_at_call 88
             refine (write_string w.heap.size b (Lib.byteCells (textL (l.take k))) _ _ (builder_below HWB.out (by assumption)) ?_ ?_).mono ?_
             · exact HLB.out
             · exact Nat.le_trans hsW (Below.size (by assumption))
             rintro e w7 ⟨rfl, hbd7, hb7, hs7⟩)))
      all_goals
        go_wp2
        go_roundw
        case rel => exact ⟨k + 1, by omega, by go_num, by rw [HTT.out, bytes_append, ← line_bytes]; exact .inr hbd7, HBW.out.trans (KB.low (And.right (by assumption)))⟩
        case measure => simp [intOf]; omega
    · obtain rfl : k = len := by omega
      have ht : l.take k = l := List.take_of_length_le (by rw [HL.out]; exact Nat.le_refl _)
      have hb' := HB.out
      rw [ht] at hb'
      have HB' := Lib.hid hb'
      clear hb' ht
      go_wp2_with (go_at_call 89; refine (Tryd.Builder_String_any w.heap.size b (textL l) _ HB'.out hsz).mono ?_; rintro e w2 ⟨rfl, hb2⟩)
      go_ret2
      exact ⟨rfl, hbel.trans hb2⟩
end Go.Proofs.YtepoahinnfjaiaaDoor
