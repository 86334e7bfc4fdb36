/-
  Events as text, in plain terms, and what the reference's and the program's tables are. Conditions: as each states.
-/
import Derived.Test.YthnbbgmajdjgeaaDoorEvA
import Derived.Test.YthnbbgmajdjgeaaDoorShelf
import Derived.Test.YthnbbgmajdjgeaaDoorKs
import Derived.Lib.AppendIntMem
import Derived.Lib.ItoaLen
import Derived.Deep.RegionHeld3
import Derived.Deep.DrawnRows
namespace Go.Proofs.YthnbbgmajdjgeaaDoor
open Go.RowKit Go.Extern.Stop Go.Stop Go.Extern
attribute [local go_sem ↓] Go.wp_at_zero Go.wp_at_succ

def nameL : Nat → List UInt8
  | 1 => [99, 97, 109, 101]
  | 2 => [103, 111, 110, 101]
  | 3 => [116, 111, 108, 100]
  | _ => []
def lineL (e : Ev) : List UInt8 := Lib.itoa e.wh ++ [32] ++ nameL e.wt.toNat ++ [32] ++ Lib.itoa e.th ++ [32] ++ Lib.itoa e.va ++ [10]
def textL (l : List Ev) : List UInt8 := l.flatMap lineL
/-- The table of powers is laid, and stays so. -/
def HasTab (w : World) : Prop := Lib.TabIs Tryd.prog w "internal/strconv.uint64pow10" .u64 Lib.pow10Tab
theorem Tryd.gTab : Tryd.prog.globalNamed "internal/strconv.uint64pow10" = some 7 := by kernel_rfl
theorem HasTab.below {w w' : World} {B : Nat} (h : HasTab w) (hb : Below B w w') (hB : 7 < B) : HasTab w' := by
  unfold HasTab Lib.TabIs World.var? at h ⊢
  rw [Tryd.gTab] at h ⊢
  simp only [Option.bind_some] at h ⊢
  rw [hb.block 7 hB]
  exact h
def itoaS (n : Int) : ByteArray := ⟨(Lib.itoa n).toArray⟩
def nameS (m : Nat) : ByteArray := ⟨(nameL m).toArray⟩
theorem nameS_size (m : Nat) : (nameS m).size ≤ 4 := by
  show (nameL m).toArray.size ≤ 4
  unfold nameL; split <;> simp
/-- The names of what is said are laid. -/
def HasNames (w : World) : Prop := ∀ j, j < 4 → w.cell? ⟨1, j, none⟩ = some (.string (nameS j))
theorem HasNames.below {w w' : World} {B : Nat} (h : HasNames w) (hb : Below B w w') (hB : 1 < B) : HasNames w' := fun j hj => by
  rw [hb.cell (p := ⟨1, j, none⟩) hB]; exact h j hj
def B64 (n : Int) : Prop := -9223372036854775808 ≤ n ∧ n ≤ 9223372036854775807
theorem itoa_any (n : Int) (w : World) (h0 : B64 n) (ht : HasTab w) :
    Calls Tryd.prog 43 #[.int .i64 n] w fun e w' => e = .returned (.string (itoaS n)) ∧ Below w.heap.size w w' := by
  refine (Tryd.strconv_Itoa n h0.1 h0.2 w ht).mono ?_
  rintro e w' ⟨rfl, k, os, rfl⟩
  exact ⟨rfl, Lib.below_grow _ w (Nat.le_refl _) k os⟩
theorem itoaS_size (n : Int) (h : B64 n) : (itoaS n).size ≤ 21 := by
  show (Lib.itoa n).toArray.size ≤ 21
  simpa using Lib.itoa_length_le n h.1 h.2
theorem cat_run (a b : ByteArray) (h : a.size + b.size ≤ 1000000) (w : World) : (binOp .add 9 (.string a) (.string b)).run Tryd.prog w = .ok (.string (a ++ b)) w := by
  go_simp
  omega
theorem one_size (x : UInt8) : (⟨#[x]⟩ : ByteArray).size = 1 := rfl
theorem line_len (e : Ev) (h1 : B64 e.wh) (h2 : B64 e.th) (h3 : B64 e.va) : (lineL e).length ≤ 100 := by
  have a := Lib.itoa_length_le e.wh h1.1 h1.2
  have b := Lib.itoa_length_le e.th h2.1 h2.2
  have c := Lib.itoa_length_le e.va h3.1 h3.2
  have d : (nameL e.wt.toNat).length ≤ 4 := by
    unfold nameL; split <;> simp
  simp only [lineL, List.length_append, List.length_cons, List.length_nil]
  omega
def EvWf (l : List Ev) : Prop := ∀ e ∈ l, B64 e.wh ∧ B64 e.th ∧ B64 e.va
theorem text_len : ∀ (l : List Ev), EvWf l → (textL l).length ≤ 100 * l.length
  | [], _ => by simp [textL]
  | e :: l, h => by
    have h1 := line_len e (h e (by simp)).1 (h e (by simp)).2.1 (h e (by simp)).2.2
    have h2 := text_len l (fun x hx => h x (by simp [hx]))
    simp only [textL, List.flatMap_cons, List.length_append, List.length_cons] at *
    omega
theorem text_take (l : List Ev) (k : Nat) (hk : k < l.length) : textL (l.take (k + 1)) = textL (l.take k) ++ lineL l[k] := by
  rw [List.take_succ_eq_append_getElem hk]
  simp only [textL, List.flatMap_append, List.flatMap_cons, List.flatMap_nil, List.append_nil]
theorem HasTab.lt {w : World} (h : HasTab w) : 7 < w.heap.size := by
  unfold HasTab Lib.TabIs World.var? at h
  rw [Tryd.gTab] at h
  simp only [Option.bind_some] at h
  rcases Nat.lt_or_ge 7 w.heap.size with h' | h'
  · exact h'
  · rw [Array.getElem?_eq_none h'] at h; simp at h
theorem stR_mem {last : Int} {l : List Ev} (h : StR last l) : ∀ e ∈ l, 1 ≤ e.wt ∧ e.wt ≤ 3 ∧ 0 ≤ e.th ∧ e.th ≤ 15 := by
  induction l generalizing last with
  | nil => intro e he; simp at he
  | cons x l ih =>
    intro e he
    rcases List.mem_cons.1 he with rfl | he
    · exact ⟨h.1.2.1, h.1.2.2.1, h.1.2.2.2.1, h.1.2.2.2.2⟩
    · exact ih h.2 e he
theorem stB_true {last : Int} {l : List Ev} (h : stB last l = true) : StR last l := by
  unfold stB at h
  simpa using h
end Go.Proofs.YthnbbgmajdjgeaaDoor
