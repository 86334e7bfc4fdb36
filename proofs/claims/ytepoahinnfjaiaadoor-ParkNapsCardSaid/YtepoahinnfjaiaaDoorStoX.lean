/-
  The walks of StoryPrints, part two: events as text, in the program. Conditions: the two tables are laid; the events lie below this call's memory.
-/
import Derived.Test.YtepoahinnfjaiaaDoorStoB
import Derived.Test.YtepoahinnfjaiaaDoorStoW
import Derived.Test.YtepoahinnfjaiaaDoorKs
import Derived.Lib.AppendIntMem
import Derived.Lib.ItoaLen
import Derived.Deep.RegionHeld3
import Derived.Deep.DrawnRows
namespace Go.Proofs.YtepoahinnfjaiaaDoor
open Go.RowKit Go.Extern.Stop Go.Stop Go.Extern
attribute [local go_sem ↓] Go.wp_at_zero Go.wp_at_succ

def nameL : Nat → List UInt8
  | 1 => [99, 97, 109, 101]
  | 2 => [103, 111, 110, 101]
  | 3 => [116, 111, 108, 100]
  | _ => []
def lineL (e : Ev) : List UInt8 := Lib.itoa e.wh ++ [32] ++ nameL e.wt.toNat ++ [32] ++ Lib.itoa e.th ++ [32] ++ Lib.itoa e.va ++ [10]
def textL (l : List Ev) : List UInt8 := l.flatMap lineL
/-- The table of powers is laid, and stays so. -/
def HasTab (w : World) : Prop := Lib.TabIs Tryd.prog w "internal/strconv.uint64pow10" .u64 Lib.pow10Tab
theorem Tryd.gTab : Tryd.prog.globalNamed "internal/strconv.uint64pow10" = some 2 := by kernel_rfl
theorem HasTab.below {w w' : World} {B : Nat} (h : HasTab w) (hb : Below B w w') (hB : 2 < B) : HasTab w' := by
  unfold HasTab Lib.TabIs World.var? at h ⊢
  rw [Tryd.gTab] at h ⊢
  simp only [Option.bind_some] at h ⊢
  rw [hb.block 2 hB]
  exact h
def itoaS (n : Int) : ByteArray := ⟨(Lib.itoa n).toArray⟩
def nameS (m : Nat) : ByteArray := ⟨(nameL m).toArray⟩
theorem nameS_size (m : Nat) : (nameS m).size ≤ 4 := by
  show (nameL m).toArray.size ≤ 4
  unfold nameL; split <;> simp
/-- The names of what is said are laid. -/
def HasNames (w : World) : Prop := ∀ j, j < 4 → w.cell? ⟨0, j, none⟩ = some (.string (nameS j))
theorem HasNames.below {w w' : World} {B : Nat} (h : HasNames w) (hb : Below B w w') (hB : 0 < B) : HasNames w' := fun j hj => by
  rw [hb.cell (p := ⟨0, j, none⟩) hB]; exact h j hj
def B64 (n : Int) : Prop := -9223372036854775808 ≤ n ∧ n ≤ 9223372036854775807
theorem itoa_any (n : Int) (w : World) (h0 : B64 n) (ht : HasTab w) :
    Calls Tryd.prog 75 #[.int .i64 n] w fun e w' => e = .returned (.string (itoaS n)) ∧ Below w.heap.size w w' := by
  refine (Tryd.strconv_Itoa n h0.1 h0.2 w ht).mono ?_
  rintro e w' ⟨rfl, k, os, rfl⟩
  exact ⟨rfl, Lib.below_grow _ w (Nat.le_refl _) k os⟩
theorem itoaS_size (n : Int) (h : B64 n) : (itoaS n).size ≤ 21 := by
  show (Lib.itoa n).toArray.size ≤ 21
  simpa using Lib.itoa_length_le n h.1 h.2
theorem cat_run (a b : ByteArray) (h : a.size + b.size ≤ 1000000) (w : World) : (binOp .add 9 (.string a) (.string b)).run Tryd.prog w = .ok (.string (a ++ b)) w := by
  go_simp
  omega
theorem one_size (x : UInt8) : (⟨#[x]⟩ : ByteArray).size = 1 := rfl
theorem line_len (e : Ev) (h1 : B64 e.wh) (h2 : B64 e.th) (h3 : B64 e.va) : (lineL e).length ≤ 100 := by
  have a := Lib.itoa_length_le e.wh h1.1 h1.2
  have b := Lib.itoa_length_le e.th h2.1 h2.2
  have c := Lib.itoa_length_le e.va h3.1 h3.2
  have d : (nameL e.wt.toNat).length ≤ 4 := by
    unfold nameL; split <;> simp
  simp only [lineL, List.length_append, List.length_cons, List.length_nil]
  omega
def EvWf (l : List Ev) : Prop := ∀ e ∈ l, B64 e.wh ∧ B64 e.th ∧ B64 e.va
theorem text_len : ∀ (l : List Ev), EvWf l → (textL l).length ≤ 100 * l.length
  | [], _ => by simp [textL]
  | e :: l, h => by
    have h1 := line_len e (h e (by simp)).1 (h e (by simp)).2.1 (h e (by simp)).2.2
    have h2 := text_len l (fun x hx => h x (by simp [hx]))
    simp only [textL, List.flatMap_cons, List.length_append, List.length_cons] at *
    omega
theorem text_take (l : List Ev) (k : Nat) (hk : k < l.length) : textL (l.take (k + 1)) = textL (l.take k) ++ lineL l[k] := by
  rw [List.take_succ_eq_append_getElem hk]
  simp only [textL, List.flatMap_append, List.flatMap_cons, List.flatMap_nil, List.append_nil]
/-- A world that is as W, but for a builder's block and its bytes. -/
def KB (B b : Nat) (W w' : World) : Prop := Below B W w' ∧ ∀ (g : Nat) cs t fr, W.heap[g]? = some (.cells cs t fr) → t ≠ 5 → g ≠ b → w'.heap[g]? = W.heap[g]?
theorem KB.drew {B b : Nat} {W w' : World} (h : KB B b W w') : KB B b W w'.drew := ⟨h.1.drew, h.2⟩
theorem KB.refl (B b : Nat) (W : World) : KB B b W W := ⟨Below.refl _ _, fun _ _ _ _ _ _ _ => rfl⟩
theorem KB.below {B b : Nat} {W w' w'' : World} (h : KB B b W w') (hb : Below w'.heap.size w' w'') (hB : B ≤ w'.heap.size) : KB B b W w'' :=
  ⟨h.1.trans (hb.mono hB), fun g cs t fr hg ht hgb => by
    have h1 := h.2 g cs t fr hg ht hgb
    have hgl : g < w'.heap.size := by
      rcases Nat.lt_or_ge g w'.heap.size with h' | h'
      · exact h'
      · rw [hg, Array.getElem?_eq_none h'] at h1; cases h1
    rw [hb.block g hgl, h1]⟩
theorem KB.write {B b : Nat} {W w' w'' : World} (h : KB B b W w') (hb : Below B w' w'') (hs : ∀ (g : Nat) cs t fr, w'.heap[g]? = some (.cells cs t fr) → t ≠ 5 → g ≠ b → w''.heap[g]? = w'.heap[g]?) : KB B b W w'' :=
  ⟨h.1.trans hb, fun g cs t fr hg ht hgb => by
    have h1 := h.2 g cs t fr hg ht hgb
    rw [hs g cs t fr (h1.trans hg) ht hgb, h1]⟩
theorem KB.cell {B b : Nat} {W w' : World} (h : KB B b W w') {g : Nat} {cs : Array Value} {t : TypeId} (hg : Blk W g t cs) (ht : t ≠ 5) (hgb : g ≠ b) (i : Nat) : w'.cell? ⟨g, i, none⟩ = cs[i]? :=
  Blk.cell (w := w') (t := t) ((h.2 g cs t (0, 0) hg ht hgb).trans hg) i
theorem builder_below {B b : Nat} {bs : List Value} {w w' : World} (h : Lib.IsBuilder 167 5 B b bs w) (hb : Below w.heap.size w w') : Lib.IsBuilder 167 5 B b bs w' := by
  have key : ∀ p, Lib.BuilderAt 167 5 B b p bs w → Lib.BuilderAt 167 5 B b p bs w' := by
    rintro p ⟨hB, v, hbk, hown, hne⟩
    have hl : b < w.heap.size := Lib.BuilderAt.lt ⟨hB, v, hbk, hown, hne⟩
    refine ⟨hB, v, (hb.block b hl).trans hbk, ?_, hne⟩
    rcases hown with ⟨h1, h2⟩
    refine ⟨h1, ?_⟩
    rcases h2 with h2 | ⟨g, cap, cur, hv, hg1, hg2, hg3⟩
    · exact .inl h2
    · have hgl : g < w.heap.size := by
        rcases Nat.lt_or_ge g w.heap.size with h' | h'
        · exact h'
        · rw [Array.getElem?_eq_none h'] at hg2; cases hg2
      exact .inr ⟨g, cap, cur, hv, hg1, (hb.block g hgl).trans hg2, hg3⟩
  exact h.elim (fun h => .inl (key _ h)) (fun h => .inr (key _ h))
end Go.Proofs.YtepoahinnfjaiaaDoor
