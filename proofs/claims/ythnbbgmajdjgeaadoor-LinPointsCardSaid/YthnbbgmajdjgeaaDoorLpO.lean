/-
  LinPoints' arguments are opened here: lists of calls, acts, events. Conditions: each argument reads as data.
-/
import Derived.Test.YthnbbgmajdjgeaaDoorLpA
import Derived.ProofKit
import Derived.OpenShut
import Derived.Deep.Slices
import Derived.Lib.SmallJoins
namespace Go.Proofs.YthnbbgmajdjgeaaDoor
open Go.ChangeShapes Go.WideShapes Go.ChangeAt Go.RowKit Go.Deep
theorem reach47 : reachBytes ≤ 140737488355328 := by decide
theorem list_of {α : Type} (P : Nat → α → Prop) : ∀ n : Nat, (∀ i, i < n → ∃ x, P i x) → ∃ l : List α, l.length = n ∧ ∀ (i : Nat) (hi : i < l.length), P i l[i]
  | 0, _ => ⟨[], rfl, fun i hi => by simp at hi⟩
  | n + 1, h => by
    obtain ⟨l, hl, hp⟩ := list_of P n (fun i hi => h i (by omega))
    obtain ⟨x, hx⟩ := h n (by omega)
    refine ⟨l ++ [x], by simp [hl], fun i hi => ?_⟩
    by_cases hin : i < l.length
    · rw [List.getElem_append_left hin]; exact hp i hin
    · have e : i = n := by simp at hi; omega
      subst e
      rw [List.getElem_append_right (by omega)]
      simpa [hl] using hx
theorem flatMap_len {α β : Type} {f : α → List β} {s : Nat} (hs : ∀ x, (f x).length = s) : ∀ l : List α, (l.flatMap f).length = l.length * s
  | [] => by simp
  | x :: l => by rw [List.flatMap_cons, List.length_append, hs, flatMap_len hs l, List.length_cons, Nat.succ_mul]; omega
theorem reads_of {α : Type} {f : α → List Value} {s : Nat} (hs : ∀ x, (f x).length = s) (hs0 : 0 < s) {w : World} (l : List α) (a : Addr)
    (h : ∀ (i : Nat) (hi : i < l.length) (j : Nat), j < s → w.cell? (a.add (i * s + j)) = (f l[i])[j]?) : Reads w w.heap.size s (some a) l.length (l.flatMap f) := by
  refine ⟨flatMap_len hs l, fun hn => ⟨a, rfl, ?_, fun j u hu => ?_⟩⟩
  · have h0 := h 0 hn 0 hs0
    have e : (f l[0])[0]? = some ((f l[0])[0]'(by rw [hs]; exact hs0)) := List.getElem?_eq_getElem _
    rw [e] at h0
    have := World.block_lt_of_cell? w _ h0
    rwa [block_of_add] at this
  · have hj : j < l.length * s := by
      rw [← flatMap_len hs l]
      exact (List.getElem?_eq_some_iff.1 hu).1
    have hd : j / s < l.length := Nat.div_lt_of_lt_mul (by rw [Nat.mul_comm]; exact hj)
    have hm : j % s < s := Nat.mod_lt _ hs0
    have e : j = j / s * s + j % s := by rw [Nat.mul_comm]; exact (Nat.div_add_mod j s).symm
    rw [e] at hu ⊢
    rw [h _ hd _ hm, ← flatMap_get hs l _ _ hd hm, hu]

section
variable {H : Type} {enc : TypeId × Value → H} {w : World} {base : Nat} {spare : Nat → Bool} {held : Bool}
theorem Tryd.cells47 : Tryd.prog.cellsOf 47 = 4 := by kernel_rfl
theorem Tryd.cells59 : Tryd.prog.cellsOf 59 = 2 := by kernel_rfl
theorem Tryd.cells25 : Tryd.prog.cellsOf 25 = 1 := by kernel_rfl
theorem Tryd.cells57 : Tryd.prog.cellsOf 57 = 6 := by kernel_rfl
theorem Tryd.bytes59 : Tryd.prog.bytesOf 59 = 16 := by kernel_rfl
theorem weightsAll_mem {P : Program} {e : TypeId} : ∀ {l : List (DataW H)} {d : DataW H}, d ∈ l → ∀ n ∈ d.weights P e, n ∈ DataW.weightsAll P e l
  | x :: l, d, hd, n, hn => by
    unfold DataW.weightsAll
    rcases List.mem_cons.1 hd with rfl | hd
    · exact List.mem_append_left _ hn
    · exact List.mem_append_right _ (weightsAll_mem hd n hn)
set_option maxRecDepth 100000 in
theorem open_events {r : Reach} {b0 : Nat} {v : Value} {d : DataW H} {p : List MemPlace} (hv : Value.okWide Tryd.prog w r b0 24 v) (h : DataW.Trod enc Tryd.prog w base spare held 24 v d p) :
    ∃ (A : Option Addr) (len cap : Nat) (l : List Ev), v = .slice A len cap ∧ l.length = len ∧ Reads w w.heap.size 4 A len (flatE l) := by
  obtain ⟨a0, len, cap, rfl⟩ := okWide_slice Tryd.underlying24 hv
  obtain ⟨fuel, hf⟩ := h
  rcases open_slice_fields Tryd.underlying24 Tryd.underlying47 (by kernel_rfl) Tryd.cells47 hf with ⟨hcs, _⟩ | ⟨a, len', cap', m, D, Pl, hcs, _, hl, _, hmm, _, hi⟩
  · simp [Value.cells] at hcs
    obtain ⟨rfl, rfl, rfl⟩ := hcs
    exact ⟨none, 0, 0, [], rfl, rfl, Reads.none_⟩
  · simp [Value.cells] at hcs
    obtain ⟨rfl, rfl, rfl⟩ := hcs
    have hml : len ≤ m := by rw [hmm]; split <;> omega
    obtain ⟨l, hl2, hp⟩ := list_of (fun i (e : Ev) => ∀ j, j < 4 → w.cell? (a.add (i * 4 + j)) = (evc e)[j]?) len (fun i hil => by
      obtain ⟨ys, n, _, _, _, hfj⟩ := hi i (by omega)
      obtain ⟨v0, y0, c0, _, t0⟩ := hfj 0 _ rfl
      obtain ⟨v1, y1, c1, _, t1⟩ := hfj 1 _ rfl
      obtain ⟨v2, y2, c2, _, t2⟩ := hfj 2 _ rfl
      obtain ⟨v3, y3, c3, _, t3⟩ := hfj 3 _ rfl
      obtain ⟨x0, e0, _, _⟩ := DataW.trod_int Tryd.underlying3 t0
      obtain ⟨x1, e1, _, _⟩ := DataW.trod_int Tryd.underlying3 t1
      obtain ⟨x2, e2, _, _⟩ := DataW.trod_int Tryd.underlying3 t2
      obtain ⟨x3, e3, _, _⟩ := DataW.trod_int Tryd.underlying3 t3
      simp at e0 e1 e2 e3
      subst e0 e1 e2 e3
      refine ⟨⟨x0, x1, x2, x3⟩, fun j hj => ?_⟩
      match j, hj with
      | 0, _ => exact c0
      | 1, _ => exact c1
      | 2, _ => exact c2
      | 3, _ => exact c3)
    subst hl2
    exact ⟨some a, _, cap, l, rfl, rfl, reads_of evc_len (by omega) l a hp⟩
/-- One row of calls. -/
theorem open_row {fuel : Nat} {v : Value} {x : DataW H × List MemPlace} (hf : DataW.trod enc Tryd.prog w base spare held fuel 25 [v] = some x) (hw : ∀ n ∈ x.1.weights Tryd.prog 25, n ≤ reachBytes) :
    ∃ (A : Option Addr) (c : Nat) (l : List Cl), v = .slice A l.length c ∧ Reads w w.heap.size 2 A l.length (flatC l) ∧ l.length ≤ 140737488355328 := by
  rcases open_slice_fields Tryd.underlying25 Tryd.underlying59 (by kernel_rfl) Tryd.cells59 hf with ⟨hcs, _⟩ | ⟨a, len, cap, m, D, Pl, hcs, _, hl, _, hmm, rfl, hi⟩
  · simp at hcs
    subst hcs
    exact ⟨none, 0, [], rfl, Reads.none_, by simp⟩
  · simp at hcs
    subst hcs
    have hml : len ≤ m := by rw [hmm]; split <;> omega
    have h47 : len ≤ 140737488355328 := by
      have h := hw ((len + (m - len)) * 16) (by
        simp [DataW.weights, Tryd.underlying25, Tryd.bytes59])
      have := reach47
      omega
    obtain ⟨l, hl2, hp⟩ := list_of (fun i (e : Cl) => ∀ j, j < 2 → w.cell? (a.add (i * 2 + j)) = (clc e)[j]?) len (fun i hil => by
      obtain ⟨ys, n, _, _, _, hfj⟩ := hi i (by omega)
      obtain ⟨v0, y0, c0, _, t0⟩ := hfj 0 _ rfl
      obtain ⟨v1, y1, c1, _, t1⟩ := hfj 1 _ rfl
      obtain ⟨x0, e0, _, _⟩ := DataW.trod_int Tryd.underlying3 t0
      obtain ⟨x1, e1, _, _⟩ := DataW.trod_int Tryd.underlying3 t1
      simp at e0 e1
      subst e0 e1
      refine ⟨⟨x0, x1⟩, fun j hj => ?_⟩
      match j, hj with
      | 0, _ => exact c0
      | 1, _ => exact c1)
    subst hl2
    exact ⟨some a, cap, l, rfl, reads_of clc_len (by omega) l a hp, h47⟩
set_option maxRecDepth 100000 in
theorem open_calls {r : Reach} {b0 : Nat} {v : Value} {d : DataW H} {p : List MemPlace} (hv : Value.okWide Tryd.prog w r b0 22 v) (h : DataW.Trod enc Tryd.prog w base spare held 22 v d p) (hw : ∀ x ∈ d.weights Tryd.prog 22, x ≤ reachBytes) :
    ∃ (A : Option Addr) (len cap : Nat) (cs : List (List Cl)), v = .slice A len cap ∧ CallsIn w w.heap.size A len cs ∧ ∀ c ∈ cs, c.length ≤ 140737488355328 := by
  obtain ⟨a0, len, cap, rfl⟩ := okWide_slice Tryd.underlying22 hv
  obtain ⟨fuel, hf⟩ := h
  rcases open_slice1 Tryd.underlying22 Tryd.cells25 hf with ⟨hcs, _⟩ | ⟨a, len', cap', m, n, V, D, Pl, hcs, _, hl, _, hmm, hx, hi⟩
  · simp [Value.cells] at hcs
    obtain ⟨rfl, rfl, rfl⟩ := hcs
    exact ⟨none, 0, 0, [], rfl, ⟨rfl, fun i hi => by simp at hi⟩, by simp⟩
  · simp [Value.cells] at hcs
    obtain ⟨rfl, rfl, rfl⟩ := hcs
    have hml : len ≤ m := by rw [hmm]; split <;> omega
    have hd : d = .slice ((List.range len).map D) ((List.range (m - len)).map fun j => D (len + j)) := (Prod.mk.inj hx).1
    subst hd
    obtain ⟨cs, hl2, hp⟩ := list_of (fun i (c : List Cl) => (∃ Ai ci, w.cell? (a.add i) = some (.slice Ai c.length ci) ∧ Reads w w.heap.size 2 Ai c.length (flatC c)) ∧ c.length ≤ 140737488355328) len (fun i hil => by
      obtain ⟨hc, ht⟩ := hi i (by omega)
      obtain ⟨A, c, l, hV, hR, h47⟩ := open_row ht (fun n hn => hw n (by
        unfold DataW.weights
        rw [Tryd.underlying22]
        refine List.mem_cons_of_mem _ (List.mem_append_left _ (weightsAll_mem ?_ n hn))
        exact List.mem_map.2 ⟨i, List.mem_range.2 hil, rfl⟩))
      rw [hV] at hc
      exact ⟨l, ⟨A, c, hc, hR⟩, h47⟩)
    subst hl2
    refine ⟨some a, _, cap, cs, rfl, ⟨rfl, fun i hi' => ?_⟩, fun c hc => ?_⟩
    · obtain ⟨⟨Ai, ci, hc, hR⟩, _⟩ := hp i hi'
      have hb := World.block_lt_of_cell? w _ hc
      rw [block_of_add] at hb
      exact ⟨a, Ai, ci, rfl, hb, hc, hR⟩
    · obtain ⟨i, hi', rfl⟩ := List.getElem_of_mem hc
      exact (hp i hi').2
set_option maxRecDepth 100000 in
theorem open_acts {r : Reach} {b0 : Nat} {v : Value} {d : DataW H} {p : List MemPlace} (hv : Value.okWide Tryd.prog w r b0 23 v) (h : DataW.Trod enc Tryd.prog w base spare held 23 v d p) :
    ∃ (A : Option Addr) (len cap : Nat) (l : List Ac), v = .slice A len cap ∧ l.length = len ∧ Reads w w.heap.size 6 A len (flatA l) := by
  obtain ⟨a0, len, cap, rfl⟩ := okWide_slice Tryd.underlying23 hv
  obtain ⟨fuel, hf⟩ := h
  rcases open_slice_fields Tryd.underlying23 Tryd.underlying57 (by kernel_rfl) Tryd.cells57 hf with ⟨hcs, _⟩ | ⟨a, len', cap', m, D, Pl, hcs, _, hl, _, hmm, _, hi⟩
  · simp [Value.cells] at hcs
    obtain ⟨rfl, rfl, rfl⟩ := hcs
    exact ⟨none, 0, 0, [], rfl, rfl, Reads.none_⟩
  · simp [Value.cells] at hcs
    obtain ⟨rfl, rfl, rfl⟩ := hcs
    have hml : len ≤ m := by rw [hmm]; split <;> omega
    obtain ⟨l, hl2, hp⟩ := list_of (fun i (e : Ac) => ∀ j, j < 6 → w.cell? (a.add (i * 6 + j)) = (acc e)[j]?) len (fun i hil => by
      obtain ⟨ys, n, _, _, _, hfj⟩ := hi i (by omega)
      obtain ⟨v0, y0, c0, _, t0⟩ := hfj 0 _ rfl
      obtain ⟨v1, y1, c1, _, t1⟩ := hfj 1 _ rfl
      obtain ⟨v2, y2, c2, _, t2⟩ := hfj 2 _ rfl
      obtain ⟨v3, y3, c3, _, t3⟩ := hfj 3 _ rfl
      obtain ⟨v4, y4, c4, _, t4⟩ := hfj 4 _ rfl
      obtain ⟨v5, y5, c5, _, t5⟩ := hfj 5 _ rfl
      obtain ⟨x0, e0, _, _⟩ := DataW.trod_int Tryd.underlying3 t0
      obtain ⟨x1, e1, _, _⟩ := DataW.trod_int Tryd.underlying3 t1
      obtain ⟨x2, e2, _, _⟩ := DataW.trod_int Tryd.underlying3 t2
      obtain ⟨x3, e3, _, _⟩ := DataW.trod_int Tryd.underlying3 t3
      obtain ⟨x4, e4, _, _⟩ := DataW.trod_int Tryd.underlying55 t4
      obtain ⟨x5, e5, _, _⟩ := DataW.trod_int Tryd.underlying55 t5
      simp at e0 e1 e2 e3 e4 e5
      subst e0 e1 e2 e3 e4 e5
      refine ⟨⟨x0, x1, x2, x3, x4, x5⟩, fun j hj => ?_⟩
      match j, hj with
      | 0, _ => exact c0
      | 1, _ => exact c1
      | 2, _ => exact c2
      | 3, _ => exact c3
      | 4, _ => exact c4
      | 5, _ => exact c5)
    subst hl2
    exact ⟨some a, _, cap, l, rfl, rfl, reads_of acc_len (by omega) l a hp⟩
end
end Go.Proofs.YthnbbgmajdjgeaaDoor
