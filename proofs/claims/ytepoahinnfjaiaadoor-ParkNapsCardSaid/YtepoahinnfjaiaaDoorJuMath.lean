/-
  The plain law of JudgeChecks is proved here: what is wrong with a list of events, and how many rounds it was, by one plain machine. No program is in sight. Conditions: as each states.
-/
namespace Go.Proofs.YtepoahinnfjaiaaDoor
/-- An event: when, what, thread, value. -/
structure Ev where
  wh : Int
  wt : Int
  th : Int
  va : Int
open Classical in
/-- What is wrong with an event, each thread having said so much. -/
noncomputable def jcode (n : Nat) (S : Nat → Nat) (e : Ev) : Int :=
  if e.wt ≠ 1 ∧ e.wt ≠ 2 then 1
  else if e.th < 0 ∨ (n : Int) ≤ e.th then 2
  else if e.wt ≠ ((S e.th.toNat % 2 + 1 : Nat) : Int) ∨ e.va ≠ ((S e.th.toNat / 2 + 1 : Nat) : Int) then 10
  else if e.wt = 2 ∧ ∃ t, t < n ∧ ((S t : Nat) : Int) < 2 * e.va - 1 then 13
  else 0
def jupd (S : Nat → Nat) (t : Nat) : Nat → Nat := fun j => if j = t then S j + 1 else S j
/-- The first event with which something is wrong, and what: 0 and -1: none. -/
noncomputable def jrun (n : Nat) : Nat → (Nat → Nat) → List Ev → Int × Int
  | _, _, [] => (0, -1)
  | i, S, e :: l => if jcode n S e = 0 then jrun n (i + 1) (jupd S e.th.toNat) l else (jcode n S e, (i : Int))
noncomputable def jall (n : Int) (l : List Ev) : Int × Int := if 1 ≤ n ∧ n ≤ 16 then jrun n.toNat 0 (fun _ => 0) l else (2, -1)
theorem jrun_ok {n i : Nat} {S : Nat → Nat} {e : Ev} {l : List Ev} (h : jcode n S e = 0) : jrun n i S (e :: l) = jrun n (i + 1) (jupd S e.th.toNat) l := by
  simp [jrun, h]
theorem jrun_bad {n i : Nat} {S : Nat → Nat} {e : Ev} {l : List Ev} (h : jcode n S e ≠ 0) : jrun n i S (e :: l) = (jcode n S e, (i : Int)) := by
  simp [jrun, h]
theorem flatMap_get {α β : Type} {f : α → List β} {s : Nat} (hs : ∀ x, (f x).length = s) : ∀ (l : List α) (k j : Nat) (hk : k < l.length), j < s → (l.flatMap f)[k * s + j]? = (f l[k])[j]?
  | [], k, j, hk, _ => by simp at hk
  | x :: l, 0, j, _, hj => by
    rw [List.flatMap_cons, List.getElem?_append_left (by rw [hs]; omega)]
    simp
  | x :: l, k + 1, j, hk, hj => by
    have hk' : k < l.length := by simpa using hk
    have e : (k + 1) * s + j = s + (k * s + j) := by rw [Nat.succ_mul]; omega
    rw [List.flatMap_cons, List.getElem?_append_right (by rw [hs, e]; omega), hs, e, Nat.add_sub_cancel_left, flatMap_get hs l k j hk' hj]
    simp
end Go.Proofs.YtepoahinnfjaiaaDoor
