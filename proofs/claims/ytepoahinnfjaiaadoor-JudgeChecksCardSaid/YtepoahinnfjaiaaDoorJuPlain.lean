/-
  The plain law of JudgeChecks, part two: how many rounds all went through, and how many anybody came to, told by counts and told by what each thread said in the end. Conditions: nothing is wrong with the events.
-/
import Derived.Test.YtepoahinnfjaiaaDoorJuMath
namespace Go.Proofs.YtepoahinnfjaiaaDoor
/-- What each thread said in the end. -/
def jfin (S : Nat → Nat) (l : List Ev) : Nat → Nat := l.foldl (fun S e => jupd S e.th.toNat) S
def anyOf (l : List Ev) : Int := l.foldl (fun a e => max a e.va) 0
theorem jcode_zero {n : Nat} {S : Nat → Nat} {e : Ev} (h : jcode n S e = 0) :
    (e.wt = 1 ∨ e.wt = 2) ∧ 0 ≤ e.th ∧ e.th < n ∧ e.wt = ((S e.th.toNat % 2 + 1 : Nat) : Int) ∧ e.va = ((S e.th.toNat / 2 + 1 : Nat) : Int) := by
  unfold jcode at h
  by_cases h1 : e.wt ≠ 1 ∧ e.wt ≠ 2
  · rw [if_pos h1] at h; omega
  · rw [if_neg h1] at h
    by_cases h2 : e.th < 0 ∨ (n : Int) ≤ e.th
    · rw [if_pos h2] at h; omega
    · rw [if_neg h2] at h
      by_cases h3 : e.wt ≠ ((S e.th.toNat % 2 + 1 : Nat) : Int) ∨ e.va ≠ ((S e.th.toNat / 2 + 1 : Nat) : Int)
      · rw [if_pos h3] at h; omega
      · omega
/-- Nothing is wrong with the events, from S on. -/
def Valid (n : Nat) : (Nat → Nat) → List Ev → Prop
  | _, [] => True
  | S, e :: l => jcode n S e = 0 ∧ Valid n (jupd S e.th.toNat) l
theorem valid_of {n : Nat} : ∀ {l : List Ev} {i : Nat} {S : Nat → Nat}, (jrun n i S l).1 = 0 → Valid n S l
  | [], _, _, _ => trivial
  | e :: l, i, S, h => by
    by_cases hc : jcode n S e = 0
    · exact ⟨hc, valid_of (by rwa [jrun_ok hc] at h)⟩
    · rw [jrun_bad hc] at h; exact absurd h hc

/-- The least of what the threads have. -/
def IsMin (n : Nat) (S : Nat → Nat) (a : Int) : Prop := (∀ t, t < n → a ≤ ((S t / 2 : Nat) : Int)) ∧ ∃ t, t < n ∧ a = ((S t / 2 : Nat) : Int)

theorem Valid.vals {n : Nat} : ∀ {l : List Ev} {S : Nat → Nat}, Valid n S l → ∀ e ∈ l, 1 ≤ e.va
  | [], _, _, e, he => by simp at he
  | a :: l, S, h, e, he => by
    rcases List.mem_cons.1 he with rfl | he
    · have := (jcode_zero h.1).2.2.2.2; omega
    · exact Valid.vals h.2 e he
/-- How many said that they went, and that they came or went, of a round. -/
def c2 (v : Int) : List Ev → Nat
  | [] => 0
  | e :: l => (if e.va = v ∧ e.wt = 2 then 1 else 0) + c2 v l
def c1 (v : Int) : List Ev → Nat
  | [] => 0
  | e :: l => (if e.va = v then 1 else 0) + c1 v l
def cI (S : Nat → Nat) (v : Int) : Nat → Nat
  | 0 => 0
  | n + 1 => cI S v n + (if v ≤ ((S n / 2 : Nat) : Int) then 1 else 0)
theorem cI_same {S S' : Nat → Nat} {v : Int} : ∀ {n : Nat}, (∀ t, t < n → S t = S' t) → cI S v n = cI S' v n
  | 0, _ => rfl
  | n + 1, h => by
    unfold cI
    rw [cI_same (fun t ht => h t (by omega)), h n (by omega)]
theorem cI_upd {S : Nat → Nat} {v : Int} {t : Nat} : ∀ {n : Nat}, t < n → cI (jupd S t) v n = cI S v n + (if v = ((S t / 2 + 1 : Nat) : Int) ∧ S t % 2 = 1 then 1 else 0)
  | 0, h => by omega
  | n + 1, h => by
    unfold cI
    by_cases hn : t = n
    · subst hn
      rw [cI_same (S := jupd S t) (S' := S) (fun u hu => by unfold jupd; rw [if_neg (by omega)])]
      have e : jupd S t t = S t + 1 := by simp [jupd]
      rw [e]
      by_cases h1 : v = ((S t / 2 + 1 : Nat) : Int) ∧ S t % 2 = 1
      · rw [if_pos h1, if_pos (by omega), if_neg (by omega)]
      · rw [if_neg h1]
        by_cases h2 : v ≤ ((S t / 2 : Nat) : Int)
        · rw [if_pos h2, if_pos (by omega)]
        · rw [if_neg h2, if_neg (by omega)]
    · have e : jupd S t n = S n := by unfold jupd; rw [if_neg (by omega)]
      rw [cI_upd (by omega), e]
      omega
theorem c2_cI {n : Nat} {v : Int} : ∀ {l : List Ev} {S : Nat → Nat}, Valid n S l → c2 v l + cI S v n = cI (jfin S l) v n
  | [], S, _ => by simp [c2, jfin]
  | e :: l, S, h => by
    have hz := jcode_zero h.1
    have ih := c2_cI (v := v) h.2
    have hj : jfin S (e :: l) = jfin (jupd S e.th.toNat) l := rfl
    have e2 : c2 v (e :: l) = (if e.va = v ∧ e.wt = 2 then 1 else 0) + c2 v l := rfl
    rw [hj, ← ih, cI_upd (by omega), e2]
    by_cases h1 : e.va = v ∧ e.wt = 2
    · rw [if_pos h1, if_pos (by omega)]; omega
    · rw [if_neg h1, if_neg (by omega)]; omega
theorem cI_le (S : Nat → Nat) (v : Int) : ∀ n, cI S v n ≤ n
  | 0 => Nat.le_refl _
  | n + 1 => by have := cI_le S v n; unfold cI; split <;> omega
theorem cI_all {S : Nat → Nat} {v : Int} : ∀ {n : Nat}, cI S v n = n ↔ ∀ t, t < n → v ≤ ((S t / 2 : Nat) : Int)
  | 0 => by simp [cI]
  | n + 1 => by
    have hle := cI_le S v n
    have ih := cI_all (S := S) (v := v) (n := n)
    unfold cI
    constructor
    · intro h t ht
      by_cases h1 : v ≤ ((S n / 2 : Nat) : Int)
      · rw [if_pos h1] at h
        by_cases htn : t = n
        · subst htn; exact h1
        · exact ih.1 (by omega) t (by omega)
      · rw [if_neg h1] at h; omega
    · intro h
      rw [ih.2 (fun t ht => h t (by omega)), if_pos (h n (by omega))]
theorem cI_zero {v : Int} (hv : 1 ≤ v) : ∀ n, cI (fun _ => 0) v n = 0
  | 0 => rfl
  | n + 1 => by unfold cI; rw [cI_zero hv n, if_neg (by simp; omega)]
/-- All went through round v just where v is no more than the least. -/
theorem c2_all {n : Nat} {l : List Ev} {a v : Int} (h : Valid n (fun _ => 0) l) (hm : IsMin n (jfin (fun _ => 0) l) a) (hv : 1 ≤ v) : c2 v l = n ↔ v ≤ a := by
  have h1 := c2_cI (v := v) h
  rw [cI_zero hv n, Nat.add_zero] at h1
  rw [h1, cI_all]
  constructor
  · intro hh
    obtain ⟨t, ht, e⟩ := hm.2
    rw [e]; exact hh t ht
  · intro hh t ht
    have := hm.1 t ht
    omega
theorem foldmax {l : List Ev} : ∀ {a : Int}, a ≤ l.foldl (fun a e => max a e.va) a ∧ (∀ e ∈ l, e.va ≤ l.foldl (fun a e => max a e.va) a) ∧ (l.foldl (fun a e => max a e.va) a = a ∨ ∃ e ∈ l, e.va = l.foldl (fun a e => max a e.va) a) := by
  induction l with
  | nil => intro a; simp
  | cons x l ih =>
    intro a
    have h := ih (a := max a x.va)
    simp only [List.foldl_cons]
    refine ⟨by omega, fun e he => ?_, ?_⟩
    · rcases List.mem_cons.1 he with rfl | he
      · omega
      · exact h.2.1 e he
    · rcases h.2.2 with h2 | ⟨e, he, h2⟩
      · by_cases hax : a ≤ x.va
        · exact .inr ⟨x, List.mem_cons_self .., by omega⟩
        · exact .inl (by omega)
      · exact .inr ⟨e, List.mem_cons_of_mem _ he, h2⟩
theorem jfin_le {l : List Ev} : ∀ {S : Nat → Nat} (t : Nat), S t ≤ jfin S l t := by
  induction l with
  | nil => intro S t; exact Nat.le_refl _
  | cons e l ih =>
    intro S t
    have h := ih (S := jupd S e.th.toNat) t
    have hj : jfin S (e :: l) = jfin (jupd S e.th.toNat) l := rfl
    rw [hj]
    unfold jupd at h
    split at h <;> (unfold jupd; omega)
theorem cover {n : Nat} {v : Int} {t : Nat} : ∀ {l : List Ev} {S : Nat → Nat}, Valid n S l → (((S t + 1) / 2 : Nat) : Int) < v → v ≤ (((jfin S l t + 1) / 2 : Nat) : Int) → ∃ e ∈ l, e.va = v
  | [], S, _, h1, h2 => by simp only [jfin, List.foldl_nil] at h2; omega
  | e :: l, S, h, h1, h2 => by
    have hz := jcode_zero h.1
    have hj : jfin S (e :: l) = jfin (jupd S e.th.toNat) l := rfl
    rw [hj] at h2
    by_cases hv : e.va = v
    · exact ⟨e, List.mem_cons_self .., hv⟩
    · have hup : (((jupd S e.th.toNat t + 1) / 2 : Nat) : Int) < v := by
        unfold jupd
        by_cases ht : t = e.th.toNat
        · rw [if_pos ht]
          rw [← ht] at hz
          omega
        · rw [if_neg ht]; exact h1
      obtain ⟨e', he', hv'⟩ := cover h.2 hup h2
      exact ⟨e', List.mem_cons_of_mem _ he', hv'⟩
theorem bound {n : Nat} : ∀ {l : List Ev} {S : Nat → Nat}, Valid n S l → ∀ e ∈ l, ∃ t, t < n ∧ e.va ≤ (((jfin S l t + 1) / 2 : Nat) : Int)
  | [], _, _, e, he => by simp at he
  | a :: l, S, h, e, he => by
    have hj : jfin S (a :: l) = jfin (jupd S a.th.toNat) l := rfl
    rw [hj]
    rcases List.mem_cons.1 he with rfl | he
    · have hz := jcode_zero h.1
      refine ⟨e.th.toNat, by omega, ?_⟩
      have hle := jfin_le (l := l) (S := jupd S e.th.toNat) e.th.toNat
      have hu : jupd S e.th.toNat e.th.toNat = S e.th.toNat + 1 := by simp [jupd]
      rw [hu] at hle
      omega
    · exact bound h.2 e he
theorem c1_zero {v : Int} : ∀ {l : List Ev}, c1 v l = 0 ↔ ∀ e ∈ l, e.va ≠ v
  | [] => by simp [c1]
  | e :: l => by
    have ih := c1_zero (v := v) (l := l)
    unfold c1
    constructor
    · intro h x hx
      by_cases he : e.va = v
      · rw [if_pos he] at h; omega
      · rw [if_neg he] at h
        rcases List.mem_cons.1 hx with rfl | hx
        · exact he
        · exact ih.1 (by omega) x hx
    · intro h
      rw [if_neg (h e (List.mem_cons_self ..)), ih.2 (fun x hx => h x (List.mem_cons_of_mem _ hx))]
/-- Nobody came to round v just where v is more than all rounds. -/
theorem c1_none {n : Nat} {l : List Ev} {v : Int} (h : Valid n (fun _ => 0) l) (hv : 1 ≤ v) : c1 v l = 0 ↔ anyOf l < v := by
  have hf := foldmax (l := l) (a := 0)
  rw [c1_zero]
  constructor
  · intro hh
    refine Int.not_le.1 fun hle => ?_
    rcases hf.2.2 with h0 | ⟨e, he, h0⟩
    · unfold anyOf at hle; omega
    · obtain ⟨t, ht, hb⟩ := bound h e he
      obtain ⟨e', he', hv'⟩ := cover (t := t) (v := v) h (by simp; omega) (by unfold anyOf at hle; omega)
      exact hh e' he' hv'
  · intro hh e he hev
    have := hf.2.1 e he
    unfold anyOf at hh
    omega
theorem min_le_any {n : Nat} {l : List Ev} {a : Int} (h : Valid n (fun _ => 0) l) (hm : IsMin n (jfin (fun _ => 0) l) a) : 0 ≤ a ∧ a ≤ anyOf l := by
  obtain ⟨t, ht, e⟩ := hm.2
  have hf := foldmax (l := l) (a := 0)
  refine ⟨by omega, ?_⟩
  by_cases hu : 1 ≤ (((jfin (fun _ => 0) l t + 1) / 2 : Nat) : Int)
  · obtain ⟨e', he', hv'⟩ := cover (t := t) h (v := (((jfin (fun _ => 0) l t + 1) / 2 : Nat) : Int)) (by simp; omega) (Int.le_refl _)
    have := hf.2.1 e' he'
    unfold anyOf
    omega
  · unfold anyOf; omega
theorem min_unique {n : Nat} {S : Nat → Nat} {a b : Int} (h1 : IsMin n S a) (h2 : IsMin n S b) : a = b := by
  obtain ⟨t, ht, e⟩ := h1.2
  obtain ⟨u, hu, f⟩ := h2.2
  have := h1.1 u hu
  have := h2.1 t ht
  omega
end Go.Proofs.YtepoahinnfjaiaaDoor
