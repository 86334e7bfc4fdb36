/-
  The plain law of FairIs is proved here: every window holds each thread just if each thread's last pick is never too long ago. Conditions: none.
-/
import Derived.WalkKit
namespace Go.Proofs.YtepoahinnfjaiaaDoor
/-- Where t was picked last among the first k picks; -1: nowhere. -/
def lastI (l : List Int) (t : Int) : Nat → Int
  | 0 => -1
  | k + 1 => if l[k]? = some t then (k : Int) else lastI l t k
theorem lastI_bd (l : List Int) (t : Int) : ∀ k : Nat, -1 ≤ lastI l t k ∧ lastI l t k < k
  | 0 => by simp [lastI]
  | k + 1 => by
    have := lastI_bd l t k
    unfold lastI
    split <;> omega
theorem lastI_at (l : List Int) (t : Int) : ∀ k : Nat, lastI l t k = -1 ∨ ∃ j : Nat, lastI l t k = j ∧ j < k ∧ l[j]? = some t
  | 0 => .inl rfl
  | k + 1 => by
    unfold lastI
    split
    · exact .inr ⟨k, rfl, by omega, by assumption⟩
    · rcases lastI_at l t k with h | ⟨j, h1, h2, h3⟩
      · exact .inl h
      · exact .inr ⟨j, h1, by omega, h3⟩
theorem lastI_ge (l : List Int) (t : Int) : ∀ (k j : Nat), j < k → l[j]? = some t → (j : Int) ≤ lastI l t k
  | 0, j, h, _ => by omega
  | k + 1, j, h, hj => by
    unfold lastI
    split
    · omega
    · by_cases e : j = k
      · subst e; contradiction
      · exact lastI_ge l t k j (by omega) hj
/-- The window that begins at i holds each thread. -/
def WinOk (l : List Int) (n win : Int) (i : Nat) : Prop := ∀ t : Int, 0 ≤ t → t < n → ∃ j : Nat, i ≤ j ∧ (j : Int) < i + win ∧ l[j]? = some t
def AgoOk (l : List Int) (n win : Int) (i : Nat) : Prop := ∀ t : Int, 0 ≤ t → t < n → (i : Int) - lastI l t (i + 1) < win
def FairOk (l : List Int) (n win : Int) : Prop := 0 ≤ n ∧ n ≤ 16 ∧ 1 ≤ win ∧ ∀ i : Nat, i < l.length → AgoOk l n win i
theorem ago_of_win {l : List Int} {n win : Int} (_hw : 1 ≤ win) (h : ∀ i : Nat, (i : Int) + win ≤ l.length → WinOk l n win i) : ∀ i : Nat, i < l.length → AgoOk l n win i := by
  intro i hi t t0 t1
  have b := lastI_bd l t (i + 1)
  by_cases hs : (i : Int) + 1 < win
  · omega
  · obtain ⟨j, j1, j2, j3⟩ := h ((i : Int) + 1 - win).toNat (by omega) t t0 t1
    have := lastI_ge l t (i + 1) j (by omega) j3
    omega
theorem win_of_ago {l : List Int} {n win : Int} (_hw : 1 ≤ win) (h : ∀ i : Nat, i < l.length → AgoOk l n win i) : ∀ i : Nat, (i : Int) + win ≤ l.length → WinOk l n win i := by
  intro i hi t t0 t1
  have b := h ((i : Int) + win - 1).toNat (by omega) t t0 t1
  rcases lastI_at l t (((i : Int) + win - 1).toNat + 1) with e | ⟨j, e, j1, j2⟩
  · omega
  · exact ⟨j, by omega, by omega, j2⟩
/-- Distinct threads, all from 0 to n - 1: n of them just if each is there. -/
theorem all_of_len : ∀ (n : Nat) (ks : List Int), ks.Nodup → (∀ t ∈ ks, 0 ≤ t ∧ t < n) → n ≤ ks.length → ∀ t : Int, 0 ≤ t → t < n → t ∈ ks
  | 0, ks, _, _, _, t, h0, h1 => by omega
  | n + 1, ks, hd, hr, hl, t, h0, h1 => by
    by_cases hn : (n : Int) ∈ ks
    · have h := all_of_len n (ks.erase n) (hd.erase _) (fun x hx => by
        have hx' := List.mem_of_mem_erase hx
        have := hr x hx'
        have hne : x ≠ n := fun e => by subst e; exact (List.Nodup.not_mem_erase hd) hx
        omega) (by rw [List.length_erase_of_mem hn]; omega)
      by_cases e : t = n
      · subst e; exact hn
      · exact List.mem_of_mem_erase (h t h0 (by omega))
    · exfalso
      have key : ∀ (m : Nat) (ks : List Int), ks.Nodup → (∀ t ∈ ks, 0 ≤ t ∧ t < m) → ks.length ≤ m := by
        intro m
        induction m with
        | zero =>
          intro ks _ h
          cases ks with
          | nil => simp
          | cons x xs => have := h x (by simp); omega
        | succ m ih =>
          intro ks hd h
          have h1 := ih (ks.erase m) (hd.erase _) (fun x hx => by
            have := h x (List.mem_of_mem_erase hx)
            have hne : x ≠ m := fun e => by subst e; exact (List.Nodup.not_mem_erase hd) hx
            omega)
          have := List.length_erase (a := (m : Int)) (l := ks)
          split at this <;> omega
      have := key n ks hd (fun x hx => by
        have := hr x hx
        have hne : x ≠ n := fun e => by subst e; exact hn hx
        omega)
      omega
theorem len_of_all : ∀ (n : Nat) (ks : List Int), ks.Nodup → (∀ t : Int, 0 ≤ t → t < n → t ∈ ks) → n ≤ ks.length
  | 0, _, _, _ => by omega
  | n + 1, ks, hd, h => by
    have hn := h n (by omega) (by omega)
    have := len_of_all n (ks.erase n) (hd.erase _) (fun t h0 h1 => (List.mem_erase_of_ne (by omega)).2 (h t h0 (by omega)))
    rw [List.length_erase_of_mem hn] at this
    have hpos : 0 < ks.length := List.length_pos_of_mem hn
    omega
open Classical in
noncomputable def fairB (l : List Int) (n win : Int) : Bool := decide (FairOk l n win)
theorem fairB_t {l : List Int} {n win : Int} (h : FairOk l n win) : fairB l n win = true := by simp [fairB, h]
theorem fairB_f {l : List Int} {n win : Int} (h : ¬ FairOk l n win) : fairB l n win = false := by simp [fairB, h]
end Go.Proofs.YtepoahinnfjaiaaDoor
