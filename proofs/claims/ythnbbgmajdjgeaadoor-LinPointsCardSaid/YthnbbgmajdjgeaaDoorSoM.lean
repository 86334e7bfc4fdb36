/- Plain: Go's stable sort (blocks of twenty by insertion, then SymMerge) as one function on arrays, over a comparison 'lt' that need not be an order: no program in sight. Conditions: none. -/
import Derived.Shelf.SlSortFuncK.SWK
namespace Go.Proofs.YthnbbgmajdjgeaaDoor
open Go.Sort
variable {α : Type} [Inhabited α]

/-- swapRange: i goes up, n are left. -/
def swpR (a b : Nat) : Nat → Nat → Array α → Array α
  | _, 0, d => d
  | i, n + 1, d => swpR a b (i + 1) n (swp d (a + i) (b + i))

/-- rotate's loop, with a bound on its rounds. -/
def rotL (m : Nat) : Nat → Nat → Nat → Array α → Array α
  | 0, _, _, d => d
  | f + 1, i, j, d =>
    if i = j then swpR (m - i) m 0 i d
    else if j < i then rotL m f (i - j) j (swpR (m - i) m 0 j d)
    else rotL m f i (j - i) (swpR (m - i) (m + j - i) 0 i d)

def rot (a m b : Nat) (d : Array α) : Array α := rotL m (b - a) (m - a) (b - m) d

/-- Binary search: the first place where p fails, if p holds up to it. -/
def bsr (p : Nat → Bool) : Nat → Nat → Nat → Nat
  | 0, i, _ => i
  | f + 1, i, j => if i < j then (if p ((i + j) / 2) then bsr p f ((i + j) / 2 + 1) j else bsr p f i ((i + j) / 2)) else i

def mvU : Nat → Nat → Array α → Array α
  | _, 0, d => d
  | k, n + 1, d => mvU (k + 1) n (swp d k (k + 1))

def mvD : Nat → Nat → Array α → Array α
  | _, 0, d => d
  | k, n + 1, d => mvD (k - 1) n (swp d k (k - 1))

/-- Where symMerge's search ends. -/
def symS (lt : α → α → Bool) (a m b : Nat) (d : Array α) : Nat :=
  bsr (fun c => !lt d[(a + b) / 2 + m - 1 - c]! d[c]!) (b - a) (if (a + b) / 2 < m then (a + b) / 2 + m - b else a) (if (a + b) / 2 < m then (a + b) / 2 else m)

def symR (a m b s : Nat) (d : Array α) : Array α :=
  if s < m ∧ m < (a + b) / 2 + m - s then rot s m ((a + b) / 2 + m - s) d else d

def symM (lt : α → α → Bool) : Nat → Nat → Nat → Nat → Array α → Array α
  | 0, _, _, _, d => d
  | f + 1, a, m, b, d =>
    if m = a + 1 then mvU a (bsr (fun h => lt d[h]! d[a]!) (b - m) m b - 1 - a) d
    else if b = m + 1 then mvD m (m - bsr (fun h => !lt d[m]! d[h]!) (m - a) a m) d
    else
      (fun s => (fun d2 => if (a + b) / 2 < (a + b) / 2 + m - s ∧ (a + b) / 2 + m - s < b then symM lt f ((a + b) / 2) ((a + b) / 2 + m - s) b d2 else d2)
        (if a < s ∧ s < (a + b) / 2 then symM lt f a s ((a + b) / 2) (symR a m b s d) else symR a m b s d)) (symS lt a m b d)

/-- The blocks of twenty. -/
def stIns (lt : α → α → Bool) (n : Nat) : Nat → Nat → Array α → Array α
  | 0, a, d => insertionSort lt d a n
  | f + 1, a, d => if a + 20 ≤ n then stIns lt n f (a + 20) (insertionSort lt d a (a + 20)) else insertionSort lt d a n

/-- One pass of merges. -/
def mrg (lt : α → α → Bool) (n s : Nat) : Nat → Nat → Array α → Array α
  | 0, _, d => d
  | f + 1, a, d => if a + 2 * s ≤ n then mrg lt n s f (a + 2 * s) (symM lt n a (a + s) (a + 2 * s) d) else if a + s < n then symM lt n a (a + s) n d else d

def pas (lt : α → α → Bool) (n : Nat) : Nat → Nat → Array α → Array α
  | 0, _, d => d
  | f + 1, s, d => if s < n then pas lt n f (2 * s) (mrg lt n s (n + 1) 0 d) else d

/-- The stable sort. -/
def stbl (lt : α → α → Bool) (d : Array α) : Array α := pas lt d.size d.size 20 (stIns lt d.size d.size 0 d)

theorem size_swpR (a b : Nat) : ∀ (n i : Nat) (d : Array α), (swpR a b i n d).size = d.size
  | 0, _, _ => rfl
  | n + 1, i, d => by rw [swpR, size_swpR a b n, size_swp]

theorem size_rotL (m : Nat) : ∀ (f i j : Nat) (d : Array α), (rotL m f i j d).size = d.size
  | 0, _, _, _ => rfl
  | f + 1, i, j, d => by
    rw [rotL]
    by_cases h : i = j
    · rw [if_pos h, size_swpR]
    · rw [if_neg h]
      by_cases h2 : j < i
      · rw [if_pos h2, size_rotL m f, size_swpR]
      · rw [if_neg h2, size_rotL m f, size_swpR]

theorem size_rot (a m b : Nat) (d : Array α) : (rot a m b d).size = d.size := size_rotL m _ _ _ d

theorem size_mvU : ∀ (n k : Nat) (d : Array α), (mvU k n d).size = d.size
  | 0, _, _ => rfl
  | n + 1, k, d => by rw [mvU, size_mvU n, size_swp]

theorem size_mvD : ∀ (n k : Nat) (d : Array α), (mvD k n d).size = d.size
  | 0, _, _ => rfl
  | n + 1, k, d => by rw [mvD, size_mvD n, size_swp]

theorem size_symR (a m b s : Nat) (d : Array α) : (symR a m b s d).size = d.size := by
  unfold symR
  by_cases h : s < m ∧ m < (a + b) / 2 + m - s
  · rw [if_pos h, size_rot]
  · rw [if_neg h]

theorem size_symM (lt : α → α → Bool) : ∀ (f a m b : Nat) (d : Array α), (symM lt f a m b d).size = d.size
  | 0, _, _, _, _ => rfl
  | f + 1, a, m, b, d => by
    rw [symM]
    by_cases h : m = a + 1
    · rw [if_pos h, size_mvU]
    · rw [if_neg h]
      by_cases h2 : b = m + 1
      · rw [if_pos h2, size_mvD]
      · rw [if_neg h2]
        generalize symS lt a m b d = s
        have e : (if a < s ∧ s < (a + b) / 2 then symM lt f a s ((a + b) / 2) (symR a m b s d) else symR a m b s d).size = d.size := by
          by_cases h3 : a < s ∧ s < (a + b) / 2
          · rw [if_pos h3, size_symM lt f, size_symR]
          · rw [if_neg h3, size_symR]
        show (if _ then symM lt f ((a + b) / 2) ((a + b) / 2 + m - s) b (if a < s ∧ s < (a + b) / 2 then symM lt f a s ((a + b) / 2) (symR a m b s d) else symR a m b s d) else _).size = _
        by_cases h4 : (a + b) / 2 < (a + b) / 2 + m - s ∧ (a + b) / 2 + m - s < b
        · rw [if_pos h4, size_symM lt f, e]
        · rw [if_neg h4, e]

theorem bsr_bounds (p : Nat → Bool) : ∀ (f i j : Nat), i ≤ j → i ≤ bsr p f i j ∧ bsr p f i j ≤ j
  | 0, i, j, h => ⟨Nat.le_refl _, h⟩
  | f + 1, i, j, h => by
    rw [bsr]
    by_cases hij : i < j
    · rw [if_pos hij]
      cases hp : p ((i + j) / 2) with
      | true =>
        have := bsr_bounds p f ((i + j) / 2 + 1) j (by omega)
        simp only [if_true]
        omega
      | false =>
        have := bsr_bounds p f i ((i + j) / 2) (by omega)
        simp only [Bool.false_eq_true, if_false]
        omega
    · rw [if_neg hij]; omega

theorem symS_bounds (lt : α → α → Bool) (a m b : Nat) (d : Array α) (h1 : a < m) (h2 : m < b) :
    (if (a + b) / 2 < m then (a + b) / 2 + m - b else a) ≤ symS lt a m b d ∧ symS lt a m b d ≤ (if (a + b) / 2 < m then (a + b) / 2 else m) := by
  unfold symS
  refine bsr_bounds _ _ _ _ ?_
  by_cases h : (a + b) / 2 < m
  · rw [if_pos h, if_pos h]; omega
  · rw [if_neg h, if_neg h]; omega

theorem size_insInner (lt : α → α → Bool) (a : Nat) : ∀ (j : Nat) (d : Array α), (insInner lt a j d).size = d.size
  | 0, _ => by rw [insInner]
  | j + 1, d => by
    rw [insInner]
    cases h : (decide (j + 1 > a) && lt d[j + 1]! d[j]!) with
    | true => rw [if_pos rfl, size_insInner lt a j, size_swp]
    | false => rw [if_neg (by simp)]

theorem size_insOuter (lt : α → α → Bool) (a b : Nat) : ∀ (f i : Nat) (d : Array α), b - i ≤ f → (insOuter lt a b i d).size = d.size
  | 0, i, d, h => by rw [insOuter_stop lt a b i d (by omega)]
  | f + 1, i, d, h => by
    by_cases hi : i < b
    · rw [insOuter_go lt a b i d hi, size_insOuter lt a b f (i + 1) _ (by omega), size_insInner]
    · rw [insOuter_stop lt a b i d hi]

theorem size_ins (lt : α → α → Bool) (d : Array α) (a b : Nat) : (insertionSort lt d a b).size = d.size := size_insOuter lt a b b (a + 1) d (by omega)

theorem size_mrg (lt : α → α → Bool) (n s : Nat) : ∀ (f a : Nat) (d : Array α), (mrg lt n s f a d).size = d.size
  | 0, _, _ => rfl
  | f + 1, a, d => by
    rw [mrg]
    by_cases h : a + 2 * s ≤ n
    · rw [if_pos h, size_mrg lt n s f, size_symM]
    · rw [if_neg h]
      by_cases h2 : a + s < n
      · rw [if_pos h2, size_symM]
      · rw [if_neg h2]

theorem size_stIns (lt : α → α → Bool) (n : Nat) : ∀ (f a : Nat) (d : Array α), (stIns lt n f a d).size = d.size
  | 0, _, _ => by rw [stIns, size_ins]
  | f + 1, a, d => by
    rw [stIns]
    by_cases h : a + 20 ≤ n
    · rw [if_pos h, size_stIns lt n f, size_ins]
    · rw [if_neg h, size_ins]

theorem size_pas (lt : α → α → Bool) (n : Nat) : ∀ (f s : Nat) (d : Array α), (pas lt n f s d).size = d.size
  | 0, _, _ => rfl
  | f + 1, s, d => by
    rw [pas]
    by_cases h : s < n
    · rw [if_pos h, size_pas lt n f, size_mrg]
    · rw [if_neg h]

theorem size_stbl (lt : α → α → Bool) (d : Array α) : (stbl lt d).size = d.size := by rw [stbl, size_pas, size_stIns]

end Go.Proofs.YthnbbgmajdjgeaaDoor
