/-
  ParkNaps in plain terms: who sleeps where, and since when; what falling asleep, waking and poking make of it. Conditions: as each states.
-/
namespace Go.Proofs.YtepoahinnfjaiaaDoor
structure Sl where
  th : Int
  ce : Int
  si : Nat
/-- What holds of those who sleep, at a clock, of n threads. -/
structure LotOk (n clk : Nat) (L : List Sl) : Prop where
  asc : L.Pairwise (fun a b => a.si < b.si)
  dis : L.Pairwise (fun a b => a.th ≠ b.th)
  rng : ∀ e ∈ L, 1 ≤ e.si ∧ e.si ≤ clk ∧ 0 ≤ e.th ∧ e.th < n ∧ 0 ≤ e.ce ∧ e.ce < 300
  len : L.length ≤ clk
def sinceF (L : List Sl) (t : Int) : Option Int := (L.find? (fun e => e.th = t)).map fun e => (e.si : Int)
def hasT (L : List Sl) (t : Int) : Prop := ∃ e ∈ L, e.th = t
instance (L : List Sl) (t : Int) : Decidable (hasT L t) := inferInstanceAs (Decidable (∃ e ∈ L, e.th = t))
theorem snoc_ind {α : Type} {P : List α → Prop} (h0 : P []) (h1 : ∀ l x, P l → P (l ++ [x])) (l : List α) : P l := by
  have h : ∀ l : List α, P l.reverse := fun l => by
    induction l with
    | nil => simpa using h0
    | cons x l ih => rw [List.reverse_cons]; exact h1 _ _ ih
  simpa using h l.reverse
theorem sinceF_none {L : List Sl} {t : Int} (h : ¬ hasT L t) : sinceF L t = none := by
  unfold sinceF
  rw [List.find?_eq_none.2]
  · rfl
  · intro e he hc
    exact h ⟨e, he, by simpa using hc⟩
theorem sinceF_mem {L : List Sl} (hd : L.Pairwise (fun a b => a.th ≠ b.th)) {e : Sl} (he : e ∈ L) : sinceF L e.th = some (e.si : Int) := by
  unfold sinceF
  induction L with
  | nil => simp at he
  | cons x L ih =>
    obtain ⟨h1, h2⟩ := List.pairwise_cons.1 hd
    rcases List.mem_cons.1 he with rfl | he
    · simp
    · rw [List.find?_cons_of_neg (by simpa using h1 e he)]
      exact ih h2 he
theorem sinceF_inv {L : List Sl} {t s : Int} (h : sinceF L t = some s) : ∃ e ∈ L, e.th = t ∧ (e.si : Int) = s := by
  unfold sinceF at h
  obtain ⟨e, he, hs⟩ := Option.map_eq_some_iff.1 h
  exact ⟨e, List.mem_of_find?_eq_some he, by simpa using List.find?_some he, hs⟩
theorem sinceF_del (L : List Sl) (p : Int → Bool) (t : Int) : sinceF (L.filter fun e => p e.th) t = if p t then sinceF L t else none := by
  by_cases hp : p t
  · rw [if_pos hp]
    unfold sinceF
    congr 1
    induction L with
    | nil => rfl
    | cons x L ih =>
      by_cases hx : p x.th
      · rw [List.filter_cons_of_pos (by simpa using hx)]
        by_cases ht : x.th = t
        · rw [List.find?_cons_of_pos (by simpa using ht), List.find?_cons_of_pos (by simpa using ht)]
        · rw [List.find?_cons_of_neg (by simpa using ht), List.find?_cons_of_neg (by simpa using ht), ih]
      · rw [List.filter_cons_of_neg (by simpa using hx), ih, List.find?_cons_of_neg]
        simp only [decide_eq_true_eq]
        intro e; subst e; exact hx hp
  · rw [if_neg hp]
    refine sinceF_none ?_
    rintro ⟨e, he, rfl⟩
    exact hp (List.mem_filter.1 he).2
theorem LotOk.filter {n clk : Nat} {L : List Sl} (h : LotOk n clk L) (p : Sl → Bool) : LotOk n clk (L.filter p) :=
  ⟨h.asc.filter p, h.dis.filter p, fun e he => h.rng e (List.mem_filter.1 he).1, Nat.le_trans (List.length_filter_le _ _) h.len⟩
theorem LotOk.snoc {n clk : Nat} {L : List Sl} (h : LotOk n clk L) {t c : Int} (h0 : 0 ≤ t) (h1 : t < n) (h2 : 0 ≤ c) (h3 : c < 300) (hn : ¬ hasT L t) : LotOk n (clk + 1) (L ++ [⟨t, c, clk + 1⟩]) := by
  refine ⟨List.pairwise_append.2 ⟨h.asc, List.pairwise_singleton _ _, fun a ha b hb => ?_⟩, List.pairwise_append.2 ⟨h.dis, List.pairwise_singleton _ _, fun a ha b hb => ?_⟩, fun e he => ?_, by simpa using h.len⟩
  · rw [List.mem_singleton.1 hb]; have := (h.rng a ha).2.1; show a.si < clk + 1; omega
  · rw [List.mem_singleton.1 hb]; exact fun e => hn ⟨a, ha, e⟩
  · rcases List.mem_append.1 he with he | he
    · obtain ⟨a, b, c⟩ := h.rng e he; exact ⟨a, by omega, c⟩
    · rw [List.mem_singleton.1 he]; exact ⟨by simp, by simp, h0, h1, h2, h3⟩
theorem LotOk.nil (n : Nat) : LotOk n 0 [] := ⟨List.Pairwise.nil, List.Pairwise.nil, fun e he => by simp at he, Nat.le_refl _⟩
/-- Those that sleep at a cell. -/
def atL (c : Int) (L : List Sl) : List Int := (L.filter fun e => e.ce = c).map (·.th)
/-- One who is looked at by a waking of at most m at cell c. -/
def wkS (c m : Int) (r : List Sl × List Int) (e : Sl) : List Sl × List Int := if e.ce = c ∧ (r.2.length : Int) < m then (r.1, r.2 ++ [e.th]) else (r.1 ++ [e], r.2)
def wk (c m : Int) (L : List Sl) : List Sl × List Int := L.foldl (wkS c m) ([], [])
theorem wk_snoc (c m : Int) (L : List Sl) (e : Sl) : wk c m (L ++ [e]) = wkS c m (wk c m L) e := by simp [wk]
theorem wk_out (c m : Int) (L : List Sl) : (wk c m L).2 = (atL c L).take m.toNat := by
  refine snoc_ind (P := fun L => (wk c m L).2 = (atL c L).take m.toNat) (by simp [wk, atL]) (fun L e ih => ?_) L
  · show (wk c m (L ++ [e])).2 = (atL c (L ++ [e])).take m.toNat
    rw [wk_snoc, wkS]
    have ha : atL c (L ++ [e]) = atL c L ++ (if e.ce = c then [e.th] else []) := by
      unfold atL
      rw [List.filter_append, List.map_append]
      by_cases he : e.ce = c <;> simp [he]
    rw [ha]
    have hlen : (wk c m L).2.length = min m.toNat (atL c L).length := by rw [ih, List.length_take]
    split
    · rename_i h
      rw [if_pos h.1]
      show (wk c m L).2 ++ [e.th] = _
      have h2 : (atL c L).length < m.toNat := by omega
      rw [List.take_of_length_le (by simp; omega), ih, List.take_of_length_le (by omega)]
    · rename_i h
      show (wk c m L).2 = _
      by_cases he : e.ce = c
      · rw [if_pos he]
        have h2 : m.toNat ≤ (atL c L).length := by
          have : ¬ ((wk c m L).2.length : Int) < m := fun hh => h ⟨he, hh⟩
          omega
        rw [List.take_append_of_le_length h2, ih]
      · rw [if_neg he, List.append_nil, ih]
theorem atL_th {c : Int} {L : List Sl} {t : Int} (h : t ∈ atL c L) : ∃ e ∈ L, e.th = t := by
  unfold atL at h
  obtain ⟨e, he, rfl⟩ := List.mem_map.1 h
  exact ⟨e, (List.mem_filter.1 he).1, rfl⟩
theorem wk_kept (c m : Int) (L : List Sl) (hd : L.Pairwise (fun a b => a.th ≠ b.th)) : (wk c m L).1 = L.filter fun e => !((wk c m L).2.contains e.th) := by
  refine snoc_ind (P := fun L => L.Pairwise (fun a b => a.th ≠ b.th) → (wk c m L).1 = L.filter fun e => !((wk c m L).2.contains e.th)) (fun _ => by simp [wk]) (fun L e ih hd => ?_) L hd
  · show (wk c m (L ++ [e])).1 = (L ++ [e]).filter fun a => !((wk c m (L ++ [e])).2.contains a.th)
    obtain ⟨h1, _, h3⟩ := List.pairwise_append.1 hd
    have ih' := ih h1
    have hne : ∀ a ∈ L, a.th ≠ e.th := fun a ha => h3 a ha e (by simp)
    rw [wk_snoc, wkS]
    split
    · show (wk c m L).1 = _
      rw [List.filter_append, ih']
      have e1 : L.filter (fun a => !((wk c m L).2 ++ [e.th]).contains a.th) = L.filter (fun a => !(wk c m L).2.contains a.th) := by
        refine List.filter_congr fun a ha => ?_
        simp [hne a ha]
      rw [e1]
      simp
    · show (wk c m L).1 ++ [e] = List.filter _ (L ++ [e])
      rw [List.filter_append]
      have e2 : e.th ∉ (wk c m L).2 := fun hm => by
        rw [wk_out] at hm
        obtain ⟨a, ha, hat⟩ := atL_th (List.mem_of_mem_take hm)
        exact hne a ha hat
      have e3 : List.filter (fun a => !(wk c m L).2.contains a.th) [e] = [e] := by simp [e2]
      rw [e3, ← ih']
theorem wk_len (c m : Int) (L : List Sl) : (wk c m L).1.length ≤ L.length := by
  refine snoc_ind (P := fun L => (wk c m L).1.length ≤ L.length) (by simp [wk]) (fun L e ih => ?_) L
  · show (wk c m (L ++ [e])).1.length ≤ (L ++ [e]).length
    rw [wk_snoc, wkS]
    split
    · simp; omega
    · simpa using ih
theorem cut_succ {L : List Sl} (h : L.Pairwise (fun a b => a.si < b.si)) (k : Nat) : L.filter (fun e => e.si < k + 1) = L.filter (fun e => e.si < k) ++ L.filter (fun e => e.si = k) := by
  induction L with
  | nil => rfl
  | cons x L ih =>
    obtain ⟨h1, h2⟩ := List.pairwise_cons.1 h
    rcases Nat.lt_trichotomy x.si k with hx | hx | hx
    · rw [List.filter_cons_of_pos (by simp; omega), List.filter_cons_of_pos (by simpa using hx), List.filter_cons_of_neg (by simp; omega), ih h2]; rfl
    · have e1 : L.filter (fun e => e.si < k + 1) = [] := List.filter_eq_nil_iff.2 fun e he => by have := h1 e he; simp; omega
      have e2 : L.filter (fun e => e.si < k) = [] := List.filter_eq_nil_iff.2 fun e he => by have := h1 e he; simp; omega
      have e3 : L.filter (fun e => e.si = k) = [] := List.filter_eq_nil_iff.2 fun e he => by have := h1 e he; simp; omega
      rw [List.filter_cons_of_pos (by simp; omega), List.filter_cons_of_neg (by simp; omega), List.filter_cons_of_pos (by simpa using hx), e1, e2, e3]; rfl
    · have e1 : L.filter (fun e => e.si < k + 1) = [] := List.filter_eq_nil_iff.2 fun e he => by have := h1 e he; simp; omega
      have e2 : L.filter (fun e => e.si < k) = [] := List.filter_eq_nil_iff.2 fun e he => by have := h1 e he; simp; omega
      have e3 : L.filter (fun e => e.si = k) = [] := List.filter_eq_nil_iff.2 fun e he => by have := h1 e he; simp; omega
      rw [List.filter_cons_of_neg (by simp; omega), List.filter_cons_of_neg (by simp; omega), List.filter_cons_of_neg (by simp; omega), e1, e2, e3]; rfl
theorem one_at {L : List Sl} (h : L.Pairwise (fun a b => a.si < b.si)) {e : Sl} (he : e ∈ L) : L.filter (fun a => a.si = e.si) = [e] := by
  induction L with
  | nil => simp at he
  | cons x L ih =>
    obtain ⟨h1, h2⟩ := List.pairwise_cons.1 h
    rcases List.mem_cons.1 he with rfl | he
    · have e3 : L.filter (fun a => a.si = e.si) = [] := List.filter_eq_nil_iff.2 fun a ha => by have := h1 a ha; simp; omega
      rw [List.filter_cons_of_pos (by simp), e3]
    · rw [List.filter_cons_of_neg (by have := h1 e he; simp; omega)]
      exact ih h2 he
/-- Those that fell asleep at time k at cell c and have come already in a range over them all. -/
def doneK (L : List Sl) (c : Int) (k : Nat) (left : Int → Bool) : List Int := (((L.filter fun e => e.si = k).filter fun e => e.ce = c).filter fun e => !left e.th).map (·.th)
theorem doneK_start (L : List Sl) (c : Int) (k : Nat) (left : Int → Bool) (h : ∀ e ∈ L, left e.th = true) : doneK L c k left = [] := by
  unfold doneK
  rw [List.filter_eq_nil_iff.2]
  · rfl
  · intro e he
    simp [h e (List.mem_filter.1 (List.mem_filter.1 he).1).1]
theorem doneK_end (L : List Sl) (c : Int) (k : Nat) (left : Int → Bool) (h : ∀ e ∈ L, left e.th = false) : doneK L c k left = atL c (L.filter fun e => e.si = k) := by
  unfold doneK atL
  rw [List.filter_eq_self.2]
  intro e he
  simp [h e (List.mem_filter.1 (List.mem_filter.1 he).1).1]
theorem doneK_hit {n clk : Nat} {L : List Sl} (h : LotOk n clk L) (left : Int → Bool) {e : Sl} (he : e ∈ L) (hl : left e.th = true) :
    doneK L e.ce e.si (fun t => left t && !decide (t = e.th)) = doneK L e.ce e.si left ++ [e.th] := by
  unfold doneK
  rw [one_at h.asc he]
  simp [hl]
theorem doneK_miss {n clk : Nat} {L : List Sl} (h : LotOk n clk L) (left : Int → Bool) {e : Sl} (he : e ∈ L) {c : Int} {k : Nat} (hn : ¬ (e.si = k ∧ e.ce = c)) :
    doneK L c k (fun t => left t && !decide (t = e.th)) = doneK L c k left := by
  unfold doneK
  congr 1
  refine List.filter_congr fun a ha => ?_
  obtain ⟨ha, h2⟩ := List.mem_filter.1 ha
  obtain ⟨ha, h1⟩ := List.mem_filter.1 ha
  have hne : a.th ≠ e.th := fun hae => hn (by
    have : a = e := by
      have e1 := sinceF_mem h.dis ha
      have e2 := sinceF_mem h.dis he
      rw [hae] at e1
      have e3 : e.si = a.si := by
        have := e1.symm.trans e2
        simp at this; omega
      have o1 := one_at h.asc ha
      have o2 := one_at h.asc he
      rw [e3] at o2
      have := o1.symm.trans o2
      simpa using this
    subst this
    exact ⟨by simpa using h1, by simpa using h2⟩)
  simp [hne]
theorem atL_cut {n clk : Nat} {L : List Sl} (h : LotOk n clk L) (c : Int) (k : Nat) : atL c (L.filter fun e => e.si < k + 1) = atL c (L.filter fun e => e.si < k) ++ atL c (L.filter fun e => e.si = k) := by
  rw [cut_succ h.asc]
  simp [atL]
theorem atL_all {n clk : Nat} {L : List Sl} (h : LotOk n clk L) (c : Int) : atL c (L.filter fun e => e.si < clk + 1) = atL c L := by
  rw [List.filter_eq_self.2]
  intro e he
  have := (h.rng e he).2.1
  simp; omega
theorem atL_one {n clk : Nat} {L : List Sl} (h : LotOk n clk L) (c : Int) : atL c (L.filter fun e => e.si < 1) = [] := by
  unfold atL
  have e1 : L.filter (fun e => e.si < 1) = [] := List.filter_eq_nil_iff.2 fun e he => by have := (h.rng e he).1; simp; omega
  rw [e1]
  rfl
/-- Where one sleeps: -1 if nowhere. -/
def cellF (L : List Sl) (t : Int) : Int := match L.find? (fun e => e.th = t) with
  | some e => e.ce
  | none => -1
theorem cellF_none {L : List Sl} {t : Int} (h : ¬ hasT L t) : cellF L t = -1 := by
  unfold cellF
  rw [List.find?_eq_none.2]
  intro e he hc
  exact h ⟨e, he, by simpa using hc⟩
theorem find_mem {L : List Sl} (hd : L.Pairwise (fun a b => a.th ≠ b.th)) {e : Sl} (he : e ∈ L) : L.find? (fun a => a.th = e.th) = some e := by
  induction L with
  | nil => simp at he
  | cons x L ih =>
    obtain ⟨h1, h2⟩ := List.pairwise_cons.1 hd
    rcases List.mem_cons.1 he with rfl | he
    · simp
    · rw [List.find?_cons_of_neg (by simpa using h1 e he)]
      exact ih h2 he
theorem cellF_mem {L : List Sl} (hd : L.Pairwise (fun a b => a.th ≠ b.th)) {e : Sl} (he : e ∈ L) : cellF L e.th = e.ce := by
  unfold cellF
  rw [find_mem hd he]
def inR (n : Nat) (t c : Int) : Prop := 0 ≤ t ∧ t < n ∧ 0 ≤ c ∧ c < 300
instance (n : Nat) (t c : Int) : Decidable (inR n t c) := inferInstanceAs (Decidable (0 ≤ t ∧ t < n ∧ 0 ≤ c ∧ c < 300))
/-- A state: the clock, and who sleeps. -/
structure Lt where
  clk : Nat
  L : List Sl
def slpC (n : Nat) (s : Lt) (t c : Int) : Int := if inR n t c then (if hasT s.L t then 6 else 0) else 2
def slpS (n : Nat) (s : Lt) (t c : Int) : Lt := if inR n t c ∧ ¬ hasT s.L t then ⟨s.clk + 1, s.L ++ [⟨t, c, s.clk + 1⟩]⟩ else s
def pokC (n : Nat) (s : Lt) (t : Int) : Int := if 0 ≤ t ∧ t < n then (if hasT s.L t then 0 else 6) else 2
def pokS (n : Nat) (s : Lt) (t : Int) : Lt := if (0 ≤ t ∧ t < n) ∧ hasT s.L t then ⟨s.clk, s.L.filter fun e => !decide (e.th = t)⟩ else s
def wakS (c m : Int) (s : Lt) : Lt := ⟨s.clk, (wk c m s.L).1⟩
def LtOk (n : Nat) (s : Lt) : Prop := LotOk n s.clk s.L
theorem slp_ok {n : Nat} {s : Lt} (h : LtOk n s) (t c : Int) : LtOk n (slpS n s t c) := by
  unfold slpS
  split
  · rename_i hc
    obtain ⟨⟨h0, h1, h2, h3⟩, hn⟩ := hc
    exact LotOk.snoc h h0 h1 h2 h3 hn
  · exact h
theorem pok_ok {n : Nat} {s : Lt} (h : LtOk n s) (t : Int) : LtOk n (pokS n s t) := by
  unfold pokS
  split
  · exact LotOk.filter h _
  · exact h
theorem wak_ok {n : Nat} {s : Lt} (h : LtOk n s) (c m : Int) : LtOk n (wakS c m s) := by
  unfold wakS LtOk
  simp only
  rw [wk_kept c m s.L h.dis]
  exact LotOk.filter h _
theorem slp_clk (n : Nat) (s : Lt) (t c : Int) : (slpS n s t c).clk ≤ s.clk + 1 := by
  unfold slpS; split <;> simp
theorem pok_clk (n : Nat) (s : Lt) (t : Int) : (pokS n s t).clk = s.clk := by
  unfold pokS; split <;> rfl
end Go.Proofs.YtepoahinnfjaiaaDoor
