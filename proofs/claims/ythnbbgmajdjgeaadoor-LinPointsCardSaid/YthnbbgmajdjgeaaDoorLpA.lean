/- LinPoints in plain words: calls, acts and points as lists, when answers came, and the points of all calls as one function of both texts' answers. Conditions: none. -/
import Derived.Test.YthnbbgmajdjgeaaDoorEvA
namespace Go.Proofs.YthnbbgmajdjgeaaDoor
open Go.RowKit

structure Pt where
  wh : Int
  th : Int
  ca : Int
  la : Bool
instance : Inhabited Pt := ⟨⟨0, 0, 0, false⟩⟩
structure Cl where
  what : Int
  n : Int
structure Ac where
  wh : Int
  th : Int
  op : Int
  ce : Int
  old : Int
  now : Int
def ptc (x : Pt) : List Value := [.int .i64 x.wh, .int .i64 x.th, .int .i64 x.ca, .bool x.la]
def clc (x : Cl) : List Value := [.int .i64 x.what, .int .i64 x.n]
def acc (x : Ac) : List Value := [.int .i64 x.wh, .int .i64 x.th, .int .i64 x.op, .int .i64 x.ce, .int .u64 x.old, .int .u64 x.now]
theorem ptc_len (x : Pt) : (ptc x).length = 4 := rfl
theorem clc_len (x : Cl) : (clc x).length = 2 := rfl
theorem acc_len (x : Ac) : (acc x).length = 6 := rfl
def flatP (l : List Pt) : List Value := l.flatMap ptc
def flatC (l : List Cl) : List Value := l.flatMap clc
def flatA (l : List Ac) : List Value := l.flatMap acc
theorem flatP_len : ∀ l : List Pt, (flatP l).length = l.length * 4
  | [] => rfl
  | x :: l => by
    have := flatP_len l
    unfold flatP at this ⊢
    rw [List.flatMap_cons, List.length_append, this, ptc_len, List.length_cons]; omega
theorem flatA_len : ∀ l : List Ac, (flatA l).length = l.length * 6
  | [] => rfl
  | x :: l => by
    have := flatA_len l
    unfold flatA at this ⊢
    rw [List.flatMap_cons, List.length_append, this, acc_len, List.length_cons]; omega
theorem flatP_append (l m : List Pt) : flatP (l ++ m) = flatP l ++ flatP m := List.flatMap_append
theorem flatA_append (l m : List Ac) : flatA (l ++ m) = flatA l ++ flatA m := List.flatMap_append
theorem Reads.pt {w : World} {B n k : Nat} {A : Option Addr} {l : List Pt} (h : Reads w B 4 A n (flatP l)) (hn : l.length = n) (hk : k < n) :
    ∃ ad, A = some ad ∧ ad.block < B ∧ w.cell? (ad.add (k * 4)) = some (.int .i64 (l[k]'(by omega)).wh) ∧ w.cell? ⟨(ad.add (k * 4)).block, (ad.add (k * 4)).off + 1, none⟩ = some (.int .i64 (l[k]'(by omega)).th) ∧
      w.cell? ⟨(ad.add (k * 4)).block, (ad.add (k * 4)).off + 2, none⟩ = some (.int .i64 (l[k]'(by omega)).ca) ∧ w.cell? ⟨(ad.add (k * 4)).block, (ad.add (k * 4)).off + 3, none⟩ = some (.bool (l[k]'(by omega)).la) := by
  obtain ⟨ad, e, hb, hc⟩ := h.2 (by omega)
  have g := fun j hj => flatMap_get ptc_len l k j (by omega) hj
  refine ⟨ad, e, hb, hc _ _ (g 0 (by omega)), ?_, ?_, ?_⟩
  · rw [← add_split ad (k * 4) 0]; exact hc _ _ (g 1 (by omega))
  · rw [← add_split ad (k * 4) 1]; exact hc _ _ (g 2 (by omega))
  · rw [← add_split ad (k * 4) 2]; exact hc _ _ (g 3 (by omega))
theorem Reads.cl {w : World} {B n k : Nat} {A : Option Addr} {l : List Cl} (h : Reads w B 2 A n (flatC l)) (hn : l.length = n) (hk : k < n) :
    ∃ ad, A = some ad ∧ ad.block < B ∧ w.cell? (ad.add (k * 2)) = some (.int .i64 (l[k]'(by omega)).what) ∧ w.cell? ⟨(ad.add (k * 2)).block, (ad.add (k * 2)).off + 1, none⟩ = some (.int .i64 (l[k]'(by omega)).n) := by
  obtain ⟨ad, e, hb, hc⟩ := h.2 (by omega)
  have g := fun j hj => flatMap_get clc_len l k j (by omega) hj
  refine ⟨ad, e, hb, hc _ _ (g 0 (by omega)), ?_⟩
  rw [← add_split ad (k * 2) 0]; exact hc _ _ (g 1 (by omega))
theorem Reads.ac {w : World} {B n k : Nat} {A : Option Addr} {l : List Ac} (h : Reads w B 6 A n (flatA l)) (hn : l.length = n) (hk : k < n) :
    ∃ ad, A = some ad ∧ ad.block < B ∧ w.cell? (ad.add (k * 6)) = some (.int .i64 (l[k]'(by omega)).wh) ∧ w.cell? ⟨(ad.add (k * 6)).block, (ad.add (k * 6)).off + 1, none⟩ = some (.int .i64 (l[k]'(by omega)).th) ∧
      w.cell? ⟨(ad.add (k * 6)).block, (ad.add (k * 6)).off + 2, none⟩ = some (.int .i64 (l[k]'(by omega)).op) ∧ w.cell? ⟨(ad.add (k * 6)).block, (ad.add (k * 6)).off + 3, none⟩ = some (.int .i64 (l[k]'(by omega)).ce) ∧
      w.cell? ⟨(ad.add (k * 6)).block, (ad.add (k * 6)).off + 4, none⟩ = some (.int .u64 (l[k]'(by omega)).old) ∧ w.cell? ⟨(ad.add (k * 6)).block, (ad.add (k * 6)).off + 5, none⟩ = some (.int .u64 (l[k]'(by omega)).now) := by
  obtain ⟨ad, e, hb, hc⟩ := h.2 (by omega)
  have g := fun j hj => flatMap_get acc_len l k j (by omega) hj
  refine ⟨ad, e, hb, hc _ _ (g 0 (by omega)), ?_, ?_, ?_, ?_, ?_⟩
  · rw [← add_split ad (k * 6) 0]; exact hc _ _ (g 1 (by omega))
  · rw [← add_split ad (k * 6) 1]; exact hc _ _ (g 2 (by omega))
  · rw [← add_split ad (k * 6) 2]; exact hc _ _ (g 3 (by omega))
  · rw [← add_split ad (k * 6) 3]; exact hc _ _ (g 4 (by omega))
  · rw [← add_split ad (k * 6) 4]; exact hc _ _ (g 5 (by omega))
/-- A slice of slices of calls. -/
def CallsIn (w : World) (B : Nat) (A : Option Addr) (n : Nat) (cs : List (List Cl)) : Prop :=
  cs.length = n ∧ ∀ (i : Nat) (hi : i < cs.length), ∃ ad Ai ci, A = some ad ∧ ad.block < B ∧ w.cell? (ad.add i) = some (.slice Ai (cs[i]).length ci) ∧ Reads w B 2 Ai (cs[i]).length (flatC cs[i])
theorem CallsIn.keep {w w' : World} {B n : Nat} {A : Option Addr} {cs : List (List Cl)} (h : CallsIn w B A n cs) (hk : ∀ p : Addr, p.block < B → w'.cell? p = w.cell? p) : CallsIn w' B A n cs :=
  ⟨h.1, fun i hi => by
    obtain ⟨ad, Ai, ci, e, hb, hc, hr⟩ := h.2 i hi
    exact ⟨ad, Ai, ci, e, hb, (hk _ (by rw [block_of_add]; exact hb)).trans hc, hr.keep hk⟩⟩
theorem CallsIn.below {w w' : World} {B n : Nat} {A : Option Addr} {cs : List (List Cl)} (h : CallsIn w B A n cs) (hb : Below B w w') : CallsIn w' B A n cs := h.keep fun _ hp => hb.cell hp

/-! ### One call's points -/
def isMine (t fr to : Int) (done : Bool) (a : Ac) : Bool := decide (a.th = t) && (decide (a.ce = 0) && (decide (fr < a.wh) && (!done || decide (a.wh < to))))
def isChg (a : Ac) : Bool := decide (a.op = 9) && decide (a.old ≠ a.now)
def effStep (t fr to : Int) (done : Bool) (a : Ac) (s : Option Int × Option Int) : Option Int × Option Int :=
  if isMine t fr to done a then (if isChg a then some a.wh else s.1, some a.wh) else s
/-- Of the acts: when the last change was, and when the last act. -/
def effS (t fr to : Int) (done : Bool) : List Ac → Option Int × Option Int → Option Int × Option Int
  | [], s => s
  | a :: l, s => effS t fr to done l (effStep t fr to done a s)
theorem effS_skip {t fr to : Int} {done : Bool} {a : Ac} {l : List Ac} {s : Option Int × Option Int} (h : isMine t fr to done a = false) : effS t fr to done (a :: l) s = effS t fr to done l s := by
  rw [effS, effStep, if_neg (by rw [h]; exact Bool.false_ne_true)]
theorem effS_last {t fr to : Int} {done : Bool} {a : Ac} {l : List Ac} {s : Option Int × Option Int} (h : isMine t fr to done a = true) (h2 : isChg a = false) : effS t fr to done (a :: l) s = effS t fr to done l (s.1, some a.wh) := by
  rw [effS, effStep, if_pos h, if_neg (by rw [h2]; exact Bool.false_ne_true)]
theorem effS_both {t fr to : Int} {done : Bool} {a : Ac} {l : List Ac} {s : Option Int × Option Int} (h : isMine t fr to done a = true) (h2 : isChg a = true) : effS t fr to done (a :: l) s = effS t fr to done l (some a.wh, some a.wh) := by
  rw [effS, effStep, if_pos h, if_pos h2]
def effP (t k what : Int) (done : Bool) : Option Int × Option Int → List Pt
  | (some c, some l) => if done && decide (what = 9) then [⟨c, t, k, false⟩, ⟨l, t, k, true⟩] else [⟨c, t, k, false⟩]
  | (none, some l) => if done then [⟨l, t, k, false⟩] else []
  | _ => []
theorem effP_len (t k what : Int) (done : Bool) (s : Option Int × Option Int) : (effP t k what done s).length ≤ 2 := by
  obtain ⟨a, b⟩ := s
  cases a <;> cases b <;> simp only [effP] <;> (try split) <;> simp
def eff (t k what : Int) (acts : List Ac) (fr to : Int) (done : Bool) : List Pt := effP t k what done (effS t fr to done acts (none, none))
theorem eff_len (t k what : Int) (acts : List Ac) (fr to : Int) (done : Bool) : (eff t k what acts fr to done).length ≤ 2 := effP_len _ _ _ _ _

/-! ### When answers came -/
def updE (E : Nat → List Int) (T : Nat) (v : Int) : Nat → List Int := fun t => if t = T then E t ++ [v] else E t
def evOk (cs : List (List Cl)) (E : Nat → List Int) (e : Ev) : Prop := e.wt = 3 ∧ 0 ≤ e.th ∧ e.th < cs.length ∧ (E e.th.toNat).length < (cs[e.th.toNat]?.getD []).length
open Classical in
/-- None: all are answers; some i: event i is none. -/
noncomputable def evF (cs : List (List Cl)) : List Ev → Nat → (Nat → List Int) → Option Nat × (Nat → List Int)
  | [], _, E => (none, E)
  | e :: l, i, E => if evOk cs E e then evF cs l (i + 1) (updE E e.th.toNat e.wh) else (some i, E)
open Classical in
theorem evF_ok {cs : List (List Cl)} {e : Ev} {l : List Ev} {i : Nat} {E : Nat → List Int} (h : evOk cs E e) : evF cs (e :: l) i E = evF cs l (i + 1) (updE E e.th.toNat e.wh) := by rw [evF, if_pos h]
open Classical in
theorem evF_bad {cs : List (List Cl)} {e : Ev} {l : List Ev} {i : Nat} {E : Nat → List Int} (h : ¬ evOk cs E e) : evF cs (e :: l) i E = (some i, E) := by rw [evF, if_neg h]

/-! ### All calls' points -/
/-- Thread t's, from call k on; f calls are left. -/
def ptK (t : Nat) (acts : List Ac) (l : List Cl) (ws : List Int) : Nat → Nat → Int → List Pt → List Pt
  | 0, _, _, out => out
  | f + 1, k, fr, out => match l[k]?, ws[k]? with
    | some c, some to => ptK t acts l ws f (k + 1) to (out ++ eff t k c.what acts fr to true)
    | some c, none => out ++ eff t k c.what acts fr 0 false
    | none, _ => out
/-- All, from thread t on; f are left. -/
def ptT (cs : List (List Cl)) (acts : List Ac) (E : Nat → List Int) : Nat → Nat → List Pt → List Pt
  | 0, _, out => out
  | f + 1, t, out => match cs[t]? with
    | some l => ptT cs acts E f (t + 1) (ptK t acts l (E t) l.length 0 0 out)
    | none => out
theorem ptK_done {t : Nat} {acts : List Ac} {l : List Cl} {ws : List Int} {f k : Nat} {fr to : Int} {out : List Pt} {c : Cl} (h1 : l[k]? = some c) (h2 : ws[k]? = some to) :
    ptK t acts l ws (f + 1) k fr out = ptK t acts l ws f (k + 1) to (out ++ eff t k c.what acts fr to true) := by simp only [ptK, h1, h2]
theorem ptK_last {t : Nat} {acts : List Ac} {l : List Cl} {ws : List Int} {f k : Nat} {fr : Int} {out : List Pt} {c : Cl} (h1 : l[k]? = some c) (h2 : ws[k]? = none) :
    ptK t acts l ws (f + 1) k fr out = out ++ eff t k c.what acts fr 0 false := by simp only [ptK, h1, h2]
theorem ptT_step {cs : List (List Cl)} {acts : List Ac} {E : Nat → List Int} {f t : Nat} {out : List Pt} {l : List Cl} (h : cs[t]? = some l) :
    ptT cs acts E (f + 1) t out = ptT cs acts E f (t + 1) (ptK t acts l (E t) l.length 0 0 out) := by simp only [ptT, h]
theorem ptK_len (t : Nat) (acts : List Ac) (l : List Cl) (ws : List Int) : ∀ (f k : Nat) (fr : Int) (out : List Pt), (ptK t acts l ws f k fr out).length ≤ out.length + 2 * f
  | 0, _, _, _ => Nat.le_refl _
  | f + 1, k, fr, out => by
    cases h1 : l[k]? with
    | none => simp only [ptK, h1]; omega
    | some c =>
      cases h2 : ws[k]? with
      | none =>
        rw [ptK_last h1 h2, List.length_append]
        have := eff_len t k c.what acts fr 0 false
        omega
      | some to =>
        rw [ptK_done h1 h2]
        have := ptK_len t acts l ws f (k + 1) to (out ++ eff t k c.what acts fr to true)
        have h3 := eff_len t k c.what acts fr to true
        rw [List.length_append] at this
        omega
def sumL (cs : List (List Cl)) : Nat := (cs.map List.length).sum
theorem sumL_take_succ {cs : List (List Cl)} {t : Nat} {l : List Cl} (h : cs[t]? = some l) : sumL (cs.take (t + 1)) = sumL (cs.take t) + l.length := by
  obtain ⟨ht, rfl⟩ := List.getElem?_eq_some_iff.1 h
  unfold sumL
  rw [List.take_succ_eq_append_getElem ht, List.map_append, List.sum_append]
  simp only [List.map_cons, List.map_nil, List.sum_cons, List.sum_nil, Nat.add_zero]
theorem sumL_take_le (cs : List (List Cl)) (t : Nat) : sumL (cs.take t) ≤ sumL cs := by
  have h : sumL cs = sumL (cs.take t) + sumL (cs.drop t) := by
    unfold sumL
    rw [← List.sum_append, ← List.map_append, List.take_append_drop]
  omega
theorem ptT_len (cs : List (List Cl)) (acts : List Ac) (E : Nat → List Int) : ∀ (f t : Nat) (out : List Pt), out.length ≤ 2 * sumL (cs.take t) → (ptT cs acts E f t out).length ≤ 2 * sumL cs
  | 0, t, out, h => by
    have := sumL_take_le cs t
    show out.length ≤ _
    omega
  | f + 1, t, out, h => by
    cases h1 : cs[t]? with
    | none =>
      simp only [ptT, h1]
      have := sumL_take_le cs t
      omega
    | some l =>
      rw [ptT_step h1]
      refine ptT_len cs acts E f (t + 1) _ ?_
      have := ptK_len t acts l (E t) l.length 0 0 out
      rw [sumL_take_succ h1]
      omega
end Go.Proofs.YthnbbgmajdjgeaaDoor
