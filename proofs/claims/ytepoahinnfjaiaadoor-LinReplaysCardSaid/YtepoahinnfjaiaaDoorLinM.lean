/-
  What comes of calls at points is told here, in plain words and over memory: calls and points as lists, the replay as one function of both texts' answers. Conditions: none.
-/
import Derived.Test.YtepoahinnfjaiaaDoorPhasY
import Derived.Test.YtepoahinnfjaiaaDoorOpenS
namespace Go.Proofs.YtepoahinnfjaiaaDoor
open Go.RowKit Go.Extern.Stop Go.Stop Go.Extern

structure Pt where
  wh : Int
  th : Int
  ca : Int
  la : Bool
structure Cl where
  what : Int
  n : Int
structure St where
  o : Bool
  ph : Int
  pa : Int
  wa : Int
def ptc (x : Pt) : List Value := [.int .i64 x.wh, .int .i64 x.th, .int .i64 x.ca, .bool x.la]
def clc (x : Cl) : List Value := [.int .i64 x.what, .int .i64 x.n]
theorem ptc_len (x : Pt) : (ptc x).length = 4 := rfl
theorem clc_len (x : Cl) : (clc x).length = 2 := rfl
def flatP (l : List Pt) : List Value := l.flatMap ptc
def flatC (l : List Cl) : List Value := l.flatMap clc
theorem add_splitN (a : Addr) (i j : Nat) : a.add (i + (j + 1)) = ⟨(a.add i).block, (a.add i).off + (j + 1), none⟩ := by
  rw [← add_of_add]; rfl
theorem Reads.pt {w : World} {B n k : Nat} {A : Option Addr} {l : List Pt} (h : Reads w B 4 A n (flatP l)) (hn : l.length = n) (hk : k < n) :
    ∃ ad, A = some ad ∧ ad.block < B ∧ w.cell? (ad.add (k * 4)) = some (.int .i64 (l[k]'(by omega)).wh) ∧ w.cell? ⟨(ad.add (k * 4)).block, (ad.add (k * 4)).off + 1, none⟩ = some (.int .i64 (l[k]'(by omega)).th) ∧
      w.cell? ⟨(ad.add (k * 4)).block, (ad.add (k * 4)).off + 2, none⟩ = some (.int .i64 (l[k]'(by omega)).ca) ∧ w.cell? ⟨(ad.add (k * 4)).block, (ad.add (k * 4)).off + 3, none⟩ = some (.bool (l[k]'(by omega)).la) := by
  obtain ⟨ad, e, hb, hc⟩ := h.2 (by omega)
  have g := fun j hj => flatMap_get ptc_len l k j (by omega) hj
  refine ⟨ad, e, hb, hc _ _ (g 0 (by omega)), ?_, ?_, ?_⟩
  · rw [← add_splitN ad (k * 4) 0]; exact hc _ _ (g 1 (by omega))
  · rw [← add_splitN ad (k * 4) 1]; exact hc _ _ (g 2 (by omega))
  · rw [← add_splitN ad (k * 4) 2]; exact hc _ _ (g 3 (by omega))
theorem Reads.cl {w : World} {B n k : Nat} {A : Option Addr} {l : List Cl} (h : Reads w B 2 A n (flatC l)) (hn : l.length = n) (hk : k < n) :
    ∃ ad, A = some ad ∧ ad.block < B ∧ w.cell? (ad.add (k * 2)) = some (.int .i64 (l[k]'(by omega)).what) ∧ w.cell? ⟨(ad.add (k * 2)).block, (ad.add (k * 2)).off + 1, none⟩ = some (.int .i64 (l[k]'(by omega)).n) := by
  obtain ⟨ad, e, hb, hc⟩ := h.2 (by omega)
  have g := fun j hj => flatMap_get clc_len l k j (by omega) hj
  refine ⟨ad, e, hb, hc _ _ (g 0 (by omega)), ?_⟩
  rw [← add_splitN ad (k * 2) 0]; exact hc _ _ (g 1 (by omega))
/-- A slice of slices of calls. -/
def CallsIn (w : World) (B : Nat) (A : Option Addr) (n : Nat) (cs : List (List Cl)) : Prop :=
  cs.length = n ∧ ∀ (i : Nat) (hi : i < cs.length), ∃ ad Ai ci, A = some ad ∧ ad.block < B ∧ w.cell? (ad.add i) = some (.slice Ai (cs[i]).length ci) ∧ Reads w B 2 Ai (cs[i]).length (flatC cs[i])
theorem CallsIn.keep {w w' : World} {B n : Nat} {A : Option Addr} {cs : List (List Cl)} (h : CallsIn w B A n cs) (hk : ∀ p : Addr, p.block < B → w'.cell? p = w.cell? p) : CallsIn w' B A n cs :=
  ⟨h.1, fun i hi => by
    obtain ⟨ad, Ai, ci, e, hb, hc, hr⟩ := h.2 i hi
    exact ⟨ad, Ai, ci, e, hb, (hk _ (by rw [block_of_add]; exact hb)).trans hc, hr.keep hk⟩⟩
theorem CallsIn.below {w w' : World} {B n : Nat} {A : Option Addr} {cs : List (List Cl)} (h : CallsIn w B A n cs) (hb : Below B w w') : CallsIn w' B A n cs := h.keep fun _ hp => hb.cell hp

def getC (cs : List (List Cl)) (th ca : Int) : Option Cl := if 0 ≤ th ∧ 0 ≤ ca then (cs[th.toNat]?).bind fun l => l[ca.toNat]? else none
/-- What the last one ahead of k at the same call was answered; 0: there was none. -/
def lastK (l : List Pt) (outs : List Int) (th ca : Int) : Nat → Int
  | 0 => 0
  | k + 1 => if (l[k]?).map (fun x => (x.th, x.ca)) = some (th, ca) then outs.getD k 0 else lastK l outs th ca k
theorem lastK_snoc (l : List Pt) (outs : List Int) (v th ca : Int) : ∀ k : Nat, k ≤ outs.length → lastK l (outs ++ [v]) th ca k = lastK l outs th ca k
  | 0, _ => rfl
  | k + 1, h => by
    unfold lastK
    rw [lastK_snoc l outs v th ca k (by omega)]
    simp only [List.getD_eq_getElem?_getD, List.getElem?_append_left (show k < outs.length by omega)]
def fixC (c : Cl) (la : Bool) (v : Int) : Cl := if c.what = 9 then (if la then ⟨10, max 0 v⟩ else ⟨7, c.n⟩) else c
structure Dn where
  st : St
  ans : Int
  err : Int
theorem do_isb (o : Bool) (ph pa wa a n : Int) : ∃ ro rph rpa rwa ans err, DoIs o ph pa wa a n ro rph rpa rwa ans err ∧ (err = 0 ∨ err = 1) ∧ -9223372036854775808 ≤ ans ∧ ans ≤ 9223372036854775807 := by
  by_cases h : PhOk ph pa wa ∧ FitsOk a n ∧ (a == 9) = false
  · obtain ⟨hP, hF, hA⟩ := h
    have hP' := hP
    obtain ⟨p1, p2, p3, p4, p5, p6⟩ := hP'
    cases o
    · rcases hF with ⟨rfl, h1, h2⟩ | ⟨rfl, h1, h2⟩ | ⟨rfl | rfl | rfl | rfl, rfl⟩
      · by_cases hf : pa + n ≤ 65535
        · exact ⟨_, _, _, _, _, 0, ⟨fun w => d_regOk n ph pa wa w hP h1 h2 hf, fun w => p_regOk n ph pa wa w hP h1 h2 hf⟩, .inl rfl, by omega, by omega⟩
        · exact ⟨_, _, _, _, _, 0, ⟨fun w => d_regFull n ph pa wa w hP h1 h2 (by omega), fun w => p_regFull n ph pa wa w hP h1 h2 (by omega)⟩, .inl rfl, by omega, by omega⟩
      · by_cases hf : ph = n
        · subst hf
          exact ⟨_, _, _, _, _, 0, ⟨fun w => d_watchEq ph pa wa w hP, fun w => p_watchEq ph pa wa w hP⟩, .inl rfl, by omega, by omega⟩
        · exact ⟨_, _, _, _, _, 0, ⟨fun w => d_watchNe n ph pa wa w hP h1 h2 (by simpa using hf), fun w => p_watchNe n ph pa wa w hP h1 h2 (by simpa using hf)⟩, .inl rfl, by omega, by omega⟩
      · by_cases h0 : wa = 0
        · subst h0
          exact ⟨_, _, _, _, _, 0, ⟨fun w => d_arrNone ph pa w hP, fun w => p_arrNone ph pa w hP⟩, .inl rfl, by omega, by omega⟩
        · by_cases h1 : wa = 1
          · subst h1
            exact ⟨_, _, _, _, _, 0, ⟨fun w => d_arrLast ph pa w hP, fun w => p_arrLast ph pa w hP⟩, .inl rfl, by omega, by omega⟩
          · exact ⟨_, _, _, _, _, 0, ⟨fun w => d_arrMore ph pa wa w hP (by omega), fun w => p_arrMore ph pa wa w hP (by omega)⟩, .inl rfl, by omega, by omega⟩
      · by_cases h0 : wa = 0
        · subst h0
          exact ⟨_, _, _, _, _, 0, ⟨fun w => d_leaNone ph pa w hP, fun w => p_leaNone ph pa w hP⟩, .inl rfl, by omega, by omega⟩
        · by_cases h1 : wa = 1
          · subst h1
            by_cases h2 : pa = 1
            · subst h2
              exact ⟨_, _, _, _, _, 0, ⟨fun w => d_leaOver ph w hP, fun w => p_leaOver ph w hP⟩, .inl rfl, by omega, by omega⟩
            · exact ⟨_, _, _, _, _, 0, ⟨fun w => d_leaLast ph pa w hP (by omega), fun w => p_leaLast ph pa w hP (by omega)⟩, .inl rfl, by omega, by omega⟩
          · exact ⟨_, _, _, _, _, 0, ⟨fun w => d_leaMore ph pa wa w hP (by omega), fun w => p_leaMore ph pa wa w hP (by omega)⟩, .inl rfl, by omega, by omega⟩
      · simp at hA
      · exact ⟨_, _, _, _, _, 0, ⟨fun w => d_close ph pa wa w hP, fun w => p_close ph pa wa w hP⟩, .inl rfl, by omega, by omega⟩
    · exact ⟨_, _, _, _, _, 0, ⟨fun w => d_over a n ph pa wa w hP hF hA, fun w => p_over a n ph pa wa w hP hF hA⟩, .inl rfl, by omega, by omega⟩
  · exact ⟨_, _, _, _, _, 1, ⟨fun w => d_bad o ph pa wa a n w h, fun w => p_bad o ph pa wa a n w h⟩, .inr rfl, by omega, by omega⟩
theorem do_ex (s : St) (c : Cl) : ∃ d : Dn, DoIs s.o s.ph s.pa s.wa c.what c.n d.st.o d.st.ph d.st.pa d.st.wa d.ans d.err ∧ (d.err = 0 ∨ d.err = 1) ∧ -9223372036854775808 ≤ d.ans ∧ d.ans ≤ 9223372036854775807 := by
  obtain ⟨a, b, c, d, e, f, h⟩ := do_isb s.o s.ph s.pa s.wa c.what c.n
  exact ⟨⟨⟨a, b, c, d⟩, e, f⟩, h⟩
noncomputable def doS (s : St) (c : Cl) : Dn := Classical.choose (do_ex s c)
theorem doS_is (s : St) (c : Cl) : DoIs s.o s.ph s.pa s.wa c.what c.n (doS s c).st.o (doS s c).st.ph (doS s c).st.pa (doS s c).st.wa (doS s c).ans (doS s c).err ∧ ((doS s c).err = 0 ∨ (doS s c).err = 1) ∧ -9223372036854775808 ≤ (doS s c).ans ∧ (doS s c).ans ≤ 9223372036854775807 := Classical.choose_spec (do_ex s c)
structure Rp where
  st : St
  outs : List Int
  code : Int
  place : Int
/-- The replay: so many points are left; point k is next. -/
noncomputable def rep (cs : List (List Cl)) (l : List Pt) : Nat → Nat → St → List Int → Rp
  | 0, _, s, outs => ⟨s, outs, 0, -1⟩
  | f + 1, k, s, outs => match l[k]? with
    | none => ⟨s, outs, 0, -1⟩
    | some x => match getC cs x.th x.ca with
      | none => ⟨⟨false, 0, 0, 0⟩, [], 2, k⟩
      | some c => if (doS s (fixC c x.la (lastK l outs x.th x.ca k))).err = 0 then rep cs l f (k + 1) (doS s (fixC c x.la (lastK l outs x.th x.ca k))).st (outs ++ [(doS s (fixC c x.la (lastK l outs x.th x.ca k))).ans]) else ⟨⟨false, 0, 0, 0⟩, [], 1, k⟩
theorem rep_end (cs : List (List Cl)) (l : List Pt) (k : Nat) (s : St) (outs : List Int) : rep cs l 0 k s outs = ⟨s, outs, 0, -1⟩ := rfl
theorem rep_none {cs : List (List Cl)} {l : List Pt} {f k : Nat} {s : St} {outs : List Int} {x : Pt} (hx : l[k]? = some x) (hc : getC cs x.th x.ca = none) : rep cs l (f + 1) k s outs = ⟨⟨false, 0, 0, 0⟩, [], 2, k⟩ := by
  simp only [rep, hx, hc]
theorem rep_bad {cs : List (List Cl)} {l : List Pt} {f k : Nat} {s : St} {outs : List Int} {x : Pt} {c : Cl} (hx : l[k]? = some x) (hc : getC cs x.th x.ca = some c) (he : (doS s (fixC c x.la (lastK l outs x.th x.ca k))).err ≠ 0) : rep cs l (f + 1) k s outs = ⟨⟨false, 0, 0, 0⟩, [], 1, k⟩ := by
  simp only [rep, hx, hc, if_neg he]
theorem rep_ok {cs : List (List Cl)} {l : List Pt} {f k : Nat} {s : St} {outs : List Int} {x : Pt} {c : Cl} (hx : l[k]? = some x) (hc : getC cs x.th x.ca = some c) (he : (doS s (fixC c x.la (lastK l outs x.th x.ca k))).err = 0) :
    rep cs l (f + 1) k s outs = rep cs l f (k + 1) (doS s (fixC c x.la (lastK l outs x.th x.ca k))).st (outs ++ [(doS s (fixC c x.la (lastK l outs x.th x.ca k))).ans]) := by
  simp only [rep, hx, hc, if_pos he]
end Go.Proofs.YtepoahinnfjaiaaDoor
