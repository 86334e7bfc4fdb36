/-
  MemTouches in plain terms: what comes of touches, one behind the other, and how a touch lies in memory. Conditions: as each states.
-/
import Derived.Test.YtepoahinnfjaiaaDoorMtA
import Derived.Test.YtepoahinnfjaiaaDoorMtB
import Derived.Test.YtepoahinnfjaiaaDoorMapO
import Derived.Test.YtepoahinnfjaiaaDoorOpenS
namespace Go.Proofs.YtepoahinnfjaiaaDoor
open Go.RowKit
/-- A touch: what it is, its cell, its two words. -/
structure Tc where
  wt : Int
  ix : Int
  x : Int
  y : Int
structure TR where
  ms : List Int
  got : Int
  did : Bool
  code : Int
def t0 : Tc := ⟨0, 0, 0, 0⟩
def tstep (ms : List Int) (t : Tc) : TR :=
  if 0 ≤ t.ix ∧ t.ix < ms.length then
    if t.wt = 1 then ⟨ms.set t.ix.toNat t.x, 0, false, 0⟩
    else if t.wt = 2 then ⟨ms.set t.ix.toNat (IntKind.u64.wrap (ms.getD t.ix.toNat 0 + t.x)), ms.getD t.ix.toNat 0, false, 0⟩
    else if t.wt = 3 then (if ms.getD t.ix.toNat 0 = t.x then ⟨ms.set t.ix.toNat t.y, 0, true, 0⟩ else ⟨ms, 0, false, 0⟩)
    else ⟨ms, ms.getD t.ix.toNat 0, false, 0⟩
  else ⟨ms, 0, false, 2⟩
def stA (l : List Tc) (ms : List Int) : Nat → List Int
  | 0 => ms
  | k + 1 => (tstep (stA l ms k) (l.getD k t0)).ms
def resA (l : List Tc) (ms : List Int) (k : Nat) : TR := tstep (stA l ms k) (l.getD k t0)
def boolS (b : Bool) : ByteArray := if b then ⟨#[116, 114, 117, 101]⟩ else ⟨#[102, 97, 108, 115, 101]⟩
def sp : ByteArray := ⟨#[32]⟩
def tline (r : TR) : ByteArray := (((decS r.got.toNat ++ sp) ++ boolS r.did) ++ sp) ++ itoaS r.code
def outA (l : List Tc) (ms : List Int) (k : Nat) : List Value := (List.range k).map fun j => .string (tline (resA l ms j))
theorem outA_succ (l : List Tc) (ms : List Int) (k : Nat) : outA l ms (k + 1) = outA l ms k ++ [.string (tline (resA l ms k))] := by
  simp [outA, List.range_succ]
theorem outA_len (l : List Tc) (ms : List Int) (k : Nat) : (outA l ms k).length = k := by simp [outA]
theorem outA_get (l : List Tc) (ms : List Int) (n k : Nat) (h : k < n) : (outA l ms n)[k]? = some (.string (tline (resA l ms k))) := by
  simp [outA, h]
theorem tstep_len (ms : List Int) (t : Tc) : (tstep ms t).ms.length = ms.length := by
  unfold tstep
  repeat' split
  all_goals simp
theorem stA_len (l : List Tc) (ms : List Int) : ∀ k, (stA l ms k).length = ms.length
  | 0 => rfl
  | k + 1 => by rw [stA, tstep_len, stA_len l ms k]
def U64s (ms : List Int) : Prop := ∀ m ∈ ms, U64 m
theorem wrap_U64 (x : Int) : U64 (IntKind.u64.wrap x) := by
  unfold U64 IntKind.wrap
  simp [IntKind.bits, IntKind.signed]
  omega
theorem getD_U64 {ms : List Int} (h : U64s ms) (i : Nat) : U64 (ms.getD i 0) := by
  rcases Nat.lt_or_ge i ms.length with hi | hi
  · rw [List.getD_eq_getElem?_getD, List.getElem?_eq_getElem hi]
    exact h _ (List.getElem_mem hi)
  · rw [List.getD_eq_getElem?_getD, List.getElem?_eq_none hi]
    exact ⟨by decide, by decide⟩
theorem set_U64 {ms : List Int} (h : U64s ms) (i : Nat) {x : Int} (hx : U64 x) : U64s (ms.set i x) := fun m hm => by
  rcases List.mem_or_eq_of_mem_set hm with h' | rfl
  · exact h m h'
  · exact hx
theorem tstep_U64 {ms : List Int} {t : Tc} (h : U64s ms) (hx : U64 t.x) (hy : U64 t.y) : U64s (tstep ms t).ms ∧ U64 (tstep ms t).got ∧ ((tstep ms t).code = 0 ∨ (tstep ms t).code = 2) := by
  have h0 : U64 0 := ⟨by decide, by decide⟩
  have hg := getD_U64 h t.ix.toNat
  unfold tstep
  repeat' split
  · exact ⟨set_U64 h _ hx, h0, .inl rfl⟩
  · exact ⟨set_U64 h _ (wrap_U64 _), hg, .inl rfl⟩
  · exact ⟨set_U64 h _ hy, h0, .inl rfl⟩
  · exact ⟨h, h0, .inl rfl⟩
  · exact ⟨h, hg, .inl rfl⟩
  · exact ⟨h, h0, .inr rfl⟩
def TcWf (l : List Tc) : Prop := ∀ t ∈ l, wfI t.ix ∧ U64 t.x ∧ U64 t.y
theorem getD_wf {l : List Tc} (h : TcWf l) (k : Nat) : wfI (l.getD k t0).ix ∧ U64 (l.getD k t0).x ∧ U64 (l.getD k t0).y := by
  rcases Nat.lt_or_ge k l.length with hi | hi
  · rw [List.getD_eq_getElem?_getD, List.getElem?_eq_getElem hi]
    exact h _ (List.getElem_mem hi)
  · rw [List.getD_eq_getElem?_getD, List.getElem?_eq_none hi]
    exact ⟨wfI_in (by decide) (by decide), ⟨by decide, by decide⟩, ⟨by decide, by decide⟩⟩
theorem stA_U64 {l : List Tc} {ms : List Int} (h : U64s ms) (hl : TcWf l) : ∀ k, U64s (stA l ms k)
  | 0 => h
  | k + 1 => (tstep_U64 (stA_U64 h hl k) (getD_wf hl k).2.1 (getD_wf hl k).2.2).1
theorem itoaL0 : Lib.itoa 0 = [48] := by decide +kernel
theorem itoaL2 : Lib.itoa 2 = [50] := by decide +kernel
theorem itoaS0 : itoaS 0 = ⟨#[48]⟩ := by unfold itoaS; rw [itoaL0]
theorem itoaS2 : itoaS 2 = ⟨#[50]⟩ := by unfold itoaS; rw [itoaL2]
theorem itoaS_code (c : Int) (h : c = 0 ∨ c = 2) : (itoaS c).size = 1 := by
  rcases h with rfl | rfl
  · rw [itoaS0]; rfl
  · rw [itoaS2]; rfl
theorem boolS_size (b : Bool) : (boolS b).size ≤ 5 := by cases b <;> decide
/-- How a touch lies in memory. -/
def tcc (t : Tc) : List Value := [.int .i64 t.wt, .int .i64 t.ix, .int .u64 t.x, .int .u64 t.y]
theorem tcc_len (t : Tc) : (tcc t).length = 4 := rfl
def flatT (l : List Tc) : List Value := l.flatMap tcc
theorem Reads.tc {w : World} {B n k : Nat} {A : Option Addr} {l : List Tc} (h : Reads w B 4 A n (flatT l)) (hn : l.length = n) (hk : k < n) :
    ∃ ad, A = some ad ∧ ad.block < B ∧ w.cell? (ad.add (k * 4)) = some (.int .i64 (l.getD k t0).wt) ∧ w.cell? ⟨(ad.add (k * 4)).block, (ad.add (k * 4)).off + 1, none⟩ = some (.int .i64 (l.getD k t0).ix) ∧
      w.cell? ⟨(ad.add (k * 4)).block, (ad.add (k * 4)).off + 2, none⟩ = some (.int .u64 (l.getD k t0).x) ∧ w.cell? ⟨(ad.add (k * 4)).block, (ad.add (k * 4)).off + 3, none⟩ = some (.int .u64 (l.getD k t0).y) := by
  have hk' : k < l.length := by omega
  have e0 : l.getD k t0 = l[k] := by rw [List.getD_eq_getElem?_getD, List.getElem?_eq_getElem hk']; rfl
  obtain ⟨ad, e, hb, hc⟩ := h.2 (by omega)
  have g := fun j hj => flatMap_get tcc_len l k j hk' hj
  rw [e0]
  refine ⟨ad, e, hb, hc _ _ (g 0 (by omega)), ?_, ?_, ?_⟩
  · rw [← add_split ad (k * 4) 0]; exact hc _ _ (g 1 (by omega))
  · rw [← add_split ad (k * 4) 1]; exact hc _ _ (g 2 (by omega))
  · rw [← add_split ad (k * 4) 2]; exact hc _ _ (g 3 (by omega))
end Go.Proofs.YtepoahinnfjaiaaDoor
