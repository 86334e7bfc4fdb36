/-
  The law ScriptBytes is proved here, as a walk: both texts answer alike at every script and text. Conditions: errors.errorType is laid; the moves lie below this call's memory; neither is beyond all addresses.
-/
import Derived.Test.YtepoahinnfjaiaaDoorScrD
import Derived.Test.YtepoahinnfjaiaaDoorScrG
import Derived.Test.YtepoahinnfjaiaaDoorErr
import Derived.Deep.RegionHeld3
import Derived.Deep.DeepMust
namespace Go.Proofs.YtepoahinnfjaiaaDoor
open Go.RowKit Go.Extern.Stop Go.Stop Go.Extern

/-- What both encoders answer. -/
structure EncIs (k n r : Int) (l : List Mv) (S : ByteArray) (E : Int) : Prop where
  prog : ∀ (A : Option Addr) (len cap B : Nat) (w : World), l.length = len → len ≤ 600 → Reads w B 2 A len (flatM l) → B ≤ w.heap.size → Calls Tryd.prog 32 #[scv k n r A len cap] w fun e w' => e = .returned (.tuple #[.string S, errV E]) ∧ Below w.heap.size w w'
  ref : ∀ (A : Option Addr) (len cap B : Nat) (w : World), l.length = len → len ≤ 600 → Reads w B 2 A len (flatM l) → B ≤ w.heap.size → Calls Tryd.prog 31 #[scv k n r A len cap] w fun e w' => e = .returned (.tuple #[.string S, .int .i64 E]) ∧ Below w.heap.size w w'
theorem enc_is (k n r : Int) (l : List Mv) : ∃ S E, EncIs k n r l S E := by
  by_cases h : HdOk k n r ∧ MvOk n l
  · exact ⟨encS k n r l, 0, fun A len cap B w h1 h2 h3 h4 => enc_ok k n r A len cap B l w h1 h2 h3 h4 h.1 h.2, fun A len cap B w h1 h2 h3 h4 => penc_ok k n r A len cap B l w h1 h2 h3 h4 h.1 h.2⟩
  · exact ⟨⟨#[]⟩, 1, fun A len cap B w h1 h2 h3 h4 => enc_f k n r A len cap B l w h1 h2 h3 h4 h, fun A len cap B w h1 h2 h3 h4 => penc_f k n r A len cap B l w h1 h2 h3 h4 h⟩

set_option maxRecDepth 100000 in
set_option maxHeartbeats 2000000 in
theorem law_script (k n r : Int) (A : Option Addr) (len cap : Nat) (l : List Mv) (s : ByteArray) (w : World) (hl : l.length = len) (h47 : len ≤ 140737488355328) (hs47 : s.size ≤ 140737488355328) (hr : Reads w w.heap.size 2 A len (flatM l)) (hg : HasErr w) :
    Calls Tryd.prog 7 #[scv k n r A len cap, .string s] w fun e w' => e = .returned (.bool true) ∧ Below w.heap.size w w' := by
  by_cases hlen : len + s.size ≤ 600
  · obtain ⟨S, E, hE⟩ := enc_is k n r l
    have HL := Lib.hid hl
    have HR := Lib.hid hr
    have HE := Lib.hid hE
    have HD := Lib.hid (dec_calls s)
    have HPD := Lib.hid (pdec_calls s)
    have hlen6 : len ≤ 600 := by omega
    have hs6 : s.size ≤ 600 := by omega
    have hdl : (decL s.data.toList).length ≤ 1000 := by
      unfold decL; simp only [List.length_map, List.length_drop]; have := ba_len s; omega
    have HDL := Lib.hid hdl
    clear hl hr hE hdl
    go_enter Tryd.func7, Tryd.ntmps7
    go_wp2_with (first
      | (go_at_call 31; refine (HE.out.ref A len cap w.heap.size _ HL.out hlen6 (HR.out.alloc (Nat.le_refl _) _) (by simp)).mono ?_; rintro e w1 ⟨rfl, hb1⟩; have hc1 := (bcell hb1).1; have hz1 : w.heap.size < w1.heap.size := (by have := hb1.size; simp at this; omega))
      | (go_at_call 32; refine (HE.out.prog A len cap w.heap.size _ HL.out hlen6 ((HR.out.alloc (Nat.le_refl _) _).below (hb1.mono (by simp))) (by omega)).mono ?_; rintro e w2 ⟨rfl, hb2⟩))
    have hB2 : Below w.heap.size w w2 := by
      have h0 : Below w.heap.size w (w.alloc (scb k n r A len cap)) := (Below.refl _ _).alloc (Nat.le_refl _) _
      have h1 := h0.trans (hb1.mono h0.size)
      exact h1.trans (hb2.mono h1.size)
    have hP : Blk w2 w.heap.size 57 #[.int .i64 k, .int .i64 n, .int .i64 r, .slice A len cap] := by
      have h0 := Blk.new w 57 #[.int .i64 k, .int .i64 n, .int .i64 r, .slice A len cap]
      have h1 := h0.below hb1 h0.lt
      exact h1.below hb2 h1.lt
    have HR2 := Lib.hid (HR.out.below hB2)
    have hg2 := hg.below hB2 hg.lt
    have p0 := hP.cell 0
    have p1 := hP.cell 1
    have p2 := hP.cell 2
    have p3 := hP.cell 3
    simp at p0 p1 p2 p3
    have lP := hP.lt
    have hz2 := hB2.size
    clear hb1 hb2 hc1 hz1 hP hg
    go_region_held3 (fun w' => Below w2.heap.size w2 w' ∧ ∀ b o, b < w2.heap.size → w'.cell? ⟨b, o, none⟩ = w2.cell? ⟨b, o, none⟩)
      (first | exact ks_below (ks_refl _) (Below.refl _ _).drew | exact ks_below (by assumption) hb6 | exact ks_below (by assumption) hbA | exact ks_below (by assumption) hbB | exact ks_alloc (by assumption) _ | go_keep)
      ((first
        | (go_at_call 14
           refine (bare_any _ _ ?_).mono ?_
           · exact hg2.below (And.left (by assumption)) hg2.lt
           rintro e w6 ⟨rfl, hb6⟩)
        | (go_at_call 33
           refine (sright k n r A len cap w.heap.size l _ HL.out hlen6 ?_ ?_).mono ?_
           · exact HR2.out.below (Below.mono (And.left (by assumption)) hz2)
           · exact Nat.le_trans hz2 (Below.size (And.left (by assumption)))
           rintro e w6 ⟨rfl, hb6⟩)
        | (go_at_call 34
           refine (pright_any' k n r A len cap w.heap.size l _ HL.out hlen6 ?_ ?_).mono ?_
           · exact HR2.out.below (Below.mono (And.left (by assumption)) hz2)
           · exact Nat.le_trans hz2 (Below.size (And.left (by assumption)))
           rintro e w6 ⟨rfl, hb6⟩)
        | (go_at_call 36
           refine (HD.out _ hs6).mono ?_
           rintro e wA ⟨A1, c1, rfl, hrA, hbA⟩)
        | (go_at_call 37
           refine (HPD.out _ hs6).mono ?_
           rintro e wB ⟨A2, c2, rfl, hrB, hbB⟩)
        | (go_at_call 35
           refine (same_calls _ _ _ A1 A2 _ c1 c2 wA.heap.size wB.heap.size (decL s.data.toList) _ rfl ?_ ?_ ?_ ?_ HDL.out).mono ?_
           · first | exact hrA | exact hrA.below hbB
           · first | exact hrB | exact hrB.below hbA
           · first | exact Nat.le_refl _ | exact hbB.size
           · first | exact Nat.le_refl _ | exact hbA.size
           rintro e w6 ⟨rfl, hb6⟩)))
    go_wp2
    go_ret
    exact ⟨rfl, ks_end hB2 (by assumption)⟩
  · have hlen' : 600 < (len : Int) + (s.size : Int) := by omega
    clear hr
    go_enter Tryd.func7, Tryd.ntmps7
    go_wp2
    go_ret
    exact ⟨rfl, (Below.refl _ _).alloc (Nat.le_refl _) _⟩
end Go.Proofs.YtepoahinnfjaiaaDoor
