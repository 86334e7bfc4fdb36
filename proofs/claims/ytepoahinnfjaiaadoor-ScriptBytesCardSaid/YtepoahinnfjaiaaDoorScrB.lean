/-
  The walks of ScriptBytes, part two: a script as bytes, in the program. Conditions: the moves lie below this call's memory.
-/
import Derived.Test.YtepoahinnfjaiaaDoorScrA
import Derived.Laws.IdiomStrings
import Derived.OwnWalk
import Derived.Maps.AppendAt
namespace Go.Proofs.YtepoahinnfjaiaaDoor
open Go.RowKit Go.Extern.Stop Go.Stop Go.Extern

def mvn (m : Mv) : Int := m.th + (if m.po then 224 else 0)
/-- The numbers of a script's bytes. -/
def encN (k n r : Int) (l : List Mv) : List Int := (k - 1) :: (n - 1) :: r :: l.map mvn
def encS (k n r : Int) (l : List Mv) : ByteArray := ⟨((encN k n r l).map fun x => UInt8.ofNat x.toNat).toArray⟩
theorem Tryd.info5 : (Tryd.prog.info? 5).map (fun i => (i.zero, i.size, i.bytes)) = some (some (.int .u8 0), 1, 1) := by kernel_rfl
theorem encN_take {k n r : Int} {l : List Mv} {j : Nat} (h : j < l.length) : (encN k n r l).take (3 + (j + 1)) = (encN k n r l).take (3 + j) ++ [mvn l[j]] := by
  have h1 : 3 + j < (encN k n r l).length := by simp [encN]; omega
  have h2 : (encN k n r l)[3 + j] = mvn l[j] := by
    have e : 3 + j = j + 1 + 1 + 1 := by omega
    simp only [encN, e, List.getElem_cons_succ, List.getElem_map]
  rw [show 3 + (j + 1) = 3 + j + 1 by omega, List.take_succ_eq_append_getElem h1, h2]
def EncEnd (k n r : Int) (l : List Mv) (w : World) (e : Ending) (w' : World) : Prop := e = .returned (.tuple #[.string (encS k n r l), .nilIface]) ∧ Below w.heap.size w w'

set_option maxRecDepth 100000 in
set_option maxHeartbeats 2000000 in
theorem enc_ok (k n r : Int) (A : Option Addr) (len cap B : Nat) (l : List Mv) (w : World) (hl : l.length = len) (hlen : len ≤ 600) (hr : Reads w B 2 A len (flatM l)) (hB : B ≤ w.heap.size) (hH : HdOk k n r) (hM : MvOk n l) :
    Calls Tryd.prog 32 #[scv k n r A len cap] w (EncEnd k n r l w) := by
  obtain ⟨i0, hi0, hz0, hzs1, hz2⟩ := info_parts Tryd.info5
  have HL := Lib.hid hl
  have hok : scB k n r l = true := by simp [scB, hH, hM]
  have hsr := (sright k n r A len cap B l (w.alloc (scb k n r A len cap)) hl hlen (hr.alloc hB _) (by simp; omega)).mono (R' := fun e w' => e = .returned (.bool true) ∧ Below (w.heap.size + 1) (w.alloc (scb k n r A len cap)) w') (fun e w' h => by
    obtain ⟨h1, h2⟩ := h; rw [hok] at h1; simp only [World.size_alloc] at h2; exact ⟨h1, h2⟩)
  have HS := Lib.hid hsr
  have HM := Lib.hid hM
  clear hl hsr hM hok
  obtain ⟨q1, q2, q3, q4, q5, q6⟩ := hH
  go_enter Tryd.func32, Tryd.ntmps32
  go_wp2_with (go_at_call 33; refine HS.out.mono ?_; rintro e w1 ⟨rfl, hb1⟩; obtain ⟨hc1, hf1⟩ := bcell (W := w.alloc (scb k n r A len cap)) (by simpa using hb1); have hz1 : w.heap.size < w1.heap.size := (by have := hb1.size; simp at this; omega))
  have hB1 : Below w.heap.size w w1 := ((Below.refl _ _).alloc (Nat.le_refl _) (scb k n r A len cap)).trans (hb1.mono (by omega))
  have hO := World.ownsRow_lit (base := w.heap.size + 1) (e := 5) (size := 1) w1 #[.int .u8 (k - 1), .int .u8 (n - 1), .int .u8 r] 3 (by omega) (by unfold maxLen; omega) rfl
  have hB2 := hB1.alloc hB1.size (.cells #[.int .u8 (k - 1), .int .u8 (n - 1), .int .u8 r] 5)
  clear hb1 hc1 hf1
  go_loopw [27, 4, 6, 7] (fun i v _ _ wr => ∃ j : Nat, j ≤ len ∧ i = .int .i64 j ∧ wr.ownsRow (w.heap.size + 1) 5 1 v (3 + j) (((encN k n r l).take (3 + j)).map (Value.int .u8)) ∧ Below w.heap.size w wr ∧ w.heap.size + 1 ≤ wr.heap.size) (fun i _ _ _ _ => len - (intOf i).toNat)
  case atStart => exact ⟨0, Nat.zero_le _, rfl, hO, hB2, by simp; omega⟩
  case round =>
    obtain ⟨j, hj, rfl, hown, hbel, hsz⟩ := hrel
    by_cases hlt2 : j < len
    · obtain ⟨ad, rfl, _, c0, c1⟩ := (hr.below (hbel.mono hB)).mv HL.out (k := j) hlt2
      have hjl : j < l.length := by rw [HL.out]; exact hlt2
      have hth := HM.out l[j] (List.getElem_mem hjl)
      generalize hv : l[j] = v at *
      obtain ⟨th, po⟩ := v
      simp only at c0 c1 hth
      have HV := Lib.hid hv
      clear hv
      obtain ⟨t0, t1⟩ := hth
      cases po
      · go_wp2_with (at_builtin; (refine wpList_append_own _ rfl (.tmp 37) (.tmp 40) 138 rfl (w.heap.size + 1) 5 i0 _ 1 1 Tryd.underlying138 hi0 hz0 hzs1 hz2 rfl (by omega) u4 (3 + j) _ rfl ((hown.alloc _).alloc _) ⟨wr.heap.size + 1, 0, none⟩ 1 1 [.int .u8 (th)] rfl rfl ?_ ?_ ?_ ?_ ?_ ?_); (have := cell_one_new (wr.alloc (.cells (mvc ⟨th, false⟩).toArray 136)) (.int .u8 (th)) 5; simp only [World.size_alloc] at this; exact this); (simp [Value.oneCell']); (unfold maxLen; omega); (omega); (simp; omega); intro v' w2 hown2 hg2 hnil2)
        have hlb : ∀ g, u4.ownBlock = some g → w.heap.size ≤ g := fun g hg => by have := (hown.lt g hg).1; omega
        have hb2 := ((hbel.alloc hbel.size (.cells (mvc ⟨th, false⟩).toArray 136)).alloc (by have := hbel.size; simp; omega) (.cells #[.int .u8 (th)] 5)).grown hg2 (by have := hbel.size; simp; omega) hlb
        go_roundw
        case rel =>
          refine ⟨j + 1, by omega, by go_num, ?_, hb2, by have := hg2.size; simp at this; omega⟩
          have e : List.map (Value.int .u8) [mvn l[j]] = [.int .u8 (th)] := by rw [HV.out]; simp [mvn]
          rw [encN_take (by rw [HL.out]; exact hlt2), List.map_append, e]
          exact hown2
        case measure => simp [intOf]; omega
      · go_wp2_with (at_builtin; (refine wpList_append_own _ rfl (.tmp 37) (.tmp 40) 138 rfl (w.heap.size + 1) 5 i0 _ 1 1 Tryd.underlying138 hi0 hz0 hzs1 hz2 rfl (by omega) u4 (3 + j) _ rfl ((hown.alloc _).alloc _) ⟨wr.heap.size + 1, 0, none⟩ 1 1 [.int .u8 (th + 224)] rfl rfl ?_ ?_ ?_ ?_ ?_ ?_); (have := cell_one_new (wr.alloc (.cells (mvc ⟨th, true⟩).toArray 136)) (.int .u8 (th + 224)) 5; simp only [World.size_alloc] at this; exact this); (simp [Value.oneCell']); (unfold maxLen; omega); (omega); (simp; omega); intro v' w2 hown2 hg2 hnil2)
        have hlb : ∀ g, u4.ownBlock = some g → w.heap.size ≤ g := fun g hg => by have := (hown.lt g hg).1; omega
        have hb2 := ((hbel.alloc hbel.size (.cells (mvc ⟨th, true⟩).toArray 136)).alloc (by have := hbel.size; simp; omega) (.cells #[.int .u8 (th + 224)] 5)).grown hg2 (by have := hbel.size; simp; omega) hlb
        go_roundw
        case rel =>
          refine ⟨j + 1, by omega, by go_num, ?_, hb2, by have := hg2.size; simp at this; omega⟩
          have e : List.map (Value.int .u8) [mvn l[j]] = [.int .u8 (th + 224)] := by rw [HV.out]; simp [mvn]
          rw [encN_take (by rw [HL.out]; exact hlt2), List.map_append, e]
          exact hown2
        case measure => simp [intOf]; omega
    · obtain rfl : j = len := by omega
      have hL : (encN k n r l).length = 3 + j := by simp [encN, HL.out]; omega
      rw [List.take_of_length_le (by rw [hL]; exact Nat.le_refl _)] at hown
      rcases hown.2 with ⟨_, h0⟩ | ⟨g, cap', cur, rfl, _⟩
      · omega
      · have hrange : ∀ x ∈ encN k n r l, 0 ≤ x ∧ x < 256 := by
          intro x hx
          simp only [encN, List.mem_cons, List.mem_map] at hx
          rcases hx with rfl | rfl | rfl | ⟨m, hm, rfl⟩
          · omega
          · omega
          · omega
          · have := HM.out m hm
            unfold mvn
            split <;> omega
        have hcv : (convert 138 9 (.slice (some ⟨g, 0, none⟩) (3 + j) cap')).run Tryd.prog wr = .ok (.string (encS k n r l)) wr := by
          have h := run_convert_bytes_back (P := Tryd.prog) wr 138 9 5 ⟨g, 0, none⟩ cap' ((encN k n r l).map fun x => UInt8.ofNat x.toNat) Tryd.underlying138 Tryd.underlying5 Tryd.underlying9 (fun i hi => by
            have hi' : i < (encN k n r l).length := by simpa using hi
            refine hown.cells (g := g) rfl i _ ?_
            have hx := hrange _ (List.getElem_mem hi')
            rw [List.getElem?_map, List.getElem?_eq_getElem hi']
            simp only [Option.map_some, List.getElem_map]
            congr 2
            rw [UInt8.toNat_ofNat']
            omega)
          rw [List.length_map, hL] at h
          exact h
        clear hown hL
        have HB := Lib.hid hbel
        go_wp2
        go_ret2
        exact ⟨rfl, HB.out⟩
end Go.Proofs.YtepoahinnfjaiaaDoor
