/-
  The walks of ScriptBytes, part four: a script as bytes, in the reference, where it may be. Conditions: the moves lie below this call's memory.
-/
import Derived.Test.YtepoahinnfjaiaaDoorScrC
namespace Go.Proofs.YtepoahinnfjaiaaDoor
open Go.RowKit Go.Extern.Stop Go.Stop Go.Extern

def PEncEnd (k n r : Int) (l : List Mv) (w : World) (e : Ending) (w' : World) : Prop := e = .returned (.tuple #[.string (encS k n r l), .int .i64 0]) ∧ Below w.heap.size w w'
theorem Tryd.info3' : (Tryd.prog.info? 3).map (fun i => (i.zero, i.size, i.bytes)) = some (some (.int .i64 0), 1, 8) := by kernel_rfl

set_option maxRecDepth 100000 in
set_option maxHeartbeats 4000000 in
theorem penc_ok (k n r : Int) (A : Option Addr) (len cap B : Nat) (l : List Mv) (w : World) (hl : l.length = len) (hlen : len ≤ 600) (hr : Reads w B 2 A len (flatM l)) (hB : B ≤ w.heap.size) (hH : HdOk k n r) (hM : MvOk n l) :
    Calls Tryd.prog 31 #[scv k n r A len cap] w (PEncEnd k n r l w) := by
  obtain ⟨i0, hi0, hz0, hzs1, hz2⟩ := info_parts Tryd.info3'
  have hmm := @run_makeMap Tryd.prog
  have HL := Lib.hid hl
  have hok : scB k n r l = true := by simp [scB, hH, hM]
  have hsr := (pright_any' k n r A len cap B l (w.alloc (scb k n r A len cap)) hl hlen (hr.alloc hB _) (by simp; omega)).mono (R' := fun e w' => e = .returned (.bool true) ∧ Below (w.heap.size + 1) (w.alloc (scb k n r A len cap)) w') (fun e w' h => by
    obtain ⟨h1, h2⟩ := h; rw [hok] at h1; simp only [World.size_alloc] at h2; exact ⟨h1, h2⟩)
  have HS := Lib.hid hsr
  have HM := Lib.hid hM
  clear hl hsr hM hok
  obtain ⟨q1, q2, q3, q4, q5, q6⟩ := hH
  go_enter Tryd.func31, Tryd.ntmps31
  go_wp2_with (go_at_call 34; refine HS.out.mono ?_; rintro e w1 ⟨rfl, hb1⟩; obtain ⟨hc1, hf1⟩ := bcell (W := w.alloc (scb k n r A len cap)) (by simpa using hb1); have hz1 : w.heap.size < w1.heap.size := (by have := hb1.size; simp at this; omega))
  have hB1 : Below w.heap.size w w1 := ((Below.refl _ _).alloc (Nat.le_refl _) (scb k n r A len cap)).trans (hb1.mono (by omega))
  have hO := World.ownsRow_lit (base := w.heap.size + 1) (e := 3) (size := 1) w1 #[.int .i64 (k - 1), .int .i64 (n - 1), .int .i64 r] 3 (by omega) (by unfold maxLen; omega) rfl
  have hB2 := hB1.alloc hB1.size (.cells #[.int .i64 (k - 1), .int .i64 (n - 1), .int .i64 r] 3)
  clear hb1 hc1 hf1
  go_loopw [25, 4, 6] (fun i v _ wr => ∃ j : Nat, j ≤ len ∧ i = .int .i64 j ∧ wr.ownsRow (w.heap.size + 1) 3 1 v (3 + j) (((encN k n r l).take (3 + j)).map (Value.int .i64)) ∧ Below w.heap.size w wr ∧ w.heap.size + 1 ≤ wr.heap.size) (fun i _ _ _ => len - (intOf i).toNat)
  case atStart => exact ⟨0, Nat.zero_le _, rfl, hO, hB2, by simp; omega⟩
  case round =>
    obtain ⟨j, hj, rfl, hown, hbel, hsz⟩ := hrel
    by_cases hlt2 : j < len
    · obtain ⟨ad, rfl, _, c0, c1⟩ := (hr.below (hbel.mono hB)).mv HL.out (k := j) hlt2
      have hjl : j < l.length := by rw [HL.out]; exact hlt2
      have hth := HM.out l[j] (List.getElem_mem hjl)
      generalize hv : l[j] = v at *
      obtain ⟨th, po⟩ := v
      simp only at c0 c1 hth
      have HV := Lib.hid hv
      clear hv
      obtain ⟨t0, t1⟩ := hth
      obtain ⟨w3, w4, hr1, hr2, hlk, hb4⟩ := bool_map (wr.alloc (.cells #[.int .i64 th, .bool po] 136))
      have hlkp := hlk po
      have hb4' := (bcell hb4).1
      have hz4 : wr.heap.size < w4.heap.size := by have := hb4.size; simp at this; omega
      have hbA := (hbel.alloc hbel.size (.cells #[.int .i64 th, .bool po] 136)).trans (hb4.mono (by have := hbel.size; simp; omega))
      have hown4 := own_below (hown.alloc (.cells #[.int .i64 th, .bool po] 136)) hb4 (fun g hg => by have := (hown.lt g hg).2; simp; omega)
      simp only [World.size_alloc] at hr1 hr2 hlkp
      have HK := Lib.hid hlk
      clear hlk
      have e224 : 0 ≤ (if po = true then (224 : Int) else 0) ∧ (if po = true then (224 : Int) else 0) ≤ 224 := by split <;> omega
      generalize hp : (if po = true then (224 : Int) else 0) = pv at *
      have HP := Lib.hid hp
      clear hp
      obtain ⟨p0, p1⟩ := e224
      go_wp2_with (at_builtin; (refine wpList_append_own _ rfl (.tmp 29) (.tmp 38) 50 rfl (w.heap.size + 1) 3 i0 _ 1 8 Tryd.underlying50 hi0 hz0 hzs1 hz2 rfl (by omega) u4 (3 + j) _ rfl (hown4.alloc _) ⟨w4.heap.size, 0, none⟩ 1 1 [.int .i64 (th + pv)] rfl rfl ?_ ?_ ?_ ?_ ?_ ?_); (exact cell_one_new w4 (.int .i64 (th + pv)) 3); (simp [Value.oneCell']); (unfold maxLen; omega); (omega); (simp; omega); intro v' w2 hown2 hg2 hnil2)
      have hlb : ∀ g, u4.ownBlock = some g → w.heap.size ≤ g := fun g hg => by have := (hown.lt g hg).1; omega
      have hb2 := (hbA.alloc hbA.size (.cells #[.int .i64 (th + pv)] 3)).grown hg2 (by have := hbA.size; simp; omega) hlb
      go_roundw
      case rel =>
        refine ⟨j + 1, by omega, by go_num, ?_, hb2, by have := hg2.size; simp at this; omega⟩
        have e : List.map (Value.int .i64) [mvn l[j]] = [.int .i64 (th + pv)] := by rw [HV.out, ← HP.out]; rfl
        rw [encN_take (by rw [HL.out]; exact hlt2), List.map_append, e]
        exact hown2
      case measure => simp [intOf]; omega
    · obtain rfl : j = len := by omega
      have hL : (encN k n r l).length = 3 + j := by simp [encN, HL.out]; omega
      rw [List.take_of_length_le (by rw [hL]; exact Nat.le_refl _)] at hown
      have hrange : ∀ x ∈ encN k n r l, 0 ≤ x ∧ x < 256 := by
        intro x hx
        simp only [encN, List.mem_cons, List.mem_map] at hx
        rcases hx with rfl | rfl | rfl | ⟨m, hm, rfl⟩
        · omega
        · omega
        · omega
        · have := HM.out m hm
          unfold mvn
          split <;> omega
      have HRG := Lib.hid hrange
      have HLN := Lib.hid hL
      have hcells := fun g hg => hown.cells (g := g) hg
      have hlt0 := hown.lt
      have hform := hown.2
      have HBL := Lib.hid hbel
      have hs0 := hbel.size
      rcases hform with ⟨_, h0⟩ | ⟨g, cap', cur, rfl, _⟩
      · omega
      · have HCL := Lib.hid (hcells g rfl)
        have hglt := (hlt0 g rfl).2
        clear hcells hlt0 hown hrange hL hO hB2
        obtain ⟨wo, rfl⟩ : ∃ wo : World, wo = wr := ⟨_, rfl⟩
        go_wp2
        go_loopw [43, 7, 9] (fun i s _ wr => ∃ q : Nat, q ≤ 3 + j ∧ i = .int .i64 q ∧ s = .string ⟨(((encN k n r l).take q).map fun x => UInt8.ofNat x.toNat).toArray⟩ ∧ Below wo.heap.size wo wr) (fun i _ _ _ => 3 + j - (intOf i).toNat)
        case atStart => exact ⟨0, Nat.zero_le _, rfl, rfl, Below.refl _ _⟩
        case round =>
          obtain ⟨q, hq, rfl, rfl, hbw⟩ := hrel
          by_cases hlt3 : q < 3 + j
          · have hql : q < (encN k n r l).length := by rw [HLN.out]; exact hlt3
            have hx := HRG.out _ (List.getElem_mem hql)
            have hc := HCL.out q (.int .i64 (encN k n r l)[q]) (by rw [List.getElem?_map, List.getElem?_eq_getElem hql]; rfl)
            have hc2 : wr.cell? ⟨g, q, none⟩ = some (.int .i64 (encN k n r l)[q]) := by
              rw [hbw.cell (p := ⟨g, q, none⟩) hglt]
              have e : Addr.add ⟨g, 0, none⟩ q = ⟨g, q, none⟩ := by unfold Addr.add; split <;> simp_all
              rw [← e]; exact hc
            have HT := Lib.hid (List.take_succ_eq_append_getElem hql)
            generalize hxx : (encN k n r l)[q] = x at *
            obtain ⟨x0, x1⟩ := hx
            clear hc hxx
            have hcv : (convert 138 9 (.slice (some ⟨wr.heap.size, 0, none⟩) 1 1)).run Tryd.prog (wr.alloc (.cells #[.int .u8 x] 5)) = .ok (.string ⟨#[UInt8.ofNat x.toNat]⟩) (wr.alloc (.cells #[.int .u8 x] 5)) := by
              have h := run_convert_bytes_back (P := Tryd.prog) (wr.alloc (.cells #[.int .u8 x] 5)) 138 9 5 ⟨wr.heap.size, 0, none⟩ 1 [UInt8.ofNat x.toNat] Tryd.underlying138 Tryd.underlying5 Tryd.underlying9 (fun i hi => by
                have hi0 : i = 0 := by simpa using hi
                subst hi0
                have := cell_one_new wr (.int .u8 x) 5 0 _ rfl
                rw [this]
                simp only [List.getElem_cons_zero]
                congr 2
                rw [UInt8.toNat_ofNat']
                omega)
              exact h
            go_wp2
            go_roundw
            case rel =>
              refine ⟨q + 1, by omega, by go_num, ?_, hbw.alloc hbw.size _⟩
              rw [HT.out, List.map_append]
              congr 1
              apply ByteArray.ext
              simp [List.map_take]
            case measure => simp [intOf]; omega
          · obtain rfl : q = 3 + j := by omega
            go_wp2
            go_ret2
            refine ⟨?_, HBL.out.trans (hbw.mono (by omega))⟩
            have e : (encN k n r l).take (3 + j) = encN k n r l := List.take_of_length_le (by rw [HLN.out]; exact Nat.le_refl _)
            rw [e]
            rfl
end Go.Proofs.YtepoahinnfjaiaaDoor
