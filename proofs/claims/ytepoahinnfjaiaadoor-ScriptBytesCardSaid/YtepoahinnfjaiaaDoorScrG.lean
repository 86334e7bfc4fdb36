/-
  The walks of ScriptBytes, part seven: the script that any bytes are, in the reference. Conditions: the text is not long.
-/
import Derived.Test.YtepoahinnfjaiaaDoorScrF
import Derived.Deep.RegionLaw
import Derived.Deep.RegionHeld3
import Derived.Deep.AppendLies
namespace Go.Proofs.YtepoahinnfjaiaaDoor
open Go.RowKit Go.Extern.Stop Go.Stop Go.Extern

theorem run_copy_str {P : Program} (w : World) (dT sT ty elem : TypeId) (b o dLen dCap : Nat) (t : ByteArray)
    (hu : P.underlying dT = some (.slice elem)) (hz : ∀ w, (Go.sizeOf elem).run P w = .ok 1 w)
    (hc : ∀ j, j < dLen → (w.cell? ⟨b, o + j, none⟩).isSome = true) (hf : ∀ j, j < dLen → w.frozen? ⟨b, o + j, none⟩ = false) :
    (Builtin.copy_ #[dT, sT] ty #[.slice (some ⟨b, o, none⟩) dLen dCap, .string t]).run P w = .ok (goInt (Nat.min t.size dLen)) (w.setCells b o ((t.data.toList.map fun x => Value.int .u8 (x.toNat : Int)).take (Nat.min t.size dLen))) := by
  have hl : ((t.data.toList.map fun x => Value.int .u8 (x.toNat : Int)).take (Nat.min t.size dLen)).length ≤ dLen := by
    rw [List.length_take]; exact Nat.le_trans (Nat.min_le_left _ _) (Nat.min_le_right _ _)
  have hst := run_storeCells_cells (P := P) b o ((t.data.toList.map fun x => Value.int .u8 (x.toNat : Int)).take (Nat.min t.size dLen)) 0 w (fun j hj => by simpa using hc j (by omega)) (fun j hj => by simpa using hf j (by omega)) (by
    intro v hv
    obtain ⟨x, _, rfl⟩ := List.mem_map.1 (List.mem_of_mem_take hv)
    rfl)
  simp [Builtin.copy_, run_underlying hu, Builtin.lenOf, Builtin.firstCells, hz]
  rw [hst]
  rfl
theorem head_set (w : World) (l : List UInt8) (m : Nat) (hm : m = Nat.min l.length 3) : (w.alloc (.cells #[.int .u8 0, .int .u8 0, .int .u8 0] 5)).setCells w.heap.size 0 ((l.map fun x => Value.int .u8 (x.toNat : Int)).take m) = w.alloc (.cells #[.int .u8 (byt l 0), .int .u8 (byt l 1), .int .u8 (byt l 2)] 5) := by
  subst hm
  match l with
  | [] => rfl
  | [a] => simp [World.setCells, byt]; go_simp
  | [a, b] => simp [World.setCells, byt]; go_simp
  | a :: b :: c :: r =>
    have e : Nat.min (a :: b :: c :: r).length 3 = 3 := Nat.min_eq_right (by simp)
    rw [e]
    simp [World.setCells, byt]; go_simp
theorem copy_head (w : World) (s : ByteArray) (ty : TypeId) : (Builtin.copy_ #[138, 9] ty #[.slice (some ⟨w.heap.size, 0, none⟩) 3 3, .string s]).run Tryd.prog (w.alloc (.cells #[.int .u8 0, .int .u8 0, .int .u8 0] 5)) =
    .ok (goInt (Nat.min s.size 3)) (w.alloc (.cells #[.int .u8 (byt s.data.toList 0), .int .u8 (byt s.data.toList 1), .int .u8 (byt s.data.toList 2)] 5)) := by
  have hB := Blk.new w 5 #[.int .u8 0, .int .u8 0, .int .u8 0]
  rw [run_copy_str _ 138 9 ty 5 w.heap.size 0 3 3 s Tryd.underlying138 (by intro w; kernel_rfl) (fun j hj => by rw [hB.cell]; match j with | 0 => rfl | 1 => rfl | 2 => rfl | j + 3 => omega) (fun j _ => hB.frozen _)]
  rw [head_set w s.data.toList (Nat.min s.size 3) (by rw [ba_len])]
theorem byt_bd (l : List UInt8) (i : Nat) : 0 ≤ byt l i ∧ byt l i ≤ 255 := by
  unfold byt
  have := (l.getD i 0).toNat_lt
  omega
theorem pdec_start (w w1 : World) (g : Nat) (t : List UInt8) (k n r : Int) (s : ByteArray) (hs : s.data.toList = t.drop 3) (hA : Blk w1 g 57 #[.int .i64 k, .int .i64 n, .int .i64 r, .slice none 0 0])
    (hB : Blk w1 w.heap.size 57 #[.int .i64 0, .int .i64 0, .int .i64 0, .slice none 0 0]) (hb0 : Below w.heap.size w w1) (hsz : w1.heap.size = g + 1) (hwg : w.heap.size < g) :
    DecRel w g t k n r 0 (.slice none 0 0) (Lib.bytesWorld w1 5 s) := by
  have hb := bytes_below w1 s
  refine ⟨hA.below hb (by omega), hB.below hb (by omega), ⟨by simp [flatM], .inl ⟨rfl, rfl⟩⟩, fun j u hu => ?_, hb0.trans (hb.mono (by omega)), by rw [Lib.bytesWorld_size, hsz]; omega, hwg⟩
  have hj : j < s.data.toList.length := by rw [hs]; exact (List.getElem?_eq_some_iff.1 hu).1
  have := Lib.bytesWorld_cell w1 5 s j (by rw [← ba_len]; exact hj)
  rw [hsz] at this
  rw [this, hs, List.getD_eq_getElem?_getD, hu]
  rfl
set_option maxRecDepth 100000 in
set_option maxHeartbeats 2000000 in
theorem pdec_calls (s : ByteArray) (w : World) (hs : s.size ≤ 600) :
    Calls Tryd.prog 37 #[.string s] w (DecEnd s.data.toList w) := by
  have hcv := fun (W : World) (s : ByteArray) => Lib.run_convert_string_bytes (P := Tryd.prog) W 9 138 5 s Tryd.underlying9 Tryd.underlying138 Tryd.underlying5
  have hcp := copy_head (w.alloc (.cells #[.int .i64 0, .int .i64 0, .int .i64 0, .slice none 0 0] 57)) s 3
  simp only [World.size_alloc] at hcp
  obtain ⟨kk, hkk⟩ : ∃ x, 1 + byt s.data.toList 0 % 6 = x := ⟨_, rfl⟩
  obtain ⟨nn, hnn⟩ : ∃ x, decN s.data.toList = x := ⟨_, rfl⟩
  obtain ⟨rr, hrr⟩ : ∃ x, byt s.data.toList 2 % 6 = x := ⟨_, rfl⟩
  obtain ⟨M, hMM⟩ : ∃ x, (decL s.data.toList).length = x := ⟨_, rfl⟩
  have n01 : 1 ≤ nn ∧ nn ≤ 8 := by rw [← hnn]; unfold decN; omega
  obtain ⟨n0, n1⟩ := n01
  have hM6 : M ≤ 600 := by
    rw [← hMM]; unfold decL; simp only [List.length_map, List.length_drop]; have := ba_len s; omega
  have HK := Lib.hid hkk
  have HN := Lib.hid hnn
  have HR := Lib.hid hrr
  have HLM := Lib.hid hMM
  obtain ⟨i0, hi0, hz0, hzs1, hz2⟩ := info_parts Tryd.info136
  obtain ⟨a0, a1⟩ := byt_bd s.data.toList 0
  obtain ⟨b0, b1⟩ := byt_bd s.data.toList 1
  obtain ⟨c0, c1⟩ := byt_bd s.data.toList 2
  obtain ⟨m, hm⟩ : ∃ m, Nat.min s.size 3 = m := ⟨_, rfl⟩
  rw [hm] at hcp
  have hx : (s.extract m s.size).data.toList = s.data.toList.drop 3 := by
    rw [Go.Lib.extract_data]
    have e := ba_len s
    rcases Nat.lt_or_ge s.size 3 with h | h
    · have hm' : m = s.size := by rw [← hm]; exact Nat.min_eq_left (by omega)
      rw [List.drop_eq_nil_of_le (by omega), List.drop_eq_nil_of_le (by omega), List.take_nil]
    · have hm' : m = 3 := by rw [← hm]; exact Nat.min_eq_right h
      rw [hm', List.take_of_length_le (by simp)]
  have hML : s.size - m = M := by
    have h := congrArg List.length hx
    rw [ba_len, ByteArray.size_extract] at h
    rw [← hMM]
    unfold decL
    rw [List.length_map, ← h]; omega
  have m0 : m ≤ s.size := by rw [← hm]; exact Nat.min_le_left _ _
  have hk0 : byt s.data.toList 0 % 6 + 1 = kk := by rw [← hkk]; omega
  have hk1 : byt s.data.toList 1 % 8 + 1 = nn := by rw [← hnn]; unfold decN; omega
  have K0 := Lib.hid hk0
  have K1 := Lib.hid hk1
  have HX := Lib.hid hx
  have HML := Lib.hid hML
  clear hkk hnn hrr hMM hm hx hk0 hk1 hML
  generalize byt s.data.toList 0 = x0 at hcp a0 a1 K0
  generalize byt s.data.toList 1 = x1 at hcp b0 b1 K1
  obtain ⟨x2, hx2⟩ : ∃ x, byt s.data.toList 2 = x := ⟨_, rfl⟩
  rw [hx2] at hcp c0 c1
  have K2 : Hid (x2 % 6 = rr) := by rw [← hx2]; exact HR
  clear hx2
  go_enter Tryd.func37, Tryd.ntmps37
  go_wp2
  go_region
  go_wp2
  rw [K0.out, K1.out, K2.out, HML.out]
  have HST := Lib.hid (pdec_start w ((((w.alloc (.cells #[.int .i64 0, .int .i64 0, .int .i64 0, .slice none 0 0] 57)).alloc (.cells #[.int .u8 x0, .int .u8 x1, .int .u8 x2] 5)).alloc (.cells #[.int .i64 kk, .int .i64 nn, .int .i64 rr, .slice none 0 0] 57)).drew) (w.heap.size + 1 + 1) s.data.toList kk nn rr (s.extract m s.size) HX.out
    (by have := Blk.new ((w.alloc (.cells #[.int .i64 0, .int .i64 0, .int .i64 0, .slice none 0 0] 57)).alloc (.cells #[.int .u8 x0, .int .u8 x1, .int .u8 x2] 5)) 57 #[.int .i64 kk, .int .i64 nn, .int .i64 rr, .slice none 0 0]
        simp only [World.size_alloc] at this
        exact this.drew)
    ((((Blk.new w 57 _).alloc _).alloc _).drew) ((((Below.refl _ _).alloc (Nat.le_refl _) _).alloc (by simp) _).alloc (by simp; omega) _).drew (by simp) (by omega))
  clear hcp
  go_loopw [35] (fun i wr => ∃ (q : Nat) (v : Value), q ≤ M ∧ i = .int .i64 q ∧ DecRel w (w.heap.size + 1 + 1) s.data.toList kk nn rr q v wr) (fun i _ => M - (intOf i).toNat)
  case atStart => exact ⟨0, _, Nat.zero_le _, rfl, HST.out⟩
  case round =>
    obtain ⟨q, v, hq, rfl, hrel⟩ := hrel
    have HRL := Lib.hid hrel
    obtain ⟨hA, hB, hown, hby, hbel, hsz, _⟩ := hrel
    obtain ⟨A, c, rfl⟩ := own_form hown
    have y1 : w.heap.size + 1 + 1 < wr.heap.size := by omega
    have y0 : w.heap.size < wr.heap.size := by omega
    have c0 := hA.cell 0
    have c1 := hA.cell 1
    have c2 := hA.cell 2
    have c3 := hA.cell 3
    have f3 := hA.frozen 3
    simp at c0 c1 c2 c3
    have d0 := hB.cell 0
    have d1 := hB.cell 1
    have d2 := hB.cell 2
    have d3 := hB.cell 3
    simp at d0 d1 d2 d3
    have g0 := hB.frozen 0
    have g1 := hB.frozen 1
    have g2 := hB.frozen 2
    have g3 := hB.frozen 3
    have HA := Lib.hid hA
    have HB := Lib.hid hB
    clear hA hB
    by_cases hlt : q < M
    · have hql : q < (decL s.data.toList).length := by rw [HLM.out]; exact hlt
      have hqd : q < (s.data.toList.drop 3).length := by have := hql; unfold decL at this; simpa using this
      obtain ⟨bb, hbb⟩ : ∃ bb, (s.data.toList.drop 3)[q]? = some bb := ⟨_, List.getElem?_eq_getElem hqd⟩
      have hc := hby q _ hbb
      have hel : (decL s.data.toList)[q] = decM nn bb := by
        have e : (s.data.toList.drop 3)[q] = bb := by rw [List.getElem?_eq_getElem hqd] at hbb; exact Option.some.inj hbb
        rw [← HN.out, ← e]; simp only [decL, List.getElem_map]
      have HF := Lib.hid (flatM_take (decL s.data.toList) q hql)
      have HEL := Lib.hid hel
      clear hel hbb
      have xb : (bb.toNat : Int) ≤ 255 := by have := bb.toNat_lt; omega
      have hlo : ∀ g, (Value.slice A q c).ownBlock = some g → w.heap.size + 1 + 1 + 1 + 1 ≤ g := fun g hg => (hown.lt g hg).1
      have HLO := Lib.hid hlo
      clear hby hlo
      have hn1 : some (w.heap.size + 1 + 1) ≠ (Value.slice A q c).ownBlock := fun e => by have := HLO.out _ e.symm; omega
      have HN1 := Lib.hid hn1
      have hbase : w.heap.size + 1 + 1 + 1 + 1 ≤ wr.heap.size := by have := hbel.size; omega
      clear hn1
      have hn0 : ¬ nn = 0 := by omega
      by_cases h224 : (bb.toNat : Int) < 224
      · have HLOW := Lib.hid (decM_lo nn bb h224)
        have hw1 : IntKind.i64.wrap (bb.toNat : Int) = (bb.toNat : Int) := IntWalk.i64_in _ (by omega)
        have hw2 : ((bb.toNat : Int)).tmod nn = (bb.toNat : Int) % nn := IntWalk.rem_in _ _ (by omega)
        have t1 := Lib.hid (show q + 1 ≤ maxLen by unfold maxLen; omega)
        have t2 := Lib.hid (show (q + 1) * 16 ≤ 140737488355328 by omega)
        have t3 := Lib.hid (show w.heap.size + 1 + 1 + 1 + 1 ≤ (wr.alloc (.cells #[.int .i64 ((bb.toNat : Int) % nn), .bool false] 136)).drew.heap.size by simp; omega)
        have t4 := Lib.hid (show (wr.alloc (.cells #[.int .i64 ((bb.toNat : Int) % nn), .bool false] 136)).drew.heap.size = wr.heap.size + 1 by simp)
        have t5 := Lib.hid (show ∀ u ∈ [Value.int .i64 ((bb.toNat : Int) % nn), .bool false], u.oneCell' = true by simp [Value.oneCell'])
        have t6 := Lib.hid (World.news_of_block (w := (wr.alloc (.cells #[.int .i64 ((bb.toNat : Int) % nn), .bool false] 136)).drew) (cs := #[.int .i64 ((bb.toNat : Int) % nn), .bool false]) (t := 136) (fr := (0, 0)) (heap_alloc_new wr _))
        have t7 := Lib.hid ((hown.alloc (.cells #[.int .i64 ((bb.toNat : Int) % nn), .bool false] 136)).drew)
        have t8 := Lib.hid (fun (w2 : World) (hg2 : ((wr.alloc (.cells #[.int .i64 ((bb.toNat : Int) % nn), .bool false] 136)).drew).grownBy w2 (Value.slice A q c).ownBlock) => ((HA.out.alloc (.cells #[.int .i64 ((bb.toNat : Int) % nn), .bool false] 136)).drew.grown hg2 HN1.out))
        go_wp2_with fail
        go_region_law ((refine step_append_lies _ (by rfl) _ _ _ (by rfl) (w.heap.size + 1 + 1 + 1 + 1) 136 i0 _ 2 16 Tryd.underlying55 hi0 hz0 hzs1 hz2 rfl Nat.zero_lt_two (.slice A q c) q _ (by rfl) t7.out ⟨wr.heap.size, 0, none⟩ 1 1 [.int .i64 ((bb.toNat : Int) % nn), .bool false] (by rfl) (by rfl) t6.out t5.out Nat.zero_lt_one t1.out t2.out t3.out (wr.heap.size + 1) t4.out ?_; intro gg cap w2 hown3 hg2 hat hlt9; have k1 := (t8.out _ hg2).cell 3; have k2 := (t8.out _ hg2).frozen 3; simp at k1))
        all_goals
          go_wp2
          go_roundw
          case rel => exact ⟨q + 1, _, by omega, by go_num, dec_next HRL.out (((Below.refl _ _).alloc (Nat.le_refl _) _).drew) hg2 hown3 (by rw [HF.out, HEL.out, HLOW.out])⟩
          case measure => simp [intOf]; omega
      · have HLOW := Lib.hid (decM_hi nn bb h224)
        have h224' : 224 ≤ (bb.toNat : Int) := by omega
        clear h224
        have hw1 : IntKind.i64.wrap (bb.toNat : Int) = (bb.toNat : Int) := IntWalk.i64_in _ (by omega)
        have hw3 : IntKind.i64.wrap ((bb.toNat : Int) - 224) = (bb.toNat : Int) - 224 := IntWalk.i64_in _ (by omega)
        have hw2 : ((bb.toNat : Int) - 224).tmod nn = ((bb.toNat : Int) - 224) % nn := IntWalk.rem_in _ _ (by omega)
        have t1 := Lib.hid (show q + 1 ≤ maxLen by unfold maxLen; omega)
        have t2 := Lib.hid (show (q + 1) * 16 ≤ 140737488355328 by omega)
        have t3 := Lib.hid (show w.heap.size + 1 + 1 + 1 + 1 ≤ (wr.alloc (.cells #[.int .i64 (((bb.toNat : Int) - 224) % nn), .bool true] 136)).drew.heap.size by simp; omega)
        have t4 := Lib.hid (show (wr.alloc (.cells #[.int .i64 (((bb.toNat : Int) - 224) % nn), .bool true] 136)).drew.heap.size = wr.heap.size + 1 by simp)
        have t5 := Lib.hid (show ∀ u ∈ [Value.int .i64 (((bb.toNat : Int) - 224) % nn), .bool true], u.oneCell' = true by simp [Value.oneCell'])
        have t6 := Lib.hid (World.news_of_block (w := (wr.alloc (.cells #[.int .i64 (((bb.toNat : Int) - 224) % nn), .bool true] 136)).drew) (cs := #[.int .i64 (((bb.toNat : Int) - 224) % nn), .bool true]) (t := 136) (fr := (0, 0)) (heap_alloc_new wr _))
        have t7 := Lib.hid ((hown.alloc (.cells #[.int .i64 (((bb.toNat : Int) - 224) % nn), .bool true] 136)).drew)
        have t8 := Lib.hid (fun (w2 : World) (hg2 : ((wr.alloc (.cells #[.int .i64 (((bb.toNat : Int) - 224) % nn), .bool true] 136)).drew).grownBy w2 (Value.slice A q c).ownBlock) => ((HA.out.alloc (.cells #[.int .i64 (((bb.toNat : Int) - 224) % nn), .bool true] 136)).drew.grown hg2 HN1.out))
        go_wp2_with fail
        go_region_law ((refine step_append_lies _ (by rfl) _ _ _ (by rfl) (w.heap.size + 1 + 1 + 1 + 1) 136 i0 _ 2 16 Tryd.underlying55 hi0 hz0 hzs1 hz2 rfl Nat.zero_lt_two (.slice A q c) q _ (by rfl) t7.out ⟨wr.heap.size, 0, none⟩ 1 1 [.int .i64 (((bb.toNat : Int) - 224) % nn), .bool true] (by rfl) (by rfl) t6.out t5.out Nat.zero_lt_one t1.out t2.out t3.out (wr.heap.size + 1) t4.out ?_; intro gg cap w2 hown3 hg2 hat hlt9; have k1 := (t8.out _ hg2).cell 3; have k2 := (t8.out _ hg2).frozen 3; simp at k1))
        all_goals
          go_wp2
          go_roundw
          case rel => exact ⟨q + 1, _, by omega, by go_num, dec_next HRL.out (((Below.refl _ _).alloc (Nat.le_refl _) _).drew) hg2 hown3 (by rw [HF.out, HEL.out, HLOW.out])⟩
          case measure => simp [intOf]; omega
    · obtain rfl : q = M := by omega
      go_wp2
      have B0 := HB.out.set_ 0 (.int .i64 kk)
      have B1 := B0.set_ 1 (.int .i64 nn)
      have B2 := B1.set_ 2 (.int .i64 rr)
      have B3 := B2.set_ 3 (.slice A q c)
      have e0 := B0.cell 0
      have e1 := B1.cell 1
      have e2 := B2.cell 2
      have e3 := B3.cell 3
      simp at e0 e1 e2 e3
      refine bodyPost_ret (v := .agg #[.int .i64 kk, .int .i64 nn, .int .i64 rr, .slice A q c]) (by simp [results, Tryd.results37, go_sem, e0, e1, e2, e3]) rfl ?_
      exact dec_end HK.out HN.out HR.out HLM.out HRL.out _ _ _ _
end Go.Proofs.YtepoahinnfjaiaaDoor
