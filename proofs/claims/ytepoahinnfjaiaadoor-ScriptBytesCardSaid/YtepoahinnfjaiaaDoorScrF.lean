/-
  The walks of ScriptBytes, part six: the script that any bytes are, in the program. Conditions: the text is not long.
-/
import Derived.Test.YtepoahinnfjaiaaDoorScrE
import Derived.Laws.IdiomStrings
import Derived.Lib.ConvBytes
import Derived.Lib.Strings
import Derived.OwnWalk
import Derived.OneCell
import Derived.BigRegion
import Derived.RegionTactic
import Derived.Maps.AppendAt
namespace Go.Proofs.YtepoahinnfjaiaaDoor
open Go.RowKit Go.Extern.Stop Go.Stop Go.Extern

/-- Byte i of a text, 0 where it has none. -/
def byt (t : List UInt8) (i : Nat) : Int := ((t.getD i 0).toNat : Int)
def decM (n : Int) (b : UInt8) : Mv := if (b.toNat : Int) < 224 then ⟨(b.toNat : Int) % n, false⟩ else ⟨((b.toNat : Int) - 224) % n, true⟩
def decN (t : List UInt8) : Int := 1 + byt t 1 % 8
def decL (t : List UInt8) : List Mv := (t.drop 3).map (decM (decN t))
def DecEnd (t : List UInt8) (w : World) (e : Ending) (w' : World) : Prop :=
  ∃ A c, e = .returned (scv (1 + byt t 0 % 6) (decN t) (byt t 2 % 6) A (decL t).length c) ∧ Reads w' w'.heap.size 2 A (decL t).length (flatM (decL t)) ∧ Below w.heap.size w w'

def strLen : Value → Nat | .string s => s.size | _ => 0
theorem ba_size (l : List UInt8) : ByteArray.size ⟨l.toArray⟩ = l.length := by simp [ByteArray.size]
theorem ba_len (z : ByteArray) : z.data.toList.length = z.size := Array.length_toList
theorem ba_len1 (z : ByteArray) : (z ++ (⟨#[0]⟩ : ByteArray)).size = z.size + 1 := by
  rw [← ba_len, ByteArray.data_append, Array.toList_append, List.length_append, ba_len]; rfl
theorem bytes_below (W : World) (s : ByteArray) : Below W.heap.size W (Lib.bytesWorld W 5 s) :=
  ⟨rfl, rfl, rfl, by rw [Lib.bytesWorld_size]; omega, fun k hk => Lib.bytesWorld_at_old W 5 s k hk⟩
theorem byt_get {z : ByteArray} {t : List UInt8} {m i : Nat} (hz : z.data.toList = t ++ List.replicate m 0) (hi : i < z.size) : ((z[i].toNat : Nat) : Int) = byt t i := by
  have h1 : z[i] = z.data.toList.getD i 0 := by
    rw [List.getD_eq_getElem?_getD, List.getElem?_eq_getElem (by rw [ba_len]; exact hi)]
    rfl
  rw [h1, hz]
  unfold byt
  simp only [List.getD_eq_getElem?_getD]
  by_cases h : i < t.length
  · rw [List.getElem?_append_left h]
  · rw [List.getElem?_append_right (by omega), List.getElem?_eq_none (l := t) (by omega), List.getElem?_replicate]
    split <;> rfl
theorem hd_k (x : Int) (h0 : 0 ≤ x) (h1 : x ≤ 255) : wrap64 (1 + (wrap64 x).tmod 6) = 1 + x % 6 := by
  rw [IntWalk.wrap64_in x (by omega), IntWalk.rem_in _ _ h0, IntWalk.wrap64_in _ (by omega)]
theorem hd_n (x : Int) (h0 : 0 ≤ x) (h1 : x ≤ 255) : wrap64 (1 + (wrap64 x).tmod 8) = 1 + x % 8 := by
  rw [IntWalk.wrap64_in x (by omega), IntWalk.rem_in _ _ h0, IntWalk.wrap64_in _ (by omega)]
theorem hd_r (x : Int) (h0 : 0 ≤ x) (h1 : x ≤ 255) : (wrap64 x).tmod 6 = x % 6 := by
  rw [IntWalk.wrap64_in x (by omega), IntWalk.rem_in _ _ h0]
theorem ba_snoc (l : List UInt8) (x : UInt8) : (⟨l.toArray⟩ : ByteArray) ++ ⟨#[x]⟩ = ⟨(l ++ [x]).toArray⟩ := by
  apply ByteArray.ext; simp
theorem Tryd.info136 : (Tryd.prog.info? 136).map (fun i => (i.zero, i.size, i.bytes)) = some (some (.agg #[.int .i64 0, .bool false]), 2, 16) := by kernel_rfl
theorem cell_new2 (w : World) (u v : Value) (t : TypeId) (j : Nat) (x : Value) (h : [u, v][j]? = some x) : (w.alloc (.cells #[u, v] t)).cell? (Addr.add ⟨w.heap.size, 0, none⟩ j) = some x := by
  have e : (Addr.add ⟨w.heap.size, 0, none⟩ j) = ⟨w.heap.size, j, none⟩ := by unfold Addr.add; split <;> simp_all
  rw [e, (Blk.new w t #[u, v]).cell j]
  simpa using h
theorem ext_drop {z : ByteArray} {t : List UInt8} {m : Nat} (hz : z.data.toList = t ++ List.replicate m 0) (hm : m = 0 ∨ t.length + m ≤ 3) : (z.extract 3 z.size).data.toList = t.drop 3 := by
  rw [Go.Lib.extract_data, hz]
  rcases hm with rfl | hm
  · simp
    rw [List.take_of_length_le]
    have e := ba_len z
    rw [hz] at e
    simp at e
    simp; omega
  · rw [List.drop_eq_nil_of_le (by simp; omega), List.drop_eq_nil_of_le (by omega)]; simp
theorem flatM_take (l : List Mv) (q : Nat) (hq : q < l.length) : flatM (l.take (q + 1)) = flatM (l.take q) ++ mvc l[q] := by
  rw [List.take_succ_eq_append_getElem hq]; simp only [flatM, List.flatMap_append, List.flatMap_cons, List.flatMap_nil, List.append_nil]
theorem own_form {w : World} {base n size : Nat} {e : TypeId} {v : Value} {xs : List Value} (h : w.ownsRow base e size v n xs) : ∃ A c, v = .slice A n c := by
  rcases h.2 with ⟨rfl, rfl⟩ | ⟨g, cap, cur, rfl, _⟩
  · exact ⟨_, _, rfl⟩
  · exact ⟨_, _, rfl⟩
/-- What a round of decoding has made. -/
def DecRel (w : World) (g : Nat) (t : List UInt8) (k n r : Int) (q : Nat) (v : Value) (wr : World) : Prop :=
  Blk wr g 57 #[.int .i64 k, .int .i64 n, .int .i64 r, v] ∧ Blk wr w.heap.size 57 #[.int .i64 0, .int .i64 0, .int .i64 0, .slice none 0 0] ∧ wr.ownsRow (g + 1 + 1) 136 2 v q (flatM ((decL t).take q)) ∧
    (∀ j u, (t.drop 3)[j]? = some u → wr.cell? ⟨g + 1, j, none⟩ = some (.int .u8 (u.toNat : Int))) ∧ Below w.heap.size w wr ∧ g + 1 + 1 ≤ wr.heap.size ∧ w.heap.size < g
theorem dec_start (w : World) (t : List UInt8) (k n r : Int) (s : ByteArray) (hs : s.data.toList = t.drop 3) :
    DecRel w (w.heap.size + 1) t k n r 0 (.slice none 0 0) (Lib.bytesWorld ((w.alloc (.cells #[.int .i64 0, .int .i64 0, .int .i64 0, .slice none 0 0] 57)).alloc (.cells #[.int .i64 k, .int .i64 n, .int .i64 r, .slice none 0 0] 57)).drew 5 s) := by
  have hA := Blk.new w 57 #[.int .i64 0, .int .i64 0, .int .i64 0, .slice none 0 0]
  have hA2 := hA.alloc (.cells #[.int .i64 k, .int .i64 n, .int .i64 r, .slice none 0 0] 57)
  have hC := Blk.new (w.alloc (.cells #[.int .i64 0, .int .i64 0, .int .i64 0, .slice none 0 0] 57)) 57 #[.int .i64 k, .int .i64 n, .int .i64 r, .slice none 0 0]
  have hB0 : Below w.heap.size w ((w.alloc (.cells #[.int .i64 0, .int .i64 0, .int .i64 0, .slice none 0 0] 57)).alloc (.cells #[.int .i64 k, .int .i64 n, .int .i64 r, .slice none 0 0] 57)) := ((Below.refl _ _).alloc (Nat.le_refl _) _).alloc (by simp) _
  have hsz : ((w.alloc (.cells #[.int .i64 0, .int .i64 0, .int .i64 0, .slice none 0 0] 57)).alloc (.cells #[.int .i64 k, .int .i64 n, .int .i64 r, .slice none 0 0] 57)).drew.heap.size = w.heap.size + 1 + 1 := by simp
  simp only [World.size_alloc] at hC
  generalize ((w.alloc (.cells #[.int .i64 0, .int .i64 0, .int .i64 0, .slice none 0 0] 57)).alloc (.cells #[.int .i64 k, .int .i64 n, .int .i64 r, .slice none 0 0] 57)) = w1 at *
  have hb := bytes_below w1.drew s
  refine ⟨Blk.below (B := w1.drew.heap.size) hC.drew hb (by rw [hsz]; omega), Blk.below (B := w1.drew.heap.size) hA2.drew hb (by rw [hsz]; omega), ⟨by simp [flatM], .inl ⟨rfl, rfl⟩⟩, fun j u hu => ?_, hB0.drew.trans (hb.mono (by rw [hsz]; omega)), by rw [Lib.bytesWorld_size, hsz]; omega, by omega⟩
  have hj : j < s.data.toList.length := by rw [hs]; exact (List.getElem?_eq_some_iff.1 hu).1
  have := Lib.bytesWorld_cell w1.drew 5 s j (by rw [← ba_len]; exact hj)
  rw [hsz] at this
  rw [this, hs, List.getD_eq_getElem?_getD, hu]
  rfl
theorem dec_end {w wr : World} {t : List UInt8} {k n r : Int} {q : Nat} {A : Option Addr} {g c : Nat} (hk : 1 + byt t 0 % 6 = k) (hn : decN t = n) (hr : byt t 2 % 6 = r) (hq : (decL t).length = q) (h : DecRel w g t k n r q (.slice A q c) wr) (u0 u1 u2 u3 : Value) :
    DecEnd t w (.returned (.agg #[.int .i64 k, .int .i64 n, .int .i64 r, .slice A q c])) ((((wr.setCell ⟨w.heap.size, 0, none⟩ u0).setCell ⟨w.heap.size, 1, none⟩ u1).setCell ⟨w.heap.size, 2, none⟩ u2).setCell ⟨w.heap.size, 3, none⟩ u3) := by
  obtain ⟨hA, hB, hown, hby, hbel, hsz, hwg⟩ := h
  rw [← hq, List.take_of_length_le (Nat.le_refl _)] at hown
  have h4 := ownsRow_setCell_below (ownsRow_setCell_below (ownsRow_setCell_below (ownsRow_setCell_below hown (a := ⟨w.heap.size, 0, none⟩) (by simp; omega) u0) (a := ⟨w.heap.size, 1, none⟩) (by simp; omega) u1) (a := ⟨w.heap.size, 2, none⟩) (by simp; omega) u2) (a := ⟨w.heap.size, 3, none⟩) (by simp; omega) u3
  refine ⟨A, c, ?_, ?_, ?_⟩
  · rw [hk, hn, hr, hq]
  · subst hq
    exact Reads.of_own h4
  · exact (((hbel.setCell (by simp) _).setCell (by simp) _).setCell (by simp) _).setCell (by simp) _
theorem decM_lo (n : Int) (b : UInt8) (h : (b.toNat : Int) < 224) : mvc (decM n b) = [.int .i64 ((b.toNat : Int) % n), .bool false] := by unfold decM; rw [if_pos h]; rfl
theorem decM_hi (n : Int) (b : UInt8) (h : ¬ (b.toNat : Int) < 224) : mvc (decM n b) = [.int .i64 (((b.toNat : Int) - 224) % n), .bool true] := by unfold decM; rw [if_neg h]; rfl
theorem dec_next {w wr wm w2 : World} {g : Nat} {t : List UInt8} {k n r : Int} {q : Nat} {v v' : Value} {cs : List Value} (h : DecRel w g t k n r q v wr) (hm : Below wr.heap.size wr wm) (hg : wm.grownBy w2 v.ownBlock)
    (hown : w2.ownsRow (g + 1 + 1) 136 2 v' (q + 1) (flatM ((decL t).take q) ++ cs)) (hcs : flatM ((decL t).take (q + 1)) = flatM ((decL t).take q) ++ cs) :
    DecRel w g t k n r (q + 1) v' (w2.setCell ⟨g, 3, none⟩ v') := by
  obtain ⟨hA, hB, hown0, hby, hbel, hsz, hwg⟩ := h
  have hlo : ∀ b, v.ownBlock = some b → g + 1 + 1 ≤ b := fun b hb => (hown0.lt b hb).1
  have hne : ∀ b, b < g + 1 + 1 → some b ≠ v.ownBlock := fun b hb e => by have := hlo b e.symm; omega
  have hA2 := (hA.below hm hA.lt).grown hg (hne _ (by omega))
  have hB2 := (hB.below hm hB.lt).grown hg (hne _ (by omega))
  have hA3 := hA2.set_ 3 v'
  have hsz2 := hg.size
  have hsz3 := hm.size
  refine ⟨by simpa using hA3, hB2.far (by simp; omega) _, ?_, fun j u hu => ?_, ?_, ?_, hwg⟩
  · rw [hcs]
    exact ownsRow_setCell_below hown (by simp; omega) _
  · rw [World.cell?_setCell_other _ _ _ _ (by simp)]
    rw [World.cell?_of_block (hg.block (g + 1) (by omega) (hne _ (by omega))), hm.cell (p := ⟨g + 1, j, none⟩) (by simp; omega)]
    exact hby j u hu
  · exact ((hbel.trans (hm.mono hbel.size)).grown hg (by have := hbel.size; omega) (fun b hb => by have := hlo b hb; omega)).setCell (by simp; omega) _
  · simp; omega
set_option maxRecDepth 100000 in
set_option maxHeartbeats 2000000 in
theorem dec_calls (s : ByteArray) (w : World) (hs : s.size ≤ 600) :
    Calls Tryd.prog 36 #[.string s] w (DecEnd s.data.toList w) := by
  have hcv := fun (W : World) (s : ByteArray) => Lib.run_convert_string_bytes (P := Tryd.prog) W 9 138 5 s Tryd.underlying9 Tryd.underlying138 Tryd.underlying5
  obtain ⟨kk, hkk⟩ : ∃ x, 1 + byt s.data.toList 0 % 6 = x := ⟨_, rfl⟩
  obtain ⟨nn, hnn⟩ : ∃ x, decN s.data.toList = x := ⟨_, rfl⟩
  obtain ⟨rr, hrr⟩ : ∃ x, byt s.data.toList 2 % 6 = x := ⟨_, rfl⟩
  obtain ⟨M, hMM⟩ : ∃ x, (decL s.data.toList).length = x := ⟨_, rfl⟩
  have n01 : 1 ≤ nn ∧ nn ≤ 8 := by rw [← hnn]; unfold decN; omega
  obtain ⟨n0, n1⟩ := n01
  have hM6 : M ≤ 600 := by
    rw [← hMM]; unfold decL; simp only [List.length_map, List.length_drop]; have := ba_len s; omega
  have HK := Lib.hid hkk
  have HN := Lib.hid hnn
  have HR := Lib.hid hrr
  have HLM := Lib.hid hMM
  obtain ⟨i0, hi0, hz0, hzs1, hz2⟩ := info_parts Tryd.info136
  clear hkk hnn hrr hMM
  go_enter Tryd.func36, Tryd.ntmps36
  go_wp2
  go_loop [0] (fun v => ∃ (z : ByteArray) (m : Nat), v = .string z ∧ z.data.toList = s.data.toList ++ List.replicate m 0 ∧ (m = 0 ∨ s.data.toList.length + m ≤ 3)) (fun v => 3 - strLen v)
  case atStart => exact ⟨s, 0, rfl, by simp, .inl rfl⟩
  case round =>
    obtain ⟨z, m, rfl, hz, hm⟩ := hrel
    have hsz : z.size = s.data.toList.length + m := by
      rw [← ba_len, hz, List.length_append, List.length_replicate]
    have HZ := Lib.hid hz
    have HSZ := Lib.hid hsz
    clear hz
    by_cases h3 : z.size < 3
    · have hsz2 := hsz
      clear hsz
      have HM := Lib.hid (show s.data.toList.length + (m + 1) ≤ 3 by omega)
      clear hsz2 hm
      go_wp2
      go_round
      case rel =>
        refine ⟨_, m + 1, rfl, ?_, .inr HM.out⟩
        simp [HZ.out, List.replicate_succ']
      case measure =>
        have e := ba_len1 z
        simp only [strLen]
        show 3 - (z ++ (⟨#[0]⟩ : ByteArray)).size < 3 - z.size
        omega
    · clear hsz
      have h0 : 0 < z.size := by omega
      have h1 : 1 < z.size := by omega
      have h2 : 2 < z.size := by omega
      have i00 : (0 : Int) < (z.size : Int) := by omega
      have i1 : (1 : Int) < (z.size : Int) := by omega
      have i2 : (2 : Int) < (z.size : Int) := by omega
      go_wp2
      go_region
      go_wp2
      have b0 := byt_get HZ.out h0
      have b1 := byt_get HZ.out h1
      have b2 := byt_get HZ.out h2
      have r0 : z[0].toNat ≤ 255 := by have := z[0].toNat_lt; omega
      have r1 : z[1].toNat ≤ 255 := by have := z[1].toNat_lt; omega
      have r2 : z[2].toNat ≤ 255 := by have := z[2].toNat_lt; omega
      have k0 := (hd_k (z[0].toNat : Int) (by omega) (by omega)).trans (show _ = kk by rw [b0, HK.out])
      have k1 := (hd_n (z[1].toNat : Int) (by omega) (by omega)).trans (show _ = nn by rw [b1]; exact HN.out)
      have k2 := (hd_r (z[2].toNat : Int) (by omega) (by omega)).trans (show _ = rr by rw [b2, HR.out])
      have hx := ext_drop HZ.out hm
      have HST := Lib.hid (dec_start w s.data.toList kk nn rr (z.extract 3 z.size) hx)
      have hM : z.size - 3 = M := by
        have h := congrArg List.length hx
        rw [ba_len, ByteArray.size_extract] at h
        rw [← HLM.out]
        unfold decL
        rw [List.length_map, ← h]; omega
      rw [k0, k1, k2, b0, b1, b2, hM]
      clear k0 k1 k2 b0 b1 b2 r0 r1 r2 hx hM i00 i1 i2 h0 h1 h2 h3
      go_loopw [31] (fun i wr => ∃ (q : Nat) (v : Value), q ≤ M ∧ i = .int .i64 q ∧ DecRel w (w.heap.size + 1) s.data.toList kk nn rr q v wr) (fun i _ => M - (intOf i).toNat)
      case atStart => exact ⟨0, _, Nat.zero_le _, rfl, HST.out⟩
      case round =>
        obtain ⟨q, v, hq, rfl, hrel⟩ := hrel
        have HRL := Lib.hid hrel
        obtain ⟨hA, hB, hown, hby, hbel, hsz, _⟩ := hrel
        obtain ⟨A, c, rfl⟩ := own_form hown
        have y1 : w.heap.size + 1 < wr.heap.size := by omega
        have y0 : w.heap.size < wr.heap.size := by omega
        have c1 := hA.cell 1
        have c3 := hA.cell 3
        have c0 := hA.cell 0
        have c2 := hA.cell 2
        have f3 := hA.frozen 3
        simp at c0 c1 c2 c3
        have d0 := hB.cell 0
        have d1 := hB.cell 1
        have d2 := hB.cell 2
        have d3 := hB.cell 3
        simp at d0 d1 d2 d3
        have g0 := hB.frozen 0
        have g1 := hB.frozen 1
        have g2 := hB.frozen 2
        have g3 := hB.frozen 3
        have HA := Lib.hid hA
        have HB := Lib.hid hB
        clear hA hB
        by_cases hlt : q < M
        · have hql : q < (decL s.data.toList).length := by rw [HLM.out]; exact hlt
          have hqd : q < (s.data.toList.drop 3).length := by have := hql; unfold decL at this; simpa using this
          obtain ⟨bb, hbb⟩ : ∃ bb, (s.data.toList.drop 3)[q]? = some bb := ⟨_, List.getElem?_eq_getElem hqd⟩
          have hc := hby q _ hbb
          have hel : (decL s.data.toList)[q] = decM nn bb := by
            have e : (s.data.toList.drop 3)[q] = bb := by rw [List.getElem?_eq_getElem hqd] at hbb; exact Option.some.inj hbb
            rw [← HN.out, ← e]; simp only [decL, List.getElem_map]
          have HF := Lib.hid (flatM_take (decL s.data.toList) q hql)
          have HEL := Lib.hid hel
          clear hel hbb
          have x1 : (bb.toNat : Int) ≤ 255 := by have := bb.toNat_lt; omega
          have hlo : ∀ g, (Value.slice A q c).ownBlock = some g → w.heap.size + 1 + 1 + 1 ≤ g := fun g hg => (hown.lt g hg).1
          have HLO := Lib.hid hlo
          have HBY := Lib.hid hby
          clear hby hlo
          by_cases h224 : (bb.toNat : Int) < 224
          · have HLOW := Lib.hid (decM_lo nn bb h224)
            go_wp2_with (at_builtin; ((refine wpList_append_own _ rfl (.tmp 51) (.tmp 53) 55 rfl (w.heap.size + 1 + 1 + 1) 136 i0 _ 2 16 Tryd.underlying55 hi0 hz0 hzs1 hz2 rfl (by omega) (.slice A q c) q _ rfl ((hown.alloc _).alloc _) ⟨wr.heap.size + 1, 0, none⟩ 1 1 [.int .i64 ((bb.toNat : Int) % nn), .bool false] rfl rfl ?_ ?_ ?_ ?_ ?_ ?_); (have := cell_new2 (wr.alloc (.cells #[.int .i64 ((bb.toNat : Int) % nn), .bool false] 136)) (.int .i64 ((bb.toNat : Int) % nn)) (.bool false) 136; simpa using this); (simp [Value.oneCell']); (unfold maxLen; omega); (omega); (simp; omega); intro v' w2 hown3 hg2 hnil2; obtain ⟨A', c', rfl⟩ := own_form hown3; have k1 := (((HA.out.alloc _).alloc _).grown hg2 (fun e => by have := HLO.out _ e.symm; omega)).cell 3; have k2 := (((HA.out.alloc _).alloc _).grown hg2 (fun e => by have := HLO.out _ e.symm; omega)).frozen 3; simp at k1))
            go_roundw
            case rel => exact ⟨q + 1, _, by omega, by go_num, dec_next HRL.out (((Below.refl _ _).alloc (Nat.le_refl _) _).alloc (by simp) _) hg2 hown3 (by rw [HF.out, HEL.out, HLOW.out])⟩
            case measure => simp [intOf]; omega
          · have HLOW := Lib.hid (decM_hi nn bb h224)
            have h224' : 224 ≤ (bb.toNat : Int) := by omega
            clear h224
            go_wp2_with (at_builtin; ((refine wpList_append_own _ rfl (.tmp 51) (.tmp 53) 55 rfl (w.heap.size + 1 + 1 + 1) 136 i0 _ 2 16 Tryd.underlying55 hi0 hz0 hzs1 hz2 rfl (by omega) (.slice A q c) q _ rfl ((hown.alloc _).alloc _) ⟨wr.heap.size + 1, 0, none⟩ 1 1 [.int .i64 (((bb.toNat : Int) - 224) % nn), .bool true] rfl rfl ?_ ?_ ?_ ?_ ?_ ?_); (have := cell_new2 (wr.alloc (.cells #[.int .i64 (((bb.toNat : Int) - 224) % nn), .bool true] 136)) (.int .i64 (((bb.toNat : Int) - 224) % nn)) (.bool true) 136; simpa using this); (simp [Value.oneCell']); (unfold maxLen; omega); (omega); (simp; omega); intro v' w2 hown3 hg2 hnil2; obtain ⟨A', c', rfl⟩ := own_form hown3; have k1 := (((HA.out.alloc _).alloc _).grown hg2 (fun e => by have := HLO.out _ e.symm; omega)).cell 3; have k2 := (((HA.out.alloc _).alloc _).grown hg2 (fun e => by have := HLO.out _ e.symm; omega)).frozen 3; simp at k1))
            go_roundw
            case rel => exact ⟨q + 1, _, by omega, by go_num, dec_next HRL.out (((Below.refl _ _).alloc (Nat.le_refl _) _).alloc (by simp) _) hg2 hown3 (by rw [HF.out, HEL.out, HLOW.out])⟩
            case measure => simp [intOf]; omega
        · obtain rfl : q = M := by omega
          go_wp2
          have B0 := HB.out.set_ 0 (.int .i64 kk)
          have B1 := B0.set_ 1 (.int .i64 nn)
          have B2 := B1.set_ 2 (.int .i64 rr)
          have B3 := B2.set_ 3 (.slice A q c)
          have e0 := B0.cell 0
          have e1 := B1.cell 1
          have e2 := B2.cell 2
          have e3 := B3.cell 3
          simp at e0 e1 e2 e3
          refine bodyPost_ret (v := .agg #[.int .i64 kk, .int .i64 nn, .int .i64 rr, .slice A q c]) (by simp [results, Tryd.results36, go_sem, e0, e1, e2, e3]) rfl ?_
          exact dec_end HK.out HN.out HR.out HLM.out HRL.out _ _ _ _
end Go.Proofs.YtepoahinnfjaiaaDoor
