/-
  The law StoryPrints is proved here, as a walk: both texts answer alike at whatever was said. Conditions: errors.errorType, the table of powers and the names are laid; the events lie below this call's memory.
-/
import Derived.Test.YtepoahinnfjaiaaDoorStoZ
import Derived.Test.YtepoahinnfjaiaaDoorErr
namespace Go.Proofs.YtepoahinnfjaiaaDoor
open Go.RowKit Go.Extern.Stop Go.Stop Go.Extern

theorem pprint_eq (l : List Ev) (w : World) (e : Ending) (w' : World) (h : PPrEnd l w e w') : e = .returned (.tuple #[.string ⟨(textL l).toArray⟩, .int .i64 0]) ∧ Below w.heap.size w w' := h
set_option maxHeartbeats 2000000 in
theorem law_story (A : Option Addr) (len cap : Nat) (l : List Ev) (w : World) (hl : l.length = len) (hr : Reads w w.heap.size 4 A len (flatE l)) (hwf : EvWf l) (hT : HasTab w) (hN : HasNames w) (hg : HasErr w) :
    Calls Tryd.prog 12 #[.slice A len cap] w fun e w' => e = .returned (.bool true) ∧ Below w.heap.size w w' := by
  by_cases hlen : len ≤ 100
  · have h2 := hT.lt
    have HR := Lib.hid hr
    have HL := Lib.hid hl
    have HG := Lib.hid hg
    have HS := Lib.hid (fun W (hW : Below w.heap.size w W) => stright A len cap w.heap.size l W hl hlen (hr.below hW) hW.size)
    have HQ := Lib.hid (fun W (hW : Below w.heap.size w W) => pstright A len cap w.heap.size l W hl hlen (hr.below hW) hW.size)
    by_cases hb : stB 0 l = true
    · have HP := Lib.hid (fun W (hW : Below w.heap.size w W) => pprint_t A len cap w.heap.size l W hl hlen (hr.below hW) hW.size hb (hT.below hW h2) hwf)
      have HO := Lib.hid (fun W (hW : Below w.heap.size w W) => print_t A len cap w.heap.size l W hl hlen (hr.below hW) hW.size hb (hT.below hW h2) (hN.below hW (by omega)) hwf)
      clear hl hr hwf hT hN hg hb
      obtain ⟨S, hS⟩ : ∃ S, S = (⟨(textL l).toArray⟩ : ByteArray) := ⟨_, rfl⟩
      unfold PPrEnd at HP
      unfold PrEnd at HO
      rw [← hS] at HP HO
      clear hS
      have b0 := Lib.hid (Below.refl w.heap.size w)
      go_enter Tryd.func12, Tryd.ntmps12
      go_wp2_with (first
        | (go_at_call 63; refine (HP.out _ b0.out).mono ?_; rintro e w1 ⟨rfl, hb1⟩; have b1 := Lib.hid (b0.out.trans (hb1.mono b0.out.size)); clear hb1)
        | (go_at_call 64; refine (HO.out _ b1.out).mono ?_; rintro e w2 ⟨rfl, hb2⟩; have b2 := Lib.hid (b1.out.trans (hb2.mono b1.out.size)); clear hb2)
        | (go_at_call 14; refine (bare_any 0 _ (HG.out.below b2.out HG.out.lt)).mono ?_; rintro e w3 ⟨rfl, hb3⟩; have b3 := Lib.hid (b2.out.trans (hb3.mono b2.out.size)); clear hb3)
        | (go_at_call 65; refine (HS.out _ b3.out).mono ?_; rintro e w4 ⟨rfl, hb4⟩; have b4 := Lib.hid (b3.out.trans (hb4.mono b3.out.size)); clear hb4)
        | (go_at_call 66; refine (HQ.out _ b4.out).mono ?_; rintro e w5 ⟨rfl, hb5⟩; have b5 := Lib.hid (b4.out.trans (hb5.mono b4.out.size)); clear hb5))
      go_ret
      exact ⟨rfl, b5.out⟩
    · have hb' : stB 0 l = false := by simpa using hb
      have HP := Lib.hid (fun W (hW : Below w.heap.size w W) => pprint_f A len cap w.heap.size l W hl hlen (hr.below hW) hW.size hb')
      have HO := Lib.hid (fun W (hW : Below w.heap.size w W) => print_f A len cap w.heap.size l W hl hlen (hr.below hW) hW.size hb')
      clear hl hr hwf hT hN hg hb hb'
      have b0 := Lib.hid (Below.refl w.heap.size w)
      go_enter Tryd.func12, Tryd.ntmps12
      go_wp2_with (first
        | (go_at_call 63; refine (HP.out _ b0.out).mono ?_; rintro e w1 ⟨rfl, hb1⟩; have b1 := Lib.hid (b0.out.trans (hb1.mono b0.out.size)); clear hb1)
        | (go_at_call 64; refine (HO.out _ b1.out).mono ?_; rintro e w2 ⟨rfl, hb2⟩; have b2 := Lib.hid (b1.out.trans (hb2.mono b1.out.size)); clear hb2)
        | (go_at_call 14; refine (bare_e 1 _ (HG.out.below b2.out HG.out.lt)).mono ?_; rintro e w3 ⟨rfl, hb3⟩; have b3 := Lib.hid (b2.out.trans (hb3.mono b2.out.size)); clear hb3)
        | (go_at_call 65; refine (HS.out _ b3.out).mono ?_; rintro e w4 ⟨rfl, hb4⟩; have b4 := Lib.hid (b3.out.trans (hb4.mono b3.out.size)); clear hb4)
        | (go_at_call 66; refine (HQ.out _ b4.out).mono ?_; rintro e w5 ⟨rfl, hb5⟩; have b5 := Lib.hid (b4.out.trans (hb5.mono b4.out.size)); clear hb5))
      go_ret
      exact ⟨rfl, b5.out⟩
  · have hlen' : (100 : Int) < (len : Int) := by omega
    clear hr
    go_enter Tryd.func12, Tryd.ntmps12
    go_wp2
    go_ret
    exact ⟨rfl, Below.refl _ _⟩
end Go.Proofs.YtepoahinnfjaiaaDoor
