/-
  The walks of MemTouches, part two: what the program does to a memory. Conditions: as each states.
-/
import Derived.Test.YtepoahinnfjaiaaDoorMemW
namespace Go.Proofs.YtepoahinnfjaiaaDoor
open Go.RowKit Go.Extern.Stop Go.Stop Go.Extern

theorem own_formM {w : World} {base n size : Nat} {e : TypeId} {v : Value} {xs : List Value} (h : w.ownsRow base e size v n xs) : ∃ A c, v = .slice A n c := by
  rcases h.2 with ⟨rfl, rfl⟩ | ⟨g, cap, cur, rfl, _⟩
  · exact ⟨_, _, rfl⟩
  · exact ⟨_, _, rfl⟩
section
variable (p : Addr) (A : Option Addr) (n c : Nat) (w : World)
theorem in_t (i : Int) (hp : w.cell? p = some (.slice A n c)) (h0 : 0 ≤ i) (h1 : i < n) :
    Calls Tryd.prog 91 #[.pointer (some p), .int .i64 i] w fun e w' => e = .returned (.bool true) ∧ w = w' := by
  go_enter Tryd.func91, Tryd.ntmps91
  go_wp2
  go_ret
  exact ⟨rfl, rfl⟩
theorem in_f (i : Int) (hp : w.cell? p = some (.slice A n c)) (h : ¬ (0 ≤ i ∧ i < n)) :
    Calls Tryd.prog 91 #[.pointer (some p), .int .i64 i] w fun e w' => e = .returned (.bool false) ∧ w = w' := by
  by_cases h0 : 0 ≤ i
  · have h1 : (n : Int) ≤ i := by omega
    have hd : decide (i < (n : Int)) = false := decide_eq_false (by omega)
    clear h
    go_enter Tryd.func91, Tryd.ntmps91
    go_wp2
    go_ret
    exact ⟨rfl, rfl⟩
  · have h1 : i < 0 := by omega
    clear h h0
    go_enter Tryd.func91, Tryd.ntmps91
    go_wp2
    go_ret
    exact ⟨rfl, rfl⟩
theorem load_t (g j : Nat) (k : Int) (hp : w.cell? p = some (.slice (some ⟨g, 0, none⟩) n c)) (hj : j < n) (hc : w.cell? ⟨g, j, none⟩ = some (.int .u64 k)) :
    Calls Tryd.prog 72 #[.pointer (some p), .int .i64 j] w fun e w' => e = .returned (.tuple #[.int .u64 k, .nilIface]) ∧ w = w' := by
  have h0 : (0 : Int) ≤ (j : Int) := by omega
  have h1 : (j : Int) < (n : Int) := by omega
  go_enter Tryd.func72, Tryd.ntmps72
  go_wp2_with (go_at_call 91; refine (in_t p _ n c _ _ hp h0 h1).mono ?_; rintro e w' ⟨rfl, rfl⟩)
  go_ret2
  exact ⟨rfl, rfl⟩
theorem load_f (i : Int) (hp : w.cell? p = some (.slice A n c)) (h : ¬ (0 ≤ i ∧ i < n)) :
    Calls Tryd.prog 72 #[.pointer (some p), .int .i64 i] w fun e w' => e = .returned (.tuple #[.int .u64 0, .iface 26 (.int .i64 2)]) ∧ w = w' := by
  have H := Lib.hid h
  clear h
  go_enter Tryd.func72, Tryd.ntmps72
  go_wp2_with (go_at_call 91; refine (in_f p _ n c _ _ hp H.out).mono ?_; rintro e w' ⟨rfl, rfl⟩)
  go_ret2
  exact ⟨rfl, rfl⟩
theorem store_t (g j : Nat) (k x : Int) (hp : w.cell? p = some (.slice (some ⟨g, 0, none⟩) n c)) (hj : j < n) (hc : w.cell? ⟨g, j, none⟩ = some (.int .u64 k)) (hf : w.frozen? ⟨g, j, none⟩ = false) :
    Calls Tryd.prog 69 #[.pointer (some p), .int .i64 j, .int .u64 x] w fun e w' => e = .returned .nilIface ∧ w' = w.setCell ⟨g, j, none⟩ (.int .u64 x) := by
  have h0 : (0 : Int) ≤ (j : Int) := by omega
  have h1 : (j : Int) < (n : Int) := by omega
  go_enter Tryd.func69, Tryd.ntmps69
  go_wp2_with (go_at_call 91; refine (in_t p _ n c _ _ hp h0 h1).mono ?_; rintro e w' ⟨rfl, rfl⟩)
  go_ret
  exact ⟨rfl, rfl⟩
theorem store_f (i x : Int) (hp : w.cell? p = some (.slice A n c)) (h : ¬ (0 ≤ i ∧ i < n)) :
    Calls Tryd.prog 69 #[.pointer (some p), .int .i64 i, .int .u64 x] w fun e w' => e = .returned (.iface 26 (.int .i64 2)) ∧ w = w' := by
  have H := Lib.hid h
  clear h
  go_enter Tryd.func69, Tryd.ntmps69
  go_wp2_with (go_at_call 91; refine (in_f p _ n c _ _ hp H.out).mono ?_; rintro e w' ⟨rfl, rfl⟩)
  go_ret
  exact ⟨rfl, rfl⟩
theorem fetch_t (g j : Nat) (k x : Int) (hp : w.cell? p = some (.slice (some ⟨g, 0, none⟩) n c)) (hj : j < n) (hc : w.cell? ⟨g, j, none⟩ = some (.int .u64 k)) (hf : w.frozen? ⟨g, j, none⟩ = false) :
    Calls Tryd.prog 70 #[.pointer (some p), .int .i64 j, .int .u64 x] w fun e w' => e = .returned (.tuple #[.int .u64 k, .nilIface]) ∧ w' = w.setCell ⟨g, j, none⟩ (.int .u64 (IntKind.u64.wrap (k + x))) := by
  have h0 : (0 : Int) ≤ (j : Int) := by omega
  have h1 : (j : Int) < (n : Int) := by omega
  go_enter Tryd.func70, Tryd.ntmps70
  go_wp2_with (go_at_call 72; refine (load_t p n c _ g j k hp hj hc).mono ?_; rintro e w' ⟨rfl, rfl⟩)
  go_ret2
  exact ⟨rfl, rfl⟩
theorem fetch_f (i x : Int) (hp : w.cell? p = some (.slice A n c)) (h : ¬ (0 ≤ i ∧ i < n)) :
    Calls Tryd.prog 70 #[.pointer (some p), .int .i64 i, .int .u64 x] w fun e w' => e = .returned (.tuple #[.int .u64 0, .iface 26 (.int .i64 2)]) ∧ w = w' := by
  have H := Lib.hid h
  clear h
  go_enter Tryd.func70, Tryd.ntmps70
  go_wp2_with (go_at_call 72; refine (load_f p _ n c _ _ hp H.out).mono ?_; rintro e w' ⟨rfl, rfl⟩)
  go_ret2
  exact ⟨rfl, rfl⟩
theorem swap_t (g j : Nat) (k y : Int) (hp : w.cell? p = some (.slice (some ⟨g, 0, none⟩) n c)) (hj : j < n) (hc : w.cell? ⟨g, j, none⟩ = some (.int .u64 k)) (hf : w.frozen? ⟨g, j, none⟩ = false) :
    Calls Tryd.prog 71 #[.pointer (some p), .int .i64 j, .int .u64 k, .int .u64 y] w fun e w' => e = .returned (.tuple #[.bool true, .nilIface]) ∧ w' = w.setCell ⟨g, j, none⟩ (.int .u64 y) := by
  have h0 : (0 : Int) ≤ (j : Int) := by omega
  have h1 : (j : Int) < (n : Int) := by omega
  go_enter Tryd.func71, Tryd.ntmps71
  go_wp2_with (go_at_call 72; refine (load_t p n c _ g j k hp hj hc).mono ?_; rintro e w' ⟨rfl, rfl⟩)
  go_ret2
  exact ⟨rfl, rfl⟩
theorem swap_n (g j : Nat) (k x y : Int) (hp : w.cell? p = some (.slice (some ⟨g, 0, none⟩) n c)) (hj : j < n) (hc : w.cell? ⟨g, j, none⟩ = some (.int .u64 k)) (hk : (k == x) = false) :
    Calls Tryd.prog 71 #[.pointer (some p), .int .i64 j, .int .u64 x, .int .u64 y] w fun e w' => e = .returned (.tuple #[.bool false, .nilIface]) ∧ w = w' := by
  have hk' : (k != x) = true := by simp only [bne, hk]; rfl
  go_enter Tryd.func71, Tryd.ntmps71
  go_wp2_with (go_at_call 72; refine (load_t p n c _ g j k hp hj hc).mono ?_; rintro e w' ⟨rfl, rfl⟩)
  go_ret2
  exact ⟨rfl, rfl⟩
theorem swap_f (i x y : Int) (hp : w.cell? p = some (.slice A n c)) (h : ¬ (0 ≤ i ∧ i < n)) :
    Calls Tryd.prog 71 #[.pointer (some p), .int .i64 i, .int .u64 x, .int .u64 y] w fun e w' => e = .returned (.tuple #[.bool false, .iface 26 (.int .i64 2)]) ∧ w = w' := by
  have H := Lib.hid h
  clear h
  go_enter Tryd.func71, Tryd.ntmps71
  go_wp2_with (go_at_call 72; refine (load_f p _ n c _ _ hp H.out).mono ?_; rintro e w' ⟨rfl, rfl⟩)
  go_ret2
  exact ⟨rfl, rfl⟩
end
/-- A memory of cells at p: its words are this call's own. -/
def u64s (ms : List Int) : List Value := ms.map (Value.int .u64)
def U64 (x : Int) : Prop := 0 ≤ x ∧ x < 18446744073709551616
structure MemP (base : Nat) (w : World) (p : Nat) (v : Value) (n : Nat) (ms : List Int) : Prop where
  blk : Blk w p 132 #[v]
  own : w.ownsRow base 35 1 v n (u64s ms)
  len : ms.length = n
  lo : base ≤ p
set_option maxRecDepth 100000 in
theorem of_ok (A : Option Addr) (n c B : Nat) (ms : List Int) (w : World) (hr : Reads w B 1 A n (u64s ms)) (hl : ms.length = n) (hn : n ≤ 300) :
    Calls Tryd.prog 67 #[.slice A n c] w fun e w' => ∃ p v, e = .returned (.tuple #[.pointer (some ⟨p, 0, none⟩), .nilIface]) ∧ MemP w.heap.size w' p v n ms ∧ Below w.heap.size w w' := by
  obtain ⟨i0, hi0, hz0, hz1, hz2⟩ := info_parts Tryd.info35
  have h1 : ∀ u ∈ u64s ms, u.oneCell' = true := fun u hu => by obtain ⟨x, _, rfl⟩ := List.mem_map.1 hu; rfl
  have H1 := Lib.hid h1
  have HL := Lib.hid hl
  clear h1 hl
  go_enter Tryd.func67, Tryd.ntmps67
  go_wp2_with (at_builtin; (refine wpList_append_any _ rfl (.const (.slice none 0 0)) (.tmp 8) _ rfl w.heap.size 35 i0 _ 1 8 Tryd.underlying34 hi0 hz0 hz1 hz2 rfl (by omega) (.slice none 0 0) 0 [] rfl ⟨by simp, .inl ⟨rfl, rfl⟩⟩ B A n c (u64s ms) rfl hr H1.out (by simp only [maxLen]; omega) (by omega) (Nat.le_refl _) ?_); intro v1 w1 hown1 hg1 _; rw [Nat.zero_add, List.nil_append] at hown1; have HO := Lib.hid hown1; obtain ⟨A1, c1, rfl⟩ := own_formM hown1; clear hown1)
  go_ret2
  have hb1 := (Below.refl w.heap.size w).grown hg1 (Nat.le_refl _) (by simp [Value.ownBlock])
  exact ⟨w1.heap.size, _, rfl, ⟨Blk.new _ _ _, HO.out.alloc _, HL.out, hb1.size⟩, hb1.alloc hb1.size _⟩
theorem of_f (A : Option Addr) (n c : Nat) (w : World) (h : 300 < n) :
    Calls Tryd.prog 67 #[.slice A n c] w fun e w' => e = .returned (.tuple #[.pointer none, .iface 26 (.int .i64 4)]) ∧ w = w' := by
  have h' : (300 : Int) < (n : Int) := by omega
  go_enter Tryd.func67, Tryd.ntmps67
  go_wp2
  go_ret2
  exact ⟨rfl, rfl⟩
end Go.Proofs.YtepoahinnfjaiaaDoor
