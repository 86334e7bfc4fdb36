/-
  errors.As at the target *api.Errno, at an error that is an *api.At: by its contract. Conditions: errors.errorType is laid, the cells are there.
-/
import Derived.Test.YthnbbgmajdjgeaaDoorAs
import Derived.Outline
import Derived.Lib.Hide
import Derived.Deep.QuietTactic
import Derived.BigQuiet
import Derived.Below
import Derived.WalkSmall
namespace Go.Proofs.YthnbbgmajdjgeaaDoor
open Go.RowKit Go.Extern.Stop Go.Stop Go.Extern
theorem Tryd.methodUnwrap (a : Addr) (w : World) : (Go.method 330 65 (.pointer (some a)) "Unwrap").run Tryd.prog w = .ok (132, .pointer (some a)) w := by kernel_rfl
theorem Tryd.noAsAt (v : Value) (xT : TypeId) (w : World) : (Instr.typeAssert (.iface 65 v) xT 171 true).run Tryd.prog w = .ok (.tuple #[.nilIface, .bool false]) w := run_typeAssert_lacksB Tryd.underlying171 (by kernel_rfl) (by kernel_rfl) v xT w
theorem Tryd.unwrapAt (v : Value) (xT : TypeId) (w : World) : (Instr.typeAssert (.iface 65 v) xT 103 true).run Tryd.prog w = .ok (.tuple #[.iface 65 v, .bool true]) w := run_typeAssert_hasB Tryd.underlying103 (by kernel_rfl) v xT w
theorem Tryd.noUnwrapE (v : Value) (xT : TypeId) (w : World) : (Instr.typeAssert (.iface 27 v) xT 103 true).run Tryd.prog w = .ok (.tuple #[.nilIface, .bool false]) w := run_typeAssert_lacksB Tryd.underlying103 (by kernel_rfl) (by kernel_rfl) v xT w
theorem Tryd.atE (v : Value) (w : World) : (Instr.typeAssert (.iface 27 v) 33 65 true).run Tryd.prog w = .ok (.tuple #[.pointer none, .bool false]) w := by kernel_rfl
theorem Tryd.atAt (v : Value) (w : World) : (Instr.typeAssert (.iface 65 v) 33 65 true).run Tryd.prog w = .ok (.tuple #[v, .bool true]) w := by kernel_rfl
theorem unwrap_calls (a : Addr) (n : Int) (w : World) (ha : w.cell? a = some (.int .i64 n)) : Calls Tryd.prog 132 #[.pointer (some a)] w fun e w' => e = .returned (.iface 27 (.int .i64 n)) ∧ w = w' := by
  go_enter Tryd.func132, Tryd.ntmps132
  go_wp2
  go_ret
  exact ⟨rfl, rfl⟩
set_option maxRecDepth 100000 in
set_option maxHeartbeats 4000000 in
theorem as_at (n : Int) (a t : Addr) (old : Value) (w : World) (hg : w.cell? ⟨3, 0, none⟩ = some (.iface 116 (.agg #[.pointer (some ⟨13, 33, none⟩)]))) (ha : w.cell? a = some (.int .i64 n)) (ht0 : w.cell? t = some old) (hf0 : w.frozen? t = false) :
    Calls Tryd.prog 61 #[.iface 65 (.pointer (some a)), .iface 123 (.pointer (some t))] w fun ev w' => ev = .returned (.bool true) ∧ w' = ((((w.alloc (.cells #[.pointer (some t)] 123)).alloc (.cells #[.pointer (some ⟨13, 123, none⟩), .pointer (some ⟨w.heap.size, 0, none⟩), .int .u64 150] 91)).alloc (.cells #[.pointer (some ⟨13, 123, none⟩), .pointer (some ⟨w.heap.size, 0, none⟩), .int .u64 150] 91)).alloc (.cells #[.int .i64 n] 27)).setCell t (.int .i64 n) := by
  have ext104 := @run_callFunc_extern Tryd.prog 30 _ (fun args => ReflectliteValue.unpack (args.getD 0 (.tuple #[]))) Tryd.func30 (by kernel_rfl) (by kernel_rfl) (by kernel_rfl) (by kernel_rfl)
  have ext105 := @run_callFunc_extern Tryd.prog 74 _ (ReflectliteValue.methodAny (ReflectliteValue.valueError "reflectlite.Value.Type" 0) (fun t _ _ _ => ReflectliteType.toType t)) Tryd.func74 (by kernel_rfl) (by kernel_rfl) (by kernel_rfl) (by kernel_rfl)
  have ext106 := @run_callFunc_extern Tryd.prog 75 _ (ReflectliteValue.method (ReflectliteValue.valueError "reflectlite.Value.IsNil" 0) ReflectliteValue.isNil) Tryd.func75 (by kernel_rfl) (by kernel_rfl) (by kernel_rfl) (by kernel_rfl)
  have ext133 := @run_callFunc_extern Tryd.prog 126 _ (ReflectliteType.abiMethod fun t => do pure (.int .u8 (← Rtype.kind t))) Tryd.func126 (by kernel_rfl) (by kernel_rfl) (by kernel_rfl) (by kernel_rfl)
  have ext146 := @run_callFunc_extern Tryd.prog 136 _ (ReflectliteType.method ReflectliteType.elem) Tryd.func136 (by kernel_rfl) (by kernel_rfl) (by kernel_rfl) (by kernel_rfl)
  have ext114 := @run_callFunc_extern Tryd.prog 91 _ ReflectliteType.typeOf Tryd.func91 (by kernel_rfl) (by kernel_rfl) (by kernel_rfl) (by kernel_rfl)
  have ext147 := @run_callFunc_extern Tryd.prog 137 _ (ReflectliteType.relation "Implements" ReflectliteType.implements_) Tryd.func137 (by kernel_rfl) (by kernel_rfl) (by kernel_rfl) (by kernel_rfl)
  have ext144 := @run_callFunc_extern Tryd.prog 135 _ (ReflectliteType.relation "AssignableTo" ReflectliteType.assignableTo) Tryd.func135 (by kernel_rfl) (by kernel_rfl) (by kernel_rfl) (by kernel_rfl)
  have ext115 := @run_callFunc_extern Tryd.prog 92 _ (ReflectliteValue.method (ReflectliteValue.valueError "reflectlite.Value.Elem" 0) ReflectliteValue.elem) Tryd.func92 (by kernel_rfl) (by kernel_rfl) (by kernel_rfl) (by kernel_rfl)
  have ext116 := @run_callFunc_extern Tryd.prog 93 _ ReflectliteValue.set Tryd.func93 (by kernel_rfl) (by kernel_rfl) (by kernel_rfl) (by kernel_rfl)
  have tO := Tryd.typeOfE
  have mA := Tryd.methodAssignableTo
  have tA := Tryd.typeOfAt
  have aA := Tryd.assignableAt
  have mU := Tryd.methodUnwrap
  have nA := Tryd.noAsAt
  have uA := Tryd.unwrapAt
  have a25 := Tryd.assignableE
  have v25 := Tryd.valueOfE
  have f6 := Tryd.valueOfT
  have f7 := Tryd.typeT
  have mK := Tryd.methodKind
  have mE := Tryd.methodElem
  have mI := Tryd.methodImplements
  have k27 := Tryd.kindT
  have k25 := Tryd.kindE
  have e27 := Tryd.elemT
  have i25 := Tryd.implementsE
  have n8 := Tryd.isNilT ⟨w.heap.size, 0, none⟩ t ((w.alloc (.cells #[.pointer (some t)] 123)).alloc (.cells #[.pointer (some ⟨13, 123, none⟩), .pointer (some ⟨w.heap.size, 0, none⟩), .int .u64 150] 91)) (by simp)
  have hlt : 3 < w.heap.size := by
    rcases Nat.lt_or_ge 3 w.heap.size with h | h
    · exact h
    · simp [World.cell?, Array.getElem?_eq_none h] at hg
  have hg2 : ((w.alloc (.cells #[.pointer (some t)] 123)).alloc (.cells #[.pointer (some ⟨13, 123, none⟩), .pointer (some ⟨w.heap.size, 0, none⟩), .int .u64 150] 91)).cell? ⟨3, 0, none⟩ = some (.iface 116 (.agg #[.pointer (some ⟨13, 33, none⟩)])) := by
    rw [World.cell?_alloc_lt _ _ ⟨3, 0, none⟩ (by simp; omega), World.cell?_alloc_lt _ _ ⟨3, 0, none⟩ hlt]; exact hg
  have htl : t.block < w.heap.size := by
    rcases Nat.lt_or_ge t.block w.heap.size with h | h
    · exact h
    · simp [World.cell?, Array.getElem?_eq_none h] at ht0
  have hal : a.block < w.heap.size := by
    rcases Nat.lt_or_ge a.block w.heap.size with h | h
    · exact h
    · simp [World.cell?, Array.getElem?_eq_none h] at ha
  have ha3 : (((w.alloc (.cells #[.pointer (some t)] 123)).alloc (.cells #[.pointer (some ⟨13, 123, none⟩), .pointer (some ⟨w.heap.size, 0, none⟩), .int .u64 150] 91)).alloc (.cells #[.pointer (some ⟨13, 123, none⟩), .pointer (some ⟨w.heap.size, 0, none⟩), .int .u64 150] 91)).cell? a = some (.int .i64 n) := by
    rw [World.cell?_alloc_lt _ _ a (by simp; omega), World.cell?_alloc_lt _ _ a (by simp; omega), World.cell?_alloc_lt _ _ a hal]; exact ha
  have el := Tryd.elemVT ⟨w.heap.size, 0, none⟩ t (((w.alloc (.cells #[.pointer (some t)] 123)).alloc (.cells #[.pointer (some ⟨13, 123, none⟩), .pointer (some ⟨w.heap.size, 0, none⟩), .int .u64 150] 91)).alloc (.cells #[.pointer (some ⟨13, 123, none⟩), .pointer (some ⟨w.heap.size, 0, none⟩), .int .u64 150] 91)) (by rw [World.cell?_alloc_lt _ _ ⟨w.heap.size, 0, none⟩ (by simp; omega)]; simp)
  have st := Tryd.setE t ⟨w.heap.size + 1 + 1 + 1, 0, none⟩ n old ((((w.alloc (.cells #[.pointer (some t)] 123)).alloc (.cells #[.pointer (some ⟨13, 123, none⟩), .pointer (some ⟨w.heap.size, 0, none⟩), .int .u64 150] 91)).alloc (.cells #[.pointer (some ⟨13, 123, none⟩), .pointer (some ⟨w.heap.size, 0, none⟩), .int .u64 150] 91)).alloc (.cells #[.int .i64 n] 27))
    (by rw [World.cell?_alloc_at _ _ _ _ (by simp)]; rfl)
    (by rw [World.cell?_alloc_lt _ _ t (by simp; omega), World.cell?_alloc_lt _ _ t (by simp; omega), World.cell?_alloc_lt _ _ t (by simp; omega), World.cell?_alloc_lt _ _ t htl]; exact ht0)
    (by rw [World.frozen?_alloc_old _ _ t (by simp; omega), World.frozen?_alloc_old _ _ t (by simp; omega), World.frozen?_alloc_old _ _ t (by simp; omega), World.frozen?_alloc_old _ _ t (Nat.ne_of_lt htl)]; exact hf0)
  go_enter Tryd.func61, Tryd.ntmps61
  go_wp2
  refine wp_loop_rounds 2 ?_
  rw [rounds_succ]
  go_wp2_with (go_at_call 132; refine (unwrap_calls a n _ ha3).mono ?_; rintro e w1 ⟨rfl, rfl⟩)
  rw [rounds_succ]
  go_wp2
  go_ret
  exact ⟨rfl, rfl⟩

/-- The handle of the type error, where errors.errorType lies. -/
def HasErr (w : World) : Prop := w.cell? ⟨3, 0, none⟩ = some (.iface 116 (.agg #[.pointer (some ⟨13, 33, none⟩)]))
theorem HasErr.lt {w : World} (hg : HasErr w) : 3 < w.heap.size := by
  rcases Nat.lt_or_ge 3 w.heap.size with h | h
  · exact h
  · simp [HasErr, World.cell?, Array.getElem?_eq_none h] at hg
theorem HasErr.below {w w' : World} {B : Nat} (hg : HasErr w) (hb : Below B w w') (hB : 3 < B) : HasErr w' := by
  unfold HasErr; rw [hb.cell (p := ⟨3, 0, none⟩) hB]; exact hg
theorem HasErr.alloc {w : World} (hg : HasErr w) (o : Obj) : HasErr (w.alloc o) := by
  unfold HasErr; rw [World.cell?_alloc_lt _ _ ⟨3, 0, none⟩ hg.lt]; exact hg
theorem HasErr.drew {w : World} (hg : HasErr w) : HasErr w.drew := hg
theorem HasErr.drewN {w : World} (hg : HasErr w) (n : Nat) : HasErr (w.drewN n) := by
  unfold HasErr; simp; exact hg

set_option maxHeartbeats 4000000 in
theorem tell_e (n : Int) (w : World) (hg : HasErr w) :
    Calls Tryd.prog 36 #[.iface 27 (.int .i64 n)] w fun e w' => e = .returned (.int .i64 n) ∧ Below w.heap.size w w' := by
  have H := as_hit n ⟨w.heap.size, 0, none⟩ (.int .i64 0) (w.alloc (.cells #[.int .i64 0] 27)) (hg.alloc _) (by simp) (by simp)
  have hg' := Lib.hid hg
  clear hg
  go_enter Tryd.func36, Tryd.ntmps36
  go_wp2_with (go_at_call 61; refine H.mono ?_; rintro e w1 ⟨rfl, rfl⟩; clear H)
  go_ret
  refine ⟨rfl, ?_⟩
  repeat (refine Below.alloc ?_ (by first | omega | (simp <;> omega)) _)
  exact Below.refl _ _

set_option maxHeartbeats 4000000 in
theorem tell_at (n : Int) (a : Addr) (w : World) (hg : HasErr w) (ha : w.cell? a = some (.int .i64 n)) :
    Calls Tryd.prog 36 #[.iface 65 (.pointer (some a))] w fun e w' => e = .returned (.int .i64 n) ∧ Below w.heap.size w w' := by
  have hal : a.block < w.heap.size := by
    rcases Nat.lt_or_ge a.block w.heap.size with h | h
    · exact h
    · simp [World.cell?, Array.getElem?_eq_none h] at ha
  have H := as_at n a ⟨w.heap.size, 0, none⟩ (.int .i64 0) (w.alloc (.cells #[.int .i64 0] 27)) (hg.alloc _) (by rw [World.cell?_alloc_lt _ _ a hal]; exact ha) (by simp) (by simp)
  have hg' := Lib.hid hg
  clear hg
  go_enter Tryd.func36, Tryd.ntmps36
  go_wp2_with (go_at_call 61; refine H.mono ?_; rintro e w1 ⟨rfl, rfl⟩; clear H)
  go_ret
  refine ⟨rfl, ?_⟩
  repeat (refine Below.alloc ?_ (by first | omega | (simp <;> omega)) _)
  exact Below.refl _ _

theorem tell_nil (w : World) :
    Calls Tryd.prog 36 #[.nilIface] w fun e w' => e = .returned (.int .i64 0) ∧ w = w' := by
  go_enter Tryd.func36, Tryd.ntmps36
  go_wp2
  go_ret
  exact ⟨rfl, rfl⟩

set_option maxRecDepth 100000 in
set_option maxHeartbeats 4000000 in
theorem place_nil (w : World) :
    Calls Tryd.prog 21 #[.nilIface] w fun e w' => e = .returned (.tuple #[.int .i64 0, .int .i64 (-1)]) ∧ w = w' := by
  go_enter Tryd.func21, Tryd.ntmps21
  go_wp2_with (go_at_call 36; refine (tell_nil _).mono ?_; rintro e w1 ⟨rfl, rfl⟩)
  refine wp_loop_rounds 1 ?_
  rw [rounds_succ]
  go_wp2
  go_ret2
  exact ⟨rfl, rfl⟩

set_option maxRecDepth 100000 in
set_option maxHeartbeats 4000000 in
theorem place_e (n : Int) (w : World) (hg : HasErr w) :
    Calls Tryd.prog 21 #[.iface 27 (.int .i64 n)] w fun e w' => e = .returned (.tuple #[.int .i64 n, .int .i64 (-1)]) ∧ Below w.heap.size w w' := by
  have nU := Tryd.noUnwrapE
  have aE := Tryd.atE
  go_enter Tryd.func21, Tryd.ntmps21
  go_wp2_with (go_at_call 36; refine (tell_e n _ hg).mono ?_; rintro e w1 ⟨rfl, hb⟩)
  refine wp_loop_rounds 1 ?_
  rw [rounds_succ]
  go_wp2
  go_ret2
  exact ⟨rfl, hb⟩

set_option maxRecDepth 100000 in
set_option maxHeartbeats 4000000 in
theorem place_at (n p : Int) (b o : Nat) (w : World) (hg : HasErr w) (ha : w.cell? ⟨b, o, none⟩ = some (.int .i64 n)) (hp : w.cell? ⟨b, o + 1, none⟩ = some (.int .i64 p)) :
    Calls Tryd.prog 21 #[.iface 65 (.pointer (some ⟨b, o, none⟩))] w fun e w' => e = .returned (.tuple #[.int .i64 n, .int .i64 p]) ∧ Below w.heap.size w w' := by
  have hal : b < w.heap.size := by
    rcases Nat.lt_or_ge b w.heap.size with h | h
    · exact h
    · simp [World.cell?, Array.getElem?_eq_none h] at ha
  have aA := Tryd.atAt
  go_enter Tryd.func21, Tryd.ntmps21
  go_wp2_with (go_at_call 36; refine (tell_at n _ _ hg ha).mono ?_; rintro e w1 ⟨rfl, hb⟩)
  have ha' : w1.cell? ⟨b, o, none⟩ = some (.int .i64 n) := by rw [hb.cell (p := ⟨b, o, none⟩) hal]; exact ha
  have hp' : w1.cell? ⟨b, o + 1, none⟩ = some (.int .i64 p) := by rw [hb.cell (p := ⟨b, o + 1, none⟩) hal]; exact hp
  refine wp_loop_rounds 1 ?_
  rw [rounds_succ]
  go_wp2
  go_quiet (fail)
  go_wp2
  go_ret2
  refine ⟨rfl, ?_⟩
  exact below_drewN hb _
theorem bcell {W w1 : World} (hb : Below W.heap.size W w1) : (∀ b o, b < W.heap.size → w1.cell? ⟨b, o, none⟩ = W.cell? ⟨b, o, none⟩) ∧ (∀ b o, b < W.heap.size → w1.frozen? ⟨b, o, none⟩ = W.frozen? ⟨b, o, none⟩) :=
  ⟨fun b o h => hb.cell (p := ⟨b, o, none⟩) h, fun b o h => hb.frozen (p := ⟨b, o, none⟩) h⟩

theorem placed_nil (w : World) :
    Calls Tryd.prog 7 #[.nilIface, .agg #[.int .i64 0, .int .i64 (-1)]] w fun e w' => e = .returned (.bool true) ∧ Below w.heap.size w w' := by
  go_enter Tryd.func7, Tryd.ntmps7
  go_wp2_with (go_at_call 21; refine (place_nil _).mono ?_; rintro e w1 ⟨rfl, rfl⟩)
  go_ret
  refine ⟨rfl, ?_⟩
  exact (Below.refl _ _).alloc (Nat.le_refl _) _

theorem placed_e (n : Int) (w : World) (hg : HasErr w) :
    Calls Tryd.prog 7 #[.iface 27 (.int .i64 n), .agg #[.int .i64 n, .int .i64 (-1)]] w fun e w' => e = .returned (.bool true) ∧ Below w.heap.size w w' := by
  go_enter Tryd.func7, Tryd.ntmps7
  go_wp2_with (go_at_call 21; refine (place_e _ _ (hg.alloc _)).mono ?_; rintro e w1 ⟨rfl, hb⟩; have hc0 : w1.cell? ⟨w.heap.size, 0, none⟩ = some (.int .i64 n) := (by rw [hb.cell (p := ⟨w.heap.size, 0, none⟩) (by simp)]; simp); have hc1 : w1.cell? ⟨w.heap.size, 1, none⟩ = some (.int .i64 (-1)) := (by rw [hb.cell (p := ⟨w.heap.size, 1, none⟩) (by simp)]; simp))
  go_ret
  refine ⟨rfl, ?_⟩
  exact ((Below.refl _ _).alloc (Nat.le_refl _) _).trans (hb.mono (by simp))

theorem placed_at (n p : Int) (b o : Nat) (w : World) (hg : HasErr w) (ha : w.cell? ⟨b, o, none⟩ = some (.int .i64 n)) (hp : w.cell? ⟨b, o + 1, none⟩ = some (.int .i64 p)) :
    Calls Tryd.prog 7 #[.iface 65 (.pointer (some ⟨b, o, none⟩)), .agg #[.int .i64 n, .int .i64 p]] w fun e w' => e = .returned (.bool true) ∧ Below w.heap.size w w' := by
  have hal : b < w.heap.size := by
    rcases Nat.lt_or_ge b w.heap.size with h | h
    · exact h
    · simp [World.cell?, Array.getElem?_eq_none h] at ha
  have ha1 : (w.alloc (.cells #[.int .i64 n, .int .i64 p] 29)).cell? ⟨b, o, none⟩ = some (.int .i64 n) := by rw [World.cell?_alloc_lt _ _ ⟨b, o, none⟩ hal]; exact ha
  have hp1 : (w.alloc (.cells #[.int .i64 n, .int .i64 p] 29)).cell? ⟨b, o + 1, none⟩ = some (.int .i64 p) := by rw [World.cell?_alloc_lt _ _ ⟨b, o + 1, none⟩ hal]; exact hp
  go_enter Tryd.func7, Tryd.ntmps7
  go_wp2_with (go_at_call 21; refine (place_at n p b o _ (hg.alloc _) ha1 hp1).mono ?_; rintro e w1 ⟨rfl, hb⟩; have hc0 : w1.cell? ⟨w.heap.size, 0, none⟩ = some (.int .i64 n) := (by rw [hb.cell (p := ⟨w.heap.size, 0, none⟩) (by simp)]; simp); have hc1 : w1.cell? ⟨w.heap.size, 1, none⟩ = some (.int .i64 p) := (by rw [hb.cell (p := ⟨w.heap.size, 1, none⟩) (by simp)]; simp))
  go_ret
  refine ⟨rfl, ?_⟩
  exact ((Below.refl _ _).alloc (Nat.le_refl _) _).trans (hb.mono (by simp))

end Go.Proofs.YthnbbgmajdjgeaaDoor
