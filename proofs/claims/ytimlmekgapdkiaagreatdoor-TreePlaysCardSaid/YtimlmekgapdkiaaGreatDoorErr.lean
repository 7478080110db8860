/- which error an error is: errors.Is, errors.As over the sentinels -/
import Derived.Test.YtimlmekgapdkiaaGreatDoorbase
import Derived.Test.YtimlmekgapdkiaaGreatDoorChecked
import Derived.LaidEql
import Derived.Stop.Asserts
import Derived.RowKitTokens
import Derived.Handy
import Derived.Stop.IfaceNil
namespace Go.Proofs.YtimlmekgapdkiaaGreatDoor
set_option linter.unusedVariables false
set_option linter.unusedSimpArgs false
open Go.RowKit Go.Cas Go.Extern.Stop Go.Stop Go.Extern

/-! what 'reflectlite.TypeOf(target).Comparable()' gives at a sentinel -/
theorem isTypeOf (v : Value) (w : World) : (Extern.ReflectliteType.typeOf #[.iface 135 v]).run Tryz.prog w = .ok (.iface 121 (.agg #[.pointer (some ⟨8, 135, none⟩)])) w := by kernel_rfl
theorem isComparable (w : World) : ((Extern.ReflectliteType.method fun t => do Rtype.noPackHeld "Comparable" t; (fun a => Value.bool a.comparable) <$> typeInfo t) #[.agg #[.pointer (some ⟨8, 135, none⟩)]]).run Tryz.prog w = .ok (.bool true) w := by kernel_rfl
theorem isComp : (Tryz.prog.info? 135).map (·.comparable) = some true := by kernel_rfl
theorem isSize : (Tryz.prog.info? 156).map (·.size) = some 1 := by kernel_rfl
/-! what the assertions find -/
theorem noIsE (v : Value) (xT : TypeId) (w : World) : (Instr.typeAssert (.iface 135 v) xT 123 true).run Tryz.prog w = .ok (.tuple #[.nilIface, .bool false]) w := run_typeAssert_lacksB Tryz.underlying123 (by kernel_rfl) (by kernel_rfl) v xT w
theorem noAsE (v : Value) (xT : TypeId) (w : World) : (Instr.typeAssert (.iface 135 v) xT 132 true).run Tryz.prog w = .ok (.tuple #[.nilIface, .bool false]) w := run_typeAssert_lacksB Tryz.underlying132 (by kernel_rfl) (by kernel_rfl) v xT w
theorem noUnwrapE (v : Value) (xT : TypeId) (w : World) : (Instr.typeAssert (.iface 135 v) xT 126 true).run Tryz.prog w = .ok (.tuple #[.nilIface, .bool false]) w := run_typeAssert_lacksB Tryz.underlying126 (by kernel_rfl) (by kernel_rfl) v xT w
theorem noUnwrapsE (v : Value) (xT : TypeId) (w : World) : (Instr.typeAssert (.iface 135 v) xT 128 true).run Tryz.prog w = .ok (.tuple #[.nilIface, .bool false]) w := run_typeAssert_lacksB Tryz.underlying128 (by kernel_rfl) (by kernel_rfl) v xT w
set_option maxRecDepth 100000 in
set_option maxHeartbeats 4000000 in
/-- errors.Is(x, x) -/
theorem is_same (a : Addr) (w : World) : Calls Tryz.prog 76 #[.iface 135 (.pointer (some a)), .iface 135 (.pointer (some a))] w fun e w' => e = .returned (.bool true) ∧ w = w' := by
  obtain ⟨i, hi, hcmp⟩ := Option.map_eq_some_iff.1 isComp
  obtain ⟨j, hj, hjs⟩ := Option.map_eq_some_iff.1 isSize
  have h8 := @run_callFunc_extern Tryz.prog 83 _ Extern.ReflectliteType.typeOf Tryz.func83 (by kernel_rfl) (by kernel_rfl) (by kernel_rfl) (by kernel_rfl)
  have h32 := @run_callFunc_extern Tryz.prog 115 _ (Extern.ReflectliteType.method fun t => do Rtype.noPackHeld "Comparable" t; pure (.bool (← typeInfo t).comparable)) Tryz.func115 (by kernel_rfl) (by kernel_rfl) (by kernel_rfl) (by kernel_rfl)
  have tT := isTypeOf
  have cT := isComparable
  have heq := run_eql_iface_ptr_same (P := Tryz.prog) w a Tryz.underlying55 Tryz.underlying135 hi hcmp hj
  go_enter Tryz.func76, Tryz.ntmps76
  go_wp2
  refine wp_loop_rounds 1 ?_
  rw [rounds_succ]
  go_wp2
  go_ret
  exact ⟨rfl, rfl⟩
set_option maxRecDepth 100000 in
set_option maxHeartbeats 4000000 in
/-- errors.Is(x, y): two sentinels -/
theorem is_other (a b : Addr) (ca cb : Array Value) (ta tb : TypeId) (w : World) (hne : a ≠ b) (ha : w.heap[a.block]? = some (.cells ca ta (0, 0))) (hb : w.heap[b.block]? = some (.cells cb tb (0, 0))) : Calls Tryz.prog 76 #[.iface 135 (.pointer (some a)), .iface 135 (.pointer (some b))] w fun e w' => e = .returned (.bool false) ∧ w = w' := by
  obtain ⟨i, hi, hcmp⟩ := Option.map_eq_some_iff.1 isComp
  obtain ⟨j, hj, hjs⟩ := Option.map_eq_some_iff.1 isSize
  have h8 := @run_callFunc_extern Tryz.prog 83 _ Extern.ReflectliteType.typeOf Tryz.func83 (by kernel_rfl) (by kernel_rfl) (by kernel_rfl) (by kernel_rfl)
  have h32 := @run_callFunc_extern Tryz.prog 115 _ (Extern.ReflectliteType.method fun t => do Rtype.noPackHeld "Comparable" t; pure (.bool (← typeInfo t).comparable)) Tryz.func115 (by kernel_rfl) (by kernel_rfl) (by kernel_rfl) (by kernel_rfl)
  have tT := isTypeOf
  have cT := isComparable
  have nE := noIsE
  have uE := noUnwrapE
  have vE := noUnwrapsE
  have heq := run_eql_iface_ptr_other (P := Tryz.prog) w Tryz.underlying55 Tryz.underlying135 hi hcmp hj (by rw [hjs]; decide) hne ha hb
  go_enter Tryz.func76, Tryz.ntmps76
  go_wp2
  refine wp_loop_rounds 1 ?_
  rw [rounds_succ]
  go_wp2
  go_ret
  exact ⟨rfl, rfl⟩
theorem asValueOf (a : Addr) (w : World) : (Extern.ReflectliteValue.unpack (.iface 100 (.pointer (some a)))).run Tryz.prog w = .ok (.agg #[.pointer (some ⟨8, 100, none⟩), .pointer (some ⟨w.heap.size, 0, none⟩), .int .u64 150]) (w.alloc (.cells #[.pointer (some a)] 100)) := by kernel_rfl
theorem asType (p : Addr) (w : World) : (Extern.ReflectliteValue.methodAny (Extern.ReflectliteValue.valueError "reflectlite.Value.Type" 0) (fun t _ _ _ => Extern.ReflectliteType.toType t) #[.agg #[.pointer (some ⟨8, 100, none⟩), .pointer (some p), .int .u64 150]]).run Tryz.prog w = .ok (.iface 121 (.agg #[.pointer (some ⟨8, 100, none⟩)])) w := by kernel_rfl
theorem asElem (w : World) : (Extern.ReflectliteType.method Extern.ReflectliteType.elem #[.agg #[.pointer (some ⟨8, 100, none⟩)]]).run Tryz.prog w = .ok (.iface 121 (.agg #[.pointer (some ⟨8, 98, none⟩)])) w := by kernel_rfl
theorem asImpl (w : World) : (Extern.ReflectliteType.relation "Implements" Extern.ReflectliteType.implements_ #[.agg #[.pointer (some ⟨8, 98, none⟩)], .iface 121 (.agg #[.pointer (some ⟨8, 55, none⟩)])]).run Tryz.prog w = .ok (.bool true) w := by kernel_rfl
theorem asAssign (w : World) : (Extern.ReflectliteType.relation "AssignableTo" Extern.ReflectliteType.assignableTo #[.agg #[.pointer (some ⟨8, 135, none⟩)], .iface 121 (.agg #[.pointer (some ⟨8, 98, none⟩)])]).run Tryz.prog w = .ok (.bool false) w := by kernel_rfl
theorem asKind (w : World) : (Extern.ReflectliteType.abiMethod (fun t => (fun a => Value.int IntKind.u8 ((a : Nat) : Int)) <$> Rtype.kind t) #[.pointer (some ⟨8, 100, none⟩)]).run Tryz.prog w = .ok (.int .u8 22) w := by kernel_rfl
theorem asKind2 (w : World) : (Extern.ReflectliteType.abiMethod (fun t => (fun a => Value.int IntKind.u8 ((a : Nat) : Int)) <$> Rtype.kind t) #[.pointer (some ⟨8, 98, none⟩)]).run Tryz.prog w = .ok (.int .u8 22) w := by kernel_rfl
theorem asIsNil (p a : Addr) (w : World) (h : w.cell? p = some (.pointer (some a))) : (Extern.ReflectliteValue.method (Extern.ReflectliteValue.valueError "reflectlite.Value.IsNil" 0) Extern.ReflectliteValue.isNil #[.agg #[.pointer (some ⟨8, 100, none⟩), .pointer (some p), .int .u64 150]]).run Tryz.prog w = .ok (.bool false) w := by
  have h1 : (Extern.ReflectliteValue.parts (.agg #[.pointer (some ⟨8, 100, none⟩), .pointer (some p), .int .u64 150])).run Tryz.prog w = .ok (some (100, p, 150)) w := by kernel_rfl
  have h2 : (isAgg 100).run Tryz.prog w = .ok false w := by kernel_rfl
  have h0 : Extern.ReflectliteValue.method (Extern.ReflectliteValue.valueError "reflectlite.Value.IsNil" 0) Extern.ReflectliteValue.isNil #[.agg #[.pointer (some ⟨8, 100, none⟩), .pointer (some p), .int .u64 150]] = (Extern.ReflectliteValue.parts (.agg #[.pointer (some ⟨8, 100, none⟩), .pointer (some p), .int .u64 150]) >>= fun o => match o with | none => Extern.ReflectliteValue.valueError "reflectlite.Value.IsNil" 0 | some (t, a, fl) => Extern.ReflectliteValue.isNil t a fl (fl % 32)) := rfl
  rw [h0, Sem.run_bind, h1]
  simp [Extern.ReflectliteValue.isNil, loadVar, h2, h]
set_option maxRecDepth 100000 in
set_option maxHeartbeats 8000000 in
/-- errors.As(x, &f), x a sentinel, f a *api.Fault -/
theorem as_no (a : Addr) (f : Nat) (w : World) (hg : w.cell? ⟨7, 0, none⟩ = some (.iface 121 (.agg #[.pointer (some ⟨8, 55, none⟩)]))) (hgl : 7 < w.heap.size) : Calls Tryz.prog 77 #[.iface 135 (.pointer (some a)), .iface 100 (.pointer (some ⟨f, 0, none⟩))] w fun e w' => e = .returned (.bool false) ∧ Below w.heap.size w w' := by
  have x104 := @run_callFunc_extern Tryz.prog 83 _ Extern.ReflectliteType.typeOf Tryz.func83 (by kernel_rfl) (by kernel_rfl) (by kernel_rfl) (by kernel_rfl)
  have x106 := @run_callFunc_extern Tryz.prog 85 _ (fun args => Extern.ReflectliteValue.unpack (args.getD 0 (.tuple #[]))) Tryz.func85 (by kernel_rfl) (by kernel_rfl) (by kernel_rfl) (by kernel_rfl)
  have x107 := @run_callFunc_extern Tryz.prog 86 _ (Extern.ReflectliteValue.methodAny (Extern.ReflectliteValue.valueError "reflectlite.Value.Type" 0) (fun t _ _ _ => Extern.ReflectliteType.toType t)) Tryz.func86 (by kernel_rfl) (by kernel_rfl) (by kernel_rfl) (by kernel_rfl)
  have x108 := @run_callFunc_extern Tryz.prog 87 _ (Extern.ReflectliteValue.method (Extern.ReflectliteValue.valueError "reflectlite.Value.IsNil" 0) Extern.ReflectliteValue.isNil) Tryz.func87 (by kernel_rfl) (by kernel_rfl) (by kernel_rfl) (by kernel_rfl)
  have x140 := @run_callFunc_extern Tryz.prog 105 _ (Extern.ReflectliteType.abiMethod (fun t => do pure (.int .u8 (← Rtype.kind t)))) Tryz.func105 (by kernel_rfl) (by kernel_rfl) (by kernel_rfl) (by kernel_rfl)
  have x151 := @run_callFunc_extern Tryz.prog 116 _ (Extern.ReflectliteType.method Extern.ReflectliteType.elem) Tryz.func116 (by kernel_rfl) (by kernel_rfl) (by kernel_rfl) (by kernel_rfl)
  have x152 := @run_callFunc_extern Tryz.prog 117 _ (Extern.ReflectliteType.relation "Implements" Extern.ReflectliteType.implements_) Tryz.func117 (by kernel_rfl) (by kernel_rfl) (by kernel_rfl) (by kernel_rfl)
  have x149 := @run_callFunc_extern Tryz.prog 114 _ (Extern.ReflectliteType.relation "AssignableTo" Extern.ReflectliteType.assignableTo) Tryz.func114 (by kernel_rfl) (by kernel_rfl) (by kernel_rfl) (by kernel_rfl)
  have c1 := isTypeOf
  have c2 := asValueOf
  have c3 := asType
  have c4 := asElem
  have c5 := asImpl
  have c6 := asAssign
  have c7 := asKind
  have c8 := asKind2
  have c9 := asIsNil
  have nA := noAsE
  have uE := noUnwrapE
  have vE := noUnwrapsE
  go_enter Tryz.func77, Tryz.ntmps77
  go_wp2
  refine wp_loop_rounds 1 ?_
  rw [rounds_succ]
  go_wp2
  go_ret
  exact ⟨rfl, by go_grown⟩
end Go.Proofs.YtimlmekgapdkiaaGreatDoor
