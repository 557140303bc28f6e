import Derived.Test.YtpaebopmppbjbaaGreatDoorSepM
import Derived.Test.YtpaebopmppbjbaaGreatDoorProg
import Derived.WalkKit
import Derived.LaidEql
import Derived.Stop.Asserts
import Derived.RowKitTokens
/- The number within an error: errors.As at a fault, api.Code; errors.Is of an error and itself. -/
set_option linter.unusedVariables false
set_option linter.unusedSimpArgs false
namespace Go.Proofs.YtpaebopmppbjbaaGreatDoor
open Go Go.RowKit Go.Le Go.Extern.Stop Go.Stop Go.Extern

theorem eValueOfP (t : Addr) (w : World) : (ReflectliteValue.unpack (.iface 97 (.pointer (some t)))).run Tryz.prog w
    = .ok (.agg #[.pointer (some ⟨1, 97, none⟩), .pointer (some ⟨w.heap.size, 0, none⟩), .int .u64 150]) (w.alloc (.cells #[.pointer (some t)] 97)) := by kernel_rfl
theorem eTypeP (a : Addr) (w : World) : (ReflectliteValue.methodAny (ReflectliteValue.valueError "reflectlite.Value.Type" 0) (fun t _ _ _ => ReflectliteType.toType t) #[.agg #[.pointer (some ⟨1, 97, none⟩), .pointer (some a), .int .u64 150]]).run Tryz.prog w
    = .ok (.iface 150 (.agg #[.pointer (some ⟨1, 97, none⟩)])) w := by kernel_rfl
theorem eMKind (h : Value) (w : World) : (Go.method 307 150 (.agg #[h]) "Kind").run Tryz.prog w = .ok (117, h) w := by kernel_rfl
theorem eKindP (w : World) : ((ReflectliteType.abiMethod fun t => (fun a : Nat => Value.int IntKind.u8 (a : Int)) <$> Rtype.kind t) #[.pointer (some ⟨1, 97, none⟩)]).run Tryz.prog w = .ok (.int .u8 22) w := by kernel_rfl
theorem eKindE (w : World) : ((ReflectliteType.abiMethod fun t => (fun a : Nat => Value.int IntKind.u8 (a : Int)) <$> Rtype.kind t) #[.pointer (some ⟨1, 49, none⟩)]).run Tryz.prog w = .ok (.int .u8 2) w := by kernel_rfl
theorem erlm (z : Sem Value) (f : TypeId → Addr → Nat → Nat → Sem Value) (v : Value) :
    ReflectliteValue.method z f #[v] = (do match ← ReflectliteValue.parts v with | none => z | some (t, a, fl) => f t a fl (fl % 32)) := rfl
theorem ePartsP (a : Addr) (w : World) : (ReflectliteValue.parts (.agg #[.pointer (some ⟨1, 97, none⟩), .pointer (some a), .int .u64 150])).run Tryz.prog w = .ok (some (97, a, 150)) w := by kernel_rfl
theorem eIsNilP (a p : Addr) (W : World) (ha : W.cell? a = some (.pointer (some p))) :
    (ReflectliteValue.method (ReflectliteValue.valueError "reflectlite.Value.IsNil" 0) ReflectliteValue.isNil #[.agg #[.pointer (some ⟨1, 97, none⟩), .pointer (some a), .int .u64 150]]).run Tryz.prog W = .ok (.bool false) W := by
  rw [erlm]
  simp only [Sem.run_bind, ePartsP, Result.andThen]
  simp [ReflectliteValue.isNil, loadVar, isAgg, underlying, Tryz.underlying97, ha, Result.andThen]
theorem eMElem (h : Value) (w : World) : (Go.method 307 150 (.agg #[h]) "Elem").run Tryz.prog w = .ok (129, .agg #[h]) w := by kernel_rfl
theorem eMImplements (h : Value) (w : World) : (Go.method 307 150 (.agg #[h]) "Implements").run Tryz.prog w = .ok (130, .agg #[h]) w := by kernel_rfl
theorem eMAssignable (h : Value) (w : World) : (Go.method 307 150 (.agg #[h]) "AssignableTo").run Tryz.prog w = .ok (127, .agg #[h]) w := by kernel_rfl
theorem eElemP (w : World) : (ReflectliteType.method ReflectliteType.elem #[.agg #[.pointer (some ⟨1, 97, none⟩)]]).run Tryz.prog w = .ok (.iface 150 (.agg #[.pointer (some ⟨1, 49, none⟩)])) w := by kernel_rfl
theorem eImplE (w : World) : (ReflectliteType.relation "Implements" ReflectliteType.implements_ #[.agg #[.pointer (some ⟨1, 49, none⟩)], .iface 150 (.agg #[.pointer (some ⟨1, 46, none⟩)])]).run Tryz.prog w = .ok (.bool true) w := by kernel_rfl
theorem eTypeOfF (v : Value) (w : World) : (ReflectliteType.typeOf #[.iface 53 v]).run Tryz.prog w = .ok (.iface 150 (.agg #[.pointer (some ⟨1, 53, none⟩)])) w := by kernel_rfl
theorem eTypeOfE (v : Value) (w : World) : (ReflectliteType.typeOf #[.iface 49 v]).run Tryz.prog w = .ok (.iface 150 (.agg #[.pointer (some ⟨1, 49, none⟩)])) w := by kernel_rfl
theorem eAssF (w : World) : (ReflectliteType.relation "AssignableTo" ReflectliteType.assignableTo #[.agg #[.pointer (some ⟨1, 53, none⟩)], .iface 150 (.agg #[.pointer (some ⟨1, 49, none⟩)])]).run Tryz.prog w = .ok (.bool false) w := by kernel_rfl
theorem eAssE (w : World) : (ReflectliteType.relation "AssignableTo" ReflectliteType.assignableTo #[.agg #[.pointer (some ⟨1, 49, none⟩)], .iface 150 (.agg #[.pointer (some ⟨1, 49, none⟩)])]).run Tryz.prog w = .ok (.bool true) w := by kernel_rfl
theorem eValueOfE (c : Int) (w : World) : (ReflectliteValue.unpack (.iface 49 (.int .i64 c))).run Tryz.prog w
    = .ok (.agg #[.pointer (some ⟨1, 49, none⟩), .pointer (some ⟨w.heap.size, 0, none⟩), .int .u64 130]) (w.alloc (.cells #[.int .i64 c] 49)) := by kernel_rfl
theorem eElemOfP (w : World) : (Rtype.elem? 97).run Tryz.prog w = .ok (some 49) w := by kernel_rfl
theorem eMkE (p : Addr) (w : World) : (ReflectliteValue.mk 49 p ReflectliteValue.flagAddr).run Tryz.prog w = .ok (.agg #[.pointer (some ⟨1, 49, none⟩), .pointer (some p), .int .u64 386]) w := by kernel_rfl
theorem eElemVP (a p : Addr) (W : World) (ha : W.cell? a = some (.pointer (some p))) :
    (ReflectliteValue.method (ReflectliteValue.valueError "reflectlite.Value.Elem" 0) ReflectliteValue.elem #[.agg #[.pointer (some ⟨1, 97, none⟩), .pointer (some a), .int .u64 150]]).run Tryz.prog W
      = .ok (.agg #[.pointer (some ⟨1, 49, none⟩), .pointer (some p), .int .u64 386]) W := by
  rw [erlm]
  simp only [Sem.run_bind, ePartsP, Result.andThen]
  simp [ReflectliteValue.elem, loadVar, isAgg, underlying, Tryz.underlying97, ha, Result.andThen, eElemOfP, eMkE]
theorem erls (v x : Value) : ReflectliteValue.set #[v, x] = (do
    let (some (dst, a, fl), some (src, b, _)) := (← ReflectliteValue.parts v, ← ReflectliteValue.parts x)
      | unsupported (.noEntry "extern/(internal/reflectlite.Value).Set.zeroValue")
    if fl / ReflectliteValue.flagAddr % 2 == 0 then unsupported (.noEntry "extern/(internal/reflectlite.Value).Set.unaddressable")
    let val ← loadVar src b
    if ← Rtype.directlyAssignable dst src then storeVar dst a val
    else if ← Rtype.implements dst src then
      if (← Rtype.kind src) == 20 then
        match val with
        | .nilIface => unsupported (.noEntry "extern/reflectlite: a nil value of one interface type handed on as a value of another")
        | _ => storeVar dst a val
      else storeVar dst a (.iface src val)
    else panicString ("reflectlite.Set: value of type " ++ (← Rtype.spelt src) ++ " is not assignable to type " ++ (← Rtype.spelt dst))
    pure (.tuple #[])) := rfl
theorem ePartsEa (a : Addr) (w : World) : (ReflectliteValue.parts (.agg #[.pointer (some ⟨1, 49, none⟩), .pointer (some a), .int .u64 386])).run Tryz.prog w = .ok (some (49, a, 386)) w := by kernel_rfl
theorem ePartsE (a : Addr) (w : World) : (ReflectliteValue.parts (.agg #[.pointer (some ⟨1, 49, none⟩), .pointer (some a), .int .u64 130])).run Tryz.prog w = .ok (some (49, a, 130)) w := by kernel_rfl
theorem eDirectE (w : World) : (Rtype.directlyAssignable 49 49).run Tryz.prog w = .ok true w := by kernel_rfl
theorem eSetE (ta b : Addr) (c : Int) (old : Value) (W : World) (hb : W.cell? b = some (.int .i64 c)) (ht : W.cell? ta = some old) (hf : W.frozen? ta = false) :
    (ReflectliteValue.set #[.agg #[.pointer (some ⟨1, 49, none⟩), .pointer (some ta), .int .u64 386], .agg #[.pointer (some ⟨1, 49, none⟩), .pointer (some b), .int .u64 130]]).run Tryz.prog W
      = .ok (.tuple #[]) (W.setCell ta (.int .i64 c)) := by
  rw [erls]
  simp only [Sem.run_bind, ePartsEa, ePartsE, Result.andThen]
  simp [ReflectliteValue.flagAddr, loadVar, isAgg, underlying, Tryz.underlying49, hb, Result.andThen, eDirectE, storeVar, Value.cells, storeCells, Addr.add]
  rw [run_store Tryz.prog W ta _ _ (by rfl)]
  simp [ht, hf]
theorem eNoAs (v : Value) (xT : TypeId) (w : World) : (Instr.typeAssert (.iface 53 v) xT 154 true).run Tryz.prog w = .ok (.tuple #[.nilIface, .bool false]) w := run_typeAssert_lacksB Tryz.underlying154 (by kernel_rfl) (by kernel_rfl) v xT w
theorem eUnwrap (v : Value) (xT : TypeId) (w : World) : (Instr.typeAssert (.iface 53 v) xT 157 true).run Tryz.prog w = .ok (.tuple #[.iface 53 v, .bool true]) w := run_typeAssert_hasB Tryz.underlying157 (by kernel_rfl) v xT w
theorem eMUnwrap (v : Value) (w : World) : (Go.method 307 53 v "Unwrap").run Tryz.prog w = .ok (122, v) w := by kernel_rfl
end Go.Proofs.YtpaebopmppbjbaaGreatDoor

/- errors.As at a fault, api.Code; errors.Is of an error and itself. -/
set_option linter.unusedVariables false
set_option linter.unusedSimpArgs false
namespace Go.Proofs.YtpaebopmppbjbaaGreatDoor
open Go Go.RowKit Go.Le Go.Extern.Stop Go.Stop Go.Extern
/-- a fault: the call, the place, the number -/
def fltB (gf : Nat) (s : ByteArray) (at' c : Int) : HP := pts gf 55 [.string s, .int .i64 at', .iface 49 (.int .i64 c)]
theorem unwrap_any (wb w : World) (R : HP) (gf : Nat) (s : ByteArray) (at' c : Int) (h : Mem wb w (fltB gf s at' c * R)) :
    Calls Tryz.prog 122 #[.pointer (some ⟨gf, 0, none⟩)] w fun e w' => e = .returned (.iface 49 (.int .i64 c)) ∧ w' = w := by
  unfold fltB at h
  have q := h.cell 2
  simp only [List.getElem?_cons_zero, List.getElem?_cons_succ] at q
  clear h
  go_enter Tryz.func122, Tryz.ntmps122
  go_wp2
  go_ret
  exact ⟨rfl, rfl⟩
set_option maxHeartbeats 4000000 in
theorem eas_any (wb w : World) (R : HP) (gf gt gv : Nat) (s : ByteArray) (at' c : Int) (old : Value) (h : Mem wb w (pts gt 49 [old] * (fltB gf s at' c * (pts gv 97 [.pointer (some ⟨gt, 0, none⟩)] * R)))) :
    Calls Tryz.prog 64 #[.iface 53 (.pointer (some ⟨gf, 0, none⟩)), .iface 97 (.pointer (some ⟨gt, 0, none⟩)), .agg #[.pointer (some ⟨1, 97, none⟩), .pointer (some ⟨gv, 0, none⟩), .int .u64 150], .iface 150 (.agg #[.pointer (some ⟨1, 49, none⟩)])] w
      fun e w' => e = .returned (.bool true) ∧ Mem wb w' (pts gt 49 [.int .i64 c] * (fltB gf s at' c * R)) := by
  have xV := @run_callFunc_extern Tryz.prog 61 _ (fun args => ReflectliteValue.unpack (args.getD 0 (.tuple #[]))) Tryz.func61 (by kernel_rfl) (by kernel_rfl) (by kernel_rfl) (by kernel_rfl)
  have xT := @run_callFunc_extern Tryz.prog 74 _ ReflectliteType.typeOf Tryz.func74 (by kernel_rfl) (by kernel_rfl) (by kernel_rfl) (by kernel_rfl)
  have xA := @run_callFunc_extern Tryz.prog 127 _ (ReflectliteType.relation "AssignableTo" ReflectliteType.assignableTo) Tryz.func127 (by kernel_rfl) (by kernel_rfl) (by kernel_rfl) (by kernel_rfl)
  have xE := @run_callFunc_extern Tryz.prog 87 _ (ReflectliteValue.method (ReflectliteValue.valueError "reflectlite.Value.Elem" 0) ReflectliteValue.elem) Tryz.func87 (by kernel_rfl) (by kernel_rfl) (by kernel_rfl) (by kernel_rfl)
  have xS := @run_callFunc_extern Tryz.prog 88 _ ReflectliteValue.set Tryz.func88 (by kernel_rfl) (by kernel_rfl) (by kernel_rfl) (by kernel_rfl)
  have t1 := eTypeOfF
  have t2 := eTypeOfE
  have mA := eMAssignable
  have a1 := eAssF
  have a2 := eAssE
  have n1 := eNoAs
  have u1 := eUnwrap
  have mU := eMUnwrap
  have hm1 := h.alloc [.pointer (some ⟨1, 97, none⟩), .pointer (some ⟨gv, 0, none⟩), .int .u64 150] 117
  have hu := unwrap_any wb _ _ gf s at' c (hm1.p2)
  have hm2 := hm1.alloc [.int .i64 c] 49
  have el := eElemVP ⟨gv, 0, none⟩ ⟨gt, 0, none⟩ _ (by have := (hm1.p3).cell 0; simpa using this)
  have v1 := eValueOfE c
  have hb2 := hm2.cell 0
  have ht2 := (hm2.p2).cell 0
  rw [show (w.alloc (.cells #[.pointer (some ⟨1, 97, none⟩), .pointer (some ⟨gv, 0, none⟩), .int .u64 150] 117)).heap.size = w.heap.size + 1 by simp] at hb2
  simp only [List.getElem?_cons_zero] at hb2 ht2
  have st := eSetE ⟨gt, 0, none⟩ ⟨w.heap.size + 1, 0, none⟩ c old _ hb2 ht2 ((hm2.p2).frozen 0)
  have HM := hid ((hm2.p2).setCell 0 (.int .i64 c))
  clear hb2 ht2
  clear h hm1 hm2
  go_enter Tryz.func64, Tryz.ntmps64
  go_wp2
  refine wp_loop_rounds 2 ?_
  rw [rounds_succ]
  go_wp2_with (go_at_call 122; refine hu.mono ?_; rintro e w' ⟨rfl, rfl⟩)
  rw [rounds_succ]
  go_wp2_with fail
  go_ret
  exact ⟨rfl, ((HM.out.p1.right).p1.right).p2.right⟩
/-- what errors.errorType holds -/
def errorTypeH (w : World) : Prop := w.cell? ⟨0, 0, none⟩ = some (.iface 150 (.agg #[.pointer (some ⟨1, 46, none⟩)]))
set_option maxHeartbeats 4000000 in
theorem eAs_any (wb w : World) (R : HP) (hg : errorTypeH wb) (gf gt : Nat) (s : ByteArray) (at' c : Int) (old : Value) (h : Mem wb w (pts gt 49 [old] * (fltB gf s at' c * R))) :
    Calls Tryz.prog 38 #[.iface 53 (.pointer (some ⟨gf, 0, none⟩)), .iface 97 (.pointer (some ⟨gt, 0, none⟩))] w
      fun e w' => e = .returned (.bool true) ∧ Mem wb w' (pts gt 49 [.int .i64 c] * (fltB gf s at' c * R)) := by
  have xV := @run_callFunc_extern Tryz.prog 61 _ (fun args => ReflectliteValue.unpack (args.getD 0 (.tuple #[]))) Tryz.func61 (by kernel_rfl) (by kernel_rfl) (by kernel_rfl) (by kernel_rfl)
  have xT := @run_callFunc_extern Tryz.prog 62 _ (ReflectliteValue.methodAny (ReflectliteValue.valueError "reflectlite.Value.Type" 0) (fun t _ _ _ => ReflectliteType.toType t)) Tryz.func62 (by kernel_rfl) (by kernel_rfl) (by kernel_rfl) (by kernel_rfl)
  have xN := @run_callFunc_extern Tryz.prog 63 _ (ReflectliteValue.method (ReflectliteValue.valueError "reflectlite.Value.IsNil" 0) ReflectliteValue.isNil) Tryz.func63 (by kernel_rfl) (by kernel_rfl) (by kernel_rfl) (by kernel_rfl)
  have xK := @run_callFunc_extern Tryz.prog 117 _ (ReflectliteType.abiMethod fun t => do pure (.int .u8 (← Rtype.kind t))) Tryz.func117 (by kernel_rfl) (by kernel_rfl) (by kernel_rfl) (by kernel_rfl)
  have xE := @run_callFunc_extern Tryz.prog 129 _ (ReflectliteType.method ReflectliteType.elem) Tryz.func129 (by kernel_rfl) (by kernel_rfl) (by kernel_rfl) (by kernel_rfl)
  have xI := @run_callFunc_extern Tryz.prog 130 _ (ReflectliteType.relation "Implements" ReflectliteType.implements_) Tryz.func130 (by kernel_rfl) (by kernel_rfl) (by kernel_rfl) (by kernel_rfl)
  have v1 := eValueOfP ⟨gt, 0, none⟩
  have t1 := eTypeP
  have mK := eMKind
  have mE := eMElem
  have mI := eMImplements
  have k1 := eKindP
  have k2 := eKindE
  have e1 := eElemP
  have i1 := eImplE
  have hm2 := (h.alloc [.pointer (some ⟨gt, 0, none⟩)] 97).alloc [.pointer (some ⟨1, 97, none⟩), .pointer (some ⟨w.heap.size, 0, none⟩), .int .u64 150] 117
  rw [show (w.alloc (.cells #[.pointer (some ⟨gt, 0, none⟩)] 97)).heap.size = w.heap.size + 1 by simp] at hm2
  have q1 := (hm2.p1).cell 0
  simp only [List.getElem?_cons_zero] at q1
  have n1 := eIsNilP ⟨w.heap.size, 0, none⟩ ⟨gt, 0, none⟩ _ q1
  clear q1
  have hg2 := hm2.base.cell_ext hg
  have hc := eas_any wb _ _ gf gt w.heap.size s at' c old (hm2.eq (by ac_rfl : _ = pts gt 49 [old] * (fltB gf s at' c * (pts w.heap.size 97 [.pointer (some ⟨gt, 0, none⟩)] * (pts (w.heap.size + 1) 117 [.pointer (some ⟨1, 97, none⟩), .pointer (some ⟨w.heap.size, 0, none⟩), .int .u64 150] * R)))))
  clear h hm2 hg
  go_enter Tryz.func38, Tryz.ntmps38
  go_wp2_with (go_at_call 64; refine hc.mono ?_; rintro e w' ⟨rfl, hm⟩)
  go_ret
  exact ⟨rfl, hm.p2.right⟩
theorem code_any (wb w : World) (R : HP) (hg : errorTypeH wb) (gf : Nat) (s : ByteArray) (at' c : Int) (h : Mem wb w (fltB gf s at' c * R)) :
    Calls Tryz.prog 12 #[.iface 53 (.pointer (some ⟨gf, 0, none⟩))] w fun e w' => e = .returned (.int .i64 c) ∧ Mem wb w' (fltB gf s at' c * R) := by
  have hc := eAs_any wb _ _ hg gf w.heap.size s at' c _ (h.alloc [.int .i64 0] 49)
  clear h
  go_enter Tryz.func12, Tryz.ntmps12
  go_wp2_with (go_at_call 38; refine hc.mono ?_; rintro e w' ⟨rfl, hm⟩; have q := hm.cell 0; simp only [List.getElem?_cons_zero] at q)
  go_ret
  exact ⟨rfl, hm.right⟩
/-! errors.Is, of an error and itself -/
theorem eCompF (w : World) : ((Extern.ReflectliteType.method fun t => do Rtype.noPackHeld "Comparable" t; (fun a => Value.bool a.comparable) <$> typeInfo t) #[.agg #[.pointer (some ⟨1, 53, none⟩)]]).run Tryz.prog w = .ok (.bool true) w := by kernel_rfl
theorem eMComp (v : Value) (w : World) : (Go.method 307 150 v "Comparable").run Tryz.prog w = .ok (128, v) w := by kernel_rfl
theorem eCompB : (Tryz.prog.info? 53).map (·.comparable) = some true := by kernel_rfl
theorem eSizeB : (Tryz.prog.info? 55).map (·.size) = some 3 := by kernel_rfl
set_option maxRecDepth 20000 in
set_option maxHeartbeats 4000000 in
theorem is_same (a : Addr) (w : World) :
    Calls Tryz.prog 51 #[.iface 53 (.pointer (some a)), .iface 53 (.pointer (some a))] w fun e w' => e = .returned (.bool true) ∧ w' = w := by
  obtain ⟨i, hi, hcmp⟩ := Option.map_eq_some_iff.1 eCompB
  obtain ⟨j, hj, hjs⟩ := Option.map_eq_some_iff.1 eSizeB
  have h8 := @run_callFunc_extern Tryz.prog 74 _ Extern.ReflectliteType.typeOf Tryz.func74 (by kernel_rfl) (by kernel_rfl) (by kernel_rfl) (by kernel_rfl)
  have h32 := @run_callFunc_extern Tryz.prog 128 _ (Extern.ReflectliteType.method fun t => do Rtype.noPackHeld "Comparable" t; pure (.bool (← typeInfo t).comparable)) Tryz.func128 (by kernel_rfl) (by kernel_rfl) (by kernel_rfl) (by kernel_rfl)
  have tT := eTypeOfF
  have cT := eCompF
  have mR := eMComp
  have heq := run_eql_iface_ptr_same (P := Tryz.prog) w a Tryz.underlying46 Tryz.underlying53 hi hcmp hj
  go_enter Tryz.func51, Tryz.ntmps51
  go_wp2
  refine wp_loop_rounds 1 ?_
  rw [rounds_succ]
  go_wp2
  go_ret
  exact ⟨rfl, rfl⟩
end Go.Proofs.YtpaebopmppbjbaaGreatDoor
