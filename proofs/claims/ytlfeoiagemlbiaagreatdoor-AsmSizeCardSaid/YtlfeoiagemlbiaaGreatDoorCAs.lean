import Derived.Test.YtlfeoiagemlbiaaGreatDoorRows
import Derived.WalkKit
import Derived.LaidEql
import Derived.Stop.Asserts
import Derived.RowKitTokens
import Derived.Test.YtlfeoiagemlbiaaGreatDoorXs4
import Derived.Shelf.Pu.Clone
import Derived.LaidHandle
import Derived.LaidLaws
import Derived.LaidSub
import Derived.Lib.LaidU8
namespace Go.Proofs.YtlfeoiagemlbiaaGreatDoor
open Go.RowKit Go.Extern.Stop Go.Stop Go.Extern

/-- errors.As(nil, target). -/
theorem as_nil (t : Value) (w : World) :
    Calls Tryz.prog 46 #[.nilIface, t] w fun e w' => e = .returned (.bool false) ∧ w' = w := by
  go_enter Tryz.func46, Tryz.ntmps46
  go_wp2
  go_ret
  exact ⟨rfl, rfl⟩

/-! ### CLOSED FACTS ON THE MODEL's ENTRIES FOR internal/reflectlite, at this program's types: 25: *p.E · 27: **p.E · 23: error · 45: reflectlite's rtype · 1: how many package-level variables the dump has -/
theorem Tryz.valueOf27 (t : Addr) (w : World) : (ReflectliteValue.unpack (.iface 116 (.pointer (some t)))).run Tryz.prog w
    = .ok (.agg #[.pointer (some ⟨9, 116, none⟩), .pointer (some ⟨w.heap.size, 0, none⟩), .int .u64 150]) (w.alloc (.cells #[.pointer (some t)] 116)) := by kernel_rfl
theorem Tryz.type27 (a : Addr) (w : World) : (ReflectliteValue.methodAny (ReflectliteValue.valueError "reflectlite.Value.Type" 0) (fun t _ _ _ => ReflectliteType.toType t) #[.agg #[.pointer (some ⟨9, 116, none⟩), .pointer (some a), .int .u64 150]]).run Tryz.prog w
    = .ok (.iface 208 (.agg #[.pointer (some ⟨9, 116, none⟩)])) w := by kernel_rfl
theorem Tryz.methodKind (h : Value) (w : World) : (Go.method 440 208 (.agg #[h]) "Kind").run Tryz.prog w = .ok (249, h) w := by kernel_rfl
theorem Tryz.kind27 (w : World) : ((ReflectliteType.abiMethod fun t => (fun a : Nat => Value.int IntKind.u8 (a : Int)) <$> Rtype.kind t) #[.pointer (some ⟨9, 116, none⟩)]).run Tryz.prog w = .ok (.int .u8 22) w := by kernel_rfl
theorem Tryz.kind25 (w : World) : ((ReflectliteType.abiMethod fun t => (fun a : Nat => Value.int IntKind.u8 (a : Int)) <$> Rtype.kind t) #[.pointer (some ⟨9, 114, none⟩)]).run Tryz.prog w = .ok (.int .u8 22) w := by kernel_rfl

/-! ### THE ENTRIES THAT READ OR WRITE MEMORY: laws with a premise on the cell (after Derived/Lib/ReflectliteSlice.lean's manner: each unfolding a lemma of its own, by rfl) -/
theorem rlm (z : Sem Value) (f : TypeId → Addr → Nat → Nat → Sem Value) (v : Value) :
    ReflectliteValue.method z f #[v] = (do match ← ReflectliteValue.parts v with | none => z | some (t, a, fl) => f t a fl (fl % 32)) := rfl
theorem Tryz.parts27 (a : Addr) (w : World) : (ReflectliteValue.parts (.agg #[.pointer (some ⟨9, 116, none⟩), .pointer (some a), .int .u64 150])).run Tryz.prog w = .ok (some (116, a, 150)) w := by kernel_rfl
/-- (Value).IsNil at the Value of a **p.E that is not nil. -/
theorem Tryz.isNil27 (a p : Addr) (W : World) (ha : W.cell? a = some (.pointer (some p))) :
    (ReflectliteValue.method (ReflectliteValue.valueError "reflectlite.Value.IsNil" 0) ReflectliteValue.isNil #[.agg #[.pointer (some ⟨9, 116, none⟩), .pointer (some a), .int .u64 150]]).run Tryz.prog W = .ok (.bool false) W := by
  rw [rlm]
  simp only [Sem.run_bind, Tryz.parts27, Result.andThen]
  simp [ReflectliteValue.isNil, loadVar, isAgg, underlying, Tryz.underlying116, ha, Result.andThen]

theorem Tryz.methodElem (h : Value) (w : World) : (Go.method 440 208 (.agg #[h]) "Elem").run Tryz.prog w = .ok (262, .agg #[h]) w := by kernel_rfl
theorem Tryz.methodImplements (h : Value) (w : World) : (Go.method 440 208 (.agg #[h]) "Implements").run Tryz.prog w = .ok (263, .agg #[h]) w := by kernel_rfl
theorem Tryz.methodAssignableTo (h : Value) (w : World) : (Go.method 440 208 (.agg #[h]) "AssignableTo").run Tryz.prog w = .ok (260, .agg #[h]) w := by kernel_rfl
theorem Tryz.elem27 (w : World) : (ReflectliteType.method ReflectliteType.elem #[.agg #[.pointer (some ⟨9, 116, none⟩)]]).run Tryz.prog w = .ok (.iface 208 (.agg #[.pointer (some ⟨9, 114, none⟩)])) w := by kernel_rfl
theorem Tryz.implements25 (w : World) : (ReflectliteType.relation "Implements" ReflectliteType.implements_ #[.agg #[.pointer (some ⟨9, 114, none⟩)], .iface 208 (.agg #[.pointer (some ⟨9, 27, none⟩)])]).run Tryz.prog w = .ok (.bool true) w := by kernel_rfl
theorem Tryz.typeOf25 (v : Value) (w : World) : (ReflectliteType.typeOf #[.iface 114 v]).run Tryz.prog w = .ok (.iface 208 (.agg #[.pointer (some ⟨9, 114, none⟩)])) w := by kernel_rfl
theorem Tryz.assignable25 (w : World) : (ReflectliteType.relation "AssignableTo" ReflectliteType.assignableTo #[.agg #[.pointer (some ⟨9, 114, none⟩)], .iface 208 (.agg #[.pointer (some ⟨9, 114, none⟩)])]).run Tryz.prog w = .ok (.bool true) w := by kernel_rfl
theorem Tryz.valueOf25 (e : Addr) (w : World) : (ReflectliteValue.unpack (.iface 114 (.pointer (some e)))).run Tryz.prog w
    = .ok (.agg #[.pointer (some ⟨9, 114, none⟩), .pointer (some ⟨w.heap.size, 0, none⟩), .int .u64 150]) (w.alloc (.cells #[.pointer (some e)] 114)) := by kernel_rfl

theorem Tryz.elemOf27 (w : World) : (Rtype.elem? 116).run Tryz.prog w = .ok (some 114) w := by kernel_rfl
theorem Tryz.mk25 (p : Addr) (w : World) : (ReflectliteValue.mk 114 p ReflectliteValue.flagAddr).run Tryz.prog w = .ok (.agg #[.pointer (some ⟨9, 114, none⟩), .pointer (some p), .int .u64 406]) w := by kernel_rfl
/-- (Value).Elem at the Value of a **p.E that is not nil: the Value of the *p.E variable that it points to, addressable. -/
theorem Tryz.elemV27 (a p : Addr) (W : World) (ha : W.cell? a = some (.pointer (some p))) :
    (ReflectliteValue.method (ReflectliteValue.valueError "reflectlite.Value.Elem" 0) ReflectliteValue.elem #[.agg #[.pointer (some ⟨9, 116, none⟩), .pointer (some a), .int .u64 150]]).run Tryz.prog W
      = .ok (.agg #[.pointer (some ⟨9, 114, none⟩), .pointer (some p), .int .u64 406]) W := by
  rw [rlm]
  simp only [Sem.run_bind, Tryz.parts27, Result.andThen]
  simp [ReflectliteValue.elem, loadVar, isAgg, underlying, Tryz.underlying116, ha, Result.andThen, Tryz.elemOf27, Tryz.mk25]
theorem rls (v x : Value) : ReflectliteValue.set #[v, x] = (do
    let (some (dst, a, fl), some (src, b, _)) := (← ReflectliteValue.parts v, ← ReflectliteValue.parts x)
      | unsupported (.noEntry "extern/(internal/reflectlite.Value).Set.zeroValue")
    if fl / ReflectliteValue.flagAddr % 2 == 0 then unsupported (.noEntry "extern/(internal/reflectlite.Value).Set.unaddressable")
    let val ← loadVar src b
    if ← Rtype.directlyAssignable dst src then storeVar dst a val
    else if ← Rtype.implements dst src then
      if (← Rtype.kind src) == 20 then
        match val with
        | .nilIface => unsupported (.noEntry "extern/reflectlite: a nil value of one interface type handed on as a value of another")
        | _ => storeVar dst a val
      else storeVar dst a (.iface src val)
    else panicString ("reflectlite.Set: value of type " ++ (← Rtype.spelt src) ++ " is not assignable to type " ++ (← Rtype.spelt dst))
    pure (.tuple #[])) := rfl
theorem Tryz.parts25a (a : Addr) (w : World) : (ReflectliteValue.parts (.agg #[.pointer (some ⟨9, 114, none⟩), .pointer (some a), .int .u64 406])).run Tryz.prog w = .ok (some (114, a, 406)) w := by kernel_rfl
theorem Tryz.parts25 (a : Addr) (w : World) : (ReflectliteValue.parts (.agg #[.pointer (some ⟨9, 114, none⟩), .pointer (some a), .int .u64 150])).run Tryz.prog w = .ok (some (114, a, 150)) w := by kernel_rfl
theorem Tryz.direct25 (w : World) : (Rtype.directlyAssignable 114 114).run Tryz.prog w = .ok true w := by kernel_rfl
theorem Tryz.size25 (w : World) : (sizeOf 114).run Tryz.prog w = .ok 1 w := by kernel_rfl
/-- (Value).Set: the *p.E variable at 'ta' gets what the Value's own variable 'b' holds. -/
theorem Tryz.set25 (ta b e : Addr) (old : Value) (W : World) (hb : W.cell? b = some (.pointer (some e))) (ht : W.cell? ta = some old) (hf : W.frozen? ta = false) :
    (ReflectliteValue.set #[.agg #[.pointer (some ⟨9, 114, none⟩), .pointer (some ta), .int .u64 406], .agg #[.pointer (some ⟨9, 114, none⟩), .pointer (some b), .int .u64 150]]).run Tryz.prog W
      = .ok (.tuple #[]) (W.setCell ta (.pointer (some e))) := by
  rw [rls]
  simp only [Sem.run_bind, Tryz.parts25a, Tryz.parts25, Result.andThen]
  simp [ReflectliteValue.flagAddr, loadVar, isAgg, underlying, Tryz.underlying114, hb, Result.andThen, Tryz.direct25, storeVar, Value.cells, storeCells, Addr.add]
  rw [run_store Tryz.prog W ta _ _ (by rfl)]
  simp [ht, hf]

set_option maxHeartbeats 4000000 in
theorem as_hit (e t : Addr) (old : Value) (w : World) (hg : w.cell? ⟨0, 0, none⟩ = some (.iface 208 (.agg #[.pointer (some ⟨9, 27, none⟩)]))) (ht0 : w.cell? t = some old) (hf0 : w.frozen? t = false) :
    Calls Tryz.prog 46 #[.iface 114 (.pointer (some e)), .iface 116 (.pointer (some t))] w fun ev w' => ev = .returned (.bool true) ∧ w' = ((((w.alloc (.cells #[.pointer (some t)] 116)).alloc (.cells #[.pointer (some ⟨9, 116, none⟩), .pointer (some ⟨w.heap.size, 0, none⟩), .int .u64 150] 164)).alloc (.cells #[.pointer (some ⟨9, 116, none⟩), .pointer (some ⟨w.heap.size, 0, none⟩), .int .u64 150] 164)).alloc (.cells #[.pointer (some e)] 114)).setCell t (.pointer (some e)) := by
  have h6 := @run_callFunc_extern Tryz.prog 84 _ (fun args => ReflectliteValue.unpack (args.getD 0 (.tuple #[]))) Tryz.func84 (by kernel_rfl) (by kernel_rfl) (by kernel_rfl) (by kernel_rfl)
  have h7 := @run_callFunc_extern Tryz.prog 85 _ (ReflectliteValue.methodAny (ReflectliteValue.valueError "reflectlite.Value.Type" 0) (fun t _ _ _ => ReflectliteType.toType t)) Tryz.func85 (by kernel_rfl) (by kernel_rfl) (by kernel_rfl) (by kernel_rfl)
  have h8 := @run_callFunc_extern Tryz.prog 86 _ (ReflectliteValue.method (ReflectliteValue.valueError "reflectlite.Value.IsNil" 0) ReflectliteValue.isNil) Tryz.func86 (by kernel_rfl) (by kernel_rfl) (by kernel_rfl) (by kernel_rfl)
  have h27 := @run_callFunc_extern Tryz.prog 249 _ (ReflectliteType.abiMethod fun t => do pure (.int .u8 (← Rtype.kind t))) Tryz.func249 (by kernel_rfl) (by kernel_rfl) (by kernel_rfl) (by kernel_rfl)
  have h37 := @run_callFunc_extern Tryz.prog 262 _ (ReflectliteType.method ReflectliteType.elem) Tryz.func262 (by kernel_rfl) (by kernel_rfl) (by kernel_rfl) (by kernel_rfl)
  have h38 := @run_callFunc_extern Tryz.prog 263 _ (ReflectliteType.relation "Implements" ReflectliteType.implements_) Tryz.func263 (by kernel_rfl) (by kernel_rfl) (by kernel_rfl) (by kernel_rfl)
  have h10 := @run_callFunc_extern Tryz.prog 88 _ ReflectliteType.typeOf Tryz.func88 (by kernel_rfl) (by kernel_rfl) (by kernel_rfl) (by kernel_rfl)
  have h35 := @run_callFunc_extern Tryz.prog 260 _ (ReflectliteType.relation "AssignableTo" ReflectliteType.assignableTo) Tryz.func260 (by kernel_rfl) (by kernel_rfl) (by kernel_rfl) (by kernel_rfl)
  have h11 := @run_callFunc_extern Tryz.prog 135 _ (ReflectliteValue.method (ReflectliteValue.valueError "reflectlite.Value.Elem" 0) ReflectliteValue.elem) Tryz.func135 (by kernel_rfl) (by kernel_rfl) (by kernel_rfl) (by kernel_rfl)
  have h12 := @run_callFunc_extern Tryz.prog 136 _ ReflectliteValue.set Tryz.func136 (by kernel_rfl) (by kernel_rfl) (by kernel_rfl) (by kernel_rfl)
  have tO := Tryz.typeOf25
  have mA := Tryz.methodAssignableTo
  have a25 := Tryz.assignable25
  have v25 := Tryz.valueOf25
  have f6 := Tryz.valueOf27
  have f7 := Tryz.type27
  have mK := Tryz.methodKind
  have mE := Tryz.methodElem
  have mI := Tryz.methodImplements
  have k27 := Tryz.kind27
  have k25 := Tryz.kind25
  have e27 := Tryz.elem27
  have i25 := Tryz.implements25
  have n8 := Tryz.isNil27 ⟨w.heap.size, 0, none⟩ t ((w.alloc (.cells #[.pointer (some t)] 116)).alloc (.cells #[.pointer (some ⟨9, 116, none⟩), .pointer (some ⟨w.heap.size, 0, none⟩), .int .u64 150] 164)) (by simp)
  have hlt : 0 < w.heap.size := by
    rcases Nat.eq_zero_or_pos w.heap.size with h0 | h
    · simp [World.cell?, h0] at hg
    · exact h
  have hg2 : ((w.alloc (.cells #[.pointer (some t)] 116)).alloc (.cells #[.pointer (some ⟨9, 116, none⟩), .pointer (some ⟨w.heap.size, 0, none⟩), .int .u64 150] 164)).cell? ⟨0, 0, none⟩ = some (.iface 208 (.agg #[.pointer (some ⟨9, 27, none⟩)])) := by
    rw [World.cell?_alloc_lt _ _ ⟨0, 0, none⟩ (by simp), World.cell?_alloc_lt _ _ ⟨0, 0, none⟩ hlt]; exact hg
  have htl : t.block < w.heap.size := by
    rcases Nat.lt_or_ge t.block w.heap.size with h | h
    · exact h
    · simp [World.cell?, Array.getElem?_eq_none h] at ht0
  have el := Tryz.elemV27 ⟨w.heap.size, 0, none⟩ t (((w.alloc (.cells #[.pointer (some t)] 116)).alloc (.cells #[.pointer (some ⟨9, 116, none⟩), .pointer (some ⟨w.heap.size, 0, none⟩), .int .u64 150] 164)).alloc (.cells #[.pointer (some ⟨9, 116, none⟩), .pointer (some ⟨w.heap.size, 0, none⟩), .int .u64 150] 164)) (by rw [World.cell?_alloc_lt _ _ ⟨w.heap.size, 0, none⟩ (by simp; omega)]; simp)
  have st := Tryz.set25 t ⟨w.heap.size + 1 + 1 + 1, 0, none⟩ e old ((((w.alloc (.cells #[.pointer (some t)] 116)).alloc (.cells #[.pointer (some ⟨9, 116, none⟩), .pointer (some ⟨w.heap.size, 0, none⟩), .int .u64 150] 164)).alloc (.cells #[.pointer (some ⟨9, 116, none⟩), .pointer (some ⟨w.heap.size, 0, none⟩), .int .u64 150] 164)).alloc (.cells #[.pointer (some e)] 114))
    (by rw [World.cell?_alloc_at _ _ _ _ (by simp)]; rfl)
    (by rw [World.cell?_alloc_lt _ _ t (by simp; omega), World.cell?_alloc_lt _ _ t (by simp; omega), World.cell?_alloc_lt _ _ t (by simp; omega), World.cell?_alloc_lt _ _ t htl]; exact ht0)
    (by rw [World.frozen?_alloc_old _ _ t (by simp; omega), World.frozen?_alloc_old _ _ t (by simp; omega), World.frozen?_alloc_old _ _ t (by simp; omega), World.frozen?_alloc_old _ _ t (Nat.ne_of_lt htl)]; exact hf0)
  go_enter Tryz.func46, Tryz.ntmps46
  go_wp2
  refine wp_loop_rounds 1 ?_
  rw [rounds_succ]
  go_wp2
  go_ret
  exact ⟨rfl, rfl⟩
end Go.Proofs.YtlfeoiagemlbiaaGreatDoor

set_option linter.unusedVariables false
set_option linter.unusedSectionVars false
set_option maxRecDepth 100000
noncomputable section
namespace Go.Proofs.YtlfeoiagemlbiaaGreatDoor
open Go.Den Go.Proofs Go.Extern Go.RowKit
variable [Interp]
theorem k_idx : GoodAt Tryz.prog 180 gIdx := good_idx Tryz.func180 (by kernel_rfl) (by kernel_rfl) (by kernel_rfl) (by kernel_rfl)
theorem k_typeOf : GoodAt Tryz.prog 88 (gOr (gTypeOf 9 208 70) (gTypeOf 9 208 282)) := good_or (good_typeOf (x := ReflectliteType.typeOf) Tryz.func88 (by kernel_rfl) (by kernel_rfl) (by kernel_rfl) (by kernel_rfl) (fun v w => by kernel_rfl)) (good_typeOf (x := ReflectliteType.typeOf) Tryz.func88 (by kernel_rfl) (by kernel_rfl) (by kernel_rfl) (by kernel_rfl) (fun v w => by kernel_rfl))
theorem k_comparable : GoodAt Tryz.prog 261 (gOr (gYes 9 70) (gYes 9 282)) := good_or (good_yes (x := ReflectliteType.method fun t => do Go.Extern.Rtype.noPackHeld "Comparable" t; pure (.bool (← typeInfo t).comparable)) Tryz.func261 (by kernel_rfl) (by kernel_rfl) (by kernel_rfl) (by kernel_rfl) (fun w => by kernel_rfl)) (good_yes (x := ReflectliteType.method fun t => do Go.Extern.Rtype.noPackHeld "Comparable" t; pure (.bool (← typeInfo t).comparable)) Tryz.func261 (by kernel_rfl) (by kernel_rfl) (by kernel_rfl) (by kernel_rfl) (fun w => by kernel_rfl))
def cloneRen : Shelf.Ren := { f := fun _ => 183, t := fun k => match k with | 0 => 0 | 3 => 3 | 4 => 4 | 5 => 5 | 9 => 9 | 37 => 40 | _ => 257, g := fun k => k }
theorem clone_lays : LaysPu.n25 Tryz.prog cloneRen := by constructor <;> first | kernel_rfl | (intro w; kernel_rfl)
theorem k_clone : GoodAt Tryz.prog 183 gClone := good_clone Tryz.func183 (by kernel_rfl) (by kernel_rfl) (fun s w hs => AnyPu.stringslite_Clone clone_lays s w hs)
theorem as_nil' (t : Value) (w : World) : Calls Tryz.prog 46 #[.nilIface, t] w fun e w' => e = .returned (.bool false) ∧ w' = w := as_nil t w
theorem k_as : GoodAt Tryz.prog 46 (gAs 0 9 208 27 114 116) :=
  good_as (by decide) Tryz.func46 (by kernel_rfl) (by kernel_rfl) as_nil (fun ea t old w h1 h2 h3 => (as_hit ea t old w h1 h2 h3).mono fun x w' hx => by
    obtain ⟨rfl, rfl⟩ := hx
    exact ⟨rfl, _, ((((Below.refl _ w).alloc (Nat.le_refl _) _).alloc (by simp) _).alloc (by simp; omega) _).alloc (by simp; omega) _, rfl⟩)
def kn : Known := knL [(180, gIdx), (88, gOr (gTypeOf 9 208 70) (gTypeOf 9 208 282)), (261, gOr (gYes 9 70) (gYes 9 282)), (183, gClone), (46, gAs 0 9 208 27 114 116)]
theorem kn_ok : KnownOK Tryz.prog kn := knL_ok fun p hp => by
  simp only [List.mem_cons, List.mem_nil_iff, or_false] at hp
  rcases hp with rfl | rfl | rfl | rfl | rfl
  · exact k_idx
  · exact k_typeOf
  · exact k_comparable
  · exact k_clone
  · exact k_as
theorem static : Static Tryz.prog := static_of (by kernel_rfl) (by kernel_rfl)
end Go.Proofs.YtlfeoiagemlbiaaGreatDoor

/- The kind of a byte. -/
set_option linter.unusedVariables false
set_option linter.unusedSectionVars false
set_option maxRecDepth 100000
noncomputable section
namespace Go.Proofs.YtlfeoiagemlbiaaGreatDoor
open Go.Den Go.Proofs Go.Extern Go.RowKit
variable [Msr]
def kindC : Ctr := byteC 9 [] (.sint .i64 (.app 13 (.v 0) (.n 0) (.n 0)))
theorem kind_run : allBytes (bytesRun 9 (runD Tryz.prog kn 10) 49 (fun i => .int .i64 (kindF i))) 256 = true := by kernel_rfl
theorem kind_ok : CtrOK Tryz.prog 49 kindC := byte_ctr (runD_ok static kn_ok 10) kind_run fun e i hi he _ => by
  show some (Value.int .i64 (kindF (e.ρ 0).i.toNat)) = some (Value.int .i64 (kindF i))
  rw [he]; rfl
end Go.Proofs.YtlfeoiagemlbiaaGreatDoor

set_option linter.unusedVariables false
set_option linter.unusedSectionVars false
set_option maxRecDepth 100000
noncomputable section
namespace Go.Proofs.YtlfeoiagemlbiaaGreatDoor
open Go.Den Go.Proofs Go.Extern Go.RowKit Go.ChangeShapes
variable [Interp]
/-! ### The memory that every law of this seat begins with -/
def baseL : List (Nat × Blk) := [(0, ro [.iface 208 (.agg [.ptr 9 27])]), (1, ro [.iface 282 (.optr 0)]), (2, ro [.iface 282 (.optr 1)])]
theorem b_et : Tryz.prog.globalNamed "errors.errorType" = some 0 := by kernel_rfl
theorem b_er : Tryz.prog.globalNamed "strconv.ErrRange" = some 1 := by kernel_rfl
theorem b_es : Tryz.prog.globalNamed "strconv.ErrSyntax" = some 2 := by kernel_rfl
theorem b_rt : (Tryz.prog.cutTypes.find? (·.1 == "internal/reflectlite.rtype")).map (·.2) = some 208 := by kernel_rfl
theorem b_size : Tryz.prog.types.size = 340 := by kernel_rfl
theorem b_gsize : Tryz.prog.globals.size = 9 := by kernel_rfl
theorem b_oneRow : ((List.range 340).filter fun t => Tryz.prog.rowNamed t [101, 114, 114, 111, 114]) = [27] := by kernel_rfl
theorem b_star : "*" ++ "errors.errorString" = "*errors.errorString" := by decide
theorem b_row (u : TypeId) (h : Tryz.prog.typeName? 3 u = some "*errors.errorString") : u = 282 :=
  typeName_ptr_named (nm := "errors.errorString") (by rw [b_star]; kernel_rfl) (by kernel_rfl) (by decide) u (by rw [b_star]; exact h)
/-- the handle's cell -/
theorem b_handle {W : World} {hs : List (String × DataW Unit)} (h : handlesMet Tryz.prog hs W) (hm : ("errors.errorType", Rows.laid_errors_errorType) ∈ hs) : ∃ (cur : Array Value) (t : TypeId) (fr : Nat × Nat), W.heap[(0 : Nat)]? = some (.cells cur t fr) ∧ ∀ (i : Nat) (V : Value), [Value.iface 208 (.agg #[.pointer (some ⟨9, 27, none⟩)])][i]? = some V → cur[i]? = some V := by
  obtain ⟨name, u, ty, e1, e2, e3, e4, e5⟩ := h _ hm
  have en : name = [101, 114, 114, 111, 114] := (Option.some.inj e1).symm
  subst en
  obtain rfl := Option.some.inj (b_rt.symm.trans e2)
  have hm : ty ∈ (List.range 340).filter fun t => Tryz.prog.rowNamed t [101, 114, 114, 111, 114] := List.mem_filter.2 ⟨List.mem_range.2 (by rw [← b_size]; exact e3), e4⟩
  rw [b_oneRow] at hm
  obtain rfl := List.mem_singleton.1 hm
  have hh : typeHandle Tryz.prog 27 = .pointer (some ⟨9, 27, none⟩) := by kernel_rfl
  rw [hh] at e5
  obtain ⟨t, fr, hb⟩ := cells_of_var b_et e5
  exact ⟨_, t, fr, hb, fun i V hV => by simpa using hV⟩
/-- a sentinel's cell -/
theorem b_sentinel {W : World} {n : String} {g : Nat} {text : List UInt8} {l : List (String × DataW Unit)} (h : laidMet Tryz.prog l W) (hm : (n, DataW.iface "*errors.errorString" (.ptr (.agg [.lit (.string text)]))) ∈ l) (hg : Tryz.prog.globalNamed n = some g) (ht : (Tryz.prog.globals[g]?).map (·.type) = some 27) :
    ∃ a : Addr, ∃ (cur : Array Value) (t : TypeId) (fr : Nat × Nat), W.heap[g]? = some (.cells cur t fr) ∧ ∀ (i : Nat) (V : Value), [Value.iface 282 (.pointer (some a))][i]? = some V → cur[i]? = some V := by
  obtain ⟨ps, hv, hnd, hok⟩ := h
  have key : ∀ {l : List (String × DataW Unit)} {qs : List MemPlace}, DataW.LaidVars Tryz.prog W l qs → (∀ x ∈ qs, x ∈ ps) → (n, DataW.iface "*errors.errorString" (.ptr (.agg [.lit (.string text)]))) ∈ l →
      ∃ cs fuel p, W.var? Tryz.prog n = some cs ∧ DataW.trod (fun _ => ()) Tryz.prog W 0 (fun _ => true) false fuel 27 cs.toList = some (DataW.iface "*errors.errorString" (.ptr (.agg [.lit (.string text)])), p) ∧ ∀ x ∈ MemPlace.row ⟨g, 0, none⟩ cs.size, x ∈ ps := by
    intro l
    induction l with
    | nil => intro qs _ _ hm; cases hm
    | cons y r ih =>
      intro qs hq hs hm
      obtain ⟨n', d'⟩ := y
      obtain ⟨g', t, cs, fuel, p, q, h1, h2, h3, h4, h5, h6⟩ := hq
      rcases List.mem_cons.1 hm with e | e
      · cases e
        rw [hg] at h1; cases h1
        rw [ht] at h2; cases h2
        exact ⟨cs, fuel, p, h3, h4, fun x hx => hs x (by rw [h6]; simp [hx])⟩
      · exact ih h5 (fun x hx => hs x (by rw [h6]; simp [hx])) e
  obtain ⟨cs, fuel, p, h3, h4, h5⟩ := key hv (fun _ h => h) hm
  obtain ⟨t, fr, hb⟩ := cells_of_var hg h3
  obtain ⟨a, s, h6, _⟩ := errorString_of_trod (ti := 27) (tp := 282) (te := 284) (ts := 9) Tryz.underlying27 b_row Tryz.underlying282 Tryz.underlying284 rfl rfl Tryz.underlying9 (by kernel_rfl) (by kernel_rfl) h4 (fun u v hcs => by
    have hz : cs.size = 1 := by rw [← Array.length_toList, hcs]; rfl
    refine (hok g 0 (h5 _ (by rw [hz]; simp [MemPlace.row]))).2 u v ?_
    simp only [World.cell?, hb]
    have : cs = #[.iface u v] := by apply Array.ext'; exact hcs
    rw [this]; rfl)
  refine ⟨a, cs, t, fr, hb, fun i V hV => ?_⟩
  rw [← Array.getElem?_toList, h6]; exact hV
theorem base_rel {W : World} {laid : List (String × DataW Unit)} (h : laidMetH Tryz.prog laid W) (h1 : ("errors.errorType", Rows.laid_errors_errorType) ∈ laid) (h2 : ("strconv.ErrRange", Rows.laid_strconv_ErrRange) ∈ laid) (h3 : ("strconv.ErrSyntax", Rows.laid_strconv_ErrSyntax) ∈ laid)
    (asm : Asm) (ρ : Nat → Dy) (ha : AsmOK asm ρ) : ∃ ω, Rel Tryz.prog (baseE 9 ρ ω) ⟨9 + 1, putL baseL, asm⟩ W := by
  obtain ⟨hm, hh⟩ := laidMetH_iff.1 h
  obtain ⟨a, ra⟩ := b_sentinel (n := "strconv.ErrRange") hm (List.mem_filter.2 ⟨h2, by rfl⟩) b_er (by kernel_rfl)
  obtain ⟨b, rb⟩ := b_sentinel (n := "strconv.ErrSyntax") hm (List.mem_filter.2 ⟨h3, by rfl⟩) b_es (by kernel_rfl)
  have rh := b_handle hh (List.mem_filter.2 ⟨h1, by rfl⟩)
  refine ⟨fun i => match i with | 0 => a | _ => b, ?_⟩
  have := rel_base (P := Tryz.prog) (w := W) (ρ := ρ) (ω := fun i => match i with | 0 => a | _ => b) (asm := asm) baseL ha (fun p hp => by
    rw [b_gsize]
    simp only [baseL, List.mem_cons, List.mem_nil_iff, or_false] at hp
    rcases hp with rfl | rfl | rfl
    · exact ⟨by decide, ro_ok rfl rh⟩
    · exact ⟨by decide, ro_ok rfl ra⟩
    · exact ⟨by decide, ro_ok rfl rb⟩)
  rw [b_gsize] at this
  exact this
theorem base_ro : ∀ id b, (putL baseL).get id = some b → b.rw = false := putL_ro fun p hp => by
  simp only [baseL, List.mem_cons, List.mem_nil_iff, or_false] at hp
  rcases hp with rfl | rfl | rfl <;> rfl
end Go.Proofs.YtlfeoiagemlbiaaGreatDoor

/- How many bytes of some kinds a text begins with. -/
set_option linter.unusedVariables false
set_option linter.unusedSectionVars false
set_option maxRecDepth 100000
noncomputable section
namespace Go.Proofs.YtlfeoiagemlbiaaGreatDoor
open Go.Den Go.Proofs Go.Extern Go.RowKit
variable [Msr]
theorem gsz : Tryz.prog.globals.size = 9 := by kernel_rfl
theorem mixed : Tryz.prog.follows .mixedOrders = true := by kernel_rfl
noncomputable def kn1 : Known := knCons 49 (gRun Tryz.prog kn 10 49 (gC Tryz.prog 9 kindC [])) kn
theorem kn1_ok : KnownOK Tryz.prog kn1 := knCons_ok (good_runC static kn_ok 10 (good_C gsz (by kernel_rfl) (fun x hx => by simp only [List.mem_singleton] at hx; subst hx; exact kind_ok))) kn_ok
noncomputable def bodyOf (f : Func) : Code := @Option.rec Code (fun _ => Code) .skip (fun c => c) f.body
noncomputable def intsB (l : List Nat) : List IV := l.map fun n => .int .i64 (Int.ofNat n)
noncomputable def call1 : CallFn := runD Tryz.prog kn1 20
noncomputable def fs0 : Func := Tryz.f48
/-- the text is not too long -/
noncomputable def short (t : SE) : Fact := (.lt, tLen t, .n 1000000, true)
noncomputable def spanC (ks : List Nat) (sym : Nat) : Ctr := ⟨[.sstr (.v 0), .slice (9 + 1) 0 ks.length ks.length], 9 + 2, [(9 + 1, (OB.cells 3 (intsB ks) 0).blk)], [short (.v 0)], .sint .i64 (.app sym (.v 0) (.n 0) (.n 0)), [(9 + 1, .cells 3 (intsB ks) 0)], []⟩
noncomputable def spanT (ks : List Nat) : Tm := putLT [(0, .sstr (.v 0)), (1, .slice (9 + 1) 0 ks.length ks.length)]
noncomputable def spanL (ks : List Nat) (sym : Nat) : Lp :=
  let r := startS Tryz.prog call1 fs0 100000 (stpL [0]) (bodyOf fs0) (spanC ks sym) (spanT ks) []
  ⟨0, srB r, srK r, ⟨[(0, .sstr (.v 0)), (1, .slice (9 + 1) 0 ks.length ks.length), (5, .sint .i64 (.v 1))], (spanC ks sym).hl, 9 + 2⟩⟩
/-- a span of the kinds that a test says -/
noncomputable def spanI (p : UInt8 → Bool) (_ : Nat) (ρ0 ρ : Rho) (n : Nat) : Prop := ∃ j : Nat, (ρ 0) = (ρ0 0) ∧ (ρ 1).i = (j : Int) ∧ j ≤ tw p (ρ0 0).s ∧ n = (ρ0 0).s.length - j ∧ (ρ0 0).s.length < 1000000
noncomputable def spanF (b : Bool) : List Fact := [(.lt, .v 1, tLen (.v 0), b), (.lt, .v 1, .n 0, false)]
noncomputable def kdT : SE := .app 13 (tByte (.v 0) (.v 1)) (.n 0) (.n 0)
theorem span_start {ks : List Nat} {sym : Nat} {p : UInt8 → Bool} (ht : enterD (spanC ks sym).args fs0.ntmps 0 .nil = some (spanT ks)) (hc : chkStop Tryz.prog 9 [(0, .v 0), (1, .n 0)] [] (spanL ks sym).can 0 (startS Tryz.prog call1 fs0 100000 (stpL [0]) (bodyOf fs0) (spanC ks sym) (spanT ks) []) = true)
    (hl : ([spanL ks sym].all (lpB (spanC ks sym).nx)) = true)
    (hround : ∀ (ρ0 ρ : Rho) (n : Nat), spanI p 0 ρ0 ρ n → ∃ F : List Fact, (∀ x ∈ F, x.holds ρ) ∧ OutP Tryz.prog 9 fs0 (spanC ks sym) [spanL ks sym] (spanI p) ρ0 ρ (some (0, n)) (roundS Tryz.prog call1 fs0.ntmps 100000 (stpL [0]) 0 (spanL ks sym) F)) : CtrOK Tryz.prog 48 (spanC ks sym) := by
  refine ctr_loops (loops := [spanL ks sym]) (inv := spanI p) (fuel := 100000) (stp := stpL [0]) gsz mixed (runD_ok static kn1_ok 20) Tryz.func48 (by kernel_rfl) (show fs0.body = some (bodyOf fs0) by kernel_rfl) (by kernel_rfl) ht hl ?_ ?_
  · intro ρ hF
    refine ⟨[], (fun x hx => by cases hx), .stop 0 (spanL ks sym) [(0, .v 0), (1, .n 0)] [] ((ρ 0).s.length) rfl (fun i m h => by cases h) rfl rfl hc rfl ?_⟩
    have h1 := hF _ (List.mem_singleton.2 rfl)
    have h2 : decide (((ρ 0).s.length : Int) < 1000000) = true := h1
    exact ⟨0, rfl, rfl, Nat.zero_le _, by simp, by have := of_decide_eq_true h2; omega⟩
  · intro i lp hlp ρ0 ρ n hF hI
    cases i with
    | succ i => simp at hlp
    | zero =>
      simp at hlp; subst hlp
      exact hround ρ0 ρ n hI

theorem span_lt {s : List UInt8} {j : Nat} {p : UInt8 → Bool} (hj : j ≤ tw p s) : j ≤ s.length := Nat.le_trans hj (tw_le s)
/-- the end of the text -/
theorem span_end {ks : List Nat} {sym : Nat} {p : UInt8 → Bool} {ρ0 ρ : Rho} {n : Nat} (hI : spanI p 0 ρ0 ρ n) (hlt : ¬ (ρ 1).i < ((ρ 0).s.length : Int)) (hsym : ∀ ρ : Rho, ((SE.app sym (.v 0) (.n 0) (.n 0)).den ρ) = tw p (ρ 0).s)
    (hr : needsOf Tryz.prog 9 fs0 (spanC ks sym) [] (roundS Tryz.prog call1 fs0.ntmps 100000 (stpL [0]) 0 (spanL ks sym) (spanF false)) = some [.i (.app sym (.v 0) (.n 0) (.n 0)) (.v 1)]) :
    ∃ F : List Fact, (∀ x ∈ F, x.holds ρ) ∧ OutP Tryz.prog 9 fs0 (spanC ks sym) [spanL ks sym] (spanI p) ρ0 ρ (some (0, n)) (roundS Tryz.prog call1 fs0.ntmps 100000 (stpL [0]) 0 (spanL ks sym) F) := by
  obtain ⟨j, h1, h2, h3, h4, h5⟩ := hI
  refine ⟨spanF false, fun x hx => ?_, .fin [] _ hr fun n hn => ?_⟩
  · simp only [spanF, List.mem_cons, List.mem_nil_iff, or_false] at hx
    rcases hx with rfl | rfl
    · show decide ((ρ 1).i < ((ρ 0).s.length : Int)) = false
      simpa using hlt
    · show decide ((ρ 1).i < 0) = false
      simp; omega
  · rw [List.mem_singleton] at hn
    subst hn
    show (SE.app sym (.v 0) (.n 0) (.n 0)).den ρ0 = (ρ 1).i
    rw [hsym, h2]
    rw [h1, h2] at hlt
    have := span_lt h3
    rw [tw_stop h3 (fun h => by omega) this]
/-- a byte that is none of these -/
theorem span_out {ks : List Nat} {sym : Nat} {p : UInt8 → Bool} {ρ0 ρ : Rho} {n : Nat} (G : List Fact) (hI : spanI p 0 ρ0 ρ n) (hlt : (ρ 1).i < ((ρ 0).s.length : Int)) (hG : ∀ x ∈ G, x.holds ρ) (hp : p (((ρ 0).s[((ρ 1).i).toNat]?).getD 0) = false) (hsym : ∀ ρ : Rho, ((SE.app sym (.v 0) (.n 0) (.n 0)).den ρ) = tw p (ρ 0).s)
    (hr : needsOf Tryz.prog 9 fs0 (spanC ks sym) [] (roundS Tryz.prog call1 fs0.ntmps 100000 (stpL [0]) 0 (spanL ks sym) (spanF true ++ G)) = some [.i (.app sym (.v 0) (.n 0) (.n 0)) (.v 1)]) :
    ∃ F : List Fact, (∀ x ∈ F, x.holds ρ) ∧ OutP Tryz.prog 9 fs0 (spanC ks sym) [spanL ks sym] (spanI p) ρ0 ρ (some (0, n)) (roundS Tryz.prog call1 fs0.ntmps 100000 (stpL [0]) 0 (spanL ks sym) F) := by
  obtain ⟨j, h1, h2, h3, h4, h5⟩ := hI
  refine ⟨spanF true ++ G, fun x hx => ?_, .fin [] _ hr fun n hn => ?_⟩
  · rcases List.mem_append.1 hx with hx | hx
    · simp only [spanF, List.mem_cons, List.mem_nil_iff, or_false] at hx
      rcases hx with rfl | rfl
      · show decide ((ρ 1).i < ((ρ 0).s.length : Int)) = true
        simpa using hlt
      · show decide ((ρ 1).i < 0) = false
        simp; omega
    · exact hG x hx
  · rw [List.mem_singleton] at hn
    subst hn
    show (SE.app sym (.v 0) (.n 0) (.n 0)).den ρ0 = (ρ 1).i
    rw [hsym, h2]
    rw [h1, h2] at hp
    rw [tw_stop h3 (fun h => by simpa using hp) (span_lt h3)]
/-- one more byte -/
theorem span_more {ks : List Nat} {sym : Nat} {p : UInt8 → Bool} {ρ0 ρ : Rho} {n : Nat} (G : List Fact) (hI : spanI p 0 ρ0 ρ n) (hlt : (ρ 1).i < ((ρ 0).s.length : Int)) (hG : ∀ x ∈ G, x.holds ρ) (hp : p (((ρ 0).s[((ρ 1).i).toNat]?).getD 0) = true)
    (hr : chkAgain Tryz.prog 9 [(0, .v 0), (1, .bin .add .i64 (.v 1) (.n 1))] [] (spanL ks sym).can 0 (roundS Tryz.prog call1 fs0.ntmps 100000 (stpL [0]) 0 (spanL ks sym) (spanF true ++ G)) = true) :
    ∃ F : List Fact, (∀ x ∈ F, x.holds ρ) ∧ OutP Tryz.prog 9 fs0 (spanC ks sym) [spanL ks sym] (spanI p) ρ0 ρ (some (0, n)) (roundS Tryz.prog call1 fs0.ntmps 100000 (stpL [0]) 0 (spanL ks sym) F) := by
  obtain ⟨j, h1, h2, h3, h4, h5⟩ := hI
  rw [h1, h2] at hp
  rw [h1, h2] at hlt
  have hjl : j < (ρ0 0).s.length := by omega
  refine ⟨spanF true ++ G, fun x hx => ?_, .again 0 n (spanL ks sym) _ [] ((ρ0 0).s.length - (j + 1)) rfl rfl (by omega) hr rfl ⟨j + 1, h1, ?_, tw_next h3 hjl (by simpa using hp), rfl, h5⟩⟩
  · rcases List.mem_append.1 hx with hx | hx
    · simp only [spanF, List.mem_cons, List.mem_nil_iff, or_false] at hx
      rcases hx with rfl | rfl
      · show decide ((ρ 1).i < ((ρ 0).s.length : Int)) = true
        rw [h1, h2]; simpa using hlt
      · show decide ((ρ 1).i < 0) = false
        simp; omega
    · exact hG x hx
  · show IntKind.i64.wrap ((ρ 1).i + 1) = _
    rw [h2, wrap64 (by omega) (by omega)]
    simp
noncomputable def kdF (k : Nat) (b : Bool) : Fact := (.eq, .n (Int.ofNat k), kdT, b)
theorem kdF_ok {ρ : Rho} {k : Nat} {b : Bool} (h : (kindF (((ρ 0).s[((ρ 1).i).toNat]?).getD 0).toNat == k) = b) : (kdF k b).holds ρ := by
  show (((k : Nat) : Int) == ((kindF (((ρ 0).s[((ρ 1).i).toNat]?).getD 0).toNat : Nat) : Int)) = b
  rw [int_beq]; exact h
theorem span_blank : CtrOK Tryz.prog 48 (spanC [0] 14) := by
  refine span_start (p := isBlank) (by kernel_rfl) (by kernel_rfl) (by kernel_rfl) (fun ρ0 ρ n hI => ?_)
  by_cases hlt : (ρ 1).i < ((ρ 0).s.length : Int)
  · cases h0 : (kindF (((ρ 0).s[((ρ 1).i).toNat]?).getD 0).toNat == 0) with
    | true => exact span_more [kdF 0 true] hI hlt (fl_cons (kdF_ok h0) fl_nil) h0 (by kernel_rfl)
    | false => exact span_out [kdF 0 false] hI hlt (fl_cons (kdF_ok h0) fl_nil) h0 (fun ρ => rfl) (by kernel_rfl)
  · exact span_end hI hlt (fun ρ => rfl) (by kernel_rfl)
theorem span_num : CtrOK Tryz.prog 48 (spanC [1, 2] 16) := by
  refine span_start (p := isNum) (by kernel_rfl) (by kernel_rfl) (by kernel_rfl) (fun ρ0 ρ n hI => ?_)
  by_cases hlt : (ρ 1).i < ((ρ 0).s.length : Int)
  · cases h0 : (kindF (((ρ 0).s[((ρ 1).i).toNat]?).getD 0).toNat == 1) with
    | true => exact span_more [kdF 1 true] hI hlt (fl_cons (kdF_ok h0) fl_nil) (by simp [isNum, h0]) (by kernel_rfl)
    | false =>
      cases h1 : (kindF (((ρ 0).s[((ρ 1).i).toNat]?).getD 0).toNat == 2) with
      | true => exact span_more [kdF 1 false, kdF 2 true] hI hlt (fl_cons (kdF_ok h0) (fl_cons (kdF_ok h1) fl_nil)) (by simp [isNum, h1]) (by kernel_rfl)
      | false => exact span_out [kdF 1 false, kdF 2 false] hI hlt (fl_cons (kdF_ok h0) (fl_cons (kdF_ok h1) fl_nil)) (by simp [isNum, h0, h1]) (fun ρ => rfl) (by kernel_rfl)
  · exact span_end hI hlt (fun ρ => rfl) (by kernel_rfl)
theorem span_word : CtrOK Tryz.prog 48 (spanC [1, 2, 3] 15) := by
  refine span_start (p := isWord) (by kernel_rfl) (by kernel_rfl) (by kernel_rfl) (fun ρ0 ρ n hI => ?_)
  by_cases hlt : (ρ 1).i < ((ρ 0).s.length : Int)
  · cases h0 : (kindF (((ρ 0).s[((ρ 1).i).toNat]?).getD 0).toNat == 1) with
    | true => exact span_more [kdF 1 true] hI hlt (fl_cons (kdF_ok h0) fl_nil) (by simp [isWord, h0]) (by kernel_rfl)
    | false =>
      cases h1 : (kindF (((ρ 0).s[((ρ 1).i).toNat]?).getD 0).toNat == 2) with
      | true => exact span_more [kdF 1 false, kdF 2 true] hI hlt (fl_cons (kdF_ok h0) (fl_cons (kdF_ok h1) fl_nil)) (by simp [isWord, h1]) (by kernel_rfl)
      | false =>
        cases h2 : (kindF (((ρ 0).s[((ρ 1).i).toNat]?).getD 0).toNat == 3) with
        | true => exact span_more [kdF 1 false, kdF 2 false, kdF 3 true] hI hlt (fl_cons (kdF_ok h0) (fl_cons (kdF_ok h1) (fl_cons (kdF_ok h2) fl_nil))) (by simp [isWord, h2]) (by kernel_rfl)
        | false => exact span_out [kdF 1 false, kdF 2 false, kdF 3 false] hI hlt (fl_cons (kdF_ok h0) (fl_cons (kdF_ok h1) (fl_cons (kdF_ok h2) fl_nil))) (by simp [isWord, h0, h1, h2]) (fun ρ => rfl) (by kernel_rfl)
  · exact span_end hI hlt (fun ρ => rfl) (by kernel_rfl)
end Go.Proofs.YtlfeoiagemlbiaaGreatDoor
