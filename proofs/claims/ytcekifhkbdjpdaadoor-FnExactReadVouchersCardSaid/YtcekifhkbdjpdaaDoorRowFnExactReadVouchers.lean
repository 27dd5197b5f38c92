/- The row of the law FnExactReadVouchers: out of the pure statement and the walk of the law. It holds for every input that can be read. By a program of this session (wip/pr.py). -/
import Derived.Test.YtcekifhkbdjpdaaDoorRows
import Derived.Test.YtcekifhkbdjpdaaDoorQ4
import Derived.Test.YtcekifhkbdjpdaaDoorQFit
import Derived.Test.YtcekifhkbdjpdaaDoorPureFnExactReadVouchers
import Derived.WalkKit
import Derived.ProofKit
import Derived.OpenShut
import Derived.ShutString
import Derived.ChangeOld
import Derived.Below
import Derived.SizedLaws
import Derived.Test.YtcekifhkbdjpdaaDoorCards
import Derived.Test.YtcekifhkbdjpdaaDoorTie
import Derived.Deep.DeepHandedRow
import Derived.Deep.DeepWitnessRowRef
import Derived.Lib.LaidTab
import Derived.Stop.LaidErr
import Derived.LaidMore
import Derived.MakeChecks
namespace Go.Proofs.YtcekifhkbdjpdaaDoor.RowFnExactReadVouchers
open Go.ChangeShapes Go.WideShapes Go.ChangeAt Go.RowKit Go.Proofs.YtcekifhkbdjpdaaDoorW.PrintWords Go.Proofs.YtcekifhkbdjpdaaDoor.Open Go.Proofs.YtcekifhkbdjpdaaDoor.Q
open Go.ChangeMaps (open_string shut_string)
set_option linter.unusedVariables false
set_option linter.unusedSimpArgs false
theorem own : ownKnob Tryd.prog.godebug = none := by kernel_rfl
theorem laidOut : laidOutB Tryd.prog = true := by kernel_rfl
theorem gP : Tryd.prog.globalNamed "internal/strconv.uint64pow10" = some 1 := by kernel_rfl
theorem gPType : (Tryd.prog.globals[1]?).map (·.type) = some 135 := by kernel_rfl
theorem cellsA : Tryd.prog.cellsOf 135 = 20 := by kernel_rfl
theorem cellsE : Tryd.prog.cellsOf 124 = 1 := by kernel_rfl
theorem gS : Tryd.prog.globalNamed "strconv.ErrSyntax" = some 4 := by kernel_rfl
theorem gSType : (Tryd.prog.globals[4]?).map (·.type) = some 77 := by kernel_rfl
theorem gR : Tryd.prog.globalNamed "strconv.ErrRange" = some 5 := by kernel_rfl
theorem gRType : (Tryd.prog.globals[5]?).map (·.type) = some 77 := by kernel_rfl
theorem cellsP : Tryd.prog.cellsOf 162 = 1 := by kernel_rfl
theorem cellsS : Tryd.prog.cellsOf 9 = 1 := by kernel_rfl
theorem star : "*" ++ "errors.errorString" = "*errors.errorString" := by decide
theorem rowP (u : TypeId) (h : Tryd.prog.typeName? 3 u = some "*errors.errorString") : u = 160 :=
  typeName_ptr_named (nm := "errors.errorString") (by rw [star]; kernel_rfl) (by kernel_rfl) (by decide) u (by rw [star]; exact h)
theorem lenAt (W : World) (hs : W.ShapedOpen Tryd.prog) : ∃ m, W.cell? ⟨0, 0, none⟩ = some (.int .i64 m) :=
  Go.Proofs.cell_of_shapedOpen_int (zero := #[.int .i64 0]) (t := 3) hs (of_decide_eq_true (by kernel_rfl)) (by kernel_rfl) rfl (by kernel_rfl) (by kernel_rfl) Tryd.underlying3
/-- What the row's list, and the world's shape, give. -/
theorem table {W : World} (h0 : laidMetH Tryd.prog Rows.fnExactReadVouchersRow.laid W) (hs : W.ShapedOpen Tryd.prog) : Tab W := by
  have h : laidMet Tryd.prog Rows.fnExactReadVouchersRow.laid W := by rwa [MakeChecks.laidMetH_plain _ _ _ (by kernel_rfl)] at h0
  refine ⟨Lib.tabIs_of_head gP gPType Tryd.underlying135 Tryd.underlying124 cellsE cellsA h.tail.tail, ?_, ?_, lenAt W hs⟩
  · obtain ⟨a0, s0, hv0, -, -, -⟩ := laid_sentinel h.tail.tail.tail.tail.tail gS gSType Tryd.underlying77 rowP Tryd.underlying160 Tryd.underlying162 rfl rfl Tryd.underlying9 cellsP cellsS
    exact ⟨_, _, by simpa using World.var?_cell gS hv0 0⟩
  · obtain ⟨a0, s0, hv0, -, -, -⟩ := laid_sentinel h.tail.tail.tail.tail gR gRType Tryd.underlying77 rowP Tryd.underlying160 Tryd.underlying162 rfl rfl Tryd.underlying9 cellsP cellsS
    exact ⟨_, _, by simpa using World.var?_cell gR hv0 0⟩
def litCells : DataW Unit → Array Value
  | .agg l => (l.filterMap fun d => match d with
    | .lit (.int k z) => some (Value.int k z)
    | _ => none).toArray
  | _ => #[]
def filled (cs : Array Value) : Obj → Obj
  | .cells _ t frozen => .cells cs t frozen
  | o => o
/-- A world for the witness: what the door's own run leaves, and the pinned table. -/
noncomputable def laidWorld (os : Os) : World :=
  { World.doorLaid Tryd.prog 2000 os with heap := (World.doorLaid Tryd.prog 2000 os).heap.modify 2 (filled (litCells Rows.laid_unicode_utf8_first)) }
theorem laid_met (os : Os) : laidMet Tryd.prog Rows.fnExactReadVouchersRow.laid ((laidWorld os).forCall (fun _ _ => 0) ⟨#[], #[.string ByteArray.empty], []⟩).memory :=
  laidMet_of_run' 8 (by kernel_rfl) (by kernel_rfl)
theorem reads (os : Os) {H : Type} (enc : TypeId × Value → H) : ∃ places, DataW.whole enc Tryd.prog ((laidWorld os).forCall (fun _ _ => 0) ⟨#[], #[.string ByteArray.empty], []⟩).memory Tryd.f4.params.toList Rows.fnExactReadVouchersSpec.vars false (#[.string ByteArray.empty] : Array Value).toList 8 = some ([.lit (.string [])], [], places) :=
  ⟨[], by kernel_rfl⟩
set_option maxRecDepth 100000 in
theorem lifted (os : Os) (started : os.Started) (H : Type) (enc : TypeId × Value → H) (F : Stop.Interp) :
    ReturnsInHanded {} Tryd.checked os 4 .any ((OpenSpec.ofChange Rows.fnExactReadVouchersSpec).preRow enc Tryd.prog Tryd.f4 Rows.fnExactReadVouchersRow.domain false Rows.fnExactReadVouchersRow.laid) (((OpenSpec.ofChange Rows.fnExactReadVouchersSpec).at F).post enc Tryd.prog Tryd.f4 false true false false) := by
  obtain ⟨places, hx⟩ := reads os enc
  have hm0 : laidMetH Tryd.prog Rows.fnExactReadVouchersRow.laid ((laidWorld os).forCall (fun _ _ => 0) ⟨#[], #[.string ByteArray.empty], []⟩).memory := by rw [MakeChecks.laidMetH_plain _ _ _ (by kernel_rfl)]; exact laid_met os
  refine returnsInHanded_of_row (C := Tryd.checked) (s := OpenSpec.ofChange Rows.fnExactReadVouchersSpec) own started (by kernel_rfl) Tryd.func4
    (witness_row_atRef (enc := enc) (C := Tryd.checked) false (laidWorld os) #[.string ByteArray.empty] rfl (by kernel_rfl) (by kernel_rfl) (by kernel_rfl)
      (OpenSpec.preRow_of_cond 8 hx (by kernel_rfl) (fun k hk => by cases hk) (by kernel_rfl) hm0)) ?_
  intro W base args ds gs before hval0 hW _ _ hsz0 hL hshape _
  have hval : ∀ (j : Nat) t v, Tryd.f4.params[j]? = some t → args[j]? = some v → Value.okWide Tryd.prog W .any base t v := hval0
  have hW' := hW
  obtain ⟨p, q, hA0, hV, rfl, hfz, hnd⟩ := hW
  have hA : DataW.TrodAll enc Tryd.prog W 0 (fun _ => true) true Tryd.f4.params.toList args.toList ds p := hA0
  rw [Tryd.params4] at hA hval
  obtain ⟨v0, vs0, d0, ds0, p0, q0, hargs, rfl, rfl, h0, r0⟩ := trodAll_cons hA
  obtain ⟨rfl, rfl, rfl⟩ := trodAll_nil r0
  obtain rfl : args = #[v0] := by cases args; simp_all
  obtain ⟨rfl, rfl⟩ := trodVars_none hV
  have lt0 : ∀ x ∈ p0, x.block < W.heap.size := by obtain ⟨m, hm⟩ := h0; exact DataW.trod_lt m _ _ _ hm
  obtain ⟨y0, g0, w0⟩ := opened (opens_string Tryd.underlying9 (by kernel_rfl)) h0
  obtain ⟨x0, rfl⟩ := okWide_string Tryd.underlying9 (hval 0 9 v0 rfl rfl)
  have e0 : Value.string x0 = _ := List.cons.inj g0 |>.1
  simp only [Value.bool.injEq, Value.string.injEq, Value.int.injEq, true_and] at e0
  subst e0
  clear hA0 hval0 hsz0
  obtain ⟨k, hk⟩ := Pure.FnExactReadVouchers x0 w0
  refine (laws_FnExactReadVouchers.calls k x0 true W (table hL hshape) hk).mono fun e W' h => ?_
  obtain ⟨he, bel⟩ := h
  subst he
  exact ⟨_, rfl, _, _, _, [], _, [], hW', trodAll_mk1 (shut_bool Tryd.underlying4 _), (trodAll_cons_mk (Below.trod laidOut (by kernel_rfl) (of_decide_eq_true (by kernel_rfl)) h0 bel lt0) trodAll_mk0), rfl, bel.frame _, fun h => by cases h⟩
theorem over : Rows.fnExactReadVouchersRow.holds Tryd.pinned (OpenSpec.ofChange Rows.fnExactReadVouchersSpec) :=
  OpenClaim.holds_of_cond 4 Tryd.f4 rfl rfl rfl rfl rfl rfl rfl ⟨rfl, rfl, rfl, rfl, rfl⟩ rfl rfl rfl rfl rfl (by kernel_rfl) Tryd.func4 (by kernel_rfl)
    (of_decide_eq_true (by kernel_rfl)) (by unfold Func.isWrapper; first | (rw [if_pos (by decide +kernel)]; kernel_rfl) | (rw [if_neg (by decide +kernel)]; exact ⟨rfl, rfl⟩))
    (fun os started H enc _ F => by rw [OpenClaim.pre_eq_preRow]; exact lifted os started H enc F)
/-- No parameter wants a stand-in; the program's own looks are off. -/
theorem plain (f : FuncId) (fn : Func) (hf : Tryd.pinned.checked.prog.funcNamed "loop.example/g01366/laws.FnExactReadVouchers" = some f) (hfn : Tryd.pinned.checked.prog.funcs[f]? = some fn) :
    Rows.fnExactReadVouchersCard.stood.looks = Tryd.pinned.checked.prog.looks [] ∧ ∀ (j : Nat) t, fn.params[j]? = some t → Tryd.pinned.checked.prog.wantsStandIn t = false := by
  obtain rfl : f = 4 := Option.some.inj ((show Tryd.prog.funcNamed "loop.example/g01366/laws.FnExactReadVouchers" = some 4 by kernel_rfl).symm.trans hf) |>.symm
  obtain rfl : fn = Tryd.f4 := (Option.some.inj (Tryd.func4.symm.trans hfn)).symm
  refine ⟨by kernel_rfl, fun j t ht => ?_⟩
  rw [Tryd.params4] at ht
  have hm : t ∈ [9] := by simpa using Array.mem_of_getElem? ht
  have hall : ([9].all fun u => !Tryd.prog.wantsStandIn u) = true := by kernel_rfl
  exact (show Tryd.prog.wantsStandIn t = false by simpa using List.all_eq_true.1 hall t hm)
theorem card : Rows.FnExactReadVouchersCardSaid :=
  Claim7.holds_tied_plain_at .later [] _ _ _ _ over (fun _ h => by cases h) (by kernel_rfl) (fun _ h => by cases h) fnExactReadVouchers_row_tie rfl ⟨rfl, rfl⟩ (by kernel_rfl) rfl plain (by kernel_rfl)
end Go.Proofs.YtcekifhkbdjpdaaDoor.RowFnExactReadVouchers
namespace Go.Proofs.YtcekifhkbdjpdaaDoor
theorem fnExactReadVouchers_holds : Rows.FnExactReadVouchersCardSaid := RowFnExactReadVouchers.card
#print axioms fnExactReadVouchers_holds
end Go.Proofs.YtcekifhkbdjpdaaDoor
