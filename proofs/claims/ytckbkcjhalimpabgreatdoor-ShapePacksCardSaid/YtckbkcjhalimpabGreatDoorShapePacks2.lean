/-
  ShapePacks answers true for all arguments, read afterwards as before: its row and its tied card: Rows.ShapePacksCardSaid. No conditions.
-/
import Derived.Test.YtckbkcjhalimpabGreatDoorSh3
import Derived.Test.YtckbkcjhalimpabGreatDoorShapePacks1
import Derived.Test.YtckbkcjhalimpabGreatDoorCards
import Derived.Test.YtckbkcjhalimpabGreatDoorTie
import Derived.WalkKit
import Derived.ProofKit
import Derived.OpenShut
import Derived.Deep.DeepHandedRow
import Derived.Deep.DeepWitnessRowRef
set_option linter.unusedVariables false
set_option linter.unusedSimpArgs false
set_option linter.all false
namespace Go.Proofs.YtckbkcjhalimpabGreatDoor.shapePacksP
open Go Hk Go.ChangeShapes Go.WideShapes Go.ChangeMaps Go.ChangeAt Go.RowKit

set_option maxRecDepth 100000 in
theorem contract (H : Type) (enc : TypeId × Value → H) (W : World) (base : Nat) (args : Array Value) (ds gs : List (DataW H)) (before : List MemPlace)
    (hval : ∀ (j : Nat) t v, Tryz.f3.params[j]? = some t → args[j]? = some v → Value.okWide Tryz.prog W .any base t v)
    (hW : DataW.Whole enc Tryz.prog Tryz.f3.params.toList Rows.shapePacksSpec.vars false W args.toList ds gs before) (hL : laidMetH Tryz.prog laid5 W) :
    Calls Tryz.prog 3 args W fun e W' => ∃ v, e = .returned v ∧ Rows.shapePacksSpec.post enc Tryz.prog Tryz.f3 false true false false W args v W' := by
  have hW' := hW
  obtain ⟨p, q, hA0, hV, rfl, hfz, hnd⟩ := hW
  have hA : DataW.TrodAll enc Tryz.prog W 0 (fun _ => true) true Tryz.f3.params.toList args.toList ds p := hA0
  rw [Tryz.params3] at hA hval
  obtain ⟨v0, vs0, d0, ds0, p0, q0, hargs, rfl, rfl, h0, r0⟩ := trodAll_cons hA
  obtain ⟨v1, vs1, d1, ds1, p1, q1, rfl, rfl, rfl, h1, r1⟩ := trodAll_cons r0
  obtain ⟨v2, vs2, d2, ds2, p2, q2, rfl, rfl, rfl, h2, r2⟩ := trodAll_cons r1
  obtain ⟨v3, vs3, d3, ds3, p3, q3, rfl, rfl, rfl, h3, r3⟩ := trodAll_cons r2
  obtain ⟨rfl, rfl, rfl⟩ := trodAll_nil r3
  obtain rfl : args = #[v0, v1, v2, v3] := by cases args; simp_all
  obtain ⟨rfl, rfl⟩ := trodVars_none hV
  obtain ⟨a0, w0, g0⟩ := Rd.arg (encA := fun z : List Fd => AVal.slice (z.map Fd.cells) .no) rdFds (noAggF (hval 0 22 v0 rfl rfl)) h0
  obtain ⟨a1, w1, g1⟩ := Rd.arg (encA := fun z : List (List Int) => AVal.slice (z.map fun y => [AVal.slice (y.map fun z => [AVal.int .i64 z]) .no]) .no) rdVals (noAggV (hval 1 23 v1 rfl rfl)) h1
  obtain ⟨a2, w2, g2⟩ := Rd.arg (encA := fun z : List UInt8 => AVal.str z) rdStr (noAggS (hval 2 9 v2 rfl rfl)) h2
  obtain ⟨a3, w3, g3⟩ := Rd.arg (encA := fun z : List UInt8 => AVal.str z) rdStr (noAggS (hval 3 9 v3 rfl rfl)) h3
  refine (calls_true (A := ann) follows extOk (law3 a0 a1 a2 a3) (globOk hL) ⟨rfl, fun i v hv => ?_⟩).mono fun e W' ⟨he, hb⟩ => ?_
  · match i with
    | 0 => simp at hv; subst hv; exact g0
    | 1 => simp at hv; subst hv; exact g1
    | 2 => simp at hv; subst hv; exact g2
    | 3 => simp at hv; subst hv; exact g3
    | i + 4 => simp at hv
  · subst he
    exact ⟨_, rfl, post_true laidOut (by rw [Tryz.params3]; intro t ht; simp at ht; rcases ht with rfl | rfl | rfl <;> exact ⟨by kernel_rfl, of_decide_eq_true (by kernel_rfl)⟩) (tb := 4) (by kernel_rfl) Tryz.underlying4 rfl hW' hb rfl rfl rfl⟩

theorem reads (os : Os) {H : Type} (enc : TypeId × Value → H) : ∃ places, DataW.whole enc Tryz.prog ((World.doorLaid Tryz.prog 600 os).forCall (fun _ _ => 0) ⟨#[], #[Value.slice none 0 0, Value.slice none 0 0, Value.string ByteArray.empty, Value.string ByteArray.empty], []⟩).memory Tryz.f3.params.toList Rows.shapePacksSpec.vars false #[Value.slice none 0 0, Value.slice none 0 0, Value.string ByteArray.empty, Value.string ByteArray.empty].toList 8 = some ([.nil, .nil, .lit (.string []), .lit (.string [])], [], places) :=
  ⟨[], by kernel_rfl⟩
theorem wok (os : Os) : Input.okWideB Tryz.checked.prog ((World.doorLaid Tryz.prog 600 os).forCall (fun _ _ => 0) ⟨#[], #[Value.slice none 0 0, Value.slice none 0 0, Value.string ByteArray.empty, Value.string ByteArray.empty], []⟩) 3 ⟨#[], #[Value.slice none 0 0, Value.slice none 0 0, Value.string ByteArray.empty, Value.string ByteArray.empty], []⟩ = true := by kernel_rfl
theorem wsized (os : Os) {H : Type} (enc : TypeId × Value → H) : (OpenSpec.ofChange Rows.shapePacksSpec).bare.sizedB enc Tryz.prog Tryz.f3 false ((World.doorLaid Tryz.prog 600 os).forCall (fun _ _ => 0) ⟨#[], #[Value.slice none 0 0, Value.slice none 0 0, Value.string ByteArray.empty, Value.string ByteArray.empty], []⟩).memory #[Value.slice none 0 0, Value.slice none 0 0, Value.string ByteArray.empty, Value.string ByteArray.empty] 8 = true := by kernel_rfl
set_option maxRecDepth 100000 in
theorem wpre (os : Os) {H : Type} (enc : TypeId × Value → H) : (OpenSpec.ofChange Rows.shapePacksSpec).preRow enc Tryz.prog Tryz.f3 Rows.shapePacksRow.domain false Rows.shapePacksRow.laid ((World.doorLaid Tryz.prog 600 os).forCall (fun _ _ => 0) ⟨#[], #[Value.slice none 0 0, Value.slice none 0 0, Value.string ByteArray.empty, Value.string ByteArray.empty], []⟩).memory #[Value.slice none 0 0, Value.slice none 0 0, Value.string ByteArray.empty, Value.string ByteArray.empty] := by
  obtain ⟨places, hx⟩ := reads os enc
  exact OpenSpec.preRow_of_cond 8 hx (by kernel_rfl) (fun k hk => by cases hk) (wsized os enc) (wtables _ os)

set_option maxRecDepth 100000 in
theorem lifted (os : Os) (started : os.Started) (H : Type) (enc : TypeId × Value → H) (F : Stop.Interp) :
    ReturnsInHanded {} Tryz.checked os 3 .any ((OpenSpec.ofChange Rows.shapePacksSpec).preRow enc Tryz.prog Tryz.f3 Rows.shapePacksRow.domain false Rows.shapePacksRow.laid) (((OpenSpec.ofChange Rows.shapePacksSpec).at F).post enc Tryz.prog Tryz.f3 false true false false) := by
  refine returnsInHanded_of_row (C := Tryz.checked) (s := (OpenSpec.ofChange Rows.shapePacksSpec)) own started noInit Tryz.func3
    (witness_row_atRef (enc := enc) (C := Tryz.checked) false (World.doorLaid Tryz.prog 600 os) #[Value.slice none 0 0, Value.slice none 0 0, Value.string ByteArray.empty, Value.string ByteArray.empty] rfl (wshape _ os) (wrest _ os) (wok os) (wpre os enc)) ?_
  intro W base args ds gs before hval hW _ _ hz hL _ _
  exact contract H enc W base args ds gs before hval hW hL

theorem said : Rows.ShapePacksSaid :=
  OpenClaim.holds_of_cond 3 Tryz.f3 rfl rfl rfl rfl rfl rfl rfl ⟨rfl, rfl, rfl, rfl, rfl⟩ rfl rfl rfl rfl rfl named Tryz.func3 closed instance_ wrapper
    (fun os started H enc _ F => by rw [OpenClaim.pre_eq_preRow]; exact lifted os started H enc F)

theorem plain (f : FuncId) (fn : Func) (hf : Tryz.pinned.checked.prog.funcNamed Rows.shapePacksRow.func = some f) (hfn : Tryz.pinned.checked.prog.funcs[f]? = some fn) :
    true = Tryz.pinned.checked.prog.looks [] ∧ ∀ (j : Nat) t, fn.params[j]? = some t → Tryz.pinned.checked.prog.wantsStandIn t = false := by
  obtain rfl : f = 3 := Option.some.inj (named.symm.trans hf) |>.symm
  obtain rfl : fn = Tryz.f3 := (Option.some.inj (Tryz.func3.symm.trans hfn)).symm
  refine ⟨looksUp, fun j t ht => ?_⟩
  rw [Tryz.params3] at ht
  have hm : t ∈ [22, 23, 9, 9] := by simpa using Array.mem_of_getElem? ht
  simp at hm
  rcases hm with rfl | rfl | rfl
  · exact plainf
  · exact plainv
  · exact plains

/-- THE CARD. -/
theorem shapePacks_card : Rows.ShapePacksCardSaid :=
  Claim7.holds_tied_plain_at .later [] [.data, .data, .data, .listed, .data] true _ true said (fun _ h => by cases h) wfText (fun _ h => by cases h) shapePacks_row_tie rfl ⟨rfl, rfl⟩ mainIs rfl plain goesBy
#print axioms shapePacks_card
end Go.Proofs.YtckbkcjhalimpabGreatDoor.shapePacksP
