/-
  LiveJunk answers true for all arguments, read afterwards as before: its row and its tied card: Rows.LiveJunkCardSaid. No conditions.
-/
import Derived.Test.YtkeoalhglkfbkaaDoorTy1
import Derived.Test.YtkeoalhglkfbkaaDoorIxu1
import Derived.Test.YtkeoalhglkfbkaaDoorLiveJunk1
import Derived.Test.YtkeoalhglkfbkaaDoorCards
import Derived.Test.YtkeoalhglkfbkaaDoorTie
import Derived.WalkKit
import Derived.ProofKit
import Derived.OpenShut
import Derived.Deep.DeepHandedRow
import Derived.Deep.DeepWitnessRowRef
set_option linter.unusedVariables false
set_option linter.unusedSimpArgs false
set_option linter.all false
namespace Go.Proofs.YtkeoalhglkfbkaaDoor.liveJunkP
open Go Hk Go.ChangeShapes Go.WideShapes Go.ChangeMaps Go.ChangeAt Go.RowKit

set_option maxRecDepth 100000 in
theorem contract (H : Type) (enc : TypeId × Value → H) (W : World) (base : Nat) (args : Array Value) (ds gs : List (DataW H)) (before : List MemPlace)
    (hval : ∀ (j : Nat) t v, Tryd.f17.params[j]? = some t → args[j]? = some v → Value.okWide Tryd.prog W .any base t v)
    (hW : DataW.Whole enc Tryd.prog Tryd.f17.params.toList Rows.liveJunkSpec.vars false W args.toList ds gs before) (hL : laidMetH Tryd.prog Nd W) :
    Calls Tryd.prog 17 args W fun e W' => ∃ v, e = .returned v ∧ Rows.liveJunkSpec.post enc Tryd.prog Tryd.f17 false true false false W args v W' := by
  have hW' := hW
  obtain ⟨p, q, hA0, hV, rfl, hfz, hnd⟩ := hW
  have hA : DataW.TrodAll enc Tryd.prog W 0 (fun _ => true) true Tryd.f17.params.toList args.toList ds p := hA0
  rw [Tryd.params17] at hA hval
  obtain ⟨v0, vs0, d0, ds0, p0, q0, hargs, rfl, rfl, h0, r0⟩ := trodAll_cons hA
  obtain ⟨v1, vs1, d1, ds1, p1, q1, rfl, rfl, rfl, h1, r1⟩ := trodAll_cons r0
  obtain ⟨v2, vs2, d2, ds2, p2, q2, rfl, rfl, rfl, h2, r2⟩ := trodAll_cons r1
  obtain ⟨v3, vs3, d3, ds3, p3, q3, rfl, rfl, rfl, h3, r3⟩ := trodAll_cons r2
  obtain ⟨v4, vs4, d4, ds4, p4, q4, rfl, rfl, rfl, h4, r4⟩ := trodAll_cons r3
  obtain ⟨rfl, rfl, rfl⟩ := trodAll_nil r4
  obtain rfl : args = #[v0, v1, v2, v3, v4] := by cases args; simp_all
  obtain ⟨rfl, rfl⟩ := trodVars_none hV
  obtain ⟨a0, w0, g0⟩ := Rd.am5 asS (YS (hval 0 44 v0 rfl rfl)) h0
  obtain ⟨a1, w1, g1⟩ := Rd.arg (encA := fun z : List UInt8 => kS.str z) rdStr (TT (hval 1 9 v1 rfl rfl)) h1
  obtain ⟨a2, w2, g2⟩ := Rd.arg (encA := fun z : Int => kS.int .i64 z) u7 (Lo (hval 2 3 v2 rfl rfl)) h2
  obtain ⟨a3, w3, g3⟩ := Rd.arg (encA := fun z : Int => kS.int .i64 z) u7 (Lo (hval 3 3 v3 rfl rfl)) h3
  obtain ⟨a4, w4, g4⟩ := Rd.arg (encA := fun z : Int => kS.int .i64 z) u7 (Lo (hval 4 3 v4 rfl rfl)) h4
  refine (Fp (A := nA) follows Zm (axQ a0 a1 a2 a3 a4 w1 w2 w3 w4) (SP hL) ⟨rfl, fun i v hv => ?_⟩).mono fun e W' ⟨he, hb⟩ => ?_
  · match i with
    | 0 => simp at hv; subst hv; exact g0
    | 1 => simp at hv; subst hv; exact g1
    | 2 => simp at hv; subst hv; exact g2
    | 3 => simp at hv; subst hv; exact g3
    | 4 => simp at hv; subst hv; exact g4
    | i + 5 => simp at hv
  · subst he
    exact ⟨_, rfl, HV laidOut (by rw [Tryd.params17]; intro t ht; simp at ht; rcases ht with rfl | rfl | rfl <;> exact ⟨by kernel_rfl, of_decide_eq_true (by kernel_rfl)⟩) (tb := 4) (by kernel_rfl) Tryd.underlying4 rfl hW' hb rfl rfl rfl⟩

theorem reads (os : Os) {H : Type} (enc : TypeId × Value → H) : ∃ places, DataW.whole enc Tryd.prog ((World.doorLaid Tryd.prog 600 os).forCall (fun _ _ => 0) ⟨#[], #[Value.agg #[.int .i64 0, .slice none 0 0, .slice none 0 0, .int .i64 0, .int .i64 0], Value.string ByteArray.empty, Value.int .i64 0, Value.int .i64 0, Value.int .i64 0], []⟩).memory Tryd.f17.params.toList Rows.liveJunkSpec.vars false #[Value.agg #[.int .i64 0, .slice none 0 0, .slice none 0 0, .int .i64 0, .int .i64 0], Value.string ByteArray.empty, Value.int .i64 0, Value.int .i64 0, Value.int .i64 0].toList 8 = some ([.agg [.lit (.int .i64 0), .nil, .nil, .lit (.int .i64 0), .lit (.int .i64 0)], .lit (.string []), .lit (.int .i64 0), .lit (.int .i64 0), .lit (.int .i64 0)], [], places) :=
  ⟨[], by kernel_rfl⟩
theorem wok (os : Os) : Input.okWideB Tryd.checked.prog ((World.doorLaid Tryd.prog 600 os).forCall (fun _ _ => 0) ⟨#[], #[Value.agg #[.int .i64 0, .slice none 0 0, .slice none 0 0, .int .i64 0, .int .i64 0], Value.string ByteArray.empty, Value.int .i64 0, Value.int .i64 0, Value.int .i64 0], []⟩) 17 ⟨#[], #[Value.agg #[.int .i64 0, .slice none 0 0, .slice none 0 0, .int .i64 0, .int .i64 0], Value.string ByteArray.empty, Value.int .i64 0, Value.int .i64 0, Value.int .i64 0], []⟩ = true := by kernel_rfl
theorem wsized (os : Os) {H : Type} (enc : TypeId × Value → H) : (OpenSpec.ofChange Rows.liveJunkSpec).bare.sizedB enc Tryd.prog Tryd.f17 false ((World.doorLaid Tryd.prog 600 os).forCall (fun _ _ => 0) ⟨#[], #[Value.agg #[.int .i64 0, .slice none 0 0, .slice none 0 0, .int .i64 0, .int .i64 0], Value.string ByteArray.empty, Value.int .i64 0, Value.int .i64 0, Value.int .i64 0], []⟩).memory #[Value.agg #[.int .i64 0, .slice none 0 0, .slice none 0 0, .int .i64 0, .int .i64 0], Value.string ByteArray.empty, Value.int .i64 0, Value.int .i64 0, Value.int .i64 0] 8 = true := by kernel_rfl
set_option maxRecDepth 100000 in
theorem wpre (os : Os) {H : Type} (enc : TypeId × Value → H) : (OpenSpec.ofChange Rows.liveJunkSpec).preRow enc Tryd.prog Tryd.f17 Rows.liveJunkRow.domain false Rows.liveJunkRow.laid ((World.doorLaid Tryd.prog 600 os).forCall (fun _ _ => 0) ⟨#[], #[Value.agg #[.int .i64 0, .slice none 0 0, .slice none 0 0, .int .i64 0, .int .i64 0], Value.string ByteArray.empty, Value.int .i64 0, Value.int .i64 0, Value.int .i64 0], []⟩).memory #[Value.agg #[.int .i64 0, .slice none 0 0, .slice none 0 0, .int .i64 0, .int .i64 0], Value.string ByteArray.empty, Value.int .i64 0, Value.int .i64 0, Value.int .i64 0] := by
  obtain ⟨places, hx⟩ := reads os enc
  exact OpenSpec.preRow_of_cond 8 hx (by kernel_rfl) (fun k hk => by cases hk) (wsized os enc) (PO _ os)

set_option maxRecDepth 100000 in
theorem lifted (os : Os) (started : os.Started) (H : Type) (enc : TypeId × Value → H) (F : Stop.Interp) :
    ReturnsInHanded {} Tryd.checked os 17 .any ((OpenSpec.ofChange Rows.liveJunkSpec).preRow enc Tryd.prog Tryd.f17 Rows.liveJunkRow.domain false Rows.liveJunkRow.laid) (((OpenSpec.ofChange Rows.liveJunkSpec).at F).post enc Tryd.prog Tryd.f17 false true false false) := by
  refine returnsInHanded_of_row (C := Tryd.checked) (s := OpenSpec.ofChange Rows.liveJunkSpec) own started noInit Tryd.func17
    (witness_row_atRef (enc := enc) (C := Tryd.checked) false (World.doorLaid Tryd.prog 600 os) #[Value.agg #[.int .i64 0, .slice none 0 0, .slice none 0 0, .int .i64 0, .int .i64 0], Value.string ByteArray.empty, Value.int .i64 0, Value.int .i64 0, Value.int .i64 0] rfl (UA _ os) (adZ _ os) (wok os) (wpre os enc)) ?_
  intro W base args ds gs before hval hW _ _ _ hL _ _
  exact contract H enc W base args ds gs before hval hW hL

theorem said : Rows.LiveJunkSaid :=
  OpenClaim.holds_of_cond 17 Tryd.f17 rfl rfl rfl rfl rfl rfl rfl ⟨rfl, rfl, rfl, rfl, rfl⟩ rfl rfl rfl rfl rfl named Tryd.func17 closed instance_ wrapper
    (fun os started H enc _ F => by rw [OpenClaim.pre_eq_preRow]; exact lifted os started H enc F)

theorem plain (f : FuncId) (fn : Func) (hf : Tryd.pinned.checked.prog.funcNamed Rows.liveJunkRow.func = some f) (hfn : Tryd.pinned.checked.prog.funcs[f]? = some fn) :
    true = Tryd.pinned.checked.prog.looks [] ∧ ∀ (j : Nat) t, fn.params[j]? = some t → Tryd.pinned.checked.prog.wantsStandIn t = false := by
  obtain rfl : f = 17 := Option.some.inj (named.symm.trans hf) |>.symm
  obtain rfl : fn = Tryd.f17 := (Option.some.inj (Tryd.func17.symm.trans hfn)).symm
  refine ⟨Oy, fun j t ht => ?_⟩
  rw [Tryd.params17] at ht
  have hm : t ∈ [44, 9, 3, 3, 3] := by simpa using Array.mem_of_getElem? ht
  simp at hm
  rcases hm with rfl | rfl | rfl
  · exact plainp
  · exact plains
  · exact plaini

/-- THE CARD. -/
theorem liveJunk_card : Rows.LiveJunkCardSaid :=
  Claim7.holds_tied_plain_at .later [] [.data] true _ true said (fun _ h => by cases h) wfText (fun _ h => by cases h) liveJunk_row_tie rfl ⟨rfl, rfl⟩ mainIs rfl plain goesBy
#print axioms liveJunk_card
end Go.Proofs.YtkeoalhglkfbkaaDoor.liveJunkP
