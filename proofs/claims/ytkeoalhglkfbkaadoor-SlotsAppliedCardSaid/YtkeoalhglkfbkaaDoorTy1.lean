/-
  The texts TY.C, TY.T1, TY.T2, TY.P1, TY.P2, TY.P3, TY.P4, TY.W16, one behind another. No conditions.
-/
import Derived.Test.YtkeoalhglkfbkaaDoorIx2
import Derived.Test.YtkeoalhglkfbkaaDoorIx3
import Derived.Test.YtkeoalhglkfbkaaDoorVt1
import Derived.Test.YtkeoalhglkfbkaaDoorIx1
set_option linter.unusedVariables false
set_option linter.unusedSimpArgs false
set_option linter.unusedSectionVars false
set_option linter.all false
/-
  Typed contracts of functions that were shown by hand. No conditions.
-/
namespace Go.Proofs.YtkeoalhglkfbkaaDoor
open Go Hk
theorem Op.cells_t (x : Op) : x.cells = [.int .i64 x.kind, .int .i64 x.dst, .int .i64 x.a, .int .i64 x.b, .int .i64 x.c, .int .i64 x.imm] := (rfl)
theorem Term.cells_t (x : Term) : x.cells = [.int .i64 x.kind, .int .i64 x.a, .int .i64 x.yes, .int .i64 x.no] := (rfl)
theorem Arr.cells_t (x : Arr) : x.cells = [.int .i64 x.elem, .int .i64 x.len, .int .i64 x.kind, .int .i64 x.off] := (rfl)
theorem Blk.cells_t (x : Blk) : x.cells = [.slice (Rw Op.cells x.ops) .no, .int .i64 x.term.kind, .int .i64 x.term.a, .int .i64 x.term.yes, .int .i64 x.term.no] := (rfl)
attribute [simp] Op.cells_t Term.cells_t Arr.cells_t Blk.cells_t
structure Span where
  first : Int
  last : Int
  deriving DecidableEq
def Span.cells (x : Span) : List AVal := [.int .i64 x.first, .int .i64 x.last]
theorem Span.cells_t (x : Span) : x.cells = [.int .i64 x.first, .int .i64 x.last] := (rfl)
structure Renamer where
  slots : List Int
  most : Int
  bad : Bool
attribute [simp] Span.cells_t

def t73 (o : Op) : Option Bool := some (formS o.kind).dst
theorem r73 (o : Op) (h : Heap) : KK 73 [.agg [.int .i64 o.kind, .int .i64 o.dst, .int .i64 o.a, .int .i64 o.b, .int .i64 o.c, .int .i64 o.imm]] h = tm (t73 o) fun r => (.ret (.bool r), h) := c73 o h
def t74 (o : Op) : Option (List Int) := some (usesS o)
theorem r74 (o : Op) (h : Heap) : KK 74 [.agg [.int .i64 o.kind, .int .i64 o.dst, .int .i64 o.a, .int .i64 o.b, .int .i64 o.c, .int .i64 o.imm]] h = tm (t74 o) fun r => (.ret (.slice (Rw (ci .i64) r) .no), h) := c74 o h
theorem r74x (a b c d e f : Int) (h : Heap) : KK 74 [.agg [.int .i64 a, .int .i64 b, .int .i64 c, .int .i64 d, .int .i64 e, .int .i64 f]] h = tm (t74 ⟨a, b, c, d, e, f⟩) fun r => (.ret (.slice (Rw (ci .i64) r) .no), h) := c74 ⟨a, b, c, d, e, f⟩ h
def t30 (p : IR) : Option Int := some (checkS p)
theorem r30 (p : IR) (h : Heap) : KK 30 [.agg [.int .i64 p.temps, .slice (Rw Arr.cells p.arrays) .no, .slice (Rw Blk.cells p.blocks) .no, .int .i64 p.inn, .int .i64 p.out]] h = tm (t30 p) fun r => (.ret (.int .i64 r), h) := c30 p h
def t64 (p : IR) : Option Int := some (checkS p)
theorem r64 (p : IR) (h : Heap) : KK 64 [.agg [.int .i64 p.temps, .slice (Rw Arr.cells p.arrays) .no, .slice (Rw Blk.cells p.blocks) .no, .int .i64 p.inn, .int .i64 p.out]] h = tm (t64 p) fun r => (.ret (.int .i64 r), h) := c64 p h
def t101 (o : Op) : Option Bool := some (formS o.kind).dst
theorem r101x (a b c d e f : Int) (h : Heap) : KK 101 [.agg [.int .i64 a, .int .i64 b, .int .i64 c, .int .i64 d, .int .i64 e, .int .i64 f]] h = tm (t101 ⟨a, b, c, d, e, f⟩) fun r => (.ret (.bool r), h) := c101 ⟨a, b, c, d, e, f⟩ h
def t100 (o : Op) : Option (List Int) := some (usesS o)
theorem VI_Vs (id : Nat) (l : List Int) : VI id l = Vs id 1 l.length := by cases l <;> rfl
theorem XI_Vb (l : List Int) : XI l = Vb (ci .i64) 1 l := by
  cases l with
  | nil => rfl
  | cons x r =>
    have e : (Rw (ci .i64) (x :: r)).flatten = (x :: r).map intc := by
      generalize x :: r = l
      induction l with
      | nil => rfl
      | cons y s ih => simp only [Rw, List.map_cons, List.flatten_cons] at ih ⊢; rw [ih]; rfl
    unfold Vb
    rw [e]; rfl
theorem r100 (o : Op) (h : Heap) : KK 100 [.agg [.int .i64 o.kind, .int .i64 o.dst, .int .i64 o.a, .int .i64 o.b, .int .i64 o.c, .int .i64 o.imm]] h = tm (t100 o) fun r => (.ret (Vs h.length 1 r.length), h ++ [Vb (ci .i64) 1 r]) := by
  rw [show KK 100 [.agg [.int .i64 o.kind, .int .i64 o.dst, .int .i64 o.a, .int .i64 o.b, .int .i64 o.c, .int .i64 o.imm]] h = _ from c100 o h, VI_Vs, XI_Vb]; rfl
end Go.Proofs.YtkeoalhglkfbkaaDoor

/-
  Typed forms. No conditions.
-/
namespace Go.Proofs.YtkeoalhglkfbkaaDoor
open Go Hk
noncomputable def t83_j0 (w41 : Bool) (o1 : Int) (o0 : Nat) (u31 : Int) (w42 : (List Span)) : Option ((List Span)) :=
  tc w41 (tb ((tin o0 u31)) fun j45 => tb ((tvg o0 w42 j45)) fun u47 => tb ((tvs o0 w42 j45 (⟨o1, o1⟩ : Span))) fun l48 => some l48) (some w42)
noncomputable def t83_l4 (o0 : Nat) (o1 : Int) (o2 : (List Int)) (w21 : Int) (s22 : Int × (List Span)) : Option (Ey × Int × (List Span)) :=
  tc (decide (s22.1 < w21)) (tb ((tidx o2 s22.1)) fun u31 => tb ((tin o0 u31)) fun j34 => tb ((tvg o0 s22.2 j34)) fun u37 => tb (t83_j0 (decide (u37.first < 0)) o1 o0 u31 s22.2) fun r49 => tb ((tin o0 u31)) fun j58 => tb ((tvg o0 r49 j58)) fun u61 => tb ((tin o0 u31)) fun j64 => tb ((tvg o0 r49 j64)) fun u67 => tb ((tin o0 u31)) fun j70 => tb ((tvg o0 r49 j70)) fun u73 => tb ((tvs o0 r49 j70 (⟨(min u61.first o1), u73.last⟩ : Span))) fun l74 => tb ((tin o0 u31)) fun j76 => tb ((tvg o0 l74 j76)) fun u79 => tb ((tvs o0 l74 j76 (⟨u79.first, (max u67.last o1)⟩ : Span))) fun l80 => some (.n, ((IntKind.wrap .i64 (s22.1 + 1)), l80))) (some ((.x 0), (s22.1, s22.2)))
noncomputable def t83 (o0 : Nat) (o1 : Int) (o2 : (List Int)) (o3 : (List Span)) : Option ((List Span)) :=
  tb (lpT (t83_l4 o0 o1 o2 ((List.length o2 : Nat) : Int)) (0, o3)) fun r82 => exT r82.1 none fun e83 => ibT 0 e83 (some r82.2.2) fun e90 => efT e90 (some r82.2.2)
/- (*hauberk/slots.renamer).of -/
noncomputable def m99_k (mm : Nat) (r59 : R) : Option (Res × Heap) :=
  (fun x4v60 h61 => Ex.endF r59.1 (finR mm x4v60 h61)) (gd r59.2.1 0) r59.2.2
noncomputable def m99_s1 (K : CallO) (a0 : AVal) (h43 : Heap) (t44 : AVal) (t25 : AVal) : Option R :=
  (anilCheck a0).bind fun t48 => fa 2 t48 fun t49 => (astore 1 h43 t49 t44).bind fun h50 => (anilCheck a0).bind fun t51 => fa 1 t51 fun t52 => ld false 1 h50 t52 fun t53 => bo .add t25 (.int .i64 1) fun t54 => (amax2 t53 t54).bind fun t55 => (anilCheck a0).bind fun t56 => fa 1 t56 fun t57 => (astore 1 h50 t57 t55).bind fun h58 => some (.ret, [t25], h58)
noncomputable def t99_s1 (o1 : Renamer) (w47 : Bool) (u24 : Int) : Option (Int × Renamer) :=
  some (u24, (⟨o1.slots, (max o1.most (IntKind.wrap .i64 (u24 + 1))), w47⟩ : Renamer))
theorem r99_s1 (o1 : Renamer) (w38 : Bool) (w47 : Bool) (u24 : Int) : ((m99_s1 KK (.ptr 0 0) ([.cells [(.slice (Rw (ci .i64) o1.slots) .no), (.int .i64 o1.most), (.bool w38)]] : Heap) (.bool w47) (.int .i64 u24))).bind (m99_k 1) = tm (t99_s1 o1 w47 u24) fun r => (.ret (.int .i64 r.1), ([.cells [(.slice (Rw (ci .i64) r.2.slots) .no), (.int .i64 r.2.most), (.bool r.2.bad)]] : Heap)) := by
  simp +contextual -implicitDefEqProofs (maxSteps := 2000000) [-acond_bool, -guardSel_true, -guardSel_false, -aindexSl_map, -aload_vptr, -aload_vptrT, -astore_vptr, m99_s1, t99_s1, m99_k]
noncomputable def m99_s0 (K : CallO) (t34 : AVal) (t25 : AVal) (h33 : Heap) (a0 : AVal) : Option R :=
  gS false t34 (kv0 t25 h33) h33 fun t39 h40 => gS false t34 (bo .geq t39 (.int .i64 1048576) fun t41 => kv0 t41 h40) h40 fun t42 h43 => (apick t34 (.bool true) t42).bind fun t44 => m99_s1 K a0 h43 t44 t25
noncomputable def t99_s0 (w37 : Bool) (u24 : Int) (o1 : Renamer) : Option (Int × Renamer) :=
  tc w37 (t99_s1 o1 true u24) (t99_s1 o1 (decide (1048576 ≤ u24)) u24)
theorem r99_s0 (w37 : Bool) (u24 : Int) (o1 : Renamer) (w38 : Bool) : ((m99_s0 KK (.bool w37) (.int .i64 u24) ([.cells [(.slice (Rw (ci .i64) o1.slots) .no), (.int .i64 o1.most), (.bool w38)]] : Heap) (.ptr 0 0))).bind (m99_k 1) = tm (t99_s0 w37 u24 o1) fun r => (.ret (.int .i64 r.1), ([.cells [(.slice (Rw (ci .i64) r.2.slots) .no), (.int .i64 r.2.most), (.bool r.2.bad)]] : Heap)) := by
  simp +contextual -implicitDefEqProofs (maxSteps := 2000000) [-acond_bool, -guardSel_true, -guardSel_false, -aindexSl_map, -aload_vptr, -aload_vptrT, -astore_vptr, m99_s0, t99_s0, m99_k, r99_s1]
noncomputable def m99 (K : CallO) (a0 a1 : AVal) (h0 : Heap) : Option (Res × Heap) :=
  ((anilCheck a0).bind fun t20 => fa 0 t20 fun t21 => ld false 1 h0 t21 fun t22 => ix 1 t22 a1 fun t23 => ld false 1 h0 t23 fun t25 => (anilCheck a0).bind fun t26 => fa 2 t26 fun t27 => ld false 1 h0 t27 fun t28 => gS false t28 (kv0 t25 h0) h0 fun t29 h30 => gS false t28 (bo .lss t29 (.int .i64 0) fun t31 => kv0 t31 h30) h30 fun t32 h33 => (apick t28 (.bool true) t32).bind fun t34 => m99_s0 K t34 t25 h33 a0).bind (m99_k (List.length h0))
theorem m99_eq (K : CallO) (a0 a1 : AVal) (h0 : Heap) : evB Tryd.prog ann lpW K 99 [a0, a1] h0 = m99 (callP ann K) a0 a1 h0 := by kernel_rfl
noncomputable def t99 (o0 : Int) (o1 : Renamer) : Option (Int × Renamer) :=
  tb ((tidx o1.slots o0)) fun u24 => tc o1.bad (t99_s0 true u24 o1) (t99_s0 (decide (u24 < 0)) u24 o1)
theorem b99 (o0 : Int) (o1 : Renamer) : m99 KK (.ptr 0 0) (.int .i64 o0) ([.cells [(.slice (Rw (ci .i64) o1.slots) .no), (.int .i64 o1.most), (.bool o1.bad)]] : Heap) = tm (t99 o0 o1) fun r => (.ret (.int .i64 r.1), ([.cells [(.slice (Rw (ci .i64) r.2.slots) .no), (.int .i64 r.2.most), (.bool r.2.bad)]] : Heap)) := by
  simp +contextual -implicitDefEqProofs (maxSteps := 2000000) [-acond_bool, -guardSel_true, -guardSel_false, -aindexSl_map, -aload_vptr, -aload_vptrT, -astore_vptr, m99, t99, m99_k, r99_s1, r99_s0]

/- hauberk/slots.capped -/
noncomputable def m97_k (mm : Nat) (r53 : R) : Option (Res × Heap) :=
  (fun x2v54 h55 => Ex.endF r53.1 (finR mm x2v54 h55)) (gd r53.2.1 0) r53.2.2
theorem bs97_0 (y0 : Int) (h : Heap) : abuildSlice 1 1 [(.int .i64 0)] [(0, (.int .i64 y0))] h = some (.slice (Rw (ci .i64) [y0]) (.own h.length), h ++ [FRs 1 (List.length [y0])]) := by
  rfl
noncomputable def m97_l1 (K : CallO) (m : Nat) (s : List AVal × Heap) : Option R :=
  (fun x2v27 x3v28 x6v29 x7v30 x8v31 h32 => bo .lss x8v31 x7v30 fun t33 => acond t33 (ix 1 x6v29 x8v31 fun t34 => ld false 1 h32 t34 fun t36 => (amin2 t36 (.int .i64 1048576)).bind fun t37 => bindVH (abuildSlice 1 1 [(.int .i64 0)] [(0, t37)] h32) fun t38 h39 => bindVH (aappend 1 8 h39 x3v28 t38) fun t40 h41 => bo .add x8v31 (.int .i64 1) fun t43 => endR m .normal [x2v27, t40, x6v29, x7v30, t43] h41) (endR m (.exit 0) [x2v27, x3v28, x6v29, x7v30, x8v31] h32)) (gd s.1 0) (gd s.1 1) (gd s.1 2) (gd s.1 3) (gd s.1 4) s.2
noncomputable def t97_l1 (p0 : (List Int)) (w25 : Int) (s26 : (List Int) × Int) : Option (Ey × (List Int) × Int) :=
  tc (decide (s26.2 < w25)) (tb ((tidx p0 s26.2)) fun u35 => tb ((tapp 8 s26.1 [(min u35 1048576)])) fun l42 => some (.n, (l42, (IntKind.wrap .i64 (s26.2 + 1))))) (some ((.x 0), (s26.1, s26.2)))
theorem b97_l1 (p0 : (List Int)) (w25 : Int) (s26 : (List Int) × Int) : m97_l1 KK 2 ([(.slice (Rw (ci .i64) []) (.own 0)), (.slice (Rw (ci .i64) s26.1) (.own 1)), (.slice (Rw (ci .i64) p0) .no), (.int .i64 w25), (.int .i64 s26.2)], ([.front 0 0, FRs 1 (List.length s26.1)] : Heap)) = tm (t97_l1 p0 w25 s26) fun r => (r.1.ex, [(.slice (Rw (ci .i64) []) (.own 0)), (.slice (Rw (ci .i64) r.2.1) (.own 1)), (.slice (Rw (ci .i64) p0) .no), (.int .i64 w25), (.int .i64 r.2.2)], ([.front 0 0, FRs 1 (List.length r.2.1)] : Heap)) := by
  simp +contextual -implicitDefEqProofs (maxSteps := 2000000) [-acond_bool, -guardSel_true, -guardSel_false, -aindexSl_map, -aload_vptr, -aload_vptrT, -astore_vptr, m97_l1, t97_l1, bs97_0]
theorem r97_l1 (p0 : (List Int)) (w25 : Int) (i4 : Int) : lpW (m97_l1 KK 2) ([(.slice (Rw (ci .i64) []) (.own 0)), (.slice (Rw (ci .i64) []) (.own 1)), (.slice (Rw (ci .i64) p0) .no), (.int .i64 w25), (.int .i64 i4)], ([.front 0 0, .front 0 0] : Heap)) = tm (lpT (t97_l1 p0 w25) ([], i4)) fun r => (r.1.ex, [(.slice (Rw (ci .i64) []) (.own 0)), (.slice (Rw (ci .i64) r.2.1) (.own 1)), (.slice (Rw (ci .i64) p0) .no), (.int .i64 w25), (.int .i64 r.2.2)], ([.front 0 0, FRs 1 (List.length r.2.1)] : Heap)) := by
  exact lpW_t (enc := fun s26 => ([(.slice (Rw (ci .i64) []) (.own 0)), (.slice (Rw (ci .i64) s26.1) (.own 1)), (.slice (Rw (ci .i64) p0) .no), (.int .i64 w25), (.int .i64 s26.2)], ([.front 0 0, FRs 1 (List.length s26.1)] : Heap))) (fun s26 => b97_l1 p0 w25 s26) ([], i4)
noncomputable def m97 (K : CallO) (a0 : AVal) (h0 : Heap) : Option (Res × Heap) :=
  ((fun (t21 : AVal) (h20 : Heap) => (fun (t23 : AVal) (h22 : Heap) => ln a0 fun t24 => (lpW (m97_l1 K (List.length h22)) ([t21, t23, a0, t24, (.int .i64 0)], h22)).bind fun r44 => (fun x2v46 x3v47 x6v48 x7v49 x8v50 h51 => Ex.thenDo r44.1 none (fun e45 => Ex.inBlock 0 e45 (some (.ret, [x3v47], h51)) (fun e52 => some (e52, [x2v46], h51)))) (gd r44.2.1 0) (gd r44.2.1 1) (gd r44.2.1 2) (gd r44.2.1 3) (gd r44.2.1 4) r44.2.2) (.slice (Rw (ci .i64) []) (.own (List.length h20))) (h20 ++ [.front 0 0])) (.slice (Rw (ci .i64) []) (.own (List.length h0))) (h0 ++ [.front 0 0])).bind (m97_k (List.length h0))
theorem m97_eq (K : CallO) (a0 : AVal) (h0 : Heap) : evB Tryd.prog ann lpW K 97 [a0] h0 = m97 (callP ann K) a0 h0 := by kernel_rfl
noncomputable def t97 (p0 : (List Int)) : Option ((List Int)) :=
  tb (lpT (t97_l1 p0 ((List.length p0 : Nat) : Int)) ([], 0)) fun r44 => exT r44.1 none fun e45 => ibT 0 e45 (some r44.2.1) fun e52 => efT e52 (some [])
theorem b97 (p0 : (List Int)) : m97 KK (.slice (Rw (ci .i64) p0) .no) [] = tm (t97 p0) fun r => (.ret (.slice (Rw (ci .i64) r) .no), []) := by
  simp +contextual -implicitDefEqProofs (maxSteps := 2000000) [-acond_bool, -guardSel_true, -guardSel_false, -aindexSl_map, -aload_vptr, -aload_vptrT, -astore_vptr, m97, t97, r97_l1, m97_k]
theorem r97 (p0 : (List Int)) (h : Heap) : KK 97 [(.slice (Rw (ci .i64) p0) .no)] h = tm (t97 p0) fun r => (.ret (.slice (Rw (ci .i64) r) .no), h) := call_t rfl rfl (m97_eq ..) (b97 p0)

/- (*hauberk/slots.renamer).op -/
noncomputable def m98_k (mm : Nat) (r120 : R) : Option (Res × Heap) :=
  (fun x4v121 h122 => Ex.endF r120.1 ((aload true 6 h122 x4v121).bind fun t123 => finR mm t123 h122)) (gd r120.2.1 0) r120.2.2
theorem c98_1 (o2 : Int) (o6 : Renamer) (o0 : Int) (o1 : Int) (o3 : Int) (o4 : Int) (o5 : Int) : KK 99 [(.ptr 0 0), (.int .i64 o2)] ([.cells [(.slice (Rw (ci .i64) o6.slots) .no), (.int .i64 o6.most), (.bool o6.bad)], .cells [(.int .i64 o0), (.int .i64 o1), (.int .i64 o2), (.int .i64 o3), (.int .i64 o4), (.int .i64 o5)], .cells [(.int .i64 0), (.int .i64 0), (.int .i64 0), (.int .i64 0), (.int .i64 0), (.int .i64 0)]] : Heap) = tm (t99 o2 o6) fun r => (.ret (.int .i64 r.1), ([.cells [(.slice (Rw (ci .i64) r.2.slots) .no), (.int .i64 r.2.most), (.bool r.2.bad)], .cells [(.int .i64 o0), (.int .i64 o1), (.int .i64 o2), (.int .i64 o3), (.int .i64 o4), (.int .i64 o5)], .cells [(.int .i64 0), (.int .i64 0), (.int .i64 0), (.int .i64 0), (.int .i64 0), (.int .i64 0)]] : Heap)) := by
  refine sub_t (ids := [0]) rfl rfl ?_ ?_ rfl ?_ (m99_eq ..) (b99 o2 o6) fun r => ?_
  all_goals simp
noncomputable def m98_j0 (K : CallO) (t29 : AVal) (t20 : AVal) (h26 : Heap) (a0 : AVal) (t22 : AVal) (t28 : AVal) : Option R :=
  acond t29 (fa 2 t20 fun t32 => ld false 1 h26 t32 fun t33 => ca (K 99 [(AVal.untok a0), (AVal.untok t33)] h26) fun t34 h35 => fa 2 t20 fun t37 => (astore 1 h35 t37 t34).bind fun h38 => endR (List.length h26) .normal [a0, t20, t22, t28] h38) (endR (List.length h26) .normal [a0, t20, t22, t28] h26)
noncomputable def t98_j0 (w31 : Bool) (o6 : Renamer) (o0 : Int) (o1 : Int) (o2 : Int) (o3 : Int) (o4 : Int) (o5 : Int) : Option (Renamer × Op) :=
  tc w31 (tb ((t99 o2 o6)) fun r36 => some (r36.2, (⟨o0, o1, r36.1, o3, o4, o5⟩ : Op))) (some (o6, (⟨o0, o1, o2, o3, o4, o5⟩ : Op)))
theorem r98_j0 (w31 : Bool) (o6 : Renamer) (o0 : Int) (o1 : Int) (o2 : Int) (o3 : Int) (o4 : Int) (o5 : Int) (w30 : Int) : (m98_j0 KK (.bool w31) (.ptr 1 0) ([.cells [(.slice (Rw (ci .i64) o6.slots) .no), (.int .i64 o6.most), (.bool o6.bad)], .cells [(.int .i64 o0), (.int .i64 o1), (.int .i64 o2), (.int .i64 o3), (.int .i64 o4), (.int .i64 o5)], .cells [(.int .i64 0), (.int .i64 0), (.int .i64 0), (.int .i64 0), (.int .i64 0), (.int .i64 0)]] : Heap) (.ptr 0 0) (.ptr 2 0) (.int .i64 w30)) = tm (t98_j0 w31 o6 o0 o1 o2 o3 o4 o5) fun r => (.normal, [(.ptr 0 0), (.ptr 1 0), (.ptr 2 0), (.int .i64 w30)], ([.cells [(.slice (Rw (ci .i64) r.1.slots) .no), (.int .i64 r.1.most), (.bool r.1.bad)], .cells [(.int .i64 r.2.kind), (.int .i64 r.2.dst), (.int .i64 r.2.a), (.int .i64 r.2.b), (.int .i64 r.2.c), (.int .i64 r.2.imm)], .cells [(.int .i64 0), (.int .i64 0), (.int .i64 0), (.int .i64 0), (.int .i64 0), (.int .i64 0)]] : Heap)) := by
  simp +contextual -implicitDefEqProofs (maxSteps := 2000000) [-acond_bool, -guardSel_true, -guardSel_false, -aindexSl_map, -aload_vptr, -aload_vptrT, -astore_vptr, m98_j0, t98_j0, c98_1]
theorem c98_3 (w54 : Int) (w48 : (List Int)) (w49 : Int) (w50 : Bool) (w51 : Int) (w52 : Int) (w53 : Int) (w55 : Int) (w56 : Int) : KK 99 [(.ptr 0 0), (.int .i64 w54)] ([.cells [(.slice (Rw (ci .i64) w48) .no), (.int .i64 w49), (.bool w50)], .cells [(.int .i64 w51), (.int .i64 w52), (.int .i64 w53), (.int .i64 w54), (.int .i64 w55), (.int .i64 w56)], .cells [(.int .i64 0), (.int .i64 0), (.int .i64 0), (.int .i64 0), (.int .i64 0), (.int .i64 0)]] : Heap) = tm (t99 w54 (⟨w48, w49, w50⟩ : Renamer)) fun r => (.ret (.int .i64 r.1), ([.cells [(.slice (Rw (ci .i64) r.2.slots) .no), (.int .i64 r.2.most), (.bool r.2.bad)], .cells [(.int .i64 w51), (.int .i64 w52), (.int .i64 w53), (.int .i64 w54), (.int .i64 w55), (.int .i64 w56)], .cells [(.int .i64 0), (.int .i64 0), (.int .i64 0), (.int .i64 0), (.int .i64 0), (.int .i64 0)]] : Heap)) := by
  refine sub_t (ids := [0]) rfl rfl ?_ ?_ rfl ?_ (m99_eq ..) (b99 w54 (⟨w48, w49, w50⟩ : Renamer)) fun r => ?_
  all_goals simp
noncomputable def m98_j2 (K : CallO) (t45 : AVal) (x3v41 : AVal) (h44 : Heap) (x0v40 : AVal) (x4v42 : AVal) (x5v43 : AVal) : Option R :=
  acond t45 (fa 3 x3v41 fun t57 => ld false 1 h44 t57 fun t58 => ca (K 99 [(AVal.untok x0v40), (AVal.untok t58)] h44) fun t59 h60 => fa 3 x3v41 fun t62 => (astore 1 h60 t62 t59).bind fun h63 => endR (List.length h44) .normal [x0v40, x3v41, x4v42, x5v43] h63) (endR (List.length h44) .normal [x0v40, x3v41, x4v42, x5v43] h44)
noncomputable def t98_j2 (w47 : Bool) (w48 : (List Int)) (w49 : Int) (w50 : Bool) (w51 : Int) (w52 : Int) (w53 : Int) (w54 : Int) (w55 : Int) (w56 : Int) : Option (Renamer × Op) :=
  tc w47 (tb ((t99 w54 (⟨w48, w49, w50⟩ : Renamer))) fun r61 => some (r61.2, (⟨w51, w52, w53, r61.1, w55, w56⟩ : Op))) (some ((⟨w48, w49, w50⟩ : Renamer), (⟨w51, w52, w53, w54, w55, w56⟩ : Op)))
theorem r98_j2 (w47 : Bool) (w48 : (List Int)) (w49 : Int) (w50 : Bool) (w51 : Int) (w52 : Int) (w53 : Int) (w54 : Int) (w55 : Int) (w56 : Int) (w46 : Int) : (m98_j2 KK (.bool w47) (.ptr 1 0) ([.cells [(.slice (Rw (ci .i64) w48) .no), (.int .i64 w49), (.bool w50)], .cells [(.int .i64 w51), (.int .i64 w52), (.int .i64 w53), (.int .i64 w54), (.int .i64 w55), (.int .i64 w56)], .cells [(.int .i64 0), (.int .i64 0), (.int .i64 0), (.int .i64 0), (.int .i64 0), (.int .i64 0)]] : Heap) (.ptr 0 0) (.ptr 2 0) (.int .i64 w46)) = tm (t98_j2 w47 w48 w49 w50 w51 w52 w53 w54 w55 w56) fun r => (.normal, [(.ptr 0 0), (.ptr 1 0), (.ptr 2 0), (.int .i64 w46)], ([.cells [(.slice (Rw (ci .i64) r.1.slots) .no), (.int .i64 r.1.most), (.bool r.1.bad)], .cells [(.int .i64 r.2.kind), (.int .i64 r.2.dst), (.int .i64 r.2.a), (.int .i64 r.2.b), (.int .i64 r.2.c), (.int .i64 r.2.imm)], .cells [(.int .i64 0), (.int .i64 0), (.int .i64 0), (.int .i64 0), (.int .i64 0), (.int .i64 0)]] : Heap)) := by
  simp +contextual -implicitDefEqProofs (maxSteps := 2000000) [-acond_bool, -guardSel_true, -guardSel_false, -aindexSl_map, -aload_vptr, -aload_vptrT, -astore_vptr, m98_j2, t98_j2, c98_3]
theorem c98_5 (w80 : Int) (w73 : (List Int)) (w74 : Int) (w75 : Bool) (w76 : Int) (w77 : Int) (w78 : Int) (w79 : Int) (w81 : Int) : KK 99 [(.ptr 0 0), (.int .i64 w80)] ([.cells [(.slice (Rw (ci .i64) w73) .no), (.int .i64 w74), (.bool w75)], .cells [(.int .i64 w76), (.int .i64 w77), (.int .i64 w78), (.int .i64 w79), (.int .i64 w80), (.int .i64 w81)], .cells [(.int .i64 0), (.int .i64 0), (.int .i64 0), (.int .i64 0), (.int .i64 0), (.int .i64 0)]] : Heap) = tm (t99 w80 (⟨w73, w74, w75⟩ : Renamer)) fun r => (.ret (.int .i64 r.1), ([.cells [(.slice (Rw (ci .i64) r.2.slots) .no), (.int .i64 r.2.most), (.bool r.2.bad)], .cells [(.int .i64 w76), (.int .i64 w77), (.int .i64 w78), (.int .i64 w79), (.int .i64 w80), (.int .i64 w81)], .cells [(.int .i64 0), (.int .i64 0), (.int .i64 0), (.int .i64 0), (.int .i64 0), (.int .i64 0)]] : Heap)) := by
  refine sub_t (ids := [0]) rfl rfl ?_ ?_ rfl ?_ (m99_eq ..) (b99 w80 (⟨w73, w74, w75⟩ : Renamer)) fun r => ?_
  all_goals simp
noncomputable def m98_j4 (K : CallO) (t70 : AVal) (x3v66 : AVal) (h69 : Heap) (x0v65 : AVal) (x4v67 : AVal) : Option R :=
  acond t70 (fa 4 x3v66 fun t82 => ld false 1 h69 t82 fun t83 => ca (K 99 [(AVal.untok x0v65), (AVal.untok t83)] h69) fun t84 h85 => fa 4 x3v66 fun t87 => (astore 1 h85 t87 t84).bind fun h88 => endR (List.length h69) .normal [x0v65, x3v66, x4v67] h88) (endR (List.length h69) .normal [x0v65, x3v66, x4v67] h69)
noncomputable def t98_j4 (w72 : Bool) (w73 : (List Int)) (w74 : Int) (w75 : Bool) (w76 : Int) (w77 : Int) (w78 : Int) (w79 : Int) (w80 : Int) (w81 : Int) : Option (Renamer × Op) :=
  tc w72 (tb ((t99 w80 (⟨w73, w74, w75⟩ : Renamer))) fun r86 => some (r86.2, (⟨w76, w77, w78, w79, r86.1, w81⟩ : Op))) (some ((⟨w73, w74, w75⟩ : Renamer), (⟨w76, w77, w78, w79, w80, w81⟩ : Op)))
theorem r98_j4 (w72 : Bool) (w73 : (List Int)) (w74 : Int) (w75 : Bool) (w76 : Int) (w77 : Int) (w78 : Int) (w79 : Int) (w80 : Int) (w81 : Int) : (m98_j4 KK (.bool w72) (.ptr 1 0) ([.cells [(.slice (Rw (ci .i64) w73) .no), (.int .i64 w74), (.bool w75)], .cells [(.int .i64 w76), (.int .i64 w77), (.int .i64 w78), (.int .i64 w79), (.int .i64 w80), (.int .i64 w81)], .cells [(.int .i64 0), (.int .i64 0), (.int .i64 0), (.int .i64 0), (.int .i64 0), (.int .i64 0)]] : Heap) (.ptr 0 0) (.ptr 2 0)) = tm (t98_j4 w72 w73 w74 w75 w76 w77 w78 w79 w80 w81) fun r => (.normal, [(.ptr 0 0), (.ptr 1 0), (.ptr 2 0)], ([.cells [(.slice (Rw (ci .i64) r.1.slots) .no), (.int .i64 r.1.most), (.bool r.1.bad)], .cells [(.int .i64 r.2.kind), (.int .i64 r.2.dst), (.int .i64 r.2.a), (.int .i64 r.2.b), (.int .i64 r.2.c), (.int .i64 r.2.imm)], .cells [(.int .i64 0), (.int .i64 0), (.int .i64 0), (.int .i64 0), (.int .i64 0), (.int .i64 0)]] : Heap)) := by
  simp +contextual -implicitDefEqProofs (maxSteps := 2000000) [-acond_bool, -guardSel_true, -guardSel_false, -aindexSl_map, -aload_vptr, -aload_vptrT, -astore_vptr, m98_j4, t98_j4, c98_5]
theorem c98_7 (w99 : Int) (w104 : (List Int)) (w105 : Int) (w106 : Bool) (w98 : Int) (w100 : Int) (w101 : Int) (w102 : Int) (w103 : Int) : KK 99 [(.ptr 0 0), (.int .i64 w99)] ([.cells [(.slice (Rw (ci .i64) w104) .no), (.int .i64 w105), (.bool w106)], .cells [(.int .i64 w98), (.int .i64 w99), (.int .i64 w100), (.int .i64 w101), (.int .i64 w102), (.int .i64 w103)], .cells [(.int .i64 0), (.int .i64 0), (.int .i64 0), (.int .i64 0), (.int .i64 0), (.int .i64 0)]] : Heap) = tm (t99 w99 (⟨w104, w105, w106⟩ : Renamer)) fun r => (.ret (.int .i64 r.1), ([.cells [(.slice (Rw (ci .i64) r.2.slots) .no), (.int .i64 r.2.most), (.bool r.2.bad)], .cells [(.int .i64 w98), (.int .i64 w99), (.int .i64 w100), (.int .i64 w101), (.int .i64 w102), (.int .i64 w103)], .cells [(.int .i64 0), (.int .i64 0), (.int .i64 0), (.int .i64 0), (.int .i64 0), (.int .i64 0)]] : Heap)) := by
  refine sub_t (ids := [0]) rfl rfl ?_ ?_ rfl ?_ (m99_eq ..) (b99 w99 (⟨w104, w105, w106⟩ : Renamer)) fun r => ?_
  all_goals simp
noncomputable def m98_j6 (K : CallO) (t95 : AVal) (x3v91 : AVal) (h96 : Heap) (x0v90 : AVal) (x4v92 : AVal) : Option R :=
  acond t95 (fa 1 x3v91 fun t107 => ld false 1 h96 t107 fun t108 => ca (K 99 [(AVal.untok x0v90), (AVal.untok t108)] h96) fun t109 h110 => fa 1 x3v91 fun t112 => (astore 1 h110 t112 t109).bind fun h113 => endR (List.length h96) .normal [x3v91, x4v92] h113) (endR (List.length h96) .normal [x3v91, x4v92] h96)
noncomputable def t98_j6 (r97 : Bool) (w104 : (List Int)) (w105 : Int) (w106 : Bool) (w98 : Int) (w99 : Int) (w100 : Int) (w101 : Int) (w102 : Int) (w103 : Int) : Option (Renamer × Op) :=
  tc r97 (tb ((t99 w99 (⟨w104, w105, w106⟩ : Renamer))) fun r111 => some (r111.2, (⟨w98, r111.1, w100, w101, w102, w103⟩ : Op))) (some ((⟨w104, w105, w106⟩ : Renamer), (⟨w98, w99, w100, w101, w102, w103⟩ : Op)))
theorem r98_j6 (r97 : Bool) (w104 : (List Int)) (w105 : Int) (w106 : Bool) (w98 : Int) (w99 : Int) (w100 : Int) (w101 : Int) (w102 : Int) (w103 : Int) : (m98_j6 KK (.bool r97) (.ptr 1 0) ([.cells [(.slice (Rw (ci .i64) w104) .no), (.int .i64 w105), (.bool w106)], .cells [(.int .i64 w98), (.int .i64 w99), (.int .i64 w100), (.int .i64 w101), (.int .i64 w102), (.int .i64 w103)], .cells [(.int .i64 0), (.int .i64 0), (.int .i64 0), (.int .i64 0), (.int .i64 0), (.int .i64 0)]] : Heap) (.ptr 0 0) (.ptr 2 0)) = tm (t98_j6 r97 w104 w105 w106 w98 w99 w100 w101 w102 w103) fun r => (.normal, [(.ptr 1 0), (.ptr 2 0)], ([.cells [(.slice (Rw (ci .i64) r.1.slots) .no), (.int .i64 r.1.most), (.bool r.1.bad)], .cells [(.int .i64 r.2.kind), (.int .i64 r.2.dst), (.int .i64 r.2.a), (.int .i64 r.2.b), (.int .i64 r.2.c), (.int .i64 r.2.imm)], .cells [(.int .i64 0), (.int .i64 0), (.int .i64 0), (.int .i64 0), (.int .i64 0), (.int .i64 0)]] : Heap)) := by
  simp +contextual -implicitDefEqProofs (maxSteps := 2000000) [-acond_bool, -guardSel_true, -guardSel_false, -aindexSl_map, -aload_vptr, -aload_vptrT, -astore_vptr, m98_j6, t98_j6, c98_7]
noncomputable def m98 (K : CallO) (a0 a1 : AVal) (h0 : Heap) : Option (Res × Heap) :=
  (bindVH (anew 6 h0 a1) fun t20 h21 => bindVH (anew 6 h21 (.agg [(.int .i64 0), (.int .i64 0), (.int .i64 0), (.int .i64 0), (.int .i64 0), (.int .i64 0)])) fun t22 h23 => ld true 6 h23 t20 fun t24 => ca (K 74 [(AVal.untok t24)] h23) fun t25 h26 => ln t25 fun t28 => bo .gtr t28 (.int .i64 0) fun t29 => (m98_j0 K t29 t20 h26 a0 t22 t28).bind fun r39 => (fun x0v40 x3v41 x4v42 x5v43 h44 => Ex.nrm r39.1 (bo .gtr x5v43 (.int .i64 1) fun t45 => (m98_j2 K t45 x3v41 h44 x0v40 x4v42 x5v43).bind fun r64 => (fun x0v65 x3v66 x4v67 x5v68 h69 => Ex.nrm r64.1 (bo .gtr x5v68 (.int .i64 2) fun t70 => (m98_j4 K t70 x3v66 h69 x0v65 x4v67).bind fun r89 => (fun x0v90 x3v91 x4v92 h93 => Ex.nrm r89.1 (ld true 6 h93 x3v91 fun t94 => ca (K 73 [(AVal.untok t94)] h93) fun t95 h96 => (m98_j6 K t95 x3v91 h96 x0v90 x4v92).bind fun r114 => (fun x3v115 x4v116 h117 => Ex.nrm r114.1 (ld true 6 h117 x3v115 fun t118 => (astore 6 h117 x4v116 t118).bind fun h119 => some (.ret, [x4v116], h119))) (gd r114.2.1 0) (gd r114.2.1 1) r114.2.2)) (gd r89.2.1 0) (gd r89.2.1 1) (gd r89.2.1 2) r89.2.2)) (gd r64.2.1 0) (gd r64.2.1 1) (gd r64.2.1 2) (gd r64.2.1 3) r64.2.2)) (gd r39.2.1 0) (gd r39.2.1 1) (gd r39.2.1 2) (gd r39.2.1 3) r39.2.2).bind (m98_k (List.length h0))
theorem m98_eq (K : CallO) (a0 a1 : AVal) (h0 : Heap) : evB Tryd.prog ann lpW K 98 [a0, a1] h0 = m98 (callP ann K) a0 a1 h0 := by kernel_rfl
noncomputable def t98 (o0 : Int) (o1 : Int) (o2 : Int) (o3 : Int) (o4 : Int) (o5 : Int) (o6 : Renamer) : Option (Op × Renamer) :=
  tb ((t74 (⟨o0, o1, o2, o3, o4, o5⟩ : Op))) fun r27 => tb (t98_j0 (decide (0 < ((List.length r27 : Nat) : Int))) o6 o0 o1 o2 o3 o4 o5) fun r39 => tb (t98_j2 (decide (1 < ((List.length r27 : Nat) : Int))) r39.1.slots r39.1.most r39.1.bad r39.2.kind r39.2.dst r39.2.a r39.2.b r39.2.c r39.2.imm) fun r64 => tb (t98_j4 (decide (2 < ((List.length r27 : Nat) : Int))) r64.1.slots r64.1.most r64.1.bad r64.2.kind r64.2.dst r64.2.a r64.2.b r64.2.c r64.2.imm) fun r89 => tb ((t73 r89.2)) fun r97 => tb (t98_j6 r97 r89.1.slots r89.1.most r89.1.bad r89.2.kind r89.2.dst r89.2.a r89.2.b r89.2.c r89.2.imm) fun r114 => some (r114.2, r114.1)
theorem b98 (o0 : Int) (o1 : Int) (o2 : Int) (o3 : Int) (o4 : Int) (o5 : Int) (o6 : Renamer) : m98 KK (.ptr 0 0) (.agg [(.int .i64 o0), (.int .i64 o1), (.int .i64 o2), (.int .i64 o3), (.int .i64 o4), (.int .i64 o5)]) ([.cells [(.slice (Rw (ci .i64) o6.slots) .no), (.int .i64 o6.most), (.bool o6.bad)]] : Heap) = tm (t98 o0 o1 o2 o3 o4 o5 o6) fun r => (.ret (.agg [(.int .i64 r.1.kind), (.int .i64 r.1.dst), (.int .i64 r.1.a), (.int .i64 r.1.b), (.int .i64 r.1.c), (.int .i64 r.1.imm)]), ([.cells [(.slice (Rw (ci .i64) r.2.slots) .no), (.int .i64 r.2.most), (.bool r.2.bad)]] : Heap)) := by
  simp +contextual -implicitDefEqProofs (maxSteps := 2000000) [-acond_bool, -guardSel_true, -guardSel_false, -aindexSl_map, -aload_vptr, -aload_vptrT, -astore_vptr, m98, t98, r74x, r98_j0, r98_j2, r98_j4, r73, r98_j6, m98_k]

/- hauberk/slots.Apply -/
noncomputable def m49_k (mm : Nat) (r218 : R) : Option (Res × Heap) :=
  (fun x4v219 x5v220 h221 => Ex.endF r218.1 ((aload true 5 h221 x4v219).bind fun t222 => finR mm (.tuple [t222, x5v220]) h221)) (gd r218.2.1 0) (gd r218.2.1 1) r218.2.2
theorem c49_1 (u98 : Op) (p0 : IR) (w106 : (List Int)) (w107 : Int) (w108 : Bool) (w63 : (List Blk)) (u70 : Blk) (s81 : (List Op) × Int × Renamer) : KK 98 [(.ptr 4 0), (.agg [(.int .i64 u98.kind), (.int .i64 u98.dst), (.int .i64 u98.a), (.int .i64 u98.b), (.int .i64 u98.c), (.int .i64 u98.imm)])] ([.cells [(.int .i64 p0.temps), (.slice (Rw Arr.cells p0.arrays) .no), (.slice (Rw Blk.cells p0.blocks) .no), (.int .i64 p0.inn), (.int .i64 p0.out)], .cells [(.int .i64 0), (.slice (Rw Arr.cells []) (.own 2)), (.slice (Rw Blk.cells []) (.own 3)), (.int .i64 0), (.int .i64 0)], .front 0 0, .front 0 0, .cells [(.slice (Rw (ci .i64) w106) .no), (.int .i64 w107), (.bool w108)], FRs 5 (List.length w63), .cells [(.slice (Rw Op.cells u70.ops) .no), (.int .i64 u70.term.kind), (.int .i64 u70.term.a), (.int .i64 u70.term.yes), (.int .i64 u70.term.no)], .front 0 0, FRs 6 (List.length s81.1), .cells [(.int .i64 u98.kind), (.int .i64 u98.dst), (.int .i64 u98.a), (.int .i64 u98.b), (.int .i64 u98.c), (.int .i64 u98.imm)]] : Heap) = tm (t98 u98.kind u98.dst u98.a u98.b u98.c u98.imm (⟨w106, w107, w108⟩ : Renamer)) fun r => (.ret (.agg [(.int .i64 r.1.kind), (.int .i64 r.1.dst), (.int .i64 r.1.a), (.int .i64 r.1.b), (.int .i64 r.1.c), (.int .i64 r.1.imm)]), ([.cells [(.int .i64 p0.temps), (.slice (Rw Arr.cells p0.arrays) .no), (.slice (Rw Blk.cells p0.blocks) .no), (.int .i64 p0.inn), (.int .i64 p0.out)], .cells [(.int .i64 0), (.slice (Rw Arr.cells []) (.own 2)), (.slice (Rw Blk.cells []) (.own 3)), (.int .i64 0), (.int .i64 0)], .front 0 0, .front 0 0, .cells [(.slice (Rw (ci .i64) r.2.slots) .no), (.int .i64 r.2.most), (.bool r.2.bad)], FRs 5 (List.length w63), .cells [(.slice (Rw Op.cells u70.ops) .no), (.int .i64 u70.term.kind), (.int .i64 u70.term.a), (.int .i64 u70.term.yes), (.int .i64 u70.term.no)], .front 0 0, FRs 6 (List.length s81.1), .cells [(.int .i64 u98.kind), (.int .i64 u98.dst), (.int .i64 u98.a), (.int .i64 u98.b), (.int .i64 u98.c), (.int .i64 u98.imm)]] : Heap)) := by
  refine sub_t (ids := [4]) rfl rfl ?_ ?_ rfl ?_ (m98_eq ..) (b98 u98.kind u98.dst u98.a u98.b u98.c u98.imm (⟨w106, w107, w108⟩ : Renamer)) fun r => ?_
  all_goals simp
theorem bs49_2 (y0 : Int) (y1 : Int) (y2 : Int) (y3 : Int) (y4 : Int) (y5 : Int) (h : Heap) : abuildSlice 1 6 [(.int .i64 0), (.int .i64 0), (.int .i64 0), (.int .i64 0), (.int .i64 0), (.int .i64 0)] [(0, (.agg [(.int .i64 y0), (.int .i64 y1), (.int .i64 y2), (.int .i64 y3), (.int .i64 y4), (.int .i64 y5)]))] h = some (.slice (Rw Op.cells [(⟨y0, y1, y2, y3, y4, y5⟩ : Op)]) (.own h.length), h ++ [FRs 6 (List.length [(⟨y0, y1, y2, y3, y4, y5⟩ : Op)])]) := by
  rfl
noncomputable def m49_l3 (K : CallO) (m : Nat) (s : List AVal × Heap) : Option R :=
  (fun x2v82 x4v83 x5v84 x7v85 x8v86 x10v87 x11v88 x31v89 x32v90 x33v91 x38v92 x39v93 x40v94 h95 => bo .lss x40v94 x39v93 fun t96 => acond t96 (ix 6 x38v92 x40v94 fun t97 => ld true 6 h95 t97 fun t99 => bindVH (anew 6 h95 (.agg [(.int .i64 0), (.int .i64 0), (.int .i64 0), (.int .i64 0), (.int .i64 0), (.int .i64 0)])) fun t100 h101 => (astore 6 h101 t100 t99).bind fun h102 => ld true 6 h102 t100 fun t103 => ca (K 98 [(AVal.untok x7v85), (AVal.untok t103)] h102) fun t104 h105 => bindVH (abuildSlice 1 6 [(.int .i64 0), (.int .i64 0), (.int .i64 0), (.int .i64 0), (.int .i64 0), (.int .i64 0)] [(0, t104)] h105) fun t110 h111 => bindVH (aappend 6 48 h111 x11v88 t110) fun t112 h113 => bo .add x40v94 (.int .i64 1) fun t115 => endR m .normal [x2v82, x4v83, x5v84, x7v85, x8v86, x10v87, t112, x31v89, x32v90, x33v91, x38v92, x39v93, t115] h113) (endR m (.exit 2) [x2v82, x4v83, x5v84, x7v85, x8v86, x10v87, x11v88, x31v89, x32v90, x33v91, x38v92, x39v93, x40v94] h95)) (gd s.1 0) (gd s.1 1) (gd s.1 2) (gd s.1 3) (gd s.1 4) (gd s.1 5) (gd s.1 6) (gd s.1 7) (gd s.1 8) (gd s.1 9) (gd s.1 10) (gd s.1 11) (gd s.1 12) s.2
noncomputable def t49_l3 (u70 : Blk) (w80 : Int) (s81 : (List Op) × Int × Renamer) : Option (Ey × (List Op) × Int × Renamer) :=
  tc (decide (s81.2.1 < w80)) (tb ((tidx u70.ops s81.2.1)) fun u98 => tb ((t98 u98.kind u98.dst u98.a u98.b u98.c u98.imm s81.2.2)) fun r109 => tb ((tapp 48 s81.1 [r109.1])) fun l114 => some (.n, (l114, (IntKind.wrap .i64 (s81.2.1 + 1)), r109.2))) (some ((.x 2), (s81.1, s81.2.1, s81.2.2)))
theorem b49_l3 (w63 : (List Blk)) (p0 : IR) (w51 : Int) (w64 : Int) (u70 : Blk) (w80 : Int) (s81 : (List Op) × Int × Renamer) : m49_l3 KK 9 ([(.ptr 0 0), (.ptr 1 0), (.int .i64 0), (.ptr 4 0), (.slice (Rw Blk.cells w63) (.own 5)), (.ptr 6 0), (.slice (Rw Op.cells s81.1) (.own 8)), (.slice (Rw Blk.cells p0.blocks) .no), (.int .i64 w51), (.int .i64 w64), (.slice (Rw Op.cells u70.ops) .no), (.int .i64 w80), (.int .i64 s81.2.1)], ([.cells [(.int .i64 p0.temps), (.slice (Rw Arr.cells p0.arrays) .no), (.slice (Rw Blk.cells p0.blocks) .no), (.int .i64 p0.inn), (.int .i64 p0.out)], .cells [(.int .i64 0), (.slice (Rw Arr.cells []) (.own 2)), (.slice (Rw Blk.cells []) (.own 3)), (.int .i64 0), (.int .i64 0)], .front 0 0, .front 0 0, .cells [(.slice (Rw (ci .i64) s81.2.2.slots) .no), (.int .i64 s81.2.2.most), (.bool s81.2.2.bad)], FRs 5 (List.length w63), .cells [(.slice (Rw Op.cells u70.ops) .no), (.int .i64 u70.term.kind), (.int .i64 u70.term.a), (.int .i64 u70.term.yes), (.int .i64 u70.term.no)], .front 0 0, FRs 6 (List.length s81.1)] : Heap)) = tm (t49_l3 u70 w80 s81) fun r => (r.1.ex, [(.ptr 0 0), (.ptr 1 0), (.int .i64 0), (.ptr 4 0), (.slice (Rw Blk.cells w63) (.own 5)), (.ptr 6 0), (.slice (Rw Op.cells r.2.1) (.own 8)), (.slice (Rw Blk.cells p0.blocks) .no), (.int .i64 w51), (.int .i64 w64), (.slice (Rw Op.cells u70.ops) .no), (.int .i64 w80), (.int .i64 r.2.2.1)], ([.cells [(.int .i64 p0.temps), (.slice (Rw Arr.cells p0.arrays) .no), (.slice (Rw Blk.cells p0.blocks) .no), (.int .i64 p0.inn), (.int .i64 p0.out)], .cells [(.int .i64 0), (.slice (Rw Arr.cells []) (.own 2)), (.slice (Rw Blk.cells []) (.own 3)), (.int .i64 0), (.int .i64 0)], .front 0 0, .front 0 0, .cells [(.slice (Rw (ci .i64) r.2.2.2.slots) .no), (.int .i64 r.2.2.2.most), (.bool r.2.2.2.bad)], FRs 5 (List.length w63), .cells [(.slice (Rw Op.cells u70.ops) .no), (.int .i64 u70.term.kind), (.int .i64 u70.term.a), (.int .i64 u70.term.yes), (.int .i64 u70.term.no)], .front 0 0, FRs 6 (List.length r.2.1)] : Heap)) := by
  simp +contextual -implicitDefEqProofs (maxSteps := 2000000) [-acond_bool, -guardSel_true, -guardSel_false, -aindexSl_map, -aload_vptr, -aload_vptrT, -astore_vptr, m49_l3, t49_l3, c49_1, bs49_2]
theorem r49_l3 (w63 : (List Blk)) (p0 : IR) (w51 : Int) (w64 : Int) (u70 : Blk) (w80 : Int) (w66 : (List Int)) (w67 : Int) (w68 : Bool) (i8 : Int) (n5 : Nat) (hn5 : n5 = (List.length w63)) : lpW (m49_l3 KK 9) ([(.ptr 0 0), (.ptr 1 0), (.int .i64 0), (.ptr 4 0), (.slice (Rw Blk.cells w63) (.own 5)), (.ptr 6 0), (.slice (Rw Op.cells []) (.own 8)), (.slice (Rw Blk.cells p0.blocks) .no), (.int .i64 w51), (.int .i64 w64), (.slice (Rw Op.cells u70.ops) .no), (.int .i64 w80), (.int .i64 i8)], ([.cells [(.int .i64 p0.temps), (.slice (Rw Arr.cells p0.arrays) .no), (.slice (Rw Blk.cells p0.blocks) .no), (.int .i64 p0.inn), (.int .i64 p0.out)], .cells [(.int .i64 0), (.slice (Rw Arr.cells []) (.own 2)), (.slice (Rw Blk.cells []) (.own 3)), (.int .i64 0), (.int .i64 0)], .front 0 0, .front 0 0, .cells [(.slice (Rw (ci .i64) w66) .no), (.int .i64 w67), (.bool w68)], FRs 5 n5, .cells [(.slice (Rw Op.cells u70.ops) .no), (.int .i64 u70.term.kind), (.int .i64 u70.term.a), (.int .i64 u70.term.yes), (.int .i64 u70.term.no)], .front 0 0, .front 0 0] : Heap)) = tm (lpT (t49_l3 u70 w80) ([], i8, (⟨w66, w67, w68⟩ : Renamer))) fun r => (r.1.ex, [(.ptr 0 0), (.ptr 1 0), (.int .i64 0), (.ptr 4 0), (.slice (Rw Blk.cells w63) (.own 5)), (.ptr 6 0), (.slice (Rw Op.cells r.2.1) (.own 8)), (.slice (Rw Blk.cells p0.blocks) .no), (.int .i64 w51), (.int .i64 w64), (.slice (Rw Op.cells u70.ops) .no), (.int .i64 w80), (.int .i64 r.2.2.1)], ([.cells [(.int .i64 p0.temps), (.slice (Rw Arr.cells p0.arrays) .no), (.slice (Rw Blk.cells p0.blocks) .no), (.int .i64 p0.inn), (.int .i64 p0.out)], .cells [(.int .i64 0), (.slice (Rw Arr.cells []) (.own 2)), (.slice (Rw Blk.cells []) (.own 3)), (.int .i64 0), (.int .i64 0)], .front 0 0, .front 0 0, .cells [(.slice (Rw (ci .i64) r.2.2.2.slots) .no), (.int .i64 r.2.2.2.most), (.bool r.2.2.2.bad)], FRs 5 (List.length w63), .cells [(.slice (Rw Op.cells u70.ops) .no), (.int .i64 u70.term.kind), (.int .i64 u70.term.a), (.int .i64 u70.term.yes), (.int .i64 u70.term.no)], .front 0 0, FRs 6 (List.length r.2.1)] : Heap)) := by
  subst hn5; exact lpW_t (enc := fun s81 => ([(.ptr 0 0), (.ptr 1 0), (.int .i64 0), (.ptr 4 0), (.slice (Rw Blk.cells w63) (.own 5)), (.ptr 6 0), (.slice (Rw Op.cells s81.1) (.own 8)), (.slice (Rw Blk.cells p0.blocks) .no), (.int .i64 w51), (.int .i64 w64), (.slice (Rw Op.cells u70.ops) .no), (.int .i64 w80), (.int .i64 s81.2.1)], ([.cells [(.int .i64 p0.temps), (.slice (Rw Arr.cells p0.arrays) .no), (.slice (Rw Blk.cells p0.blocks) .no), (.int .i64 p0.inn), (.int .i64 p0.out)], .cells [(.int .i64 0), (.slice (Rw Arr.cells []) (.own 2)), (.slice (Rw Blk.cells []) (.own 3)), (.int .i64 0), (.int .i64 0)], .front 0 0, .front 0 0, .cells [(.slice (Rw (ci .i64) s81.2.2.slots) .no), (.int .i64 s81.2.2.most), (.bool s81.2.2.bad)], FRs 5 (List.length w63), .cells [(.slice (Rw Op.cells u70.ops) .no), (.int .i64 u70.term.kind), (.int .i64 u70.term.a), (.int .i64 u70.term.yes), (.int .i64 u70.term.no)], .front 0 0, FRs 6 (List.length s81.1)] : Heap))) (fun s81 => b49_l3 w63 p0 w51 w64 u70 w80 s81) ([], i8, (⟨w66, w67, w68⟩ : Renamer))
theorem c49_5 (u70 : Blk) (p0 : IR) (w141 : (List Int)) (w142 : Int) (w143 : Bool) (w63 : (List Blk)) (w137 : (List Op)) : KK 99 [(.ptr 4 0), (.int .i64 u70.term.a)] ([.cells [(.int .i64 p0.temps), (.slice (Rw Arr.cells p0.arrays) .no), (.slice (Rw Blk.cells p0.blocks) .no), (.int .i64 p0.inn), (.int .i64 p0.out)], .cells [(.int .i64 0), (.slice (Rw Arr.cells []) (.own 2)), (.slice (Rw Blk.cells []) (.own 3)), (.int .i64 0), (.int .i64 0)], .front 0 0, .front 0 0, .cells [(.slice (Rw (ci .i64) w141) .no), (.int .i64 w142), (.bool w143)], FRs 5 (List.length w63), .cells [(.slice (Rw Op.cells u70.ops) .no), (.int .i64 u70.term.kind), (.int .i64 u70.term.a), (.int .i64 u70.term.yes), (.int .i64 u70.term.no)], .front 0 0, FRs 6 (List.length w137)] : Heap) = tm (t99 u70.term.a (⟨w141, w142, w143⟩ : Renamer)) fun r => (.ret (.int .i64 r.1), ([.cells [(.int .i64 p0.temps), (.slice (Rw Arr.cells p0.arrays) .no), (.slice (Rw Blk.cells p0.blocks) .no), (.int .i64 p0.inn), (.int .i64 p0.out)], .cells [(.int .i64 0), (.slice (Rw Arr.cells []) (.own 2)), (.slice (Rw Blk.cells []) (.own 3)), (.int .i64 0), (.int .i64 0)], .front 0 0, .front 0 0, .cells [(.slice (Rw (ci .i64) r.2.slots) .no), (.int .i64 r.2.most), (.bool r.2.bad)], FRs 5 (List.length w63), .cells [(.slice (Rw Op.cells u70.ops) .no), (.int .i64 u70.term.kind), (.int .i64 u70.term.a), (.int .i64 u70.term.yes), (.int .i64 u70.term.no)], .front 0 0, FRs 6 (List.length w137)] : Heap)) := by
  refine sub_t (ids := [4]) rfl rfl ?_ ?_ rfl ?_ (m99_eq ..) (b99 u70.term.a (⟨w141, w142, w143⟩ : Renamer)) fun r => ?_
  all_goals simp
noncomputable def m49_j4 (K : CallO) (t136 : AVal) (x10v123 : AVal) (h131 : Heap) (x7v121 : AVal) (x2v118 : AVal) (x4v119 : AVal) (x5v120 : AVal) (x8v122 : AVal) (x11v124 : AVal) (x31v125 : AVal) (x32v126 : AVal) (x33v127 : AVal) : Option R :=
  acond t136 (fa 1 x10v123 fun t144 => fa 1 t144 fun t145 => ld false 1 h131 t145 fun t146 => ca (K 99 [(AVal.untok x7v121), (AVal.untok t146)] h131) fun t147 h148 => fa 1 x10v123 fun t150 => fa 1 t150 fun t151 => (astore 1 h148 t151 t147).bind fun h152 => endR (List.length h131) .normal [x2v118, x4v119, x5v120, x7v121, x8v122, x10v123, x11v124, x31v125, x32v126, x33v127] h152) (endR (List.length h131) .normal [x2v118, x4v119, x5v120, x7v121, x8v122, x10v123, x11v124, x31v125, x32v126, x33v127] h131)
noncomputable def t49_j4 (w140 : Bool) (w141 : (List Int)) (w142 : Int) (w143 : Bool) (u70 : Blk) : Option (Renamer × Blk) :=
  tc w140 (tb ((t99 u70.term.a (⟨w141, w142, w143⟩ : Renamer))) fun r149 => some (r149.2, (⟨u70.ops, (⟨u70.term.kind, r149.1, u70.term.yes, u70.term.no⟩ : Term)⟩ : Blk))) (some ((⟨w141, w142, w143⟩ : Renamer), u70))
theorem r49_j4 (w140 : Bool) (p0 : IR) (w141 : (List Int)) (w142 : Int) (w143 : Bool) (w63 : (List Blk)) (u70 : Blk) (w137 : (List Op)) (w51 : Int) (w64 : Int) : (m49_j4 KK (.bool w140) (.ptr 6 0) ([.cells [(.int .i64 p0.temps), (.slice (Rw Arr.cells p0.arrays) .no), (.slice (Rw Blk.cells p0.blocks) .no), (.int .i64 p0.inn), (.int .i64 p0.out)], .cells [(.int .i64 0), (.slice (Rw Arr.cells []) (.own 2)), (.slice (Rw Blk.cells []) (.own 3)), (.int .i64 0), (.int .i64 0)], .front 0 0, .front 0 0, .cells [(.slice (Rw (ci .i64) w141) .no), (.int .i64 w142), (.bool w143)], FRs 5 (List.length w63), .cells [(.slice (Rw Op.cells u70.ops) .no), (.int .i64 u70.term.kind), (.int .i64 u70.term.a), (.int .i64 u70.term.yes), (.int .i64 u70.term.no)], .front 0 0, FRs 6 (List.length w137)] : Heap) (.ptr 4 0) (.ptr 0 0) (.ptr 1 0) (.int .i64 0) (.slice (Rw Blk.cells w63) (.own 5)) (.slice (Rw Op.cells w137) (.own 8)) (.slice (Rw Blk.cells p0.blocks) .no) (.int .i64 w51) (.int .i64 w64)) = tm (t49_j4 w140 w141 w142 w143 u70) fun r => (.normal, [(.ptr 0 0), (.ptr 1 0), (.int .i64 0), (.ptr 4 0), (.slice (Rw Blk.cells w63) (.own 5)), (.ptr 6 0), (.slice (Rw Op.cells w137) (.own 8)), (.slice (Rw Blk.cells p0.blocks) .no), (.int .i64 w51), (.int .i64 w64)], ([.cells [(.int .i64 p0.temps), (.slice (Rw Arr.cells p0.arrays) .no), (.slice (Rw Blk.cells p0.blocks) .no), (.int .i64 p0.inn), (.int .i64 p0.out)], .cells [(.int .i64 0), (.slice (Rw Arr.cells []) (.own 2)), (.slice (Rw Blk.cells []) (.own 3)), (.int .i64 0), (.int .i64 0)], .front 0 0, .front 0 0, .cells [(.slice (Rw (ci .i64) r.1.slots) .no), (.int .i64 r.1.most), (.bool r.1.bad)], FRs 5 (List.length w63), .cells [(.slice (Rw Op.cells r.2.ops) .no), (.int .i64 r.2.term.kind), (.int .i64 r.2.term.a), (.int .i64 r.2.term.yes), (.int .i64 r.2.term.no)], .front 0 0, FRs 6 (List.length w137)] : Heap)) := by
  simp +contextual -implicitDefEqProofs (maxSteps := 2000000) [-acond_bool, -guardSel_true, -guardSel_false, -aindexSl_map, -aload_vptr, -aload_vptrT, -astore_vptr, m49_j4, t49_j4, c49_5]
theorem bs49_6 (y0 : List Op) (y1 : Int) (y2 : Int) (y3 : Int) (y4 : Int) (h : Heap) : abuildSlice 1 5 [(.slice (Rw Op.cells []) .nil), (.int .i64 0), (.int .i64 0), (.int .i64 0), (.int .i64 0)] [(0, (.agg [(.slice (Rw Op.cells y0) (.own 8)), (.int .i64 y1), (.int .i64 y2), (.int .i64 y3), (.int .i64 y4)]))] h = some (.slice (Rw Blk.cells [(⟨y0, (⟨y1, y2, y3, y4⟩ : Term)⟩ : Blk)]) (.own h.length), h ++ [FRs 5 (List.length [(⟨y0, (⟨y1, y2, y3, y4⟩ : Term)⟩ : Blk)])]) := by
  rfl
noncomputable def m49_b0 (K : CallO) (x31v58 : AVal) (x33v60 : AVal) (h61 : Heap) (x2v53 : AVal) (x4v54 : AVal) (x5v55 : AVal) (x7v56 : AVal) (x8v57 : AVal) (x32v59 : AVal) : Option R :=
  ix 5 x31v58 x33v60 fun t69 => ld true 5 h61 t69 fun t71 => bindVH (anew 5 h61 (.agg [(.slice (Rw Op.cells []) .nil), (.int .i64 0), (.int .i64 0), (.int .i64 0), (.int .i64 0)])) fun t72 h73 => (astore 5 h73 t72 t71).bind fun h74 => (fun (t76 : AVal) (h75 : Heap) => fa 0 t72 fun t77 => ld false 1 h75 t77 fun t78 => ln t78 fun t79 => (lpW (m49_l3 K (List.length h75)) ([x2v53, x4v54, x5v55, x7v56, x8v57, t72, t76, x31v58, x32v59, x33v60, t78, t79, (.int .i64 0)], h75)).bind fun r116 => (fun x2v118 x4v119 x5v120 x7v121 x8v122 x10v123 x11v124 x31v125 x32v126 x33v127 x38v128 x39v129 x40v130 h131 => Ex.thenDo r116.1 none (fun e117 => Ex.inBlock 2 e117 (fa 1 x10v123 fun t133 => fa 0 t133 fun t134 => ld false 1 h131 t134 fun t135 => bo .eql t135 (.int .i64 2) fun t136 => (m49_j4 K t136 x10v123 h131 x7v121 x2v118 x4v119 x5v120 x8v122 x11v124 x31v125 x32v126 x33v127).bind fun r153 => (fun x2v154 x4v155 x5v156 x7v157 x8v158 x10v159 x11v160 x31v161 x32v162 x33v163 h164 => Ex.nrm r153.1 (fa 1 x10v159 fun t165 => ld true 4 h164 t165 fun t166 => (abuild [(.slice (Rw Op.cells []) .nil), (.int .i64 0), (.int .i64 0), (.int .i64 0), (.int .i64 0)] [(0, 1), (1, 4)] [(0, x11v160), (1, t166)]).bind fun t167 => bindVH (abuildSlice 1 5 [(.slice (Rw Op.cells []) .nil), (.int .i64 0), (.int .i64 0), (.int .i64 0), (.int .i64 0)] [(0, t167)] h164) fun t168 h169 => bindVH (aappend 5 56 h169 x8v158 t168) fun t170 h171 => endR (List.length h61) .normal [x2v154, x4v155, x5v156, x7v157, t170, x31v161, x32v162, x33v163] h171)) (gd r153.2.1 0) (gd r153.2.1 1) (gd r153.2.1 2) (gd r153.2.1 3) (gd r153.2.1 4) (gd r153.2.1 5) (gd r153.2.1 6) (gd r153.2.1 7) (gd r153.2.1 8) (gd r153.2.1 9) r153.2.2) (fun e132 => endR (List.length h61) e132 [x2v118, x4v119, x5v120, x7v121, x8v122, x31v125, x32v126, x33v127] h131))) (gd r116.2.1 0) (gd r116.2.1 1) (gd r116.2.1 2) (gd r116.2.1 3) (gd r116.2.1 4) (gd r116.2.1 5) (gd r116.2.1 6) (gd r116.2.1 7) (gd r116.2.1 8) (gd r116.2.1 9) (gd r116.2.1 10) (gd r116.2.1 11) (gd r116.2.1 12) r116.2.2) (.slice (Rw Op.cells []) (.own (List.length h74))) (h74 ++ [.front 0 0])
noncomputable def t49_b0 (p0 : IR) (w64 : Int) (w66 : (List Int)) (w67 : Int) (w68 : Bool) (w63 : (List Blk)) : Option (Ey × (List Blk) × Renamer) :=
  tb ((tidx p0.blocks w64)) fun u70 => tb (lpT (t49_l3 u70 ((List.length u70.ops : Nat) : Int)) ([], 0, (⟨w66, w67, w68⟩ : Renamer))) fun r116 => exT r116.1 none fun e117 => ibT 2 e117 (tb (t49_j4 (decide (u70.term.kind = 2)) r116.2.2.2.slots r116.2.2.2.most r116.2.2.2.bad u70) fun r153 => tb ((tapp 56 w63 [(⟨r116.2.1, r153.2.term⟩ : Blk)])) fun l172 => some (.n, (l172, r153.1))) fun e132 => some (e132, (w63, r116.2.2.2))
theorem r49_b0 (p0 : IR) (w64 : Int) (w66 : (List Int)) (w67 : Int) (w68 : Bool) (w63 : (List Blk)) (w51 : Int) : (m49_b0 KK (.slice (Rw Blk.cells p0.blocks) .no) (.int .i64 w64) ([.cells [(.int .i64 p0.temps), (.slice (Rw Arr.cells p0.arrays) .no), (.slice (Rw Blk.cells p0.blocks) .no), (.int .i64 p0.inn), (.int .i64 p0.out)], .cells [(.int .i64 0), (.slice (Rw Arr.cells []) (.own 2)), (.slice (Rw Blk.cells []) (.own 3)), (.int .i64 0), (.int .i64 0)], .front 0 0, .front 0 0, .cells [(.slice (Rw (ci .i64) w66) .no), (.int .i64 w67), (.bool w68)], FRs 5 (List.length w63)] : Heap) (.ptr 0 0) (.ptr 1 0) (.int .i64 0) (.ptr 4 0) (.slice (Rw Blk.cells w63) (.own 5)) (.int .i64 w51)) = tm (t49_b0 p0 w64 w66 w67 w68 w63) fun r => (r.1.ex, [(.ptr 0 0), (.ptr 1 0), (.int .i64 0), (.ptr 4 0), (.slice (Rw Blk.cells r.2.1) (.own 5)), (.slice (Rw Blk.cells p0.blocks) .no), (.int .i64 w51), (.int .i64 w64)], ([.cells [(.int .i64 p0.temps), (.slice (Rw Arr.cells p0.arrays) .no), (.slice (Rw Blk.cells p0.blocks) .no), (.int .i64 p0.inn), (.int .i64 p0.out)], .cells [(.int .i64 0), (.slice (Rw Arr.cells []) (.own 2)), (.slice (Rw Blk.cells []) (.own 3)), (.int .i64 0), (.int .i64 0)], .front 0 0, .front 0 0, .cells [(.slice (Rw (ci .i64) r.2.2.slots) .no), (.int .i64 r.2.2.most), (.bool r.2.2.bad)], FRs 5 (List.length r.2.1)] : Heap)) := by
  simp +contextual -implicitDefEqProofs (maxSteps := 2000000) [-acond_bool, -guardSel_true, -guardSel_false, -aindexSl_map, -aload_vptr, -aload_vptrT, -astore_vptr, m49_b0, t49_b0, r49_l3, r49_j4, bs49_6]
noncomputable def m49_l7 (K : CallO) (m : Nat) (s : List AVal × Heap) : Option R :=
  (fun x2v53 x4v54 x5v55 x7v56 x8v57 x31v58 x32v59 x33v60 h61 => bo .lss x33v60 x32v59 fun t62 => acond t62 ((m49_b0 K x31v58 x33v60 h61 x2v53 x4v54 x5v55 x7v56 x8v57 x32v59).bind fun r173 => (fun x2v174 x4v175 x5v176 x7v177 x8v178 x31v179 x32v180 x33v181 h182 => Ex.inBlock 1 r173.1 (bo .add x33v181 (.int .i64 1) fun t184 => endR m .normal [x2v174, x4v175, x5v176, x7v177, x8v178, x31v179, x32v180, t184] h182) (fun e183 => endR m e183 [x2v174, x4v175, x5v176, x7v177, x8v178, x31v179, x32v180, x33v181] h182)) (gd r173.2.1 0) (gd r173.2.1 1) (gd r173.2.1 2) (gd r173.2.1 3) (gd r173.2.1 4) (gd r173.2.1 5) (gd r173.2.1 6) (gd r173.2.1 7) r173.2.2) (endR m (.exit 0) [x2v53, x4v54, x5v55, x7v56, x8v57, x31v58, x32v59, x33v60] h61)) (gd s.1 0) (gd s.1 1) (gd s.1 2) (gd s.1 3) (gd s.1 4) (gd s.1 5) (gd s.1 6) (gd s.1 7) s.2
noncomputable def t49_l7 (p0 : IR) (w51 : Int) (s52 : (List Blk) × Int × Renamer) : Option (Ey × (List Blk) × Int × Renamer) :=
  tc (decide (s52.2.1 < w51)) (tb (t49_b0 p0 s52.2.1 s52.2.2.slots s52.2.2.most s52.2.2.bad s52.1) fun r173 => ibT 1 r173.1 (some (.n, (r173.2.1, (IntKind.wrap .i64 (s52.2.1 + 1)), r173.2.2))) fun e183 => some (e183, (r173.2.1, s52.2.1, r173.2.2))) (some ((.x 0), (s52.1, s52.2.1, s52.2.2)))
theorem b49_l7 (p0 : IR) (w51 : Int) (s52 : (List Blk) × Int × Renamer) : m49_l7 KK 6 ([(.ptr 0 0), (.ptr 1 0), (.int .i64 0), (.ptr 4 0), (.slice (Rw Blk.cells s52.1) (.own 5)), (.slice (Rw Blk.cells p0.blocks) .no), (.int .i64 w51), (.int .i64 s52.2.1)], ([.cells [(.int .i64 p0.temps), (.slice (Rw Arr.cells p0.arrays) .no), (.slice (Rw Blk.cells p0.blocks) .no), (.int .i64 p0.inn), (.int .i64 p0.out)], .cells [(.int .i64 0), (.slice (Rw Arr.cells []) (.own 2)), (.slice (Rw Blk.cells []) (.own 3)), (.int .i64 0), (.int .i64 0)], .front 0 0, .front 0 0, .cells [(.slice (Rw (ci .i64) s52.2.2.slots) .no), (.int .i64 s52.2.2.most), (.bool s52.2.2.bad)], FRs 5 (List.length s52.1)] : Heap)) = tm (t49_l7 p0 w51 s52) fun r => (r.1.ex, [(.ptr 0 0), (.ptr 1 0), (.int .i64 0), (.ptr 4 0), (.slice (Rw Blk.cells r.2.1) (.own 5)), (.slice (Rw Blk.cells p0.blocks) .no), (.int .i64 w51), (.int .i64 r.2.2.1)], ([.cells [(.int .i64 p0.temps), (.slice (Rw Arr.cells p0.arrays) .no), (.slice (Rw Blk.cells p0.blocks) .no), (.int .i64 p0.inn), (.int .i64 p0.out)], .cells [(.int .i64 0), (.slice (Rw Arr.cells []) (.own 2)), (.slice (Rw Blk.cells []) (.own 3)), (.int .i64 0), (.int .i64 0)], .front 0 0, .front 0 0, .cells [(.slice (Rw (ci .i64) r.2.2.2.slots) .no), (.int .i64 r.2.2.2.most), (.bool r.2.2.2.bad)], FRs 5 (List.length r.2.1)] : Heap)) := by
  simp +contextual -implicitDefEqProofs (maxSteps := 2000000) [-acond_bool, -guardSel_true, -guardSel_false, -aindexSl_map, -aload_vptr, -aload_vptrT, -astore_vptr, m49_l7, t49_l7, r49_b0]
theorem r49_l7 (p0 : IR) (w51 : Int) (r39 : (List Int)) (i4 : Int) : lpW (m49_l7 KK 6) ([(.ptr 0 0), (.ptr 1 0), (.int .i64 0), (.ptr 4 0), (.slice (Rw Blk.cells []) (.own 5)), (.slice (Rw Blk.cells p0.blocks) .no), (.int .i64 w51), (.int .i64 i4)], ([.cells [(.int .i64 p0.temps), (.slice (Rw Arr.cells p0.arrays) .no), (.slice (Rw Blk.cells p0.blocks) .no), (.int .i64 p0.inn), (.int .i64 p0.out)], .cells [(.int .i64 0), (.slice (Rw Arr.cells []) (.own 2)), (.slice (Rw Blk.cells []) (.own 3)), (.int .i64 0), (.int .i64 0)], .front 0 0, .front 0 0, .cells [(.slice (Rw (ci .i64) r39) .no), (.int .i64 0), (.bool false)], .front 0 0] : Heap)) = tm (lpT (t49_l7 p0 w51) ([], i4, (⟨r39, 0, false⟩ : Renamer))) fun r => (r.1.ex, [(.ptr 0 0), (.ptr 1 0), (.int .i64 0), (.ptr 4 0), (.slice (Rw Blk.cells r.2.1) (.own 5)), (.slice (Rw Blk.cells p0.blocks) .no), (.int .i64 w51), (.int .i64 r.2.2.1)], ([.cells [(.int .i64 p0.temps), (.slice (Rw Arr.cells p0.arrays) .no), (.slice (Rw Blk.cells p0.blocks) .no), (.int .i64 p0.inn), (.int .i64 p0.out)], .cells [(.int .i64 0), (.slice (Rw Arr.cells []) (.own 2)), (.slice (Rw Blk.cells []) (.own 3)), (.int .i64 0), (.int .i64 0)], .front 0 0, .front 0 0, .cells [(.slice (Rw (ci .i64) r.2.2.2.slots) .no), (.int .i64 r.2.2.2.most), (.bool r.2.2.2.bad)], FRs 5 (List.length r.2.1)] : Heap)) := by
  exact lpW_t (enc := fun s52 => ([(.ptr 0 0), (.ptr 1 0), (.int .i64 0), (.ptr 4 0), (.slice (Rw Blk.cells s52.1) (.own 5)), (.slice (Rw Blk.cells p0.blocks) .no), (.int .i64 w51), (.int .i64 s52.2.1)], ([.cells [(.int .i64 p0.temps), (.slice (Rw Arr.cells p0.arrays) .no), (.slice (Rw Blk.cells p0.blocks) .no), (.int .i64 p0.inn), (.int .i64 p0.out)], .cells [(.int .i64 0), (.slice (Rw Arr.cells []) (.own 2)), (.slice (Rw Blk.cells []) (.own 3)), (.int .i64 0), (.int .i64 0)], .front 0 0, .front 0 0, .cells [(.slice (Rw (ci .i64) s52.2.2.slots) .no), (.int .i64 s52.2.2.most), (.bool s52.2.2.bad)], FRs 5 (List.length s52.1)] : Heap))) (fun s52 => b49_l7 p0 w51 s52) ([], i4, (⟨r39, 0, false⟩ : Renamer))
noncomputable def m49 (K : CallO) (a0 a1 : AVal) (h0 : Heap) : Option (Res × Heap) :=
  (bindVH (anew 5 h0 a0) fun t20 h21 => bindVH (anew 5 h21 (.agg [(.int .i64 0), (.slice (Rw Arr.cells []) .nil), (.slice (Rw Blk.cells []) .nil), (.int .i64 0), (.int .i64 0)])) fun t22 h23 => ld true 5 h23 t20 fun t24 => ca (K 30 [(AVal.untok t24)] h23) fun t25 h26 => bo .neq t25 (.int .i64 0) fun t28 => acond t28 ((abuild [(.int .i64 0), (.slice (Rw Arr.cells []) .nil), (.slice (Rw Blk.cells []) .nil), (.int .i64 0), (.int .i64 0)] [(0, 1), (1, 1), (2, 1), (3, 1), (4, 1)] []).bind fun t29 => (astore 5 h26 t22 t29).bind fun h30 => some (.ret, [t22, t25], h30)) (ln a1 fun t31 => fa 0 t20 fun t32 => ld false 1 h26 t32 fun t33 => bo .neq t31 t33 fun t34 => acond t34 ((abuild [(.int .i64 0), (.slice (Rw Arr.cells []) .nil), (.slice (Rw Blk.cells []) .nil), (.int .i64 0), (.int .i64 0)] [(0, 1), (1, 1), (2, 1), (3, 1), (4, 1)] []).bind fun t35 => (astore 5 h26 t22 t35).bind fun h36 => some (.ret, [t22, (.int .i64 2)], h36)) (ca (K 97 [(AVal.untok a1)] h26) fun t37 h38 => (abuild [(.slice (Rw (ci .i64) []) .nil), (.int .i64 0), (.bool false)] [(0, 1), (1, 1), (2, 1)] [(0, t37)]).bind fun t40 => bindVH (anew 3 h38 t40) fun t41 h42 => (fun (t44 : AVal) (h43 : Heap) => fa 2 t20 fun t45 => ld false 1 h43 t45 fun t46 => ln t46 fun t47 => (lpW (m49_l7 K (List.length h43)) ([t20, t22, (.int .i64 0), t41, t44, t46, t47, (.int .i64 0)], h43)).bind fun r185 => (fun x2v187 x4v188 x5v189 x7v190 x8v191 x31v192 x32v193 x33v194 h195 => Ex.thenDo r185.1 none (fun e186 => Ex.inBlock 0 e186 ((anilCheck x7v190).bind fun t197 => fa 2 t197 fun t198 => ld false 1 h195 t198 fun t199 => acond t199 ((abuild [(.int .i64 0), (.slice (Rw Arr.cells []) .nil), (.slice (Rw Blk.cells []) .nil), (.int .i64 0), (.int .i64 0)] [(0, 1), (1, 1), (2, 1), (3, 1), (4, 1)] []).bind fun t200 => (astore 5 h195 x4v188 t200).bind fun h201 => some (.ret, [x4v188, (.int .i64 2)], h201)) ((anilCheck x7v190).bind fun t202 => fa 1 t202 fun t203 => ld false 1 h195 t203 fun t204 => fa 2 x2v187 fun t205 => (astore 1 (hide (lockIds [0] [t203]) h195) t205 x8v191).bind fun h206 => fa 0 x2v187 fun t207 => (astore 1 (unhide (lockIds [0] [t203]) h195 h206) t207 t204).bind fun h208 => fa 1 x2v187 fun t209 => ld false 1 h208 t209 fun t210 => bindVH (aappend 4 32 h208 (.slice (Rw Arr.cells []) .nil) t210) fun t211 h212 => fa 1 x2v187 fun t214 => (astore 1 h212 t214 t211).bind fun h215 => ld true 5 h215 x2v187 fun t216 => (astore 5 h215 x4v188 t216).bind fun h217 => some (.ret, [x4v188, (.int .i64 0)], h217))) (fun e196 => some (e196, [x4v188, x5v189], h195)))) (gd r185.2.1 0) (gd r185.2.1 1) (gd r185.2.1 2) (gd r185.2.1 3) (gd r185.2.1 4) (gd r185.2.1 5) (gd r185.2.1 6) (gd r185.2.1 7) r185.2.2) (.slice (Rw Blk.cells []) (.own (List.length h42))) (h42 ++ [.front 0 0])))).bind (m49_k (List.length h0))
theorem m49_eq (K : CallO) (a0 a1 : AVal) (h0 : Heap) : evB Tryd.prog ann lpW K 49 [a0, a1] h0 = m49 (callP ann K) a0 a1 h0 := by kernel_rfl
noncomputable def t49 (p0 : IR) (p1 : (List Int)) : Option (IR × Int) :=
  tb ((t30 p0)) fun r27 => tc (!decide (r27 = 0)) (some ((⟨0, [], [], 0, 0⟩ : IR), r27)) (tc (!decide (((List.length p1 : Nat) : Int) = p0.temps)) (some ((⟨0, [], [], 0, 0⟩ : IR), 2)) (tb ((t97 p1)) fun r39 => tb (lpT (t49_l7 p0 ((List.length p0.blocks : Nat) : Int)) ([], 0, (⟨r39, 0, false⟩ : Renamer))) fun r185 => exT r185.1 none fun e186 => ibT 0 e186 (tc r185.2.2.2.bad (some ((⟨0, [], [], 0, 0⟩ : IR), 2)) (tc (List.isEmpty p0.arrays) (some ((⟨r185.2.2.2.most, [], r185.2.1, p0.inn, p0.out⟩ : IR), 0)) (tb ((tapp 32 [] p0.arrays)) fun l213 => some ((⟨r185.2.2.2.most, l213, r185.2.1, p0.inn, p0.out⟩ : IR), 0)))) fun e196 => efT e196 (some ((⟨0, [], [], 0, 0⟩ : IR), 0))))
theorem b49 (p0 : IR) (p1 : (List Int)) : m49 KK (.agg [(.int .i64 p0.temps), (.slice (Rw Arr.cells p0.arrays) .no), (.slice (Rw Blk.cells p0.blocks) .no), (.int .i64 p0.inn), (.int .i64 p0.out)]) (.slice (Rw (ci .i64) p1) .no) [] = tm (t49 p0 p1) fun r => (.ret (.tuple [(.agg [(.int .i64 r.1.temps), (.slice (Rw Arr.cells r.1.arrays) .no), (.slice (Rw Blk.cells r.1.blocks) .no), (.int .i64 r.1.inn), (.int .i64 r.1.out)]), (.int .i64 r.2)]), []) := by
  simp +contextual -implicitDefEqProofs (maxSteps := 2000000) [-acond_bool, -guardSel_true, -guardSel_false, -aindexSl_map, -aload_vptr, -aload_vptrT, -astore_vptr, m49, t49, r30, r97, r49_l7, m49_k]
theorem r49 (p0 : IR) (p1 : (List Int)) (h : Heap) : KK 49 [(.agg [(.int .i64 p0.temps), (.slice (Rw Arr.cells p0.arrays) .no), (.slice (Rw Blk.cells p0.blocks) .no), (.int .i64 p0.inn), (.int .i64 p0.out)]), (.slice (Rw (ci .i64) p1) .no)] h = tm (t49 p0 p1) fun r => (.ret (.tuple [(.agg [(.int .i64 r.1.temps), (.slice (Rw Arr.cells r.1.arrays) .no), (.slice (Rw Blk.cells r.1.blocks) .no), (.int .i64 r.1.inn), (.int .i64 r.1.out)]), (.int .i64 r.2)]), h) := call_t rfl rfl (m49_eq ..) (b49 p0 p1)
end Go.Proofs.YtkeoalhglkfbkaaDoor

/-
  Typed forms. No conditions.
-/
namespace Go.Proofs.YtkeoalhglkfbkaaDoor
open Go Hk
/- hauberk/hauberkref25.Apply -/
noncomputable def m50_k (mm : Nat) (r432 : R) : Option (Res × Heap) :=
  (fun x4v433 x5v434 h435 => Ex.endF r432.1 ((aload true 5 h435 x4v433).bind fun t436 => finR mm (.tuple [t436, x5v434]) h435)) (gd r432.2.1 0) (gd r432.2.1 1) r432.2.2
theorem bs50_2 (y0 : Int) (y1 : Int) (y2 : Int) (h : Heap) : abuildSlice 3 1 [(.int .i64 0)] [(0, (.int .i64 y0)), (1, (.int .i64 y1)), (2, (.int .i64 y2))] h = some (.slice (Rw (ci .i64) [y0, y1, y2]) (.own h.length), h ++ [FRs 1 3]) := by
  rfl
theorem sv50_5 (y0 : Int) (h : Heap) (id tot j : Nat) (xs : List Int) : vst 1 id h (some (Vc (ci .i64) 1 xs)) tot j (.int .i64 y0) = tb (tvg tot xs j) fun x => tm (tvs tot xs j y0) fun zs => h.set id (Vc (ci .i64) 1 zs) := vst_E1 (enc := (ci .i64)) y0 (fun _ => rfl) rfl rfl
theorem sv50_7 (y0 : Int) (h : Heap) (id tot j : Nat) (xs : List Int) : vst 1 id h (some (Vc (ci .i64) 1 xs)) tot j (.int .i64 y0) = tb (tvg tot xs j) fun x => tm (tvs tot xs j y0) fun zs => h.set id (Vc (ci .i64) 1 zs) := vst_E1 (enc := (ci .i64)) y0 (fun _ => rfl) rfl rfl
noncomputable def m50_s6 (K : CallO) (m : Nat) (t169 : AVal) (h168 : Heap) (x4v113 : AVal) (x1v111 : AVal) (x2v112 : AVal) (x7v115 : AVal) (x8v116 : AVal) (x9v117 : AVal) (x10v118 : AVal) (x11v119 : AVal) (x12v120 : AVal) (x13v121 : AVal) (x14v122 : AVal) (x15v123 : AVal) (x5v114 : AVal) : Option R :=
  acond t169 ((abuild [(.int .i64 0), (.slice (Rw Arr.cells []) .nil), (.slice (Rw Blk.cells []) .nil), (.int .i64 0), (.int .i64 0)] [(0, 1), (1, 1), (2, 1), (3, 1), (4, 1)] []).bind fun t173 => (astore 5 h168 x4v113 t173).bind fun h174 => endR m .ret [x1v111, x2v112, x4v113, (.int .i64 2), x7v115, x8v116, x9v117, x10v118, x11v119, x12v120, x13v121, x14v122, x15v123] h174) (ix 1 x14v122 x15v123 fun t175 => ld false 1 h168 t175 fun t177 => bo .add t177 (.int .i64 1) fun t179 => (amax2 x7v115 t179).bind fun t180 => endR m .normal [x1v111, x2v112, x4v113, x5v114, t180, x8v116, x9v117, x10v118, x11v119, x12v120, x13v121, x14v122, x15v123] h168)
noncomputable def t50_s6 (w172 : Bool) (l148 : (List Int)) (w127 : Int) (l109 : (List Int)) (w128 : Int) (w126 : Int) : Option (Ey × Int × Int × (List Int)) :=
  tc w172 (some (.r, (2, w127, l148))) (tb ((tin (List.length l109) w128)) fun j176 => tb ((tvg (List.length l109) l148 j176)) fun u178 => some (.n, (w126, (max w127 (IntKind.wrap .i64 (u178 + 1))), l148)))
theorem r50_s6 (w172 : Bool) (p0 : IR) (w57 : (List Blk)) (u64 : Blk) (w89 : (List Op)) (u96 : Op) (l148 : (List Int)) (p1 : (List Int)) (w127 : Int) (w58 : Int) (w90 : Int) (l109 : (List Int)) (w128 : Int) (w126 : Int) : (m50_s6 KK 11 (.bool w172) ([.cells [(.int .i64 p0.temps), (.slice (Rw Arr.cells p0.arrays) .no), (.slice (Rw Blk.cells p0.blocks) .no), (.int .i64 p0.inn), (.int .i64 p0.out)], .cells [(.int .i64 0), (.slice (Rw Arr.cells []) (.own 2)), (.slice (Rw Blk.cells []) (.own 3)), (.int .i64 0), (.int .i64 0)], .front 0 0, .front 0 0, FRs 5 (List.length w57), .cells [(.slice (Rw Op.cells u64.ops) .no), (.int .i64 u64.term.kind), (.int .i64 u64.term.a), (.int .i64 u64.term.yes), (.int .i64 u64.term.no)], .front 0 0, FRs 6 (List.length w89), .cells [(.int .i64 u96.kind), (.int .i64 u96.dst), (.int .i64 u96.a), (.int .i64 u96.b), (.int .i64 u96.c), (.int .i64 u96.imm)], Vc (ci .i64) 1 l148, FRs 1 3] : Heap) (.ptr 1 0) (.slice (Rw (ci .i64) p1) .no) (.ptr 0 0) (.int .i64 w127) (.slice (Rw Blk.cells w57) (.own 4)) (.int .i64 w58) (.ptr 5 0) (.slice (Rw Op.cells w89) (.own 7)) (.int .i64 w90) (.ptr 8 0) (.vslice 9 (List.length l109) 0 (List.length l109) 1) (.int .i64 w128) (.int .i64 w126)) = tm (t50_s6 w172 l148 w127 l109 w128 w126) fun r => (r.1.ex, [(.slice (Rw (ci .i64) p1) .no), (.ptr 0 0), (.ptr 1 0), (.int .i64 r.2.1), (.int .i64 r.2.2.1), (.slice (Rw Blk.cells w57) (.own 4)), (.int .i64 w58), (.ptr 5 0), (.slice (Rw Op.cells w89) (.own 7)), (.int .i64 w90), (.ptr 8 0), (.vslice 9 (List.length l109) 0 (List.length l109) 1), (.int .i64 w128)], ([.cells [(.int .i64 p0.temps), (.slice (Rw Arr.cells p0.arrays) .no), (.slice (Rw Blk.cells p0.blocks) .no), (.int .i64 p0.inn), (.int .i64 p0.out)], .cells [(.int .i64 0), (.slice (Rw Arr.cells []) (.own 2)), (.slice (Rw Blk.cells []) (.own 3)), (.int .i64 0), (.int .i64 0)], .front 0 0, .front 0 0, FRs 5 (List.length w57), .cells [(.slice (Rw Op.cells u64.ops) .no), (.int .i64 u64.term.kind), (.int .i64 u64.term.a), (.int .i64 u64.term.yes), (.int .i64 u64.term.no)], .front 0 0, FRs 6 (List.length w89), .cells [(.int .i64 u96.kind), (.int .i64 u96.dst), (.int .i64 u96.a), (.int .i64 u96.b), (.int .i64 u96.c), (.int .i64 u96.imm)], Vc (ci .i64) 1 r.2.2.2, FRs 1 3] : Heap)) := by
  simp +contextual -implicitDefEqProofs (maxSteps := 2000000) [-acond_bool, -guardSel_true, -guardSel_false, -aindexSl_map, -aload_vptr, -aload_vptrT, -astore_vptr, m50_s6, t50_s6, sv50_5, sv50_7]
noncomputable def m50_j4 (K : CallO) (m : Nat) (t135 : AVal) (x14v122 : AVal) (x15v123 : AVal) (h124 : Heap) (x1v111 : AVal) (x4v113 : AVal) (x2v112 : AVal) (x7v115 : AVal) (x8v116 : AVal) (x9v117 : AVal) (x10v118 : AVal) (x11v119 : AVal) (x12v120 : AVal) (x13v121 : AVal) (x5v114 : AVal) : Option R :=
  acond t135 (ix 1 x14v122 x15v123 fun t137 => ld false 1 h124 t137 fun t139 => ix 1 x1v111 t139 fun t141 => ld false 1 h124 t141 fun t143 => ix 1 x14v122 x15v123 fun t144 => (astore 1 h124 t144 t143).bind fun h146 => ix 1 x14v122 x15v123 fun t149 => ld false 1 h146 t149 fun t151 => bo .lss t151 (.int .i64 0) fun t153 => gS false t153 (kv0 x14v122 h146) h146 fun t154 h155 => gS false t153 (kv0 x15v123 h155) h155 fun t156 h157 => gS false t153 (ix 1 t154 t156 fun t158 => kv0 t158 h157) h157 fun t160 h161 => gS false t153 (ld false 1 h161 t160 fun t162 => kv0 t162 h161) h161 fun t164 h165 => gS false t153 (bo .geq t164 (.int .i64 1048576) fun t166 => kv0 t166 h165) h165 fun t167 h168 => (apick t153 (.bool true) t167).bind fun t169 => m50_s6 K m t169 h168 x4v113 x1v111 x2v112 x7v115 x8v116 x9v117 x10v118 x11v119 x12v120 x13v121 x14v122 x15v123 x5v114) (ix 1 x14v122 x15v123 fun t181 => (astore 1 h124 t181 (.int .i64 0)).bind fun h183 => endR m .normal [x1v111, x2v112, x4v113, x5v114, x7v115, x8v116, x9v117, x10v118, x11v119, x12v120, x13v121, x14v122, x15v123] h183)
noncomputable def t50_j4 (w136 : Bool) (l109 : (List Int)) (w128 : Int) (w130 : (List Int)) (p1 : (List Int)) (w127 : Int) (w126 : Int) : Option (Ey × Int × Int × (List Int)) :=
  tc w136 (tb ((tin (List.length l109) w128)) fun j138 => tb ((tvg (List.length l109) w130 j138)) fun u140 => tb ((tidx p1 u140)) fun u142 => tb ((tin (List.length l109) w128)) fun j145 => tb ((tvg (List.length l109) w130 j145)) fun u147 => tb ((tvs (List.length l109) w130 j145 u142)) fun l148 => tb ((tin (List.length l109) w128)) fun j150 => tb ((tvg (List.length l109) l148 j150)) fun u152 => tc (decide (u152 < 0)) (t50_s6 true l148 w127 l109 w128 w126) (tb ((tin (List.length l109) w128)) fun j159 => tb ((tvg (List.length l109) l148 j159)) fun u163 => t50_s6 (decide (1048576 ≤ u163)) l148 w127 l109 w128 w126)) (tb ((tin (List.length l109) w128)) fun j182 => tb ((tvg (List.length l109) w130 j182)) fun u184 => tb ((tvs (List.length l109) w130 j182 0)) fun l185 => some (.n, (w126, w127, l185)))
theorem r50_j4 (w136 : Bool) (l109 : (List Int)) (w128 : Int) (p0 : IR) (w57 : (List Blk)) (u64 : Blk) (w89 : (List Op)) (u96 : Op) (w130 : (List Int)) (p1 : (List Int)) (w127 : Int) (w58 : Int) (w90 : Int) (w126 : Int) : (m50_j4 KK 11 (.bool w136) (.vslice 9 (List.length l109) 0 (List.length l109) 1) (.int .i64 w128) ([.cells [(.int .i64 p0.temps), (.slice (Rw Arr.cells p0.arrays) .no), (.slice (Rw Blk.cells p0.blocks) .no), (.int .i64 p0.inn), (.int .i64 p0.out)], .cells [(.int .i64 0), (.slice (Rw Arr.cells []) (.own 2)), (.slice (Rw Blk.cells []) (.own 3)), (.int .i64 0), (.int .i64 0)], .front 0 0, .front 0 0, FRs 5 (List.length w57), .cells [(.slice (Rw Op.cells u64.ops) .no), (.int .i64 u64.term.kind), (.int .i64 u64.term.a), (.int .i64 u64.term.yes), (.int .i64 u64.term.no)], .front 0 0, FRs 6 (List.length w89), .cells [(.int .i64 u96.kind), (.int .i64 u96.dst), (.int .i64 u96.a), (.int .i64 u96.b), (.int .i64 u96.c), (.int .i64 u96.imm)], Vc (ci .i64) 1 w130, FRs 1 3] : Heap) (.slice (Rw (ci .i64) p1) .no) (.ptr 1 0) (.ptr 0 0) (.int .i64 w127) (.slice (Rw Blk.cells w57) (.own 4)) (.int .i64 w58) (.ptr 5 0) (.slice (Rw Op.cells w89) (.own 7)) (.int .i64 w90) (.ptr 8 0) (.int .i64 w126)) = tm (t50_j4 w136 l109 w128 w130 p1 w127 w126) fun r => (r.1.ex, [(.slice (Rw (ci .i64) p1) .no), (.ptr 0 0), (.ptr 1 0), (.int .i64 r.2.1), (.int .i64 r.2.2.1), (.slice (Rw Blk.cells w57) (.own 4)), (.int .i64 w58), (.ptr 5 0), (.slice (Rw Op.cells w89) (.own 7)), (.int .i64 w90), (.ptr 8 0), (.vslice 9 (List.length l109) 0 (List.length l109) 1), (.int .i64 w128)], ([.cells [(.int .i64 p0.temps), (.slice (Rw Arr.cells p0.arrays) .no), (.slice (Rw Blk.cells p0.blocks) .no), (.int .i64 p0.inn), (.int .i64 p0.out)], .cells [(.int .i64 0), (.slice (Rw Arr.cells []) (.own 2)), (.slice (Rw Blk.cells []) (.own 3)), (.int .i64 0), (.int .i64 0)], .front 0 0, .front 0 0, FRs 5 (List.length w57), .cells [(.slice (Rw Op.cells u64.ops) .no), (.int .i64 u64.term.kind), (.int .i64 u64.term.a), (.int .i64 u64.term.yes), (.int .i64 u64.term.no)], .front 0 0, FRs 6 (List.length w89), .cells [(.int .i64 u96.kind), (.int .i64 u96.dst), (.int .i64 u96.a), (.int .i64 u96.b), (.int .i64 u96.c), (.int .i64 u96.imm)], Vc (ci .i64) 1 r.2.2.2, FRs 1 3] : Heap)) := by
  simp +contextual -implicitDefEqProofs (maxSteps := 2000000) [-acond_bool, -guardSel_true, -guardSel_false, -aindexSl_map, -aload_vptr, -aload_vptrT, -astore_vptr, m50_j4, t50_j4, sv50_5, sv50_7, r50_s6]
noncomputable def m50_b3 (K : CallO) (m : Nat) (x14v122 : AVal) (x15v123 : AVal) (h124 : Heap) (x1v111 : AVal) (x4v113 : AVal) (x2v112 : AVal) (x7v115 : AVal) (x8v116 : AVal) (x9v117 : AVal) (x10v118 : AVal) (x11v119 : AVal) (x12v120 : AVal) (x13v121 : AVal) (x5v114 : AVal) : Option R :=
  ix 1 x14v122 x15v123 fun t131 => ld false 1 h124 t131 fun t133 => bo .geq t133 (.int .i64 0) fun t135 => (m50_j4 K (List.length h124) t135 x14v122 x15v123 h124 x1v111 x4v113 x2v112 x7v115 x8v116 x9v117 x10v118 x11v119 x12v120 x13v121 x5v114).bind fun r186 => (fun x1v187 x2v188 x4v189 x5v190 x7v191 x8v192 x9v193 x10v194 x11v195 x12v196 x13v197 x14v198 x15v199 h200 => Ex.thenDo r186.1 (endR m .normal [x1v187, x2v188, x4v189, x5v190, x7v191, x8v192, x9v193, x10v194, x11v195, x12v196, x13v197, x14v198, x15v199] h200) (fun e201 => endR m e201 [x1v187, x2v188, x4v189, x5v190, x7v191, x8v192, x9v193, x10v194, x11v195, x12v196, x13v197, x14v198, x15v199] h200)) (gd r186.2.1 0) (gd r186.2.1 1) (gd r186.2.1 2) (gd r186.2.1 3) (gd r186.2.1 4) (gd r186.2.1 5) (gd r186.2.1 6) (gd r186.2.1 7) (gd r186.2.1 8) (gd r186.2.1 9) (gd r186.2.1 10) (gd r186.2.1 11) (gd r186.2.1 12) r186.2.2
noncomputable def t50_b3 (l109 : (List Int)) (w128 : Int) (w130 : (List Int)) (p1 : (List Int)) (w127 : Int) (w126 : Int) : Option (Ey × Int × Int × (List Int)) :=
  tb ((tin (List.length l109) w128)) fun j132 => tb ((tvg (List.length l109) w130 j132)) fun u134 => tb (t50_j4 (decide (0 ≤ u134)) l109 w128 w130 p1 w127 w126) fun r186 => exT r186.1 (some (.n, (r186.2.1, r186.2.2.1, r186.2.2.2))) fun e201 => some (e201, (r186.2.1, r186.2.2.1, r186.2.2.2))
theorem r50_b3 (l109 : (List Int)) (w128 : Int) (p0 : IR) (w57 : (List Blk)) (u64 : Blk) (w89 : (List Op)) (u96 : Op) (w130 : (List Int)) (p1 : (List Int)) (w127 : Int) (w58 : Int) (w90 : Int) (w126 : Int) : (m50_b3 KK 11 (.vslice 9 (List.length l109) 0 (List.length l109) 1) (.int .i64 w128) ([.cells [(.int .i64 p0.temps), (.slice (Rw Arr.cells p0.arrays) .no), (.slice (Rw Blk.cells p0.blocks) .no), (.int .i64 p0.inn), (.int .i64 p0.out)], .cells [(.int .i64 0), (.slice (Rw Arr.cells []) (.own 2)), (.slice (Rw Blk.cells []) (.own 3)), (.int .i64 0), (.int .i64 0)], .front 0 0, .front 0 0, FRs 5 (List.length w57), .cells [(.slice (Rw Op.cells u64.ops) .no), (.int .i64 u64.term.kind), (.int .i64 u64.term.a), (.int .i64 u64.term.yes), (.int .i64 u64.term.no)], .front 0 0, FRs 6 (List.length w89), .cells [(.int .i64 u96.kind), (.int .i64 u96.dst), (.int .i64 u96.a), (.int .i64 u96.b), (.int .i64 u96.c), (.int .i64 u96.imm)], Vc (ci .i64) 1 w130, FRs 1 3] : Heap) (.slice (Rw (ci .i64) p1) .no) (.ptr 1 0) (.ptr 0 0) (.int .i64 w127) (.slice (Rw Blk.cells w57) (.own 4)) (.int .i64 w58) (.ptr 5 0) (.slice (Rw Op.cells w89) (.own 7)) (.int .i64 w90) (.ptr 8 0) (.int .i64 w126)) = tm (t50_b3 l109 w128 w130 p1 w127 w126) fun r => (r.1.ex, [(.slice (Rw (ci .i64) p1) .no), (.ptr 0 0), (.ptr 1 0), (.int .i64 r.2.1), (.int .i64 r.2.2.1), (.slice (Rw Blk.cells w57) (.own 4)), (.int .i64 w58), (.ptr 5 0), (.slice (Rw Op.cells w89) (.own 7)), (.int .i64 w90), (.ptr 8 0), (.vslice 9 (List.length l109) 0 (List.length l109) 1), (.int .i64 w128)], ([.cells [(.int .i64 p0.temps), (.slice (Rw Arr.cells p0.arrays) .no), (.slice (Rw Blk.cells p0.blocks) .no), (.int .i64 p0.inn), (.int .i64 p0.out)], .cells [(.int .i64 0), (.slice (Rw Arr.cells []) (.own 2)), (.slice (Rw Blk.cells []) (.own 3)), (.int .i64 0), (.int .i64 0)], .front 0 0, .front 0 0, FRs 5 (List.length w57), .cells [(.slice (Rw Op.cells u64.ops) .no), (.int .i64 u64.term.kind), (.int .i64 u64.term.a), (.int .i64 u64.term.yes), (.int .i64 u64.term.no)], .front 0 0, FRs 6 (List.length w89), .cells [(.int .i64 u96.kind), (.int .i64 u96.dst), (.int .i64 u96.a), (.int .i64 u96.b), (.int .i64 u96.c), (.int .i64 u96.imm)], Vc (ci .i64) 1 r.2.2.2, FRs 1 3] : Heap)) := by
  simp +contextual -implicitDefEqProofs (maxSteps := 2000000) [-acond_bool, -guardSel_true, -guardSel_false, -aindexSl_map, -aload_vptr, -aload_vptrT, -astore_vptr, m50_b3, t50_b3, r50_j4]
noncomputable def m50_l8 (K : CallO) (m : Nat) (s : List AVal × Heap) : Option R :=
  (fun x1v111 x2v112 x4v113 x5v114 x7v115 x8v116 x9v117 x10v118 x11v119 x12v120 x13v121 x14v122 x15v123 h124 => bo .lss x15v123 (.int .i64 3) fun t125 => acond t125 ((m50_b3 K (List.length h124) x14v122 x15v123 h124 x1v111 x4v113 x2v112 x7v115 x8v116 x9v117 x10v118 x11v119 x12v120 x13v121 x5v114).bind fun r202 => (fun x1v203 x2v204 x4v205 x5v206 x7v207 x8v208 x9v209 x10v210 x11v211 x12v212 x13v213 x14v214 x15v215 h216 => Ex.inBlock 5 r202.1 (bo .add x15v215 (.int .i64 1) fun t218 => endR m .normal [x1v203, x2v204, x4v205, x5v206, x7v207, x8v208, x9v209, x10v210, x11v211, x12v212, x13v213, x14v214, t218] h216) (fun e217 => endR m e217 [x1v203, x2v204, x4v205, x5v206, x7v207, x8v208, x9v209, x10v210, x11v211, x12v212, x13v213, x14v214, x15v215] h216)) (gd r202.2.1 0) (gd r202.2.1 1) (gd r202.2.1 2) (gd r202.2.1 3) (gd r202.2.1 4) (gd r202.2.1 5) (gd r202.2.1 6) (gd r202.2.1 7) (gd r202.2.1 8) (gd r202.2.1 9) (gd r202.2.1 10) (gd r202.2.1 11) (gd r202.2.1 12) r202.2.2) (endR m (.exit 4) [x1v111, x2v112, x4v113, x5v114, x7v115, x8v116, x9v117, x10v118, x11v119, x12v120, x13v121, x14v122, x15v123] h124)) (gd s.1 0) (gd s.1 1) (gd s.1 2) (gd s.1 3) (gd s.1 4) (gd s.1 5) (gd s.1 6) (gd s.1 7) (gd s.1 8) (gd s.1 9) (gd s.1 10) (gd s.1 11) (gd s.1 12) s.2
noncomputable def t50_l8 (p1 : (List Int)) (l109 : (List Int)) (s110 : Int × Int × Int × (List Int)) : Option (Ey × Int × Int × Int × (List Int)) :=
  tc (decide (s110.2.2.1 < 3)) (tb (t50_b3 l109 s110.2.2.1 s110.2.2.2 p1 s110.2.1 s110.1) fun r202 => ibT 5 r202.1 (some (.n, (r202.2.1, r202.2.2.1, (IntKind.wrap .i64 (s110.2.2.1 + 1)), r202.2.2.2))) fun e217 => some (e217, (r202.2.1, r202.2.2.1, s110.2.2.1, r202.2.2.2))) (some ((.x 4), (s110.1, s110.2.1, s110.2.2.1, s110.2.2.2)))
theorem b50_l8 (p1 : (List Int)) (w57 : (List Blk)) (w58 : Int) (w89 : (List Op)) (w90 : Int) (l109 : (List Int)) (p0 : IR) (u64 : Blk) (u96 : Op) (s110 : Int × Int × Int × (List Int)) : m50_l8 KK 11 ([(.slice (Rw (ci .i64) p1) .no), (.ptr 0 0), (.ptr 1 0), (.int .i64 s110.1), (.int .i64 s110.2.1), (.slice (Rw Blk.cells w57) (.own 4)), (.int .i64 w58), (.ptr 5 0), (.slice (Rw Op.cells w89) (.own 7)), (.int .i64 w90), (.ptr 8 0), (.vslice 9 (List.length l109) 0 (List.length l109) 1), (.int .i64 s110.2.2.1)], ([.cells [(.int .i64 p0.temps), (.slice (Rw Arr.cells p0.arrays) .no), (.slice (Rw Blk.cells p0.blocks) .no), (.int .i64 p0.inn), (.int .i64 p0.out)], .cells [(.int .i64 0), (.slice (Rw Arr.cells []) (.own 2)), (.slice (Rw Blk.cells []) (.own 3)), (.int .i64 0), (.int .i64 0)], .front 0 0, .front 0 0, FRs 5 (List.length w57), .cells [(.slice (Rw Op.cells u64.ops) .no), (.int .i64 u64.term.kind), (.int .i64 u64.term.a), (.int .i64 u64.term.yes), (.int .i64 u64.term.no)], .front 0 0, FRs 6 (List.length w89), .cells [(.int .i64 u96.kind), (.int .i64 u96.dst), (.int .i64 u96.a), (.int .i64 u96.b), (.int .i64 u96.c), (.int .i64 u96.imm)], Vc (ci .i64) 1 s110.2.2.2, FRs 1 3] : Heap)) = tm (t50_l8 p1 l109 s110) fun r => (r.1.ex, [(.slice (Rw (ci .i64) p1) .no), (.ptr 0 0), (.ptr 1 0), (.int .i64 r.2.1), (.int .i64 r.2.2.1), (.slice (Rw Blk.cells w57) (.own 4)), (.int .i64 w58), (.ptr 5 0), (.slice (Rw Op.cells w89) (.own 7)), (.int .i64 w90), (.ptr 8 0), (.vslice 9 (List.length l109) 0 (List.length l109) 1), (.int .i64 r.2.2.2.1)], ([.cells [(.int .i64 p0.temps), (.slice (Rw Arr.cells p0.arrays) .no), (.slice (Rw Blk.cells p0.blocks) .no), (.int .i64 p0.inn), (.int .i64 p0.out)], .cells [(.int .i64 0), (.slice (Rw Arr.cells []) (.own 2)), (.slice (Rw Blk.cells []) (.own 3)), (.int .i64 0), (.int .i64 0)], .front 0 0, .front 0 0, FRs 5 (List.length w57), .cells [(.slice (Rw Op.cells u64.ops) .no), (.int .i64 u64.term.kind), (.int .i64 u64.term.a), (.int .i64 u64.term.yes), (.int .i64 u64.term.no)], .front 0 0, FRs 6 (List.length w89), .cells [(.int .i64 u96.kind), (.int .i64 u96.dst), (.int .i64 u96.a), (.int .i64 u96.b), (.int .i64 u96.c), (.int .i64 u96.imm)], Vc (ci .i64) 1 r.2.2.2.2, FRs 1 3] : Heap)) := by
  simp +contextual -implicitDefEqProofs (maxSteps := 2000000) [-acond_bool, -guardSel_true, -guardSel_false, -aindexSl_map, -aload_vptr, -aload_vptrT, -astore_vptr, m50_l8, t50_l8, r50_b3]
theorem r50_l8 (p1 : (List Int)) (w57 : (List Blk)) (w58 : Int) (w89 : (List Op)) (w90 : Int) (l109 : (List Int)) (p0 : IR) (u64 : Blk) (u96 : Op) (i1 : Int) (i2 : Int) (i8 : Int) (i14 : (List Int)) (n4 : Nat) (hn4 : n4 = (List.length w57)) (n7 : Nat) (hn7 : n7 = (List.length w89)) : lpW (m50_l8 KK 11) ([(.slice (Rw (ci .i64) p1) .no), (.ptr 0 0), (.ptr 1 0), (.int .i64 i1), (.int .i64 i2), (.slice (Rw Blk.cells w57) (.own 4)), (.int .i64 w58), (.ptr 5 0), (.slice (Rw Op.cells w89) (.own 7)), (.int .i64 w90), (.ptr 8 0), (.vslice 9 (List.length l109) 0 (List.length l109) 1), (.int .i64 i8)], ([.cells [(.int .i64 p0.temps), (.slice (Rw Arr.cells p0.arrays) .no), (.slice (Rw Blk.cells p0.blocks) .no), (.int .i64 p0.inn), (.int .i64 p0.out)], .cells [(.int .i64 0), (.slice (Rw Arr.cells []) (.own 2)), (.slice (Rw Blk.cells []) (.own 3)), (.int .i64 0), (.int .i64 0)], .front 0 0, .front 0 0, FRs 5 n4, .cells [(.slice (Rw Op.cells u64.ops) .no), (.int .i64 u64.term.kind), (.int .i64 u64.term.a), (.int .i64 u64.term.yes), (.int .i64 u64.term.no)], .front 0 0, FRs 6 n7, .cells [(.int .i64 u96.kind), (.int .i64 u96.dst), (.int .i64 u96.a), (.int .i64 u96.b), (.int .i64 u96.c), (.int .i64 u96.imm)], Vc (ci .i64) 1 i14, FRs 1 3] : Heap)) = tm (lpT (t50_l8 p1 l109) (i1, i2, i8, i14)) fun r => (r.1.ex, [(.slice (Rw (ci .i64) p1) .no), (.ptr 0 0), (.ptr 1 0), (.int .i64 r.2.1), (.int .i64 r.2.2.1), (.slice (Rw Blk.cells w57) (.own 4)), (.int .i64 w58), (.ptr 5 0), (.slice (Rw Op.cells w89) (.own 7)), (.int .i64 w90), (.ptr 8 0), (.vslice 9 (List.length l109) 0 (List.length l109) 1), (.int .i64 r.2.2.2.1)], ([.cells [(.int .i64 p0.temps), (.slice (Rw Arr.cells p0.arrays) .no), (.slice (Rw Blk.cells p0.blocks) .no), (.int .i64 p0.inn), (.int .i64 p0.out)], .cells [(.int .i64 0), (.slice (Rw Arr.cells []) (.own 2)), (.slice (Rw Blk.cells []) (.own 3)), (.int .i64 0), (.int .i64 0)], .front 0 0, .front 0 0, FRs 5 (List.length w57), .cells [(.slice (Rw Op.cells u64.ops) .no), (.int .i64 u64.term.kind), (.int .i64 u64.term.a), (.int .i64 u64.term.yes), (.int .i64 u64.term.no)], .front 0 0, FRs 6 (List.length w89), .cells [(.int .i64 u96.kind), (.int .i64 u96.dst), (.int .i64 u96.a), (.int .i64 u96.b), (.int .i64 u96.c), (.int .i64 u96.imm)], Vc (ci .i64) 1 r.2.2.2.2, FRs 1 3] : Heap)) := by
  subst hn4 hn7; exact lpW_t (enc := fun s110 => ([(.slice (Rw (ci .i64) p1) .no), (.ptr 0 0), (.ptr 1 0), (.int .i64 s110.1), (.int .i64 s110.2.1), (.slice (Rw Blk.cells w57) (.own 4)), (.int .i64 w58), (.ptr 5 0), (.slice (Rw Op.cells w89) (.own 7)), (.int .i64 w90), (.ptr 8 0), (.vslice 9 (List.length l109) 0 (List.length l109) 1), (.int .i64 s110.2.2.1)], ([.cells [(.int .i64 p0.temps), (.slice (Rw Arr.cells p0.arrays) .no), (.slice (Rw Blk.cells p0.blocks) .no), (.int .i64 p0.inn), (.int .i64 p0.out)], .cells [(.int .i64 0), (.slice (Rw Arr.cells []) (.own 2)), (.slice (Rw Blk.cells []) (.own 3)), (.int .i64 0), (.int .i64 0)], .front 0 0, .front 0 0, FRs 5 (List.length w57), .cells [(.slice (Rw Op.cells u64.ops) .no), (.int .i64 u64.term.kind), (.int .i64 u64.term.a), (.int .i64 u64.term.yes), (.int .i64 u64.term.no)], .front 0 0, FRs 6 (List.length w89), .cells [(.int .i64 u96.kind), (.int .i64 u96.dst), (.int .i64 u96.a), (.int .i64 u96.b), (.int .i64 u96.c), (.int .i64 u96.imm)], Vc (ci .i64) 1 s110.2.2.2, FRs 1 3] : Heap))) (fun s110 => b50_l8 p1 w57 w58 w89 w90 l109 p0 u64 u96 s110) (i1, i2, i8, i14)
noncomputable def m50_s10 (K : CallO) (m : Nat) (t281 : AVal) (h280 : Heap) (x4v223 : AVal) (x1v221 : AVal) (x2v222 : AVal) (x7v225 : AVal) (x8v226 : AVal) (x9v227 : AVal) (x10v228 : AVal) (x11v229 : AVal) (x12v230 : AVal) (x13v231 : AVal) (x5v224 : AVal) : Option R :=
  acond t281 ((abuild [(.int .i64 0), (.slice (Rw Arr.cells []) .nil), (.slice (Rw Blk.cells []) .nil), (.int .i64 0), (.int .i64 0)] [(0, 1), (1, 1), (2, 1), (3, 1), (4, 1)] []).bind fun t285 => (astore 5 h280 x4v223 t285).bind fun h286 => endR m .ret [x1v221, x2v222, x4v223, (.int .i64 2), x7v225, x8v226, x9v227, x10v228, x11v229, x12v230, x13v231] h286) (fa 1 x13v231 fun t287 => ld false 1 h280 t287 fun t288 => bo .add t288 (.int .i64 1) fun t289 => (amax2 x7v225 t289).bind fun t290 => endR m .normal [x1v221, x2v222, x4v223, x5v224, t290, x8v226, x9v227, x10v228, x11v229, x12v230, x13v231] h280)
noncomputable def t50_s10 (w284 : Bool) (u96 : Op) (u265 : Int) (u239 : Int) (u245 : Int) (u251 : Int) (w259 : Int) (w258 : Int) : Option (Ey × Int × Int × Op) :=
  tc w284 (some (.r, (2, w259, (⟨u96.kind, u265, u239, u245, u251, u96.imm⟩ : Op)))) (some (.n, (w258, (max w259 (IntKind.wrap .i64 (u265 + 1))), (⟨u96.kind, u265, u239, u245, u251, u96.imm⟩ : Op))))
theorem r50_s10 (w284 : Bool) (p0 : IR) (w57 : (List Blk)) (u64 : Blk) (w89 : (List Op)) (u96 : Op) (u265 : Int) (u239 : Int) (u245 : Int) (u251 : Int) (w261 : (List Int)) (p1 : (List Int)) (w259 : Int) (w58 : Int) (w90 : Int) (w258 : Int) : (m50_s10 KK 11 (.bool w284) ([.cells [(.int .i64 p0.temps), (.slice (Rw Arr.cells p0.arrays) .no), (.slice (Rw Blk.cells p0.blocks) .no), (.int .i64 p0.inn), (.int .i64 p0.out)], .cells [(.int .i64 0), (.slice (Rw Arr.cells []) (.own 2)), (.slice (Rw Blk.cells []) (.own 3)), (.int .i64 0), (.int .i64 0)], .front 0 0, .front 0 0, FRs 5 (List.length w57), .cells [(.slice (Rw Op.cells u64.ops) .no), (.int .i64 u64.term.kind), (.int .i64 u64.term.a), (.int .i64 u64.term.yes), (.int .i64 u64.term.no)], .front 0 0, FRs 6 (List.length w89), .cells [(.int .i64 u96.kind), (.int .i64 u265), (.int .i64 u239), (.int .i64 u245), (.int .i64 u251), (.int .i64 u96.imm)], Vc (ci .i64) 1 w261, FRs 1 3] : Heap) (.ptr 1 0) (.slice (Rw (ci .i64) p1) .no) (.ptr 0 0) (.int .i64 w259) (.slice (Rw Blk.cells w57) (.own 4)) (.int .i64 w58) (.ptr 5 0) (.slice (Rw Op.cells w89) (.own 7)) (.int .i64 w90) (.ptr 8 0) (.int .i64 w258)) = tm (t50_s10 w284 u96 u265 u239 u245 u251 w259 w258) fun r => (r.1.ex, [(.slice (Rw (ci .i64) p1) .no), (.ptr 0 0), (.ptr 1 0), (.int .i64 r.2.1), (.int .i64 r.2.2.1), (.slice (Rw Blk.cells w57) (.own 4)), (.int .i64 w58), (.ptr 5 0), (.slice (Rw Op.cells w89) (.own 7)), (.int .i64 w90), (.ptr 8 0)], ([.cells [(.int .i64 p0.temps), (.slice (Rw Arr.cells p0.arrays) .no), (.slice (Rw Blk.cells p0.blocks) .no), (.int .i64 p0.inn), (.int .i64 p0.out)], .cells [(.int .i64 0), (.slice (Rw Arr.cells []) (.own 2)), (.slice (Rw Blk.cells []) (.own 3)), (.int .i64 0), (.int .i64 0)], .front 0 0, .front 0 0, FRs 5 (List.length w57), .cells [(.slice (Rw Op.cells u64.ops) .no), (.int .i64 u64.term.kind), (.int .i64 u64.term.a), (.int .i64 u64.term.yes), (.int .i64 u64.term.no)], .front 0 0, FRs 6 (List.length w89), .cells [(.int .i64 r.2.2.2.kind), (.int .i64 r.2.2.2.dst), (.int .i64 r.2.2.2.a), (.int .i64 r.2.2.2.b), (.int .i64 r.2.2.2.c), (.int .i64 r.2.2.2.imm)], Vc (ci .i64) 1 w261, FRs 1 3] : Heap)) := by
  simp +contextual -implicitDefEqProofs (maxSteps := 2000000) [-acond_bool, -guardSel_true, -guardSel_false, -aindexSl_map, -aload_vptr, -aload_vptrT, -astore_vptr, m50_s10, t50_s10]
noncomputable def m50_j9 (K : CallO) (m : Nat) (t255 : AVal) (x13v231 : AVal) (h256 : Heap) (x1v221 : AVal) (x4v223 : AVal) (x2v222 : AVal) (x7v225 : AVal) (x8v226 : AVal) (x9v227 : AVal) (x10v228 : AVal) (x11v229 : AVal) (x12v230 : AVal) (x5v224 : AVal) : Option R :=
  acond t255 (fa 1 x13v231 fun t262 => ld false 1 h256 t262 fun t263 => ix 1 x1v221 t263 fun t264 => ld false 1 h256 t264 fun t266 => fa 1 x13v231 fun t267 => (astore 1 h256 t267 t266).bind fun h268 => fa 1 x13v231 fun t269 => ld false 1 h268 t269 fun t270 => bo .lss t270 (.int .i64 0) fun t271 => gS false t271 (fa 1 x13v231 fun t272 => kv0 t272 h268) h268 fun t273 h274 => gS false t271 (ld false 1 h274 t273 fun t275 => kv0 t275 h274) h274 fun t276 h277 => gS false t271 (bo .geq t276 (.int .i64 1048576) fun t278 => kv0 t278 h277) h277 fun t279 h280 => (apick t271 (.bool true) t279).bind fun t281 => m50_s10 K m t281 h280 x4v223 x1v221 x2v222 x7v225 x8v226 x9v227 x10v228 x11v229 x12v230 x13v231 x5v224) (endR m .normal [x1v221, x2v222, x4v223, x5v224, x7v225, x8v226, x9v227, x10v228, x11v229, x12v230, x13v231] h256)
noncomputable def t50_j9 (r257 : Bool) (u96 : Op) (u239 : Int) (u245 : Int) (u251 : Int) (p1 : (List Int)) (w259 : Int) (w258 : Int) : Option (Ey × Int × Int × Op) :=
  tc r257 (tb ((tidx p1 u96.dst)) fun u265 => tc (decide (u265 < 0)) (t50_s10 true u96 u265 u239 u245 u251 w259 w258) (t50_s10 (decide (1048576 ≤ u265)) u96 u265 u239 u245 u251 w259 w258)) (some (.n, (w258, w259, (⟨u96.kind, u96.dst, u239, u245, u251, u96.imm⟩ : Op))))
theorem r50_j9 (r257 : Bool) (p0 : IR) (w57 : (List Blk)) (u64 : Blk) (w89 : (List Op)) (u96 : Op) (u239 : Int) (u245 : Int) (u251 : Int) (w261 : (List Int)) (p1 : (List Int)) (w259 : Int) (w58 : Int) (w90 : Int) (w258 : Int) : (m50_j9 KK 11 (.bool r257) (.ptr 8 0) ([.cells [(.int .i64 p0.temps), (.slice (Rw Arr.cells p0.arrays) .no), (.slice (Rw Blk.cells p0.blocks) .no), (.int .i64 p0.inn), (.int .i64 p0.out)], .cells [(.int .i64 0), (.slice (Rw Arr.cells []) (.own 2)), (.slice (Rw Blk.cells []) (.own 3)), (.int .i64 0), (.int .i64 0)], .front 0 0, .front 0 0, FRs 5 (List.length w57), .cells [(.slice (Rw Op.cells u64.ops) .no), (.int .i64 u64.term.kind), (.int .i64 u64.term.a), (.int .i64 u64.term.yes), (.int .i64 u64.term.no)], .front 0 0, FRs 6 (List.length w89), .cells [(.int .i64 u96.kind), (.int .i64 u96.dst), (.int .i64 u239), (.int .i64 u245), (.int .i64 u251), (.int .i64 u96.imm)], Vc (ci .i64) 1 w261, FRs 1 3] : Heap) (.slice (Rw (ci .i64) p1) .no) (.ptr 1 0) (.ptr 0 0) (.int .i64 w259) (.slice (Rw Blk.cells w57) (.own 4)) (.int .i64 w58) (.ptr 5 0) (.slice (Rw Op.cells w89) (.own 7)) (.int .i64 w90) (.int .i64 w258)) = tm (t50_j9 r257 u96 u239 u245 u251 p1 w259 w258) fun r => (r.1.ex, [(.slice (Rw (ci .i64) p1) .no), (.ptr 0 0), (.ptr 1 0), (.int .i64 r.2.1), (.int .i64 r.2.2.1), (.slice (Rw Blk.cells w57) (.own 4)), (.int .i64 w58), (.ptr 5 0), (.slice (Rw Op.cells w89) (.own 7)), (.int .i64 w90), (.ptr 8 0)], ([.cells [(.int .i64 p0.temps), (.slice (Rw Arr.cells p0.arrays) .no), (.slice (Rw Blk.cells p0.blocks) .no), (.int .i64 p0.inn), (.int .i64 p0.out)], .cells [(.int .i64 0), (.slice (Rw Arr.cells []) (.own 2)), (.slice (Rw Blk.cells []) (.own 3)), (.int .i64 0), (.int .i64 0)], .front 0 0, .front 0 0, FRs 5 (List.length w57), .cells [(.slice (Rw Op.cells u64.ops) .no), (.int .i64 u64.term.kind), (.int .i64 u64.term.a), (.int .i64 u64.term.yes), (.int .i64 u64.term.no)], .front 0 0, FRs 6 (List.length w89), .cells [(.int .i64 r.2.2.2.kind), (.int .i64 r.2.2.2.dst), (.int .i64 r.2.2.2.a), (.int .i64 r.2.2.2.b), (.int .i64 r.2.2.2.c), (.int .i64 r.2.2.2.imm)], Vc (ci .i64) 1 w261, FRs 1 3] : Heap)) := by
  simp +contextual -implicitDefEqProofs (maxSteps := 2000000) [-acond_bool, -guardSel_true, -guardSel_false, -aindexSl_map, -aload_vptr, -aload_vptrT, -astore_vptr, m50_j9, t50_j9, r50_s10]
theorem bs50_11 (y0 : Int) (y1 : Int) (y2 : Int) (y3 : Int) (y4 : Int) (y5 : Int) (h : Heap) : abuildSlice 1 6 [(.int .i64 0), (.int .i64 0), (.int .i64 0), (.int .i64 0), (.int .i64 0), (.int .i64 0)] [(0, (.agg [(.int .i64 y0), (.int .i64 y1), (.int .i64 y2), (.int .i64 y3), (.int .i64 y4), (.int .i64 y5)]))] h = some (.slice (Rw Op.cells [(⟨y0, y1, y2, y3, y4, y5⟩ : Op)]) (.own h.length), h ++ [FRs 6 1]) := by
  rfl
noncomputable def m50_b1 (K : CallO) (m : Nat) (x10v79 : AVal) (h82 : Heap) (x12v81 : AVal) (x1v72 : AVal) (x2v73 : AVal) (x4v74 : AVal) (x5v75 : AVal) (x7v76 : AVal) (x8v77 : AVal) (x9v78 : AVal) (x11v80 : AVal) : Option R :=
  fa 0 x10v79 fun t93 => ld false 1 h82 t93 fun t94 => ix 6 t94 x12v81 fun t95 => ld true 6 h82 t95 fun t97 => bindVH (anew 6 h82 (.agg [(.int .i64 0), (.int .i64 0), (.int .i64 0), (.int .i64 0), (.int .i64 0), (.int .i64 0)])) fun t98 h99 => (astore 6 h99 t98 t97).bind fun h100 => ld true 6 h100 t98 fun t101 => ca (K 100 [(AVal.untok t101)] h100) fun t102 h103 => bindVH (abuildSlice 3 1 [(.int .i64 0)] [(0, (.int .i64 (-1))), (1, (.int .i64 (-1))), (2, (.int .i64 (-1)))] h103) fun t105 h106 => bindVH (aappendV 1 8 h106 t102 t105) fun t107 h108 => (lpW (m50_l8 K (List.length h108)) ([x1v72, x2v73, x4v74, x5v75, x7v76, x8v77, x9v78, x10v79, x11v80, x12v81, t98, t107, (.int .i64 0)], h108)).bind fun r219 => (fun x1v221 x2v222 x4v223 x5v224 x7v225 x8v226 x9v227 x10v228 x11v229 x12v230 x13v231 x14v232 x15v233 h234 => Ex.thenDo r219.1 none (fun e220 => Ex.inBlock 4 e220 (ix 1 x14v232 (.int .i64 0) fun t236 => ld false 1 h234 t236 fun t238 => fa 2 x13v231 fun t240 => (astore 1 h234 t240 t238).bind fun h241 => ix 1 x14v232 (.int .i64 1) fun t242 => ld false 1 h241 t242 fun t244 => fa 3 x13v231 fun t246 => (astore 1 h241 t246 t244).bind fun h247 => ix 1 x14v232 (.int .i64 2) fun t248 => ld false 1 h247 t248 fun t250 => fa 4 x13v231 fun t252 => (astore 1 h247 t252 t250).bind fun h253 => ld true 6 h253 x13v231 fun t254 => ca (K 101 [(AVal.untok t254)] h253) fun t255 h256 => (m50_j9 K (List.length h256) t255 x13v231 h256 x1v221 x4v223 x2v222 x7v225 x8v226 x9v227 x10v228 x11v229 x12v230 x5v224).bind fun r291 => (fun x1v292 x2v293 x4v294 x5v295 x7v296 x8v297 x9v298 x10v299 x11v300 x12v301 x13v302 h303 => Ex.thenDo r291.1 (ld true 6 h303 x13v302 fun t305 => bindVH (abuildSlice 1 6 [(.int .i64 0), (.int .i64 0), (.int .i64 0), (.int .i64 0), (.int .i64 0), (.int .i64 0)] [(0, t305)] h303) fun t306 h307 => bindVH (aappend 6 48 h307 x11v300 t306) fun t308 h309 => endR m .normal [x1v292, x2v293, x4v294, x5v295, x7v296, x8v297, x9v298, x10v299, t308, x12v301] h309) (fun e304 => endR m e304 [x1v292, x2v293, x4v294, x5v295, x7v296, x8v297, x9v298, x10v299, x11v300, x12v301] h303)) (gd r291.2.1 0) (gd r291.2.1 1) (gd r291.2.1 2) (gd r291.2.1 3) (gd r291.2.1 4) (gd r291.2.1 5) (gd r291.2.1 6) (gd r291.2.1 7) (gd r291.2.1 8) (gd r291.2.1 9) (gd r291.2.1 10) r291.2.2) (fun e235 => endR m e235 [x1v221, x2v222, x4v223, x5v224, x7v225, x8v226, x9v227, x10v228, x11v229, x12v230] h234))) (gd r219.2.1 0) (gd r219.2.1 1) (gd r219.2.1 2) (gd r219.2.1 3) (gd r219.2.1 4) (gd r219.2.1 5) (gd r219.2.1 6) (gd r219.2.1 7) (gd r219.2.1 8) (gd r219.2.1 9) (gd r219.2.1 10) (gd r219.2.1 11) (gd r219.2.1 12) r219.2.2
noncomputable def t50_b1 (u64 : Blk) (w89 : (List Op)) (w90 : Int) (p1 : (List Int)) (w87 : Int) (w88 : Int) : Option (Ey × Int × Int × (List Op)) :=
  tb ((tidx u64.ops w90)) fun u96 => tb ((t100 u96)) fun r104 => tb ((tapp 8 r104 [(-1), (-1), (-1)])) fun l109 => tb (lpT (t50_l8 p1 l109) (w87, w88, 0, l109)) fun r219 => exT r219.1 none fun e220 => ibT 4 e220 (tb ((tin (List.length l109) 0)) fun j237 => tb ((tvg (List.length l109) r219.2.2.2.2 j237)) fun u239 => tb ((tin (List.length l109) 1)) fun j243 => tb ((tvg (List.length l109) r219.2.2.2.2 j243)) fun u245 => tb ((tin (List.length l109) 2)) fun j249 => tb ((tvg (List.length l109) r219.2.2.2.2 j249)) fun u251 => tb ((t101 (⟨u96.kind, u96.dst, u239, u245, u251, u96.imm⟩ : Op))) fun r257 => tb (t50_j9 r257 u96 u239 u245 u251 p1 r219.2.2.1 r219.2.1) fun r291 => exT r291.1 (tb ((tapp 48 w89 [r291.2.2.2])) fun l310 => some (.n, (r291.2.1, r291.2.2.1, l310))) fun e304 => some (e304, (r291.2.1, r291.2.2.1, w89))) fun e235 => some (e235, (r219.2.1, r219.2.2.1, w89))
theorem r50_b1 (p0 : IR) (w57 : (List Blk)) (u64 : Blk) (w89 : (List Op)) (w90 : Int) (p1 : (List Int)) (w87 : Int) (w88 : Int) (w58 : Int) : (m50_b1 KK 8 (.ptr 5 0) ([.cells [(.int .i64 p0.temps), (.slice (Rw Arr.cells p0.arrays) .no), (.slice (Rw Blk.cells p0.blocks) .no), (.int .i64 p0.inn), (.int .i64 p0.out)], .cells [(.int .i64 0), (.slice (Rw Arr.cells []) (.own 2)), (.slice (Rw Blk.cells []) (.own 3)), (.int .i64 0), (.int .i64 0)], .front 0 0, .front 0 0, FRs 5 (List.length w57), .cells [(.slice (Rw Op.cells u64.ops) .no), (.int .i64 u64.term.kind), (.int .i64 u64.term.a), (.int .i64 u64.term.yes), (.int .i64 u64.term.no)], .front 0 0, FRs 6 (List.length w89)] : Heap) (.int .i64 w90) (.slice (Rw (ci .i64) p1) .no) (.ptr 0 0) (.ptr 1 0) (.int .i64 w87) (.int .i64 w88) (.slice (Rw Blk.cells w57) (.own 4)) (.int .i64 w58) (.slice (Rw Op.cells w89) (.own 7))) = tm (t50_b1 u64 w89 w90 p1 w87 w88) fun r => (r.1.ex, [(.slice (Rw (ci .i64) p1) .no), (.ptr 0 0), (.ptr 1 0), (.int .i64 r.2.1), (.int .i64 r.2.2.1), (.slice (Rw Blk.cells w57) (.own 4)), (.int .i64 w58), (.ptr 5 0), (.slice (Rw Op.cells r.2.2.2) (.own 7)), (.int .i64 w90)], ([.cells [(.int .i64 p0.temps), (.slice (Rw Arr.cells p0.arrays) .no), (.slice (Rw Blk.cells p0.blocks) .no), (.int .i64 p0.inn), (.int .i64 p0.out)], .cells [(.int .i64 0), (.slice (Rw Arr.cells []) (.own 2)), (.slice (Rw Blk.cells []) (.own 3)), (.int .i64 0), (.int .i64 0)], .front 0 0, .front 0 0, FRs 5 (List.length w57), .cells [(.slice (Rw Op.cells u64.ops) .no), (.int .i64 u64.term.kind), (.int .i64 u64.term.a), (.int .i64 u64.term.yes), (.int .i64 u64.term.no)], .front 0 0, FRs 6 (List.length r.2.2.2)] : Heap)) := by
  simp +contextual -implicitDefEqProofs (maxSteps := 2000000) [-acond_bool, -guardSel_true, -guardSel_false, -aindexSl_map, -aload_vptr, -aload_vptrT, -astore_vptr, m50_b1, t50_b1, r100, bs50_2, r50_l8, r101x, r50_j9, bs50_11]
noncomputable def m50_l12 (K : CallO) (m : Nat) (s : List AVal × Heap) : Option R :=
  (fun x1v72 x2v73 x4v74 x5v75 x7v76 x8v77 x9v78 x10v79 x11v80 x12v81 h82 => fa 0 x10v79 fun t83 => ld false 1 h82 t83 fun t84 => ln t84 fun t85 => bo .lss x12v81 t85 fun t86 => acond t86 ((m50_b1 K (List.length h82) x10v79 h82 x12v81 x1v72 x2v73 x4v74 x5v75 x7v76 x8v77 x9v78 x11v80).bind fun r311 => (fun x1v312 x2v313 x4v314 x5v315 x7v316 x8v317 x9v318 x10v319 x11v320 x12v321 h322 => Ex.inBlock 3 r311.1 (bo .add x12v321 (.int .i64 1) fun t324 => endR m .normal [x1v312, x2v313, x4v314, x5v315, x7v316, x8v317, x9v318, x10v319, x11v320, t324] h322) (fun e323 => endR m e323 [x1v312, x2v313, x4v314, x5v315, x7v316, x8v317, x9v318, x10v319, x11v320, x12v321] h322)) (gd r311.2.1 0) (gd r311.2.1 1) (gd r311.2.1 2) (gd r311.2.1 3) (gd r311.2.1 4) (gd r311.2.1 5) (gd r311.2.1 6) (gd r311.2.1 7) (gd r311.2.1 8) (gd r311.2.1 9) r311.2.2) (endR m (.exit 2) [x1v72, x2v73, x4v74, x5v75, x7v76, x8v77, x9v78, x10v79, x11v80, x12v81] h82)) (gd s.1 0) (gd s.1 1) (gd s.1 2) (gd s.1 3) (gd s.1 4) (gd s.1 5) (gd s.1 6) (gd s.1 7) (gd s.1 8) (gd s.1 9) s.2
noncomputable def t50_l12 (p1 : (List Int)) (u64 : Blk) (s71 : Int × Int × (List Op) × Int) : Option (Ey × Int × Int × (List Op) × Int) :=
  tc (decide (s71.2.2.2 < ((List.length u64.ops : Nat) : Int))) (tb (t50_b1 u64 s71.2.2.1 s71.2.2.2 p1 s71.1 s71.2.1) fun r311 => ibT 3 r311.1 (some (.n, (r311.2.1, r311.2.2.1, r311.2.2.2, (IntKind.wrap .i64 (s71.2.2.2 + 1))))) fun e323 => some (e323, (r311.2.1, r311.2.2.1, r311.2.2.2, s71.2.2.2))) (some ((.x 2), (s71.1, s71.2.1, s71.2.2.1, s71.2.2.2)))
theorem b50_l12 (p1 : (List Int)) (w57 : (List Blk)) (w58 : Int) (p0 : IR) (u64 : Blk) (s71 : Int × Int × (List Op) × Int) : m50_l12 KK 8 ([(.slice (Rw (ci .i64) p1) .no), (.ptr 0 0), (.ptr 1 0), (.int .i64 s71.1), (.int .i64 s71.2.1), (.slice (Rw Blk.cells w57) (.own 4)), (.int .i64 w58), (.ptr 5 0), (.slice (Rw Op.cells s71.2.2.1) (.own 7)), (.int .i64 s71.2.2.2)], ([.cells [(.int .i64 p0.temps), (.slice (Rw Arr.cells p0.arrays) .no), (.slice (Rw Blk.cells p0.blocks) .no), (.int .i64 p0.inn), (.int .i64 p0.out)], .cells [(.int .i64 0), (.slice (Rw Arr.cells []) (.own 2)), (.slice (Rw Blk.cells []) (.own 3)), (.int .i64 0), (.int .i64 0)], .front 0 0, .front 0 0, FRs 5 (List.length w57), .cells [(.slice (Rw Op.cells u64.ops) .no), (.int .i64 u64.term.kind), (.int .i64 u64.term.a), (.int .i64 u64.term.yes), (.int .i64 u64.term.no)], .front 0 0, FRs 6 (List.length s71.2.2.1)] : Heap)) = tm (t50_l12 p1 u64 s71) fun r => (r.1.ex, [(.slice (Rw (ci .i64) p1) .no), (.ptr 0 0), (.ptr 1 0), (.int .i64 r.2.1), (.int .i64 r.2.2.1), (.slice (Rw Blk.cells w57) (.own 4)), (.int .i64 w58), (.ptr 5 0), (.slice (Rw Op.cells r.2.2.2.1) (.own 7)), (.int .i64 r.2.2.2.2)], ([.cells [(.int .i64 p0.temps), (.slice (Rw Arr.cells p0.arrays) .no), (.slice (Rw Blk.cells p0.blocks) .no), (.int .i64 p0.inn), (.int .i64 p0.out)], .cells [(.int .i64 0), (.slice (Rw Arr.cells []) (.own 2)), (.slice (Rw Blk.cells []) (.own 3)), (.int .i64 0), (.int .i64 0)], .front 0 0, .front 0 0, FRs 5 (List.length w57), .cells [(.slice (Rw Op.cells u64.ops) .no), (.int .i64 u64.term.kind), (.int .i64 u64.term.a), (.int .i64 u64.term.yes), (.int .i64 u64.term.no)], .front 0 0, FRs 6 (List.length r.2.2.2.1)] : Heap)) := by
  simp +contextual -implicitDefEqProofs (maxSteps := 2000000) [-acond_bool, -guardSel_true, -guardSel_false, -aindexSl_map, -aload_vptr, -aload_vptrT, -astore_vptr, m50_l12, t50_l12, r50_b1]
theorem r50_l12 (p1 : (List Int)) (w57 : (List Blk)) (w58 : Int) (p0 : IR) (u64 : Blk) (i1 : Int) (i2 : Int) (i6 : Int) (n4 : Nat) (hn4 : n4 = (List.length w57)) : lpW (m50_l12 KK 8) ([(.slice (Rw (ci .i64) p1) .no), (.ptr 0 0), (.ptr 1 0), (.int .i64 i1), (.int .i64 i2), (.slice (Rw Blk.cells w57) (.own 4)), (.int .i64 w58), (.ptr 5 0), (.slice (Rw Op.cells []) (.own 7)), (.int .i64 i6)], ([.cells [(.int .i64 p0.temps), (.slice (Rw Arr.cells p0.arrays) .no), (.slice (Rw Blk.cells p0.blocks) .no), (.int .i64 p0.inn), (.int .i64 p0.out)], .cells [(.int .i64 0), (.slice (Rw Arr.cells []) (.own 2)), (.slice (Rw Blk.cells []) (.own 3)), (.int .i64 0), (.int .i64 0)], .front 0 0, .front 0 0, FRs 5 n4, .cells [(.slice (Rw Op.cells u64.ops) .no), (.int .i64 u64.term.kind), (.int .i64 u64.term.a), (.int .i64 u64.term.yes), (.int .i64 u64.term.no)], .front 0 0, .front 0 0] : Heap)) = tm (lpT (t50_l12 p1 u64) (i1, i2, [], i6)) fun r => (r.1.ex, [(.slice (Rw (ci .i64) p1) .no), (.ptr 0 0), (.ptr 1 0), (.int .i64 r.2.1), (.int .i64 r.2.2.1), (.slice (Rw Blk.cells w57) (.own 4)), (.int .i64 w58), (.ptr 5 0), (.slice (Rw Op.cells r.2.2.2.1) (.own 7)), (.int .i64 r.2.2.2.2)], ([.cells [(.int .i64 p0.temps), (.slice (Rw Arr.cells p0.arrays) .no), (.slice (Rw Blk.cells p0.blocks) .no), (.int .i64 p0.inn), (.int .i64 p0.out)], .cells [(.int .i64 0), (.slice (Rw Arr.cells []) (.own 2)), (.slice (Rw Blk.cells []) (.own 3)), (.int .i64 0), (.int .i64 0)], .front 0 0, .front 0 0, FRs 5 (List.length w57), .cells [(.slice (Rw Op.cells u64.ops) .no), (.int .i64 u64.term.kind), (.int .i64 u64.term.a), (.int .i64 u64.term.yes), (.int .i64 u64.term.no)], .front 0 0, FRs 6 (List.length r.2.2.2.1)] : Heap)) := by
  subst hn4; exact lpW_t (enc := fun s71 => ([(.slice (Rw (ci .i64) p1) .no), (.ptr 0 0), (.ptr 1 0), (.int .i64 s71.1), (.int .i64 s71.2.1), (.slice (Rw Blk.cells w57) (.own 4)), (.int .i64 w58), (.ptr 5 0), (.slice (Rw Op.cells s71.2.2.1) (.own 7)), (.int .i64 s71.2.2.2)], ([.cells [(.int .i64 p0.temps), (.slice (Rw Arr.cells p0.arrays) .no), (.slice (Rw Blk.cells p0.blocks) .no), (.int .i64 p0.inn), (.int .i64 p0.out)], .cells [(.int .i64 0), (.slice (Rw Arr.cells []) (.own 2)), (.slice (Rw Blk.cells []) (.own 3)), (.int .i64 0), (.int .i64 0)], .front 0 0, .front 0 0, FRs 5 (List.length w57), .cells [(.slice (Rw Op.cells u64.ops) .no), (.int .i64 u64.term.kind), (.int .i64 u64.term.a), (.int .i64 u64.term.yes), (.int .i64 u64.term.no)], .front 0 0, FRs 6 (List.length s71.2.2.1)] : Heap))) (fun s71 => b50_l12 p1 w57 w58 p0 u64 s71) (i1, i2, [], i6)
noncomputable def m50_s14 (K : CallO) (m : Nat) (t373 : AVal) (h372 : Heap) (x4v329 : AVal) (x1v327 : AVal) (x2v328 : AVal) (x7v331 : AVal) (x8v332 : AVal) (x9v333 : AVal) (x10v334 : AVal) (x11v335 : AVal) (x5v330 : AVal) : Option R :=
  acond t373 ((abuild [(.int .i64 0), (.slice (Rw Arr.cells []) .nil), (.slice (Rw Blk.cells []) .nil), (.int .i64 0), (.int .i64 0)] [(0, 1), (1, 1), (2, 1), (3, 1), (4, 1)] []).bind fun t377 => (astore 5 h372 x4v329 t377).bind fun h378 => endR m .ret [x1v327, x2v328, x4v329, (.int .i64 2), x7v331, x8v332, x9v333, x10v334, x11v335] h378) (fa 1 x10v334 fun t379 => fa 1 t379 fun t380 => ld false 1 h372 t380 fun t381 => bo .add t381 (.int .i64 1) fun t382 => (amax2 x7v331 t382).bind fun t383 => endR m .normal [x1v327, x2v328, x4v329, x5v330, t383, x8v332, x9v333, x10v334, x11v335] h372)
noncomputable def t50_s14 (w376 : Bool) (u64 : Blk) (u352 : Int) (w344 : Int) (w343 : Int) : Option (Ey × Int × Int × Blk) :=
  tc w376 (some (.r, (2, w344, (⟨u64.ops, (⟨u64.term.kind, u352, u64.term.yes, u64.term.no⟩ : Term)⟩ : Blk)))) (some (.n, (w343, (max w344 (IntKind.wrap .i64 (u352 + 1))), (⟨u64.ops, (⟨u64.term.kind, u352, u64.term.yes, u64.term.no⟩ : Term)⟩ : Blk))))
theorem r50_s14 (w376 : Bool) (p0 : IR) (w57 : (List Blk)) (u64 : Blk) (u352 : Int) (w345 : (List Op)) (p1 : (List Int)) (w344 : Int) (w58 : Int) (w343 : Int) : (m50_s14 KK 8 (.bool w376) ([.cells [(.int .i64 p0.temps), (.slice (Rw Arr.cells p0.arrays) .no), (.slice (Rw Blk.cells p0.blocks) .no), (.int .i64 p0.inn), (.int .i64 p0.out)], .cells [(.int .i64 0), (.slice (Rw Arr.cells []) (.own 2)), (.slice (Rw Blk.cells []) (.own 3)), (.int .i64 0), (.int .i64 0)], .front 0 0, .front 0 0, FRs 5 (List.length w57), .cells [(.slice (Rw Op.cells u64.ops) .no), (.int .i64 u64.term.kind), (.int .i64 u352), (.int .i64 u64.term.yes), (.int .i64 u64.term.no)], .front 0 0, FRs 6 (List.length w345)] : Heap) (.ptr 1 0) (.slice (Rw (ci .i64) p1) .no) (.ptr 0 0) (.int .i64 w344) (.slice (Rw Blk.cells w57) (.own 4)) (.int .i64 w58) (.ptr 5 0) (.slice (Rw Op.cells w345) (.own 7)) (.int .i64 w343)) = tm (t50_s14 w376 u64 u352 w344 w343) fun r => (r.1.ex, [(.slice (Rw (ci .i64) p1) .no), (.ptr 0 0), (.ptr 1 0), (.int .i64 r.2.1), (.int .i64 r.2.2.1), (.slice (Rw Blk.cells w57) (.own 4)), (.int .i64 w58), (.ptr 5 0), (.slice (Rw Op.cells w345) (.own 7))], ([.cells [(.int .i64 p0.temps), (.slice (Rw Arr.cells p0.arrays) .no), (.slice (Rw Blk.cells p0.blocks) .no), (.int .i64 p0.inn), (.int .i64 p0.out)], .cells [(.int .i64 0), (.slice (Rw Arr.cells []) (.own 2)), (.slice (Rw Blk.cells []) (.own 3)), (.int .i64 0), (.int .i64 0)], .front 0 0, .front 0 0, FRs 5 (List.length w57), .cells [(.slice (Rw Op.cells r.2.2.2.ops) .no), (.int .i64 r.2.2.2.term.kind), (.int .i64 r.2.2.2.term.a), (.int .i64 r.2.2.2.term.yes), (.int .i64 r.2.2.2.term.no)], .front 0 0, FRs 6 (List.length w345)] : Heap)) := by
  simp +contextual -implicitDefEqProofs (maxSteps := 2000000) [-acond_bool, -guardSel_true, -guardSel_false, -aindexSl_map, -aload_vptr, -aload_vptrT, -astore_vptr, m50_s14, t50_s14]
noncomputable def m50_j13 (K : CallO) (m : Nat) (t342 : AVal) (x10v334 : AVal) (h337 : Heap) (x1v327 : AVal) (x4v329 : AVal) (x2v328 : AVal) (x7v331 : AVal) (x8v332 : AVal) (x9v333 : AVal) (x11v335 : AVal) (x5v330 : AVal) : Option R :=
  acond t342 (fa 1 x10v334 fun t348 => fa 1 t348 fun t349 => ld false 1 h337 t349 fun t350 => ix 1 x1v327 t350 fun t351 => ld false 1 h337 t351 fun t353 => fa 1 x10v334 fun t354 => fa 1 t354 fun t355 => (astore 1 h337 t355 t353).bind fun h356 => fa 1 x10v334 fun t357 => fa 1 t357 fun t358 => ld false 1 h356 t358 fun t359 => bo .lss t359 (.int .i64 0) fun t360 => gS false t360 (fa 1 x10v334 fun t361 => kv0 t361 h356) h356 fun t362 h363 => gS false t360 (fa 1 t362 fun t364 => kv0 t364 h363) h363 fun t365 h366 => gS false t360 (ld false 1 h366 t365 fun t367 => kv0 t367 h366) h366 fun t368 h369 => gS false t360 (bo .geq t368 (.int .i64 1048576) fun t370 => kv0 t370 h369) h369 fun t371 h372 => (apick t360 (.bool true) t371).bind fun t373 => m50_s14 K m t373 h372 x4v329 x1v327 x2v328 x7v331 x8v332 x9v333 x10v334 x11v335 x5v330) (endR m .normal [x1v327, x2v328, x4v329, x5v330, x7v331, x8v332, x9v333, x10v334, x11v335] h337)
noncomputable def t50_j13 (w347 : Bool) (u64 : Blk) (p1 : (List Int)) (w344 : Int) (w343 : Int) : Option (Ey × Int × Int × Blk) :=
  tc w347 (tb ((tidx p1 u64.term.a)) fun u352 => tc (decide (u352 < 0)) (t50_s14 true u64 u352 w344 w343) (t50_s14 (decide (1048576 ≤ u352)) u64 u352 w344 w343)) (some (.n, (w343, w344, u64)))
theorem r50_j13 (w347 : Bool) (p0 : IR) (w57 : (List Blk)) (u64 : Blk) (w345 : (List Op)) (p1 : (List Int)) (w344 : Int) (w58 : Int) (w343 : Int) : (m50_j13 KK 8 (.bool w347) (.ptr 5 0) ([.cells [(.int .i64 p0.temps), (.slice (Rw Arr.cells p0.arrays) .no), (.slice (Rw Blk.cells p0.blocks) .no), (.int .i64 p0.inn), (.int .i64 p0.out)], .cells [(.int .i64 0), (.slice (Rw Arr.cells []) (.own 2)), (.slice (Rw Blk.cells []) (.own 3)), (.int .i64 0), (.int .i64 0)], .front 0 0, .front 0 0, FRs 5 (List.length w57), .cells [(.slice (Rw Op.cells u64.ops) .no), (.int .i64 u64.term.kind), (.int .i64 u64.term.a), (.int .i64 u64.term.yes), (.int .i64 u64.term.no)], .front 0 0, FRs 6 (List.length w345)] : Heap) (.slice (Rw (ci .i64) p1) .no) (.ptr 1 0) (.ptr 0 0) (.int .i64 w344) (.slice (Rw Blk.cells w57) (.own 4)) (.int .i64 w58) (.slice (Rw Op.cells w345) (.own 7)) (.int .i64 w343)) = tm (t50_j13 w347 u64 p1 w344 w343) fun r => (r.1.ex, [(.slice (Rw (ci .i64) p1) .no), (.ptr 0 0), (.ptr 1 0), (.int .i64 r.2.1), (.int .i64 r.2.2.1), (.slice (Rw Blk.cells w57) (.own 4)), (.int .i64 w58), (.ptr 5 0), (.slice (Rw Op.cells w345) (.own 7))], ([.cells [(.int .i64 p0.temps), (.slice (Rw Arr.cells p0.arrays) .no), (.slice (Rw Blk.cells p0.blocks) .no), (.int .i64 p0.inn), (.int .i64 p0.out)], .cells [(.int .i64 0), (.slice (Rw Arr.cells []) (.own 2)), (.slice (Rw Blk.cells []) (.own 3)), (.int .i64 0), (.int .i64 0)], .front 0 0, .front 0 0, FRs 5 (List.length w57), .cells [(.slice (Rw Op.cells r.2.2.2.ops) .no), (.int .i64 r.2.2.2.term.kind), (.int .i64 r.2.2.2.term.a), (.int .i64 r.2.2.2.term.yes), (.int .i64 r.2.2.2.term.no)], .front 0 0, FRs 6 (List.length w345)] : Heap)) := by
  simp +contextual -implicitDefEqProofs (maxSteps := 2000000) [-acond_bool, -guardSel_true, -guardSel_false, -aindexSl_map, -aload_vptr, -aload_vptrT, -astore_vptr, m50_j13, t50_j13, r50_s14]
theorem bs50_15 (y0 : List Op) (y1 : Int) (y2 : Int) (y3 : Int) (y4 : Int) (h : Heap) : abuildSlice 1 5 [(.slice (Rw Op.cells []) .nil), (.int .i64 0), (.int .i64 0), (.int .i64 0), (.int .i64 0)] [(0, (.agg [(.slice (Rw Op.cells y0) (.own 7)), (.int .i64 y1), (.int .i64 y2), (.int .i64 y3), (.int .i64 y4)]))] h = some (.slice (Rw Blk.cells [(⟨y0, (⟨y1, y2, y3, y4⟩ : Term)⟩ : Blk)]) (.own h.length), h ++ [FRs 5 1]) := by
  rfl
noncomputable def m50_b0 (K : CallO) (m : Nat) (x2v44 : AVal) (h50 : Heap) (x9v49 : AVal) (x1v43 : AVal) (x4v45 : AVal) (x5v46 : AVal) (x7v47 : AVal) (x8v48 : AVal) : Option R :=
  fa 2 x2v44 fun t61 => ld false 1 h50 t61 fun t62 => ix 5 t62 x9v49 fun t63 => ld true 5 h50 t63 fun t65 => bindVH (anew 5 h50 (.agg [(.slice (Rw Op.cells []) .nil), (.int .i64 0), (.int .i64 0), (.int .i64 0), (.int .i64 0)])) fun t66 h67 => (astore 5 h67 t66 t65).bind fun h68 => (fun (t70 : AVal) (h69 : Heap) => (lpW (m50_l12 K (List.length h69)) ([x1v43, x2v44, x4v45, x5v46, x7v47, x8v48, x9v49, t66, t70, (.int .i64 0)], h69)).bind fun r325 => (fun x1v327 x2v328 x4v329 x5v330 x7v331 x8v332 x9v333 x10v334 x11v335 x12v336 h337 => Ex.thenDo r325.1 none (fun e326 => Ex.inBlock 2 e326 (fa 1 x10v334 fun t339 => fa 0 t339 fun t340 => ld false 1 h337 t340 fun t341 => bo .eql t341 (.int .i64 2) fun t342 => (m50_j13 K (List.length h337) t342 x10v334 h337 x1v327 x4v329 x2v328 x7v331 x8v332 x9v333 x11v335 x5v330).bind fun r384 => (fun x1v385 x2v386 x4v387 x5v388 x7v389 x8v390 x9v391 x10v392 x11v393 h394 => Ex.thenDo r384.1 (fa 1 x10v392 fun t396 => ld true 4 h394 t396 fun t397 => (abuild [(.slice (Rw Op.cells []) .nil), (.int .i64 0), (.int .i64 0), (.int .i64 0), (.int .i64 0)] [(0, 1), (1, 4)] [(0, x11v393), (1, t397)]).bind fun t398 => bindVH (abuildSlice 1 5 [(.slice (Rw Op.cells []) .nil), (.int .i64 0), (.int .i64 0), (.int .i64 0), (.int .i64 0)] [(0, t398)] h394) fun t399 h400 => bindVH (aappend 5 56 h400 x8v390 t399) fun t401 h402 => endR m .normal [x1v385, x2v386, x4v387, x5v388, x7v389, t401, x9v391] h402) (fun e395 => endR m e395 [x1v385, x2v386, x4v387, x5v388, x7v389, x8v390, x9v391] h394)) (gd r384.2.1 0) (gd r384.2.1 1) (gd r384.2.1 2) (gd r384.2.1 3) (gd r384.2.1 4) (gd r384.2.1 5) (gd r384.2.1 6) (gd r384.2.1 7) (gd r384.2.1 8) r384.2.2) (fun e338 => endR m e338 [x1v327, x2v328, x4v329, x5v330, x7v331, x8v332, x9v333] h337))) (gd r325.2.1 0) (gd r325.2.1 1) (gd r325.2.1 2) (gd r325.2.1 3) (gd r325.2.1 4) (gd r325.2.1 5) (gd r325.2.1 6) (gd r325.2.1 7) (gd r325.2.1 8) (gd r325.2.1 9) r325.2.2) (.slice (Rw Op.cells []) (.own (List.length h68))) (h68 ++ [.front 0 0])
noncomputable def t50_b0 (p0 : IR) (w57 : (List Blk)) (w58 : Int) (p1 : (List Int)) (w55 : Int) (w56 : Int) : Option (Ey × Int × Int × (List Blk)) :=
  tb ((tidx p0.blocks w58)) fun u64 => tb (lpT (t50_l12 p1 u64) (w55, w56, [], 0)) fun r325 => exT r325.1 none fun e326 => ibT 2 e326 (tb (t50_j13 (decide (u64.term.kind = 2)) u64 p1 r325.2.2.1 r325.2.1) fun r384 => exT r384.1 (tb ((tapp 56 w57 [(⟨r325.2.2.2.1, r384.2.2.2.term⟩ : Blk)])) fun l403 => some (.n, (r384.2.1, r384.2.2.1, l403))) fun e395 => some (e395, (r384.2.1, r384.2.2.1, w57))) fun e338 => some (e338, (r325.2.1, r325.2.2.1, w57))
theorem r50_b0 (p0 : IR) (w57 : (List Blk)) (w58 : Int) (p1 : (List Int)) (w55 : Int) (w56 : Int) : (m50_b0 KK 5 (.ptr 0 0) ([.cells [(.int .i64 p0.temps), (.slice (Rw Arr.cells p0.arrays) .no), (.slice (Rw Blk.cells p0.blocks) .no), (.int .i64 p0.inn), (.int .i64 p0.out)], .cells [(.int .i64 0), (.slice (Rw Arr.cells []) (.own 2)), (.slice (Rw Blk.cells []) (.own 3)), (.int .i64 0), (.int .i64 0)], .front 0 0, .front 0 0, FRs 5 (List.length w57)] : Heap) (.int .i64 w58) (.slice (Rw (ci .i64) p1) .no) (.ptr 1 0) (.int .i64 w55) (.int .i64 w56) (.slice (Rw Blk.cells w57) (.own 4))) = tm (t50_b0 p0 w57 w58 p1 w55 w56) fun r => (r.1.ex, [(.slice (Rw (ci .i64) p1) .no), (.ptr 0 0), (.ptr 1 0), (.int .i64 r.2.1), (.int .i64 r.2.2.1), (.slice (Rw Blk.cells r.2.2.2) (.own 4)), (.int .i64 w58)], ([.cells [(.int .i64 p0.temps), (.slice (Rw Arr.cells p0.arrays) .no), (.slice (Rw Blk.cells p0.blocks) .no), (.int .i64 p0.inn), (.int .i64 p0.out)], .cells [(.int .i64 0), (.slice (Rw Arr.cells []) (.own 2)), (.slice (Rw Blk.cells []) (.own 3)), (.int .i64 0), (.int .i64 0)], .front 0 0, .front 0 0, FRs 5 (List.length r.2.2.2)] : Heap)) := by
  simp +contextual -implicitDefEqProofs (maxSteps := 2000000) [-acond_bool, -guardSel_true, -guardSel_false, -aindexSl_map, -aload_vptr, -aload_vptrT, -astore_vptr, m50_b0, t50_b0, r50_l12, r50_j13, bs50_15]
noncomputable def m50_l16 (K : CallO) (m : Nat) (s : List AVal × Heap) : Option R :=
  (fun x1v43 x2v44 x4v45 x5v46 x7v47 x8v48 x9v49 h50 => fa 2 x2v44 fun t51 => ld false 1 h50 t51 fun t52 => ln t52 fun t53 => bo .lss x9v49 t53 fun t54 => acond t54 ((m50_b0 K (List.length h50) x2v44 h50 x9v49 x1v43 x4v45 x5v46 x7v47 x8v48).bind fun r404 => (fun x1v405 x2v406 x4v407 x5v408 x7v409 x8v410 x9v411 h412 => Ex.inBlock 1 r404.1 (bo .add x9v411 (.int .i64 1) fun t414 => endR m .normal [x1v405, x2v406, x4v407, x5v408, x7v409, x8v410, t414] h412) (fun e413 => endR m e413 [x1v405, x2v406, x4v407, x5v408, x7v409, x8v410, x9v411] h412)) (gd r404.2.1 0) (gd r404.2.1 1) (gd r404.2.1 2) (gd r404.2.1 3) (gd r404.2.1 4) (gd r404.2.1 5) (gd r404.2.1 6) r404.2.2) (endR m (.exit 0) [x1v43, x2v44, x4v45, x5v46, x7v47, x8v48, x9v49] h50)) (gd s.1 0) (gd s.1 1) (gd s.1 2) (gd s.1 3) (gd s.1 4) (gd s.1 5) (gd s.1 6) s.2
noncomputable def t50_l16 (p1 : (List Int)) (p0 : IR) (s42 : Int × Int × (List Blk) × Int) : Option (Ey × Int × Int × (List Blk) × Int) :=
  tc (decide (s42.2.2.2 < ((List.length p0.blocks : Nat) : Int))) (tb (t50_b0 p0 s42.2.2.1 s42.2.2.2 p1 s42.1 s42.2.1) fun r404 => ibT 1 r404.1 (some (.n, (r404.2.1, r404.2.2.1, r404.2.2.2, (IntKind.wrap .i64 (s42.2.2.2 + 1))))) fun e413 => some (e413, (r404.2.1, r404.2.2.1, r404.2.2.2, s42.2.2.2))) (some ((.x 0), (s42.1, s42.2.1, s42.2.2.1, s42.2.2.2)))
theorem b50_l16 (p1 : (List Int)) (p0 : IR) (s42 : Int × Int × (List Blk) × Int) : m50_l16 KK 5 ([(.slice (Rw (ci .i64) p1) .no), (.ptr 0 0), (.ptr 1 0), (.int .i64 s42.1), (.int .i64 s42.2.1), (.slice (Rw Blk.cells s42.2.2.1) (.own 4)), (.int .i64 s42.2.2.2)], ([.cells [(.int .i64 p0.temps), (.slice (Rw Arr.cells p0.arrays) .no), (.slice (Rw Blk.cells p0.blocks) .no), (.int .i64 p0.inn), (.int .i64 p0.out)], .cells [(.int .i64 0), (.slice (Rw Arr.cells []) (.own 2)), (.slice (Rw Blk.cells []) (.own 3)), (.int .i64 0), (.int .i64 0)], .front 0 0, .front 0 0, FRs 5 (List.length s42.2.2.1)] : Heap)) = tm (t50_l16 p1 p0 s42) fun r => (r.1.ex, [(.slice (Rw (ci .i64) p1) .no), (.ptr 0 0), (.ptr 1 0), (.int .i64 r.2.1), (.int .i64 r.2.2.1), (.slice (Rw Blk.cells r.2.2.2.1) (.own 4)), (.int .i64 r.2.2.2.2)], ([.cells [(.int .i64 p0.temps), (.slice (Rw Arr.cells p0.arrays) .no), (.slice (Rw Blk.cells p0.blocks) .no), (.int .i64 p0.inn), (.int .i64 p0.out)], .cells [(.int .i64 0), (.slice (Rw Arr.cells []) (.own 2)), (.slice (Rw Blk.cells []) (.own 3)), (.int .i64 0), (.int .i64 0)], .front 0 0, .front 0 0, FRs 5 (List.length r.2.2.2.1)] : Heap)) := by
  simp +contextual -implicitDefEqProofs (maxSteps := 2000000) [-acond_bool, -guardSel_true, -guardSel_false, -aindexSl_map, -aload_vptr, -aload_vptrT, -astore_vptr, m50_l16, t50_l16, r50_b0]
theorem r50_l16 (p1 : (List Int)) (p0 : IR) (i1 : Int) (i2 : Int) (i4 : Int) : lpW (m50_l16 KK 5) ([(.slice (Rw (ci .i64) p1) .no), (.ptr 0 0), (.ptr 1 0), (.int .i64 i1), (.int .i64 i2), (.slice (Rw Blk.cells []) (.own 4)), (.int .i64 i4)], ([.cells [(.int .i64 p0.temps), (.slice (Rw Arr.cells p0.arrays) .no), (.slice (Rw Blk.cells p0.blocks) .no), (.int .i64 p0.inn), (.int .i64 p0.out)], .cells [(.int .i64 0), (.slice (Rw Arr.cells []) (.own 2)), (.slice (Rw Blk.cells []) (.own 3)), (.int .i64 0), (.int .i64 0)], .front 0 0, .front 0 0, .front 0 0] : Heap)) = tm (lpT (t50_l16 p1 p0) (i1, i2, [], i4)) fun r => (r.1.ex, [(.slice (Rw (ci .i64) p1) .no), (.ptr 0 0), (.ptr 1 0), (.int .i64 r.2.1), (.int .i64 r.2.2.1), (.slice (Rw Blk.cells r.2.2.2.1) (.own 4)), (.int .i64 r.2.2.2.2)], ([.cells [(.int .i64 p0.temps), (.slice (Rw Arr.cells p0.arrays) .no), (.slice (Rw Blk.cells p0.blocks) .no), (.int .i64 p0.inn), (.int .i64 p0.out)], .cells [(.int .i64 0), (.slice (Rw Arr.cells []) (.own 2)), (.slice (Rw Blk.cells []) (.own 3)), (.int .i64 0), (.int .i64 0)], .front 0 0, .front 0 0, FRs 5 (List.length r.2.2.2.1)] : Heap)) := by
  exact lpW_t (enc := fun s42 => ([(.slice (Rw (ci .i64) p1) .no), (.ptr 0 0), (.ptr 1 0), (.int .i64 s42.1), (.int .i64 s42.2.1), (.slice (Rw Blk.cells s42.2.2.1) (.own 4)), (.int .i64 s42.2.2.2)], ([.cells [(.int .i64 p0.temps), (.slice (Rw Arr.cells p0.arrays) .no), (.slice (Rw Blk.cells p0.blocks) .no), (.int .i64 p0.inn), (.int .i64 p0.out)], .cells [(.int .i64 0), (.slice (Rw Arr.cells []) (.own 2)), (.slice (Rw Blk.cells []) (.own 3)), (.int .i64 0), (.int .i64 0)], .front 0 0, .front 0 0, FRs 5 (List.length s42.2.2.1)] : Heap))) (fun s42 => b50_l16 p1 p0 s42) (i1, i2, [], i4)
noncomputable def m50 (K : CallO) (a0 a1 : AVal) (h0 : Heap) : Option (Res × Heap) :=
  (bindVH (anew 5 h0 a0) fun t20 h21 => bindVH (anew 5 h21 (.agg [(.int .i64 0), (.slice (Rw Arr.cells []) .nil), (.slice (Rw Blk.cells []) .nil), (.int .i64 0), (.int .i64 0)])) fun t22 h23 => ld true 5 h23 t20 fun t24 => ca (K 64 [(AVal.untok t24)] h23) fun t25 h26 => bo .neq t25 (.int .i64 0) fun t28 => acond t28 ((abuild [(.int .i64 0), (.slice (Rw Arr.cells []) .nil), (.slice (Rw Blk.cells []) .nil), (.int .i64 0), (.int .i64 0)] [(0, 1), (1, 1), (2, 1), (3, 1), (4, 1)] []).bind fun t29 => (astore 5 h26 t22 t29).bind fun h30 => some (.ret, [t22, t25], h30)) (ln a1 fun t31 => fa 0 t20 fun t32 => ld false 1 h26 t32 fun t33 => bo .neq t31 t33 fun t34 => acond t34 ((abuild [(.int .i64 0), (.slice (Rw Arr.cells []) .nil), (.slice (Rw Blk.cells []) .nil), (.int .i64 0), (.int .i64 0)] [(0, 1), (1, 1), (2, 1), (3, 1), (4, 1)] []).bind fun t35 => (astore 5 h26 t22 t35).bind fun h36 => some (.ret, [t22, (.int .i64 2)], h36)) ((fun (t38 : AVal) (h37 : Heap) => (lpW (m50_l16 K (List.length h37)) ([a1, t20, t22, (.int .i64 0), (.int .i64 0), t38, (.int .i64 0)], h37)).bind fun r415 => (fun x1v417 x2v418 x4v419 x5v420 x7v421 x8v422 x9v423 h424 => Ex.thenDo r415.1 none (fun e416 => Ex.inBlock 0 e416 (fa 2 x2v418 fun t426 => (astore 1 h424 t426 x8v422).bind fun h427 => fa 0 x2v418 fun t428 => (astore 1 h427 t428 x7v421).bind fun h429 => ld true 5 h429 x2v418 fun t430 => (astore 5 h429 x4v419 t430).bind fun h431 => some (.ret, [x4v419, (.int .i64 0)], h431)) (fun e425 => some (e425, [x4v419, x5v420], h424)))) (gd r415.2.1 0) (gd r415.2.1 1) (gd r415.2.1 2) (gd r415.2.1 3) (gd r415.2.1 4) (gd r415.2.1 5) (gd r415.2.1 6) r415.2.2) (.slice (Rw Blk.cells []) (.own (List.length h26))) (h26 ++ [.front 0 0])))).bind (m50_k (List.length h0))
theorem m50_eq (K : CallO) (a0 a1 : AVal) (h0 : Heap) : evB Tryd.prog ann lpW K 50 [a0, a1] h0 = m50 (callP ann K) a0 a1 h0 := by kernel_rfl
noncomputable def t50 (p0 : IR) (p1 : (List Int)) : Option (IR × Int) :=
  tb ((t64 p0)) fun r27 => tc (!decide (r27 = 0)) (some ((⟨0, [], [], 0, 0⟩ : IR), r27)) (tc (!decide (((List.length p1 : Nat) : Int) = p0.temps)) (some ((⟨0, [], [], 0, 0⟩ : IR), 2)) (tb (lpT (t50_l16 p1 p0) (0, 0, [], 0)) fun r415 => exT r415.1 none fun e416 => ibT 0 e416 (some ((⟨r415.2.2.1, p0.arrays, r415.2.2.2.1, p0.inn, p0.out⟩ : IR), 0)) fun e425 => efT e425 (some ((⟨0, [], [], 0, 0⟩ : IR), r415.2.1))))
theorem b50 (p0 : IR) (p1 : (List Int)) : m50 KK (.agg [(.int .i64 p0.temps), (.slice (Rw Arr.cells p0.arrays) .no), (.slice (Rw Blk.cells p0.blocks) .no), (.int .i64 p0.inn), (.int .i64 p0.out)]) (.slice (Rw (ci .i64) p1) .no) [] = tm (t50 p0 p1) fun r => (.ret (.tuple [(.agg [(.int .i64 r.1.temps), (.slice (Rw Arr.cells r.1.arrays) .no), (.slice (Rw Blk.cells r.1.blocks) .no), (.int .i64 r.1.inn), (.int .i64 r.1.out)]), (.int .i64 r.2)]), []) := by
  simp +contextual -implicitDefEqProofs (maxSteps := 2000000) [-acond_bool, -guardSel_true, -guardSel_false, -aindexSl_map, -aload_vptr, -aload_vptrT, -astore_vptr, m50, t50, r64, r50_l16, m50_k]
theorem r50 (p0 : IR) (p1 : (List Int)) (h : Heap) : KK 50 [(.agg [(.int .i64 p0.temps), (.slice (Rw Arr.cells p0.arrays) .no), (.slice (Rw Blk.cells p0.blocks) .no), (.int .i64 p0.inn), (.int .i64 p0.out)]), (.slice (Rw (ci .i64) p1) .no)] h = tm (t50 p0 p1) fun r => (.ret (.tuple [(.agg [(.int .i64 r.1.temps), (.slice (Rw Arr.cells r.1.arrays) .no), (.slice (Rw Blk.cells r.1.blocks) .no), (.int .i64 r.1.inn), (.int .i64 r.1.out)]), (.int .i64 r.2)]), h) := call_t rfl rfl (m50_eq ..) (b50 p0 p1)
end Go.Proofs.YtkeoalhglkfbkaaDoor

/-
  Slots in the place of temps, plainly: what 'Apply' does. No conditions.
-/
namespace Go.Proofs.YtkeoalhglkfbkaaDoor
open Go Hk

theorem tidx_nat {α : Type} {xs : List α} {i : Nat} : tidx xs (i : Int) = xs[i]? := by simp [tidx]
theorem tapp_one {α : Type} {by_ : Nat} {xs ys : List α} (hb : by_ ≤ 100) (hl : xs.length ≤ 4000000) (hy : ys.length ≤ 4000000) : tapp by_ xs ys = some (xs ++ ys) := by
  unfold tapp
  rw [if_pos]
  have : (xs.length + ys.length) * by_ ≤ 8000000 * 100 := Nat.mul_le_mul (by omega) hb
  omega

def sl (l : List Int) (t : Int) : Int := l.getD t.toNat 0
def okT (l : List Int) (t : Int) : Bool := decide (0 ≤ sl l t) && decide (sl l t < 1048576)
def uR (l : List Int) (t : Int) : Int := min (sl l t) 1048576
def capS (l : List Int) : List Int := l.map fun s => min s 1048576
def stepR (l : List Int) (r : Renamer) (t : Int) : Renamer := ⟨r.slots, max r.most (IntKind.wrap .i64 (uR l t + 1)), r.bad || !okT l t⟩
theorem stepR_slots {l : List Int} {ts : List Int} {r : Renamer} : (ts.foldl (stepR l) r).slots = r.slots := by
  induction ts generalizing r with
  | nil => rfl
  | cons t ts ih => rw [List.foldl_cons, ih]; rfl

theorem t97_s {l : List Int} (hl : l.length ≤ 2000000) : t97 l = some (capS l) := by
  have key : ∀ (d i : Nat), l.length = i + d → lpT (t97_l1 l ((l.length : Nat) : Int)) (capS (l.take i), (i : Int)) = some (.x 0, (capS l, (l.length : Int))) := by
    intro d
    induction d with
    | zero =>
      intro i hi
      obtain rfl : i = l.length := by omega
      rw [List.take_length]
      refine lpT_out ?_ (by simp)
      simp [t97_l1]
    | succ d ih =>
      intro i hi
      rw [← ih (i + 1) (by omega)]
      refine lpT_go ?_
      have hil : i < l.length := by omega
      have e1 : tidx l (i : Int) = some l[i] := by rw [tidx_nat, List.getElem?_eq_getElem hil]
      have e2 : tapp 8 (capS (l.take i)) [min l[i] 1048576] = some (capS (l.take (i + 1))) := by
        rw [tapp_one (by omega) (by simp [capS]; omega) (by simp), List.take_succ_eq_append_getElem hil]
        simp only [capS, List.map_append, List.map_cons, List.map_nil]
      have w1 : IntKind.i64.wrap ((i : Int) + 1) = ((i + 1 : Nat) : Int) := by rw [wrap64 (by omega) (by omega), Int.natCast_add]; rfl
      have hii : (i : Int) < (l.length : Int) := by omega
      simp only [t97_l1, e1, hii, decide_true, tc_true, tb_some, e2, w1]
  have := key l.length 0 (by omega)
  have e0 : ((0 : Nat) : Int) = 0 := rfl
  have e1 : capS (l.take 0) = [] := rfl
  rw [e0, e1] at this
  simp [t97, this]

theorem t99_s {l : List Int} {t : Int} {r : Renamer} (h0 : 0 ≤ t) (h1 : t.toNat < l.length) (hr : r.slots = capS l) : t99 t r = some (uR l t, stepR l r t) := by
  have e1 : tidx r.slots t = some (uR l t) := by
    rw [hr]
    unfold tidx
    rw [if_pos h0]
    unfold capS uR sl
    rw [List.getElem?_map, List.getElem?_eq_getElem h1, List.getD_eq_getElem?_getD, List.getElem?_eq_getElem h1]
    rfl
  have e2 : (!okT l t) = (decide (uR l t < 0) || decide (1048576 ≤ uR l t)) := by
    unfold okT uR
    rw [Bool.eq_iff_iff]
    simp
    omega
  unfold t99
  rw [e1, tb_some]
  unfold stepR
  rw [e2]
  obtain ⟨rs, rm, rb⟩ := r
  cases rb
  · by_cases h2 : uR l t < 0 <;> simp [t99_s0, t99_s1, h2]
  · simp [t99_s0, t99_s1]

def tsO (o : Op) : List Int := usesS o ++ if (formS o.kind).dst = true then [o.dst] else []
def mapU (l : List Int) (o : Op) : Op :=
  ⟨o.kind, if (formS o.kind).dst = true then uR l o.dst else o.dst, if 1 ≤ (formS o.kind).src then uR l o.a else o.a, if 2 ≤ (formS o.kind).src then uR l o.b else o.b, if 3 ≤ (formS o.kind).src then uR l o.c else o.c, o.imm⟩

theorem t98_s {l : List Int} {o : Op} {r : Renamer} (ht : ∀ t ∈ tsO o, 0 ≤ t ∧ t.toNat < l.length) (hr : r.slots = capS l) : t98 o.kind o.dst o.a o.b o.c o.imm r = some (mapU l o, (tsO o).foldl (stepR l) r) := by
  have hs := form_src o.kind
  have key : ∀ (t : Int) (r : Renamer), t ∈ tsO o → r.slots = capS l → t99 t r = some (uR l t, stepR l r t) := fun t r hm hr => t99_s (ht t hm).1 (ht t hm).2 hr
  have eta : ∀ r : Renamer, (⟨r.slots, r.most, r.bad⟩ : Renamer) = r := fun r => rfl
  have hsl : ∀ (r : Renamer) t, (stepR l r t).slots = r.slots := fun r t => rfl
  unfold t98
  simp only [t74, tb_some]
  unfold mapU tsO at *
  unfold usesS at *
  generalize hf : (formS o.kind).src = n at *
  cases hd : (formS o.kind).dst <;> rw [hd] at key ht <;>
    rcases (show n = 0 ∨ n = 1 ∨ n = 2 ∨ n = 3 by omega) with rfl | rfl | rfl | rfl <;>
    simp [t98_j0, t98_j2, t98_j4, t98_j6, t73, hd, eta, key, hr, hsl]

theorem t49_l3_s {l : List Int} {b : Blk} (hb : b.ops.length ≤ 2000000) (ht : ∀ o ∈ b.ops, ∀ t ∈ tsO o, 0 ≤ t ∧ t.toNat < l.length) : ∀ (d i : Nat) (r : Renamer), b.ops.length = i + d → r.slots = capS l →
    lpT (t49_l3 b ((b.ops.length : Nat) : Int)) ((b.ops.take i).map (mapU l), (i : Int), r) = some (.x 2, (b.ops.map (mapU l), (b.ops.length : Int), ((b.ops.drop i).flatMap tsO).foldl (stepR l) r)) := by
  intro d
  induction d with
  | zero =>
    intro i r hi hr
    obtain rfl : i = b.ops.length := by omega
    rw [List.take_length, List.drop_length]
    refine lpT_out ?_ (by simp)
    simp [t49_l3]
  | succ d ih =>
    intro i r hi hr
    have hil : i < b.ops.length := by omega
    have hm : b.ops[i] ∈ b.ops := List.getElem_mem hil
    have e3 : (b.ops.drop i).flatMap tsO = tsO b.ops[i] ++ (b.ops.drop (i + 1)).flatMap tsO := by rw [List.drop_eq_getElem_cons hil, List.flatMap_cons]
    rw [e3, List.foldl_append, ← ih (i + 1) _ (by omega) (by rw [stepR_slots]; exact hr)]
    refine lpT_go ?_
    have e1 : tidx b.ops (i : Int) = some b.ops[i] := by rw [tidx_nat, List.getElem?_eq_getElem hil]
    have e4 := t98_s (ht _ hm) hr
    have e2 : tapp 48 ((b.ops.take i).map (mapU l)) [mapU l b.ops[i]] = some ((b.ops.take (i + 1)).map (mapU l)) := by
      rw [tapp_one (by omega) (by simp; omega) (by simp), List.take_succ_eq_append_getElem hil]
      simp only [List.map_append, List.map_cons, List.map_nil]
    have w1 : IntKind.i64.wrap ((i : Int) + 1) = ((i + 1 : Nat) : Int) := by rw [wrap64 (by omega) (by omega), Int.natCast_add]; rfl
    have hii : (i : Int) < (b.ops.length : Int) := by omega
    simp only [t49_l3, e1, hii, decide_true, tc_true, tb_some, e4, e2, w1]

def tsB (b : Blk) : List Int := b.ops.flatMap tsO ++ if b.term.kind = 2 then [b.term.a] else []
def mapB (l : List Int) (b : Blk) : Blk := ⟨b.ops.map (mapU l), if b.term.kind = 2 then ⟨b.term.kind, uR l b.term.a, b.term.yes, b.term.no⟩ else b.term⟩
/-- All temps of a program may be slots' places. -/
def InT (p : IR) (l : List Int) : Prop := (∀ b ∈ p.blocks, b.ops.length ≤ 2000000 ∧ ∀ t ∈ tsB b, 0 ≤ t ∧ t.toNat < l.length) ∧ p.blocks.length ≤ 2000000
theorem t49_b0_s {p : IR} {l : List Int} {i : Nat} {b : Blk} {r : Renamer} {bs : List Blk} (hb : p.blocks[i]? = some b) (hi : InT p l) (hr : r.slots = capS l) (hbs : bs.length ≤ 2000000) :
    t49_b0 p (i : Int) r.slots r.most r.bad bs = some (.n, (bs ++ [mapB l b], (tsB b).foldl (stepR l) r)) := by
  obtain ⟨h1, h2⟩ := hi.1 b (List.mem_of_getElem? hb)
  have g := t49_l3_s (l := l) h1 (fun o ho t ht => h2 t (by unfold tsB; exact List.mem_append_left _ (List.mem_flatMap.2 ⟨o, ho, ht⟩))) b.ops.length 0 r (by omega) hr
  have e0 : ((0 : Nat) : Int) = 0 := rfl
  simp only [List.take_zero, List.map_nil, List.drop_zero, e0] at g
  have eta : (⟨r.slots, r.most, r.bad⟩ : Renamer) = r := rfl
  have e1 : tidx p.blocks (i : Int) = some b := by rw [tidx_nat, hb]
  unfold t49_b0
  rw [e1, tb_some, eta, g, tb_some]
  simp only [exT, ibT, beq_self_eq_true, cond_true]
  generalize hR : (b.ops.flatMap tsO).foldl (stepR l) r = R at *
  have hRs : R.slots = capS l := by rw [← hR, stepR_slots, hr]
  have eR : (⟨R.slots, R.most, R.bad⟩ : Renamer) = R := rfl
  unfold mapB tsB
  rw [List.foldl_append, hR]
  by_cases hk : b.term.kind = 2
  · have hm : b.term.a ∈ tsB b := by unfold tsB; rw [if_pos hk]; simp
    have e5 := t99_s (r := R) (h2 _ hm).1 (h2 _ hm).2 hRs
    simp only [t49_j4, hk, decide_true, tc_true, eR, e5, tb_some, if_true]
    rw [tapp_one (by omega) (by omega) (by simp)]
    simp [hk]
  · simp only [t49_j4, hk, decide_false, tc_false, eR, tb_some, if_false]
    rw [tapp_one (by omega) (by omega) (by simp)]
    simp
theorem t49_l7_s {p : IR} {l : List Int} (hi : InT p l) : ∀ (d i : Nat) (r : Renamer), p.blocks.length = i + d → r.slots = capS l →
    lpT (t49_l7 p ((p.blocks.length : Nat) : Int)) ((p.blocks.take i).map (mapB l), (i : Int), r) = some (.x 0, (p.blocks.map (mapB l), (p.blocks.length : Int), ((p.blocks.drop i).flatMap tsB).foldl (stepR l) r)) := by
  have hn := hi.2
  intro d
  induction d with
  | zero =>
    intro i r hd hr
    obtain rfl : i = p.blocks.length := by omega
    rw [List.take_length, List.drop_length]
    refine lpT_out ?_ (by simp)
    simp [t49_l7]
  | succ d ih =>
    intro i r hd hr
    have hil : i < p.blocks.length := by omega
    have e3 : (p.blocks.drop i).flatMap tsB = tsB p.blocks[i] ++ (p.blocks.drop (i + 1)).flatMap tsB := by rw [List.drop_eq_getElem_cons hil, List.flatMap_cons]
    rw [e3, List.foldl_append, ← ih (i + 1) _ (by omega) (by rw [stepR_slots]; exact hr)]
    refine lpT_go ?_
    have e4 := t49_b0_s (bs := (p.blocks.take i).map (mapB l)) (List.getElem?_eq_getElem hil) hi hr (by simp; omega)
    have e2 : (p.blocks.take i).map (mapB l) ++ [mapB l p.blocks[i]] = (p.blocks.take (i + 1)).map (mapB l) := by
      rw [List.take_succ_eq_append_getElem hil]; simp only [List.map_append, List.map_cons, List.map_nil]
    have w1 : IntKind.i64.wrap ((i : Int) + 1) = ((i + 1 : Nat) : Int) := by rw [wrap64 (by omega) (by omega), Int.natCast_add]; rfl
    have hii : (i : Int) < (p.blocks.length : Int) := by omega
    rw [e2] at e4
    simp only [t49_l7, hii, decide_true, tc_true, e4, tb_some, w1, ibT_normal]

def zeroIR : IR := ⟨0, [], [], 0, 0⟩
def allT (p : IR) : List Int := p.blocks.flatMap tsB
def appS (p : IR) (l : List Int) : IR × Int :=
  if checkS p ≠ 0 then (zeroIR, checkS p) else if (l.length : Int) ≠ p.temps then (zeroIR, 2) else
  if ((allT p).foldl (stepR l) ⟨capS l, 0, false⟩).bad = true then (zeroIR, 2) else (⟨((allT p).foldl (stepR l) ⟨capS l, 0, false⟩).most, p.arrays, p.blocks.map (mapB l), p.inn, p.out⟩, 0)
theorem inT_of {p : IR} {l : List Int} (h0 : checkS p = 0) (hl : (l.length : Int) = p.temps) : InT p l := by
  obtain ⟨hp, _⟩ := opsOk_of h0
  refine ⟨fun b hb => ⟨by have := hp.len b hb; omega, fun t ht => ?_⟩, by have := hp.nb; omega⟩
  have key : 0 ≤ t ∧ t < p.temps := by
    unfold tsB at ht
    rcases List.mem_append.1 ht with h | h
    · obtain ⟨o, ho, h⟩ := List.mem_flatMap.1 h
      unfold tsO at h
      rcases List.mem_append.1 h with h | h
      · exact hp.use b hb o ho t h
      · by_cases hd : (formS o.kind).dst = true
        · rw [if_pos hd] at h; simp at h; subst h; exact hp.made b hb o ho hd
        · rw [if_neg hd] at h; simp at h
    · by_cases hk : b.term.kind = 2
      · rw [if_pos hk] at h; simp at h; subst h; exact hp.term b hb hk
      · rw [if_neg hk] at h; simp at h
  omega
theorem t49_s (p : IR) (l : List Int) : t49 p l = some (appS p l) := by
  unfold t49 appS
  simp only [t30, tb_some]
  by_cases h0 : checkS p = 0
  · by_cases hl : (l.length : Int) = p.temps
    · have hi := inT_of h0 hl
      obtain ⟨hp, _⟩ := opsOk_of h0
      obtain ⟨l00, _, _⟩ := checkS_zero h0
      have hal := l00.a1
      have hll : l.length ≤ 2000000 := by have := hp.temps; omega
      have g := t49_l7_s hi p.blocks.length 0 ⟨capS l, 0, false⟩ (by omega) rfl
      have e0 : ((0 : Nat) : Int) = 0 := rfl
      simp only [List.take_zero, List.map_nil, List.drop_zero, e0] at g
      have ea : tapp 32 [] p.arrays = some p.arrays := by rw [tapp_one (by omega) (by simp) (by omega)]; rfl
      have fa : (p.blocks.flatMap tsB) = allT p := rfl
      rw [fa] at g
      generalize (allT p).foldl (stepR l) ⟨capS l, 0, false⟩ = R at *
      rw [t97_s hll, tb_some, g, tb_some]
      simp only [h0, hl, exT, ibT, beq_self_eq_true, cond_true, decide_true, Bool.not_true, tc_false, ea, tb_some, ne_eq, not_true_eq_false, if_false]
      cases hR : R.bad with
      | true => simp [zeroIR]
      | false =>
        cases ha : p.arrays with
        | nil => simp
        | cons x r => simp
    · simp [h0, hl, zeroIR]
  · simp [h0, zeroIR]
end Go.Proofs.YtkeoalhglkfbkaaDoor

/-
  Slots in the place of temps, plainly: what the document's 'Apply' does. No conditions.
-/
namespace Go.Proofs.YtkeoalhglkfbkaaDoor
open Go Hk

def maxT (l : List Int) (m : Int) (ts : List Int) : Int := ts.foldl (fun m t => max m (IntKind.wrap .i64 (sl l t + 1))) m
def mapT (l : List Int) (o : Op) : Op :=
  ⟨o.kind, if (formS o.kind).dst = true then sl l o.dst else o.dst, if 1 ≤ (formS o.kind).src then sl l o.a else 0, if 2 ≤ (formS o.kind).src then sl l o.b else 0, if 3 ≤ (formS o.kind).src then sl l o.c else 0, o.imm⟩
theorem tidx_sl {l : List Int} {t : Int} (h0 : 0 ≤ t) (h1 : t.toNat < l.length) : tidx l t = some (sl l t) := by
  unfold tidx sl
  rw [if_pos h0, List.getD_eq_getElem?_getD, List.getElem?_eq_getElem h1]; rfl
section
variable {l L us : List Int} {j : Nat} {e m t : Int}
theorem tin_nat {n : Nat} (h : j < n) : tin n (j : Int) = some j := by simp [tin, h]
theorem l8_ok (hn : us.length = L.length) (hj : j < 3) (hL : 3 ≤ L.length) (hu : us[j]? = some t) (h0 : 0 ≤ t) (h1 : t.toNat < l.length) (hk : okT l t = true) :
    t50_l8 l L (e, m, (j : Int), us) = some (.n, (e, max m (IntKind.wrap .i64 (sl l t + 1)), ((j + 1 : Nat) : Int), us.set j (sl l t))) := by
  have ht : tin L.length (j : Int) = some j := tin_nat (by omega)
  have g1 : tvg L.length us j = some t := by simp [tvg, hn, hu]
  have x1 := tidx_sl h0 h1
  have s1 : tvs L.length us j (sl l t) = some (us.set j (sl l t)) := by simp [tvs, hn]; omega
  have g2 : tvg L.length (us.set j (sl l t)) j = some (sl l t) := by unfold tvg; rw [if_pos (by simp [hn]), List.getElem?_set_self (by omega)]
  have w1 : IntKind.i64.wrap ((j : Int) + 1) = ((j + 1 : Nat) : Int) := by rw [wrap64 (by omega) (by omega), Int.natCast_add]; rfl
  have hj3 : (j : Int) < 3 := by omega
  unfold okT at hk
  simp only [Bool.and_eq_true, decide_eq_true_eq] at hk
  have k1 : ¬ sl l t < 0 := by omega
  have k2 : ¬ 1048576 ≤ sl l t := by omega
  simp only [t50_l8, t50_b3, t50_j4, t50_s6, hj3, decide_true, tc_true, ht, tb_some, g1, h0, x1, s1, g2, k1, k2, decide_false, tc_false, exT_normal, ibT_normal, w1]
theorem l8_bad (hn : us.length = L.length) (hj : j < 3) (hL : 3 ≤ L.length) (hu : us[j]? = some t) (h0 : 0 ≤ t) (h1 : t.toNat < l.length) (hk : okT l t = false) :
    ∃ q, t50_l8 l L (e, m, (j : Int), us) = some (.r, (2, q)) := by
  have ht : tin L.length (j : Int) = some j := tin_nat (by omega)
  have g1 : tvg L.length us j = some t := by simp [tvg, hn, hu]
  have x1 := tidx_sl h0 h1
  have s1 : tvs L.length us j (sl l t) = some (us.set j (sl l t)) := by simp [tvs, hn]; omega
  have g2 : tvg L.length (us.set j (sl l t)) j = some (sl l t) := by unfold tvg; rw [if_pos (by simp [hn]), List.getElem?_set_self (by omega)]
  have hj3 : (j : Int) < 3 := by omega
  by_cases k1 : sl l t < 0
  · exact ⟨_, by simp only [t50_l8, t50_b3, t50_j4, t50_s6, hj3, decide_true, tc_true, ht, tb_some, g1, h0, x1, s1, g2, k1, exT_ret, ibT_ret]; rfl⟩
  · have k2 : 1048576 ≤ sl l t := by
      refine Classical.byContradiction fun h => ?_
      have : okT l t = true := by simp [okT]; omega
      rw [this] at hk; cases hk
    exact ⟨_, by simp only [t50_l8, t50_b3, t50_j4, t50_s6, hj3, decide_true, tc_true, ht, tb_some, g1, h0, x1, s1, g2, k1, k2, decide_false, tc_false, exT_ret, ibT_ret]; rfl⟩
theorem l8_none (hn : us.length = L.length) (hj : j < 3) (hL : 3 ≤ L.length) (hu : us[j]? = some (-1)) :
    t50_l8 l L (e, m, (j : Int), us) = some (.n, (e, m, ((j + 1 : Nat) : Int), us.set j 0)) := by
  have ht : tin L.length (j : Int) = some j := tin_nat (by omega)
  have g1 : tvg L.length us j = some (-1) := by simp [tvg, hn, hu]
  have s1 : tvs L.length us j 0 = some (us.set j 0) := by simp [tvs, hn]; omega
  have w1 : IntKind.i64.wrap ((j : Int) + 1) = ((j + 1 : Nat) : Int) := by rw [wrap64 (by omega) (by omega), Int.natCast_add]; rfl
  have hj3 : (j : Int) < 3 := by omega
  have k0 : ¬ (0 : Int) ≤ -1 := by omega
  simp only [t50_l8, t50_b3, t50_j4, hj3, decide_true, tc_true, ht, tb_some, g1, k0, decide_false, tc_false, s1, exT_normal, ibT_normal, w1]
theorem l8_end {us : List Int} : t50_l8 l L (e, m, ((3 : Nat) : Int), us) = some (.x 4, (e, m, 3, us)) := by
  simp [t50_l8]
/-- The three places gone through. -/
theorem l8_all {a b c : Int} {n : Nat} (hn : n ≤ 3) (hL : L = [a, b, c].take n ++ [-1, -1, -1]) (ht : ∀ t ∈ [a, b, c].take n, 0 ≤ t ∧ t.toNat < l.length) :
    ((∀ t ∈ [a, b, c].take n, okT l t = true) ∧ ∃ U, U.length = L.length ∧ lpT (t50_l8 l L) (e, m, 0, L) = some (.x 4, (e, maxT l m ([a, b, c].take n), 3, U)) ∧
      U[0]? = some (if 1 ≤ n then sl l a else 0) ∧ U[1]? = some (if 2 ≤ n then sl l b else 0) ∧ U[2]? = some (if 3 ≤ n then sl l c else 0)) ∨
    (¬ (∀ t ∈ [a, b, c].take n, okT l t = true) ∧ ∃ q, lpT (t50_l8 l L) (e, m, 0, L) = some (.r, (2, q))) := by
  have z0 : ((0 : Nat) : Int) = 0 := rfl
  have h3 : 3 ≤ L.length := by rw [hL]; simp
  have go : ∀ {j : Nat} {us : List Int} {m : Int} {t : Int}, us.length = L.length → j < 3 → us[j]? = some t → 0 ≤ t → t.toNat < l.length → okT l t = true →
      lpT (t50_l8 l L) (e, m, (j : Int), us) = lpT (t50_l8 l L) (e, max m (IntKind.wrap .i64 (sl l t + 1)), ((j + 1 : Nat) : Int), us.set j (sl l t)) := fun h1 h2 h4 h5 h6 h7 => lpT_go (l8_ok h1 h2 h3 h4 h5 h6 h7)
  have out : ∀ {j : Nat} {us : List Int} {m : Int} {t : Int}, us.length = L.length → j < 3 → us[j]? = some t → 0 ≤ t → t.toNat < l.length → okT l t = false →
      ∃ q, lpT (t50_l8 l L) (e, m, (j : Int), us) = some (.r, (2, q)) := fun h1 h2 h4 h5 h6 h7 => by
    obtain ⟨q, hq⟩ := l8_bad (e := e) h1 h2 h3 h4 h5 h6 h7
    exact ⟨q, lpT_out hq (by simp)⟩
  have none : ∀ {j : Nat} {us : List Int} {m : Int}, us.length = L.length → j < 3 → us[j]? = some (-1) → lpT (t50_l8 l L) (e, m, (j : Int), us) = lpT (t50_l8 l L) (e, m, ((j + 1 : Nat) : Int), us.set j 0) := fun h1 h2 h4 => lpT_go (l8_none h1 h2 h3 h4)
  have fin : ∀ {us : List Int} {m : Int}, lpT (t50_l8 l L) (e, m, ((3 : Nat) : Int), us) = some (.x 4, (e, m, 3, us)) := fun {us m} => lpT_out l8_end (by simp)
  rw [← z0]
  rcases (show n = 0 ∨ n = 1 ∨ n = 2 ∨ n = 3 by omega) with rfl | rfl | rfl | rfl
  · simp only [List.take_zero, List.nil_append] at hL
    have hl : L.length = 3 := by rw [hL]; rfl
    refine .inl ⟨by simp, [0, 0, 0], by rw [hl]; rfl, ?_, rfl, rfl, rfl⟩
    rw [none rfl (by omega) (by rw [hL]; rfl), none (by simp) (by omega) (by rw [hL]; rfl), none (by simp) (by omega) (by rw [hL]; rfl), fin, hL]; rfl
  · simp only [List.take_succ_cons, List.take_zero, List.cons_append, List.nil_append] at hL ht ⊢
    have hl : L.length = 4 := by rw [hL]; rfl
    obtain ⟨a0, a1⟩ := ht a (by simp)
    cases ka : okT l a with
    | false => exact .inr ⟨by simp [ka], out rfl (by omega) (by rw [hL]; rfl) a0 a1 ka⟩
    | true =>
      refine .inl ⟨by simp [ka], [sl l a, 0, 0, -1], by rw [hl]; rfl, ?_, rfl, rfl, rfl⟩
      rw [go rfl (by omega) (by rw [hL]; rfl) a0 a1 ka, none (by simp) (by omega) (by rw [hL]; rfl), none (by simp) (by omega) (by rw [hL]; rfl), fin, hL]; rfl
  · simp only [List.take_succ_cons, List.take_zero, List.cons_append, List.nil_append] at hL ht ⊢
    have hl : L.length = 5 := by rw [hL]; rfl
    obtain ⟨a0, a1⟩ := ht a (by simp)
    obtain ⟨b0, b1⟩ := ht b (by simp)
    cases ka : okT l a with
    | false => exact .inr ⟨by simp [ka], out rfl (by omega) (by rw [hL]; rfl) a0 a1 ka⟩
    | true =>
      rw [go rfl (by omega) (by rw [hL]; rfl) a0 a1 ka]
      cases kb : okT l b with
      | false => exact .inr ⟨by simp [kb], out (by simp) (by omega) (by rw [hL]; rfl) b0 b1 kb⟩
      | true =>
        refine .inl ⟨by simp [ka, kb], [sl l a, sl l b, 0, -1, -1], by rw [hl]; rfl, ?_, rfl, rfl, rfl⟩
        rw [go (by simp) (by omega) (by rw [hL]; rfl) b0 b1 kb, none (by simp) (by omega) (by rw [hL]; rfl), fin, hL]; rfl
  · simp only [List.take_succ_cons, List.take_zero, List.cons_append, List.nil_append] at hL ht ⊢
    have hl : L.length = 6 := by rw [hL]; rfl
    obtain ⟨a0, a1⟩ := ht a (by simp)
    obtain ⟨b0, b1⟩ := ht b (by simp)
    obtain ⟨c0, c1⟩ := ht c (by simp)
    cases ka : okT l a with
    | false => exact .inr ⟨by simp [ka], out rfl (by omega) (by rw [hL]; rfl) a0 a1 ka⟩
    | true =>
      rw [go rfl (by omega) (by rw [hL]; rfl) a0 a1 ka]
      cases kb : okT l b with
      | false => exact .inr ⟨by simp [kb], out (by simp) (by omega) (by rw [hL]; rfl) b0 b1 kb⟩
      | true =>
        rw [go (by simp) (by omega) (by rw [hL]; rfl) b0 b1 kb]
        cases kc : okT l c with
        | false => exact .inr ⟨by simp [kc], out (by simp) (by omega) (by rw [hL]; rfl) c0 c1 kc⟩
        | true =>
          refine .inl ⟨by simp [ka, kb, kc], [sl l a, sl l b, sl l c, -1, -1, -1], by rw [hl]; rfl, ?_, rfl, rfl, rfl⟩
          rw [go (by simp) (by omega) (by rw [hL]; rfl) c0 c1 kc, fin, hL]; rfl
end
section
variable {l : List Int}
theorem t50_b1_s {b : Blk} {ops : List Op} {k : Nat} {o : Op} {e m : Int} (ho : b.ops[k]? = some o) (hl : ops.length ≤ 2000000) (ht : ∀ t ∈ tsO o, 0 ≤ t ∧ t.toNat < l.length) :
    ((∀ t ∈ tsO o, okT l t = true) ∧ t50_b1 b ops (k : Int) l e m = some (.n, (e, maxT l m (tsO o), ops ++ [mapT l o]))) ∨ (¬ (∀ t ∈ tsO o, okT l t = true) ∧ ∃ q, t50_b1 b ops (k : Int) l e m = some (.r, (2, q))) := by
  have hs := form_src o.kind
  have e1 : tidx b.ops (k : Int) = some o := by rw [tidx_nat, ho]
  have eL : tapp 8 (usesS o) [-1, -1, -1] = some (usesS o ++ [-1, -1, -1]) := tapp_one (by omega) (by have := uses_len o; omega) (by simp)
  have hu : ∀ t ∈ usesS o, 0 ≤ t ∧ t.toNat < l.length := fun t h => ht t (by unfold tsO; exact List.mem_append_left _ h)
  have g := l8_all (l := l) (e := e) (m := m) (L := usesS o ++ [-1, -1, -1]) (a := o.a) (b := o.b) (c := o.c) hs rfl hu
  have eu : [o.a, o.b, o.c].take (formS o.kind).src = usesS o := rfl
  rw [eu] at g
  unfold t50_b1
  simp only [e1, tb_some, t100, eL]
  generalize usesS o ++ [-1, -1, -1] = L at *
  rcases g with ⟨hok, U, hUl, g, u0, u1, u2⟩ | ⟨hbad, q, g⟩
  · rw [g, tb_some]
    have hL3 : 3 ≤ U.length := by
      have := (List.getElem?_eq_some_iff.1 u2).1; omega
    have i0 : tin L.length 0 = some 0 := tin_nat (j := 0) (by omega)
    have i1 : tin L.length 1 = some 1 := tin_nat (j := 1) (by omega)
    have i2 : tin L.length 2 = some 2 := tin_nat (j := 2) (by omega)
    have v0 : tvg L.length U 0 = some (if 1 ≤ (formS o.kind).src then sl l o.a else 0) := by unfold tvg; rw [if_pos hUl]; exact u0
    have v1 : tvg L.length U 1 = some (if 2 ≤ (formS o.kind).src then sl l o.b else 0) := by unfold tvg; rw [if_pos hUl]; exact u1
    have v2 : tvg L.length U 2 = some (if 3 ≤ (formS o.kind).src then sl l o.c else 0) := by unfold tvg; rw [if_pos hUl]; exact u2
    simp only [exT_exit, ibT_exit, beq_self_eq_true, cond_true, i0, i1, i2, v0, v1, v2, tb_some, t101]
    unfold mapT tsO at *
    cases hd : (formS o.kind).dst with
    | false =>
      rw [hd] at ht
      refine .inl ⟨by simpa using hok, ?_⟩
      simp only [t50_j9, tc_false, tb_some, exT_normal, Bool.false_eq_true, if_false, List.append_nil]
      rw [tapp_one (by omega) (by omega) (by simp)]; rfl
    | true =>
      rw [hd] at ht
      obtain ⟨d0, d1⟩ := ht o.dst (by simp)
      have x1 := tidx_sl d0 d1
      cases kd : okT l o.dst with
      | true =>
        have kd2 := kd
        unfold okT at kd2
        simp only [Bool.and_eq_true, decide_eq_true_eq] at kd2
        have k1 : ¬ sl l o.dst < 0 := by omega
        have k2 : ¬ 1048576 ≤ sl l o.dst := by omega
        refine .inl ⟨fun t h => (List.mem_append.1 h).elim (hok t) fun h => (by simp at h; subst h; exact kd), ?_⟩
        simp only [t50_j9, t50_s10, tc_true, x1, tb_some, k1, k2, decide_false, tc_false, exT_normal, if_true]
        rw [tapp_one (by omega) (by omega) (by simp)]
        simp [maxT, List.foldl_append]
      | false =>
        refine .inr ⟨fun h => (by have := h o.dst (by simp); rw [kd] at this; cases this), ?_⟩
        by_cases k1 : sl l o.dst < 0
        · exact ⟨_, by simp only [t50_j9, t50_s10, tc_true, x1, tb_some, k1, decide_true, exT_ret]; rfl⟩
        · have k2 : 1048576 ≤ sl l o.dst := by
            refine Classical.byContradiction fun h => ?_
            have : okT l o.dst = true := by simp [okT]; omega
            rw [this] at kd; cases kd
          exact ⟨_, by simp only [t50_j9, t50_s10, tc_true, x1, tb_some, k1, k2, decide_true, decide_false, tc_false, exT_ret]; rfl⟩
  · refine .inr ⟨fun h => hbad fun t ht' => h t (by unfold tsO; exact List.mem_append_left _ ht'), ?_⟩
    rw [g, tb_some]
    exact ⟨_, by simp only [exT_ret, ibT_ret]; rfl⟩
theorem maxT_app {m : Int} {a b : List Int} : maxT l m (a ++ b) = maxT l (maxT l m a) b := List.foldl_append
theorem t50_l12_s {b : Blk} (hb : b.ops.length ≤ 2000000) (ht : ∀ o ∈ b.ops, ∀ t ∈ tsO o, 0 ≤ t ∧ t.toNat < l.length) : ∀ (d i : Nat) (e m : Int), b.ops.length = i + d →
    ((∀ t ∈ (b.ops.drop i).flatMap tsO, okT l t = true) ∧ lpT (t50_l12 l b) (e, m, (b.ops.take i).map (mapT l), (i : Int)) = some (.x 2, (e, maxT l m ((b.ops.drop i).flatMap tsO), b.ops.map (mapT l), (b.ops.length : Int)))) ∨
    (¬ (∀ t ∈ (b.ops.drop i).flatMap tsO, okT l t = true) ∧ ∃ q, lpT (t50_l12 l b) (e, m, (b.ops.take i).map (mapT l), (i : Int)) = some (.r, (2, q))) := by
  intro d
  induction d with
  | zero =>
    intro i e m hi
    obtain rfl : i = b.ops.length := by omega
    rw [List.take_length, List.drop_length]
    refine .inl ⟨by simp, lpT_out ?_ (by simp)⟩
    simp [t50_l12, maxT]
  | succ d ih =>
    intro i e m hi
    have hil : i < b.ops.length := by omega
    have hm : b.ops[i] ∈ b.ops := List.getElem_mem hil
    have e3 : (b.ops.drop i).flatMap tsO = tsO b.ops[i] ++ (b.ops.drop (i + 1)).flatMap tsO := by rw [List.drop_eq_getElem_cons hil, List.flatMap_cons]
    have e2 : (b.ops.take i).map (mapT l) ++ [mapT l b.ops[i]] = (b.ops.take (i + 1)).map (mapT l) := by
      rw [List.take_succ_eq_append_getElem hil]; simp only [List.map_append, List.map_cons, List.map_nil]
    have w1 : IntKind.i64.wrap ((i : Int) + 1) = ((i + 1 : Nat) : Int) := by rw [wrap64 (by omega) (by omega), Int.natCast_add]; rfl
    have hii : (i : Int) < (b.ops.length : Int) := by omega
    rw [e3]
    rcases t50_b1_s (l := l) (e := e) (m := m) (ops := (b.ops.take i).map (mapT l)) (List.getElem?_eq_getElem hil) (by simp; omega) (ht _ hm) with ⟨hok, g⟩ | ⟨hbad, q, g⟩
    · rw [e2] at g
      have st : t50_l12 l b (e, m, (b.ops.take i).map (mapT l), (i : Int)) = some (.n, (e, maxT l m (tsO b.ops[i]), (b.ops.take (i + 1)).map (mapT l), ((i + 1 : Nat) : Int))) := by
        simp only [t50_l12, hii, decide_true, tc_true, g, tb_some, ibT_normal, w1]
      rw [lpT_go st, maxT_app]
      rcases ih (i + 1) e (maxT l m (tsO b.ops[i])) (by omega) with ⟨h1, h2⟩ | ⟨h1, h2⟩
      · exact .inl ⟨fun t h => (List.mem_append.1 h).elim (hok t) (h1 t), h2⟩
      · exact .inr ⟨fun h => h1 fun t h' => h t (List.mem_append_right _ h'), h2⟩
    · refine .inr ⟨fun h => hbad fun t h' => h t (List.mem_append_left _ h'), ?_⟩
      have hh : ∃ q, t50_l12 l b (e, m, (b.ops.take i).map (mapT l), (i : Int)) = some (.r, (2, q)) := ⟨_, by simp only [t50_l12, hii, decide_true, tc_true, g, tb_some, ibT_ret]; rfl⟩
      obtain ⟨q', hq⟩ := hh
      exact ⟨q', lpT_out hq (by simp)⟩
def mapBT (l : List Int) (b : Blk) : Blk := ⟨b.ops.map (mapT l), if b.term.kind = 2 then ⟨b.term.kind, sl l b.term.a, b.term.yes, b.term.no⟩ else b.term⟩
theorem t50_b0_s {p : IR} {i : Nat} {b : Blk} {bs : List Blk} {e m : Int} (hb : p.blocks[i]? = some b) (hi : InT p l) (hbs : bs.length ≤ 2000000) :
    ((∀ t ∈ tsB b, okT l t = true) ∧ t50_b0 p bs (i : Int) l e m = some (.n, (e, maxT l m (tsB b), bs ++ [mapBT l b]))) ∨ (¬ (∀ t ∈ tsB b, okT l t = true) ∧ ∃ q, t50_b0 p bs (i : Int) l e m = some (.r, (2, q))) := by
  obtain ⟨h1, h2⟩ := hi.1 b (List.mem_of_getElem? hb)
  have e1 : tidx p.blocks (i : Int) = some b := by rw [tidx_nat, hb]
  have e0 : ((0 : Nat) : Int) = 0 := rfl
  have g := t50_l12_s (l := l) h1 (fun o ho t ht => h2 t (by unfold tsB; exact List.mem_append_left _ (List.mem_flatMap.2 ⟨o, ho, ht⟩))) b.ops.length 0 e m (by omega)
  simp only [List.take_zero, List.map_nil, List.drop_zero, e0] at g
  unfold t50_b0
  rw [e1, tb_some]
  rcases g with ⟨hok, g⟩ | ⟨hbad, q, g⟩
  · rw [g, tb_some]
    simp only [exT_exit, ibT_exit, beq_self_eq_true, cond_true]
    unfold mapBT tsB at *
    by_cases hk : b.term.kind = 2
    · rw [if_pos hk] at h2 ⊢
      obtain ⟨d0, d1⟩ := h2 b.term.a (by simp)
      have x1 := tidx_sl d0 d1
      cases kd : okT l b.term.a with
      | true =>
        have kd2 := kd
        unfold okT at kd2
        simp only [Bool.and_eq_true, decide_eq_true_eq] at kd2
        have k1 : ¬ sl l b.term.a < 0 := by omega
        have k2 : ¬ 1048576 ≤ sl l b.term.a := by omega
        refine .inl ⟨fun t h => (List.mem_append.1 h).elim (hok t) fun h => (by simp at h; subst h; exact kd), ?_⟩
        simp only [t50_j13, t50_s14, hk, decide_true, tc_true, x1, tb_some, k1, k2, decide_false, tc_false, exT_normal, if_true]
        rw [tapp_one (by omega) (by omega) (by simp)]
        simp [maxT, List.foldl_append]
      | false =>
        refine .inr ⟨fun h => (by have := h b.term.a (by simp); rw [kd] at this; cases this), ?_⟩
        by_cases k1 : sl l b.term.a < 0
        · exact ⟨_, by simp only [t50_j13, t50_s14, hk, decide_true, tc_true, x1, tb_some, k1, exT_ret]; rfl⟩
        · have k2 : 1048576 ≤ sl l b.term.a := by
            refine Classical.byContradiction fun h => ?_
            have : okT l b.term.a = true := by simp [okT]; omega
            rw [this] at kd; cases kd
          exact ⟨_, by simp only [t50_j13, t50_s14, hk, decide_true, tc_true, x1, tb_some, k1, k2, decide_false, tc_false, exT_ret]; rfl⟩
    · rw [if_neg hk]
      refine .inl ⟨by simpa using hok, ?_⟩
      simp only [t50_j13, hk, decide_false, tc_false, tb_some, exT_normal, if_false, List.append_nil]
      rw [tapp_one (by omega) (by omega) (by simp)]; rfl
  · refine .inr ⟨fun h => hbad fun t ht' => h t (by unfold tsB; exact List.mem_append_left _ ht'), ?_⟩
    rw [g, tb_some]
    exact ⟨_, by simp only [exT_ret, ibT_ret]; rfl⟩
theorem t50_l16_s {p : IR} (hi : InT p l) : ∀ (d i : Nat) (e m : Int), p.blocks.length = i + d →
    ((∀ t ∈ (p.blocks.drop i).flatMap tsB, okT l t = true) ∧ lpT (t50_l16 l p) (e, m, (p.blocks.take i).map (mapBT l), (i : Int)) = some (.x 0, (e, maxT l m ((p.blocks.drop i).flatMap tsB), p.blocks.map (mapBT l), (p.blocks.length : Int)))) ∨
    (¬ (∀ t ∈ (p.blocks.drop i).flatMap tsB, okT l t = true) ∧ ∃ q, lpT (t50_l16 l p) (e, m, (p.blocks.take i).map (mapBT l), (i : Int)) = some (.r, (2, q))) := by
  have hn := hi.2
  intro d
  induction d with
  | zero =>
    intro i e m hd
    obtain rfl : i = p.blocks.length := by omega
    rw [List.take_length, List.drop_length]
    refine .inl ⟨by simp, lpT_out ?_ (by simp)⟩
    simp [t50_l16, maxT]
  | succ d ih =>
    intro i e m hd
    have hil : i < p.blocks.length := by omega
    have e3 : (p.blocks.drop i).flatMap tsB = tsB p.blocks[i] ++ (p.blocks.drop (i + 1)).flatMap tsB := by rw [List.drop_eq_getElem_cons hil, List.flatMap_cons]
    have e2 : (p.blocks.take i).map (mapBT l) ++ [mapBT l p.blocks[i]] = (p.blocks.take (i + 1)).map (mapBT l) := by
      rw [List.take_succ_eq_append_getElem hil]; simp only [List.map_append, List.map_cons, List.map_nil]
    have w1 : IntKind.i64.wrap ((i : Int) + 1) = ((i + 1 : Nat) : Int) := by rw [wrap64 (by omega) (by omega), Int.natCast_add]; rfl
    have hii : (i : Int) < (p.blocks.length : Int) := by omega
    rw [e3]
    rcases t50_b0_s (e := e) (m := m) (bs := (p.blocks.take i).map (mapBT l)) (List.getElem?_eq_getElem hil) hi (by simp; omega) with ⟨hok, g⟩ | ⟨hbad, q, g⟩
    · rw [e2] at g
      have st : t50_l16 l p (e, m, (p.blocks.take i).map (mapBT l), (i : Int)) = some (.n, (e, maxT l m (tsB p.blocks[i]), (p.blocks.take (i + 1)).map (mapBT l), ((i + 1 : Nat) : Int))) := by
        simp only [t50_l16, hii, decide_true, tc_true, g, tb_some, ibT_normal, w1]
      rw [lpT_go st, maxT_app]
      rcases ih (i + 1) e (maxT l m (tsB p.blocks[i])) (by omega) with ⟨h1, h2⟩ | ⟨h1, h2⟩
      · exact .inl ⟨fun t h => (List.mem_append.1 h).elim (hok t) (h1 t), h2⟩
      · exact .inr ⟨fun h => h1 fun t h' => h t (List.mem_append_right _ h'), h2⟩
    · refine .inr ⟨fun h => hbad fun t h' => h t (List.mem_append_left _ h'), ?_⟩
      have hh : ∃ q, t50_l16 l p (e, m, (p.blocks.take i).map (mapBT l), (i : Int)) = some (.r, (2, q)) := ⟨_, by simp only [t50_l16, hii, decide_true, tc_true, g, tb_some, ibT_ret]; rfl⟩
      obtain ⟨q', hq⟩ := hh
      exact ⟨q', lpT_out hq (by simp)⟩
end
end Go.Proofs.YtkeoalhglkfbkaaDoor

/-
  Slots in the place of temps, plainly: the document's 'Apply' answers as the package's own. No conditions.
-/
namespace Go.Proofs.YtkeoalhglkfbkaaDoor
open Go Hk

section
variable {l : List Int}
theorem fold_bad : ∀ (ts : List Int) (r : Renamer), (ts.foldl (stepR l) r).bad = (r.bad || ts.any fun t => !okT l t) := by
  intro ts
  induction ts with
  | nil => intro r; simp
  | cons t ts ih => intro r; rw [List.foldl_cons, ih]; simp [stepR, Bool.or_assoc]
theorem uR_ok {t : Int} (h : okT l t = true) : uR l t = sl l t := by
  unfold okT at h; simp only [Bool.and_eq_true, decide_eq_true_eq] at h; unfold uR; omega
theorem fold_most : ∀ (ts : List Int) (r : Renamer), (∀ t ∈ ts, okT l t = true) → (ts.foldl (stepR l) r).most = maxT l r.most ts := by
  intro ts
  induction ts with
  | nil => intro r _; rfl
  | cons t ts ih =>
    intro r h
    rw [List.foldl_cons, ih _ (fun t ht => h t (List.mem_cons_of_mem _ ht))]
    simp only [maxT, List.foldl_cons, stepR, uR_ok (h t List.mem_cons_self)]
theorem mapT_U {p : IR} {o : Op} (ho : opS p o = true) (hk : ∀ t ∈ tsO o, okT l t = true) : mapT l o = mapU l o := by
  have hs := form_src o.kind
  unfold opS at ho
  simp only [Bool.and_eq_true, decide_eq_true_eq] at ho
  obtain ⟨_, _, _, ⟨_, ha, hb, hc⟩, _⟩ := ho
  unfold tsO usesS at hk
  unfold mapT mapU
  generalize (formS o.kind).src = n at *
  have key : ∀ t, t ∈ [o.a, o.b, o.c].take n → uR l t = sl l t := fun t h => uR_ok (hk t (List.mem_append_left _ h))
  have kd : (if (formS o.kind).dst = true then sl l o.dst else o.dst) = (if (formS o.kind).dst = true then uR l o.dst else o.dst) := by
    by_cases hd : (formS o.kind).dst = true
    · rw [if_pos hd, if_pos hd, uR_ok (hk _ (by rw [if_pos hd]; simp))]
    · rw [if_neg hd, if_neg hd]
  rw [kd]
  rcases (show n = 0 ∨ n = 1 ∨ n = 2 ∨ n = 3 by omega) with rfl | rfl | rfl | rfl
  · simp at ha hb hc ⊢; exact ⟨ha, hb, hc⟩
  · have k1 := key o.a (by simp)
    simp at hb hc ⊢; exact ⟨k1.symm, hb, hc⟩
  · have k1 := key o.a (by simp)
    have k2 := key o.b (by simp)
    simp at hc ⊢; exact ⟨k1.symm, k2.symm, hc⟩
  · have k1 := key o.a (by simp)
    have k2 := key o.b (by simp)
    have k3 := key o.c (by simp)
    simp [k1, k2, k3]
theorem mapBT_B {p : IR} {b : Blk} (hb : ∀ o ∈ b.ops, opS p o = true) (hk : ∀ t ∈ tsB b, okT l t = true) : mapBT l b = mapB l b := by
  unfold mapBT mapB
  congr 1
  · exact List.map_congr_left fun o ho => mapT_U (hb o ho) fun t ht => hk t (by unfold tsB; exact List.mem_append_left _ (List.mem_flatMap.2 ⟨o, ho, ht⟩))
  · by_cases h : b.term.kind = 2
    · rw [if_pos h, if_pos h, uR_ok (hk _ (by unfold tsB; rw [if_pos h]; simp))]
    · rw [if_neg h, if_neg h]
end
theorem t50_s (p : IR) (l : List Int) : t50 p l = some (appS p l) := by
  unfold t50 appS
  simp only [t64, tb_some]
  by_cases h0 : checkS p = 0
  · by_cases hl : (l.length : Int) = p.temps
    · have hi := inT_of h0 hl
      obtain ⟨_, _, _, _, hbk⟩ := checkS_zero h0
      have g := t50_l16_s hi p.blocks.length 0 0 0 (by omega)
      have e0 : ((0 : Nat) : Int) = 0 := rfl
      simp only [List.take_zero, List.map_nil, List.drop_zero, e0] at g
      have fa : (p.blocks.flatMap tsB) = allT p := rfl
      rw [fa] at g
      simp only [h0, hl, decide_true, Bool.not_true, tc_false, ne_eq, not_true_eq_false, if_false]
      have hfb := fold_bad (l := l) (allT p) ⟨capS l, 0, false⟩
      rcases g with ⟨hok, g⟩ | ⟨hbad, q, g⟩
      · have hb : (((⟨capS l, 0, false⟩ : Renamer).bad || (allT p).any fun t => !okT l t) = true) = False := by
          simp only [Bool.false_or, List.any_eq_true, Bool.not_eq_true', eq_iff_iff, iff_false]
          rintro ⟨t, ht, h⟩
          rw [hok t ht] at h; cases h
        rw [← hfb] at hb
        rw [if_neg (of_eq_false hb), fold_most _ _ hok, g, tb_some]
        have em : p.blocks.map (mapBT l) = p.blocks.map (mapB l) := List.map_congr_left fun b hb => mapBT_B (hbk b hb).1 fun t ht => hok t (List.mem_flatMap.2 ⟨b, hb, ht⟩)
        simp only [exT_exit, ibT_exit, beq_self_eq_true, cond_true, em]
      · have hb : (((⟨capS l, 0, false⟩ : Renamer).bad || (allT p).any fun t => !okT l t) = true) = True := by
          simp only [Bool.false_or, List.any_eq_true, Bool.not_eq_true', eq_iff_iff, iff_true]
          refine Classical.byContradiction fun hn => hbad fun t ht => ?_
          cases h : okT l t with
          | true => rfl
          | false => exact absurd ⟨t, ht, h⟩ hn
        rw [← hfb] at hb
        rw [if_pos (of_eq_true hb), g, tb_some]
        simp only [exT_ret, ibT_ret, efT_ret, zeroIR]
    · simp [h0, hl, zeroIR]
  · simp [h0, zeroIR]
end Go.Proofs.YtkeoalhglkfbkaaDoor

/-
  'SlotsApplied': the evaluator's run. No conditions.
-/
namespace Go.Proofs.YtkeoalhglkfbkaaDoor
open Go Hk

theorem c49 (p : IR) (l : List Int) (h : Heap) : KK 49 [.agg p.cells, .slice (ints l) .no] h = some (.ret (.tuple [.agg (appS p l).1.cells, .int .i64 (appS p l).2]), h) :=
  (r49 p l h).trans (by rw [t49_s]; rfl)
theorem c50 (p : IR) (l : List Int) (h : Heap) : KK 50 [.agg p.cells, .slice (ints l) .no] h = some (.ret (.tuple [.agg (appS p l).1.cells, .int .i64 (appS p l).2]), h) :=
  (r50 p l h).trans (by rw [t50_s]; rfl)
theorem appS_sized (p : IR) (l : List Int) : (appS p l).1.arrays.length ≤ 2000000 ∧ (appS p l).1.blocks.length ≤ 2000000 ∧ ∀ b ∈ (appS p l).1.blocks, b.ops.length ≤ 2000000 := by
  unfold appS
  by_cases h0 : checkS p = 0
  · obtain ⟨hp, _⟩ := opsOk_of h0
    obtain ⟨l00, _, _⟩ := checkS_zero h0
    have hal := l00.a1
    have hnb := hp.nb
    rw [if_neg (by simp [h0])]
    split
    · exact ⟨by simp [zeroIR], by simp [zeroIR], by simp [zeroIR]⟩
    · split
      · exact ⟨by simp [zeroIR], by simp [zeroIR], by simp [zeroIR]⟩
      · refine ⟨by show p.arrays.length ≤ _; omega, by simp; omega, fun b hb => ?_⟩
        obtain ⟨c, hc, rfl⟩ := List.mem_map.1 hb
        have := hp.len c hc
        simp [mapB]; omega
  · rw [if_pos h0]
    exact ⟨by simp [zeroIR], by simp [zeroIR], by simp [zeroIR]⟩
/-- The law SlotsApplied. -/
theorem c16 (p : IR) (l : List Int) (h : Heap) : KK 16 [.agg p.cells, .slice (ints l) .no] h = some (.ret (.bool true), h) := by
  refine callP_pure rfl rfl (evW_by (m16_eq _ _ _ _) ?_)
  obtain ⟨s1, s2, s3⟩ := appS_sized p l
  have g49 := c49 p l
  have g50 := c50 p l
  have g42 := c42 s1 s2 s3
  have g44 := c44
  generalize (appS p l).1 = r at *
  generalize (appS p l).2 = e at *
  have a0 : anew 5 [] (.agg p.cells) = some (.ptr 0 0, [.cells p.cells]) := by simp [IR.cells]
  have l0 : ∀ E, aload true 5 (.cells p.cells :: E) (.ptr 0 0) = some (.agg p.cells) := by intro E; simp [IR.cells]
  have u0 : (AVal.agg p.cells).untok = .agg p.cells := rfl
  have ul : (AVal.slice (ints l) .no).untok = .slice (ints l) .no := rfl
  have l00 := l0 []
  have a1 : anew 5 [.cells p.cells] (.agg [.int .i64 0, .slice [] .nil, .slice [] .nil, .int .i64 0, .int .i64 0]) = some (.ptr 1 0, [.cells p.cells, .cells [.int .i64 0, .slice [] (.own 2), .slice [] (.own 3), .int .i64 0, .int .i64 0], .front 0 0, .front 0 0]) := by simp
  have s1 : astore 5 [.cells p.cells, .cells [.int .i64 0, .slice [] (.own 2), .slice [] (.own 3), .int .i64 0, .int .i64 0], .front 0 0, .front 0 0] (.ptr 1 0) (.agg r.cells) = some [.cells p.cells, .cells r.cells, .front 0 0, .front 0 0] := by simp [IR.cells]
  have l01 := l0 [.cells r.cells, .front 0 0, .front 0 0]
  have a2 : anew 5 [.cells p.cells, .cells r.cells, .front 0 0, .front 0 0] (.agg [.int .i64 0, .slice [] .nil, .slice [] .nil, .int .i64 0, .int .i64 0]) = some (.ptr 4 0, [.cells p.cells, .cells r.cells, .front 0 0, .front 0 0, .cells [.int .i64 0, .slice [] (.own 5), .slice [] (.own 6), .int .i64 0, .int .i64 0], .front 0 0, .front 0 0]) := by simp
  have s2 : astore 5 [.cells p.cells, .cells r.cells, .front 0 0, .front 0 0, .cells [.int .i64 0, .slice [] (.own 5), .slice [] (.own 6), .int .i64 0, .int .i64 0], .front 0 0, .front 0 0] (.ptr 4 0) (.agg r.cells) = some [.cells p.cells, .cells r.cells, .front 0 0, .front 0 0, .cells r.cells, .front 0 0, .front 0 0] := by simp [IR.cells]
  have l1 : aload true 5 [.cells p.cells, .cells r.cells, .front 0 0, .front 0 0, .cells r.cells, .front 0 0, .front 0 0] (.ptr 1 0) = some (.agg r.cells) := by simp [IR.cells]
  have l4 : aload true 5 [.cells p.cells, .cells r.cells, .front 0 0, .front 0 0, .cells r.cells, .front 0 0, .front 0 0] (.ptr 4 0) = some (.agg r.cells) := by simp [IR.cells]
  have ur : (AVal.agg r.cells).untok = .agg r.cells := rfl
  generalize ints l = li at *
  generalize r.cells = rc at *
  generalize ([.cells p.cells, .cells [.int .i64 0, .slice [] (.own 2), .slice [] (.own 3), .int .i64 0, .int .i64 0], .front 0 0, .front 0 0] : Heap) = X1 at *
  generalize ([.cells p.cells, .cells rc, .front 0 0, .front 0 0] : Heap) = X2 at *
  generalize ([.cells p.cells, .cells rc, .front 0 0, .front 0 0, .cells [.int .i64 0, .slice [] (.own 5), .slice [] (.own 6), .int .i64 0, .int .i64 0], .front 0 0, .front 0 0] : Heap) = X3 at *
  generalize ([.cells p.cells, .cells rc, .front 0 0, .front 0 0, .cells rc, .front 0 0, .front 0 0] : Heap) = X4 at *
  simp -implicitDefEqProofs [m16, -aload_ptr, -aload_ptrT, -astore_ptr, -anew, a0, a1, a2, l00, l01, u0, ul, ur, g49, g50, g42, g44, s1, s2, l1, l4, aextract, finR_zero]
end Go.Proofs.YtkeoalhglkfbkaaDoor

/-
  SlotsApplied, as its row wants it. No conditions.
-/
namespace Go.Proofs.YtkeoalhglkfbkaaDoor
open Go Hk
theorem law16 (p : IR) (l : List Int) (_ : l.length ≤ maxLen ∧ ∀ z ∈ l, (Lit.int .i64 z).wf = true) : evW Tryd.prog ann 16 [.agg p.cells, .slice (l.map fun z => [.int .i64 z]) .no] [] = some (.ret (.bool true), []) := of_KK rfl (c16 p l [])
end Go.Proofs.YtkeoalhglkfbkaaDoor
