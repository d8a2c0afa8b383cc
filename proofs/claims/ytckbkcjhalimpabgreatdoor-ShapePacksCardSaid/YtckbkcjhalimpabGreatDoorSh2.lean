/-
  The texts SH.M0, SH.LC, SH.T1, SH.C, SH.T2, SH.B, SH.P1, SH.P2, SH.LQ, one behind another. No conditions.
-/
import Derived.Test.YtckbkcjhalimpabGreatDoorSh1
import Derived.Test.YtckbkcjhalimpabGreatDoorVt1
import Derived.Shelf.LaysM
import Derived.Shelf.Strings.Repeat
import Derived.Shelf.Strconv.Itoa3
import Derived.Test.YtckbkcjhalimpabGreatDoorProg
import Derived.WalkKit
import Derived.Test.YtckbkcjhalimpabGreatDoorVk2
set_option linter.unusedVariables false
set_option linter.unusedSimpArgs false
set_option linter.all false
namespace Go.Proofs.YtckbkcjhalimpabGreatDoor
section
open Go Hk
noncomputable abbrev KK : CallO := callP ann (evW Tryz.prog ann)
structure Ty where
  elem : Int
  len : Int
  lab : Int
  deriving DecidableEq
def Ty.cells (x : Ty) : List AVal := [.int .i64 x.elem, .int .i64 x.len, .int .i64 x.lab]
structure Fd where
  name : List UInt8
  ty : Ty
  out : Bool
  off : Int
  size : Int
  deriving DecidableEq
def Fd.cells (x : Fd) : List AVal := [.str x.name, .int .i64 x.ty.elem, .int .i64 x.ty.len, .int .i64 x.ty.lab, .bool x.out, .int .i64 x.off, .int .i64 x.size]
theorem Ty.cells_t (x : Ty) : x.cells = [.int .i64 x.elem, .int .i64 x.len, .int .i64 x.lab] := (rfl)
theorem Fd.cells_t (x : Fd) : x.cells = [.str x.name, .int .i64 x.ty.elem, .int .i64 x.ty.len, .int .i64 x.ty.lab, .bool x.out, .int .i64 x.off, .int .i64 x.size] := (rfl)
attribute [simp] Ty.cells_t Fd.cells_t
/-- The string of bytes that were written into. -/
def tbys (n : Nat) (xs : List Int) : Option (List UInt8) := if xs.length = n then some (xs.map fun z => UInt8.ofNat z.toNat) else none
theorem rows1 : ∀ (xs : List Int), rowsOf xs.length 1 (xs.map (AVal.int .u8)) = xs.map fun z => [AVal.int .u8 z]
  | [] => rfl
  | x :: xs => by simp [rowsOf, rows1 xs]
theorem bytes1 : ∀ (xs : List Int), bytesOf (xs.map fun z => [AVal.int .u8 z]) = some (xs.map fun z => UInt8.ofNat z.toNat)
  | [] => rfl
  | x :: xs => by simp [bytesOf, bytes1 xs]
theorem flat1 : ∀ (xs : List Int), (Rw (ci .u8) xs).flatten = xs.map (AVal.int .u8)
  | [] => rfl
  | x :: xs => by have := flat1 xs; simp only [Rw, ci, List.map_cons, List.flatten_cons] at this ⊢; rw [this]; rfl
theorem abytesH_t {id n : Nat} {xs : List Int} {h : Heap} (hb : h[id]? = some (Vc (ci .u8) 1 xs)) : abytesH h (.vslice id n 0 n 1) = tm (tbys n xs) .str := by
  simp only [abytesH, arowsS, getVec, hb, Vc, tbys, flat1]
  by_cases h : xs.length = n
  · subst h
    have hp : pureRow (xs.map (AVal.int .u8)) = some (xs.map (AVal.int .u8)) := pureRow_ints (fun c hc => by obtain ⟨z, _, rfl⟩ := List.mem_map.1 hc; exact ⟨_, _, rfl⟩)
    have ht : (xs.map (AVal.int .u8)).take xs.length = xs.map (AVal.int .u8) := List.take_of_length_le (by simp)
    simp [hp, ht, rows1, bytes1]
  · simp [h]
@[simp] theorem san_tuple3 {m : Nat} {h : Heap} {u v w : AVal} : AVal.san m h (.tuple [u, v, w]) = .tuple [(match u with | .agg cs => .agg (cs.map (·.san1 m h)) | v => v.san1 m h), (match v with | .agg cs => .agg (cs.map (·.san1 m h)) | v => v.san1 m h), (match w with | .agg cs => .agg (cs.map (·.san1 m h)) | v => v.san1 m h)] := (rfl)
@[simp] theorem untok_tuple3 {u v w : AVal} : AVal.untok (.tuple [u, v, w]) = .tuple [(match u with | .agg cs => .agg (cs.map AVal.untok1) | v => v.untok1), (match v with | .agg cs => .agg (cs.map AVal.untok1) | v => v.untok1), (match w with | .agg cs => .agg (cs.map AVal.untok1) | v => v.untok1)] := (rfl)
@[simp] theorem eqFd {a b : List UInt8} {a1 a2 a3 a5 a6 b1 b2 b3 b5 b6 : Int} {a4 b4 : Bool} : aeqAgg [.s, .i, .i, .i, .b, .i, .i] (.agg [.str a, .int .i64 a1, .int .i64 a2, .int .i64 a3, .bool a4, .int .i64 a5, .int .i64 a6]) (.agg [.str b, .int .i64 b1, .int .i64 b2, .int .i64 b3, .bool b4, .int .i64 b5, .int .i64 b6]) = some ((a == b) && ((a1 == b1) && ((a2 == b2) && ((a3 == b3) && ((a4 == b4) && ((a5 == b5) && ((a6 == b6) && true))))))) := (rfl)
@[simp] theorem abytesH_1 {n : Nat} {xs : List Int} : abytesH [Vc (ci .u8) 1 xs] (.vslice 0 n 0 n 1) = tm (tbys n xs) .str := abytesH_t rfl
@[simp 2000] theorem addsT {s t : List UInt8} : abin .add (.str s) (.str t) = tm (tcat s t) AVal.str := abin_adds_t
attribute [simp] lockIds addrId hide unhide hide1 unhide1
end
noncomputable section
open Go Hk
/- hauberk/types.unless -/
def m83 (K : CallO) (a0 a1 a2 : AVal) (h0 : Heap) : Option (Res × Heap) :=
  ((aun .not a0).bind fun t2 => acond t2 ((abuild [(.int .i64 0), (.int .i64 0)] [(0, 1), (1, 1)] [(0, a1), (1, a2)]).bind fun t5 => (abuild [(.int .i64 0), (.int .i64 0)] [(0, 2)] [(0, t5)]).bind fun t6 => apanic (.iface 129 t6) h0 (fun v3 h4 => some ((.pan v3), ([] : List AVal), h4))) (some (.normal, ([] : List AVal), h0))).bind fun r7 => (fun h8 => Ex.endP r7.1 (finR (List.length h0) (.tuple []) h8) (fun v => finP (List.length h0) v h8))  r7.2.2
theorem m83_eq (K : CallO) (a0 a1 a2 : AVal) (h0 : Heap) : evB Tryz.prog ann lpW K 83 [a0, a1, a2] h0 = m83 (callP ann K) a0 a1 a2 h0 := by kernel_rfl

/- (*hauberk/types.checker).make -/
def m84 (K : CallO) (a0 a1 a2 a3 : AVal) (h0 : Heap) : Option (Res × Heap) :=
  (bindVH (anew 4 h0 a2) fun t2 h3 => (anilCheck a0).bind fun t6 => (afieldAt 1 t6).bind fun t7 => (aload false 1 h3 t7).bind fun t8 => bif akeyFor .string a1 then (alookup (.agg [(.int .i64 0), (.int .i64 0), (.int .i64 0), (.bool false)]) true h3 t8 a1).bind fun t9 => (aextract 0 t9).bind fun t10 => (aextract 1 t9).bind fun t11 => bindVH (anew 4 h3 (.agg [(.int .i64 0), (.int .i64 0), (.int .i64 0), (.bool false)])) fun t12 h13 => (astore 4 h13 t12 t10).bind fun h14 => (aun .not t11).bind fun t17 => bindRes (K 83 [(AVal.untok t17), (AVal.untok (.int .i64 13)), (AVal.untok a3)] h14) (fun t18 h19 => (anilCheck a0).bind fun t22 => (afieldAt 1 t22).bind fun t23 => (aload false 1 h19 t23).bind fun t24 => (aload true 4 h19 t2).bind fun t25 => bif akeyFor .string a1 then (amapSet h19 t24 a1 t25).bind fun h26 => some (.normal, ([] : List AVal), h26) else none) (fun v15 h16 => some ((.pan v15), ([] : List AVal), h16)) else none).bind fun r27 => (fun h28 => Ex.endP r27.1 (finR (List.length h0) (.tuple []) h28) (fun v => finP (List.length h0) v h28))  r27.2.2
theorem m84_eq (K : CallO) (a0 a1 a2 a3 : AVal) (h0 : Heap) : evB Tryz.prog ann lpW K 84 [a0, a1, a2, a3] h0 = m84 (callP ann K) a0 a1 a2 a3 h0 := by kernel_rfl

/- (*hauberk/types.checker).limited -/
def m86 (K : CallO) (a0 a1 : AVal) (h0 : Heap) : Option (Res × Heap) :=
  ((amin2 a1 (.int .i64 65537)).bind fun t0 => some (.ret, [t0], h0)).bind fun r1 => (fun x4v2 h3 => Ex.endF r1.1 (finR (List.length h0) x4v2 h3)) (List.getD r1.2.1 0 .junk) r1.2.2
theorem m86_eq (K : CallO) (a0 a1 : AVal) (h0 : Heap) : evB Tryz.prog ann lpW K 86 [a0, a1] h0 = m86 (callP ann K) a0 a1 h0 := by kernel_rfl

/- (*hauberk/types.checker).stmts -/
def m87_l0 (K : CallO) (m : Nat) (s : List AVal × Heap) : Option R :=
  (fun x0v1 x4v2 x5v3 x9v4 x10v5 x11v6 h7 => (abin .lss x11v6 x10v5).bind fun t8 => acond t8 ((aindexSl 11 x9v4 x11v6).bind fun t9 => (aload true 11 h7 t9).bind fun t10 => bindVH (anew 11 h7 (.agg [(.int .i64 0), (.int .i64 0), (.int .i64 0), (.str []), (.int .i64 0), (.int .i64 0), (.int .i64 0), (.slice [] .nil), (.slice [] .nil), (.slice [] .nil), (.bool false)])) fun t11 h12 => (astore 11 h12 t11 t10).bind fun h13 => (afieldAt 7 t11).bind fun t14 => (aload false 1 h13 t14).bind fun t15 => (afieldAt 4 t11).bind fun t16 => (afieldAt 1 t16).bind fun t17 => (aload false 1 h13 t17).bind fun t18 => bindRes (K 107 [(AVal.untok x0v1), (AVal.untok t15)] (hide (lockIds [0] [t17]) h13)) (fun t19 h20 => (abin .add (.int .i64 1) t19).bind fun t21 => (abin .add t21 t18).bind fun t22 => (abin .add x5v3 t22).bind fun t23 => (afieldAt 8 t11).bind fun t24 => (aload false 1 (unhide (lockIds [0] [t17]) h13 h20) t24).bind fun t25 => bindRes (K 87 [(AVal.untok x0v1), (AVal.untok t25)] (unhide (lockIds [0] [t17]) h13 h20)) (fun t26 h27 => (afieldAt 0 t11).bind fun t28 => (aload false 1 h27 t28).bind fun t29 => (abin .eql t29 (.int .i64 6)).bind fun t30 => (acond t30 ((afieldAt 2 t11).bind fun t31 => (aload false 1 h27 t31).bind fun t32 => (abin .add t32 (.int .i64 1)).bind fun t33 => (abin .add (.int .i64 1) t26).bind fun t34 => (abin .mul t33 t34).bind fun t35 => endR (List.length h27) .normal [x0v1, x4v2, t23, t11, t35, x9v4, x10v5, x11v6] h27) (endR (List.length h27) .normal [x0v1, x4v2, t23, t11, t26, x9v4, x10v5, x11v6] h27)).bind fun r36 => (fun x0v37 x4v38 x5v39 x7v40 x8v41 x9v42 x10v43 x11v44 h45 => Ex.nrm r36.1 ((abin .add x5v39 x8v41).bind fun t46 => (afieldAt 9 x7v40).bind fun t47 => (aload false 1 h45 t47).bind fun t48 => bindRes (K 87 [(AVal.untok x0v37), (AVal.untok t48)] h45) (fun t49 h50 => (abin .add t46 t49).bind fun t51 => bindRes (K 86 [(AVal.untok x0v37), (AVal.untok t51)] h50) (fun t52 h53 => (abin .add x11v44 (.int .i64 1)).bind fun t54 => endR m .normal [x0v37, x4v38, t52, x9v42, x10v43, t54] h53) (fun _ _ => none)) (fun _ _ => none))) (List.getD r36.2.1 0 .junk) (List.getD r36.2.1 1 .junk) (List.getD r36.2.1 2 .junk) (List.getD r36.2.1 3 .junk) (List.getD r36.2.1 4 .junk) (List.getD r36.2.1 5 .junk) (List.getD r36.2.1 6 .junk) (List.getD r36.2.1 7 .junk) r36.2.2) (fun _ _ => none)) (fun _ _ => none)) (endR m (.exit 0) [x0v1, x4v2, x5v3, x9v4, x10v5, x11v6] h7)) (List.getD s.1 0 .junk) (List.getD s.1 1 .junk) (List.getD s.1 2 .junk) (List.getD s.1 3 .junk) (List.getD s.1 4 .junk) (List.getD s.1 5 .junk) s.2
def m87 (K : CallO) (a0 a1 : AVal) (h0 : Heap) : Option (Res × Heap) :=
  ((alenSl a1).bind fun t0 => (lpW (m87_l0 K (List.length h0)) ([a0, (.int .i64 0), (.int .i64 0), a1, t0, (.int .i64 0)], h0)).bind fun r55 => (fun x0v57 x4v58 x5v59 x9v60 x10v61 x11v62 h63 => Ex.thenDo r55.1 none (fun e56 => Ex.inBlock 0 e56 (some (.ret, [x5v59], h63)) (fun e64 => some (e64, [x4v58], h63)))) (List.getD r55.2.1 0 .junk) (List.getD r55.2.1 1 .junk) (List.getD r55.2.1 2 .junk) (List.getD r55.2.1 3 .junk) (List.getD r55.2.1 4 .junk) (List.getD r55.2.1 5 .junk) r55.2.2).bind fun r65 => (fun x4v66 h67 => Ex.endF r65.1 (finR (List.length h0) x4v66 h67)) (List.getD r65.2.1 0 .junk) r65.2.2
theorem m87_eq (K : CallO) (a0 a1 : AVal) (h0 : Heap) : evB Tryz.prog ann lpW K 87 [a0, a1] h0 = m87 (callP ann K) a0 a1 h0 := by kernel_rfl

/- (*hauberk/types.checker).function -/
def m71_l0 (K : CallO) (m : Nat) (s : List AVal × Heap) : Option R :=
  (fun x0v40 x3v41 x35v42 x36v43 x37v44 h45 => (abin .lss x37v44 x36v43).bind fun t48 => acond t48 ((aindexSl 6 x35v42 x37v44).bind fun t51 => (aload true 6 h45 t51).bind fun t52 => bindVH (anew 6 h45 (.agg [(.int .i64 0), (.str []), (.int .i64 0), (.int .i64 0), (.int .i64 0), (.bool false)])) fun t53 h54 => (astore 6 h54 t53 t52).bind fun h55 => (afieldAt 1 t53).bind fun t58 => (aload false 1 h55 t58).bind fun t59 => (afieldAt 2 t53).bind fun t60 => (aload true 3 h55 t60).bind fun t61 => (afieldAt 5 t53).bind fun t62 => (aload false 1 h55 t62).bind fun t63 => (aun .not t63).bind fun t64 => (abuild [(.int .i64 0), (.int .i64 0), (.int .i64 0), (.bool false)] [(0, 3), (3, 1)] [(0, t61), (1, t64)]).bind fun t65 => (afieldAt 0 t53).bind fun t66 => (aload false 1 h55 t66).bind fun t67 => bindRes (K 84 [(AVal.untok x0v40), (AVal.untok t59), (AVal.untok t65), (AVal.untok t67)] h55) (fun t68 h69 => (afieldAt 5 t53).bind fun t72 => (aload false 1 h69 t72).bind fun t73 => (aun .not t73).bind fun t74 => (guardSel false t74 ((afieldAt 2 t53).bind fun t75 => kv0 t75 h69) (kv0 (.tuple []) h69)).bind (fin0 (fun t76 h77 => (guardSel false t74 ((afieldAt 1 t76).bind fun t78 => kv0 t78 h77) (kv0 (.tuple []) h77)).bind (fin0 (fun t79 h80 => (guardSel false t74 ((aload false 1 h80 t79).bind fun t81 => kv0 t81 h80) (kv0 (.tuple []) h80)).bind (fin0 (fun t82 h83 => (guardSel false t74 ((abin .gtr t82 (.int .i64 0)).bind fun t84 => kv0 t84 h83) (kv0 (.tuple []) h83)).bind (fin0 (fun t85 h86 => (apick t74 (.bool true) t85).bind fun t87 => (afieldAt 0 t53).bind fun t88 => (aload false 1 h86 t88).bind fun t89 => bindRes (K 83 [(AVal.untok t87), (AVal.untok (.int .i64 14)), (AVal.untok t89)] h86) (fun t90 h91 => (afieldAt 2 t53).bind fun t94 => (afieldAt 1 t94).bind fun t95 => (aload false 1 h91 t95).bind fun t96 => (abin .leq t96 (.int .i64 16384)).bind fun t97 => (afieldAt 0 t53).bind fun t98 => (aload false 1 h91 t98).bind fun t99 => bindRes (K 83 [(AVal.untok t97), (AVal.untok (.int .i64 18)), (AVal.untok t99)] h91) (fun t100 h101 => (abin .add x37v44 (.int .i64 1)).bind fun t104 => endR m .normal [x0v40, x3v41, x35v42, x36v43, t104] h101) (fun v92 h93 => endR m (.pan v92) [x0v40, x3v41, x35v42, x36v43, x37v44] h93)) (fun v70 h71 => endR m (.pan v70) [x0v40, x3v41, x35v42, x36v43, x37v44] h71)) (fun v70 h71 => endR m (.pan v70) [x0v40, x3v41, x35v42, x36v43, x37v44] h71))) (fun v70 h71 => endR m (.pan v70) [x0v40, x3v41, x35v42, x36v43, x37v44] h71))) (fun v70 h71 => endR m (.pan v70) [x0v40, x3v41, x35v42, x36v43, x37v44] h71))) (fun v70 h71 => endR m (.pan v70) [x0v40, x3v41, x35v42, x36v43, x37v44] h71))) (fun v56 h57 => endR m (.pan v56) [x0v40, x3v41, x35v42, x36v43, x37v44] h57)) (endR m (.exit 0) [x0v40, x3v41, x35v42, x36v43, x37v44] h45)) (List.getD s.1 0 .junk) (List.getD s.1 1 .junk) (List.getD s.1 2 .junk) (List.getD s.1 3 .junk) (List.getD s.1 4 .junk) s.2
def m71_l1 (K : CallO) (m : Nat) (s : List AVal × Heap) : Option R :=
  (fun x0v121 x3v122 x8v123 x74v124 x75v125 x76v126 h127 => (abin .lss x76v126 x75v125).bind fun t130 => acond t130 ((aindexSl 11 x74v124 x76v126).bind fun t133 => (aload true 11 h127 t133).bind fun t134 => bindVH (anew 11 h127 (.agg [(.int .i64 0), (.int .i64 0), (.int .i64 0), (.str []), (.int .i64 0), (.int .i64 0), (.int .i64 0), (.slice [] .nil), (.slice [] .nil), (.slice [] .nil), (.bool false)])) fun t135 h136 => (astore 11 h136 t135 t134).bind fun h137 => (aload true 11 h137 t135).bind fun t140 => (afieldAt 7 x3v122).bind fun t141 => (aload false 1 h137 t141).bind fun t142 => (alenSl t142).bind fun t143 => (abin .sub t143 (.int .i64 1)).bind fun t144 => (abin .eql x76v126 t144).bind fun t145 => bindRes (K 85 [(AVal.untok x0v121), (AVal.untok t140), (AVal.untok t145)] h137) (fun t146 h147 => (afieldAt 0 t135).bind fun t150 => (aload false 1 h147 t150).bind fun t151 => (abin .eql t151 (.int .i64 8)).bind fun t152 => (abin .add x76v126 (.int .i64 1)).bind fun t155 => endR m .normal [x0v121, x3v122, t152, x74v124, x75v125, t155] h147) (fun v138 h139 => endR m (.pan v138) [x0v121, x3v122, x8v123, x74v124, x75v125, x76v126] h139)) (endR m (.exit 2) [x0v121, x3v122, x8v123, x74v124, x75v125, x76v126] h127)) (List.getD s.1 0 .junk) (List.getD s.1 1 .junk) (List.getD s.1 2 .junk) (List.getD s.1 3 .junk) (List.getD s.1 4 .junk) (List.getD s.1 5 .junk) s.2
def m71 (K : CallO) (a0 a1 : AVal) (h0 : Heap) : Option (Res × Heap) :=
  (bindVH (anew 8 h0 a1) fun t2 h3 => (anilCheck a0).bind fun t6 => (afieldAt 0 t6).bind fun t7 => (aload false 1 h3 t7).bind fun t8 => (afieldAt 1 t2).bind fun t9 => (aload false 1 h3 t9).bind fun t10 => bif akeyFor .string t10 then (alookup (.agg [(.int .i64 0), (.str []), (.slice [] .nil), (.bool false), (.int .i64 0), (.int .i64 0), (.int .i64 0), (.slice [] .nil), (.int .i64 0)]) true h3 t8 t10).bind fun t11 => (aextract 0 t11).bind fun t12 => (aextract 1 t11).bind fun t13 => bindVH (anew 9 h3 (.agg [(.int .i64 0), (.str []), (.slice [] .nil), (.bool false), (.int .i64 0), (.int .i64 0), (.int .i64 0), (.slice [] .nil), (.int .i64 0)])) fun t14 h15 => chk (lockIds [0, 1, 2] [t7, t9, t8]) h3 h15 ((astore 9 h15 t14 t12).bind fun h16 => (aun .not t13).bind fun t19 => (afieldAt 0 t2).bind fun t20 => (aload false 1 h16 t20).bind fun t21 => bindRes (K 83 [(AVal.untok t19), (AVal.untok (.int .i64 13)), (AVal.untok t21)] h16) (fun t22 h23 => (aload true 8 h23 t2).bind fun t26 => (fun (t27 : AVal) (h28 : Heap) => chk (lockIds [0] [t2]) h23 h28 ((anilCheck a0).bind fun t29 => (afieldAt 1 t29).bind fun t30 => (astore 1 h28 t30 t27).bind fun h31 => chk (lockIds [0] [t2]) h28 h31 ((anilCheck a0).bind fun t32 => (afieldAt 2 t32).bind fun t33 => (astore 8 h31 t33 t26).bind fun h34 => (afieldAt 2 t2).bind fun t37 => (aload false 1 h34 t37).bind fun t38 => (alenSl t38).bind fun t39 => (lpW (m71_l0 K (List.length h34)) ([a0, t2, t38, t39, (.int .i64 0)], h34)).bind fun r105 => (fun x0v107 x3v108 x35v109 x36v110 x37v111 h112 => Ex.thenDo r105.1 none (fun e106 => Ex.inBlock 0 e106 ((afieldAt 7 x3v108).bind fun t118 => (aload false 1 h112 t118).bind fun t119 => (alenSl t119).bind fun t120 => (lpW (m71_l1 K (List.length h112)) ([x0v107, x3v108, (.bool false), t119, t120, (.int .i64 0)], h112)).bind fun r156 => (fun x0v158 x3v159 x8v160 x74v161 x75v162 x76v163 h164 => Ex.thenDo r156.1 none (fun e157 => Ex.inBlock 2 e157 ((afieldAt 3 x3v159).bind fun t168 => (aload false 1 h164 t168).bind fun t169 => (aun .not t169).bind fun t170 => (guardSel false t170 (kv0 x8v160 h164) (kv0 (.tuple []) h164)).bind (fin0 (fun t171 h172 => (apick t170 (.bool true) t171).bind fun t173 => (afieldAt 0 x3v159).bind fun t174 => (aload false 1 h172 t174).bind fun t175 => bindRes (K 83 [(AVal.untok t173), (AVal.untok (.int .i64 14)), (AVal.untok t175)] h172) (fun t176 h177 => (anilCheck x0v158).bind fun t180 => (afieldAt 0 t180).bind fun t181 => (aload false 1 h177 t181).bind fun t182 => (afieldAt 1 x3v159).bind fun t183 => (aload false 1 h177 t183).bind fun t184 => (aload true 8 h177 x3v159).bind fun t185 => (afieldAt 7 x3v159).bind fun t186 => (aload false 1 h177 t186).bind fun t187 => bindRes (K 87 [(AVal.untok x0v158), (AVal.untok t187)] h177) (fun t188 h189 => chk (lockIds [0, 1, 2] [t181, t183, x3v159]) h177 h189 ((abin .add (.int .i64 1) t188).bind fun t190 => bindRes (K 86 [(AVal.untok x0v158), (AVal.untok t190)] h189) (fun t191 h192 => chk (lockIds [0, 1, 2] [t181, t183, x3v159]) h189 h192 ((abuild [(.int .i64 0), (.str []), (.slice [] .nil), (.bool false), (.int .i64 0), (.int .i64 0), (.int .i64 0), (.slice [] .nil), (.int .i64 0)] [(0, 8), (8, 1)] [(0, t185), (1, t191)]).bind fun t193 => bif akeyFor .string t184 then (amapSet h192 t182 t184 t193).bind fun h194 => some (.normal, ([] : List AVal), h194) else none)) (fun v178 h179 => some ((.pan v178), ([] : List AVal), h179)))) (fun v178 h179 => some ((.pan v178), ([] : List AVal), h179))) (fun v166 h167 => some ((.pan v166), ([] : List AVal), h167))) (fun v166 h167 => some ((.pan v166), ([] : List AVal), h167)))) (fun e165 => some (e165, ([] : List AVal), h164)))) (List.getD r156.2.1 0 .junk) (List.getD r156.2.1 1 .junk) (List.getD r156.2.1 2 .junk) (List.getD r156.2.1 3 .junk) (List.getD r156.2.1 4 .junk) (List.getD r156.2.1 5 .junk) r156.2.2) (fun e113 => some (e113, ([] : List AVal), h112)))) (List.getD r105.2.1 0 .junk) (List.getD r105.2.1 1 .junk) (List.getD r105.2.1 2 .junk) (List.getD r105.2.1 3 .junk) (List.getD r105.2.1 4 .junk) r105.2.2))) (.map (List.length h23)) (h23 ++ [.map []])) (fun v17 h18 => some ((.pan v17), ([] : List AVal), h18))) else none).bind fun r195 => (fun h196 => Ex.endP r195.1 (some (.ret (.tuple []), h196)) (fun v => some (Res.pan v, h196)))  r195.2.2
theorem m71_eq (K : CallO) (a0 a1 : AVal) (h0 : Heap) : evB Tryz.prog ann lpW K 71 [a0, a1] h0 = m71 (callP ann K) a0 a1 h0 := by kernel_rfl

/- (*hauberk/types.checker).main -/
def m72_l0 (K : CallO) (m : Nat) (s : List AVal × Heap) : Option R :=
  (fun x4v54 x5v55 x6v56 x36v57 x37v58 x38v59 h60 => (abin .lss x38v59 x37v58).bind fun t63 => acond t63 ((aindexSl 6 x36v57 x38v59).bind fun t66 => (aload true 6 h60 t66).bind fun t67 => bindVH (anew 6 h60 (.agg [(.int .i64 0), (.str []), (.int .i64 0), (.int .i64 0), (.int .i64 0), (.bool false)])) fun t68 h69 => (astore 6 h69 t68 t67).bind fun h70 => (afieldAt 2 t68).bind fun t73 => (afieldAt 0 t73).bind fun t74 => (aload false 1 h70 t74).bind fun t75 => (abin .neq t75 (.int .i64 1)).bind fun t76 => (afieldAt 0 t68).bind fun t77 => (aload false 1 h70 t77).bind fun t78 => bindRes (K 83 [(AVal.untok t76), (AVal.untok (.int .i64 17)), (AVal.untok t78)] h70) (fun t79 h80 => (afieldAt 5 t68).bind fun t83 => (aload false 1 h80 t83).bind fun t84 => (acond t84 ((afieldAt 2 t68).bind fun t87 => (aload true 3 h80 t87).bind fun t88 => bindRes (K 88 [(AVal.untok t88)] h80) (fun t89 h90 => (abin .add x6v56 t89).bind fun t91 => (amin2 t91 (.int .i64 65537)).bind fun t92 => endR (List.length h80) .normal [x4v54, x5v55, t92, x36v57, x37v58, x38v59] h90) (fun v85 h86 => endR (List.length h80) (.pan v85) [x4v54, x5v55, x6v56, x36v57, x37v58, x38v59] h86)) ((afieldAt 2 t68).bind fun t95 => (aload true 3 h80 t95).bind fun t96 => bindRes (K 88 [(AVal.untok t96)] h80) (fun t97 h98 => (abin .add x5v55 t97).bind fun t99 => (amin2 t99 (.int .i64 65537)).bind fun t100 => endR (List.length h80) .normal [x4v54, t100, x6v56, x36v57, x37v58, x38v59] h98) (fun v93 h94 => endR (List.length h80) (.pan v93) [x4v54, x5v55, x6v56, x36v57, x37v58, x38v59] h94))).bind fun r101 => (fun x4v102 x5v103 x6v104 x36v105 x37v106 x38v107 h108 => Ex.thenDo r101.1 ((abin .add x38v107 (.int .i64 1)).bind fun t112 => endR m .normal [x4v102, x5v103, x6v104, x36v105, x37v106, t112] h108) (fun e109 => Ex.inBlock 1 e109 ((abin .add x38v107 (.int .i64 1)).bind fun t116 => endR m .normal [x4v102, x5v103, x6v104, x36v105, x37v106, t116] h108) (fun e113 => endR m e113 [x4v102, x5v103, x6v104, x36v105, x37v106, x38v107] h108))) (List.getD r101.2.1 0 .junk) (List.getD r101.2.1 1 .junk) (List.getD r101.2.1 2 .junk) (List.getD r101.2.1 3 .junk) (List.getD r101.2.1 4 .junk) (List.getD r101.2.1 5 .junk) r101.2.2) (fun v71 h72 => endR m (.pan v71) [x4v54, x5v55, x6v56, x36v57, x37v58, x38v59] h72)) (endR m (.exit 0) [x4v54, x5v55, x6v56, x36v57, x37v58, x38v59] h60)) (List.getD s.1 0 .junk) (List.getD s.1 1 .junk) (List.getD s.1 2 .junk) (List.getD s.1 3 .junk) (List.getD s.1 4 .junk) (List.getD s.1 5 .junk) s.2
def m72 (K : CallO) (a0 a1 : AVal) (h0 : Heap) : Option (Res × Heap) :=
  ((alenSl a1).bind fun t2 => (abin .gtr t2 (.int .i64 0)).bind fun t3 => (guardSel true t3 (kv0 a1 h0) (kv0 (.tuple []) h0)).bind (fin0 (fun t4 h5 => (guardSel true t3 (kv0 a1 h5) (kv0 (.tuple []) h5)).bind (fin0 (fun t6 h7 => (guardSel true t3 ((alenSl t6).bind fun t8 => kv0 t8 h7) (kv0 (.tuple []) h7)).bind (fin0 (fun t9 h10 => (guardSel true t3 ((abin .sub t9 (.int .i64 1)).bind fun t11 => kv0 t11 h10) (kv0 (.tuple []) h10)).bind (fin0 (fun t12 h13 => (guardSel true t3 ((aindexSl 8 t4 t12).bind fun t14 => kv0 t14 h13) (kv0 (.tuple []) h13)).bind (fin0 (fun t15 h16 => (guardSel true t3 ((afieldAt 1 t15).bind fun t17 => kv0 t17 h16) (kv0 (.tuple []) h16)).bind (fin0 (fun t18 h19 => (guardSel true t3 ((aload false 1 h19 t18).bind fun t20 => kv0 t20 h19) (kv0 (.tuple []) h19)).bind (fin0 (fun t21 h22 => (guardSel true t3 ((abin .eql t21 (.str [109, 97, 105, 110])).bind fun t23 => kv0 t23 h22) (kv0 (.tuple []) h22)).bind (fin0 (fun t24 h25 => (apick t3 t24 (.bool false)).bind fun t26 => bindRes (K 83 [(AVal.untok t26), (AVal.untok (.int .i64 17)), (AVal.untok (.int .i64 0))] h25) (fun t27 h28 => (alenSl a1).bind fun t31 => (abin .sub t31 (.int .i64 1)).bind fun t32 => (aindexSl 8 a1 t32).bind fun t33 => (aload true 8 h28 t33).bind fun t34 => bindVH (anew 8 h28 (.agg [(.int .i64 0), (.str []), (.slice [] .nil), (.bool false), (.int .i64 0), (.int .i64 0), (.int .i64 0), (.slice [] .nil)])) fun t35 h36 => (astore 8 h36 t35 t34).bind fun h37 => (afieldAt 3 t35).bind fun t40 => (aload false 1 h37 t40).bind fun t41 => (aun .not t41).bind fun t42 => (afieldAt 0 t35).bind fun t43 => (aload false 1 h37 t43).bind fun t44 => bindRes (K 83 [(AVal.untok t42), (AVal.untok (.int .i64 17)), (AVal.untok t44)] h37) (fun t45 h46 => (afieldAt 2 t35).bind fun t51 => (aload false 1 h46 t51).bind fun t52 => (alenSl t52).bind fun t53 => (lpW (m72_l0 K (List.length h46)) ([t35, (.int .i64 0), (.int .i64 0), t52, t53, (.int .i64 0)], h46)).bind fun r117 => (fun x4v119 x5v120 x6v121 x36v122 x37v123 x38v124 h125 => Ex.thenDo r117.1 none (fun e118 => Ex.inBlock 0 e118 ((abin .leq x5v120 (.int .i64 65536)).bind fun t129 => (guardSel true t129 (kv0 x6v121 h125) (kv0 (.tuple []) h125)).bind (fin0 (fun t130 h131 => (guardSel true t129 ((abin .leq t130 (.int .i64 65536)).bind fun t132 => kv0 t132 h131) (kv0 (.tuple []) h131)).bind (fin0 (fun t133 h134 => (apick t129 t133 (.bool false)).bind fun t135 => (afieldAt 0 x4v119).bind fun t136 => (aload false 1 h134 t136).bind fun t137 => bindRes (K 83 [(AVal.untok t135), (AVal.untok (.int .i64 18)), (AVal.untok t137)] h134) (fun t138 h139 => some (.normal, ([] : List AVal), h139)) (fun v127 h128 => some ((.pan v127), ([] : List AVal), h128))) (fun v127 h128 => some ((.pan v127), ([] : List AVal), h128)))) (fun v127 h128 => some ((.pan v127), ([] : List AVal), h128)))) (fun e126 => some (e126, ([] : List AVal), h125)))) (List.getD r117.2.1 0 .junk) (List.getD r117.2.1 1 .junk) (List.getD r117.2.1 2 .junk) (List.getD r117.2.1 3 .junk) (List.getD r117.2.1 4 .junk) (List.getD r117.2.1 5 .junk) r117.2.2) (fun v38 h39 => some ((.pan v38), ([] : List AVal), h39))) (fun v0 h1 => some ((.pan v0), ([] : List AVal), h1))) (fun v0 h1 => some ((.pan v0), ([] : List AVal), h1)))) (fun v0 h1 => some ((.pan v0), ([] : List AVal), h1)))) (fun v0 h1 => some ((.pan v0), ([] : List AVal), h1)))) (fun v0 h1 => some ((.pan v0), ([] : List AVal), h1)))) (fun v0 h1 => some ((.pan v0), ([] : List AVal), h1)))) (fun v0 h1 => some ((.pan v0), ([] : List AVal), h1)))) (fun v0 h1 => some ((.pan v0), ([] : List AVal), h1)))) (fun v0 h1 => some ((.pan v0), ([] : List AVal), h1)))).bind fun r140 => (fun h141 => Ex.endP r140.1 (finR (List.length h0) (.tuple []) h141) (fun v => finP (List.length h0) v h141))  r140.2.2
theorem m72_eq (K : CallO) (a0 a1 : AVal) (h0 : Heap) : evB Tryz.prog ann lpW K 72 [a0, a1] h0 = m72 (callP ann K) a0 a1 h0 := by kernel_rfl

/- hauberk/types.look -/
def mR70' (K : CallO) (a0 a1 a2 : AVal) (pv : Option AVal) (h0 : Heap) : Option Heap :=
  ((atypeAssert 129 (.agg [(.int .i64 0), (.int .i64 0)]) (Option.getD pv .niliface)).bind fun t0 => (aextract 0 t0).bind fun t1 => (aextract 1 t0).bind fun t2 => bindVH (anew 2 h0 (.agg [(.int .i64 0), (.int .i64 0)])) fun t3 h4 => (astore 2 h4 t3 t1).bind fun h5 => (acond t2 ((afieldAt 0 t3).bind fun t6 => (aload true 2 h5 t6).bind fun t7 => (astore 1 (hide (lockIds [0] [t6]) h5) a0 (.int .i64 0)).bind fun h8 => (astore 1 (hide (lockIds [0] [t6]) (unhide (lockIds [0] [t6]) h5 h8)) a1 (.int .i64 0)).bind fun h9 => (astore 2 (unhide (lockIds [0] [t6]) (unhide (lockIds [0] [t6]) h5 h8) h9) a2 t7).bind fun h10 => endR (List.length h5) .normal ([] : List AVal) h10) (endR (List.length h5) .normal ([] : List AVal) h5)).bind fun r11 => (fun h12 => Ex.nrm r11.1 (some (.normal, [], h12)))  r11.2.2).bind fun r => Ex.endH r.1 (trunc (List.length h0) r.2.2)
def mR70 (K : CallO) (caps : List AVal) (pv : Option AVal) (h0 : Heap) : Option Heap := mR70' K (List.getD caps 0 .junk) (List.getD caps 1 .junk) (List.getD caps 2 .junk) pv h0
def m51_l0 (K : CallO) (m : Nat) (s : List AVal × Heap) : Option R :=
  (fun x1v30 x2v31 x3v32 x4v33 x7v34 x24v35 x25v36 x26v37 h38 => (abin .lss x26v37 x25v36).bind fun t41 => acond t41 ((aindexSl 8 x24v35 x26v37).bind fun t44 => (aload true 8 h38 t44).bind fun t45 => bindVH (anew 8 h38 (.agg [(.int .i64 0), (.str []), (.slice [] .nil), (.bool false), (.int .i64 0), (.int .i64 0), (.int .i64 0), (.slice [] .nil)])) fun t46 h47 => (astore 8 h47 t46 t45).bind fun h48 => (aload true 8 h48 t46).bind fun t51 => bindRes (K 71 [(AVal.untok x7v34), (AVal.untok t51)] h48) (fun t52 h53 => (abin .add x26v37 (.int .i64 1)).bind fun t56 => some (.normal, [x1v30, x2v31, x3v32, x4v33, x7v34, x24v35, x25v36, t56], h53)) (fun v49 h50 => some ((.pan v49), [x1v30, x2v31, x3v32, x4v33, x7v34, x24v35, x25v36, x26v37], h50))) (some ((.exit 0), [x1v30, x2v31, x3v32, x4v33, x7v34, x24v35, x25v36, x26v37], h38))) (List.getD s.1 0 .junk) (List.getD s.1 1 .junk) (List.getD s.1 2 .junk) (List.getD s.1 3 .junk) (List.getD s.1 4 .junk) (List.getD s.1 5 .junk) (List.getD s.1 6 .junk) (List.getD s.1 7 .junk) s.2
def m51 (K : CallO) (a0 : AVal) (h0 : Heap) : Option (Res × Heap) :=
  (bindVH (anew 1 h0 a0) fun t0 h1 => bindVH (anew 1 h1 (.int .i64 0)) fun t2 h3 => bindVH (anew 1 h3 (.int .i64 0)) fun t4 h5 => bindVH (anew 2 h5 (.agg [(.int .i64 0), (.int .i64 0)])) fun t6 h7 => (aload true 1 h7 t0).bind fun t8 => bindRes (K 69 [(AVal.untok t8)] h7) (fun t9 h10 => (aextract 0 t9).bind fun t11 => (aextract 1 t9).bind fun t12 => (abin .neq t12 (.int .i64 0)).bind fun t13 => acond t13 ((abuild [(.int .i64 0), (.int .i64 0)] [(0, 1), (1, 1)] [(0, t12)]).bind fun t14 => (astore 1 h10 t2 (.int .i64 0)).bind fun h15 => (astore 1 h15 t4 (.int .i64 0)).bind fun h16 => (astore 2 h16 t6 t14).bind fun h17 => some (.ret, [t2, t4, t6], h17)) (((fun (t20 : AVal) (h21 : Heap) => (abuild [.nilmap, .nilmap, (.int .i64 0), (.str []), (.slice [] .nil), (.bool false), (.int .i64 0), (.int .i64 0), (.int .i64 0), (.slice [] .nil)] [(0, 1), (1, 1), (2, 8)] [(0, t20)]).bind fun t22 => bindVH (anew 10 h21 t22) fun t23 h24 => (afieldAt 0 t0).bind fun t27 => (aload false 1 h24 t27).bind fun t28 => (alenSl t28).bind fun t29 => (lpW (m51_l0 K (List.length h24)) ([t0, t2, t4, t6, t23, t28, t29, (.int .i64 0)], h24)).bind fun r57 => (fun x1v59 x2v60 x3v61 x4v62 x7v63 x24v64 x25v65 x26v66 h67 => Ex.thenDo r57.1 none (fun e58 => Ex.inBlock 0 e58 ((afieldAt 0 x1v59).bind fun t71 => (aload false 1 h67 t71).bind fun t72 => bindRes (K 72 [(AVal.untok x7v63), (AVal.untok t72)] h67) (fun t73 h74 => (anilCheck x7v63).bind fun t77 => (afieldAt 0 t77).bind fun t78 => (aload false 1 h74 t78).bind fun t79 => bif akeyFor .string (.str [109, 97, 105, 110]) then (alookup (.agg [(.int .i64 0), (.str []), (.slice [] .nil), (.bool false), (.int .i64 0), (.int .i64 0), (.int .i64 0), (.slice [] .nil), (.int .i64 0)]) false h74 t79 (.str [109, 97, 105, 110])).bind fun t80 => (afield false 1 8 t80).bind fun t81 => (afieldAt 0 x1v59).bind fun t82 => (aload false 1 h74 t82).bind fun t83 => (afieldAt 0 x1v59).bind fun t84 => (aload false 1 h74 t84).bind fun t85 => (alenSl t85).bind fun t86 => (abin .sub t86 (.int .i64 1)).bind fun t87 => (aindexSl 8 t83 t87).bind fun t88 => (afieldAt 0 t88).bind fun t89 => (aload false 1 h74 t89).bind fun t90 => (abuild [(.int .i64 0), (.int .i64 0)] [(0, 1), (1, 1)] []).bind fun t91 => (astore 1 (hide (lockIds [0, 1, 2] [t82, t84, t89]) h74) x2v60 t81).bind fun h92 => (astore 1 (unhide (lockIds [0, 1, 2] [t82, t84, t89]) h74 h92) x3v61 t90).bind fun h93 => (astore 2 h93 x4v62 t91).bind fun h94 => some (.ret, [x2v60, x3v61, x4v62], h94) else none) (fun v69 h70 => some ((.pan v69), [x2v60, x3v61, x4v62], h70))) (fun e68 => some (e68, [x2v60, x3v61, x4v62], h67)))) (List.getD r57.2.1 0 .junk) (List.getD r57.2.1 1 .junk) (List.getD r57.2.1 2 .junk) (List.getD r57.2.1 3 .junk) (List.getD r57.2.1 4 .junk) (List.getD r57.2.1 5 .junk) (List.getD r57.2.1 6 .junk) (List.getD r57.2.1 7 .junk) r57.2.2) (.map (List.length h10)) (h10 ++ [.map []])).bind fun r95 => Ex.endD r95.1 (Option.map (fun hh => (.ret, r95.2.1, hh)) (mR70 K [t2, t4, t6] none r95.2.2)) (fun vv => Option.map (fun hh => (.ret, [t2, t4, t6], hh)) (mR70 K [t2, t4, t6] (some vv) r95.2.2)))) (fun _ _ => none)).bind fun r96 => (fun x2v97 x3v98 x4v99 h100 => Ex.endF r96.1 ((aload false 1 h100 x2v97).bind fun t101 => (aload false 1 h100 x3v98).bind fun t102 => (aload true 2 h100 x4v99).bind fun t103 => finR (List.length h0) (.tuple [t101, t102, t103]) h100)) (List.getD r96.2.1 0 .junk) (List.getD r96.2.1 1 .junk) (List.getD r96.2.1 2 .junk) r96.2.2
theorem m51_eq (K : CallO) (a0 : AVal) (h0 : Heap) : evB Tryz.prog ann lpW K 51 [a0] h0 = m51 (callP ann K) a0 h0 := by kernel_rfl

/- hauberk/types.Check -/
def m32 (K : CallO) (a0 : AVal) (h0 : Heap) : Option (Res × Heap) :=
  (bindVH (anew 1 h0 a0) fun t0 h1 => bindVH (anew 2 h1 (.agg [(.int .i64 0), (.int .i64 0)])) fun t2 h3 => (aload true 1 h3 t0).bind fun t4 => bindRes (K 51 [(AVal.untok t4)] h3) (fun t5 h6 => (aextract 0 t5).bind fun t7 => (aextract 1 t5).bind fun t8 => (aextract 2 t5).bind fun t9 => bindVH (anew 2 h6 (.agg [(.int .i64 0), (.int .i64 0)])) fun t10 h11 => (astore 2 h11 t10 t9).bind fun h12 => (abin .gtr t7 (.int .i64 65536)).bind fun t13 => acond t13 ((abuild [(.int .i64 0), (.int .i64 0)] [(0, 1), (1, 1)] [(0, (.int .i64 18)), (1, t8)]).bind fun t14 => (astore 2 h12 t2 t14).bind fun h15 => some (.ret, [t2], h15)) ((aload true 2 h12 t10).bind fun t16 => (astore 2 h12 t2 t16).bind fun h17 => some (.ret, [t2], h17))) (fun _ _ => none)).bind fun r18 => (fun x2v19 h20 => Ex.endF r18.1 ((aload true 2 h20 x2v19).bind fun t21 => finR (List.length h0) t21 h20)) (List.getD r18.2.1 0 .junk) r18.2.2
theorem m32_eq (K : CallO) (a0 : AVal) (h0 : Heap) : evB Tryz.prog ann lpW K 32 [a0] h0 = m32 (callP ann K) a0 h0 := by kernel_rfl

/- hauberk/shape.Of -/
def m15_l0 (K : CallO) (m : Nat) (s : List AVal × Heap) : Option R :=
  (fun x2v29 x3v30 x5v31 x23v32 x24v33 x25v34 h35 => (abin .lss x25v34 x24v33).bind fun t36 => acond t36 ((aindexSl 6 x23v32 x25v34).bind fun t37 => (aload true 6 h35 t37).bind fun t38 => bindVH (anew 6 h35 (.agg [(.int .i64 0), (.str []), (.int .i64 0), (.int .i64 0), (.int .i64 0), (.bool false)])) fun t39 h40 => (astore 6 h40 t39 t38).bind fun h41 => (afieldAt 1 t39).bind fun t42 => (aload false 1 h41 t42).bind fun t43 => (afieldAt 2 t39).bind fun t44 => (aload true 3 h41 t44).bind fun t45 => (afieldAt 5 t39).bind fun t46 => (aload false 1 h41 t46).bind fun t47 => (abuild [(.str []), (.int .i64 0), (.int .i64 0), (.int .i64 0), (.bool false), (.int .i64 0), (.int .i64 0)] [(0, 1), (1, 3), (4, 1), (5, 1), (6, 1)] [(0, t43), (1, t45), (2, t47)]).bind fun t48 => bindVH (abuildSlice 1 7 [(.str []), (.int .i64 0), (.int .i64 0), (.int .i64 0), (.bool false), (.int .i64 0), (.int .i64 0)] [(0, t48)] h41) fun t49 h50 => bindVH (aappend 7 64 h50 x5v31 t49) fun t51 h52 => (abin .add x25v34 (.int .i64 1)).bind fun t53 => endR m .normal [x2v29, x3v30, t51, x23v32, x24v33, t53] h52) (endR m (.exit 0) [x2v29, x3v30, x5v31, x23v32, x24v33, x25v34] h35)) (List.getD s.1 0 .junk) (List.getD s.1 1 .junk) (List.getD s.1 2 .junk) (List.getD s.1 3 .junk) (List.getD s.1 4 .junk) (List.getD s.1 5 .junk) s.2
def m15 (K : CallO) (a0 : AVal) (h0 : Heap) : Option (Res × Heap) :=
  (bindVH (anew 1 h0 a0) fun t0 h1 => (fun (t3 : AVal) (h2 : Heap) => (aload true 1 h2 t0).bind fun t4 => bindRes (K 32 [(AVal.untok t4)] h2) (fun t5 h6 => bindVH (anew 2 h6 (.agg [(.int .i64 0), (.int .i64 0)])) fun t7 h8 => (astore 2 h8 t7 t5).bind fun h9 => (afieldAt 0 t7).bind fun t10 => (aload false 1 h9 t10).bind fun t11 => (abin .neq t11 (.int .i64 0)).bind fun t12 => acond t12 ((afieldAt 0 t7).bind fun t13 => (aload false 1 h9 t13).bind fun t14 => (fun (t16 : AVal) (h15 : Heap) => some (.ret, [t16, t14], (unhide (lockIds [0] [t13]) h9 h15))) (.slice [] (.own (List.length (hide (lockIds [0] [t13]) h9)))) ((hide (lockIds [0] [t13]) h9) ++ [.front 0 0])) ((fun (t18 : AVal) (h17 : Heap) => (afieldAt 0 t0).bind fun t19 => (aload false 1 h17 t19).bind fun t20 => (afieldAt 0 t0).bind fun t21 => (aload false 1 h17 t21).bind fun t22 => (alenSl t22).bind fun t23 => (abin .sub t23 (.int .i64 1)).bind fun t24 => (aindexSl 8 t20 t24).bind fun t25 => (afieldAt 2 t25).bind fun t26 => (aload false 1 h17 t26).bind fun t27 => (alenSl t27).bind fun t28 => (lpW (m15_l0 K (List.length h17)) ([t3, (.int .i64 0), t18, t27, t28, (.int .i64 0)], h17)).bind fun r54 => (fun x2v56 x3v57 x5v58 x23v59 x24v60 x25v61 h62 => Ex.thenDo r54.1 none (fun e55 => Ex.inBlock 0 e55 (bindRes (K 33 [(AVal.untok x5v58)] h62) (fun t64 h65 => (aextract 0 t64).bind fun t66 => (aextract 1 t64).bind fun t67 => (aextract 2 t64).bind fun t68 => some (.ret, [t66, (.int .i64 0)], h65)) (fun _ _ => none)) (fun e63 => some (e63, [x2v56, x3v57], h62)))) (List.getD r54.2.1 0 .junk) (List.getD r54.2.1 1 .junk) (List.getD r54.2.1 2 .junk) (List.getD r54.2.1 3 .junk) (List.getD r54.2.1 4 .junk) (List.getD r54.2.1 5 .junk) r54.2.2) (.slice [] (.own (List.length h9))) (h9 ++ [.front 0 0]))) (fun _ _ => none)) (.slice [] (.own (List.length h1))) (h1 ++ [.front 0 0])).bind fun r69 => (fun x2v70 x3v71 h72 => Ex.endF r69.1 (finR (List.length h0) (.tuple [x2v70, x3v71]) h72)) (List.getD r69.2.1 0 .junk) (List.getD r69.2.1 1 .junk) r69.2.2
theorem m15_eq (K : CallO) (a0 : AVal) (h0 : Heap) : evB Tryz.prog ann lpW K 15 [a0] h0 = m15 (callP ann K) a0 h0 := by kernel_rfl

/- hauberk/hauberklaw15.lives -/
def m4 (K : CallO) (h0 : Heap) : Option (Res × Heap) :=
  (bindRes (K 14 [(AVal.untok (.str [102, 110, 32, 109, 97, 105, 110, 40, 112, 117, 98, 32, 110, 58, 32, 117, 51, 50, 44, 32, 115, 101, 99, 32, 107, 58, 32, 117, 56, 91, 53, 93, 41, 32, 123, 32, 125]))] h0) (fun t0 h1 => (aextract 0 t0).bind fun t2 => (aextract 1 t0).bind fun t3 => bindVH (anew 1 h1 (.agg [(.slice [] .nil)])) fun t4 h5 => bindVH (anew 2 h5 (.agg [(.int .i64 0), (.int .i64 0)])) fun t6 h7 => (astore 1 h7 t4 t2).bind fun h8 => (astore 2 h8 t6 t3).bind fun h9 => (aload true 1 h9 t4).bind fun t10 => bindRes (K 15 [(AVal.untok t10)] h9) (fun t11 h12 => (aextract 0 t11).bind fun t13 => (aextract 1 t11).bind fun t14 => (abin .eql t14 (.int .i64 0)).bind fun t15 => (guardSel true t15 (kv0 t13 h12) (kv0 (.tuple []) h12)).bind (fin0 (fun t16 h17 => (guardSel true t15 ((alenSl t16).bind fun t18 => kv0 t18 h17) (kv0 (.tuple []) h17)).bind (fin0 (fun t19 h20 => (guardSel true t15 ((abin .eql t19 (.int .i64 2)).bind fun t21 => kv0 t21 h20) (kv0 (.tuple []) h20)).bind (fin0 (fun t22 h23 => (apick t15 t22 (.bool false)).bind fun t24 => (guardSel true t24 (kv0 t13 h23) (kv0 (.tuple []) h23)).bind (fin0 (fun t25 h26 => (guardSel true t24 ((aindexSl 7 t25 (.int .i64 0)).bind fun t27 => kv0 t27 h26) (kv0 (.tuple []) h26)).bind (fin0 (fun t28 h29 => (guardSel true t24 ((afieldAt 6 t28).bind fun t30 => kv0 t30 h29) (kv0 (.tuple []) h29)).bind (fin0 (fun t31 h32 => (guardSel true t24 ((aload false 1 h32 t31).bind fun t33 => kv0 t33 h32) (kv0 (.tuple []) h32)).bind (fin0 (fun t34 h35 => (guardSel true t24 ((abin .eql t34 (.int .i64 4)).bind fun t36 => kv0 t36 h35) (kv0 (.tuple []) h35)).bind (fin0 (fun t37 h38 => (apick t24 t37 (.bool false)).bind fun t39 => (guardSel true t39 (kv0 t13 h38) (kv0 (.tuple []) h38)).bind (fin0 (fun t40 h41 => (guardSel true t39 ((aindexSl 7 t40 (.int .i64 1)).bind fun t42 => kv0 t42 h41) (kv0 (.tuple []) h41)).bind (fin0 (fun t43 h44 => (guardSel true t39 ((afieldAt 5 t43).bind fun t45 => kv0 t45 h44) (kv0 (.tuple []) h44)).bind (fin0 (fun t46 h47 => (guardSel true t39 ((aload false 1 h47 t46).bind fun t48 => kv0 t48 h47) (kv0 (.tuple []) h47)).bind (fin0 (fun t49 h50 => (guardSel true t39 ((abin .eql t49 (.int .i64 4)).bind fun t51 => kv0 t51 h50) (kv0 (.tuple []) h50)).bind (fin0 (fun t52 h53 => (apick t39 t52 (.bool false)).bind fun t54 => (guardSel true t54 (kv0 t13 h53) (kv0 (.tuple []) h53)).bind (fin0 (fun t55 h56 => (guardSel true t54 ((aindexSl 7 t55 (.int .i64 1)).bind fun t57 => kv0 t57 h56) (kv0 (.tuple []) h56)).bind (fin0 (fun t58 h59 => (guardSel true t54 ((afieldAt 6 t58).bind fun t60 => kv0 t60 h59) (kv0 (.tuple []) h59)).bind (fin0 (fun t61 h62 => (guardSel true t54 ((aload false 1 h62 t61).bind fun t63 => kv0 t63 h62) (kv0 (.tuple []) h62)).bind (fin0 (fun t64 h65 => (guardSel true t54 ((abin .eql t64 (.int .i64 8)).bind fun t66 => kv0 t66 h65) (kv0 (.tuple []) h65)).bind (fin0 (fun t67 h68 => (apick t54 t67 (.bool false)).bind fun t69 => (guardSel true t69 (kv0 t13 h68) (kv0 (.tuple []) h68)).bind (fin0 (fun t70 h71 => (guardSel true t69 ((aindexSl 7 t70 (.int .i64 1)).bind fun t72 => kv0 t72 h71) (kv0 (.tuple []) h71)).bind (fin0 (fun t73 h74 => (guardSel true t69 ((afieldAt 0 t73).bind fun t75 => kv0 t75 h74) (kv0 (.tuple []) h74)).bind (fin0 (fun t76 h77 => (guardSel true t69 ((aload false 1 h77 t76).bind fun t78 => kv0 t78 h77) (kv0 (.tuple []) h77)).bind (fin0 (fun t79 h80 => (guardSel true t69 ((abin .eql t79 (.str [107])).bind fun t81 => kv0 t81 h80) (kv0 (.tuple []) h80)).bind (fin0 (fun t82 h83 => (apick t69 t82 (.bool false)).bind fun t84 => some (.ret, [t84], h83)) (fun _ _ => none))) (fun _ _ => none))) (fun _ _ => none))) (fun _ _ => none))) (fun _ _ => none))) (fun _ _ => none))) (fun _ _ => none))) (fun _ _ => none))) (fun _ _ => none))) (fun _ _ => none))) (fun _ _ => none))) (fun _ _ => none))) (fun _ _ => none))) (fun _ _ => none))) (fun _ _ => none))) (fun _ _ => none))) (fun _ _ => none))) (fun _ _ => none))) (fun _ _ => none))) (fun _ _ => none))) (fun _ _ => none))) (fun _ _ => none))) (fun _ _ => none))) (fun _ _ => none)) (fun _ _ => none)).bind fun r85 => (fun x0v86 h87 => Ex.endF r85.1 (finR (List.length h0) x0v86 h87)) (List.getD r85.2.1 0 .junk) r85.2.2
theorem m4_eq (K : CallO) (h0 : Heap) : evB Tryz.prog ann lpW K 4 [] h0 = m4 (callP ann K) h0 := by kernel_rfl
end
noncomputable section
open Go Hk
/- hauberk/shape.each -/
def m29_k (mm : Nat) (r25 : R) : Option (Res × Heap) :=
  (fun x2v26 h27 => Ex.endF r25.1 (finR mm x2v26 h27)) (gd r25.2.1 0) r25.2.2
def m29 (K : CallO) (a0 : AVal) (h0 : Heap) : Option (Res × Heap) :=
  (bindVH (anew 3 h0 a0) fun t20 h21 => fa 0 t20 fun t22 => ld false 1 h21 t22 fun t23 => bo .eql t23 (.int .i64 2) fun t24 => acond t24 (some (.ret, [(.int .i64 1)], h21)) (some (.ret, [(.int .i64 4)], h21))).bind (m29_k (List.length h0))
theorem m29_eq (K : CallO) (a0 : AVal) (h0 : Heap) : evB Tryz.prog ann lpW K 29 [a0] h0 = m29 (callP ann K) a0 h0 := by kernel_rfl
def t29 (p0 : Ty) : Option (Int) :=
  tc (decide (p0.elem = 2)) (some 1) (some 4)
theorem b29 (p0 : Ty) : m29 KK (.agg [(.int .i64 p0.elem), (.int .i64 p0.len), (.int .i64 p0.lab)]) [] = tm (t29 p0) fun r => (.ret (.int .i64 r), []) := by
  simp +contextual -implicitDefEqProofs (maxSteps := 2000000) [-acond_bool, -guardSel_true, -guardSel_false, -aindexSl_map, -aload_vptr, -aload_vptrT, -astore_vptr, m29, t29, m29_k]
theorem r29 (p0 : Ty) (h : Heap) : KK 29 [(.agg [(.int .i64 p0.elem), (.int .i64 p0.len), (.int .i64 p0.lab)])] h = tm (t29 p0) fun r => (.ret (.int .i64 r), h) := call_t rfl rfl (m29_eq ..) (b29 p0)
theorem r29x (x0_0 : Int) (x0_1 : Int) (x0_2 : Int) (h : Heap) : KK 29 [(.agg [(.int .i64 x0_0), (.int .i64 x0_1), (.int .i64 x0_2)])] h = tm (t29 (⟨x0_0, x0_1, x0_2⟩ : Ty)) fun r => (.ret (.int .i64 r), h) := r29 (⟨x0_0, x0_1, x0_2⟩ : Ty) h

/- hauberk/shape.many -/
def m19_k (mm : Nat) (r25 : R) : Option (Res × Heap) :=
  (fun x2v26 h27 => Ex.endF r25.1 (finR mm x2v26 h27)) (gd r25.2.1 0) r25.2.2
def m19 (K : CallO) (a0 : AVal) (h0 : Heap) : Option (Res × Heap) :=
  (bindVH (anew 3 h0 a0) fun t20 h21 => fa 1 t20 fun t22 => ld false 1 h21 t22 fun t23 => (amax2 t23 (.int .i64 1)).bind fun t24 => some (.ret, [t24], h21)).bind (m19_k (List.length h0))
theorem m19_eq (K : CallO) (a0 : AVal) (h0 : Heap) : evB Tryz.prog ann lpW K 19 [a0] h0 = m19 (callP ann K) a0 h0 := by kernel_rfl
def t19 (p0 : Ty) : Option (Int) :=
  some (max p0.len 1)
theorem b19 (p0 : Ty) : m19 KK (.agg [(.int .i64 p0.elem), (.int .i64 p0.len), (.int .i64 p0.lab)]) [] = tm (t19 p0) fun r => (.ret (.int .i64 r), []) := by
  simp +contextual -implicitDefEqProofs (maxSteps := 2000000) [-acond_bool, -guardSel_true, -guardSel_false, -aindexSl_map, -aload_vptr, -aload_vptrT, -astore_vptr, m19, t19, m19_k]
theorem r19 (p0 : Ty) (h : Heap) : KK 19 [(.agg [(.int .i64 p0.elem), (.int .i64 p0.len), (.int .i64 p0.lab)])] h = tm (t19 p0) fun r => (.ret (.int .i64 r), h) := call_t rfl rfl (m19_eq ..) (b19 p0)
theorem r19x (x0_0 : Int) (x0_1 : Int) (x0_2 : Int) (h : Heap) : KK 19 [(.agg [(.int .i64 x0_0), (.int .i64 x0_1), (.int .i64 x0_2)])] h = tm (t19 (⟨x0_0, x0_1, x0_2⟩ : Ty)) fun r => (.ret (.int .i64 r), h) := r19 (⟨x0_0, x0_1, x0_2⟩ : Ty) h

/- hauberk/shape.room -/
def m52_k (mm : Nat) (r36 : R) : Option (Res × Heap) :=
  (fun x2v37 h38 => Ex.endF r36.1 (finR mm x2v37 h38)) (gd r36.2.1 0) r36.2.2
def m52 (K : CallO) (a0 : AVal) (h0 : Heap) : Option (Res × Heap) :=
  (bindVH (anew 3 h0 a0) fun t20 h21 => ld true 3 h21 t20 fun t22 => ld true 3 h21 t20 fun t23 => ca (K 19 [(AVal.untok t22)] (hide (lockIds [0] [t20]) h21)) fun t24 h25 => ca (K 29 [(AVal.untok t23)] (unhide (lockIds [0] [t20]) h21 h25)) fun t27 h28 => bo .mul t24 t27 fun t30 => bo .add t30 (.int .i64 4) fun t31 => bo .sub t31 (.int .i64 1) fun t32 => bo .quo t32 (.int .i64 4) fun t33 => bo .mul t33 (.int .i64 4) fun t35 => some (.ret, [t35], h28)).bind (m52_k (List.length h0))
theorem m52_eq (K : CallO) (a0 : AVal) (h0 : Heap) : evB Tryz.prog ann lpW K 52 [a0] h0 = m52 (callP ann K) a0 h0 := by kernel_rfl
def t52 (p0 : Ty) : Option (Int) :=
  tb ((t19 p0)) fun r26 => tb ((t29 p0)) fun r29 => tb ((tquo .i64 (IntKind.wrap .i64 ((IntKind.wrap .i64 ((IntKind.wrap .i64 (r26 * r29)) + 4)) - 1)) 4)) fun n34 => some (IntKind.wrap .i64 (n34 * 4))
theorem b52 (p0 : Ty) : m52 KK (.agg [(.int .i64 p0.elem), (.int .i64 p0.len), (.int .i64 p0.lab)]) [] = tm (t52 p0) fun r => (.ret (.int .i64 r), []) := by
  simp +contextual -implicitDefEqProofs (maxSteps := 2000000) [-acond_bool, -guardSel_true, -guardSel_false, -aindexSl_map, -aload_vptr, -aload_vptrT, -astore_vptr, m52, t52, r19, r29, m52_k]
theorem r52 (p0 : Ty) (h : Heap) : KK 52 [(.agg [(.int .i64 p0.elem), (.int .i64 p0.len), (.int .i64 p0.lab)])] h = tm (t52 p0) fun r => (.ret (.int .i64 r), h) := call_t rfl rfl (m52_eq ..) (b52 p0)
theorem r52x (x0_0 : Int) (x0_1 : Int) (x0_2 : Int) (h : Heap) : KK 52 [(.agg [(.int .i64 x0_0), (.int .i64 x0_1), (.int .i64 x0_2)])] h = tm (t52 (⟨x0_0, x0_1, x0_2⟩ : Ty)) fun r => (.ret (.int .i64 r), h) := r52 (⟨x0_0, x0_1, x0_2⟩ : Ty) h

/- hauberk/shape.kind -/
def m34_k (mm : Nat) (r116 : R) : Option (Res × Heap) :=
  (fun x2v117 h118 => Ex.endF r116.1 (finR mm x2v117 h118)) (gd r116.2.1 0) r116.2.2
def m34_j1 (K : CallO) (m : Nat) (t36 : AVal) (t24 : AVal) (h35 : Heap) : Option R :=
  acond t36 (endR m .normal [(.bool false), t24, (.int .i64 1)] h35) (endR m .normal [(.bool false), t24, (.int .i64 0)] h35)
def t34_j1 (w39 : Bool) : Option (Int) :=
  tc w39 (some 1) (some 0)
theorem r34_j1 (w39 : Bool) (p0 : Fd) : (m34_j1 KK 2 (.bool w39) (.ptr 1 0) ([.cells [(.str p0.name), (.int .i64 p0.ty.elem), (.int .i64 p0.ty.len), (.int .i64 p0.ty.lab), (.bool p0.out), (.int .i64 p0.off), (.int .i64 p0.size)], .cells [(.int .i64 p0.ty.elem), (.int .i64 p0.ty.len), (.int .i64 p0.ty.lab)]] : Heap)) = tm (t34_j1 w39) fun r => (.normal, [(.bool false), (.ptr 1 0), (.int .i64 r)], ([.cells [(.str p0.name), (.int .i64 p0.ty.elem), (.int .i64 p0.ty.len), (.int .i64 p0.ty.lab), (.bool p0.out), (.int .i64 p0.off), (.int .i64 p0.size)], .cells [(.int .i64 p0.ty.elem), (.int .i64 p0.ty.len), (.int .i64 p0.ty.lab)]] : Heap)) := by
  simp +contextual -implicitDefEqProofs (maxSteps := 2000000) [-acond_bool, -guardSel_true, -guardSel_false, -aindexSl_map, -aload_vptr, -aload_vptrT, -astore_vptr, m34_j1, t34_j1]
def m34_s5 (K : CallO) (t112 : AVal) (h111 : Heap) : Option R :=
  some (.ret, [t112], h111)
def t34_s5 (w115 : Bool) : Option (Bool) :=
  some w115
theorem r34_s5 (w115 : Bool) (p0 : Fd) : ((m34_s5 KK (.bool w115) ([.cells [(.str p0.name), (.int .i64 p0.ty.elem), (.int .i64 p0.ty.len), (.int .i64 p0.ty.lab), (.bool p0.out), (.int .i64 p0.off), (.int .i64 p0.size)], .cells [(.int .i64 p0.ty.elem), (.int .i64 p0.ty.len), (.int .i64 p0.ty.lab)]] : Heap))).bind (m34_k 0) = tm (t34_s5 w115) fun r => (.ret (.bool r), []) := by
  simp +contextual -implicitDefEqProofs (maxSteps := 2000000) [-acond_bool, -guardSel_true, -guardSel_false, -aindexSl_map, -aload_vptr, -aload_vptrT, -astore_vptr, m34_s5, t34_s5, r34_j1, m34_k]
def m34_s4 (K : CallO) (t99 : AVal) (x3v42 : AVal) (h98 : Heap) : Option R :=
  gS true t99 (fa 1 x3v42 fun t103 => kv0 t103 h98) h98 fun t104 h105 => gS true t99 (ld false 1 h105 t104 fun t106 => kv0 t106 h105) h105 fun t107 h108 => gS true t99 (bo .leq t107 (.int .i64 16384) fun t109 => kv0 t109 h108) h108 fun t110 h111 => (apick t99 t110 (.bool false)).bind fun t112 => m34_s5 K t112 h111
def t34_s4 (w102 : Bool) (p0 : Fd) : Option (Bool) :=
  tc w102 (t34_s5 (decide (p0.ty.len ≤ 16384))) (t34_s5 false)
theorem r34_s4 (w102 : Bool) (p0 : Fd) : ((m34_s4 KK (.bool w102) (.ptr 1 0) ([.cells [(.str p0.name), (.int .i64 p0.ty.elem), (.int .i64 p0.ty.len), (.int .i64 p0.ty.lab), (.bool p0.out), (.int .i64 p0.off), (.int .i64 p0.size)], .cells [(.int .i64 p0.ty.elem), (.int .i64 p0.ty.len), (.int .i64 p0.ty.lab)]] : Heap))).bind (m34_k 0) = tm (t34_s4 w102 p0) fun r => (.ret (.bool r), []) := by
  simp +contextual -implicitDefEqProofs (maxSteps := 2000000) [-acond_bool, -guardSel_true, -guardSel_false, -aindexSl_map, -aload_vptr, -aload_vptrT, -astore_vptr, m34_s4, t34_s4, r34_j1, m34_k, r34_s5]
def m34_s3 (K : CallO) (t84 : AVal) (x3v42 : AVal) (h83 : Heap) (x4v43 : AVal) : Option R :=
  gS true t84 (fa 1 x3v42 fun t88 => kv0 t88 h83) h83 fun t89 h90 => gS true t84 (ld false 1 h90 t89 fun t91 => kv0 t91 h90) h90 fun t92 h93 => gS true t84 (kv0 x4v43 h93) h93 fun t94 h95 => gS true t84 (bo .geq t92 t94 fun t96 => kv0 t96 h95) h95 fun t97 h98 => (apick t84 t97 (.bool false)).bind fun t99 => m34_s4 K t99 x3v42 h98
def t34_s3 (w87 : Bool) (p0 : Fd) (r40 : Int) : Option (Bool) :=
  tc w87 (t34_s4 (decide (r40 ≤ p0.ty.len)) p0) (t34_s4 false p0)
theorem r34_s3 (w87 : Bool) (p0 : Fd) (r40 : Int) : ((m34_s3 KK (.bool w87) (.ptr 1 0) ([.cells [(.str p0.name), (.int .i64 p0.ty.elem), (.int .i64 p0.ty.len), (.int .i64 p0.ty.lab), (.bool p0.out), (.int .i64 p0.off), (.int .i64 p0.size)], .cells [(.int .i64 p0.ty.elem), (.int .i64 p0.ty.len), (.int .i64 p0.ty.lab)]] : Heap) (.int .i64 r40))).bind (m34_k 0) = tm (t34_s3 w87 p0 r40) fun r => (.ret (.bool r), []) := by
  simp +contextual -implicitDefEqProofs (maxSteps := 2000000) [-acond_bool, -guardSel_true, -guardSel_false, -aindexSl_map, -aload_vptr, -aload_vptrT, -astore_vptr, m34_s3, t34_s3, r34_j1, m34_k, r34_s5, r34_s4]
def m34_s2 (K : CallO) (t57 : AVal) (x3v42 : AVal) (h56 : Heap) (x4v43 : AVal) : Option R :=
  gS true t57 (fa 2 x3v42 fun t61 => kv0 t61 h56) h56 fun t62 h63 => gS true t57 (ld false 1 h63 t62 fun t64 => kv0 t64 h63) h63 fun t65 h66 => gS true t57 (bo .eql t65 (.int .i64 0) fun t67 => kv0 t67 h66) h66 fun t68 h69 => gS true t57 (kv0 t68 h69) h69 fun t70 h71 => gS false t70 (fa 2 x3v42 fun t72 => kv0 t72 h71) h71 fun t73 h74 => gS false t70 (ld false 1 h74 t73 fun t75 => kv0 t75 h74) h74 fun t76 h77 => gS false t70 (bo .eql t76 (.int .i64 1) fun t78 => kv0 t78 h77) h77 fun t79 h80 => gS true t57 ((apick t70 (.bool true) t79).bind fun t81 => kv0 t81 h80) h80 fun t82 h83 => (apick t57 t82 (.bool false)).bind fun t84 => m34_s3 K t84 x3v42 h83 x4v43
def t34_s2 (w60 : Bool) (p0 : Fd) (r40 : Int) : Option (Bool) :=
  tc w60 (tc (decide (p0.ty.lab = 0)) (t34_s3 true p0 r40) (t34_s3 (decide (p0.ty.lab = 1)) p0 r40)) (t34_s3 false p0 r40)
theorem r34_s2 (w60 : Bool) (p0 : Fd) (r40 : Int) : ((m34_s2 KK (.bool w60) (.ptr 1 0) ([.cells [(.str p0.name), (.int .i64 p0.ty.elem), (.int .i64 p0.ty.len), (.int .i64 p0.ty.lab), (.bool p0.out), (.int .i64 p0.off), (.int .i64 p0.size)], .cells [(.int .i64 p0.ty.elem), (.int .i64 p0.ty.len), (.int .i64 p0.ty.lab)]] : Heap) (.int .i64 r40))).bind (m34_k 0) = tm (t34_s2 w60 p0 r40) fun r => (.ret (.bool r), []) := by
  simp +contextual -implicitDefEqProofs (maxSteps := 2000000) [-acond_bool, -guardSel_true, -guardSel_false, -aindexSl_map, -aload_vptr, -aload_vptrT, -astore_vptr, m34_s2, t34_s2, r34_j1, m34_k, r34_s5, r34_s4, r34_s3]
def m34_s0 (K : CallO) (h35 : Heap) (t36 : AVal) (t24 : AVal) : Option R :=
  (m34_j1 K (List.length h35) t36 t24 h35).bind fun r40 => (fun x2v41 x3v42 x4v43 h44 => Ex.nrm r40.1 (fa 0 x3v42 fun t45 => ld false 1 h44 t45 fun t46 => bo .eql t46 (.int .i64 0) fun t47 => gS false t47 (fa 0 x3v42 fun t48 => kv0 t48 h44) h44 fun t49 h50 => gS false t47 (ld false 1 h50 t49 fun t51 => kv0 t51 h50) h50 fun t52 h53 => gS false t47 (bo .eql t52 (.int .i64 2) fun t54 => kv0 t54 h53) h53 fun t55 h56 => (apick t47 (.bool true) t55).bind fun t57 => m34_s2 K t57 x3v42 h56 x4v43)) (gd r40.2.1 0) (gd r40.2.1 1) (gd r40.2.1 2) r40.2.2
def t34_s0 (p0 : Fd) (w39 : Bool) : Option (Bool) :=
  tb (t34_j1 w39) fun r40 => tc (decide (p0.ty.elem = 0)) (t34_s2 true p0 r40) (t34_s2 (decide (p0.ty.elem = 2)) p0 r40)
theorem r34_s0 (p0 : Fd) (w39 : Bool) : ((m34_s0 KK ([.cells [(.str p0.name), (.int .i64 p0.ty.elem), (.int .i64 p0.ty.len), (.int .i64 p0.ty.lab), (.bool p0.out), (.int .i64 p0.off), (.int .i64 p0.size)], .cells [(.int .i64 p0.ty.elem), (.int .i64 p0.ty.len), (.int .i64 p0.ty.lab)]] : Heap) (.bool w39) (.ptr 1 0))).bind (m34_k 0) = tm (t34_s0 p0 w39) fun r => (.ret (.bool r), []) := by
  simp +contextual -implicitDefEqProofs (maxSteps := 2000000) [-acond_bool, -guardSel_true, -guardSel_false, -aindexSl_map, -aload_vptr, -aload_vptrT, -astore_vptr, m34_s0, t34_s0, r34_j1, m34_k, r34_s5, r34_s4, r34_s3, r34_s2]
def m34 (K : CallO) (a0 : AVal) (h0 : Heap) : Option (Res × Heap) :=
  (bindVH (anew 7 h0 a0) fun t20 h21 => fa 1 t20 fun t22 => ld true 3 h21 t22 fun t23 => bindVH (anew 3 h21 (.agg [(.int .i64 0), (.int .i64 0), (.int .i64 0)])) fun t24 h25 => (astore 3 h25 t24 t23).bind fun h26 => fa 0 t24 fun t27 => ld false 1 h26 t27 fun t28 => bo .eql t28 (.int .i64 2) fun t29 => gS false t29 (fa 4 t20 fun t30 => kv0 t30 h26) h26 fun t31 h32 => gS false t29 (ld false 1 h32 t31 fun t33 => kv0 t33 h32) h32 fun t34 h35 => (apick t29 (.bool true) t34).bind fun t36 => m34_s0 K h35 t36 t24).bind (m34_k (List.length h0))
theorem m34_eq (K : CallO) (a0 : AVal) (h0 : Heap) : evB Tryz.prog ann lpW K 34 [a0] h0 = m34 (callP ann K) a0 h0 := by kernel_rfl
def t34 (p0 : Fd) : Option (Bool) :=
  tc (decide (p0.ty.elem = 2)) (t34_s0 p0 true) (t34_s0 p0 p0.out)
theorem b34 (p0 : Fd) : m34 KK (.agg [(.str p0.name), (.int .i64 p0.ty.elem), (.int .i64 p0.ty.len), (.int .i64 p0.ty.lab), (.bool p0.out), (.int .i64 p0.off), (.int .i64 p0.size)]) [] = tm (t34 p0) fun r => (.ret (.bool r), []) := by
  simp +contextual -implicitDefEqProofs (maxSteps := 2000000) [-acond_bool, -guardSel_true, -guardSel_false, -aindexSl_map, -aload_vptr, -aload_vptrT, -astore_vptr, m34, t34, r34_j1, m34_k, r34_s5, r34_s4, r34_s3, r34_s2, r34_s0]
theorem r34 (p0 : Fd) (h : Heap) : KK 34 [(.agg [(.str p0.name), (.int .i64 p0.ty.elem), (.int .i64 p0.ty.len), (.int .i64 p0.ty.lab), (.bool p0.out), (.int .i64 p0.off), (.int .i64 p0.size)])] h = tm (t34 p0) fun r => (.ret (.bool r), h) := call_t rfl rfl (m34_eq ..) (b34 p0)
theorem r34x (x0_0 : List UInt8) (x0_1 : Int) (x0_2 : Int) (x0_3 : Int) (x0_4 : Bool) (x0_5 : Int) (x0_6 : Int) (h : Heap) : KK 34 [(.agg [(.str x0_0), (.int .i64 x0_1), (.int .i64 x0_2), (.int .i64 x0_3), (.bool x0_4), (.int .i64 x0_5), (.int .i64 x0_6)])] h = tm (t34 (⟨x0_0, (⟨x0_1, x0_2, x0_3⟩ : Ty), x0_4, x0_5, x0_6⟩ : Fd)) fun r => (.ret (.bool r), h) := r34 (⟨x0_0, (⟨x0_1, x0_2, x0_3⟩ : Ty), x0_4, x0_5, x0_6⟩ : Fd) h

/- hauberk/hauberkref14.Size -/
def m17_k (mm : Nat) (r55 : R) : Option (Res × Heap) :=
  (fun x2v56 h57 => Ex.endF r55.1 (finR mm x2v56 h57)) (gd r55.2.1 0) r55.2.2
def m17_j1 (K : CallO) (m : Nat) (t30 : AVal) (t27 : AVal) (h21 : Heap) : Option R :=
  acond t30 (bo .mul (.int .i64 4) t27 fun t32 => endR m .normal [(.int .i64 0), t32] h21) (endR m .normal [(.int .i64 0), t27] h21)
def t17_j1 (w31 : Bool) (p0 : Ty) : Option (Int) :=
  tc w31 (some (IntKind.wrap .i64 (4 * p0.len))) (some p0.len)
theorem r17_j1 (w31 : Bool) (p0 : Ty) : (m17_j1 KK 1 (.bool w31) (.int .i64 p0.len) ([.cells [(.int .i64 p0.elem), (.int .i64 p0.len), (.int .i64 p0.lab)]] : Heap)) = tm (t17_j1 w31 p0) fun r => (.normal, [(.int .i64 0), (.int .i64 r)], ([.cells [(.int .i64 p0.elem), (.int .i64 p0.len), (.int .i64 p0.lab)]] : Heap)) := by
  simp +contextual -implicitDefEqProofs (maxSteps := 2000000) [-acond_bool, -guardSel_true, -guardSel_false, -aindexSl_map, -aload_vptr, -aload_vptrT, -astore_vptr, m17_j1, t17_j1]
def m17_j0 (K : CallO) (m : Nat) (t24 : AVal) (t20 : AVal) (h21 : Heap) : Option R :=
  acond t24 (fa 1 t20 fun t26 => ld false 1 h21 t26 fun t27 => fa 0 t20 fun t28 => ld false 1 h21 t28 fun t29 => bo .eql t29 (.int .i64 0) fun t30 => (m17_j1 K (List.length h21) t30 t27 h21).bind fun r33 => (fun x2v34 x3v35 h36 => Ex.nrm r33.1 (endR m .normal [x2v34, x3v35] h36)) (gd r33.2.1 0) (gd r33.2.1 1) r33.2.2) (endR m .normal [(.int .i64 0), (.int .i64 4)] h21)
def t17_j0 (w25 : Bool) (p0 : Ty) : Option (Int) :=
  tc w25 (tb (t17_j1 (decide (p0.elem = 0)) p0) fun r33 => some r33) (some 4)
theorem r17_j0 (w25 : Bool) (p0 : Ty) : (m17_j0 KK 1 (.bool w25) (.ptr 0 0) ([.cells [(.int .i64 p0.elem), (.int .i64 p0.len), (.int .i64 p0.lab)]] : Heap)) = tm (t17_j0 w25 p0) fun r => (.normal, [(.int .i64 0), (.int .i64 r)], ([.cells [(.int .i64 p0.elem), (.int .i64 p0.len), (.int .i64 p0.lab)]] : Heap)) := by
  simp +contextual -implicitDefEqProofs (maxSteps := 2000000) [-acond_bool, -guardSel_true, -guardSel_false, -aindexSl_map, -aload_vptr, -aload_vptrT, -astore_vptr, m17_j0, t17_j0, r17_j1]
def m17_l2 (K : CallO) (m : Nat) (s : List AVal × Heap) : Option R :=
  (fun x2v42 x3v43 h44 => bo .rem x3v43 (.int .i64 4) fun t45 => bo .neq t45 (.int .i64 0) fun t47 => acond t47 (bo .add x3v43 (.int .i64 1) fun t48 => endR m .normal [x2v42, t48] h44) (endR m (.exit 0) [x2v42, x3v43] h44)) (gd s.1 0) (gd s.1 1) s.2
def t17_l2 (s41 : Int) : Option (Ey × Int) :=
  tb ((trem s41 4)) fun n46 => tc (!decide (n46 = 0)) (some (.n, (IntKind.wrap .i64 (s41 + 1)))) (some ((.x 0), s41))
theorem b17_l2 (p0 : Ty) (s41 : Int) : m17_l2 KK 1 ([(.int .i64 0), (.int .i64 s41)], ([.cells [(.int .i64 p0.elem), (.int .i64 p0.len), (.int .i64 p0.lab)]] : Heap)) = tm (t17_l2  s41) fun r => (r.1.ex, [(.int .i64 0), (.int .i64 r.2)], ([.cells [(.int .i64 p0.elem), (.int .i64 p0.len), (.int .i64 p0.lab)]] : Heap)) := by
  simp +contextual -implicitDefEqProofs (maxSteps := 2000000) [-acond_bool, -guardSel_true, -guardSel_false, -aindexSl_map, -aload_vptr, -aload_vptrT, -astore_vptr, m17_l2, t17_l2]
theorem r17_l2 (p0 : Ty) (i1 : Int) : lpW (m17_l2 KK 1) ([(.int .i64 0), (.int .i64 i1)], ([.cells [(.int .i64 p0.elem), (.int .i64 p0.len), (.int .i64 p0.lab)]] : Heap)) = tm (lpT (t17_l2 ) i1) fun r => (r.1.ex, [(.int .i64 0), (.int .i64 r.2)], ([.cells [(.int .i64 p0.elem), (.int .i64 p0.len), (.int .i64 p0.lab)]] : Heap)) := by
  exact lpW_t (enc := fun s41 => ([(.int .i64 0), (.int .i64 s41)], ([.cells [(.int .i64 p0.elem), (.int .i64 p0.len), (.int .i64 p0.lab)]] : Heap))) (fun s41 => b17_l2 p0 s41) i1
def m17 (K : CallO) (a0 : AVal) (h0 : Heap) : Option (Res × Heap) :=
  (bindVH (anew 3 h0 a0) fun t20 h21 => fa 1 t20 fun t22 => ld false 1 h21 t22 fun t23 => bo .gtr t23 (.int .i64 0) fun t24 => (m17_j0 K (List.length h21) t24 t20 h21).bind fun r37 => (fun x2v38 x3v39 h40 => Ex.nrm r37.1 ((lpW (m17_l2 K (List.length h40)) ([x2v38, x3v39], h40)).bind fun r49 => (fun x2v51 x3v52 h53 => Ex.thenDo r49.1 none (fun e50 => Ex.inBlock 0 e50 (some (.ret, [x3v52], h53)) (fun e54 => some (e54, [x2v51], h53)))) (gd r49.2.1 0) (gd r49.2.1 1) r49.2.2)) (gd r37.2.1 0) (gd r37.2.1 1) r37.2.2).bind (m17_k (List.length h0))
theorem m17_eq (K : CallO) (a0 : AVal) (h0 : Heap) : evB Tryz.prog ann lpW K 17 [a0] h0 = m17 (callP ann K) a0 h0 := by kernel_rfl
def t17 (p0 : Ty) : Option (Int) :=
  tb (t17_j0 (decide (0 < p0.len)) p0) fun r37 => tb (lpT (t17_l2 ) r37) fun r49 => exT r49.1 none fun e50 => ibT 0 e50 (some r49.2) fun e54 => efT e54 (some 0)
theorem b17 (p0 : Ty) : m17 KK (.agg [(.int .i64 p0.elem), (.int .i64 p0.len), (.int .i64 p0.lab)]) [] = tm (t17 p0) fun r => (.ret (.int .i64 r), []) := by
  simp +contextual -implicitDefEqProofs (maxSteps := 2000000) [-acond_bool, -guardSel_true, -guardSel_false, -aindexSl_map, -aload_vptr, -aload_vptrT, -astore_vptr, m17, t17, r17_j0, r17_l2, m17_k]
theorem r17 (p0 : Ty) (h : Heap) : KK 17 [(.agg [(.int .i64 p0.elem), (.int .i64 p0.len), (.int .i64 p0.lab)])] h = tm (t17 p0) fun r => (.ret (.int .i64 r), h) := call_t rfl rfl (m17_eq ..) (b17 p0)
theorem r17x (x0_0 : Int) (x0_1 : Int) (x0_2 : Int) (h : Heap) : KK 17 [(.agg [(.int .i64 x0_0), (.int .i64 x0_1), (.int .i64 x0_2)])] h = tm (t17 (⟨x0_0, x0_1, x0_2⟩ : Ty)) fun r => (.ret (.int .i64 r), h) := r17 (⟨x0_0, x0_1, x0_2⟩ : Ty) h

/- hauberk/hauberkref15.Many -/
def m24_k (mm : Nat) (r27 : R) : Option (Res × Heap) :=
  (fun x2v28 h29 => Ex.endF r27.1 (finR mm x2v28 h29)) (gd r27.2.1 0) r27.2.2
def m24 (K : CallO) (a0 : AVal) (h0 : Heap) : Option (Res × Heap) :=
  (bindVH (anew 3 h0 a0) fun t20 h21 => fa 1 t20 fun t22 => ld false 1 h21 t22 fun t23 => bo .eql t23 (.int .i64 0) fun t24 => acond t24 (some (.ret, [(.int .i64 1)], h21)) (fa 1 t20 fun t25 => ld false 1 h21 t25 fun t26 => some (.ret, [t26], h21))).bind (m24_k (List.length h0))
theorem m24_eq (K : CallO) (a0 : AVal) (h0 : Heap) : evB Tryz.prog ann lpW K 24 [a0] h0 = m24 (callP ann K) a0 h0 := by kernel_rfl
def t24 (p0 : Ty) : Option (Int) :=
  tc (decide (p0.len = 0)) (some 1) (some p0.len)
theorem b24 (p0 : Ty) : m24 KK (.agg [(.int .i64 p0.elem), (.int .i64 p0.len), (.int .i64 p0.lab)]) [] = tm (t24 p0) fun r => (.ret (.int .i64 r), []) := by
  simp +contextual -implicitDefEqProofs (maxSteps := 2000000) [-acond_bool, -guardSel_true, -guardSel_false, -aindexSl_map, -aload_vptr, -aload_vptrT, -astore_vptr, m24, t24, m24_k]
theorem r24 (p0 : Ty) (h : Heap) : KK 24 [(.agg [(.int .i64 p0.elem), (.int .i64 p0.len), (.int .i64 p0.lab)])] h = tm (t24 p0) fun r => (.ret (.int .i64 r), h) := call_t rfl rfl (m24_eq ..) (b24 p0)
theorem r24x (x0_0 : Int) (x0_1 : Int) (x0_2 : Int) (h : Heap) : KK 24 [(.agg [(.int .i64 x0_0), (.int .i64 x0_1), (.int .i64 x0_2)])] h = tm (t24 (⟨x0_0, x0_1, x0_2⟩ : Ty)) fun r => (.ret (.int .i64 r), h) := r24 (⟨x0_0, x0_1, x0_2⟩ : Ty) h

/- hauberk/hauberkref15.Wide -/
def m25_k (mm : Nat) (r25 : R) : Option (Res × Heap) :=
  (fun x2v26 h27 => Ex.endF r25.1 (finR mm x2v26 h27)) (gd r25.2.1 0) r25.2.2
def m25 (K : CallO) (a0 : AVal) (h0 : Heap) : Option (Res × Heap) :=
  (bindVH (anew 3 h0 a0) fun t20 h21 => fa 0 t20 fun t22 => ld false 1 h21 t22 fun t23 => bo .eql t23 (.int .i64 2) fun t24 => acond t24 (some (.ret, [(.int .i64 1)], h21)) (some (.ret, [(.int .i64 4)], h21))).bind (m25_k (List.length h0))
theorem m25_eq (K : CallO) (a0 : AVal) (h0 : Heap) : evB Tryz.prog ann lpW K 25 [a0] h0 = m25 (callP ann K) a0 h0 := by kernel_rfl
def t25 (p0 : Ty) : Option (Int) :=
  tc (decide (p0.elem = 2)) (some 1) (some 4)
theorem b25 (p0 : Ty) : m25 KK (.agg [(.int .i64 p0.elem), (.int .i64 p0.len), (.int .i64 p0.lab)]) [] = tm (t25 p0) fun r => (.ret (.int .i64 r), []) := by
  simp +contextual -implicitDefEqProofs (maxSteps := 2000000) [-acond_bool, -guardSel_true, -guardSel_false, -aindexSl_map, -aload_vptr, -aload_vptrT, -astore_vptr, m25, t25, m25_k]
theorem r25 (p0 : Ty) (h : Heap) : KK 25 [(.agg [(.int .i64 p0.elem), (.int .i64 p0.len), (.int .i64 p0.lab)])] h = tm (t25 p0) fun r => (.ret (.int .i64 r), h) := call_t rfl rfl (m25_eq ..) (b25 p0)
theorem r25x (x0_0 : Int) (x0_1 : Int) (x0_2 : Int) (h : Heap) : KK 25 [(.agg [(.int .i64 x0_0), (.int .i64 x0_1), (.int .i64 x0_2)])] h = tm (t25 (⟨x0_0, x0_1, x0_2⟩ : Ty)) fun r => (.ret (.int .i64 r), h) := r25 (⟨x0_0, x0_1, x0_2⟩ : Ty) h

/- hauberk/hauberkref01.Wrap -/
def m26_k (mm : Nat) (r24 : R) : Option (Res × Heap) :=
  (fun x2v25 h26 => Ex.endF r24.1 (finR mm x2v25 h26)) (gd r24.2.1 0) r24.2.2
def m26 (K : CallO) (a0 : AVal) (h0 : Heap) : Option (Res × Heap) :=
  ((aconvInt .u64 a0).bind fun t20 => bo .rem t20 (.int .u64 4294967296) fun t21 => (aconvInt .i64 t21).bind fun t23 => some (.ret, [t23], h0)).bind (m26_k (List.length h0))
theorem m26_eq (K : CallO) (a0 : AVal) (h0 : Heap) : evB Tryz.prog ann lpW K 26 [a0] h0 = m26 (callP ann K) a0 h0 := by kernel_rfl
def t26 (p0 : Int) : Option (Int) :=
  tb ((trem (IntKind.wrap .u64 p0) 4294967296)) fun n22 => some (IntKind.wrap .i64 n22)
theorem b26 (p0 : Int) : m26 KK (.int .i64 p0) [] = tm (t26 p0) fun r => (.ret (.int .i64 r), []) := by
  simp +contextual -implicitDefEqProofs (maxSteps := 2000000) [-acond_bool, -guardSel_true, -guardSel_false, -aindexSl_map, -aload_vptr, -aload_vptrT, -astore_vptr, m26, t26, m26_k]
theorem r26 (p0 : Int) (h : Heap) : KK 26 [(.int .i64 p0)] h = tm (t26 p0) fun r => (.ret (.int .i64 r), h) := call_t rfl rfl (m26_eq ..) (b26 p0)

/- hauberk/word.Wrap -/
def m54_k (mm : Nat) (r21 : R) : Option (Res × Heap) :=
  (fun x2v22 h23 => Ex.endF r21.1 (finR mm x2v22 h23)) (gd r21.2.1 0) r21.2.2
def m54 (K : CallO) (a0 : AVal) (h0 : Heap) : Option (Res × Heap) :=
  (bo .and a0 (.int .i64 4294967295) fun t20 => some (.ret, [t20], h0)).bind (m54_k (List.length h0))
theorem m54_eq (K : CallO) (a0 : AVal) (h0 : Heap) : evB Tryz.prog ann lpW K 54 [a0] h0 = m54 (callP ann K) a0 h0 := by kernel_rfl
def t54 (p0 : Int) : Option (Int) :=
  some (tand .i64 p0 4294967295)
theorem b54 (p0 : Int) : m54 KK (.int .i64 p0) [] = tm (t54 p0) fun r => (.ret (.int .i64 r), []) := by
  simp +contextual -implicitDefEqProofs (maxSteps := 2000000) [-acond_bool, -guardSel_true, -guardSel_false, -aindexSl_map, -aload_vptr, -aload_vptrT, -astore_vptr, m54, t54, m54_k]
theorem r54 (p0 : Int) (h : Heap) : KK 54 [(.int .i64 p0)] h = tm (t54 p0) fun r => (.ret (.int .i64 r), h) := call_t rfl rfl (m54_eq ..) (b54 p0)

/- hauberk/word.Of -/
def m40_k (mm : Nat) (r49 : R) : Option (Res × Heap) :=
  (fun x2v50 x3v51 h52 => Ex.endF r49.1 (finR mm (.tuple [x2v50, x3v51]) h52)) (gd r49.2.1 0) (gd r49.2.1 1) r49.2.2
def m40_l0 (K : CallO) (m : Nat) (s : List AVal × Heap) : Option R :=
  (fun x0v25 x2v26 x3v27 x4v28 x9v29 h30 => bo .lss x9v29 (.int .i64 4) fun t31 => acond t31 ((aindexStr x0v25 x9v29).bind fun t32 => (aconvInt .i64 t32).bind fun t34 => bo .mul (.int .i64 8) x9v29 fun t35 => bo .shl t34 t35 fun t36 => bo .or x4v28 t36 fun t38 => bo .add x9v29 (.int .i64 1) fun t39 => endR m .normal [x0v25, x2v26, x3v27, t38, t39] h30) (endR m (.exit 0) [x0v25, x2v26, x3v27, x4v28, x9v29] h30)) (gd s.1 0) (gd s.1 1) (gd s.1 2) (gd s.1 3) (gd s.1 4) s.2
def t40_l0 (p0 : (List UInt8)) (s24 : Int × Int) : Option (Ey × Int × Int) :=
  tc (decide (s24.2 < 4)) (tb ((tstr p0 s24.2)) fun n33 => tb ((tshl .i64 (IntKind.wrap .i64 n33) (IntKind.wrap .i64 (8 * s24.2)))) fun n37 => some (.n, ((tor .i64 s24.1 n37), (IntKind.wrap .i64 (s24.2 + 1))))) (some ((.x 0), (s24.1, s24.2)))
theorem b40_l0 (p0 : (List UInt8)) (s24 : Int × Int) : m40_l0 KK 0 ([(.str p0), (.int .i64 0), (.bool false), (.int .i64 s24.1), (.int .i64 s24.2)], ([] : Heap)) = tm (t40_l0 p0 s24) fun r => (r.1.ex, [(.str p0), (.int .i64 0), (.bool false), (.int .i64 r.2.1), (.int .i64 r.2.2)], ([] : Heap)) := by
  simp +contextual -implicitDefEqProofs (maxSteps := 2000000) [-acond_bool, -guardSel_true, -guardSel_false, -aindexSl_map, -aload_vptr, -aload_vptrT, -astore_vptr, m40_l0, t40_l0]
theorem r40_l0 (p0 : (List UInt8)) (i3 : Int) (i4 : Int) : lpW (m40_l0 KK 0) ([(.str p0), (.int .i64 0), (.bool false), (.int .i64 i3), (.int .i64 i4)], ([] : Heap)) = tm (lpT (t40_l0 p0) (i3, i4)) fun r => (r.1.ex, [(.str p0), (.int .i64 0), (.bool false), (.int .i64 r.2.1), (.int .i64 r.2.2)], ([] : Heap)) := by
  exact lpW_t (enc := fun s24 => ([(.str p0), (.int .i64 0), (.bool false), (.int .i64 s24.1), (.int .i64 s24.2)], ([] : Heap))) (fun s24 => b40_l0 p0 s24) (i3, i4)
def m40 (K : CallO) (a0 : AVal) (h0 : Heap) : Option (Res × Heap) :=
  ((alenStr a0).bind fun t20 => bo .neq t20 (.int .i64 4) fun t21 => acond t21 (some (.ret, [(.int .i64 0), (.bool false)], h0)) ((lpW (m40_l0 K (List.length h0)) ([a0, (.int .i64 0), (.bool false), (.int .i64 0), (.int .i64 0)], h0)).bind fun r40 => (fun x0v42 x2v43 x3v44 x4v45 x9v46 h47 => Ex.thenDo r40.1 none (fun e41 => Ex.inBlock 0 e41 (some (.ret, [x4v45, (.bool true)], h47)) (fun e48 => some (e48, [x2v43, x3v44], h47)))) (gd r40.2.1 0) (gd r40.2.1 1) (gd r40.2.1 2) (gd r40.2.1 3) (gd r40.2.1 4) r40.2.2)).bind (m40_k (List.length h0))
theorem m40_eq (K : CallO) (a0 : AVal) (h0 : Heap) : evB Tryz.prog ann lpW K 40 [a0] h0 = m40 (callP ann K) a0 h0 := by kernel_rfl
def t40 (p0 : (List UInt8)) : Option (Int × Bool) :=
  tc (!decide (((p0.length : Nat) : Int) = 4)) (some (0, false)) (tb (lpT (t40_l0 p0) (0, 0)) fun r40 => exT r40.1 none fun e41 => ibT 0 e41 (some (r40.2.1, true)) fun e48 => efT e48 (some (0, false)))
theorem b40 (p0 : (List UInt8)) : m40 KK (.str p0) [] = tm (t40 p0) fun r => (.ret (.tuple [(.int .i64 r.1), (.bool r.2)]), []) := by
  simp +contextual -implicitDefEqProofs (maxSteps := 2000000) [-acond_bool, -guardSel_true, -guardSel_false, -aindexSl_map, -aload_vptr, -aload_vptrT, -astore_vptr, m40, t40, r40_l0, m40_k]
theorem r40 (p0 : (List UInt8)) (h : Heap) : KK 40 [(.str p0)] h = tm (t40 p0) fun r => (.ret (.tuple [(.int .i64 r.1), (.bool r.2)]), h) := call_t rfl rfl (m40_eq ..) (b40 p0)

/- hauberk/hauberkref15.inputs -/
def m23_k (mm : Nat) (r65 : R) : Option (Res × Heap) :=
  (fun x2v66 h67 => Ex.endF r65.1 (finR mm x2v66 h67)) (gd r65.2.1 0) r65.2.2
theorem bs23_1 (y0 : List UInt8) (y1 : Int) (y2 : Int) (y3 : Int) (y4 : Bool) (y5 : Int) (y6 : Int) (h : Heap) : abuildSlice 1 7 [(.str []), (.int .i64 0), (.int .i64 0), (.int .i64 0), (.bool false), (.int .i64 0), (.int .i64 0)] [(0, (.agg [(.str y0), (.int .i64 y1), (.int .i64 y2), (.int .i64 y3), (.bool y4), (.int .i64 y5), (.int .i64 y6)]))] h = some (.slice (Rw Fd.cells [(⟨y0, (⟨y1, y2, y3⟩ : Ty), y4, y5, y6⟩ : Fd)]) (.own h.length), h ++ [FRs 7 1]) := by
  rfl
def m23_j0 (K : CallO) (m : Nat) (t36 : AVal) (x0v25 : AVal) (x4v28 : AVal) (h29 : Heap) (x3v27 : AVal) (x2v26 : AVal) : Option R :=
  acond t36 (ix 7 x0v25 x4v28 fun t42 => ld true 7 h29 t42 fun t44 => bindVH (abuildSlice 1 7 [(.str []), (.int .i64 0), (.int .i64 0), (.int .i64 0), (.bool false), (.int .i64 0), (.int .i64 0)] [(0, t44)] h29) fun t45 h46 => bindVH (aappend 7 64 h46 x3v27 t45) fun t47 h48 => endR m .normal [x0v25, x2v26, t47, x4v28] h48) (endR m .normal [x0v25, x2v26, x3v27, x4v28] h29)
def t23_j0 (w41 : Bool) (p0 : (List Fd)) (w38 : Int) (w37 : (List Fd)) : Option ((List Fd)) :=
  tc w41 (tb ((tidx p0 w38)) fun u43 => tb ((tapp 64 w37 [u43])) fun l49 => some l49) (some w37)
theorem r23_j0 (w41 : Bool) (p0 : (List Fd)) (w38 : Int) (w37 : (List Fd)) : (m23_j0 KK 2 (.bool w41) (.slice (Rw Fd.cells p0) .no) (.int .i64 w38) ([.front 0 0, FRs 7 (List.length w37)] : Heap) (.slice (Rw Fd.cells w37) (.own 1)) (.slice (Rw Fd.cells []) (.own 0))) = tm (t23_j0 w41 p0 w38 w37) fun r => (.normal, [(.slice (Rw Fd.cells p0) .no), (.slice (Rw Fd.cells []) (.own 0)), (.slice (Rw Fd.cells r) (.own 1)), (.int .i64 w38)], ([.front 0 0, FRs 7 (List.length r)] : Heap)) := by
  simp +contextual -implicitDefEqProofs (maxSteps := 2000000) [-acond_bool, -guardSel_true, -guardSel_false, -aindexSl_map, -aload_vptr, -aload_vptrT, -astore_vptr, m23_j0, t23_j0, bs23_1]
def m23_l2 (K : CallO) (m : Nat) (s : List AVal × Heap) : Option R :=
  (fun x0v25 x2v26 x3v27 x4v28 h29 => ln x0v25 fun t30 => bo .lss x4v28 t30 fun t31 => acond t31 (ix 7 x0v25 x4v28 fun t32 => fa 4 t32 fun t34 => ld false 1 h29 t34 fun t35 => (aun .not t35).bind fun t36 => (m23_j0 K (List.length h29) t36 x0v25 x4v28 h29 x3v27 x2v26).bind fun r50 => (fun x0v51 x2v52 x3v53 x4v54 h55 => Ex.nrm r50.1 (bo .add x4v54 (.int .i64 1) fun t56 => endR m .normal [x0v51, x2v52, x3v53, t56] h55)) (gd r50.2.1 0) (gd r50.2.1 1) (gd r50.2.1 2) (gd r50.2.1 3) r50.2.2) (endR m (.exit 0) [x0v25, x2v26, x3v27, x4v28] h29)) (gd s.1 0) (gd s.1 1) (gd s.1 2) (gd s.1 3) s.2
def t23_l2 (p0 : (List Fd)) (s24 : (List Fd) × Int) : Option (Ey × (List Fd) × Int) :=
  tc (decide (s24.2 < ((List.length p0 : Nat) : Int))) (tb ((tidx p0 s24.2)) fun u33 => tb (t23_j0 (!u33.out) p0 s24.2 s24.1) fun r50 => some (.n, (r50, (IntKind.wrap .i64 (s24.2 + 1))))) (some ((.x 0), (s24.1, s24.2)))
theorem b23_l2 (p0 : (List Fd)) (s24 : (List Fd) × Int) : m23_l2 KK 2 ([(.slice (Rw Fd.cells p0) .no), (.slice (Rw Fd.cells []) (.own 0)), (.slice (Rw Fd.cells s24.1) (.own 1)), (.int .i64 s24.2)], ([.front 0 0, FRs 7 (List.length s24.1)] : Heap)) = tm (t23_l2 p0 s24) fun r => (r.1.ex, [(.slice (Rw Fd.cells p0) .no), (.slice (Rw Fd.cells []) (.own 0)), (.slice (Rw Fd.cells r.2.1) (.own 1)), (.int .i64 r.2.2)], ([.front 0 0, FRs 7 (List.length r.2.1)] : Heap)) := by
  simp +contextual -implicitDefEqProofs (maxSteps := 2000000) [-acond_bool, -guardSel_true, -guardSel_false, -aindexSl_map, -aload_vptr, -aload_vptrT, -astore_vptr, m23_l2, t23_l2, r23_j0]
theorem r23_l2 (p0 : (List Fd)) (i3 : Int) : lpW (m23_l2 KK 2) ([(.slice (Rw Fd.cells p0) .no), (.slice (Rw Fd.cells []) (.own 0)), (.slice (Rw Fd.cells []) (.own 1)), (.int .i64 i3)], ([.front 0 0, .front 0 0] : Heap)) = tm (lpT (t23_l2 p0) ([], i3)) fun r => (r.1.ex, [(.slice (Rw Fd.cells p0) .no), (.slice (Rw Fd.cells []) (.own 0)), (.slice (Rw Fd.cells r.2.1) (.own 1)), (.int .i64 r.2.2)], ([.front 0 0, FRs 7 (List.length r.2.1)] : Heap)) := by
  exact lpW_t (enc := fun s24 => ([(.slice (Rw Fd.cells p0) .no), (.slice (Rw Fd.cells []) (.own 0)), (.slice (Rw Fd.cells s24.1) (.own 1)), (.int .i64 s24.2)], ([.front 0 0, FRs 7 (List.length s24.1)] : Heap))) (fun s24 => b23_l2 p0 s24) ([], i3)
def m23 (K : CallO) (a0 : AVal) (h0 : Heap) : Option (Res × Heap) :=
  ((fun (t21 : AVal) (h20 : Heap) => (fun (t23 : AVal) (h22 : Heap) => (lpW (m23_l2 K (List.length h22)) ([a0, t21, t23, (.int .i64 0)], h22)).bind fun r57 => (fun x0v59 x2v60 x3v61 x4v62 h63 => Ex.thenDo r57.1 none (fun e58 => Ex.inBlock 0 e58 (some (.ret, [x3v61], h63)) (fun e64 => some (e64, [x2v60], h63)))) (gd r57.2.1 0) (gd r57.2.1 1) (gd r57.2.1 2) (gd r57.2.1 3) r57.2.2) (.slice (Rw Fd.cells []) (.own (List.length h20))) (h20 ++ [.front 0 0])) (.slice (Rw Fd.cells []) (.own (List.length h0))) (h0 ++ [.front 0 0])).bind (m23_k (List.length h0))
theorem m23_eq (K : CallO) (a0 : AVal) (h0 : Heap) : evB Tryz.prog ann lpW K 23 [a0] h0 = m23 (callP ann K) a0 h0 := by kernel_rfl
def t23 (p0 : (List Fd)) : Option ((List Fd)) :=
  tb (lpT (t23_l2 p0) ([], 0)) fun r57 => exT r57.1 none fun e58 => ibT 0 e58 (some r57.2.1) fun e64 => efT e64 (some [])
theorem b23 (p0 : (List Fd)) : m23 KK (.slice (Rw Fd.cells p0) .no) [] = tm (t23 p0) fun r => (.ret (.slice (Rw Fd.cells r) .no), []) := by
  simp +contextual -implicitDefEqProofs (maxSteps := 2000000) [-acond_bool, -guardSel_true, -guardSel_false, -aindexSl_map, -aload_vptr, -aload_vptrT, -astore_vptr, m23, t23, r23_l2, m23_k]
theorem r23 (p0 : (List Fd)) (h : Heap) : KK 23 [(.slice (Rw Fd.cells p0) .no)] h = tm (t23 p0) fun r => (.ret (.slice (Rw Fd.cells r) .no), h) := call_t rfl rfl (m23_eq ..) (b23 p0)

/- hauberk/hauberkref15.Element -/
def m28_k (mm : Nat) (r61 : R) : Option (Res × Heap) :=
  (fun x6v62 h63 => Ex.endF r61.1 (finR mm x6v62 h63)) (gd r61.2.1 0) r61.2.2
def m28_l0 (K : CallO) (m : Nat) (s : List AVal × Heap) : Option R :=
  (fun x1v30 x2v31 x3v32 x6v33 x7v34 x8v35 x9v36 h37 => bo .geq x9v36 (.int .i64 0) fun t38 => acond t38 (bo .mul (.int .i64 256) x8v35 fun t39 => fa 5 x3v32 fun t40 => ld false 1 h37 t40 fun t41 => bo .mul x2v31 x7v34 fun t42 => bo .add t41 t42 fun t43 => bo .add t43 x9v36 fun t44 => (aindexStr x1v30 t44).bind fun t45 => (aconvInt .i64 t45).bind fun t47 => bo .add t39 t47 fun t48 => bo .sub x9v36 (.int .i64 1) fun t49 => endR m .normal [x1v30, x2v31, x3v32, x6v33, x7v34, t48, t49] h37) (endR m (.exit 0) [x1v30, x2v31, x3v32, x6v33, x7v34, x8v35, x9v36] h37)) (gd s.1 0) (gd s.1 1) (gd s.1 2) (gd s.1 3) (gd s.1 4) (gd s.1 5) (gd s.1 6) s.2
def t28_l0 (p1 : (List UInt8)) (p2 : Int) (r26 : Int) (p0 : Fd) (s29 : Int × Int) : Option (Ey × Int × Int) :=
  tc (decide (0 ≤ s29.2)) (tb ((tstr p1 (IntKind.wrap .i64 ((IntKind.wrap .i64 (p0.off + (IntKind.wrap .i64 (p2 * r26)))) + s29.2)))) fun n46 => some (.n, ((IntKind.wrap .i64 ((IntKind.wrap .i64 (256 * s29.1)) + (IntKind.wrap .i64 n46))), (IntKind.wrap .i64 (s29.2 - 1))))) (some ((.x 0), (s29.1, s29.2)))
theorem b28_l0 (p1 : (List UInt8)) (p2 : Int) (r26 : Int) (p0 : Fd) (s29 : Int × Int) : m28_l0 KK 1 ([(.str p1), (.int .i64 p2), (.ptr 0 0), (.int .i64 0), (.int .i64 r26), (.int .i64 s29.1), (.int .i64 s29.2)], ([.cells [(.str p0.name), (.int .i64 p0.ty.elem), (.int .i64 p0.ty.len), (.int .i64 p0.ty.lab), (.bool p0.out), (.int .i64 p0.off), (.int .i64 p0.size)]] : Heap)) = tm (t28_l0 p1 p2 r26 p0 s29) fun r => (r.1.ex, [(.str p1), (.int .i64 p2), (.ptr 0 0), (.int .i64 0), (.int .i64 r26), (.int .i64 r.2.1), (.int .i64 r.2.2)], ([.cells [(.str p0.name), (.int .i64 p0.ty.elem), (.int .i64 p0.ty.len), (.int .i64 p0.ty.lab), (.bool p0.out), (.int .i64 p0.off), (.int .i64 p0.size)]] : Heap)) := by
  simp +contextual -implicitDefEqProofs (maxSteps := 2000000) [-acond_bool, -guardSel_true, -guardSel_false, -aindexSl_map, -aload_vptr, -aload_vptrT, -astore_vptr, m28_l0, t28_l0]
theorem r28_l0 (p1 : (List UInt8)) (p2 : Int) (r26 : Int) (p0 : Fd) (i4 : Int) (i5 : Int) : lpW (m28_l0 KK 1) ([(.str p1), (.int .i64 p2), (.ptr 0 0), (.int .i64 0), (.int .i64 r26), (.int .i64 i4), (.int .i64 i5)], ([.cells [(.str p0.name), (.int .i64 p0.ty.elem), (.int .i64 p0.ty.len), (.int .i64 p0.ty.lab), (.bool p0.out), (.int .i64 p0.off), (.int .i64 p0.size)]] : Heap)) = tm (lpT (t28_l0 p1 p2 r26 p0) (i4, i5)) fun r => (r.1.ex, [(.str p1), (.int .i64 p2), (.ptr 0 0), (.int .i64 0), (.int .i64 r26), (.int .i64 r.2.1), (.int .i64 r.2.2)], ([.cells [(.str p0.name), (.int .i64 p0.ty.elem), (.int .i64 p0.ty.len), (.int .i64 p0.ty.lab), (.bool p0.out), (.int .i64 p0.off), (.int .i64 p0.size)]] : Heap)) := by
  exact lpW_t (enc := fun s29 => ([(.str p1), (.int .i64 p2), (.ptr 0 0), (.int .i64 0), (.int .i64 r26), (.int .i64 s29.1), (.int .i64 s29.2)], ([.cells [(.str p0.name), (.int .i64 p0.ty.elem), (.int .i64 p0.ty.len), (.int .i64 p0.ty.lab), (.bool p0.out), (.int .i64 p0.off), (.int .i64 p0.size)]] : Heap))) (fun s29 => b28_l0 p1 p2 r26 p0 s29) (i4, i5)
def m28 (K : CallO) (a0 a1 a2 : AVal) (h0 : Heap) : Option (Res × Heap) :=
  (bindVH (anew 7 h0 a0) fun t20 h21 => fa 1 t20 fun t22 => ld true 3 h21 t22 fun t23 => ca (K 25 [(AVal.untok t23)] h21) fun t24 h25 => bo .sub t24 (.int .i64 1) fun t27 => (lpW (m28_l0 K (List.length h25)) ([a1, a2, t20, (.int .i64 0), t24, (.int .i64 0), t27], h25)).bind fun r50 => (fun x1v52 x2v53 x3v54 x6v55 x7v56 x8v57 x9v58 h59 => Ex.thenDo r50.1 none (fun e51 => Ex.inBlock 0 e51 (some (.ret, [x8v57], h59)) (fun e60 => some (e60, [x6v55], h59)))) (gd r50.2.1 0) (gd r50.2.1 1) (gd r50.2.1 2) (gd r50.2.1 3) (gd r50.2.1 4) (gd r50.2.1 5) (gd r50.2.1 6) r50.2.2).bind (m28_k (List.length h0))
theorem m28_eq (K : CallO) (a0 a1 a2 : AVal) (h0 : Heap) : evB Tryz.prog ann lpW K 28 [a0, a1, a2] h0 = m28 (callP ann K) a0 a1 a2 h0 := by kernel_rfl
def t28 (p0 : Fd) (p1 : (List UInt8)) (p2 : Int) : Option (Int) :=
  tb ((t25 p0.ty)) fun r26 => tb (lpT (t28_l0 p1 p2 r26 p0) (0, (IntKind.wrap .i64 (r26 - 1)))) fun r50 => exT r50.1 none fun e51 => ibT 0 e51 (some r50.2.1) fun e60 => efT e60 (some 0)
theorem b28 (p0 : Fd) (p1 : (List UInt8)) (p2 : Int) : m28 KK (.agg [(.str p0.name), (.int .i64 p0.ty.elem), (.int .i64 p0.ty.len), (.int .i64 p0.ty.lab), (.bool p0.out), (.int .i64 p0.off), (.int .i64 p0.size)]) (.str p1) (.int .i64 p2) [] = tm (t28 p0 p1 p2) fun r => (.ret (.int .i64 r), []) := by
  simp +contextual -implicitDefEqProofs (maxSteps := 2000000) [-acond_bool, -guardSel_true, -guardSel_false, -aindexSl_map, -aload_vptr, -aload_vptrT, -astore_vptr, m28, t28, r25, r28_l0, m28_k]
theorem r28 (p0 : Fd) (p1 : (List UInt8)) (p2 : Int) (h : Heap) : KK 28 [(.agg [(.str p0.name), (.int .i64 p0.ty.elem), (.int .i64 p0.ty.len), (.int .i64 p0.ty.lab), (.bool p0.out), (.int .i64 p0.off), (.int .i64 p0.size)]), (.str p1), (.int .i64 p2)] h = tm (t28 p0 p1 p2) fun r => (.ret (.int .i64 r), h) := call_t rfl rfl (m28_eq ..) (b28 p0 p1 p2)
theorem r28x (x0_0 : List UInt8) (x0_1 : Int) (x0_2 : Int) (x0_3 : Int) (x0_4 : Bool) (x0_5 : Int) (x0_6 : Int) (p1 : (List UInt8)) (p2 : Int) (h : Heap) : KK 28 [(.agg [(.str x0_0), (.int .i64 x0_1), (.int .i64 x0_2), (.int .i64 x0_3), (.bool x0_4), (.int .i64 x0_5), (.int .i64 x0_6)]), (.str p1), (.int .i64 p2)] h = tm (t28 (⟨x0_0, (⟨x0_1, x0_2, x0_3⟩ : Ty), x0_4, x0_5, x0_6⟩ : Fd) p1 p2) fun r => (.ret (.int .i64 r), h) := r28 (⟨x0_0, (⟨x0_1, x0_2, x0_3⟩ : Ty), x0_4, x0_5, x0_6⟩ : Fd) p1 p2 h
end
noncomputable section
open Go Hk
def E33 (p : List Fd) (s : List Fd × Int × Int × Int) : List AVal × Heap :=
  ([.slice (Rw Fd.cells []) (.own 0), .int .i64 0, .int .i64 0, .slice (Rw Fd.cells s.1) (.own 1), .ptr 2 0, .slice (Rw Fd.cells p) .no, .int .i64 ((p.length : Nat) : Int), .int .i64 s.2.2.2], ([.front 0 0, FRs 7 (List.length s.1), .cells [.int .i64 s.2.1, .int .i64 s.2.2.1]] : Heap))
def t33_l0 (p : List Fd) (s : List Fd × Int × Int × Int) : Option (Ey × List Fd × Int × Int × Int) :=
  tc (decide (s.2.2.2 < ((p.length : Nat) : Int))) (tb (tidx p s.2.2.2) fun u => tb (t52 u.ty) fun n => tb (tapp 64 s.1 [(⟨u.name, u.ty, u.out, if u.out then s.2.2.1 else s.2.1, n⟩ : Fd)]) fun l =>
    some (.n, (l, if u.out then s.2.1 else min (IntKind.wrap .i64 (s.2.1 + n)) 65537, if u.out then min (IntKind.wrap .i64 (s.2.2.1 + n)) 65537 else s.2.2.1, IntKind.wrap .i64 (s.2.2.2 + 1)))) (some ((.x 0), s))
theorem at33 {n : Nat} (hn : n < 2) : aindexAt 2 1 (.ptr 2 0) (.int .i64 (n : Int)) = some (.ptr 2 n) := by
  match n, hn with
  | 0, _ => rfl
  | 1, _ => rfl
theorem bs33 (y0 : List UInt8) (y1 : Int) (y2 : Int) (y3 : Int) (y4 : Bool) (y5 : Int) (y6 : Int) (h : Heap) : abuildSlice 1 7 [(.str []), (.int .i64 0), (.int .i64 0), (.int .i64 0), (.bool false), (.int .i64 0), (.int .i64 0)] [(0, (.agg [(.str y0), (.int .i64 y1), (.int .i64 y2), (.int .i64 y3), (.bool y4), (.int .i64 y5), (.int .i64 y6)]))] h = some (.slice (Rw Fd.cells [(⟨y0, (⟨y1, y2, y3⟩ : Ty), y4, y5, y6⟩ : Fd)]) (.own h.length), h ++ [FRs 7 1]) := by
  rfl
theorem b33_l0 (p : List Fd) (s : List Fd × Int × Int × Int) : m33_l0 KK 3 (E33 p s) = tm (t33_l0 p s) fun r => (r.1.ex, E33 p r.2) := by
  obtain ⟨acc, a, b, i⟩ := s
  have a0 : aindexAt 2 1 (.ptr 2 0) (.int .i64 0) = some (.ptr 2 0) := rfl
  have a1 : aindexAt 2 1 (.ptr 2 0) (.int .i64 1) = some (.ptr 2 1) := rfl
  unfold t33_l0 E33
  by_cases hi : i < (p.length : Int)
  · cases hu : tidx p i with
    | none => simp +contextual -implicitDefEqProofs (maxSteps := 2000000) [-acond_bool, -guardSel_true, -guardSel_false, -aindexSl_map, -aload_vptr, -aload_vptrT, -astore_vptr, m33_l0, hi, hu]; rfl
    | some u =>
      cases ho : u.out with
      | true => simp +contextual -implicitDefEqProofs (maxSteps := 2000000) [-guardSel_true, -guardSel_false, -aindexSl_map, -aload_vptr, -aload_vptrT, -astore_vptr, m33_l0, hi, hu, ho, a0, a1, r52, bs33, lockIds, addrId, hide, hide1, unhide, unhide1]
      | false => simp +contextual -implicitDefEqProofs (maxSteps := 2000000) [-guardSel_true, -guardSel_false, -aindexSl_map, -aload_vptr, -aload_vptrT, -astore_vptr, m33_l0, hi, hu, ho, a0, a1, r52, bs33, lockIds, addrId, hide, hide1, unhide, unhide1]
  · simp +contextual -implicitDefEqProofs (maxSteps := 2000000) [-guardSel_true, -guardSel_false, -aindexSl_map, -aload_vptr, -aload_vptrT, -astore_vptr, m33_l0, hi]
theorem r33_l0 (p : List Fd) : lpW (m33_l0 KK 3) (E33 p ([], 0, 0, 0)) = tm (lpT (t33_l0 p) ([], 0, 0, 0)) fun r => (r.1.ex, E33 p r.2) :=
  lpW_t (enc := E33 p) (fun s => b33_l0 p s) ([], 0, 0, 0)
def t33 (p : List Fd) : Option (List Fd × Int × Int) := tb (lpT (t33_l0 p) ([], 0, 0, 0)) fun r => exT r.1 none fun e => ibT 0 e (some (r.2.1, r.2.2.1, r.2.2.2.1)) fun e => efT e (some ([], 0, 0))
theorem tup33 (h : Heap) (rows : List (List AVal)) (n : Nat) (a b : Int) : (AVal.san 0 h (.tuple [.slice rows (.own n), .int .i64 a, .int .i64 b])).untok = .tuple [.slice rows .no, .int .i64 a, .int .i64 b] := (rfl)
theorem b33 (p0 : (List Fd)) : m33 KK (.slice (Rw Fd.cells p0) .no) [] = tm (t33 p0) fun r => (.ret (.tuple [.slice (Rw Fd.cells r.1) .no, .int .i64 r.2.1, .int .i64 r.2.2]), []) := by
  have e := r33_l0 p0
  have a0 : aindexAt 2 1 (.ptr 2 0) (.int .i64 0) = some (.ptr 2 0) := rfl
  have a1 : aindexAt 2 1 (.ptr 2 0) (.int .i64 1) = some (.ptr 2 1) := rfl
  unfold t33
  have rw0 : Rw Fd.cells [] = [] := rfl
  simp only [E33, List.length_nil, FRs_zero, rw0] at e
  simp +contextual -implicitDefEqProofs (maxSteps := 2000000) [-acond_bool, -guardSel_true, -guardSel_false, -aindexSl_map, -aload_vptr, -aload_vptrT, -astore_vptr, m33, e, E33, a0, a1, rw0, tup33, -san_tuple3, -untok_tuple3]
theorem r33 (p0 : (List Fd)) (h : Heap) : KK 33 [(.slice (Rw Fd.cells p0) .no)] h = tm (t33 p0) fun r => (.ret (.tuple [.slice (Rw Fd.cells r.1) .no, .int .i64 r.2.1, .int .i64 r.2.2]), h) := call_t rfl rfl (m33_eq ..) (b33 p0)

/-! ### A word's bytes -/
theorem t54_some (p : Int) : ∃ n, t54 p = some n ∧ 0 ≤ n ∧ n ≤ 4294967295 := by
  refine ⟨tand .i64 p 4294967295, rfl, ?_⟩
  unfold tand
  have h : ((BitVec.ofInt 64 p &&& BitVec.ofInt 64 4294967295).toNat) ≤ 4294967295 := by
    rw [BitVec.toNat_and]
    exact Nat.le_trans Nat.and_le_right (by decide)
  have e : IntKind.i64.bits = 64 := rfl
  rw [e]
  rw [wrap64 (by omega) (by omega)]
  omega
def ub (w : Int) (n : Nat) : UInt8 := UInt8.ofNat (IntKind.wrap .u8 (w.fdiv (2 ^ n))).toNat
def t37 (a : Int) : Option (List UInt8) := tb (t54 a) fun w => some [ub w 0, ub w 8, ub w 16, ub w 24]
theorem lp_go {F : List AVal × Heap → Option R} {s s' : List AVal × Heap} (h : F s = some (.normal, s')) : lpW F s = lpW F s' := by rw [lpW_step, h]; rfl
theorem lp_exit {F : List AVal × Heap → Option R} {s s' : List AVal × Heap} {i : Nat} (h : F s = some (.exit i, s')) : lpW F s = some (.exit i, s') := by rw [lpW_step, h]; rfl
theorem r37 (a : Int) (h : Heap) : KK 37 [.int .i64 a] h = tm (t37 a) fun r => (.ret (.str r), h) := by
  obtain ⟨w, hw, h0, h1⟩ := t54_some a
  have k54 : ∀ h, KK 54 [.int .i64 a] h = some (.ret (.int .i64 w), h) := fun h => (r54 a h).trans (by rw [hw]; rfl)
  unfold t37
  rw [hw, tb_some, tm_some]
  have u0 : IntKind.i64.wrap 0 = 0 := by decide
  have u1 : IntKind.i64.wrap 1 = 1 := by decide
  have u2 : IntKind.i64.wrap 2 = 2 := by decide
  have u3 : IntKind.i64.wrap 3 = 3 := by decide
  have u4 : IntKind.i64.wrap 4 = 4 := by decide
  have u8 : IntKind.i64.wrap 8 = 8 := by decide
  have u16 : IntKind.i64.wrap 16 = 16 := by decide
  have u24 : IntKind.i64.wrap 24 = 24 := by decide
  have e0 : tshr .i64 w 0 = some (w.fdiv (2 ^ 0)) := rfl
  have e1 : tshr .i64 w 8 = some (w.fdiv (2 ^ 8)) := rfl
  have e2 : tshr .i64 w 16 = some (w.fdiv (2 ^ 16)) := rfl
  have e3 : tshr .i64 w 24 = some (w.fdiv (2 ^ 24)) := rfl
  have a0 : aindexAt 4 1 (.ptr 0 0) (.int .i64 0) = some (.ptr 0 0) := rfl
  have a1 : aindexAt 4 1 (.ptr 0 0) (.int .i64 1) = some (.ptr 0 1) := rfl
  have a2 : aindexAt 4 1 (.ptr 0 0) (.int .i64 2) = some (.ptr 0 2) := rfl
  have a3 : aindexAt 4 1 (.ptr 0 0) (.int .i64 3) = some (.ptr 0 3) := rfl
  have s4 : asliceArr 4 1 (.ptr 0 0) none none = some (.mslice 0 0 4 1) := rfl
  unfold ub
  generalize w.fdiv (2 ^ 0) = q0 at *
  generalize w.fdiv (2 ^ 8) = q1 at *
  generalize w.fdiv (2 ^ 16) = q2 at *
  generalize w.fdiv (2 ^ 24) = q3 at *
  have st0 : ∀ x0 x1 x2 x3 : Int, m37_l0 KK 1 ([.int .i64 a, .str [], .ptr 0 0, .int .i64 0], [.cells [.int .u8 x0, .int .u8 x1, .int .u8 x2, .int .u8 x3]]) =
      some (.normal, [.int .i64 a, .str [], .ptr 0 0, .int .i64 1], [.cells [.int .u8 (IntKind.wrap .u8 q0), .int .u8 x1, .int .u8 x2, .int .u8 x3]]) := by
    intro x0 x1 x2 x3; unfold m37_l0; simp -implicitDefEqProofs [k54, u0, u1, e0, a0, endR]
  have st1 : ∀ x0 x1 x2 x3 : Int, m37_l0 KK 1 ([.int .i64 a, .str [], .ptr 0 0, .int .i64 1], [.cells [.int .u8 x0, .int .u8 x1, .int .u8 x2, .int .u8 x3]]) =
      some (.normal, [.int .i64 a, .str [], .ptr 0 0, .int .i64 2], [.cells [.int .u8 x0, .int .u8 (IntKind.wrap .u8 q1), .int .u8 x2, .int .u8 x3]]) := by
    intro x0 x1 x2 x3; unfold m37_l0; simp -implicitDefEqProofs [k54, u8, u2, e1, a1, endR]
  have st2 : ∀ x0 x1 x2 x3 : Int, m37_l0 KK 1 ([.int .i64 a, .str [], .ptr 0 0, .int .i64 2], [.cells [.int .u8 x0, .int .u8 x1, .int .u8 x2, .int .u8 x3]]) =
      some (.normal, [.int .i64 a, .str [], .ptr 0 0, .int .i64 3], [.cells [.int .u8 x0, .int .u8 x1, .int .u8 (IntKind.wrap .u8 q2), .int .u8 x3]]) := by
    intro x0 x1 x2 x3; unfold m37_l0; simp -implicitDefEqProofs [k54, u16, u3, e2, a2, endR]
  have st3 : ∀ x0 x1 x2 x3 : Int, m37_l0 KK 1 ([.int .i64 a, .str [], .ptr 0 0, .int .i64 3], [.cells [.int .u8 x0, .int .u8 x1, .int .u8 x2, .int .u8 x3]]) =
      some (.normal, [.int .i64 a, .str [], .ptr 0 0, .int .i64 4], [.cells [.int .u8 x0, .int .u8 x1, .int .u8 x2, .int .u8 (IntKind.wrap .u8 q3)]]) := by
    intro x0 x1 x2 x3; unfold m37_l0; simp -implicitDefEqProofs [k54, u24, u4, e3, a3, endR]
  have st4 : ∀ x0 x1 x2 x3 : Int, m37_l0 KK 1 ([.int .i64 a, .str [], .ptr 0 0, .int .i64 4], [.cells [.int .u8 x0, .int .u8 x1, .int .u8 x2, .int .u8 x3]]) =
      some (.exit 0, [.int .i64 a, .str [], .ptr 0 0, .int .i64 4], [.cells [.int .u8 x0, .int .u8 x1, .int .u8 x2, .int .u8 x3]]) := by
    intro x0 x1 x2 x3; unfold m37_l0; simp -implicitDefEqProofs [endR]
  have lp : lpW (m37_l0 KK 1) ([.int .i64 a, .str [], .ptr 0 0, .int .i64 0], [.cells [.int .u8 0, .int .u8 0, .int .u8 0, .int .u8 0]]) = some (.exit 0, [.int .i64 a, .str [], .ptr 0 0, .int .i64 4], [.cells [.int .u8 (IntKind.wrap .u8 q0), .int .u8 (IntKind.wrap .u8 q1), .int .u8 (IntKind.wrap .u8 q2), .int .u8 (IntKind.wrap .u8 q3)]]) := by
    rw [lp_go (st0 _ _ _ _), lp_go (st1 _ _ _ _), lp_go (st2 _ _ _ _), lp_go (st3 _ _ _ _)]
    exact lp_exit (st4 _ _ _ _)
  refine callP_pure rfl rfl (evW_by (m37_eq _ _ _) ?_)
  have bs : ∀ x0 x1 x2 x3 : Int, abytesH [.cells [.int .u8 x0, .int .u8 x1, .int .u8 x2, .int .u8 x3]] (.mslice 0 0 4 1) = some (.str [UInt8.ofNat x0.toNat, UInt8.ofNat x1.toNat, UInt8.ofNat x2.toNat, UInt8.ofNat x3.toNat]) := fun _ _ _ _ => rfl
  simp -implicitDefEqProofs [m37, lp, s4, bs]
end
noncomputable section
open Go Hk
/- hauberk/shape.sizes -/
def m16_k (mm : Nat) (r120 : R) : Option (Res × Heap) :=
  (fun x2v121 x3v122 x4v123 h124 => Ex.endF r120.1 (finR mm (.tuple [x2v121, x3v122, x4v123]) h124)) (gd r120.2.1 0) (gd r120.2.1 1) (gd r120.2.1 2) r120.2.2
def m16_l0 (K : CallO) (m : Nat) (s : List AVal × Heap) : Option R :=
  (fun x0v23 x2v24 x3v25 x4v26 x12v27 x13v28 x14v29 h30 => bo .lss x14v29 x13v28 fun t31 => acond t31 (ix 7 x12v27 x14v29 fun t32 => ld true 7 h30 t32 fun t34 => bindVH (anew 7 h30 (.agg [(.str []), (.int .i64 0), (.int .i64 0), (.int .i64 0), (.bool false), (.int .i64 0), (.int .i64 0)])) fun t35 h36 => (astore 7 h36 t35 t34).bind fun h37 => ld true 7 h37 t35 fun t38 => ca (K 34 [(AVal.untok t38)] h37) fun t39 h40 => (aun .not t39).bind fun t42 => acond t42 (endR m .ret [x0v23, (.int .i64 0), (.int .i64 0), (.bool false), x12v27, x13v28, x14v29] h40) (bo .add x14v29 (.int .i64 1) fun t43 => endR m .normal [x0v23, x2v24, x3v25, x4v26, x12v27, x13v28, t43] h40)) (endR m (.exit 0) [x0v23, x2v24, x3v25, x4v26, x12v27, x13v28, x14v29] h30)) (gd s.1 0) (gd s.1 1) (gd s.1 2) (gd s.1 3) (gd s.1 4) (gd s.1 5) (gd s.1 6) s.2
def t16_l0 (p0 : (List Fd)) (w21 : Int) (s22 : Int) : Option (Ey × Int) :=
  tc (decide (s22 < w21)) (tb ((tidx p0 s22)) fun u33 => tb ((t34 u33)) fun r41 => tc (!r41) (some (.r, s22)) (some (.n, (IntKind.wrap .i64 (s22 + 1))))) (some ((.x 0), s22))
theorem b16_l0 (p0 : (List Fd)) (w21 : Int) (s22 : Int) : m16_l0 KK 0 ([(.slice (Rw Fd.cells p0) .no), (.int .i64 0), (.int .i64 0), (.bool false), (.slice (Rw Fd.cells p0) .no), (.int .i64 w21), (.int .i64 s22)], ([] : Heap)) = tm (t16_l0 p0 w21 s22) fun r => (r.1.ex, [(.slice (Rw Fd.cells p0) .no), (.int .i64 0), (.int .i64 0), (.bool false), (.slice (Rw Fd.cells p0) .no), (.int .i64 w21), (.int .i64 r.2)], ([] : Heap)) := by
  simp +contextual -implicitDefEqProofs (maxSteps := 2000000) [-acond_bool, -guardSel_true, -guardSel_false, -aindexSl_map, -aload_vptr, -aload_vptrT, -astore_vptr, m16_l0, t16_l0, r34]
theorem r16_l0 (p0 : (List Fd)) (w21 : Int) (i6 : Int) : lpW (m16_l0 KK 0) ([(.slice (Rw Fd.cells p0) .no), (.int .i64 0), (.int .i64 0), (.bool false), (.slice (Rw Fd.cells p0) .no), (.int .i64 w21), (.int .i64 i6)], ([] : Heap)) = tm (lpT (t16_l0 p0 w21) i6) fun r => (r.1.ex, [(.slice (Rw Fd.cells p0) .no), (.int .i64 0), (.int .i64 0), (.bool false), (.slice (Rw Fd.cells p0) .no), (.int .i64 w21), (.int .i64 r.2)], ([] : Heap)) := by
  exact lpW_t (enc := fun s22 => ([(.slice (Rw Fd.cells p0) .no), (.int .i64 0), (.int .i64 0), (.bool false), (.slice (Rw Fd.cells p0) .no), (.int .i64 w21), (.int .i64 s22)], ([] : Heap))) (fun s22 => b16_l0 p0 w21 s22) i6
def m16_l1 (K : CallO) (m : Nat) (s : List AVal × Heap) : Option R :=
  (fun x0v69 x2v70 x3v71 x4v72 x8v73 x9v74 x28v75 x29v76 x30v77 h78 => bo .lss x30v77 x29v76 fun t79 => acond t79 (ix 7 x28v75 x30v77 fun t80 => ld true 7 h78 t80 fun t82 => bindVH (anew 7 h78 (.agg [(.str []), (.int .i64 0), (.int .i64 0), (.int .i64 0), (.bool false), (.int .i64 0), (.int .i64 0)])) fun t83 h84 => (astore 7 h84 t83 t82).bind fun h85 => ld true 7 h85 t83 fun t86 => ix 7 x0v69 x30v77 fun t87 => ld true 7 h85 t87 fun t89 => (aeqAgg [.s, .i, .i, .i, .b, .i, .i] t86 t89).bind fun t90 => acond (.bool (!t90)) (endR m .ret [x0v69, (.int .i64 0), (.int .i64 0), (.bool false), x8v73, x9v74, x28v75, x29v76, x30v77] h85) (bo .add x30v77 (.int .i64 1) fun t91 => endR m .normal [x0v69, x2v70, x3v71, x4v72, x8v73, x9v74, x28v75, x29v76, t91] h85)) (endR m (.exit 2) [x0v69, x2v70, x3v71, x4v72, x8v73, x9v74, x28v75, x29v76, x30v77] h78)) (gd s.1 0) (gd s.1 1) (gd s.1 2) (gd s.1 3) (gd s.1 4) (gd s.1 5) (gd s.1 6) (gd s.1 7) (gd s.1 8) s.2
def t16_l1 (p0 : (List Fd)) (w62 : (List Fd)) (w67 : Int) (s68 : Int) : Option (Ey × Int) :=
  tc (decide (s68 < w67)) (tb ((tidx w62 s68)) fun u81 => tb ((tidx p0 s68)) fun u88 => tc (!((u81.name == u88.name) && ((u81.ty.elem == u88.ty.elem) && ((u81.ty.len == u88.ty.len) && ((u81.ty.lab == u88.ty.lab) && ((u81.out == u88.out) && ((u81.off == u88.off) && ((u81.size == u88.size) && true)))))))) (some (.r, s68)) (some (.n, (IntKind.wrap .i64 (s68 + 1))))) (some ((.x 2), s68))
theorem b16_l1 (p0 : (List Fd)) (w63 : Int) (w64 : Int) (w62 : (List Fd)) (w67 : Int) (s68 : Int) : m16_l1 KK 0 ([(.slice (Rw Fd.cells p0) .no), (.int .i64 0), (.int .i64 0), (.bool false), (.int .i64 w63), (.int .i64 w64), (.slice (Rw Fd.cells w62) .no), (.int .i64 w67), (.int .i64 s68)], ([] : Heap)) = tm (t16_l1 p0 w62 w67 s68) fun r => (r.1.ex, [(.slice (Rw Fd.cells p0) .no), (.int .i64 0), (.int .i64 0), (.bool false), (.int .i64 w63), (.int .i64 w64), (.slice (Rw Fd.cells w62) .no), (.int .i64 w67), (.int .i64 r.2)], ([] : Heap)) := by
  simp +contextual -implicitDefEqProofs (maxSteps := 2000000) [-acond_bool, -guardSel_true, -guardSel_false, -aindexSl_map, -aload_vptr, -aload_vptrT, -astore_vptr, m16_l1, t16_l1]
theorem r16_l1 (p0 : (List Fd)) (w63 : Int) (w64 : Int) (w62 : (List Fd)) (w67 : Int) (i8 : Int) : lpW (m16_l1 KK 0) ([(.slice (Rw Fd.cells p0) .no), (.int .i64 0), (.int .i64 0), (.bool false), (.int .i64 w63), (.int .i64 w64), (.slice (Rw Fd.cells w62) .no), (.int .i64 w67), (.int .i64 i8)], ([] : Heap)) = tm (lpT (t16_l1 p0 w62 w67) i8) fun r => (r.1.ex, [(.slice (Rw Fd.cells p0) .no), (.int .i64 0), (.int .i64 0), (.bool false), (.int .i64 w63), (.int .i64 w64), (.slice (Rw Fd.cells w62) .no), (.int .i64 w67), (.int .i64 r.2)], ([] : Heap)) := by
  exact lpW_t (enc := fun s68 => ([(.slice (Rw Fd.cells p0) .no), (.int .i64 0), (.int .i64 0), (.bool false), (.int .i64 w63), (.int .i64 w64), (.slice (Rw Fd.cells w62) .no), (.int .i64 w67), (.int .i64 s68)], ([] : Heap))) (fun s68 => b16_l1 p0 w63 w64 w62 w67 s68) i8
def m16_s2 (K : CallO) (x8v98 : AVal) (x9v99 : AVal) (t111 : AVal) (h110 : Heap) : Option R :=
  some (.ret, [x8v98, x9v99, t111], h110)
def t16_s2 (w115 : Int) (w116 : Int) (w114 : Bool) : Option (Int × Int × Bool) :=
  some (w115, w116, w114)
theorem r16_s2 (w115 : Int) (w116 : Int) (w114 : Bool) : ((m16_s2 KK (.int .i64 w115) (.int .i64 w116) (.bool w114) ([] : Heap))).bind (m16_k 0) = tm (t16_s2 w115 w116 w114) fun r => (.ret (.tuple [(.int .i64 r.1), (.int .i64 r.2.1), (.bool r.2.2)]), []) := by
  simp +contextual -implicitDefEqProofs (maxSteps := 2000000) [-acond_bool, -guardSel_true, -guardSel_false, -aindexSl_map, -aload_vptr, -aload_vptrT, -astore_vptr, m16_s2, t16_s2, r16_l0, r33, r16_l1, m16_k]
def m16 (K : CallO) (a0 : AVal) (h0 : Heap) : Option (Res × Heap) :=
  (ln a0 fun t20 => (lpW (m16_l0 K (List.length h0)) ([a0, (.int .i64 0), (.int .i64 0), (.bool false), a0, t20, (.int .i64 0)], h0)).bind fun r44 => (fun x0v46 x2v47 x3v48 x4v49 x12v50 x13v51 x14v52 h53 => Ex.thenDo r44.1 none (fun e45 => Ex.inBlock 0 e45 (ca (K 33 [(AVal.untok x0v46)] h53) fun t55 h56 => (aextract 0 t55).bind fun t58 => (aextract 1 t55).bind fun t59 => (aextract 2 t55).bind fun t60 => ln t58 fun t61 => (lpW (m16_l1 K (List.length h56)) ([x0v46, x2v47, x3v48, x4v49, t59, t60, t58, t61, (.int .i64 0)], h56)).bind fun r92 => (fun x0v94 x2v95 x3v96 x4v97 x8v98 x9v99 x28v100 x29v101 x30v102 h103 => Ex.thenDo r92.1 none (fun e93 => Ex.inBlock 2 e93 (bo .leq x8v98 (.int .i64 65536) fun t105 => gS true t105 (kv0 x9v99 h103) h103 fun t106 h107 => gS true t105 (bo .leq t106 (.int .i64 65536) fun t108 => kv0 t108 h107) h107 fun t109 h110 => (apick t105 t109 (.bool false)).bind fun t111 => m16_s2 K x8v98 x9v99 t111 h110) (fun e104 => some (e104, [x2v95, x3v96, x4v97], h103)))) (gd r92.2.1 0) (gd r92.2.1 1) (gd r92.2.1 2) (gd r92.2.1 3) (gd r92.2.1 4) (gd r92.2.1 5) (gd r92.2.1 6) (gd r92.2.1 7) (gd r92.2.1 8) r92.2.2) (fun e54 => some (e54, [x2v47, x3v48, x4v49], h53)))) (gd r44.2.1 0) (gd r44.2.1 1) (gd r44.2.1 2) (gd r44.2.1 3) (gd r44.2.1 4) (gd r44.2.1 5) (gd r44.2.1 6) r44.2.2).bind (m16_k (List.length h0))
theorem m16_eq (K : CallO) (a0 : AVal) (h0 : Heap) : evB Tryz.prog ann lpW K 16 [a0] h0 = m16 (callP ann K) a0 h0 := by kernel_rfl
def t16 (p0 : (List Fd)) : Option (Int × Int × Bool) :=
  tb (lpT (t16_l0 p0 ((List.length p0 : Nat) : Int)) 0) fun r44 => exT r44.1 none fun e45 => ibT 0 e45 (tb ((t33 p0)) fun r57 => tb (lpT (t16_l1 p0 r57.1 ((List.length r57.1 : Nat) : Int)) 0) fun r92 => exT r92.1 none fun e93 => ibT 2 e93 (tc (decide (r57.2.1 ≤ 65536)) (t16_s2 r57.2.1 r57.2.2 (decide (r57.2.2 ≤ 65536))) (t16_s2 r57.2.1 r57.2.2 false)) fun e104 => efT e104 (some (0, 0, false))) fun e54 => efT e54 (some (0, 0, false))
theorem b16 (p0 : (List Fd)) : m16 KK (.slice (Rw Fd.cells p0) .no) [] = tm (t16 p0) fun r => (.ret (.tuple [(.int .i64 r.1), (.int .i64 r.2.1), (.bool r.2.2)]), []) := by
  simp +contextual -implicitDefEqProofs (maxSteps := 2000000) [-acond_bool, -guardSel_true, -guardSel_false, -aindexSl_map, -aload_vptr, -aload_vptrT, -astore_vptr, m16, t16, r16_l0, r33, r16_l1, m16_k, r16_s2]
theorem r16 (p0 : (List Fd)) (h : Heap) : KK 16 [(.slice (Rw Fd.cells p0) .no)] h = tm (t16 p0) fun r => (.ret (.tuple [(.int .i64 r.1), (.int .i64 r.2.1), (.bool r.2.2)]), h) := call_t rfl rfl (m16_eq ..) (b16 p0)

/- hauberk/shape.Sizes -/
def m5_k (mm : Nat) (r26 : R) : Option (Res × Heap) :=
  (fun x2v27 x3v28 h29 => Ex.endF r26.1 (finR mm (.tuple [x2v27, x3v28]) h29)) (gd r26.2.1 0) (gd r26.2.1 1) r26.2.2
def m5 (K : CallO) (a0 : AVal) (h0 : Heap) : Option (Res × Heap) :=
  (ca (K 16 [(AVal.untok a0)] h0) fun t20 h21 => (aextract 0 t20).bind fun t23 => (aextract 1 t20).bind fun t24 => (aextract 2 t20).bind fun t25 => acond t25 (some (.ret, [t23, t24], h21)) (some (.ret, [(.int .i64 0), (.int .i64 0)], h21))).bind (m5_k (List.length h0))
theorem m5_eq (K : CallO) (a0 : AVal) (h0 : Heap) : evB Tryz.prog ann lpW K 5 [a0] h0 = m5 (callP ann K) a0 h0 := by kernel_rfl
def t5 (p0 : (List Fd)) : Option (Int × Int) :=
  tb ((t16 p0)) fun r22 => tc r22.2.2 (some (r22.1, r22.2.1)) (some (0, 0))
theorem b5 (p0 : (List Fd)) : m5 KK (.slice (Rw Fd.cells p0) .no) [] = tm (t5 p0) fun r => (.ret (.tuple [(.int .i64 r.1), (.int .i64 r.2)]), []) := by
  simp +contextual -implicitDefEqProofs (maxSteps := 2000000) [-acond_bool, -guardSel_true, -guardSel_false, -aindexSl_map, -aload_vptr, -aload_vptrT, -astore_vptr, m5, t5, r16, m5_k]
theorem r5 (p0 : (List Fd)) (h : Heap) : KK 5 [(.slice (Rw Fd.cells p0) .no)] h = tm (t5 p0) fun r => (.ret (.tuple [(.int .i64 r.1), (.int .i64 r.2)]), h) := call_t rfl rfl (m5_eq ..) (b5 p0)

/- hauberk/hauberkref15.Sizes -/
def m6_k (mm : Nat) (r243 : R) : Option (Res × Heap) :=
  (fun x2v244 x3v245 h246 => Ex.endF r243.1 (finR mm (.tuple [x2v244, x3v245]) h246)) (gd r243.2.1 0) (gd r243.2.1 1) r243.2.2
def m6_j6 (K : CallO) (m : Nat) (t165 : AVal) (x0v21 : AVal) (x2v22 : AVal) (x3v23 : AVal) (x4v24 : AVal) (x5v25 : AVal) (x6v26 : AVal) (t159 : AVal) (h160 : Heap) : Option R :=
  acond t165 (endR m .normal [x0v21, x2v22, x3v23, x4v24, x5v25, x6v26, t159, x5v25] h160) (endR m .normal [x0v21, x2v22, x3v23, x4v24, x5v25, x6v26, t159, x4v24] h160)
def t6_j6 (u163 : Fd) (w55 : Int) (w56 : Int) : Option (Int) :=
  tc u163.out (some w56) (some w55)
theorem r6_j6 (u163 : Fd) (p0 : (List Fd)) (w53 : Int) (w54 : Int) (w55 : Int) (w56 : Int) (w57 : Int) (r161 : Int) (u31 : Fd) : (m6_j6 KK 1 (.bool u163.out) (.slice (Rw Fd.cells p0) .no) (.int .i64 w53) (.int .i64 w54) (.int .i64 w55) (.int .i64 w56) (.int .i64 w57) (.int .i64 r161) ([.cells [(.int .i64 u31.ty.elem), (.int .i64 u31.ty.len), (.int .i64 u31.ty.lab)]] : Heap)) = tm (t6_j6 u163 w55 w56) fun r => (.normal, [(.slice (Rw Fd.cells p0) .no), (.int .i64 w53), (.int .i64 w54), (.int .i64 w55), (.int .i64 w56), (.int .i64 w57), (.int .i64 r161), (.int .i64 r)], ([.cells [(.int .i64 u31.ty.elem), (.int .i64 u31.ty.len), (.int .i64 u31.ty.lab)]] : Heap)) := by
  simp +contextual -implicitDefEqProofs (maxSteps := 2000000) [-acond_bool, -guardSel_true, -guardSel_false, -aindexSl_map, -aload_vptr, -aload_vptrT, -astore_vptr, m6_j6, t6_j6]
def m6_j9 (K : CallO) (m : Nat) (t221 : AVal) (x5v171 : AVal) (x8v173 : AVal) (x0v167 : AVal) (x2v168 : AVal) (x3v169 : AVal) (x4v170 : AVal) (x6v172 : AVal) (h213 : Heap) : Option R :=
  acond t221 (bo .add x5v171 x8v173 fun t222 => endR m .normal [x0v167, x2v168, x3v169, x4v170, t222, x6v172] h213) (bo .add x4v170 x8v173 fun t223 => endR m .normal [x0v167, x2v168, x3v169, t223, x5v171, x6v172] h213)
def t6_j9 (u219 : Fd) (w56 : Int) (r161 : Int) (w55 : Int) : Option (Int × Int) :=
  tc u219.out (some (w55, (IntKind.wrap .i64 (w56 + r161)))) (some ((IntKind.wrap .i64 (w55 + r161)), w56))
theorem r6_j9 (u219 : Fd) (w56 : Int) (r161 : Int) (p0 : (List Fd)) (w53 : Int) (w54 : Int) (w55 : Int) (w57 : Int) (u31 : Fd) : (m6_j9 KK 1 (.bool u219.out) (.int .i64 w56) (.int .i64 r161) (.slice (Rw Fd.cells p0) .no) (.int .i64 w53) (.int .i64 w54) (.int .i64 w55) (.int .i64 w57) ([.cells [(.int .i64 u31.ty.elem), (.int .i64 u31.ty.len), (.int .i64 u31.ty.lab)]] : Heap)) = tm (t6_j9 u219 w56 r161 w55) fun r => (.normal, [(.slice (Rw Fd.cells p0) .no), (.int .i64 w53), (.int .i64 w54), (.int .i64 r.1), (.int .i64 r.2), (.int .i64 w57)], ([.cells [(.int .i64 u31.ty.elem), (.int .i64 u31.ty.len), (.int .i64 u31.ty.lab)]] : Heap)) := by
  simp +contextual -implicitDefEqProofs (maxSteps := 2000000) [-acond_bool, -guardSel_true, -guardSel_false, -aindexSl_map, -aload_vptr, -aload_vptrT, -astore_vptr, m6_j9, t6_j9]
def m6_s8 (K : CallO) (m : Nat) (t214 : AVal) (x0v167 : AVal) (x4v170 : AVal) (x5v171 : AVal) (x6v172 : AVal) (h213 : Heap) (x8v173 : AVal) (x2v168 : AVal) (x3v169 : AVal) : Option R :=
  acond t214 (endR m .ret [x0v167, (.int .i64 (-1)), (.int .i64 (-1)), x4v170, x5v171, x6v172] h213) (ix 7 x0v167 x6v172 fun t218 => fa 4 t218 fun t220 => ld false 1 h213 t220 fun t221 => (m6_j9 K (List.length h213) t221 x5v171 x8v173 x0v167 x2v168 x3v169 x4v170 x6v172 h213).bind fun r224 => (fun x0v225 x2v226 x3v227 x4v228 x5v229 x6v230 h231 => Ex.nrm r224.1 (bo .add x6v230 (.int .i64 1) fun t232 => endR m .normal [x0v225, x2v226, x3v227, x4v228, x5v229, t232] h231)) (gd r224.2.1 0) (gd r224.2.1 1) (gd r224.2.1 2) (gd r224.2.1 3) (gd r224.2.1 4) (gd r224.2.1 5) r224.2.2)
def t6_s8 (w217 : Bool) (p0 : (List Fd)) (w55 : Int) (w56 : Int) (w57 : Int) (r161 : Int) (w53 : Int) (w54 : Int) : Option (Ey × Int × Int × Int × Int × Int) :=
  tc w217 (some (.r, ((-1), (-1), w55, w56, w57))) (tb ((tidx p0 w57)) fun u219 => tb (t6_j9 u219 w56 r161 w55) fun r224 => some (.n, (w53, w54, r224.1, r224.2, (IntKind.wrap .i64 (w57 + 1)))))
theorem r6_s8 (w217 : Bool) (p0 : (List Fd)) (w55 : Int) (w56 : Int) (w57 : Int) (u31 : Fd) (r161 : Int) (w53 : Int) (w54 : Int) : (m6_s8 KK 0 (.bool w217) (.slice (Rw Fd.cells p0) .no) (.int .i64 w55) (.int .i64 w56) (.int .i64 w57) ([.cells [(.int .i64 u31.ty.elem), (.int .i64 u31.ty.len), (.int .i64 u31.ty.lab)]] : Heap) (.int .i64 r161) (.int .i64 w53) (.int .i64 w54)) = tm (t6_s8 w217 p0 w55 w56 w57 r161 w53 w54) fun r => (r.1.ex, [(.slice (Rw Fd.cells p0) .no), (.int .i64 r.2.1), (.int .i64 r.2.2.1), (.int .i64 r.2.2.2.1), (.int .i64 r.2.2.2.2.1), (.int .i64 r.2.2.2.2.2)], ([] : Heap)) := by
  simp +contextual -implicitDefEqProofs (maxSteps := 2000000) [-acond_bool, -guardSel_true, -guardSel_false, -aindexSl_map, -aload_vptr, -aload_vptrT, -astore_vptr, m6_s8, t6_s8, r17, r6_j6, r6_j9]
def m6_s7 (K : CallO) (m : Nat) (t200 : AVal) (x9v174 : AVal) (h199 : Heap) (x8v173 : AVal) (x0v167 : AVal) (x4v170 : AVal) (x5v171 : AVal) (x6v172 : AVal) (x2v168 : AVal) (x3v169 : AVal) : Option R :=
  gS false t200 (kv0 x9v174 h199) h199 fun t204 h205 => gS false t200 (kv0 x8v173 h205) h205 fun t206 h207 => gS false t200 (bo .add t204 t206 fun t208 => kv0 t208 h207) h207 fun t209 h210 => gS false t200 (bo .gtr t209 (.int .i64 65536) fun t211 => kv0 t211 h210) h210 fun t212 h213 => (apick t200 (.bool true) t212).bind fun t214 => m6_s8 K m t214 x0v167 x4v170 x5v171 x6v172 h213 x8v173 x2v168 x3v169
def t6_s7 (w203 : Bool) (r166 : Int) (r161 : Int) (p0 : (List Fd)) (w55 : Int) (w56 : Int) (w57 : Int) (w53 : Int) (w54 : Int) : Option (Ey × Int × Int × Int × Int × Int) :=
  tc w203 (t6_s8 true p0 w55 w56 w57 r161 w53 w54) (t6_s8 (decide (65536 < (IntKind.wrap .i64 (r166 + r161)))) p0 w55 w56 w57 r161 w53 w54)
theorem r6_s7 (w203 : Bool) (r166 : Int) (u31 : Fd) (r161 : Int) (p0 : (List Fd)) (w55 : Int) (w56 : Int) (w57 : Int) (w53 : Int) (w54 : Int) : (m6_s7 KK 0 (.bool w203) (.int .i64 r166) ([.cells [(.int .i64 u31.ty.elem), (.int .i64 u31.ty.len), (.int .i64 u31.ty.lab)]] : Heap) (.int .i64 r161) (.slice (Rw Fd.cells p0) .no) (.int .i64 w55) (.int .i64 w56) (.int .i64 w57) (.int .i64 w53) (.int .i64 w54)) = tm (t6_s7 w203 r166 r161 p0 w55 w56 w57 w53 w54) fun r => (r.1.ex, [(.slice (Rw Fd.cells p0) .no), (.int .i64 r.2.1), (.int .i64 r.2.2.1), (.int .i64 r.2.2.2.1), (.int .i64 r.2.2.2.2.1), (.int .i64 r.2.2.2.2.2)], ([] : Heap)) := by
  simp +contextual -implicitDefEqProofs (maxSteps := 2000000) [-acond_bool, -guardSel_true, -guardSel_false, -aindexSl_map, -aload_vptr, -aload_vptrT, -astore_vptr, m6_s7, t6_s7, r17, r6_j6, r6_j9, r6_s8]
def m6_s5 (K : CallO) (m : Nat) (t154 : AVal) (x0v21 : AVal) (x4v24 : AVal) (x5v25 : AVal) (x6v26 : AVal) (h153 : Heap) (t34 : AVal) (x2v22 : AVal) (x3v23 : AVal) : Option R :=
  acond t154 (endR m .ret [x0v21, (.int .i64 (-1)), (.int .i64 (-1)), x4v24, x5v25, x6v26] h153) (ld true 3 h153 t34 fun t158 => ca (K 17 [(AVal.untok t158)] h153) fun t159 h160 => ix 7 x0v21 x6v26 fun t162 => fa 4 t162 fun t164 => ld false 1 h160 t164 fun t165 => (m6_j6 K (List.length h160) t165 x0v21 x2v22 x3v23 x4v24 x5v25 x6v26 t159 h160).bind fun r166 => (fun x0v167 x2v168 x3v169 x4v170 x5v171 x6v172 x8v173 x9v174 h175 => Ex.nrm r166.1 (ix 7 x0v167 x6v172 fun t176 => fa 5 t176 fun t178 => ld false 1 h175 t178 fun t179 => bo .neq t179 x9v174 fun t180 => gS false t180 (kv0 x0v167 h175) h175 fun t181 h182 => gS false t180 (kv0 x6v172 h182) h182 fun t183 h184 => gS false t180 (ix 7 t181 t183 fun t185 => kv0 t185 h184) h184 fun t187 h188 => gS false t180 (fa 6 t187 fun t189 => kv0 t189 h188) h188 fun t190 h191 => gS false t180 (ld false 1 h191 t190 fun t192 => kv0 t192 h191) h191 fun t193 h194 => gS false t180 (kv0 x8v173 h194) h194 fun t195 h196 => gS false t180 (bo .neq t193 t195 fun t197 => kv0 t197 h196) h196 fun t198 h199 => (apick t180 (.bool true) t198).bind fun t200 => m6_s7 K m t200 x9v174 h199 x8v173 x0v167 x4v170 x5v171 x6v172 x2v168 x3v169)) (gd r166.2.1 0) (gd r166.2.1 1) (gd r166.2.1 2) (gd r166.2.1 3) (gd r166.2.1 4) (gd r166.2.1 5) (gd r166.2.1 6) (gd r166.2.1 7) r166.2.2)
def t6_s5 (w157 : Bool) (p0 : (List Fd)) (w55 : Int) (w56 : Int) (w57 : Int) (u31 : Fd) (w53 : Int) (w54 : Int) : Option (Ey × Int × Int × Int × Int × Int) :=
  tc w157 (some (.r, ((-1), (-1), w55, w56, w57))) (tb ((t17 u31.ty)) fun r161 => tb ((tidx p0 w57)) fun u163 => tb (t6_j6 u163 w55 w56) fun r166 => tb ((tidx p0 w57)) fun u177 => tc (!decide (u177.off = r166)) (t6_s7 true r166 r161 p0 w55 w56 w57 w53 w54) (tb ((tidx p0 w57)) fun u186 => t6_s7 (!decide (u186.size = r161)) r166 r161 p0 w55 w56 w57 w53 w54))
theorem r6_s5 (w157 : Bool) (p0 : (List Fd)) (w55 : Int) (w56 : Int) (w57 : Int) (u31 : Fd) (w53 : Int) (w54 : Int) : (m6_s5 KK 0 (.bool w157) (.slice (Rw Fd.cells p0) .no) (.int .i64 w55) (.int .i64 w56) (.int .i64 w57) ([.cells [(.int .i64 u31.ty.elem), (.int .i64 u31.ty.len), (.int .i64 u31.ty.lab)]] : Heap) (.ptr 0 0) (.int .i64 w53) (.int .i64 w54)) = tm (t6_s5 w157 p0 w55 w56 w57 u31 w53 w54) fun r => (r.1.ex, [(.slice (Rw Fd.cells p0) .no), (.int .i64 r.2.1), (.int .i64 r.2.2.1), (.int .i64 r.2.2.2.1), (.int .i64 r.2.2.2.2.1), (.int .i64 r.2.2.2.2.2)], ([] : Heap)) := by
  simp +contextual -implicitDefEqProofs (maxSteps := 2000000) [-acond_bool, -guardSel_true, -guardSel_false, -aindexSl_map, -aload_vptr, -aload_vptrT, -astore_vptr, m6_s5, t6_s5, r17, r6_j6, r6_j9, r6_s8, r6_s7]
def m6_s4 (K : CallO) (m : Nat) (t108 : AVal) (t34 : AVal) (h107 : Heap) (x0v21 : AVal) (x6v26 : AVal) (x4v24 : AVal) (x5v25 : AVal) (x2v22 : AVal) (x3v23 : AVal) : Option R :=
  gS false t108 (fa 1 t34 fun t112 => kv0 t112 h107) h107 fun t113 h114 => gS false t108 (ld false 1 h114 t113 fun t115 => kv0 t115 h114) h114 fun t116 h117 => gS false t108 (bo .eql t116 (.int .i64 0) fun t118 => kv0 t118 h117) h117 fun t119 h120 => gS false t108 (kv0 t119 h120) h120 fun t121 h122 => gS true t121 (kv0 x0v21 h122) h122 fun t123 h124 => gS true t121 (kv0 x6v26 h124) h124 fun t125 h126 => gS true t121 (ix 7 t123 t125 fun t127 => kv0 t127 h126) h126 fun t129 h130 => gS true t121 (fa 4 t129 fun t131 => kv0 t131 h130) h130 fun t132 h133 => gS true t121 (ld false 1 h133 t132 fun t134 => kv0 t134 h133) h133 fun t135 h136 => gS true t121 (kv0 t135 h136) h136 fun t137 h138 => gS false t137 (fa 0 t34 fun t139 => kv0 t139 h138) h138 fun t140 h141 => gS false t137 (ld false 1 h141 t140 fun t142 => kv0 t142 h141) h141 fun t143 h144 => gS false t137 (bo .eql t143 (.int .i64 2) fun t145 => kv0 t145 h144) h144 fun t146 h147 => gS true t121 ((apick t137 (.bool true) t146).bind fun t148 => kv0 t148 h147) h147 fun t149 h150 => gS false t108 ((apick t121 t149 (.bool false)).bind fun t151 => kv0 t151 h150) h150 fun t152 h153 => (apick t108 (.bool true) t152).bind fun t154 => m6_s5 K m t154 x0v21 x4v24 x5v25 x6v26 h153 t34 x2v22 x3v23
def t6_s4 (w111 : Bool) (u31 : Fd) (p0 : (List Fd)) (w57 : Int) (w55 : Int) (w56 : Int) (w53 : Int) (w54 : Int) : Option (Ey × Int × Int × Int × Int × Int) :=
  tc w111 (t6_s5 true p0 w55 w56 w57 u31 w53 w54) (tc (decide (u31.ty.len = 0)) (tb ((tidx p0 w57)) fun u128 => tc u128.out (t6_s5 true p0 w55 w56 w57 u31 w53 w54) (t6_s5 (decide (u31.ty.elem = 2)) p0 w55 w56 w57 u31 w53 w54)) (t6_s5 false p0 w55 w56 w57 u31 w53 w54))
theorem r6_s4 (w111 : Bool) (u31 : Fd) (p0 : (List Fd)) (w57 : Int) (w55 : Int) (w56 : Int) (w53 : Int) (w54 : Int) : (m6_s4 KK 0 (.bool w111) (.ptr 0 0) ([.cells [(.int .i64 u31.ty.elem), (.int .i64 u31.ty.len), (.int .i64 u31.ty.lab)]] : Heap) (.slice (Rw Fd.cells p0) .no) (.int .i64 w57) (.int .i64 w55) (.int .i64 w56) (.int .i64 w53) (.int .i64 w54)) = tm (t6_s4 w111 u31 p0 w57 w55 w56 w53 w54) fun r => (r.1.ex, [(.slice (Rw Fd.cells p0) .no), (.int .i64 r.2.1), (.int .i64 r.2.2.1), (.int .i64 r.2.2.2.1), (.int .i64 r.2.2.2.2.1), (.int .i64 r.2.2.2.2.2)], ([] : Heap)) := by
  simp +contextual -implicitDefEqProofs (maxSteps := 2000000) [-acond_bool, -guardSel_true, -guardSel_false, -aindexSl_map, -aload_vptr, -aload_vptrT, -astore_vptr, m6_s4, t6_s4, r17, r6_j6, r6_j9, r6_s8, r6_s7, r6_s5]
def m6_s3 (K : CallO) (m : Nat) (t95 : AVal) (t34 : AVal) (h94 : Heap) (x0v21 : AVal) (x6v26 : AVal) (x4v24 : AVal) (x5v25 : AVal) (x2v22 : AVal) (x3v23 : AVal) : Option R :=
  gS false t95 (fa 1 t34 fun t99 => kv0 t99 h94) h94 fun t100 h101 => gS false t95 (ld false 1 h101 t100 fun t102 => kv0 t102 h101) h101 fun t103 h104 => gS false t95 (bo .gtr t103 (.int .i64 16384) fun t105 => kv0 t105 h104) h104 fun t106 h107 => (apick t95 (.bool true) t106).bind fun t108 => m6_s4 K m t108 t34 h107 x0v21 x6v26 x4v24 x5v25 x2v22 x3v23
def t6_s3 (w98 : Bool) (u31 : Fd) (p0 : (List Fd)) (w57 : Int) (w55 : Int) (w56 : Int) (w53 : Int) (w54 : Int) : Option (Ey × Int × Int × Int × Int × Int) :=
  tc w98 (t6_s4 true u31 p0 w57 w55 w56 w53 w54) (t6_s4 (decide (16384 < u31.ty.len)) u31 p0 w57 w55 w56 w53 w54)
theorem r6_s3 (w98 : Bool) (u31 : Fd) (p0 : (List Fd)) (w57 : Int) (w55 : Int) (w56 : Int) (w53 : Int) (w54 : Int) : (m6_s3 KK 0 (.bool w98) (.ptr 0 0) ([.cells [(.int .i64 u31.ty.elem), (.int .i64 u31.ty.len), (.int .i64 u31.ty.lab)]] : Heap) (.slice (Rw Fd.cells p0) .no) (.int .i64 w57) (.int .i64 w55) (.int .i64 w56) (.int .i64 w53) (.int .i64 w54)) = tm (t6_s3 w98 u31 p0 w57 w55 w56 w53 w54) fun r => (r.1.ex, [(.slice (Rw Fd.cells p0) .no), (.int .i64 r.2.1), (.int .i64 r.2.2.1), (.int .i64 r.2.2.2.1), (.int .i64 r.2.2.2.2.1), (.int .i64 r.2.2.2.2.2)], ([] : Heap)) := by
  simp +contextual -implicitDefEqProofs (maxSteps := 2000000) [-acond_bool, -guardSel_true, -guardSel_false, -aindexSl_map, -aload_vptr, -aload_vptrT, -astore_vptr, m6_s3, t6_s3, r17, r6_j6, r6_j9, r6_s8, r6_s7, r6_s5, r6_s4]
def m6_s2 (K : CallO) (m : Nat) (t82 : AVal) (t34 : AVal) (h81 : Heap) (x0v21 : AVal) (x6v26 : AVal) (x4v24 : AVal) (x5v25 : AVal) (x2v22 : AVal) (x3v23 : AVal) : Option R :=
  gS false t82 (fa 1 t34 fun t86 => kv0 t86 h81) h81 fun t87 h88 => gS false t82 (ld false 1 h88 t87 fun t89 => kv0 t89 h88) h88 fun t90 h91 => gS false t82 (bo .lss t90 (.int .i64 0) fun t92 => kv0 t92 h91) h91 fun t93 h94 => (apick t82 (.bool true) t93).bind fun t95 => m6_s3 K m t95 t34 h94 x0v21 x6v26 x4v24 x5v25 x2v22 x3v23
def t6_s2 (w85 : Bool) (u31 : Fd) (p0 : (List Fd)) (w57 : Int) (w55 : Int) (w56 : Int) (w53 : Int) (w54 : Int) : Option (Ey × Int × Int × Int × Int × Int) :=
  tc w85 (t6_s3 true u31 p0 w57 w55 w56 w53 w54) (t6_s3 (decide (u31.ty.len < 0)) u31 p0 w57 w55 w56 w53 w54)
theorem r6_s2 (w85 : Bool) (u31 : Fd) (p0 : (List Fd)) (w57 : Int) (w55 : Int) (w56 : Int) (w53 : Int) (w54 : Int) : (m6_s2 KK 0 (.bool w85) (.ptr 0 0) ([.cells [(.int .i64 u31.ty.elem), (.int .i64 u31.ty.len), (.int .i64 u31.ty.lab)]] : Heap) (.slice (Rw Fd.cells p0) .no) (.int .i64 w57) (.int .i64 w55) (.int .i64 w56) (.int .i64 w53) (.int .i64 w54)) = tm (t6_s2 w85 u31 p0 w57 w55 w56 w53 w54) fun r => (r.1.ex, [(.slice (Rw Fd.cells p0) .no), (.int .i64 r.2.1), (.int .i64 r.2.2.1), (.int .i64 r.2.2.2.1), (.int .i64 r.2.2.2.2.1), (.int .i64 r.2.2.2.2.2)], ([] : Heap)) := by
  simp +contextual -implicitDefEqProofs (maxSteps := 2000000) [-acond_bool, -guardSel_true, -guardSel_false, -aindexSl_map, -aload_vptr, -aload_vptrT, -astore_vptr, m6_s2, t6_s2, r17, r6_j6, r6_j9, r6_s8, r6_s7, r6_s5, r6_s4, r6_s3]
def m6_s1 (K : CallO) (m : Nat) (t69 : AVal) (t34 : AVal) (h68 : Heap) (x0v21 : AVal) (x6v26 : AVal) (x4v24 : AVal) (x5v25 : AVal) (x2v22 : AVal) (x3v23 : AVal) : Option R :=
  gS false t69 (fa 2 t34 fun t73 => kv0 t73 h68) h68 fun t74 h75 => gS false t69 (ld false 1 h75 t74 fun t76 => kv0 t76 h75) h75 fun t77 h78 => gS false t69 (bo .gtr t77 (.int .i64 1) fun t79 => kv0 t79 h78) h78 fun t80 h81 => (apick t69 (.bool true) t80).bind fun t82 => m6_s2 K m t82 t34 h81 x0v21 x6v26 x4v24 x5v25 x2v22 x3v23
def t6_s1 (w72 : Bool) (u31 : Fd) (p0 : (List Fd)) (w57 : Int) (w55 : Int) (w56 : Int) (w53 : Int) (w54 : Int) : Option (Ey × Int × Int × Int × Int × Int) :=
  tc w72 (t6_s2 true u31 p0 w57 w55 w56 w53 w54) (t6_s2 (decide (1 < u31.ty.lab)) u31 p0 w57 w55 w56 w53 w54)
theorem r6_s1 (w72 : Bool) (u31 : Fd) (p0 : (List Fd)) (w57 : Int) (w55 : Int) (w56 : Int) (w53 : Int) (w54 : Int) : (m6_s1 KK 0 (.bool w72) (.ptr 0 0) ([.cells [(.int .i64 u31.ty.elem), (.int .i64 u31.ty.len), (.int .i64 u31.ty.lab)]] : Heap) (.slice (Rw Fd.cells p0) .no) (.int .i64 w57) (.int .i64 w55) (.int .i64 w56) (.int .i64 w53) (.int .i64 w54)) = tm (t6_s1 w72 u31 p0 w57 w55 w56 w53 w54) fun r => (r.1.ex, [(.slice (Rw Fd.cells p0) .no), (.int .i64 r.2.1), (.int .i64 r.2.2.1), (.int .i64 r.2.2.2.1), (.int .i64 r.2.2.2.2.1), (.int .i64 r.2.2.2.2.2)], ([] : Heap)) := by
  simp +contextual -implicitDefEqProofs (maxSteps := 2000000) [-acond_bool, -guardSel_true, -guardSel_false, -aindexSl_map, -aload_vptr, -aload_vptrT, -astore_vptr, m6_s1, t6_s1, r17, r6_j6, r6_j9, r6_s8, r6_s7, r6_s5, r6_s4, r6_s3, r6_s2]
def m6_s0 (K : CallO) (m : Nat) (t49 : AVal) (t34 : AVal) (h48 : Heap) (x0v21 : AVal) (x6v26 : AVal) (x4v24 : AVal) (x5v25 : AVal) (x2v22 : AVal) (x3v23 : AVal) : Option R :=
  gS false t49 (fa 2 t34 fun t60 => kv0 t60 h48) h48 fun t61 h62 => gS false t49 (ld false 1 h62 t61 fun t63 => kv0 t63 h62) h62 fun t64 h65 => gS false t49 (bo .lss t64 (.int .i64 0) fun t66 => kv0 t66 h65) h65 fun t67 h68 => (apick t49 (.bool true) t67).bind fun t69 => m6_s1 K m t69 t34 h68 x0v21 x6v26 x4v24 x5v25 x2v22 x3v23
def t6_s0 (w52 : Bool) (u31 : Fd) (p0 : (List Fd)) (w57 : Int) (w55 : Int) (w56 : Int) (w53 : Int) (w54 : Int) : Option (Ey × Int × Int × Int × Int × Int) :=
  tc w52 (t6_s1 true u31 p0 w57 w55 w56 w53 w54) (t6_s1 (decide (u31.ty.lab < 0)) u31 p0 w57 w55 w56 w53 w54)
theorem r6_s0 (w52 : Bool) (u31 : Fd) (p0 : (List Fd)) (w57 : Int) (w55 : Int) (w56 : Int) (w53 : Int) (w54 : Int) : (m6_s0 KK 0 (.bool w52) (.ptr 0 0) ([.cells [(.int .i64 u31.ty.elem), (.int .i64 u31.ty.len), (.int .i64 u31.ty.lab)]] : Heap) (.slice (Rw Fd.cells p0) .no) (.int .i64 w57) (.int .i64 w55) (.int .i64 w56) (.int .i64 w53) (.int .i64 w54)) = tm (t6_s0 w52 u31 p0 w57 w55 w56 w53 w54) fun r => (r.1.ex, [(.slice (Rw Fd.cells p0) .no), (.int .i64 r.2.1), (.int .i64 r.2.2.1), (.int .i64 r.2.2.2.1), (.int .i64 r.2.2.2.2.1), (.int .i64 r.2.2.2.2.2)], ([] : Heap)) := by
  simp +contextual -implicitDefEqProofs (maxSteps := 2000000) [-acond_bool, -guardSel_true, -guardSel_false, -aindexSl_map, -aload_vptr, -aload_vptrT, -astore_vptr, m6_s0, t6_s0, r17, r6_j6, r6_j9, r6_s8, r6_s7, r6_s5, r6_s4, r6_s3, r6_s2, r6_s1]
def m6_l10 (K : CallO) (m : Nat) (s : List AVal × Heap) : Option R :=
  (fun x0v21 x2v22 x3v23 x4v24 x5v25 x6v26 h27 => ln x0v21 fun t28 => bo .lss x6v26 t28 fun t29 => acond t29 (ix 7 x0v21 x6v26 fun t30 => fa 1 t30 fun t32 => ld true 3 h27 t32 fun t33 => bindVH (anew 3 h27 (.agg [(.int .i64 0), (.int .i64 0), (.int .i64 0)])) fun t34 h35 => (astore 3 h35 t34 t33).bind fun h36 => fa 0 t34 fun t37 => ld false 1 h36 t37 fun t38 => bo .neq t38 (.int .i64 0) fun t39 => gS true t39 (fa 0 t34 fun t40 => kv0 t40 h36) h36 fun t41 h42 => gS true t39 (ld false 1 h42 t41 fun t43 => kv0 t43 h42) h42 fun t44 h45 => gS true t39 (bo .neq t44 (.int .i64 2) fun t46 => kv0 t46 h45) h45 fun t47 h48 => (apick t39 t47 (.bool false)).bind fun t49 => m6_s0 K m t49 t34 h48 x0v21 x6v26 x4v24 x5v25 x2v22 x3v23) (endR m (.exit 0) [x0v21, x2v22, x3v23, x4v24, x5v25, x6v26] h27)) (gd s.1 0) (gd s.1 1) (gd s.1 2) (gd s.1 3) (gd s.1 4) (gd s.1 5) s.2
def t6_l10 (p0 : (List Fd)) (s20 : Int × Int × Int × Int × Int) : Option (Ey × Int × Int × Int × Int × Int) :=
  tc (decide (s20.2.2.2.2 < ((List.length p0 : Nat) : Int))) (tb ((tidx p0 s20.2.2.2.2)) fun u31 => tc (!decide (u31.ty.elem = 0)) (t6_s0 (!decide (u31.ty.elem = 2)) u31 p0 s20.2.2.2.2 s20.2.2.1 s20.2.2.2.1 s20.1 s20.2.1) (t6_s0 false u31 p0 s20.2.2.2.2 s20.2.2.1 s20.2.2.2.1 s20.1 s20.2.1)) (some ((.x 0), (s20.1, s20.2.1, s20.2.2.1, s20.2.2.2.1, s20.2.2.2.2)))
theorem b6_l10 (p0 : (List Fd)) (s20 : Int × Int × Int × Int × Int) : m6_l10 KK 0 ([(.slice (Rw Fd.cells p0) .no), (.int .i64 s20.1), (.int .i64 s20.2.1), (.int .i64 s20.2.2.1), (.int .i64 s20.2.2.2.1), (.int .i64 s20.2.2.2.2)], ([] : Heap)) = tm (t6_l10 p0 s20) fun r => (r.1.ex, [(.slice (Rw Fd.cells p0) .no), (.int .i64 r.2.1), (.int .i64 r.2.2.1), (.int .i64 r.2.2.2.1), (.int .i64 r.2.2.2.2.1), (.int .i64 r.2.2.2.2.2)], ([] : Heap)) := by
  simp +contextual -implicitDefEqProofs (maxSteps := 2000000) [-acond_bool, -guardSel_true, -guardSel_false, -aindexSl_map, -aload_vptr, -aload_vptrT, -astore_vptr, m6_l10, t6_l10, r17, r6_j6, r6_j9, r6_s8, r6_s7, r6_s5, r6_s4, r6_s3, r6_s2, r6_s1, r6_s0]
theorem r6_l10 (p0 : (List Fd)) (i1 : Int) (i2 : Int) (i3 : Int) (i4 : Int) (i5 : Int) : lpW (m6_l10 KK 0) ([(.slice (Rw Fd.cells p0) .no), (.int .i64 i1), (.int .i64 i2), (.int .i64 i3), (.int .i64 i4), (.int .i64 i5)], ([] : Heap)) = tm (lpT (t6_l10 p0) (i1, i2, i3, i4, i5)) fun r => (r.1.ex, [(.slice (Rw Fd.cells p0) .no), (.int .i64 r.2.1), (.int .i64 r.2.2.1), (.int .i64 r.2.2.2.1), (.int .i64 r.2.2.2.2.1), (.int .i64 r.2.2.2.2.2)], ([] : Heap)) := by
  exact lpW_t (enc := fun s20 => ([(.slice (Rw Fd.cells p0) .no), (.int .i64 s20.1), (.int .i64 s20.2.1), (.int .i64 s20.2.2.1), (.int .i64 s20.2.2.2.1), (.int .i64 s20.2.2.2.2)], ([] : Heap))) (fun s20 => b6_l10 p0 s20) (i1, i2, i3, i4, i5)
def m6 (K : CallO) (a0 : AVal) (h0 : Heap) : Option (Res × Heap) :=
  ((lpW (m6_l10 K (List.length h0)) ([a0, (.int .i64 0), (.int .i64 0), (.int .i64 0), (.int .i64 0), (.int .i64 0)], h0)).bind fun r233 => (fun x0v235 x2v236 x3v237 x4v238 x5v239 x6v240 h241 => Ex.thenDo r233.1 none (fun e234 => Ex.inBlock 0 e234 (some (.ret, [x4v238, x5v239], h241)) (fun e242 => some (e242, [x2v236, x3v237], h241)))) (gd r233.2.1 0) (gd r233.2.1 1) (gd r233.2.1 2) (gd r233.2.1 3) (gd r233.2.1 4) (gd r233.2.1 5) r233.2.2).bind (m6_k (List.length h0))
theorem m6_eq (K : CallO) (a0 : AVal) (h0 : Heap) : evB Tryz.prog ann lpW K 6 [a0] h0 = m6 (callP ann K) a0 h0 := by kernel_rfl
def t6 (p0 : (List Fd)) : Option (Int × Int) :=
  tb (lpT (t6_l10 p0) (0, 0, 0, 0, 0)) fun r233 => exT r233.1 none fun e234 => ibT 0 e234 (some (r233.2.2.2.1, r233.2.2.2.2.1)) fun e242 => efT e242 (some (r233.2.1, r233.2.2.1))
theorem b6 (p0 : (List Fd)) : m6 KK (.slice (Rw Fd.cells p0) .no) [] = tm (t6 p0) fun r => (.ret (.tuple [(.int .i64 r.1), (.int .i64 r.2)]), []) := by
  simp +contextual -implicitDefEqProofs (maxSteps := 2000000) [-acond_bool, -guardSel_true, -guardSel_false, -aindexSl_map, -aload_vptr, -aload_vptrT, -astore_vptr, m6, t6, r6_l10, m6_k]
theorem r6 (p0 : (List Fd)) (h : Heap) : KK 6 [(.slice (Rw Fd.cells p0) .no)] h = tm (t6 p0) fun r => (.ret (.tuple [(.int .i64 r.1), (.int .i64 r.2)]), h) := call_t rfl rfl (m6_eq ..) (b6 p0)

/- hauberk/hauberkref15.Agree -/
def m13_k (mm : Nat) (r152 : R) : Option (Res × Heap) :=
  (fun x6v153 h154 => Ex.endF r152.1 (finR mm x6v153 h154)) (gd r152.2.1 0) r152.2.2
def m13_s3 (K : CallO) (m : Nat) (t106 : AVal) (x9v74 : AVal) (x10v75 : AVal) (h105 : Heap) (x1v71 : AVal) (x11v76 : AVal) (x2v72 : AVal) (x6v73 : AVal) : Option R :=
  acond t106 (ix 7 x9v74 x10v75 fun t110 => ld true 7 h105 t110 fun t112 => ix 7 x9v74 x10v75 fun t113 => ld true 7 h105 t113 fun t115 => ca (K 28 [(AVal.untok t112), (AVal.untok x1v71), (AVal.untok x11v76)] (hide (lockIds [0] [t113]) h105)) fun t116 h117 => ca (K 28 [(AVal.untok t115), (AVal.untok x2v72), (AVal.untok x11v76)] (unhide (lockIds [0] [t113]) h105 h117)) fun t119 h120 => bo .neq t116 t119 fun t122 => acond t122 (endR m .ret [x1v71, x2v72, (.bool false), x9v74, x10v75, x11v76] h120) (bo .add x11v76 (.int .i64 1) fun t123 => endR m .normal [x1v71, x2v72, x6v73, x9v74, x10v75, t123] h120)) (endR m (.exit 2) [x1v71, x2v72, x6v73, x9v74, x10v75, x11v76] h105)
def t13_s3 (w109 : Bool) (r58 : (List Fd)) (s59 : Int) (p1 : (List UInt8)) (s70 : Int) (p2 : (List UInt8)) : Option (Ey × Int) :=
  tc w109 (tb ((tidx r58 s59)) fun u111 => tb ((tidx r58 s59)) fun u114 => tb ((t28 u111 p1 s70)) fun r118 => tb ((t28 u114 p2 s70)) fun r121 => tc (!decide (r118 = r121)) (some (.r, s70)) (some (.n, (IntKind.wrap .i64 (s70 + 1))))) (some ((.x 2), s70))
theorem r13_s3 (w109 : Bool) (r58 : (List Fd)) (s59 : Int) (p1 : (List UInt8)) (s70 : Int) (p2 : (List UInt8)) : (m13_s3 KK 0 (.bool w109) (.slice (Rw Fd.cells r58) .no) (.int .i64 s59) ([] : Heap) (.str p1) (.int .i64 s70) (.str p2) (.bool false)) = tm (t13_s3 w109 r58 s59 p1 s70 p2) fun r => (r.1.ex, [(.str p1), (.str p2), (.bool false), (.slice (Rw Fd.cells r58) .no), (.int .i64 s59), (.int .i64 r.2)], ([] : Heap)) := by
  simp +contextual -implicitDefEqProofs (maxSteps := 2000000) [-acond_bool, -guardSel_true, -guardSel_false, -aindexSl_map, -aload_vptr, -aload_vptrT, -astore_vptr, m13_s3, t13_s3, r24, r28]
def m13_l4 (K : CallO) (m : Nat) (s : List AVal × Heap) : Option R :=
  (fun x1v71 x2v72 x6v73 x9v74 x10v75 x11v76 h77 => ix 7 x9v74 x10v75 fun t78 => fa 1 t78 fun t80 => ld true 3 h77 t80 fun t81 => ca (K 24 [(AVal.untok t81)] h77) fun t82 h83 => bo .lss x11v76 t82 fun t85 => gS true t85 (kv0 x9v74 h83) h83 fun t86 h87 => gS true t85 (kv0 x10v75 h87) h87 fun t88 h89 => gS true t85 (ix 7 t86 t88 fun t90 => kv0 t90 h89) h89 fun t92 h93 => gS true t85 (fa 1 t92 fun t94 => kv0 t94 h93) h93 fun t95 h96 => gS true t85 (fa 2 t95 fun t97 => kv0 t97 h96) h96 fun t98 h99 => gS true t85 (ld false 1 h99 t98 fun t100 => kv0 t100 h99) h99 fun t101 h102 => gS true t85 (bo .eql t101 (.int .i64 0) fun t103 => kv0 t103 h102) h102 fun t104 h105 => (apick t85 t104 (.bool false)).bind fun t106 => m13_s3 K m t106 x9v74 x10v75 h105 x1v71 x11v76 x2v72 x6v73) (gd s.1 0) (gd s.1 1) (gd s.1 2) (gd s.1 3) (gd s.1 4) (gd s.1 5) s.2
def t13_l4 (p1 : (List UInt8)) (p2 : (List UInt8)) (r58 : (List Fd)) (s59 : Int) (s70 : Int) : Option (Ey × Int) :=
  tb ((tidx r58 s59)) fun u79 => tb ((t24 u79.ty)) fun r84 => tc (decide (s70 < r84)) (tb ((tidx r58 s59)) fun u91 => t13_s3 (decide (u91.ty.lab = 0)) r58 s59 p1 s70 p2) (t13_s3 false r58 s59 p1 s70 p2)
theorem b13_l4 (p1 : (List UInt8)) (p2 : (List UInt8)) (r58 : (List Fd)) (s59 : Int) (s70 : Int) : m13_l4 KK 0 ([(.str p1), (.str p2), (.bool false), (.slice (Rw Fd.cells r58) .no), (.int .i64 s59), (.int .i64 s70)], ([] : Heap)) = tm (t13_l4 p1 p2 r58 s59 s70) fun r => (r.1.ex, [(.str p1), (.str p2), (.bool false), (.slice (Rw Fd.cells r58) .no), (.int .i64 s59), (.int .i64 r.2)], ([] : Heap)) := by
  simp +contextual -implicitDefEqProofs (maxSteps := 2000000) [-acond_bool, -guardSel_true, -guardSel_false, -aindexSl_map, -aload_vptr, -aload_vptrT, -astore_vptr, m13_l4, t13_l4, r24, r28, r13_s3]
theorem r13_l4 (p1 : (List UInt8)) (p2 : (List UInt8)) (r58 : (List Fd)) (s59 : Int) (i5 : Int) : lpW (m13_l4 KK 0) ([(.str p1), (.str p2), (.bool false), (.slice (Rw Fd.cells r58) .no), (.int .i64 s59), (.int .i64 i5)], ([] : Heap)) = tm (lpT (t13_l4 p1 p2 r58 s59) i5) fun r => (r.1.ex, [(.str p1), (.str p2), (.bool false), (.slice (Rw Fd.cells r58) .no), (.int .i64 s59), (.int .i64 r.2)], ([] : Heap)) := by
  exact lpW_t (enc := fun s70 => ([(.str p1), (.str p2), (.bool false), (.slice (Rw Fd.cells r58) .no), (.int .i64 s59), (.int .i64 s70)], ([] : Heap))) (fun s70 => b13_l4 p1 p2 r58 s59 s70) i5
def m13_b2 (K : CallO) (m : Nat) (h65 : Heap) (x1v60 : AVal) (x2v61 : AVal) (x6v62 : AVal) (x9v63 : AVal) (x10v64 : AVal) : Option R :=
  (lpW (m13_l4 K (List.length h65)) ([x1v60, x2v61, x6v62, x9v63, x10v64, (.int .i64 0)], h65)).bind fun r124 => (fun x1v126 x2v127 x6v128 x9v129 x10v130 x11v131 h132 => Ex.thenDo r124.1 none (fun e125 => Ex.inBlock 2 e125 (endR m .normal [x1v126, x2v127, x6v128, x9v129, x10v130] h132) (fun e133 => endR m e133 [x1v126, x2v127, x6v128, x9v129, x10v130] h132))) (gd r124.2.1 0) (gd r124.2.1 1) (gd r124.2.1 2) (gd r124.2.1 3) (gd r124.2.1 4) (gd r124.2.1 5) r124.2.2
def t13_b2 (p1 : (List UInt8)) (p2 : (List UInt8)) (r58 : (List Fd)) (s59 : Int) : Option (Ey × Unit) :=
  tb (lpT (t13_l4 p1 p2 r58 s59) 0) fun r124 => exT r124.1 none fun e125 => ibT 2 e125 (some (.n, ())) fun e133 => some (e133, ())
theorem r13_b2 (p1 : (List UInt8)) (p2 : (List UInt8)) (r58 : (List Fd)) (s59 : Int) : (m13_b2 KK 0 ([] : Heap) (.str p1) (.str p2) (.bool false) (.slice (Rw Fd.cells r58) .no) (.int .i64 s59)) = tm (t13_b2 p1 p2 r58 s59) fun r => (r.1.ex, [(.str p1), (.str p2), (.bool false), (.slice (Rw Fd.cells r58) .no), (.int .i64 s59)], ([] : Heap)) := by
  simp +contextual -implicitDefEqProofs (maxSteps := 2000000) [-acond_bool, -guardSel_true, -guardSel_false, -aindexSl_map, -aload_vptr, -aload_vptrT, -astore_vptr, m13_b2, t13_b2, r13_l4]
def m13_l5 (K : CallO) (m : Nat) (s : List AVal × Heap) : Option R :=
  (fun x1v60 x2v61 x6v62 x9v63 x10v64 h65 => ln x9v63 fun t66 => bo .lss x10v64 t66 fun t67 => acond t67 ((m13_b2 K (List.length h65) h65 x1v60 x2v61 x6v62 x9v63 x10v64).bind fun r134 => (fun x1v135 x2v136 x6v137 x9v138 x10v139 h140 => Ex.inBlock 1 r134.1 (bo .add x10v139 (.int .i64 1) fun t142 => endR m .normal [x1v135, x2v136, x6v137, x9v138, t142] h140) (fun e141 => endR m e141 [x1v135, x2v136, x6v137, x9v138, x10v139] h140)) (gd r134.2.1 0) (gd r134.2.1 1) (gd r134.2.1 2) (gd r134.2.1 3) (gd r134.2.1 4) r134.2.2) (endR m (.exit 0) [x1v60, x2v61, x6v62, x9v63, x10v64] h65)) (gd s.1 0) (gd s.1 1) (gd s.1 2) (gd s.1 3) (gd s.1 4) s.2
def t13_l5 (p1 : (List UInt8)) (p2 : (List UInt8)) (r58 : (List Fd)) (s59 : Int) : Option (Ey × Int) :=
  tc (decide (s59 < ((List.length r58 : Nat) : Int))) (tb (t13_b2 p1 p2 r58 s59) fun r134 => ibT 1 r134.1 (some (.n, (IntKind.wrap .i64 (s59 + 1)))) fun e141 => some (e141, s59)) (some ((.x 0), s59))
theorem b13_l5 (p1 : (List UInt8)) (p2 : (List UInt8)) (r58 : (List Fd)) (s59 : Int) : m13_l5 KK 0 ([(.str p1), (.str p2), (.bool false), (.slice (Rw Fd.cells r58) .no), (.int .i64 s59)], ([] : Heap)) = tm (t13_l5 p1 p2 r58 s59) fun r => (r.1.ex, [(.str p1), (.str p2), (.bool false), (.slice (Rw Fd.cells r58) .no), (.int .i64 r.2)], ([] : Heap)) := by
  simp +contextual -implicitDefEqProofs (maxSteps := 2000000) [-acond_bool, -guardSel_true, -guardSel_false, -aindexSl_map, -aload_vptr, -aload_vptrT, -astore_vptr, m13_l5, t13_l5, r13_b2]
theorem r13_l5 (p1 : (List UInt8)) (p2 : (List UInt8)) (r58 : (List Fd)) (i4 : Int) : lpW (m13_l5 KK 0) ([(.str p1), (.str p2), (.bool false), (.slice (Rw Fd.cells r58) .no), (.int .i64 i4)], ([] : Heap)) = tm (lpT (t13_l5 p1 p2 r58) i4) fun r => (r.1.ex, [(.str p1), (.str p2), (.bool false), (.slice (Rw Fd.cells r58) .no), (.int .i64 r.2)], ([] : Heap)) := by
  exact lpW_t (enc := fun s59 => ([(.str p1), (.str p2), (.bool false), (.slice (Rw Fd.cells r58) .no), (.int .i64 s59)], ([] : Heap))) (fun s59 => b13_l5 p1 p2 r58 s59) i4
def m13_s1 (K : CallO) (t52 : AVal) (h51 : Heap) (a0 : AVal) (a1 : AVal) (a2 : AVal) : Option R :=
  acond t52 (some (.ret, [(.bool false)], h51)) (ca (K 23 [(AVal.untok a0)] h51) fun t56 h57 => (lpW (m13_l5 K (List.length h57)) ([a1, a2, (.bool false), t56, (.int .i64 0)], h57)).bind fun r143 => (fun x1v145 x2v146 x6v147 x9v148 x10v149 h150 => Ex.thenDo r143.1 none (fun e144 => Ex.inBlock 0 e144 (some (.ret, [(.bool true)], h150)) (fun e151 => some (e151, [x6v147], h150)))) (gd r143.2.1 0) (gd r143.2.1 1) (gd r143.2.1 2) (gd r143.2.1 3) (gd r143.2.1 4) r143.2.2)
def t13_s1 (w55 : Bool) (p0 : (List Fd)) (p1 : (List UInt8)) (p2 : (List UInt8)) : Option (Bool) :=
  tc w55 (some false) (tb ((t23 p0)) fun r58 => tb (lpT (t13_l5 p1 p2 r58) 0) fun r143 => exT r143.1 none fun e144 => ibT 0 e144 (some true) fun e151 => efT e151 (some false))
theorem r13_s1 (w55 : Bool) (p0 : (List Fd)) (p1 : (List UInt8)) (p2 : (List UInt8)) : ((m13_s1 KK (.bool w55) ([] : Heap) (.slice (Rw Fd.cells p0) .no) (.str p1) (.str p2))).bind (m13_k 0) = tm (t13_s1 w55 p0 p1 p2) fun r => (.ret (.bool r), []) := by
  simp +contextual -implicitDefEqProofs (maxSteps := 2000000) [-acond_bool, -guardSel_true, -guardSel_false, -aindexSl_map, -aload_vptr, -aload_vptrT, -astore_vptr, m13_s1, t13_s1, r6, r23, r13_l5, m13_k]
def m13_s0 (K : CallO) (t36 : AVal) (a2 : AVal) (h35 : Heap) (t23 : AVal) (a0 : AVal) (a1 : AVal) : Option R :=
  gS false t36 (kv0 a2 h35) h35 fun t42 h43 => gS false t36 ((alenStr t42).bind fun t44 => kv0 t44 h43) h43 fun t45 h46 => gS false t36 (kv0 t23 h46) h46 fun t47 h48 => gS false t36 (bo .neq t45 t47 fun t49 => kv0 t49 h48) h48 fun t50 h51 => (apick t36 (.bool true) t50).bind fun t52 => m13_s1 K t52 h51 a0 a1 a2
def t13_s0 (w39 : Bool) (p2 : (List UInt8)) (w40 : Int) (p0 : (List Fd)) (p1 : (List UInt8)) : Option (Bool) :=
  tc w39 (t13_s1 true p0 p1 p2) (t13_s1 (!decide (((p2.length : Nat) : Int) = w40)) p0 p1 p2)
theorem r13_s0 (w39 : Bool) (p2 : (List UInt8)) (w40 : Int) (p0 : (List Fd)) (p1 : (List UInt8)) : ((m13_s0 KK (.bool w39) (.str p2) ([] : Heap) (.int .i64 w40) (.slice (Rw Fd.cells p0) .no) (.str p1))).bind (m13_k 0) = tm (t13_s0 w39 p2 w40 p0 p1) fun r => (.ret (.bool r), []) := by
  simp +contextual -implicitDefEqProofs (maxSteps := 2000000) [-acond_bool, -guardSel_true, -guardSel_false, -aindexSl_map, -aload_vptr, -aload_vptrT, -astore_vptr, m13_s0, t13_s0, r6, r23, r13_l5, m13_k, r13_s1]
def m13 (K : CallO) (a0 a1 a2 : AVal) (h0 : Heap) : Option (Res × Heap) :=
  (ca (K 6 [(AVal.untok a0)] h0) fun t20 h21 => (aextract 0 t20).bind fun t23 => (aextract 1 t20).bind fun t24 => bo .lss t23 (.int .i64 0) fun t25 => gS false t25 (kv0 a1 h21) h21 fun t26 h27 => gS false t25 ((alenStr t26).bind fun t28 => kv0 t28 h27) h27 fun t29 h30 => gS false t25 (kv0 t23 h30) h30 fun t31 h32 => gS false t25 (bo .neq t29 t31 fun t33 => kv0 t33 h32) h32 fun t34 h35 => (apick t25 (.bool true) t34).bind fun t36 => m13_s0 K t36 a2 h35 t23 a0 a1).bind (m13_k (List.length h0))
theorem m13_eq (K : CallO) (a0 a1 a2 : AVal) (h0 : Heap) : evB Tryz.prog ann lpW K 13 [a0, a1, a2] h0 = m13 (callP ann K) a0 a1 a2 h0 := by kernel_rfl
def t13 (p0 : (List Fd)) (p1 : (List UInt8)) (p2 : (List UInt8)) : Option (Bool) :=
  tb ((t6 p0)) fun r22 => tc (decide (r22.1 < 0)) (t13_s0 true p2 r22.1 p0 p1) (t13_s0 (!decide (((p1.length : Nat) : Int) = r22.1)) p2 r22.1 p0 p1)
theorem b13 (p0 : (List Fd)) (p1 : (List UInt8)) (p2 : (List UInt8)) : m13 KK (.slice (Rw Fd.cells p0) .no) (.str p1) (.str p2) [] = tm (t13 p0 p1 p2) fun r => (.ret (.bool r), []) := by
  simp +contextual -implicitDefEqProofs (maxSteps := 2000000) [-acond_bool, -guardSel_true, -guardSel_false, -aindexSl_map, -aload_vptr, -aload_vptrT, -astore_vptr, m13, t13, r6, r23, r13_l5, m13_k, r13_s1, r13_s0]
theorem r13 (p0 : (List Fd)) (p1 : (List UInt8)) (p2 : (List UInt8)) (h : Heap) : KK 13 [(.slice (Rw Fd.cells p0) .no), (.str p1), (.str p2)] h = tm (t13 p0 p1 p2) fun r => (.ret (.bool r), h) := call_t rfl rfl (m13_eq ..) (b13 p0 p1 p2)

/- hauberk/hauberkref15.Unpack -/
def m10_k (mm : Nat) (r135 : R) : Option (Res × Heap) :=
  (fun x4v136 x5v137 h138 => Ex.endF r135.1 (finR mm (.tuple [x4v136, x5v137]) h138)) (gd r135.2.1 0) (gd r135.2.1 1) r135.2.2
theorem bs10_2 (y0 : Int) (h : Heap) : abuildSlice 1 1 [(.int .i64 0)] [(0, (.int .i64 y0))] h = some (.slice (Rw (ci .i64) [y0]) (.own h.length), h ++ [FRs 1 1]) := by
  rfl
def m10_l3 (K : CallO) (m : Nat) (s : List AVal × Heap) : Option R :=
  (fun x0v71 x1v72 x4v73 x5v74 x8v75 x9v76 x10v77 x11v78 h79 => ix 7 x0v71 x9v76 fun t80 => fa 1 t80 fun t82 => fa 1 t82 fun t83 => ld false 1 h79 t83 fun t84 => bo .lss x11v78 t84 fun t85 => acond t85 (ix 7 x0v71 x9v76 fun t86 => ld true 7 h79 t86 fun t88 => ca (K 28 [(AVal.untok t88), (AVal.untok x1v72), (AVal.untok x11v78)] h79) fun t89 h90 => bindVH (abuildSlice 1 1 [(.int .i64 0)] [(0, t89)] h90) fun t92 h93 => bindVH (aappend 1 8 h93 x10v77 t92) fun t94 h95 => bo .add x11v78 (.int .i64 1) fun t97 => endR m .normal [x0v71, x1v72, x4v73, x5v74, x8v75, x9v76, t94, t97] h95) (endR m (.exit 2) [x0v71, x1v72, x4v73, x5v74, x8v75, x9v76, x10v77, x11v78] h79)) (gd s.1 0) (gd s.1 1) (gd s.1 2) (gd s.1 3) (gd s.1 4) (gd s.1 5) (gd s.1 6) (gd s.1 7) s.2
def t10_l3 (p0 : (List Fd)) (p1 : (List UInt8)) (w59 : Int) (s70 : (List Int) × Int) : Option (Ey × (List Int) × Int) :=
  tb ((tidx p0 w59)) fun u81 => tc (decide (s70.2 < u81.ty.len)) (tb ((tidx p0 w59)) fun u87 => tb ((t28 u87 p1 s70.2)) fun r91 => tb ((tapp 8 s70.1 [r91])) fun l96 => some (.n, (l96, (IntKind.wrap .i64 (s70.2 + 1))))) (some ((.x 2), (s70.1, s70.2)))
theorem b10_l3 (p0 : (List Fd)) (p1 : (List UInt8)) (w58 : (List (List Int))) (w59 : Int) (s70 : (List Int) × Int) : m10_l3 KK 3 ([(.slice (Rw Fd.cells p0) .no), (.str p1), (.slice (Rw (csl (ci .i64)) []) (.own 0)), (.int .i64 0), (.slice (Rw (csl (ci .i64)) w58) (.own 1)), (.int .i64 w59), (.slice (Rw (ci .i64) s70.1) (.own 2)), (.int .i64 s70.2)], ([.front 0 0, FRs 1 (List.length w58), FRs 1 (List.length s70.1)] : Heap)) = tm (t10_l3 p0 p1 w59 s70) fun r => (r.1.ex, [(.slice (Rw Fd.cells p0) .no), (.str p1), (.slice (Rw (csl (ci .i64)) []) (.own 0)), (.int .i64 0), (.slice (Rw (csl (ci .i64)) w58) (.own 1)), (.int .i64 w59), (.slice (Rw (ci .i64) r.2.1) (.own 2)), (.int .i64 r.2.2)], ([.front 0 0, FRs 1 (List.length w58), FRs 1 (List.length r.2.1)] : Heap)) := by
  simp +contextual -implicitDefEqProofs (maxSteps := 2000000) [-acond_bool, -guardSel_true, -guardSel_false, -aindexSl_map, -aload_vptr, -aload_vptrT, -astore_vptr, m10_l3, t10_l3, r28, bs10_2]
theorem r10_l3 (p0 : (List Fd)) (p1 : (List UInt8)) (w58 : (List (List Int))) (w59 : Int) (i7 : Int) (n1 : Nat) (hn1 : n1 = (List.length w58)) : lpW (m10_l3 KK 3) ([(.slice (Rw Fd.cells p0) .no), (.str p1), (.slice (Rw (csl (ci .i64)) []) (.own 0)), (.int .i64 0), (.slice (Rw (csl (ci .i64)) w58) (.own 1)), (.int .i64 w59), (.slice (Rw (ci .i64) []) (.own 2)), (.int .i64 i7)], ([.front 0 0, FRs 1 n1, .front 0 0] : Heap)) = tm (lpT (t10_l3 p0 p1 w59) ([], i7)) fun r => (r.1.ex, [(.slice (Rw Fd.cells p0) .no), (.str p1), (.slice (Rw (csl (ci .i64)) []) (.own 0)), (.int .i64 0), (.slice (Rw (csl (ci .i64)) w58) (.own 1)), (.int .i64 w59), (.slice (Rw (ci .i64) r.2.1) (.own 2)), (.int .i64 r.2.2)], ([.front 0 0, FRs 1 (List.length w58), FRs 1 (List.length r.2.1)] : Heap)) := by
  subst hn1; exact lpW_t (enc := fun s70 => ([(.slice (Rw Fd.cells p0) .no), (.str p1), (.slice (Rw (csl (ci .i64)) []) (.own 0)), (.int .i64 0), (.slice (Rw (csl (ci .i64)) w58) (.own 1)), (.int .i64 w59), (.slice (Rw (ci .i64) s70.1) (.own 2)), (.int .i64 s70.2)], ([.front 0 0, FRs 1 (List.length w58), FRs 1 (List.length s70.1)] : Heap))) (fun s70 => b10_l3 p0 p1 w58 w59 s70) ([], i7)
theorem bs10_4 (y0 : List Int) (h : Heap) : abuildSlice 1 1 [(.slice (Rw (ci .i64) []) .nil)] [(0, (.slice (Rw (ci .i64) y0) (.own 2)))] h = some (.slice (Rw (csl (ci .i64)) [y0]) (.own h.length), h ++ [FRs 1 1]) := by
  rfl
def m10_b1 (K : CallO) (m : Nat) (x0v49 : AVal) (x9v54 : AVal) (h55 : Heap) (x1v50 : AVal) (x4v51 : AVal) (x5v52 : AVal) (x8v53 : AVal) : Option R :=
  ix 7 x0v49 x9v54 fun t62 => fa 4 t62 fun t64 => ld false 1 h55 t64 fun t65 => (aun .not t65).bind fun t66 => acond t66 (endR m (.exit 1) [x0v49, x1v50, x4v51, x5v52, x8v53, x9v54] h55) ((fun (t68 : AVal) (h67 : Heap) => (lpW (m10_l3 K (List.length h67)) ([x0v49, x1v50, x4v51, x5v52, x8v53, x9v54, t68, (.int .i64 0)], h67)).bind fun r98 => (fun x0v100 x1v101 x4v102 x5v103 x8v104 x9v105 x10v106 x11v107 h108 => Ex.thenDo r98.1 none (fun e99 => Ex.inBlock 2 e99 (bindVH (abuildSlice 1 1 [(.slice (Rw (ci .i64) []) .nil)] [(0, x10v106)] h108) fun t110 h111 => bindVH (aappend 1 24 h111 x8v104 t110) fun t112 h113 => endR m .normal [x0v100, x1v101, x4v102, x5v103, t112, x9v105] h113) (fun e109 => endR m e109 [x0v100, x1v101, x4v102, x5v103, x8v104, x9v105] h108))) (gd r98.2.1 0) (gd r98.2.1 1) (gd r98.2.1 2) (gd r98.2.1 3) (gd r98.2.1 4) (gd r98.2.1 5) (gd r98.2.1 6) (gd r98.2.1 7) r98.2.2) (.slice (Rw (ci .i64) []) (.own (List.length h55))) (h55 ++ [.front 0 0]))
def t10_b1 (p0 : (List Fd)) (w59 : Int) (w58 : (List (List Int))) (p1 : (List UInt8)) : Option (Ey × (List (List Int))) :=
  tb ((tidx p0 w59)) fun u63 => tc (!u63.out) (some ((.x 1), w58)) (tb (lpT (t10_l3 p0 p1 w59) ([], 0)) fun r98 => exT r98.1 none fun e99 => ibT 2 e99 (tb ((tapp 24 w58 [r98.2.1])) fun l114 => some (.n, l114)) fun e109 => some (e109, w58))
theorem r10_b1 (p0 : (List Fd)) (w59 : Int) (w58 : (List (List Int))) (p1 : (List UInt8)) : (m10_b1 KK 2 (.slice (Rw Fd.cells p0) .no) (.int .i64 w59) ([.front 0 0, FRs 1 (List.length w58)] : Heap) (.str p1) (.slice (Rw (csl (ci .i64)) []) (.own 0)) (.int .i64 0) (.slice (Rw (csl (ci .i64)) w58) (.own 1))) = tm (t10_b1 p0 w59 w58 p1) fun r => (r.1.ex, [(.slice (Rw Fd.cells p0) .no), (.str p1), (.slice (Rw (csl (ci .i64)) []) (.own 0)), (.int .i64 0), (.slice (Rw (csl (ci .i64)) r.2) (.own 1)), (.int .i64 w59)], ([.front 0 0, FRs 1 (List.length r.2)] : Heap)) := by
  simp +contextual -implicitDefEqProofs (maxSteps := 2000000) [-acond_bool, -guardSel_true, -guardSel_false, -aindexSl_map, -aload_vptr, -aload_vptrT, -astore_vptr, m10_b1, t10_b1, r10_l3, bs10_4]
def m10_l5 (K : CallO) (m : Nat) (s : List AVal × Heap) : Option R :=
  (fun x0v49 x1v50 x4v51 x5v52 x8v53 x9v54 h55 => ln x0v49 fun t56 => bo .lss x9v54 t56 fun t57 => acond t57 ((m10_b1 K (List.length h55) x0v49 x9v54 h55 x1v50 x4v51 x5v52 x8v53).bind fun r115 => (fun x0v116 x1v117 x4v118 x5v119 x8v120 x9v121 h122 => Ex.inBlock 1 r115.1 (bo .add x9v121 (.int .i64 1) fun t124 => endR m .normal [x0v116, x1v117, x4v118, x5v119, x8v120, t124] h122) (fun e123 => endR m e123 [x0v116, x1v117, x4v118, x5v119, x8v120, x9v121] h122)) (gd r115.2.1 0) (gd r115.2.1 1) (gd r115.2.1 2) (gd r115.2.1 3) (gd r115.2.1 4) (gd r115.2.1 5) r115.2.2) (endR m (.exit 0) [x0v49, x1v50, x4v51, x5v52, x8v53, x9v54] h55)) (gd s.1 0) (gd s.1 1) (gd s.1 2) (gd s.1 3) (gd s.1 4) (gd s.1 5) s.2
def t10_l5 (p0 : (List Fd)) (p1 : (List UInt8)) (s48 : (List (List Int)) × Int) : Option (Ey × (List (List Int)) × Int) :=
  tc (decide (s48.2 < ((List.length p0 : Nat) : Int))) (tb (t10_b1 p0 s48.2 s48.1 p1) fun r115 => ibT 1 r115.1 (some (.n, (r115.2, (IntKind.wrap .i64 (s48.2 + 1))))) fun e123 => some (e123, (r115.2, s48.2))) (some ((.x 0), (s48.1, s48.2)))
theorem b10_l5 (p0 : (List Fd)) (p1 : (List UInt8)) (s48 : (List (List Int)) × Int) : m10_l5 KK 2 ([(.slice (Rw Fd.cells p0) .no), (.str p1), (.slice (Rw (csl (ci .i64)) []) (.own 0)), (.int .i64 0), (.slice (Rw (csl (ci .i64)) s48.1) (.own 1)), (.int .i64 s48.2)], ([.front 0 0, FRs 1 (List.length s48.1)] : Heap)) = tm (t10_l5 p0 p1 s48) fun r => (r.1.ex, [(.slice (Rw Fd.cells p0) .no), (.str p1), (.slice (Rw (csl (ci .i64)) []) (.own 0)), (.int .i64 0), (.slice (Rw (csl (ci .i64)) r.2.1) (.own 1)), (.int .i64 r.2.2)], ([.front 0 0, FRs 1 (List.length r.2.1)] : Heap)) := by
  simp +contextual -implicitDefEqProofs (maxSteps := 2000000) [-acond_bool, -guardSel_true, -guardSel_false, -aindexSl_map, -aload_vptr, -aload_vptrT, -astore_vptr, m10_l5, t10_l5, r10_b1]
theorem r10_l5 (p0 : (List Fd)) (p1 : (List UInt8)) (i5 : Int) : lpW (m10_l5 KK 2) ([(.slice (Rw Fd.cells p0) .no), (.str p1), (.slice (Rw (csl (ci .i64)) []) (.own 0)), (.int .i64 0), (.slice (Rw (csl (ci .i64)) []) (.own 1)), (.int .i64 i5)], ([.front 0 0, .front 0 0] : Heap)) = tm (lpT (t10_l5 p0 p1) ([], i5)) fun r => (r.1.ex, [(.slice (Rw Fd.cells p0) .no), (.str p1), (.slice (Rw (csl (ci .i64)) []) (.own 0)), (.int .i64 0), (.slice (Rw (csl (ci .i64)) r.2.1) (.own 1)), (.int .i64 r.2.2)], ([.front 0 0, FRs 1 (List.length r.2.1)] : Heap)) := by
  exact lpW_t (enc := fun s48 => ([(.slice (Rw Fd.cells p0) .no), (.str p1), (.slice (Rw (csl (ci .i64)) []) (.own 0)), (.int .i64 0), (.slice (Rw (csl (ci .i64)) s48.1) (.own 1)), (.int .i64 s48.2)], ([.front 0 0, FRs 1 (List.length s48.1)] : Heap))) (fun s48 => b10_l5 p0 p1 s48) ([], i5)
def m10_s0 (K : CallO) (t38 : AVal) (h37 : Heap) (a0 : AVal) (a1 : AVal) (t21 : AVal) : Option R :=
  acond t38 ((fun (t45 : AVal) (h44 : Heap) => some (.ret, [t45, (.int .i64 2)], h44)) (.slice (Rw (csl (ci .i64)) []) (.own (List.length h37))) (h37 ++ [.front 0 0])) ((fun (t47 : AVal) (h46 : Heap) => (lpW (m10_l5 K (List.length h46)) ([a0, a1, t21, (.int .i64 0), t47, (.int .i64 0)], h46)).bind fun r125 => (fun x0v127 x1v128 x4v129 x5v130 x8v131 x9v132 h133 => Ex.thenDo r125.1 none (fun e126 => Ex.inBlock 0 e126 (some (.ret, [x8v131, (.int .i64 0)], h133)) (fun e134 => some (e134, [x4v129, x5v130], h133)))) (gd r125.2.1 0) (gd r125.2.1 1) (gd r125.2.1 2) (gd r125.2.1 3) (gd r125.2.1 4) (gd r125.2.1 5) r125.2.2) (.slice (Rw (csl (ci .i64)) []) (.own (List.length h37))) (h37 ++ [.front 0 0]))
def t10_s0 (w41 : Bool) (p0 : (List Fd)) (p1 : (List UInt8)) : Option ((List (List Int)) × Int) :=
  tc w41 (some ([], 2)) (tb (lpT (t10_l5 p0 p1) ([], 0)) fun r125 => exT r125.1 none fun e126 => ibT 0 e126 (some (r125.2.1, 0)) fun e134 => efT e134 (some ([], 0)))
theorem r10_s0 (w41 : Bool) (p0 : (List Fd)) (p1 : (List UInt8)) : ((m10_s0 KK (.bool w41) ([.front 0 0] : Heap) (.slice (Rw Fd.cells p0) .no) (.str p1) (.slice (Rw (csl (ci .i64)) []) (.own 0)))).bind (m10_k 0) = tm (t10_s0 w41 p0 p1) fun r => (.ret (.tuple [(.slice (Rw (csl (ci .i64)) r.1) .no), (.int .i64 r.2)]), []) := by
  simp +contextual -implicitDefEqProofs (maxSteps := 2000000) [-acond_bool, -guardSel_true, -guardSel_false, -aindexSl_map, -aload_vptr, -aload_vptrT, -astore_vptr, m10_s0, t10_s0, r6, r10_l5, m10_k]
def m10 (K : CallO) (a0 a1 : AVal) (h0 : Heap) : Option (Res × Heap) :=
  ((fun (t21 : AVal) (h20 : Heap) => ca (K 6 [(AVal.untok a0)] h20) fun t22 h23 => (aextract 0 t22).bind fun t25 => (aextract 1 t22).bind fun t26 => bo .lss t26 (.int .i64 0) fun t27 => gS false t27 (kv0 t26 h23) h23 fun t28 h29 => gS false t27 (kv0 a1 h29) h29 fun t30 h31 => gS false t27 ((alenStr t30).bind fun t32 => kv0 t32 h31) h31 fun t33 h34 => gS false t27 (bo .neq t28 t33 fun t35 => kv0 t35 h34) h34 fun t36 h37 => (apick t27 (.bool true) t36).bind fun t38 => m10_s0 K t38 h37 a0 a1 t21) (.slice (Rw (csl (ci .i64)) []) (.own (List.length h0))) (h0 ++ [.front 0 0])).bind (m10_k (List.length h0))
theorem m10_eq (K : CallO) (a0 a1 : AVal) (h0 : Heap) : evB Tryz.prog ann lpW K 10 [a0, a1] h0 = m10 (callP ann K) a0 a1 h0 := by kernel_rfl
def t10 (p0 : (List Fd)) (p1 : (List UInt8)) : Option ((List (List Int)) × Int) :=
  tb ((t6 p0)) fun r24 => tc (decide (r24.2 < 0)) (t10_s0 true p0 p1) (t10_s0 (!decide (r24.2 = ((p1.length : Nat) : Int))) p0 p1)
theorem b10 (p0 : (List Fd)) (p1 : (List UInt8)) : m10 KK (.slice (Rw Fd.cells p0) .no) (.str p1) [] = tm (t10 p0 p1) fun r => (.ret (.tuple [(.slice (Rw (csl (ci .i64)) r.1) .no), (.int .i64 r.2)]), []) := by
  simp +contextual -implicitDefEqProofs (maxSteps := 2000000) [-acond_bool, -guardSel_true, -guardSel_false, -aindexSl_map, -aload_vptr, -aload_vptrT, -astore_vptr, m10, t10, r6, r10_l5, m10_k, r10_s0]
theorem r10 (p0 : (List Fd)) (p1 : (List UInt8)) (h : Heap) : KK 10 [(.slice (Rw Fd.cells p0) .no), (.str p1)] h = tm (t10 p0 p1) fun r => (.ret (.tuple [(.slice (Rw (csl (ci .i64)) r.1) .no), (.int .i64 r.2)]), h) := call_t rfl rfl (m10_eq ..) (b10 p0 p1)

/- hauberk/shape.elements -/
def m27_k (mm : Nat) (r80 : R) : Option (Res × Heap) :=
  (fun x4v81 h82 => Ex.endF r80.1 (finR mm x4v81 h82)) (gd r80.2.1 0) r80.2.2
theorem bs27_0 (y0 : Int) (h : Heap) : abuildSlice 1 1 [(.int .i64 0)] [(0, (.int .i64 y0))] h = some (.slice (Rw (ci .i64) [y0]) (.own h.length), h ++ [FRs 1 1]) := by
  rfl
def m27_l1 (K : CallO) (m : Nat) (s : List AVal × Heap) : Option R :=
  (fun x1v37 x2v38 x4v39 x5v40 x6v41 x16v42 x17v43 h44 => bo .lss x17v43 x16v42 fun t45 => acond t45 (fa 5 x2v38 fun t46 => ld false 1 h44 t46 fun t47 => bo .mul x17v43 x6v41 fun t48 => bo .add t47 t48 fun t49 => bo .add t49 x6v41 fun t50 => (asliceStr x1v37 (some t49) (some t50)).bind fun t51 => bo .sub (.int .i64 4) x6v41 fun t53 => (asliceStr (.str [0, 0, 0]) none (some t53)).bind fun t54 => bo .add t51 t54 fun t56 => ca (K 40 [(AVal.untok t56)] h44) fun t58 h59 => (aextract 0 t58).bind fun t61 => (aextract 1 t58).bind fun t62 => bindVH (abuildSlice 1 1 [(.int .i64 0)] [(0, t61)] h59) fun t63 h64 => bindVH (aappend 1 8 h64 x5v40 t63) fun t65 h66 => bo .add x17v43 (.int .i64 1) fun t68 => endR m .normal [x1v37, x2v38, x4v39, t65, x6v41, x16v42, t68] h66) (endR m (.exit 0) [x1v37, x2v38, x4v39, x5v40, x6v41, x16v42, x17v43] h44)) (gd s.1 0) (gd s.1 1) (gd s.1 2) (gd s.1 3) (gd s.1 4) (gd s.1 5) (gd s.1 6) s.2
def t27_l1 (p1 : (List UInt8)) (r30 : Int) (r35 : Int) (p0 : Fd) (s36 : (List Int) × Int) : Option (Ey × (List Int) × Int) :=
  tc (decide (s36.2 < r35)) (tb ((tsub p1 (some (IntKind.wrap .i64 (p0.off + (IntKind.wrap .i64 (s36.2 * r30))))) (some (IntKind.wrap .i64 ((IntKind.wrap .i64 (p0.off + (IntKind.wrap .i64 (s36.2 * r30)))) + r30))))) fun n52 => tb ((tsub [0, 0, 0] none (some (IntKind.wrap .i64 (4 - r30))))) fun n55 => tb ((tcat n52 n55)) fun n57 => tb ((t40 n57)) fun r60 => tb ((tapp 8 s36.1 [r60.1])) fun l67 => some (.n, (l67, (IntKind.wrap .i64 (s36.2 + 1))))) (some ((.x 0), (s36.1, s36.2)))
theorem b27_l1 (p1 : (List UInt8)) (r30 : Int) (r35 : Int) (p0 : Fd) (s36 : (List Int) × Int) : m27_l1 KK 3 ([(.str p1), (.ptr 0 0), (.slice (Rw (ci .i64) []) (.own 1)), (.slice (Rw (ci .i64) s36.1) (.own 2)), (.int .i64 r30), (.int .i64 r35), (.int .i64 s36.2)], ([.cells [(.str p0.name), (.int .i64 p0.ty.elem), (.int .i64 p0.ty.len), (.int .i64 p0.ty.lab), (.bool p0.out), (.int .i64 p0.off), (.int .i64 p0.size)], .front 0 0, FRs 1 (List.length s36.1)] : Heap)) = tm (t27_l1 p1 r30 r35 p0 s36) fun r => (r.1.ex, [(.str p1), (.ptr 0 0), (.slice (Rw (ci .i64) []) (.own 1)), (.slice (Rw (ci .i64) r.2.1) (.own 2)), (.int .i64 r30), (.int .i64 r35), (.int .i64 r.2.2)], ([.cells [(.str p0.name), (.int .i64 p0.ty.elem), (.int .i64 p0.ty.len), (.int .i64 p0.ty.lab), (.bool p0.out), (.int .i64 p0.off), (.int .i64 p0.size)], .front 0 0, FRs 1 (List.length r.2.1)] : Heap)) := by
  simp +contextual -implicitDefEqProofs (maxSteps := 2000000) [-acond_bool, -guardSel_true, -guardSel_false, -aindexSl_map, -aload_vptr, -aload_vptrT, -astore_vptr, m27_l1, t27_l1, r40, bs27_0]
theorem r27_l1 (p1 : (List UInt8)) (r30 : Int) (r35 : Int) (p0 : Fd) (i5 : Int) : lpW (m27_l1 KK 3) ([(.str p1), (.ptr 0 0), (.slice (Rw (ci .i64) []) (.own 1)), (.slice (Rw (ci .i64) []) (.own 2)), (.int .i64 r30), (.int .i64 r35), (.int .i64 i5)], ([.cells [(.str p0.name), (.int .i64 p0.ty.elem), (.int .i64 p0.ty.len), (.int .i64 p0.ty.lab), (.bool p0.out), (.int .i64 p0.off), (.int .i64 p0.size)], .front 0 0, .front 0 0] : Heap)) = tm (lpT (t27_l1 p1 r30 r35 p0) ([], i5)) fun r => (r.1.ex, [(.str p1), (.ptr 0 0), (.slice (Rw (ci .i64) []) (.own 1)), (.slice (Rw (ci .i64) r.2.1) (.own 2)), (.int .i64 r30), (.int .i64 r35), (.int .i64 r.2.2)], ([.cells [(.str p0.name), (.int .i64 p0.ty.elem), (.int .i64 p0.ty.len), (.int .i64 p0.ty.lab), (.bool p0.out), (.int .i64 p0.off), (.int .i64 p0.size)], .front 0 0, FRs 1 (List.length r.2.1)] : Heap)) := by
  exact lpW_t (enc := fun s36 => ([(.str p1), (.ptr 0 0), (.slice (Rw (ci .i64) []) (.own 1)), (.slice (Rw (ci .i64) s36.1) (.own 2)), (.int .i64 r30), (.int .i64 r35), (.int .i64 s36.2)], ([.cells [(.str p0.name), (.int .i64 p0.ty.elem), (.int .i64 p0.ty.len), (.int .i64 p0.ty.lab), (.bool p0.out), (.int .i64 p0.off), (.int .i64 p0.size)], .front 0 0, FRs 1 (List.length s36.1)] : Heap))) (fun s36 => b27_l1 p1 r30 r35 p0 s36) ([], i5)
def m27 (K : CallO) (a0 a1 : AVal) (h0 : Heap) : Option (Res × Heap) :=
  (bindVH (anew 7 h0 a0) fun t20 h21 => (fun (t23 : AVal) (h22 : Heap) => (fun (t25 : AVal) (h24 : Heap) => fa 1 t20 fun t26 => ld true 3 h24 t26 fun t27 => ca (K 29 [(AVal.untok t27)] h24) fun t28 h29 => fa 1 t20 fun t31 => ld true 3 h29 t31 fun t32 => ca (K 19 [(AVal.untok t32)] h29) fun t33 h34 => (lpW (m27_l1 K (List.length h34)) ([a1, t20, t23, t25, t28, t33, (.int .i64 0)], h34)).bind fun r69 => (fun x1v71 x2v72 x4v73 x5v74 x6v75 x16v76 x17v77 h78 => Ex.thenDo r69.1 none (fun e70 => Ex.inBlock 0 e70 (some (.ret, [x5v74], h78)) (fun e79 => some (e79, [x4v73], h78)))) (gd r69.2.1 0) (gd r69.2.1 1) (gd r69.2.1 2) (gd r69.2.1 3) (gd r69.2.1 4) (gd r69.2.1 5) (gd r69.2.1 6) r69.2.2) (.slice (Rw (ci .i64) []) (.own (List.length h22))) (h22 ++ [.front 0 0])) (.slice (Rw (ci .i64) []) (.own (List.length h21))) (h21 ++ [.front 0 0])).bind (m27_k (List.length h0))
theorem m27_eq (K : CallO) (a0 a1 : AVal) (h0 : Heap) : evB Tryz.prog ann lpW K 27 [a0, a1] h0 = m27 (callP ann K) a0 a1 h0 := by kernel_rfl
def t27 (p0 : Fd) (p1 : (List UInt8)) : Option ((List Int)) :=
  tb ((t29 p0.ty)) fun r30 => tb ((t19 p0.ty)) fun r35 => tb (lpT (t27_l1 p1 r30 r35 p0) ([], 0)) fun r69 => exT r69.1 none fun e70 => ibT 0 e70 (some r69.2.1) fun e79 => efT e79 (some [])
theorem b27 (p0 : Fd) (p1 : (List UInt8)) : m27 KK (.agg [(.str p0.name), (.int .i64 p0.ty.elem), (.int .i64 p0.ty.len), (.int .i64 p0.ty.lab), (.bool p0.out), (.int .i64 p0.off), (.int .i64 p0.size)]) (.str p1) [] = tm (t27 p0 p1) fun r => (.ret (.slice (Rw (ci .i64) r) .no), []) := by
  simp +contextual -implicitDefEqProofs (maxSteps := 2000000) [-acond_bool, -guardSel_true, -guardSel_false, -aindexSl_map, -aload_vptr, -aload_vptrT, -astore_vptr, m27, t27, r29, r19, r27_l1, m27_k]
theorem r27 (p0 : Fd) (p1 : (List UInt8)) (h : Heap) : KK 27 [(.agg [(.str p0.name), (.int .i64 p0.ty.elem), (.int .i64 p0.ty.len), (.int .i64 p0.ty.lab), (.bool p0.out), (.int .i64 p0.off), (.int .i64 p0.size)]), (.str p1)] h = tm (t27 p0 p1) fun r => (.ret (.slice (Rw (ci .i64) r) .no), h) := call_t rfl rfl (m27_eq ..) (b27 p0 p1)
theorem r27x (x0_0 : List UInt8) (x0_1 : Int) (x0_2 : Int) (x0_3 : Int) (x0_4 : Bool) (x0_5 : Int) (x0_6 : Int) (p1 : (List UInt8)) (h : Heap) : KK 27 [(.agg [(.str x0_0), (.int .i64 x0_1), (.int .i64 x0_2), (.int .i64 x0_3), (.bool x0_4), (.int .i64 x0_5), (.int .i64 x0_6)]), (.str p1)] h = tm (t27 (⟨x0_0, (⟨x0_1, x0_2, x0_3⟩ : Ty), x0_4, x0_5, x0_6⟩ : Fd) p1) fun r => (.ret (.slice (Rw (ci .i64) r) .no), h) := r27 (⟨x0_0, (⟨x0_1, x0_2, x0_3⟩ : Ty), x0_4, x0_5, x0_6⟩ : Fd) p1 h

/- hauberk/hauberkref15.Pack -/
def m8_k (mm : Nat) (r196 : R) : Option (Res × Heap) :=
  (fun x4v197 x5v198 h199 => Ex.endF r196.1 (finR mm (.tuple [x4v197, x5v198]) h199)) (gd r196.2.1 0) (gd r196.2.1 1) r196.2.2
theorem mk8_0 (n : Int) (h : Heap) : amakeSliceV 1 1 [(.int .u8 0)] (.int .i64 n) h = tm (tmk 1 (0 : Int) n) fun l => (.vslice h.length l.length 0 l.length 1, h ++ [Vc (ci .u8) 1 l]) := amakeSliceV_t rfl
theorem sv8_3 (y0 : Int) (h : Heap) (id tot j : Nat) (xs : List Int) : vst 1 id h (some (Vc (ci .u8) 1 xs)) tot j (.int .u8 y0) = tb (tvg tot xs j) fun x => tm (tvs tot xs j y0) fun zs => h.set id (Vc (ci .u8) 1 zs) := vst_E1 (enc := (ci .u8)) y0 (fun _ => rfl) rfl rfl
def m8_l4 (K : CallO) (m : Nat) (s : List AVal × Heap) : Option R :=
  (fun x1v106 x4v107 x5v108 x8v109 x9v110 x10v111 x11v112 x12v113 x13v114 x14v115 h116 => bo .lss x14v115 x11v112 fun t117 => acond t117 (ix 7 x8v109 x10v111 fun t118 => fa 5 t118 fun t120 => ld false 1 h116 t120 fun t121 => bo .mul x12v113 x11v112 fun t122 => bo .add t121 t122 fun t123 => bo .add t123 x14v115 fun t124 => bo .rem x13v114 (.int .i64 256) fun t125 => (aconvInt .u8 t125).bind fun t127 => ix 1 x9v110 t124 fun t128 => (astore 1 h116 t128 t127).bind fun h130 => bo .quo x13v114 (.int .i64 256) fun t133 => bo .add x14v115 (.int .i64 1) fun t135 => endR m .normal [x1v106, x4v107, x5v108, x8v109, x9v110, x10v111, x11v112, x12v113, t133, t135] h130) (endR m (.exit 4) [x1v106, x4v107, x5v108, x8v109, x9v110, x10v111, x11v112, x12v113, x13v114, x14v115] h116)) (gd s.1 0) (gd s.1 1) (gd s.1 2) (gd s.1 3) (gd s.1 4) (gd s.1 5) (gd s.1 6) (gd s.1 7) (gd s.1 8) (gd s.1 9) s.2
def t8_l4 (r28 : (List Fd)) (l34 : (List Int)) (w52 : Int) (r74 : Int) (w92 : Int) (s105 : Int × Int × (List Int)) : Option (Ey × Int × Int × (List Int)) :=
  tc (decide (s105.2.1 < r74)) (tb ((tidx r28 w52)) fun u119 => tb ((trem s105.1 256)) fun n126 => tb ((tin (List.length l34) (IntKind.wrap .i64 ((IntKind.wrap .i64 (u119.off + (IntKind.wrap .i64 (w92 * r74)))) + s105.2.1)))) fun j129 => tb ((tvg (List.length l34) s105.2.2 j129)) fun u131 => tb ((tvs (List.length l34) s105.2.2 j129 (IntKind.wrap .u8 n126))) fun l132 => tb ((tquo .i64 s105.1 256)) fun n134 => some (.n, (n134, (IntKind.wrap .i64 (s105.2.1 + 1)), l132))) (some ((.x 4), (s105.1, s105.2.1, s105.2.2)))
theorem b8_l4 (p1 : (List (List Int))) (w51 : Int) (r28 : (List Fd)) (l34 : (List Int)) (w52 : Int) (r74 : Int) (w92 : Int) (s105 : Int × Int × (List Int)) : m8_l4 KK 1 ([(.slice (Rw (csl (ci .i64)) p1) .no), (.str []), (.int .i64 w51), (.slice (Rw Fd.cells r28) .no), (.vslice 0 (List.length l34) 0 (List.length l34) 1), (.int .i64 w52), (.int .i64 r74), (.int .i64 w92), (.int .i64 s105.1), (.int .i64 s105.2.1)], ([Vc (ci .u8) 1 s105.2.2] : Heap)) = tm (t8_l4 r28 l34 w52 r74 w92 s105) fun r => (r.1.ex, [(.slice (Rw (csl (ci .i64)) p1) .no), (.str []), (.int .i64 w51), (.slice (Rw Fd.cells r28) .no), (.vslice 0 (List.length l34) 0 (List.length l34) 1), (.int .i64 w52), (.int .i64 r74), (.int .i64 w92), (.int .i64 r.2.1), (.int .i64 r.2.2.1)], ([Vc (ci .u8) 1 r.2.2.2] : Heap)) := by
  simp +contextual -implicitDefEqProofs (maxSteps := 2000000) [-acond_bool, -guardSel_true, -guardSel_false, -aindexSl_map, -aload_vptr, -aload_vptrT, -astore_vptr, m8_l4, t8_l4, sv8_3]
theorem r8_l4 (p1 : (List (List Int))) (w51 : Int) (r28 : (List Fd)) (l34 : (List Int)) (w52 : Int) (r74 : Int) (w92 : Int) (i8 : Int) (i9 : Int) (i10 : (List Int)) : lpW (m8_l4 KK 1) ([(.slice (Rw (csl (ci .i64)) p1) .no), (.str []), (.int .i64 w51), (.slice (Rw Fd.cells r28) .no), (.vslice 0 (List.length l34) 0 (List.length l34) 1), (.int .i64 w52), (.int .i64 r74), (.int .i64 w92), (.int .i64 i8), (.int .i64 i9)], ([Vc (ci .u8) 1 i10] : Heap)) = tm (lpT (t8_l4 r28 l34 w52 r74 w92) (i8, i9, i10)) fun r => (r.1.ex, [(.slice (Rw (csl (ci .i64)) p1) .no), (.str []), (.int .i64 w51), (.slice (Rw Fd.cells r28) .no), (.vslice 0 (List.length l34) 0 (List.length l34) 1), (.int .i64 w52), (.int .i64 r74), (.int .i64 w92), (.int .i64 r.2.1), (.int .i64 r.2.2.1)], ([Vc (ci .u8) 1 r.2.2.2] : Heap)) := by
  exact lpW_t (enc := fun s105 => ([(.slice (Rw (csl (ci .i64)) p1) .no), (.str []), (.int .i64 w51), (.slice (Rw Fd.cells r28) .no), (.vslice 0 (List.length l34) 0 (List.length l34) 1), (.int .i64 w52), (.int .i64 r74), (.int .i64 w92), (.int .i64 s105.1), (.int .i64 s105.2.1)], ([Vc (ci .u8) 1 s105.2.2] : Heap))) (fun s105 => b8_l4 p1 w51 r28 l34 w52 r74 w92 s105) (i8, i9, i10)
def m8_b2 (K : CallO) (m : Nat) (x1v78 : AVal) (x10v83 : AVal) (h86 : Heap) (x12v85 : AVal) (x4v79 : AVal) (x5v80 : AVal) (x8v81 : AVal) (x9v82 : AVal) (x11v84 : AVal) : Option R :=
  ix 1 x1v78 x10v83 fun t96 => ld false 1 h86 t96 fun t98 => ix 1 t98 x12v85 fun t99 => ld false 1 h86 t99 fun t101 => ca (K 26 [(AVal.untok t101)] h86) fun t102 h103 => (lpW (m8_l4 K (List.length h103)) ([x1v78, x4v79, x5v80, x8v81, x9v82, x10v83, x11v84, x12v85, t102, (.int .i64 0)], h103)).bind fun r136 => (fun x1v138 x4v139 x5v140 x8v141 x9v142 x10v143 x11v144 x12v145 x13v146 x14v147 h148 => Ex.thenDo r136.1 none (fun e137 => Ex.inBlock 4 e137 (endR m .normal [x1v138, x4v139, x5v140, x8v141, x9v142, x10v143, x11v144, x12v145] h148) (fun e149 => endR m e149 [x1v138, x4v139, x5v140, x8v141, x9v142, x10v143, x11v144, x12v145] h148))) (gd r136.2.1 0) (gd r136.2.1 1) (gd r136.2.1 2) (gd r136.2.1 3) (gd r136.2.1 4) (gd r136.2.1 5) (gd r136.2.1 6) (gd r136.2.1 7) (gd r136.2.1 8) (gd r136.2.1 9) r136.2.2
def t8_b2 (p1 : (List (List Int))) (w52 : Int) (w95 : (List Int)) (w92 : Int) (r28 : (List Fd)) (l34 : (List Int)) (r74 : Int) : Option (Ey × (List Int)) :=
  tb ((tidx p1 w52)) fun u97 => tb ((tidx u97 w92)) fun u100 => tb ((t26 u100)) fun r104 => tb (lpT (t8_l4 r28 l34 w52 r74 w92) (r104, 0, w95)) fun r136 => exT r136.1 none fun e137 => ibT 4 e137 (some (.n, r136.2.2.2)) fun e149 => some (e149, r136.2.2.2)
theorem r8_b2 (p1 : (List (List Int))) (w52 : Int) (w95 : (List Int)) (w92 : Int) (w51 : Int) (r28 : (List Fd)) (l34 : (List Int)) (r74 : Int) : (m8_b2 KK 1 (.slice (Rw (csl (ci .i64)) p1) .no) (.int .i64 w52) ([Vc (ci .u8) 1 w95] : Heap) (.int .i64 w92) (.str []) (.int .i64 w51) (.slice (Rw Fd.cells r28) .no) (.vslice 0 (List.length l34) 0 (List.length l34) 1) (.int .i64 r74)) = tm (t8_b2 p1 w52 w95 w92 r28 l34 r74) fun r => (r.1.ex, [(.slice (Rw (csl (ci .i64)) p1) .no), (.str []), (.int .i64 w51), (.slice (Rw Fd.cells r28) .no), (.vslice 0 (List.length l34) 0 (List.length l34) 1), (.int .i64 w52), (.int .i64 r74), (.int .i64 w92)], ([Vc (ci .u8) 1 r.2] : Heap)) := by
  simp +contextual -implicitDefEqProofs (maxSteps := 2000000) [-acond_bool, -guardSel_true, -guardSel_false, -aindexSl_map, -aload_vptr, -aload_vptrT, -astore_vptr, m8_b2, t8_b2, r26, r8_l4]
def m8_l5 (K : CallO) (m : Nat) (s : List AVal × Heap) : Option R :=
  (fun x1v78 x4v79 x5v80 x8v81 x9v82 x10v83 x11v84 x12v85 h86 => ix 1 x1v78 x10v83 fun t87 => ld false 1 h86 t87 fun t89 => ln t89 fun t90 => bo .lss x12v85 t90 fun t91 => acond t91 ((m8_b2 K (List.length h86) x1v78 x10v83 h86 x12v85 x4v79 x5v80 x8v81 x9v82 x11v84).bind fun r150 => (fun x1v151 x4v152 x5v153 x8v154 x9v155 x10v156 x11v157 x12v158 h159 => Ex.inBlock 3 r150.1 (bo .add x12v158 (.int .i64 1) fun t161 => endR m .normal [x1v151, x4v152, x5v153, x8v154, x9v155, x10v156, x11v157, t161] h159) (fun e160 => endR m e160 [x1v151, x4v152, x5v153, x8v154, x9v155, x10v156, x11v157, x12v158] h159)) (gd r150.2.1 0) (gd r150.2.1 1) (gd r150.2.1 2) (gd r150.2.1 3) (gd r150.2.1 4) (gd r150.2.1 5) (gd r150.2.1 6) (gd r150.2.1 7) r150.2.2) (endR m (.exit 2) [x1v78, x4v79, x5v80, x8v81, x9v82, x10v83, x11v84, x12v85] h86)) (gd s.1 0) (gd s.1 1) (gd s.1 2) (gd s.1 3) (gd s.1 4) (gd s.1 5) (gd s.1 6) (gd s.1 7) s.2
def t8_l5 (p1 : (List (List Int))) (r28 : (List Fd)) (l34 : (List Int)) (w52 : Int) (r74 : Int) (s77 : Int × (List Int)) : Option (Ey × Int × (List Int)) :=
  tb ((tidx p1 w52)) fun u88 => tc (decide (s77.1 < ((List.length u88 : Nat) : Int))) (tb (t8_b2 p1 w52 s77.2 s77.1 r28 l34 r74) fun r150 => ibT 3 r150.1 (some (.n, ((IntKind.wrap .i64 (s77.1 + 1)), r150.2))) fun e160 => some (e160, (s77.1, r150.2))) (some ((.x 2), (s77.1, s77.2)))
theorem b8_l5 (p1 : (List (List Int))) (w51 : Int) (r28 : (List Fd)) (l34 : (List Int)) (w52 : Int) (r74 : Int) (s77 : Int × (List Int)) : m8_l5 KK 1 ([(.slice (Rw (csl (ci .i64)) p1) .no), (.str []), (.int .i64 w51), (.slice (Rw Fd.cells r28) .no), (.vslice 0 (List.length l34) 0 (List.length l34) 1), (.int .i64 w52), (.int .i64 r74), (.int .i64 s77.1)], ([Vc (ci .u8) 1 s77.2] : Heap)) = tm (t8_l5 p1 r28 l34 w52 r74 s77) fun r => (r.1.ex, [(.slice (Rw (csl (ci .i64)) p1) .no), (.str []), (.int .i64 w51), (.slice (Rw Fd.cells r28) .no), (.vslice 0 (List.length l34) 0 (List.length l34) 1), (.int .i64 w52), (.int .i64 r74), (.int .i64 r.2.1)], ([Vc (ci .u8) 1 r.2.2] : Heap)) := by
  simp +contextual -implicitDefEqProofs (maxSteps := 2000000) [-acond_bool, -guardSel_true, -guardSel_false, -aindexSl_map, -aload_vptr, -aload_vptrT, -astore_vptr, m8_l5, t8_l5, r8_b2]
theorem r8_l5 (p1 : (List (List Int))) (w51 : Int) (r28 : (List Fd)) (l34 : (List Int)) (w52 : Int) (r74 : Int) (i7 : Int) (i8 : (List Int)) : lpW (m8_l5 KK 1) ([(.slice (Rw (csl (ci .i64)) p1) .no), (.str []), (.int .i64 w51), (.slice (Rw Fd.cells r28) .no), (.vslice 0 (List.length l34) 0 (List.length l34) 1), (.int .i64 w52), (.int .i64 r74), (.int .i64 i7)], ([Vc (ci .u8) 1 i8] : Heap)) = tm (lpT (t8_l5 p1 r28 l34 w52 r74) (i7, i8)) fun r => (r.1.ex, [(.slice (Rw (csl (ci .i64)) p1) .no), (.str []), (.int .i64 w51), (.slice (Rw Fd.cells r28) .no), (.vslice 0 (List.length l34) 0 (List.length l34) 1), (.int .i64 w52), (.int .i64 r74), (.int .i64 r.2.1)], ([Vc (ci .u8) 1 r.2.2] : Heap)) := by
  exact lpW_t (enc := fun s77 => ([(.slice (Rw (csl (ci .i64)) p1) .no), (.str []), (.int .i64 w51), (.slice (Rw Fd.cells r28) .no), (.vslice 0 (List.length l34) 0 (List.length l34) 1), (.int .i64 w52), (.int .i64 r74), (.int .i64 s77.1)], ([Vc (ci .u8) 1 s77.2] : Heap))) (fun s77 => b8_l5 p1 w51 r28 l34 w52 r74 s77) (i7, i8)
def m8_b1 (K : CallO) (m : Nat) (x1v42 : AVal) (x10v47 : AVal) (h48 : Heap) (x8v45 : AVal) (x9v46 : AVal) (x4v43 : AVal) (x5v44 : AVal) : Option R :=
  ix 1 x1v42 x10v47 fun t56 => ld false 1 h48 t56 fun t58 => ln t58 fun t59 => ix 7 x8v45 x10v47 fun t60 => fa 1 t60 fun t62 => ld true 3 h48 t62 fun t63 => ca (K 24 [(AVal.untok t63)] (hide (lockIds [0] [t56]) h48)) fun t64 h65 => bo .neq t59 t64 fun t67 => acond t67 (endR m .ret [x1v42, (.str []), (.int .i64 16), x8v45, x9v46, x10v47] (unhide (lockIds [0] [t56]) h48 h65)) (ix 7 x8v45 x10v47 fun t68 => fa 1 t68 fun t70 => ld true 3 (unhide (lockIds [0] [t56]) h48 h65) t70 fun t71 => ca (K 25 [(AVal.untok t71)] (unhide (lockIds [0] [t56]) h48 h65)) fun t72 h73 => (lpW (m8_l5 K (List.length h73)) ([x1v42, x4v43, x5v44, x8v45, x9v46, x10v47, t72, (.int .i64 0)], h73)).bind fun r162 => (fun x1v164 x4v165 x5v166 x8v167 x9v168 x10v169 x11v170 x12v171 h172 => Ex.thenDo r162.1 none (fun e163 => Ex.inBlock 2 e163 (endR m .normal [x1v164, x4v165, x5v166, x8v167, x9v168, x10v169] h172) (fun e173 => endR m e173 [x1v164, x4v165, x5v166, x8v167, x9v168, x10v169] h172))) (gd r162.2.1 0) (gd r162.2.1 1) (gd r162.2.1 2) (gd r162.2.1 3) (gd r162.2.1 4) (gd r162.2.1 5) (gd r162.2.1 6) (gd r162.2.1 7) r162.2.2)
def t8_b1 (p1 : (List (List Int))) (w52 : Int) (w55 : (List Int)) (r28 : (List Fd)) (l34 : (List Int)) (w51 : Int) : Option (Ey × Int × (List Int)) :=
  tb ((tidx p1 w52)) fun u57 => tb ((tidx r28 w52)) fun u61 => tb ((t24 u61.ty)) fun r66 => tc (!decide (((List.length u57 : Nat) : Int) = r66)) (some (.r, (16, w55))) (tb ((tidx r28 w52)) fun u69 => tb ((t25 u69.ty)) fun r74 => tb (lpT (t8_l5 p1 r28 l34 w52 r74) (0, w55)) fun r162 => exT r162.1 none fun e163 => ibT 2 e163 (some (.n, (w51, r162.2.2))) fun e173 => some (e173, (w51, r162.2.2)))
theorem r8_b1 (p1 : (List (List Int))) (w52 : Int) (w55 : (List Int)) (r28 : (List Fd)) (l34 : (List Int)) (w51 : Int) : (m8_b1 KK 1 (.slice (Rw (csl (ci .i64)) p1) .no) (.int .i64 w52) ([Vc (ci .u8) 1 w55] : Heap) (.slice (Rw Fd.cells r28) .no) (.vslice 0 (List.length l34) 0 (List.length l34) 1) (.str []) (.int .i64 w51)) = tm (t8_b1 p1 w52 w55 r28 l34 w51) fun r => (r.1.ex, [(.slice (Rw (csl (ci .i64)) p1) .no), (.str []), (.int .i64 r.2.1), (.slice (Rw Fd.cells r28) .no), (.vslice 0 (List.length l34) 0 (List.length l34) 1), (.int .i64 w52)], ([Vc (ci .u8) 1 r.2.2] : Heap)) := by
  simp +contextual -implicitDefEqProofs (maxSteps := 2000000) [-acond_bool, -guardSel_true, -guardSel_false, -aindexSl_map, -aload_vptr, -aload_vptrT, -astore_vptr, m8_b1, t8_b1, r24, r25, r8_l5]
def m8_l6 (K : CallO) (m : Nat) (s : List AVal × Heap) : Option R :=
  (fun x1v42 x4v43 x5v44 x8v45 x9v46 x10v47 h48 => ln x1v42 fun t49 => bo .lss x10v47 t49 fun t50 => acond t50 ((m8_b1 K (List.length h48) x1v42 x10v47 h48 x8v45 x9v46 x4v43 x5v44).bind fun r174 => (fun x1v175 x4v176 x5v177 x8v178 x9v179 x10v180 h181 => Ex.inBlock 1 r174.1 (bo .add x10v180 (.int .i64 1) fun t183 => endR m .normal [x1v175, x4v176, x5v177, x8v178, x9v179, t183] h181) (fun e182 => endR m e182 [x1v175, x4v176, x5v177, x8v178, x9v179, x10v180] h181)) (gd r174.2.1 0) (gd r174.2.1 1) (gd r174.2.1 2) (gd r174.2.1 3) (gd r174.2.1 4) (gd r174.2.1 5) r174.2.2) (endR m (.exit 0) [x1v42, x4v43, x5v44, x8v45, x9v46, x10v47] h48)) (gd s.1 0) (gd s.1 1) (gd s.1 2) (gd s.1 3) (gd s.1 4) (gd s.1 5) s.2
def t8_l6 (p1 : (List (List Int))) (r28 : (List Fd)) (l34 : (List Int)) (s41 : Int × Int × (List Int)) : Option (Ey × Int × Int × (List Int)) :=
  tc (decide (s41.2.1 < ((List.length p1 : Nat) : Int))) (tb (t8_b1 p1 s41.2.1 s41.2.2 r28 l34 s41.1) fun r174 => ibT 1 r174.1 (some (.n, (r174.2.1, (IntKind.wrap .i64 (s41.2.1 + 1)), r174.2.2))) fun e182 => some (e182, (r174.2.1, s41.2.1, r174.2.2))) (some ((.x 0), (s41.1, s41.2.1, s41.2.2)))
theorem b8_l6 (p1 : (List (List Int))) (r28 : (List Fd)) (l34 : (List Int)) (s41 : Int × Int × (List Int)) : m8_l6 KK 1 ([(.slice (Rw (csl (ci .i64)) p1) .no), (.str []), (.int .i64 s41.1), (.slice (Rw Fd.cells r28) .no), (.vslice 0 (List.length l34) 0 (List.length l34) 1), (.int .i64 s41.2.1)], ([Vc (ci .u8) 1 s41.2.2] : Heap)) = tm (t8_l6 p1 r28 l34 s41) fun r => (r.1.ex, [(.slice (Rw (csl (ci .i64)) p1) .no), (.str []), (.int .i64 r.2.1), (.slice (Rw Fd.cells r28) .no), (.vslice 0 (List.length l34) 0 (List.length l34) 1), (.int .i64 r.2.2.1)], ([Vc (ci .u8) 1 r.2.2.2] : Heap)) := by
  simp +contextual -implicitDefEqProofs (maxSteps := 2000000) [-acond_bool, -guardSel_true, -guardSel_false, -aindexSl_map, -aload_vptr, -aload_vptrT, -astore_vptr, m8_l6, t8_l6, r8_b1]
theorem r8_l6 (p1 : (List (List Int))) (r28 : (List Fd)) (l34 : (List Int)) (i2 : Int) (i5 : Int) (i6 : (List Int)) : lpW (m8_l6 KK 1) ([(.slice (Rw (csl (ci .i64)) p1) .no), (.str []), (.int .i64 i2), (.slice (Rw Fd.cells r28) .no), (.vslice 0 (List.length l34) 0 (List.length l34) 1), (.int .i64 i5)], ([Vc (ci .u8) 1 i6] : Heap)) = tm (lpT (t8_l6 p1 r28 l34) (i2, i5, i6)) fun r => (r.1.ex, [(.slice (Rw (csl (ci .i64)) p1) .no), (.str []), (.int .i64 r.2.1), (.slice (Rw Fd.cells r28) .no), (.vslice 0 (List.length l34) 0 (List.length l34) 1), (.int .i64 r.2.2.1)], ([Vc (ci .u8) 1 r.2.2.2] : Heap)) := by
  exact lpW_t (enc := fun s41 => ([(.slice (Rw (csl (ci .i64)) p1) .no), (.str []), (.int .i64 s41.1), (.slice (Rw Fd.cells r28) .no), (.vslice 0 (List.length l34) 0 (List.length l34) 1), (.int .i64 s41.2.1)], ([Vc (ci .u8) 1 s41.2.2] : Heap))) (fun s41 => b8_l6 p1 r28 l34 s41) (i2, i5, i6)
def m8 (K : CallO) (a0 a1 : AVal) (h0 : Heap) : Option (Res × Heap) :=
  (ca (K 6 [(AVal.untok a0)] h0) fun t20 h21 => (aextract 0 t20).bind fun t23 => (aextract 1 t20).bind fun t24 => bo .lss t23 (.int .i64 0) fun t25 => acond t25 (some (.ret, [(.str []), (.int .i64 2)], h21)) (ca (K 23 [(AVal.untok a0)] h21) fun t26 h27 => ln t26 fun t29 => ln a1 fun t30 => bo .neq t29 t30 fun t31 => acond t31 (some (.ret, [(.str []), (.int .i64 16)], h27)) (bindVH (amakeSliceV 1 1 [(.int .u8 0)] t23 h27) fun t32 h33 => (lpW (m8_l6 K (List.length h33)) ([a1, (.str []), (.int .i64 0), t26, t32, (.int .i64 0)], h33)).bind fun r184 => (fun x1v186 x4v187 x5v188 x8v189 x9v190 x10v191 h192 => Ex.thenDo r184.1 none (fun e185 => Ex.inBlock 0 e185 ((abytesH h192 x9v190).bind fun t194 => some (.ret, [t194, (.int .i64 0)], h192)) (fun e193 => some (e193, [x4v187, x5v188], h192)))) (gd r184.2.1 0) (gd r184.2.1 1) (gd r184.2.1 2) (gd r184.2.1 3) (gd r184.2.1 4) (gd r184.2.1 5) r184.2.2))).bind (m8_k (List.length h0))
theorem m8_eq (K : CallO) (a0 a1 : AVal) (h0 : Heap) : evB Tryz.prog ann lpW K 8 [a0, a1] h0 = m8 (callP ann K) a0 a1 h0 := by kernel_rfl
def t8 (p0 : (List Fd)) (p1 : (List (List Int))) : Option ((List UInt8) × Int) :=
  tb ((t6 p0)) fun r22 => tc (decide (r22.1 < 0)) (some ([], 2)) (tb ((t23 p0)) fun r28 => tc (!decide (((List.length r28 : Nat) : Int) = ((List.length p1 : Nat) : Int))) (some ([], 16)) (tb ((tmk 1 (0 : Int) r22.1)) fun l34 => tb (lpT (t8_l6 p1 r28 l34) (0, 0, l34)) fun r184 => exT r184.1 none fun e185 => ibT 0 e185 (tb ((tbys (List.length l34) r184.2.2.2)) fun n195 => some (n195, 0)) fun e193 => efT e193 (some ([], r184.2.1))))
theorem b8 (p0 : (List Fd)) (p1 : (List (List Int))) : m8 KK (.slice (Rw Fd.cells p0) .no) (.slice (Rw (csl (ci .i64)) p1) .no) [] = tm (t8 p0 p1) fun r => (.ret (.tuple [(.str r.1), (.int .i64 r.2)]), []) := by
  simp +contextual -implicitDefEqProofs (maxSteps := 2000000) [-acond_bool, -guardSel_true, -guardSel_false, -aindexSl_map, -aload_vptr, -aload_vptrT, -astore_vptr, m8, t8, r6, r23, mk8_0, r8_l6, m8_k]
theorem r8 (p0 : (List Fd)) (p1 : (List (List Int))) (h : Heap) : KK 8 [(.slice (Rw Fd.cells p0) .no), (.slice (Rw (csl (ci .i64)) p1) .no)] h = tm (t8 p0 p1) fun r => (.ret (.tuple [(.str r.1), (.int .i64 r.2)]), h) := call_t rfl rfl (m8_eq ..) (b8 p0 p1)

/- hauberk/hauberklaw15.same -/
def m11_k (mm : Nat) (r99 : R) : Option (Res × Heap) :=
  (fun x4v100 h101 => Ex.endF r99.1 (finR mm x4v100 h101)) (gd r99.2.1 0) r99.2.2
def m11_l1 (K : CallO) (m : Nat) (s : List AVal × Heap) : Option R :=
  (fun x0v49 x1v50 x4v51 x5v52 x6v53 h54 => ix 1 x0v49 x5v52 fun t55 => ld false 1 h54 t55 fun t57 => ln t57 fun t58 => bo .lss x6v53 t58 fun t59 => acond t59 (ix 1 x0v49 x5v52 fun t60 => ld false 1 h54 t60 fun t62 => ix 1 t62 x6v53 fun t63 => ld false 1 h54 t63 fun t65 => ix 1 x1v50 x5v52 fun t66 => ld false 1 h54 t66 fun t68 => ix 1 t68 x6v53 fun t69 => ld false 1 h54 t69 fun t71 => bo .neq t65 t71 fun t72 => acond t72 (endR m .ret [x0v49, x1v50, (.bool false), x5v52, x6v53] h54) (bo .add x6v53 (.int .i64 1) fun t73 => endR m .normal [x0v49, x1v50, x4v51, x5v52, t73] h54)) (endR m (.exit 2) [x0v49, x1v50, x4v51, x5v52, x6v53] h54)) (gd s.1 0) (gd s.1 1) (gd s.1 2) (gd s.1 3) (gd s.1 4) s.2
def t11_l1 (p0 : (List (List Int))) (p1 : (List (List Int))) (s26 : Int) (s48 : Int) : Option (Ey × Int) :=
  tb ((tidx p0 s26)) fun u56 => tc (decide (s48 < ((List.length u56 : Nat) : Int))) (tb ((tidx p0 s26)) fun u61 => tb ((tidx u61 s48)) fun u64 => tb ((tidx p1 s26)) fun u67 => tb ((tidx u67 s48)) fun u70 => tc (!decide (u64 = u70)) (some (.r, s48)) (some (.n, (IntKind.wrap .i64 (s48 + 1))))) (some ((.x 2), s48))
theorem b11_l1 (p0 : (List (List Int))) (p1 : (List (List Int))) (s26 : Int) (s48 : Int) : m11_l1 KK 0 ([(.slice (Rw (csl (ci .i64)) p0) .no), (.slice (Rw (csl (ci .i64)) p1) .no), (.bool false), (.int .i64 s26), (.int .i64 s48)], ([] : Heap)) = tm (t11_l1 p0 p1 s26 s48) fun r => (r.1.ex, [(.slice (Rw (csl (ci .i64)) p0) .no), (.slice (Rw (csl (ci .i64)) p1) .no), (.bool false), (.int .i64 s26), (.int .i64 r.2)], ([] : Heap)) := by
  simp +contextual -implicitDefEqProofs (maxSteps := 2000000) [-acond_bool, -guardSel_true, -guardSel_false, -aindexSl_map, -aload_vptr, -aload_vptrT, -astore_vptr, m11_l1, t11_l1]
theorem r11_l1 (p0 : (List (List Int))) (p1 : (List (List Int))) (s26 : Int) (i4 : Int) : lpW (m11_l1 KK 0) ([(.slice (Rw (csl (ci .i64)) p0) .no), (.slice (Rw (csl (ci .i64)) p1) .no), (.bool false), (.int .i64 s26), (.int .i64 i4)], ([] : Heap)) = tm (lpT (t11_l1 p0 p1 s26) i4) fun r => (r.1.ex, [(.slice (Rw (csl (ci .i64)) p0) .no), (.slice (Rw (csl (ci .i64)) p1) .no), (.bool false), (.int .i64 s26), (.int .i64 r.2)], ([] : Heap)) := by
  exact lpW_t (enc := fun s48 => ([(.slice (Rw (csl (ci .i64)) p0) .no), (.slice (Rw (csl (ci .i64)) p1) .no), (.bool false), (.int .i64 s26), (.int .i64 s48)], ([] : Heap))) (fun s48 => b11_l1 p0 p1 s26 s48) i4
def m11_b0 (K : CallO) (m : Nat) (x0v27 : AVal) (x5v30 : AVal) (h31 : Heap) (x1v28 : AVal) (x4v29 : AVal) : Option R :=
  ix 1 x0v27 x5v30 fun t36 => ld false 1 h31 t36 fun t38 => ln t38 fun t39 => ix 1 x1v28 x5v30 fun t40 => ld false 1 h31 t40 fun t42 => ln t42 fun t43 => bo .neq t39 t43 fun t44 => acond t44 (endR m .ret [x0v27, x1v28, (.bool false), x5v30] h31) ((lpW (m11_l1 K (List.length h31)) ([x0v27, x1v28, x4v29, x5v30, (.int .i64 0)], h31)).bind fun r74 => (fun x0v76 x1v77 x4v78 x5v79 x6v80 h81 => Ex.thenDo r74.1 none (fun e75 => Ex.inBlock 2 e75 (endR m .normal [x0v76, x1v77, x4v78, x5v79] h81) (fun e82 => endR m e82 [x0v76, x1v77, x4v78, x5v79] h81))) (gd r74.2.1 0) (gd r74.2.1 1) (gd r74.2.1 2) (gd r74.2.1 3) (gd r74.2.1 4) r74.2.2)
def t11_b0 (p0 : (List (List Int))) (s26 : Int) (p1 : (List (List Int))) : Option (Ey × Unit) :=
  tb ((tidx p0 s26)) fun u37 => tb ((tidx p1 s26)) fun u41 => tc (!decide (((List.length u37 : Nat) : Int) = ((List.length u41 : Nat) : Int))) (some (.r, ())) (tb (lpT (t11_l1 p0 p1 s26) 0) fun r74 => exT r74.1 none fun e75 => ibT 2 e75 (some (.n, ())) fun e82 => some (e82, ()))
theorem r11_b0 (p0 : (List (List Int))) (s26 : Int) (p1 : (List (List Int))) : (m11_b0 KK 0 (.slice (Rw (csl (ci .i64)) p0) .no) (.int .i64 s26) ([] : Heap) (.slice (Rw (csl (ci .i64)) p1) .no) (.bool false)) = tm (t11_b0 p0 s26 p1) fun r => (r.1.ex, [(.slice (Rw (csl (ci .i64)) p0) .no), (.slice (Rw (csl (ci .i64)) p1) .no), (.bool false), (.int .i64 s26)], ([] : Heap)) := by
  simp +contextual -implicitDefEqProofs (maxSteps := 2000000) [-acond_bool, -guardSel_true, -guardSel_false, -aindexSl_map, -aload_vptr, -aload_vptrT, -astore_vptr, m11_b0, t11_b0, r11_l1]
def m11_l2 (K : CallO) (m : Nat) (s : List AVal × Heap) : Option R :=
  (fun x0v27 x1v28 x4v29 x5v30 h31 => ln x0v27 fun t32 => bo .lss x5v30 t32 fun t33 => acond t33 ((m11_b0 K (List.length h31) x0v27 x5v30 h31 x1v28 x4v29).bind fun r83 => (fun x0v84 x1v85 x4v86 x5v87 h88 => Ex.inBlock 1 r83.1 (bo .add x5v87 (.int .i64 1) fun t90 => endR m .normal [x0v84, x1v85, x4v86, t90] h88) (fun e89 => endR m e89 [x0v84, x1v85, x4v86, x5v87] h88)) (gd r83.2.1 0) (gd r83.2.1 1) (gd r83.2.1 2) (gd r83.2.1 3) r83.2.2) (endR m (.exit 0) [x0v27, x1v28, x4v29, x5v30] h31)) (gd s.1 0) (gd s.1 1) (gd s.1 2) (gd s.1 3) s.2
def t11_l2 (p0 : (List (List Int))) (p1 : (List (List Int))) (s26 : Int) : Option (Ey × Int) :=
  tc (decide (s26 < ((List.length p0 : Nat) : Int))) (tb (t11_b0 p0 s26 p1) fun r83 => ibT 1 r83.1 (some (.n, (IntKind.wrap .i64 (s26 + 1)))) fun e89 => some (e89, s26)) (some ((.x 0), s26))
theorem b11_l2 (p0 : (List (List Int))) (p1 : (List (List Int))) (s26 : Int) : m11_l2 KK 0 ([(.slice (Rw (csl (ci .i64)) p0) .no), (.slice (Rw (csl (ci .i64)) p1) .no), (.bool false), (.int .i64 s26)], ([] : Heap)) = tm (t11_l2 p0 p1 s26) fun r => (r.1.ex, [(.slice (Rw (csl (ci .i64)) p0) .no), (.slice (Rw (csl (ci .i64)) p1) .no), (.bool false), (.int .i64 r.2)], ([] : Heap)) := by
  simp +contextual -implicitDefEqProofs (maxSteps := 2000000) [-acond_bool, -guardSel_true, -guardSel_false, -aindexSl_map, -aload_vptr, -aload_vptrT, -astore_vptr, m11_l2, t11_l2, r11_b0]
theorem r11_l2 (p0 : (List (List Int))) (p1 : (List (List Int))) (i3 : Int) : lpW (m11_l2 KK 0) ([(.slice (Rw (csl (ci .i64)) p0) .no), (.slice (Rw (csl (ci .i64)) p1) .no), (.bool false), (.int .i64 i3)], ([] : Heap)) = tm (lpT (t11_l2 p0 p1) i3) fun r => (r.1.ex, [(.slice (Rw (csl (ci .i64)) p0) .no), (.slice (Rw (csl (ci .i64)) p1) .no), (.bool false), (.int .i64 r.2)], ([] : Heap)) := by
  exact lpW_t (enc := fun s26 => ([(.slice (Rw (csl (ci .i64)) p0) .no), (.slice (Rw (csl (ci .i64)) p1) .no), (.bool false), (.int .i64 s26)], ([] : Heap))) (fun s26 => b11_l2 p0 p1 s26) i3
def m11 (K : CallO) (a0 a1 : AVal) (h0 : Heap) : Option (Res × Heap) :=
  (ln a0 fun t20 => ln a1 fun t21 => bo .neq t20 t21 fun t22 => acond t22 (some (.ret, [(.bool false)], h0)) ((lpW (m11_l2 K (List.length h0)) ([a0, a1, (.bool false), (.int .i64 0)], h0)).bind fun r91 => (fun x0v93 x1v94 x4v95 x5v96 h97 => Ex.thenDo r91.1 none (fun e92 => Ex.inBlock 0 e92 (some (.ret, [(.bool true)], h97)) (fun e98 => some (e98, [x4v95], h97)))) (gd r91.2.1 0) (gd r91.2.1 1) (gd r91.2.1 2) (gd r91.2.1 3) r91.2.2)).bind (m11_k (List.length h0))
theorem m11_eq (K : CallO) (a0 a1 : AVal) (h0 : Heap) : evB Tryz.prog ann lpW K 11 [a0, a1] h0 = m11 (callP ann K) a0 a1 h0 := by kernel_rfl
def t11 (p0 : (List (List Int))) (p1 : (List (List Int))) : Option (Bool) :=
  tc (!decide (((List.length p0 : Nat) : Int) = ((List.length p1 : Nat) : Int))) (some false) (tb (lpT (t11_l2 p0 p1) 0) fun r91 => exT r91.1 none fun e92 => ibT 0 e92 (some true) fun e98 => efT e98 (some false))
theorem b11 (p0 : (List (List Int))) (p1 : (List (List Int))) : m11 KK (.slice (Rw (csl (ci .i64)) p0) .no) (.slice (Rw (csl (ci .i64)) p1) .no) [] = tm (t11 p0 p1) fun r => (.ret (.bool r), []) := by
  simp +contextual -implicitDefEqProofs (maxSteps := 2000000) [-acond_bool, -guardSel_true, -guardSel_false, -aindexSl_map, -aload_vptr, -aload_vptrT, -astore_vptr, m11, t11, r11_l2, m11_k]
theorem r11 (p0 : (List (List Int))) (p1 : (List (List Int))) (h : Heap) : KK 11 [(.slice (Rw (csl (ci .i64)) p0) .no), (.slice (Rw (csl (ci .i64)) p1) .no)] h = tm (t11 p0 p1) fun r => (.ret (.bool r), h) := call_t rfl rfl (m11_eq ..) (b11 p0 p1)
end
section
open Go Hk
def WFr : List UInt8 → ABlk
  | [] => .front 0 0
  | b :: r => .front (r.length + 1) 1 6
def bcells (b : Nat) (u : Bool) (s : List UInt8) : List AVal := [bif u then .ptr b 0 else .nilptr, .slice (srows s) (.own (b + 1))]
/-- A Builder behind the blocks A: its cells, its bytes' block. -/
def BHX (A : Heap) (u : Bool) (s f : List UInt8) (B : Heap) : Heap := A ++ (.tcells 58 (bcells A.length u s) :: WFr f :: B)
def BH (A : Heap) (u : Bool) (s : List UInt8) (B : Heap) : Heap := BHX A u s s B
def Still (B : List ABlk) : Prop := ∀ m h, sanBlks m h B = some B
theorem still_nil : Still [] := fun _ _ => rfl
theorem still_cons {b : ABlk} {B : Heap} (h1 : ∀ m h, sanBlk m h b = some b) (h2 : Still B) : Still (b :: B) := fun m h => by simp [sanBlks_cons, h1 m h, h2 m h]
theorem sanBlks_app0 {m : Nat} {h : Heap} : ∀ {B C : List ABlk}, sanBlks m h B = some B → sanBlks m h C = some C → sanBlks m h (B ++ C) = some (B ++ C)
  | [], _, _, h2 => h2
  | b :: r, C, h1, h2 => by
    simp only [sanBlks] at h1
    split at h1
    · rename_i b' r' e1 e2
      simp only [Option.some.injEq, List.cons.injEq] at h1
      obtain ⟨rfl, rfl⟩ := h1
      simp only [List.cons_append, sanBlks, e1, sanBlks_app0 e2 h2]
    · cases h1
theorem srows_len {bs : List UInt8} : (srows bs).length = bs.length := by simp [srows]
theorem srows_app {bs x : List UInt8} : srows bs ++ srows x = srows (bs ++ x) := by simp [srows]
theorem arows_s {h : Heap} {t : Tok} {x : List UInt8} : arowsS 1 h (.slice (srows x) t) = some (srows x) := by
  simp only [arowsS]
  rw [if_pos]
  simp [srows]
section
variable {A B : Heap} {u : Bool} {s f x : List UInt8}
theorem bh0 : (BHX A u s f B)[A.length]? = some (.tcells 58 (bcells A.length u s)) := by simp [BHX]
theorem bh1 : (BHX A u s f B)[A.length + 1]? = some (WFr f) := by simp [BHX]
theorem bh_len : List.length (BHX A u s f B) = A.length + B.length + 2 := by simp [BHX]; omega
theorem bh_app {C : Heap} : BHX A u s f B ++ C = BHX A u s f (B ++ C) := by simp [BHX]
theorem bh_set0 {c : ABlk} : (BHX A u s f B).set A.length c = A ++ (c :: WFr f :: B) := by simp [BHX]
theorem bh_set1 {c : ABlk} : (BHX A u s f B).set (A.length + 1) c = A ++ (.tcells 58 (bcells A.length u s) :: c :: B) := by simp [BHX]
theorem c36 : KK 36 [.ptr A.length 0] (BHX A u s f B) = some (.ret (.tuple []), BHX A true s f B) := by
  refine evW_by (m := primC ann.bld .copyCheck [.ptr A.length 0] (BHX A u s f B)) rfl ?_
  have e : getT (BHX A u s f B) A.length = some (58, bcells A.length u s) := by simp only [getT, bh0]
  have hb : ann.bld 58 0 2 = true := rfl
  simp only [primC, e]
  cases u <;> simp [bcells, hb, bh_set0, putCells, BHX]
theorem ldB : aloadT false 1 (BHX A u s f B) (.ptr A.length 1) = some (.slice (srows s) (.own (A.length + 1))) := by
  have e : getT (BHX A u s f B) A.length = some (58, bcells A.length u s) := by simp only [getT, bh0]
  simp only [aloadT, e, apart, bcells]
  rfl
theorem stB : astoreT 1 (BHX A u s f B) (.ptr A.length 1) (.slice (srows x) (.own (A.length + 1))) = some (BHX A u x f B) := by
  have e : getT (BHX A u s f B) A.length = some (58, bcells A.length u s) := by simp only [getT, bh0]
  simp only [astoreT, e]
  cases u <;> simp [bcells, putCells, keepTok, bh_set0, BHX]
theorem appB (hb : s.length + x.length ≤ 140737488355328) : aappendStr 6 1 1 1 (BHX A u s s B) (.slice (srows s) (.own (A.length + 1))) (.str x) = some (.slice (srows (s ++ x)) (.own (A.length + 1)), BHX A u s (s ++ x) B) := by
  have h0 : aappendStr 6 1 1 1 (BHX A u s s B) (.slice (srows s) (.own (A.length + 1))) (.str x) = aappendT 6 1 1 (BHX A u s s B) (.slice (srows s) (.own (A.length + 1))) (.slice (srows x) .no) := rfl
  rw [h0]
  cases s with
  | nil =>
    unfold aappendT
    rw [arows_s]
    have e1 : (BHX A u [] [] B)[A.length + 1]? = some (.front 0 0) := bh1
    cases x with
    | nil =>
      simp only [srows, List.map_nil]
      simp only [e1]
      simp
    | cons c r =>
      have hl : (srows (c :: r)).length = r.length + 1 := by rw [srows_len]; rfl
      have hb' : (0 + (srows (c :: r)).length) * 1 ≤ 140737488355328 := by rw [srows_len]; simp at hb ⊢; omega
      have hb2 : 0 + (srows (c :: r)).length ≤ 140737488355328 := by omega
      have hs : (srows [] ++ srows (c :: r)) = srows ([] ++ c :: r) := srows_app
      simp only [e1, srows, List.map_nil] at hs ⊢
      rw [if_pos ⟨by simp, .inr ⟨trivial, trivial⟩, by simpa [srows] using hb', by simpa [srows] using hb2⟩, if_neg (by simp), bh_set1]
      simp [srows, WFr, BHX]
  | cons b q =>
    have e1 : (BHX A u (b :: q) (b :: q) B)[A.length + 1]? = some (.front (q.length + 1) 1 6) := bh1
    have hl : (srows (b :: q)).length = q.length + 1 := by rw [srows_len]; rfl
    have hb' : (q.length + 1 + (srows x).length) * 1 ≤ 140737488355328 := by rw [srows_len]; simp at hb ⊢; omega
    have e2 : aappendT 6 1 1 (BHX A u (b :: q) (b :: q) B) (.slice (srows (b :: q)) (.own (A.length + 1))) (.slice (srows x) .no) = (if (srows (b :: q)).length = q.length + 1 ∧ ((1 : Nat) = 1 ∨ q.length + 1 = 0 ∧ (1 : Nat) = 0) ∧ (q.length + 1 + (srows x).length) * 1 ≤ 140737488355328 ∧ q.length + 1 + (srows x).length ≤ 140737488355328
      then (if (srows x).length = 0 then some (.slice (srows (b :: q)) (.own (A.length + 1)), BHX A u (b :: q) (b :: q) B) else some (.slice (srows (b :: q) ++ srows x) (.own (A.length + 1)), (BHX A u (b :: q) (b :: q) B).set (A.length + 1) (.front (q.length + 1 + (srows x).length) 1 (bif (1 : Nat) == 0 || (6 : Nat) == 6 then 6 else 0)))) else none) := by
      have e3 : srows (b :: q) = [AVal.int .u8 (b.toNat : Int)] :: srows q := rfl
      rw [e3]
      simp only [aappendT, arows_s, e1]
    rw [e2, if_pos ⟨hl, .inl rfl, hb', by omega⟩]
    cases x with
    | nil => rw [if_pos (by rfl)]; simp
    | cons c r =>
      rw [if_neg (by rw [srows_len]; simp), srows_app, srows_len, bh_set1]
      simp [BHX, WFr]
      omega
theorem bh_san (hA : Still A) (hB : Still B) {m : Nat} {h : Heap} (hm : A.length + 2 ≤ m) : sanBlks m h (BHX A u s f B) = some (BHX A u s f B) := by
  refine sanBlks_app0 (hA m h) ?_
  have e1 : A.length < m := by omega
  have e2 : A.length + 1 < m := by omega
  have e3 : AVal.san1 m h (.ptr A.length 0) = .ptr A.length 0 := san1_ptr e1
  have e4 : AVal.san1 m h .nilptr = .nilptr := rfl
  have e5 : AVal.cellOk (.ptr A.length 0) = true := rfl
  have e6 : AVal.cellOk .nilptr = true := rfl
  have h1 : sanCells m h (bcells A.length u s) = some (bcells A.length u s) := by
    cases u <;> simp [bcells, e2, e3, e4, e5, e6]
  have h2 : sanBlk m h (.tcells 58 (bcells A.length u s)) = some (.tcells 58 (bcells A.length u s)) := by simp [sanBlk, h1]
  have h3 : sanBlk m h (WFr f) = some (WFr f) := by cases f <;> rfl
  simp only [sanBlks_cons, h2, h3, hB m h, Option.bind_some, Option.map_some]
theorem bh_trunc (hA : Still A) (hB : Still B) {C : Heap} : trunc (A.length + B.length + 2) (BHX A u s f (B ++ C)) = some (BHX A u s f B) := by
  have : (BHX A u s f (B ++ C)).take (A.length + B.length + 2) = BHX A u s f B := by
    rw [← bh_app, List.take_left' bh_len]
  simp only [trunc, this]
  exact bh_san hA hB (by omega)
theorem bh_trunc0 (hA : Still A) (hB : Still B) : trunc (A.length + B.length + 2) (BHX A u s f B) = some (BHX A u s f B) := by
  have := bh_trunc (u := u) (s := s) (f := f) hA hB (C := [])
  simpa using this
/-- WriteString. -/
theorem c20 (hA : Still A) (hB : Still B) (hb : s.length + x.length ≤ 140737488355328) : KK 20 [.ptr A.length 0, .str x] (BH A u s B) = some (.ret (.tuple [.int .i64 (x.length : Int), .niliface]), BH A true (s ++ x) B) := by
  refine evW_by (m20_eq _ _ _ _) ?_
  have e1 : afieldAt 1 (.ptr A.length 0) = some (.ptr A.length 1) := rfl
  have e2 : anilCheck (.ptr A.length 0) = some (.ptr A.length 0) := rfl
  have e3 := appB (A := A) (u := true) (B := B) hb
  have e4 := stB (A := A) (u := true) (s := s) (f := s ++ x) (x := s ++ x) (B := B)
  have e5 : sanBlks (A.length + B.length + 2) (BHX A true (s ++ x) (s ++ x) B) (List.take (A.length + B.length + 2) (BHX A true (s ++ x) (s ++ x) B)) = some (BHX A true (s ++ x) (s ++ x) B) := bh_trunc0 hA hB
  have e6 : ∀ m h, AVal.san1 m h .niliface = .niliface := fun _ _ => rfl
  have e7 : AVal.untok1 .niliface = .niliface := rfl
  simp -implicitDefEqProofs [m20, e6, e7, BH, c36, e1, e2, ldB, e3, e4, finR, bh_len, e5]
/-- Len. -/
theorem c39 (hA : Still A) (hB : Still B) : KK 39 [.ptr A.length 0] (BH A u s B) = some (.ret (.int .i64 (s.length : Int)), BH A u s B) := by
  refine evW_by (m39_eq _ _ _) ?_
  have e1 : afieldAt 1 (.ptr A.length 0) = some (.ptr A.length 1) := rfl
  have e2 : anilCheck (.ptr A.length 0) = some (.ptr A.length 0) := rfl
  have e5 : sanBlks (A.length + B.length + 2) (BHX A u s s B) (List.take (A.length + B.length + 2) (BHX A u s s B)) = some (BHX A u s s B) := bh_trunc0 hA hB
  simp -implicitDefEqProofs [m39, BH, e1, e2, ldB, finR, bh_len, e5, srows_len]
end
theorem rowBytes_s : ∀ (bs : List UInt8), rowBytes (srows bs) = some bs
  | [] => rfl
  | b :: r => by
    have h1 := rowBytes_s r
    have hb : (0 : Int) ≤ (b.toNat : Int) ∧ (b.toNat : Int) < 256 := ⟨by omega, by have := b.toNat_lt; omega⟩
    have h2 : srows (b :: r) = [AVal.int .u8 (b.toNat : Int)] :: srows r := rfl
    rw [h2]
    unfold rowBytes
    rw [if_pos hb, h1]
    simp
theorem bldS_own {e fid : Nat} {h : Heap} {rows : List (List AVal)} : bldS e h (.slice rows (.own fid)) = (match h[fid]? with
    | some (.front n sz t) => bif rows.length == n then (match n with
      | 0 => bif sz == 0 then some (.ret (.str []), h) else none
      | _ + 1 => bif sz == 1 && t == e + 1 then (match rowBytes rows with
        | some bs => some (.ret (.str bs), h.set fid .gone)
        | none => none) else none) else none
    | _ => none) := by cases rows <;> rfl
/-- The heap behind String. -/
def BHg (A : Heap) (u : Bool) (s : List UInt8) (B : Heap) : Heap := match s with
  | [] => BH A u s B
  | _ :: _ => A ++ (.tcells 58 (bcells A.length u s) :: .gone :: B)
/-- String. -/
theorem c22 {A B : Heap} {u : Bool} {s : List UInt8} : KK 22 [.ptr A.length 0] (BH A u s B) = some (.ret (.str s), BHg A u s B) := by
  refine evW_by (m := primC ann.bld (.bldString 5) [.ptr A.length 0] (BH A u s B)) rfl ?_
  have e : getC (BH A u s B) A.length = some (bcells A.length u s) := by simp only [getC, BH, bh0]
  have h0 : primC ann.bld (.bldString 5) [.ptr A.length 0] (BH A u s B) = bldS 5 (BH A u s B) (.slice (srows s) (.own (A.length + 1))) := by simp only [primC, e]; rfl
  rw [h0, bldS_own, BH, bh1]
  cases s with
  | nil => rfl
  | cons b r =>
    have h1 : (srows (b :: r)).length = r.length + 1 := by rw [srows_len]; rfl
    simp [h1, rowBytes_s, BHg, WFr, bh_set1]
/-- Repeat of a zero. -/
theorem c38 (n : Int) (hn : 0 ≤ n ∧ n ≤ 1099511627776) (h : Heap) : KK 38 [.str [0], .int .i64 n] h = some (.ret (.str (List.replicate n.toNat 0)), h) := by
  refine callP_pure rfl rfl (evW_by (m := primC ann.bld (.fn repG) [.str [0], .int .i64 n] []) rfl ?_)
  simp [primC, repG, hn]
end
section
open Go Hk
def kindB (f : Fd) : Bool := decide ((f.ty.elem = 0 ∨ f.ty.elem = 2) ∧ (f.ty.lab = 0 ∨ f.ty.lab = 1) ∧ (if f.ty.elem = 2 ∨ f.out = true then (1 : Int) else 0) ≤ f.ty.len ∧ f.ty.len ≤ 16384)
def ea (t : Ty) : Int := if t.elem = 2 then 1 else 4
def mn (t : Ty) : Int := max t.len 1
def rm (t : Ty) : Int := (mn t * ea t + 3) / 4 * 4
theorem kind_len {f : Fd} (h : kindB f = true) : 0 ≤ f.ty.len ∧ f.ty.len ≤ 16384 ∧ (f.ty.elem = 0 ∨ f.ty.elem = 2) ∧ (f.ty.elem = 2 → 1 ≤ f.ty.len) ∧ (f.out = true → 1 ≤ f.ty.len) ∧ (f.ty.lab = 0 ∨ f.ty.lab = 1) := by
  unfold kindB at h
  have h := of_decide_eq_true h
  obtain ⟨h1, h2, h3, h4⟩ := h
  refine ⟨?_, h4, h1, ?_, ?_, h2⟩
  · split at h3 <;> omega
  · intro h; rw [if_pos (.inl h)] at h3; exact h3
  · intro h; rw [if_pos (.inr h)] at h3; exact h3
theorem t34_eq (f : Fd) : t34 f = some (kindB f) := by
  obtain ⟨nm, ⟨e, n, l⟩, o, a, b⟩ := f
  unfold t34 t34_s0 t34_s2 t34_s3 t34_s4 t34_s5 t34_j1 kindB
  by_cases h2 : e = 2
  · subst h2
    by_cases hl : l = 0
    · subst hl; by_cases h1 : (1 : Int) ≤ n <;> by_cases h3 : n ≤ 16384 <;> simp [h1, h3]
    · by_cases hl1 : l = 1
      · subst hl1; by_cases h1 : (1 : Int) ≤ n <;> by_cases h3 : n ≤ 16384 <;> simp [h1, h3]
      · simp [hl, hl1]
  · by_cases h0 : e = 0
    · subst h0
      cases o <;> by_cases hl : l = 0 <;> by_cases hl1 : l = 1 <;> by_cases h1 : (1 : Int) ≤ n <;> by_cases h4 : (0 : Int) ≤ n <;> by_cases h3 : n ≤ 16384 <;> simp [h1, h3, h4, hl, hl1]
    · cases o <;> simp [h2, h0]
theorem t29_eq (t : Ty) : t29 t = some (ea t) := by
  unfold t29 ea
  by_cases h : t.elem = 2 <;> simp [h]
theorem t19_eq (t : Ty) : t19 t = some (mn t) := rfl
theorem ea_b (t : Ty) : ea t = 1 ∨ ea t = 4 := by unfold ea; split <;> simp
theorem mn_b {f : Fd} (h : kindB f = true) : 1 ≤ mn f.ty ∧ mn f.ty ≤ 16384 := by
  have := kind_len h
  unfold mn
  omega
theorem rm_b {f : Fd} (h : kindB f = true) : 4 ≤ rm f.ty ∧ rm f.ty ≤ 65536 ∧ mn f.ty * ea f.ty ≤ rm f.ty ∧ 0 < mn f.ty * ea f.ty := by
  have h1 := mn_b h
  unfold rm
  rcases ea_b f.ty with e | e <;> rw [e] <;> omega
theorem t52_eq {f : Fd} (h : kindB f = true) : t52 f.ty = some (rm f.ty) := by
  have h1 := mn_b h
  have h2 := rm_b h
  unfold t52
  rw [t19_eq, t29_eq]
  simp only [tb_some]
  have e0 : 0 < mn f.ty * ea f.ty ∧ mn f.ty * ea f.ty ≤ 65536 := ⟨h2.2.2.2, by omega⟩
  unfold rm
  generalize mn f.ty * ea f.ty = q at *
  have e1 : IntKind.wrap .i64 q = q := wrap64 (by omega) (by omega)
  have e2 : IntKind.wrap .i64 (q + 4) = q + 4 := wrap64 (by omega) (by omega)
  have e3 : IntKind.wrap .i64 (q + 4 - 1) = q + 3 := by rw [wrap64 (by omega) (by omega)]; omega
  rw [e1, e2, e3]
  have e4 : tquo .i64 (q + 3) 4 = some ((q + 3) / 4) := by
    unfold tquo
    rw [if_neg (by decide), Int.tdiv_eq_ediv_of_nonneg (by omega), wrap64 (by omega) (by omega)]
  rw [e4]
  simp only [tb_some]
  rw [wrap64 (by omega) (by omega)]
theorem up4 (k : Nat) : ∀ (q : Int), 0 ≤ q → q ≤ 70000 → (q + k) % 4 = 0 → k ≤ 3 → lpT t17_l2 q = some (.x 0, q + k) := by
  induction k with
  | zero =>
    intro q h0 h1 h2 _
    refine lpT_out ?_ (by simp)
    have e : trem q 4 = some 0 := by unfold trem; rw [if_neg (by decide), Int.tmod_eq_emod_of_nonneg h0]; congr 1; omega
    unfold t17_l2
    rw [e]
    simp
  | succ k ih =>
    intro q h0 h1 h2 h3
    have e : ∃ m, trem q 4 = some m ∧ m ≠ 0 := by
      refine ⟨q % 4, ?_, by omega⟩
      unfold trem; rw [if_neg (by decide), Int.tmod_eq_emod_of_nonneg h0]
    obtain ⟨m, e, hm⟩ := e
    rw [lpT_go (s' := q + 1)]
    · rw [ih (q + 1) (by omega) (by omega) (by omega) (by omega)]
      congr 2
      omega
    · unfold t17_l2
      rw [e]
      simp only [tb_some, hm, decide_false, Bool.not_false, tc_true]
      rw [wrap64 (by omega) (by omega)]
theorem t17_eq {f : Fd} (h : kindB f = true) : t17 f.ty = some (rm f.ty) := by
  have hk := kind_len h
  have hl : ∀ q r : Int, 0 ≤ q → q ≤ 65536 → r = (q + 3) / 4 * 4 → lpT t17_l2 q = some (.x 0, r) := by
    intro q r h0 h1 hr
    rw [up4 (r - q).toNat q h0 (by omega) (by omega) (by omega)]
    congr 2
    omega
  unfold t17 t17_j0 t17_j1
  unfold rm mn ea
  by_cases h0 : 0 < f.ty.len
  · simp only [h0, decide_true, tc_true]
    rcases hk.2.2.1 with e | e
    · have e4 : IntKind.wrap .i64 (4 * f.ty.len) = 4 * f.ty.len := wrap64 (by omega) (by omega)
      simp only [e, decide_true, tc_true, tb_some, e4]
      rw [hl (4 * f.ty.len) (4 * f.ty.len) (by omega) (by omega) (by omega)]
      simp
      omega
    · simp only [e, tc_false, tb_some, show decide ((2 : Int) = 0) = false from rfl]
      rw [hl f.ty.len _ (by omega) (by omega) rfl]
      simp
      omega
  · have e0 : f.ty.elem = 0 := by rcases hk.2.2.1 with e | e; · exact e
                                  · have := hk.2.2.2.1 e; omega
    simp only [h0, decide_false, tc_false, tb_some, e0]
    rw [hl 4 4 (by omega) (by omega) (by omega)]
    simp
    omega
end
section
open Go Hk
def laidL : List Fd → Int → Int → List Fd × Int × Int
  | [], a, b => ([], a, b)
  | f :: r, a, b =>
    let q := laidL r (if f.out then a else min (a + rm f.ty) 65537) (if f.out then min (b + rm f.ty) 65537 else b)
    (⟨f.name, f.ty, f.out, if f.out then b else a, rm f.ty⟩ :: q.1, q.2)
/-- How many bytes the fields have, from a and b on; none: they may not be. -/
def sizesV : List Fd → Int → Int → Option (Int × Int)
  | [], a, b => some (a, b)
  | f :: r, a, b =>
    if kindB f = true ∧ f.off = (if f.out then b else a) ∧ f.size = rm f.ty ∧ (if f.out then b else a) + rm f.ty ≤ 65536
    then sizesV r (if f.out then a else a + rm f.ty) (if f.out then b + rm f.ty else b) else none
theorem tidx_mid {α : Type} {p r : List α} {x : α} {i : Int} (h : i = (p.length : Int)) : tidx (p ++ x :: r) i = some x := by
  subst h
  unfold tidx
  rw [if_pos (by omega)]
  simp
theorem laid_run : ∀ (r p acc : List Fd) (a b : Int), (p ++ r).length ≤ 1000 → acc.length = p.length → (∀ f ∈ r, kindB f = true) → 0 ≤ a → a ≤ 65537 → 0 ≤ b → b ≤ 65537 →
    lpT (t33_l0 (p ++ r)) (acc, a, b, (p.length : Int)) = some (.x 0, (acc ++ (laidL r a b).1, (laidL r a b).2.1, (laidL r a b).2.2, ((p ++ r).length : Int)))
  | [], p, acc, a, b, _, _, _, _, _, _, _ => by
    refine lpT_out ?_ (by simp)
    unfold t33_l0
    simp [laidL]
  | f :: r, p, acc, a, b, hl, ha, hk, h1, h2, h3, h4 => by
    have kf := hk f (.head _)
    have hr := rm_b kf
    have hl' : p.length + (r.length + 1) ≤ 1000 := by simpa using hl
    rw [lpT_go (s' := (acc ++ [⟨f.name, f.ty, f.out, if f.out then b else a, rm f.ty⟩], if f.out then a else min (a + rm f.ty) 65537, if f.out then min (b + rm f.ty) 65537 else b, ((p ++ [f]).length : Int)))]
    · have := laid_run r (p ++ [f]) (acc ++ [⟨f.name, f.ty, f.out, if f.out then b else a, rm f.ty⟩]) (if f.out then a else min (a + rm f.ty) 65537) (if f.out then min (b + rm f.ty) 65537 else b)
        (by simp; omega) (by simp [ha]) (fun g hg => hk g (.tail _ hg)) (by split <;> omega) (by split <;> omega) (by split <;> omega) (by split <;> omega)
      simp only [List.append_assoc, List.cons_append, List.nil_append] at this
      rw [this]
      simp [laidL]
    · unfold t33_l0
      have e1 : tapp 64 acc [(⟨f.name, f.ty, f.out, if f.out then b else a, rm f.ty⟩ : Fd)] = some (acc ++ [⟨f.name, f.ty, f.out, if f.out then b else a, rm f.ty⟩]) := by
        unfold tapp; rw [if_pos (by simp; omega)]
      have e2 : IntKind.wrap .i64 (a + rm f.ty) = a + rm f.ty := wrap64 (by omega) (by omega)
      have e3 : IntKind.wrap .i64 (b + rm f.ty) = b + rm f.ty := wrap64 (by omega) (by omega)
      have e4 : IntKind.wrap .i64 ((p.length : Int) + 1) = (p.length : Int) + 1 := wrap64 (by omega) (by omega)
      have e5 : decide ((p.length : Int) < (((p ++ f :: r).length : Nat) : Int)) = true := by simp; omega
      simp only [e5, tc_true, tidx_mid rfl, tb_some, t52_eq kf, e1, e2, e3, e4]
      simp
theorem t33_eq (l : List Fd) (hl : l.length ≤ 1000) (hk : ∀ f ∈ l, kindB f = true) : t33 l = some (laidL l 0 0) := by
  have := laid_run l [] [] 0 0 (by simpa using hl) rfl hk (by decide) (by decide) (by decide) (by decide)
  simp only [List.nil_append, List.length_nil] at this
  unfold t33
  rw [show ((0 : Nat) : Int) = 0 from rfl] at this
  rw [this]
  simp
theorem kinds_run : ∀ (r p : List Fd), (p ++ r).length ≤ 1000 → ∃ e : Ey × Int, lpT (t16_l0 (p ++ r) ((p ++ r).length : Nat)) (p.length : Int) = some e ∧ e.1 = if (∀ f ∈ r, kindB f = true) then .x 0 else .r
  | [], p, _ => by
    refine ⟨(.x 0, (p.length : Int)), lpT_out ?_ (by simp), by simp⟩
    unfold t16_l0
    simp
  | f :: r, p, hl => by
    have hl' : p.length + (r.length + 1) ≤ 1000 := by simpa using hl
    have e4 : IntKind.wrap .i64 ((p.length : Int) + 1) = (((p ++ [f]).length : Nat) : Int) := by rw [wrap64 (by omega) (by omega)]; simp
    have e5 : decide ((p.length : Int) < (((p ++ f :: r).length : Nat) : Int)) = true := by simp; omega
    cases kf : kindB f with
    | true =>
      have hgo : t16_l0 (p ++ f :: r) ((p ++ f :: r).length : Nat) (p.length : Int) = some (.n, (((p ++ [f]).length : Nat) : Int)) := by
        unfold t16_l0
        simp only [e5, tc_true, tidx_mid rfl, tb_some, t34_eq, kf, e4, Bool.not_true, tc_false]
      rw [lpT_go hgo]
      obtain ⟨e, h1, h2⟩ := kinds_run r (p ++ [f]) (by simpa using hl)
      refine ⟨e, by simpa using h1, ?_⟩
      rw [h2]
      simp [kf]
    | false =>
      have hgo : t16_l0 (p ++ f :: r) ((p ++ f :: r).length : Nat) (p.length : Int) = some (.r, (p.length : Int)) := by
        unfold t16_l0
        simp only [e5, tc_true, tidx_mid rfl, tb_some, t34_eq, kf, Bool.not_false]
      exact ⟨_, lpT_out hgo (by simp), by simp [kf]⟩
def fdB (u v : Fd) : Bool := (u.name == v.name) && ((u.ty.elem == v.ty.elem) && ((u.ty.len == v.ty.len) && ((u.ty.lab == v.ty.lab) && ((u.out == v.out) && ((u.off == v.off) && ((u.size == v.size) && true))))))
theorem fdB_iff {u v : Fd} : fdB u v = true ↔ u = v := by
  obtain ⟨a, ⟨b, c, d⟩, e, f, g⟩ := u
  obtain ⟨a', ⟨b', c', d'⟩, e', f', g'⟩ := v
  simp [fdB, and_assoc]
theorem eqs_run : ∀ (r q p : List Fd), p.length + r.length ≤ 1000 → r.length = q.length → ∀ (s : List Fd), s.length = p.length →
    ∃ e : Ey × Int, lpT (t16_l1 (s ++ q) (p ++ r) ((p ++ r).length : Nat)) (p.length : Int) = some e ∧ (e.1 = if r = q then .x 2 else .r)
  | [], [], p, _, _, s, hs => by
    refine ⟨(.x 2, (p.length : Int)), lpT_out ?_ (by simp), by simp⟩
    unfold t16_l1
    simp
  | f :: r, g :: q, p, hl, hrq, s, hs => by
    have hl' : p.length + (r.length + 1) ≤ 1000 := by simpa using hl
    have e4 : IntKind.wrap .i64 ((p.length : Int) + 1) = (((p ++ [f]).length : Nat) : Int) := by rw [wrap64 (by omega) (by omega)]; simp
    have e5 : decide ((p.length : Int) < (((p ++ f :: r).length : Nat) : Int)) = true := by simp; omega
    have e6 : tidx (s ++ g :: q) (p.length : Int) = some g := tidx_mid (by rw [hs])
    by_cases hfg : f = g
    · subst hfg
      have hgo : t16_l1 (s ++ f :: q) (p ++ f :: r) ((p ++ f :: r).length : Nat) (p.length : Int) = some (.n, (((p ++ [f]).length : Nat) : Int)) := by
        unfold t16_l1
        simp only [e5, tc_true, tidx_mid rfl, e6, tb_some, e4]
        have : fdB f f = true := fdB_iff.2 rfl
        unfold fdB at this
        rw [this]
        rfl
      rw [lpT_go hgo]
      obtain ⟨e, h1, h2⟩ := eqs_run r q (p ++ [f]) (by simp; omega) (by simpa using hrq) (s ++ [f]) (by simp [hs])
      refine ⟨e, by simpa using h1, ?_⟩
      rw [h2]
      simp
    · have hgo : t16_l1 (s ++ g :: q) (p ++ f :: r) ((p ++ f :: r).length : Nat) (p.length : Int) = some (.r, (p.length : Int)) := by
        unfold t16_l1
        simp only [e5, tc_true, tidx_mid rfl, e6, tb_some, e4]
        have : fdB f g = false := by
          cases h : fdB f g with
          | false => rfl
          | true => exact absurd (fdB_iff.1 h) hfg
        unfold fdB at this
        rw [this]
        rfl
      exact ⟨_, lpT_out hgo (by simp), by simp [hfg]⟩
theorem laidL_len : ∀ (l : List Fd) (a b : Int), (laidL l a b).1.length = l.length
  | [], _, _ => rfl
  | f :: r, a, b => by simp only [laidL, List.length_cons, laidL_len r]
def okB (l : List Fd) : Bool := decide ((∀ f ∈ l, kindB f = true) ∧ (laidL l 0 0).1 = l)
theorem t16_eq (l : List Fd) (hl : l.length ≤ 1000) : t16 l = some (if (∀ f ∈ l, kindB f = true) ∧ (laidL l 0 0).1 = l then ((laidL l 0 0).2.1, (laidL l 0 0).2.2, decide ((laidL l 0 0).2.1 ≤ 65536) && decide ((laidL l 0 0).2.2 ≤ 65536)) else (0, 0, false)) := by
  obtain ⟨e1, h1, k1⟩ := kinds_run l [] (by simpa using hl)
  simp only [List.nil_append, List.length_nil] at h1
  rw [show ((0 : Nat) : Int) = 0 from rfl] at h1
  obtain ⟨e1, i1⟩ := e1
  simp only at k1
  unfold t16
  rw [h1]
  by_cases hk : ∀ f ∈ l, kindB f = true
  · rw [if_pos hk] at k1
    subst k1
    obtain ⟨e2, h2, k2⟩ := eqs_run (laidL l 0 0).1 l [] (by simp [laidL_len]; omega) (laidL_len l 0 0) [] rfl
    simp only [List.nil_append, List.length_nil] at h2
    rw [show ((0 : Nat) : Int) = 0 from rfl] at h2
    obtain ⟨e2, i2⟩ := e2
    simp only at k2
    simp only [tb_some, exT_exit, ibT_exit, t33_eq l hl hk, h2, beq_self_eq_true, cond_true]
    by_cases hq : (laidL l 0 0).1 = l
    · rw [if_pos hq] at k2
      subst k2
      rw [if_pos ⟨hk, hq⟩]
      unfold t16_s2
      by_cases hb : (laidL l 0 0).2.1 ≤ 65536 <;> simp [hb]
    · rw [if_neg hq] at k2
      subst k2
      rw [if_neg (by rintro ⟨_, h⟩; exact hq h)]
      simp
  · rw [if_neg hk] at k1
    subst k1
    rw [if_neg (by rintro ⟨h, _⟩; exact hk h)]
    simp
end
end Go.Proofs.YtckbkcjhalimpabGreatDoor
set_option linter.unusedVariables false
namespace Go.Proofs
open Go.Shelf
def Tryz.lays105_ren : Go.Shelf.Ren := ⟨fun | 105 => 38 | 212 => 55 | 99 => 56 | 165 => 57 | 166 => 20 | 170 => 39 | 169 => 22 | 263 => 73 | 264 => 74 | 206 => 75 | 240 => 36 | 241 => 76 | 276 => 53 | 277 => 89 | n => n, fun | 9 => 9 | 3 => 3 | 4 => 4 | 20 => 20 | 0 => 0 | 46 => 116 | 109 => 117 | 5 => 5 | 72 => 58 | 76 => 64 | 51 => 140 | 146 => 141 | 53 => 98 | 148 => 143 | 70 => 55 | 37 => 56 | 75 => 63 | 127 => 97 | 164 => 113 | 80 => 67 | n => n, fun | n => n⟩
theorem Tryz.lays105 : Go.Proofs.Lays.n105 Tryz.prog Tryz.lays105_ren := {
  mixed := by kernel_rfl
  f99 := Tryz.func56.trans (congrArg some (by kernel_rfl))
  f105 := Tryz.func38.trans (congrArg some (by kernel_rfl))
  f165 := Tryz.func57.trans (congrArg some (by kernel_rfl))
  f166 := Tryz.func20.trans (congrArg some (by kernel_rfl))
  f169 := Tryz.func22.trans (congrArg some (by kernel_rfl))
  f170 := Tryz.func39.trans (congrArg some (by kernel_rfl))
  f206 := Tryz.func75.trans (congrArg some (by kernel_rfl))
  f212 := Tryz.func55.trans (congrArg some (by kernel_rfl))
  f240 := Tryz.func36.trans (congrArg some (by kernel_rfl))
  f241 := Tryz.func76.trans (congrArg some (by kernel_rfl))
  f263 := Tryz.func73.trans (congrArg some (by kernel_rfl))
  f264 := Tryz.func74.trans (congrArg some (by kernel_rfl))
  f276 := Tryz.func53.trans (congrArg some (by kernel_rfl))
  f277 := Tryz.func89.trans (congrArg some (by kernel_rfl))
  t0 := Tryz.underlying0
  a0 := Tryz.isAgg0
  z0 := Tryz.sizeOf0
  v0 := Tryz.zeroValue0
  t3 := Tryz.underlying3
  a3 := Tryz.isAgg3
  z3 := Tryz.sizeOf3
  v3 := Tryz.zeroValue3
  t4 := Tryz.underlying4
  a4 := Tryz.isAgg4
  z4 := Tryz.sizeOf4
  v4 := Tryz.zeroValue4
  t5 := Tryz.underlying5
  a5 := Tryz.isAgg5
  z5 := Tryz.sizeOf5
  v5 := Tryz.zeroValue5
  t9 := Tryz.underlying9
  a9 := Tryz.isAgg9
  z9 := Tryz.sizeOf9
  v9 := Tryz.zeroValue9
  t20 := Tryz.underlying20
  a20 := Tryz.isAgg20
  z20 := Tryz.sizeOf20
  v20 := Tryz.zeroValue20
  t37 := Tryz.underlying56
  a37 := Tryz.isAgg56
  z37 := Tryz.sizeOf56
  v37 := Tryz.zeroValue56
  t46 := Tryz.underlying116
  a46 := Tryz.isAgg116
  z46 := Tryz.sizeOf116
  v46 := Tryz.zeroValue116
  t51 := Tryz.underlying140
  a51 := Tryz.isAgg140
  z51 := Tryz.sizeOf140
  v51 := Tryz.zeroValue140
  t53 := Tryz.underlying98
  a53 := Tryz.isAgg98
  z53 := Tryz.sizeOf98
  v53 := Tryz.zeroValue98
  t70 := Tryz.underlying55
  a70 := Tryz.isAgg55
  z70 := Tryz.sizeOf55
  v70 := Tryz.zeroValue55
  t72 := Tryz.underlying58
  a72 := Tryz.isAgg58
  z72 := Tryz.sizeOf58
  v72 := Tryz.zeroValue58
  t75 := Tryz.underlying63
  a75 := Tryz.isAgg63
  z75 := Tryz.sizeOf63
  v75 := Tryz.zeroValue63
  t76 := Tryz.underlying64
  a76 := Tryz.isAgg64
  z76 := Tryz.sizeOf64
  v76 := Tryz.zeroValue64
  t109 := Tryz.underlying117
  a109 := Tryz.isAgg117
  z109 := Tryz.sizeOf117
  v109 := Tryz.zeroValue117
  t127 := Tryz.underlying97
  a127 := Tryz.isAgg97
  z127 := Tryz.sizeOf97
  v127 := Tryz.zeroValue97
  t146 := Tryz.underlying141
  a146 := Tryz.isAgg141
  z146 := Tryz.sizeOf141
  v146 := Tryz.zeroValue141
  t148 := Tryz.underlying143
  a148 := Tryz.isAgg143
  z148 := Tryz.sizeOf143
  v148 := Tryz.zeroValue143
  t164 := Tryz.underlying113
  a164 := Tryz.isAgg113
  z164 := Tryz.sizeOf113
  v164 := Tryz.zeroValue113 }
def Tryz.laysM171_ren : Go.Shelf.Ren := ⟨fun | 171 => 112 | 243 => 127 | 246 => 137 | 283 => 149 | 284 => 150 | 285 => 151 | 286 => 152 | 129 => 158 | 317 => 157 | 318 => 159 | 319 => 160 | 320 => 161 | 337 => 164 | 338 => 165 | n => n, fun | 3 => 3 | 9 => 9 | 2 => 2 | 4 => 4 | 171 => 219 | 0 => 0 | 53 => 98 | 37 => 56 | 5 => 5 | 173 => 222 | 212 => 230 | 51 => 140 | 20 => 20 | 213 => 231 | 46 => 116 | 232 => 248 | 233 => 249 | n => n, fun | 17 => 3 | 18 => 4 | 19 => 5 | n => n⟩
theorem Tryz.laysM171 : Go.Proofs.LaysM.n171 Tryz.prog Tryz.laysM171_ren := {
  mixed := by kernel_rfl
  f129 := Tryz.func158.trans (congrArg some (by kernel_rfl))
  f171 := Tryz.func112.trans (congrArg some (by kernel_rfl))
  f243 := Tryz.func127.trans (congrArg some (by kernel_rfl))
  f246 := Tryz.func137.trans (congrArg some (by kernel_rfl))
  f283 := Tryz.func149.trans (congrArg some (by kernel_rfl))
  f284 := Tryz.func150.trans (congrArg some (by kernel_rfl))
  f285 := Tryz.func151.trans (congrArg some (by kernel_rfl))
  f286 := Tryz.func152.trans (congrArg some (by kernel_rfl))
  f317 := Tryz.func157.trans (congrArg some (by kernel_rfl))
  f318 := Tryz.func159.trans (congrArg some (by kernel_rfl))
  f319 := Tryz.func160.trans (congrArg some (by kernel_rfl))
  f320 := Tryz.func161.trans (congrArg some (by kernel_rfl))
  f337 := Tryz.func164.trans (congrArg some (by kernel_rfl))
  f338 := Tryz.func165.trans (congrArg some (by kernel_rfl))
  t0 := Tryz.underlying0
  a0 := Tryz.isAgg0
  z0 := Tryz.sizeOf0
  v0 := Tryz.zeroValue0
  t2 := Tryz.underlying2
  a2 := Tryz.isAgg2
  z2 := Tryz.sizeOf2
  v2 := Tryz.zeroValue2
  t3 := Tryz.underlying3
  a3 := Tryz.isAgg3
  z3 := Tryz.sizeOf3
  v3 := Tryz.zeroValue3
  t4 := Tryz.underlying4
  a4 := Tryz.isAgg4
  z4 := Tryz.sizeOf4
  v4 := Tryz.zeroValue4
  t5 := Tryz.underlying5
  a5 := Tryz.isAgg5
  z5 := Tryz.sizeOf5
  v5 := Tryz.zeroValue5
  t9 := Tryz.underlying9
  a9 := Tryz.isAgg9
  z9 := Tryz.sizeOf9
  v9 := Tryz.zeroValue9
  t20 := Tryz.underlying20
  a20 := Tryz.isAgg20
  z20 := Tryz.sizeOf20
  v20 := Tryz.zeroValue20
  t37 := Tryz.underlying56
  a37 := Tryz.isAgg56
  z37 := Tryz.sizeOf56
  v37 := Tryz.zeroValue56
  t46 := Tryz.underlying116
  a46 := Tryz.isAgg116
  z46 := Tryz.sizeOf116
  v46 := Tryz.zeroValue116
  t51 := Tryz.underlying140
  a51 := Tryz.isAgg140
  z51 := Tryz.sizeOf140
  v51 := Tryz.zeroValue140
  t53 := Tryz.underlying98
  a53 := Tryz.isAgg98
  z53 := Tryz.sizeOf98
  v53 := Tryz.zeroValue98
  t171 := Tryz.underlying219
  a171 := Tryz.isAgg219
  z171 := Tryz.sizeOf219
  v171 := Tryz.zeroValue219
  t173 := Tryz.underlying222
  a173 := Tryz.isAgg222
  z173 := Tryz.sizeOf222
  v173 := Tryz.zeroValue222
  t212 := Tryz.underlying230
  a212 := Tryz.isAgg230
  z212 := Tryz.sizeOf230
  v212 := Tryz.zeroValue230
  t213 := Tryz.underlying231
  a213 := Tryz.isAgg231
  z213 := Tryz.sizeOf231
  t232 := Tryz.underlying248
  a232 := Tryz.isAgg248
  z232 := Tryz.sizeOf248
  v232 := Tryz.zeroValue248
  t233 := Tryz.underlying249
  a233 := Tryz.isAgg249
  z233 := Tryz.sizeOf249
  v233 := Tryz.zeroValue249
  g17 := by kernel_rfl
  g18 := by kernel_rfl
  g19 := by kernel_rfl
  i0 := by kernel_rfl
  i2 := by kernel_rfl
  i3 := by kernel_rfl
  i4 := by kernel_rfl
  i5 := by kernel_rfl
  i9 := by kernel_rfl
  i20 := by kernel_rfl
  i37 := by kernel_rfl
  i46 := by kernel_rfl
  i51 := by kernel_rfl
  i53 := by kernel_rfl
  i171 := by kernel_rfl
  i173 := by kernel_rfl
  i212 := by kernel_rfl
  i232 := by kernel_rfl
  i233 := by kernel_rfl
  m17 := by kernel_rfl
  m18 := by kernel_rfl
  m19 := by kernel_rfl }
end Go.Proofs
namespace Go.Proofs.YtckbkcjhalimpabGreatDoor
open Go Go.Shelf Go.RowKit
theorem size82 : (Tryz.prog.info? 58).map (·.size) = some 2 := by kernel_rfl
theorem lies58 : liesAt Tryz.prog Tryz.prog.depth 58 (2 / Tryz.prog.cellsOf 58) 0 58 1 = true := by kernel_rfl
theorem lies155 : liesAt Tryz.prog Tryz.prog.depth 155 (5 / Tryz.prog.cellsOf 155) 0 58 1 = true := by kernel_rfl
theorem cells5 : Tryz.prog.cellsOf 5 = 1 := by kernel_rfl

set_option maxHeartbeats 1000000 in
set_option maxRecDepth 100000 in
theorem cc_used (b : Nat) (w : World) (h0 : w.cell? ⟨b, 0, none⟩ = some (.pointer (some ⟨b, 0, none⟩))) :
    Calls Tryz.prog 36 #[.pointer (some ⟨b, 0, none⟩)] w fun e w' => e = .returned (.tuple #[]) ∧ w' = w := by
  obtain ⟨j, hj, _⟩ := Option.map_eq_some_iff.1 size82
  go_enter Tryz.func36, Tryz.ntmps36
  go_wp2
  rw [Lib.run_neq_ptr_same w _ Tryz.underlying55 hj]
  go_wp2
  go_end0
  exact ⟨rfl, rfl⟩
set_option maxHeartbeats 1000000 in
set_option maxRecDepth 100000 in
theorem cc_fresh (t n : Nat) (hn : 0 < n) (hli : liesAt Tryz.prog Tryz.prog.depth t (n / Tryz.prog.cellsOf t) 0 58 1 = true) (b : Nat) (w : World) (h0 : w.cell? ⟨b, 0, none⟩ = some (.pointer none)) (hsh : w.shape? b = some (t, n)) (hfz : w.frozen? ⟨b, 0, none⟩ = false) :
    Calls Tryz.prog 36 #[.pointer (some ⟨b, 0, none⟩)] w fun e w' => e = .returned (.tuple #[]) ∧ w' = w.setCell ⟨b, 0, none⟩ (.pointer (some ⟨b, 0, none⟩)) := by
  obtain ⟨j, hj, hjs⟩ := Option.map_eq_some_iff.1 size82
  go_enter Tryz.func36, Tryz.ntmps36
  go_wp2
  rw [Lib.run_to_unsafe w ⟨b, 0, none⟩ Tryz.underlying55 Tryz.underlying113 hj (by rw [hjs]; decide) hsh (by show 0 < n; omega)]
  simp only [Result.andThen]
  rw [Oper.upon_value]
  go_wp2
  rw [run_callFunc_extern Tryz.func53 (by kernel_rfl) (by kernel_rfl) (by kernel_rfl) (e := Extern.AbiNoEscape.same) (by kernel_rfl)]
  rw [Lib.run_noEscape]
  simp only [Result.andThen]
  rw [Oper.upon_value]
  go_wp2
  rw [Lib.run_from_unsafe w ⟨b, 0, none⟩ Tryz.underlying113 Tryz.underlying55 hj hsh hli]
  simp only [Result.andThen]
  rw [Oper.upon_value]
  go_wp2
  go_end0
  exact ⟨rfl, rfl⟩
set_option maxHeartbeats 2000000 in
set_option maxRecDepth 100000 in
theorem bs_some (b off g cap : Nat) (C : Array Value) (l : List UInt8) (w : World) (c0 : w.cell? ⟨b, off + 1, none⟩ = some (.slice (some ⟨g, 0, none⟩) l.length cap)) (hg : w.heap[g]? = some (.cells C 5 (0, 0))) (h0 : l ≠ []) (hc : l.length ≤ cap) (hm : cap ≤ maxLen) (hs : C.size = cap)
    (hcell : ∀ (j : Nat) x, l[j]? = some x → C[j]? = some (.int .u8 (x.toNat : Int))) :
    Calls Tryz.prog 22 #[.pointer (some ⟨b, off, none⟩)] w fun e w' => e = .returned (.string ⟨l.toArray⟩) ∧ ∃ d, w' = World.freeze { w with drawn := d } ⟨g, 0, none⟩ l.length := by
  have hl0 : l.length ≠ 0 := by simpa using h0
  have c1 : w.drew.cell? ⟨b, off + 1, none⟩ = some (.slice (some ⟨g, 0, none⟩) l.length cap) := c0
  have hSD : (Builtin.unsafeSliceData_ #[56] 97 #[.slice (some ⟨g, 0, none⟩) l.length cap]).run Tryz.prog w.drew = .ok (.pointer (some ⟨g, 0, none⟩)) w.drew :=
    Lib.run_unsafeSliceData_row _ _ _ _ _ _ (by omega)
  have hUS : (Builtin.unsafeString_ #[97, 3] 9 #[.pointer (some ⟨g, 0, none⟩), .int .i64 l.length]).run Tryz.prog w.drew = .ok (.string ⟨l.toArray⟩) (w.drew.freeze ⟨g, 0, none⟩ l.length) := by
    refine Lib.run_unsafeString_row w.drew 97 3 9 5 Tryz.underlying97 cells5 g C.size (by have hg' : w.drew.heap[g]? = some (.cells C 5 (0, 0)) := hg; simp [World.shape?, hg']) l h0 (by omega) (by unfold maxLen at hm; omega) ?_
    intro j x hx
    have hg' : w.drew.heap[g]? = some (.cells C 5 (0, 0)) := hg
    have e : (⟨g, 0, none⟩ : Addr).add j = ⟨g, j, none⟩ := by simp [Addr.add]; omega
    rw [e, Lib.cell_of_heap hg']
    exact hcell j x hx
  clear hcell hs hm hc
  go_enter Tryz.func22, Tryz.ntmps22
  go_wp2
  go_region
  all_goals (go_wp2; go_ret; exact ⟨rfl, _, rfl⟩)
set_option maxHeartbeats 2000000 in
set_option maxRecDepth 100000 in
theorem bs_nil (b off : Nat) (w : World) (c0 : w.cell? ⟨b, off + 1, none⟩ = some (.slice none 0 0)) :
    Calls Tryz.prog 22 #[.pointer (some ⟨b, off, none⟩)] w fun e w' => e = .returned (.string ⟨#[]⟩) ∧ ∃ d, w' = { w with drawn := d } := by
  have hUS : ∀ W q, (Builtin.unsafeString_ #[97, 3] 9 #[.pointer q, .int .i64 0]).run Tryz.prog W = .ok (.string .empty) W := fun W q => Lib.run_unsafeString_none W _ _ _ q
  have c1 : w.drew.cell? ⟨b, off + 1, none⟩ = some (.slice none 0 0) := c0
  have hSD : (Builtin.unsafeSliceData_ #[56] 97 #[.slice none 0 0]).run Tryz.prog w.drew = .ok (.pointer none) w.drew := rfl
  go_enter Tryz.func22, Tryz.ntmps22
  go_wp2
  go_region
  all_goals (go_wp2; go_ret; exact ⟨rfl, _, rfl⟩)

theorem setRow_same {w : World} {b t : Nat} {C : Array Value} {fr : Nat × Nat} (hC : w.heap[b]? = some (.cells C t fr)) : w.setRow b C = w := by
  have h2 : (w.setRow b C).heap = w.heap := by
    apply Array.ext_getElem?
    intro k
    simp only [World.setRow, Array.getElem?_modify]
    split
    · rename_i e
      subst e
      rw [hC]
      rfl
    · rfl
  have h3 : w.setRow b C = { w with heap := (w.setRow b C).heap } := rfl
  rw [h3, h2]
theorem heap_below {w w' : World} (hb : Below w.heap.size w w') : ∃ os, w'.heap = w.heap ++ os := by
  refine ⟨w'.heap.extract w.heap.size w'.heap.size, ?_⟩
  apply Array.ext_getElem?
  intro k
  have hs := hb.size
  by_cases hk : k < w.heap.size
  · rw [hb.block k hk, Array.getElem?_append_left hk]
  · rw [Array.getElem?_append_right (by omega), Array.getElem?_extract]
    have e : w.heap.size + (k - w.heap.size) = k := by omega
    rw [e]
    split
    · rfl
    · rename_i h
      rw [Array.getElem?_eq_none (by omega)]
set_option maxRecDepth 100000 in
theorem copyOk : Hk.CopyCheckOk Tryz.prog ann 36 := by
  refine ⟨enters_of Tryz.func36 (by kernel_rfl) rfl, fun w b off t C hb hC hoff hc => ?_⟩
  have hb' : (t = 58 ∨ t = 155) ∧ off = 0 ∧ 0 < C.size ∧ liesAt Tryz.prog Tryz.prog.depth t (C.size / Tryz.prog.cellsOf t) 0 58 1 = true := by
    have hb1 : (t = 58 ∧ off = 0 ∧ C.size = 2) ∨ (t = 155 ∧ off = 0 ∧ C.size = 5) := by simpa [ann, and_assoc] using hb
    rcases hb1 with ⟨rfl, rfl, h2⟩ | ⟨rfl, rfl, h2⟩
    · exact ⟨.inl rfl, rfl, by omega, by rw [h2]; exact lies58⟩
    · exact ⟨.inr rfl, rfl, by omega, by rw [h2]; exact lies155⟩
  clear hb
  obtain ⟨_, rfl, hs, hli⟩ := hb'
  have hcell : w.cell? ⟨b, 0, none⟩ = C[0]? := by rw [Lib.cell_of_heap hC]
  have hset : ∀ v, w.setCell ⟨b, 0, none⟩ v = w.setRow b (C.toList.take 0 ++ [v] ++ C.toList.drop (0 + 1)).toArray := fun v => by
    rw [setCell_eq_setRow w b 0 C t (0, 0) v hC]
    congr 1
    apply Array.ext'
    obtain ⟨l⟩ := C
    cases l with
    | nil => simp at hs
    | cons x r => simp
  rcases hc with hc | hc
  · refine (cc_fresh t C.size hs hli b w (hcell.trans hc) (by simp [World.shape?, hC, hs]) (by simp [World.frozen?, hC])).mono ?_
    rintro e w' ⟨rfl, rfl⟩
    exact ⟨rfl, hset _⟩
  · refine (cc_used b w (hcell.trans hc)).mono ?_
    rintro e w' ⟨rfl, rfl⟩
    refine ⟨rfl, ?_⟩
    rw [← hset]
    have hx : (C.setIfInBounds 0 (Value.pointer (some ⟨b, 0, none⟩))) = C := by
      obtain ⟨l⟩ := C
      cases l with
      | nil => simp at hs
      | cons x r => simp at hc; subst hc; simp
    rw [setCell_eq_setRow w' b 0 C t (0, 0) _ hC, hx]
    exact (setRow_same hC).symm
theorem bldOk : Hk.BldStringOk Tryz.prog 22 5 :=
  ⟨enters_of Tryz.func22 (by kernel_rfl) rfl, fun w b off hc => bs_nil b off w hc, fun w b off g cap C l c0 hg h0 hc hm hs hcell => bs_some b off g cap C l w c0 hg h0 hc hm hs hcell⟩
theorem extra105 : Builder.Extra Tryz.prog Tryz.lays105_ren where
  sizeBuilder := by kernel_rfl
  liesBuilder := by kernel_rfl
  t5 := Tryz.underlying5
  a5 := Tryz.isAgg5
  z5 := Tryz.sizeOf5
  v5 := Tryz.zeroValue5
  infoByte := by kernel_rfl
  cellsByte := by kernel_rfl
  sizeByte := by kernel_rfl
  neB5 := by decide
theorem repeatL_one' (b : UInt8) : ∀ n, Lib.repeatL [b] n = List.replicate n b
  | 0 => rfl
  | n + 1 => by simp [Lib.repeatL, repeatL_one' b n, List.replicate_succ]
theorem repOk : Hk.FnOk Tryz.prog ann 38 Hk.repG := by
  refine ⟨enters_of Tryz.func38 (by kernel_rfl) rfl, fun G h w args X v i gl hl hr hg => ?_⟩
  unfold Hk.repG at hg
  split at hg
  case h_2 => cases hg
  rename_i b n
  split at hg
  case isFalse => cases hg
  rename_i hn
  cases hg
  have h0 := (hr 0 _ rfl).str_inv
  have h1 := (hr 1 _ rfl).int_inv
  have hX : X = #[.string ⟨#[b]⟩, .int .i64 n] := by
    obtain ⟨l⟩ := X
    match l, hl, h0, h1 with
    | [x, y], _, h0, h1 => simp at h0 h1; subst h0; subst h1; rfl
  subst hX
  have e : n = (n.toNat : Int) := by omega
  have key := Any.strings_Repeat Tryz.lays105 extra105 ⟨#[b]⟩ n.toNat w (by omega) (by show 1 * n.toNat ≤ _; omega)
  rw [← e] at key
  refine Calls.mono key fun e w' hp => ?_
  obtain ⟨rfl, hb⟩ := hp
  refine ⟨⟨_, rfl, ?_⟩, hb.os, hb.tape, hb.output, ?_⟩
  · show Hk.RelP G.H (.str (List.replicate n.toNat b)) (.string ⟨(Lib.repeatL [b] n.toNat).toArray⟩)
    rw [repeatL_one']
    exact .str _
  · exact heap_below hb
theorem dig_eq : ∀ (k n : Nat) (a : List UInt8), n < 10 ^ k → 0 < k → Hk.digF k n a = Lib.decDigits n ++ a
  | 0, n, a, h, hk => absurd hk (by omega)
  | k + 1, n, a, h, _ => by
    rw [Lib.decDigits]
    unfold Hk.digF
    by_cases h10 : n < 10
    · rw [if_pos h10, dif_pos h10]; rfl
    · rw [if_neg h10, dif_neg h10]
      have hk : 0 < k := by
        cases k with
        | zero => simp at h; omega
        | succ k => omega
      rw [dig_eq k (n / 10) _ (by rw [Nat.pow_succ] at h; omega) hk, List.append_assoc]
      rfl
theorem gPowName : Tryz.prog.globalNamed "internal/strconv.uint64pow10" = some 3 := by kernel_rfl
theorem itoaOk : Hk.FnOk Tryz.prog ann 112 Hk.itoaG := by
  refine ⟨enters_of Tryz.func112 (by kernel_rfl) rfl, fun G h w args X v i gl hl hr hg => ?_⟩
  unfold Hk.itoaG at hg
  split at hg
  case h_2 => cases hg
  rename_i n
  split at hg
  case isFalse => cases hg
  rename_i hn
  cases hg
  have h0 := (hr 0 _ rfl).int_inv
  have hX : X = #[.int .i64 n] := by
    obtain ⟨l⟩ := X
    match l, hl, h0 with
    | [x], _, h0 => simp at h0; subst h0; rfl
  subst hX
  have htab : Lib.TabIs Tryz.prog w "internal/strconv.uint64pow10" .u64 Lib.pow10Tab := by
    obtain ⟨_, C, e, fr, hC, hs⟩ := gl.size 3 20 rfl
    have hcell : ∀ (j : Nat) (z : Int), powN[j]? = some z → C[j]? = some (Value.int .u64 z) := by
      intro j z hz
      have hp := gl.cells 3 gPow rfl
      cases hp with
      | pptr _ _ _ V hH hk hV =>
        have hc : gPow[j]? = some (Hk.AVal.int .u64 z) := by unfold gPow; rw [List.getElem?_map, hz]; rfl
        have h1 := i.ok _ _ _ (hH j _ hc)
        have h2 := (Hk.RelV.p (G := G) (h := h) _ _ (hV j _ hc)).int_inv
        rw [Nat.zero_add, Lib.cell_of_heap hC, h2] at h1
        exact h1
    have hC' : C = (Lib.pow10Tab.map fun z => Value.int .u64 z).toArray := by
      have e20 : Lib.pow10Tab = powN := by decide +kernel
      rw [e20]
      apply Array.ext_getElem?
      intro j
      by_cases hj : j < 20
      · obtain ⟨z, hz⟩ : ∃ z, powN[j]? = some z := ⟨_, List.getElem?_eq_getElem (by show j < 20; exact hj)⟩
        rw [hcell j z hz]
        simp [hz]
      · rw [Array.getElem?_eq_none (by omega), Array.getElem?_eq_none (by show 20 ≤ j; omega)]
    unfold Lib.TabIs World.var?
    rw [gPowName]
    simp only [Option.bind_some, hC, hC']
  have key := Any.strconv_Itoa Tryz.laysM171 n hn.1 hn.2 w htab
  refine Calls.mono key fun e w' hp => ?_
  obtain ⟨rfl, k, os, rfl⟩ := hp
  refine ⟨⟨_, rfl, ?_⟩, rfl, rfl, rfl, ⟨os, rfl⟩⟩
  · have e : Hk.itoaA n = Lib.itoa n := by
      unfold Hk.itoaA Lib.itoa
      split
      · rw [dig_eq 20 _ _ (by omega) (by omega), List.append_nil]
      · rw [dig_eq 20 _ _ (by omega) (by omega), List.append_nil]
    rw [← e]
    exact .str _
end Go.Proofs.YtckbkcjhalimpabGreatDoor
