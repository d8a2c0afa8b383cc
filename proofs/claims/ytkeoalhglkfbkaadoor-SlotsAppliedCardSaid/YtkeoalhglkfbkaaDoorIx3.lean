/-
  The texts IX.R1, IX.R2, IX.R3, IX.S1, IX.S2, IX.S3, IX.S4, IX.S5, IX.M3, IX.D1, IX.D2, IX.D3, IX.D4, IX.D5, IX.D6, IX.D7, IX.D8, IX.D9, IX.D10, IX.D11, IX.D12, IX.D13, IX.D14, IX.D15, IX.D16, IX.D17, IX.D18, IX.L39, IX.D19, IX.D20, IX.D21, IX.M6, IX.L44, one behind another. No conditions.
-/
import Derived.Test.YtkeoalhglkfbkaaDoorIx2
import Derived.KernelRfl
import Derived.Test.YtkeoalhglkfbkaaDoorIx1
set_option linter.unusedVariables false
set_option linter.unusedSimpArgs false
set_option linter.unusedSectionVars false
set_option linter.all false
/-
  The document's Uses, and the fate of a temp. No conditions.
-/
namespace Go.Proofs.YtkeoalhglkfbkaaDoor
open Go Hk Go.Proofs.Wd

/-! ### Numbers in a slice that is written into -/
def VI (id : Nat) : List Int → AVal
  | [] => .slice [] (.own id)
  | w :: r => .vslice id (r.length + 1) 0 (r.length + 1) 1
def XI : List Int → ABlk
  | [] => .front 0 0
  | w :: r => .vec (r.length + 1) 1 ((w :: r).map intc)

section
variable {A B C : List ABlk} {ws : List Int} {id m i : Nat} {h : Heap} {k : IntKind}
theorem VI_len : alenSl (VI id ws) = some (.int .i64 (ws.length : Int)) := by cases ws <;> rfl
theorem VI_san (hi : id < m) : AVal.san m h (VI id ws) = VI id ws := by
  cases ws with
  | nil => simp [VI, hi]
  | cons w r => exact san_vslice hi
theorem XI_ok : XOk (XI ws) := by
  intro m h
  cases ws with
  | nil => rfl
  | cons w r =>
    have : sanCells m h ((w :: r).map intc) = some ((w :: r).map intc) := sanCells_ints fun c hc => by
      obtain ⟨x, _, rfl⟩ := List.mem_map.1 hc; exact ⟨_, _, rfl⟩
    show (sanCells m h ((w :: r).map intc)).map _ = _
    rw [this]; rfl
theorem VI_index (hi : i < ws.length) : aindexSl 1 (VI id ws) (.int k (i : Int)) = some (.vptr id ws.length i) := by
  cases ws with
  | nil => simp at hi
  | cons w r =>
    have : i < r.length + 1 := by simpa using hi
    simp [VI, this]
theorem getVec_XI (h0 : ws ≠ []) : getVec (OQ A (XI ws) B) A.length ws.length = some (1, ws.map intc) := by
  unfold getVec
  rw [OQ_get?]
  cases ws with
  | nil => exact absurd rfl h0
  | cons w r => simp [XI]
theorem VI_load (hi : i < ws.length) : aload false 1 (OQ A (XI ws) B) (.vptr A.length ws.length i) = some (intc (ws.getD i 0)) := by
  rw [aload_vptr, getVec_XI (by intro e; subst e; simp at hi)]
  simp [List.getD_eq_getElem?_getD, hi]
theorem VI_append (hl : ws.length ≤ 2000000) (w : Int) {t : Hk.Tok} : aappendV 1 8 (OQ A (XI ws) B) (VI A.length ws) (.slice [[intc w]] t) = some (VI A.length (ws ++ [w]), OQ A (XI (ws ++ [w])) B) := by
  have hr : arowsS 1 (OQ A (XI ws) B) (.slice [[intc w]] t) = some [[intc w]] := by simp
  cases ws with
  | nil =>
    unfold aappendV
    simp only [VI, hr]
    rw [OQ_get?]
    simp [XI, VI, OQ_put]
  | cons x r =>
    have hg := getVec_XI (A := A) (B := B) (ws := x :: r) (by simp)
    unfold aappendV
    simp only [VI, hr]
    simp only [List.length_cons] at hg hl ⊢
    rw [hg]
    simp only [List.length_nil, Nat.zero_add]
    rw [if_pos ⟨trivial, trivial, by omega, by omega⟩, if_neg (by omega), if_neg (by omega)]
    simp [XI, VI, OQ_put, List.take_of_length_le]
end

theorem c100e (o : Op) : evW Tryd.prog ann 100 [.agg o.cells] [] = some (.ret (VI 0 (usesS o)), [XI (usesS o)]) := by
  refine evW_by (m100_eq _ _ _) ?_
  have f0 : ∀ (z : Int) (h : Heap), abuildSlice 1 1 [.int .i64 0] [(0, .int .i64 z)] h = some (.slice [[intc z]] (.own h.length), h ++ [.front 1 1]) := fun z h => rfl
  have gb : ∀ C, getBlk (.cells o.cells :: C) 0 = some o.cells := fun C => rfl
  have ap : ∀ (l : List Int) (z : Int) (C : Heap) (t : Hk.Tok), l.length ≤ 10 → aappendV 1 8 (.cells o.cells :: .front 0 0 :: XI l :: C) (VI 2 l) (.slice [[intc z]] t) = some (VI 2 (l ++ [z]), .cells o.cells :: .front 0 0 :: XI (l ++ [z]) :: C) := fun l z C t hl => by
    have g := VI_append (A := [.cells o.cells, .front 0 0]) (B := C) (ws := l) (by omega) z (t := t)
    simpa [OQ] using g
  have a1 := fun z C t => ap [] z C t (by simp)
  have a2 := fun x z C t => ap [x] z C t (by simp)
  have a3 := fun x y z C t => ap [x, y] z C t (by simp)
  have x0 : XI [] = .front 0 0 := rfl
  have v0 : VI 2 [] = .slice [] (.own 2) := rfl
  have hs := form_src o.kind
  have c163 := c163 o.kind
  have hA := hasA o.kind
  have hB := hasB o.kind
  have hC := hasC o.kind
  have o0 : finO 0 (.slice [] (.own 2)) [.cells o.cells, .front 0 0, .front 0 0] = some (.ret (VI 0 []), [XI []]) := by kernel_rfl
  have o1 : ∀ x, finO 0 (VI 2 [x]) [.cells o.cells, .front 0 0, XI [x], .front 1 1] = some (.ret (VI 0 [x]), [XI [x]]) := fun x => by kernel_rfl
  have o2 : ∀ x y, finO 0 (VI 2 [x, y]) [.cells o.cells, .front 0 0, XI [x, y], .front 1 1, .front 1 1] = some (.ret (VI 0 [x, y]), [XI [x, y]]) := fun x y => by kernel_rfl
  have o3 : ∀ x y z, finO 0 (VI 2 [x, y, z]) [.cells o.cells, .front 0 0, XI [x, y, z], .front 1 1, .front 1 1, .front 1 1] = some (.ret (VI 0 [x, y, z]), [XI [x, y, z]]) := fun x y z => by kernel_rfl
  unfold usesS
  simp only [x0, v0, List.nil_append, List.cons_append] at a1 a2 a3
  simp only [Op.cells] at gb a1 a2 a3 o0 o1 o2 o3 ⊢
  rcases (show (formS o.kind).src = 0 ∨ (formS o.kind).src = 1 ∨ (formS o.kind).src = 2 ∨ (formS o.kind).src = 3 by omega) with h0 | h0 | h0 | h0 <;>
    rw [h0] at hA hB hC ⊢ <;>
    simp -implicitDefEqProofs [m100, gb, c163, hA, hB, hC, f0, a1, a2, a3, x0, v0, o0, o1, o2, o3]
theorem pureBack_vec {n : Nat} {cs : List AVal} {h : Heap} (h1 : cs.all (AVal.ok0 fun j => decide (j < 1)) = true) (h2 : ∀ f, cs.map (AVal.ren0 f) = cs) : pureBack true h (.ret (.vslice 0 n 0 n 1), [.vec n 1 cs]) = some (.ret (.vslice h.length n 0 n 1), h ++ [.vec n 1 cs]) := by
  have e1 : (ABlk.vec n 1 cs).ok (fun j => decide (j < 1)) = true := h1
  have e2 : ∀ f, (ABlk.vec n 1 cs).ren f = .vec n 1 cs := fun f => by simp only [ABlk.ren, h2 f]
  have e3 : ([ABlk.vec n 1 cs] : Heap).all (ABlk.ok fun j => decide (j < ([ABlk.vec n 1 cs] : Heap).length)) = true := by
    rw [List.all_cons, List.all_nil, Bool.and_true]; exact e1
  have e4 : Res.ok (fun j => decide (j < ([ABlk.vec n 1 cs] : Heap).length)) (.ret (.vslice 0 n 0 n 1)) = true := rfl
  simp only [pureBack, e3, e4, Bool.and_true, cond_true, List.map_cons, List.map_nil, e2]
  rfl
theorem c100 (o : Op) (h : Heap) : KK 100 [.agg o.cells] h = some (.ret (VI h.length (usesS o)), h ++ [XI (usesS o)]) := by
  have hp : ann.pure 100 = true := rfl
  have hs : [AVal.agg o.cells].all (AVal.shut1 0) = true := rfl
  simp only [KK, callP, hp, hs, cond_true, c100e, Option.bind_some]
  have ho : ann.out 100 = true := rfl
  rw [ho]
  generalize usesS o = l
  cases l with
  | nil => rfl
  | cons x r => exact pureBack_vec (by simp [intc, AVal.ok0, refOf]) (by intro f; simp [intc, AVal.ren0])

/-! ### The fate of a temp -/
theorem m158_inner {A C : List ABlk} (hB : KB A C) {u : List Int} (hu : u.length ≤ 10) (t k : Int) : ∀ (d i : Nat), u.length = i + d →
    ∃ j : Int, lpW (m158_l0 KK (HN A C)) ([.int .i64 t, .ptr 0 0, .int .i64 0, .int .i64 k, VI A.length u, .int .i64 (i : Int)], OQ A (XI u) C) =
      some (if t ∈ u.drop i then .ret else .exit 2, [.int .i64 t, .ptr 0 0, .int .i64 (if t ∈ u.drop i then 1 else 0), .int .i64 k, VI A.length u, .int .i64 j], OQ A (XI u) C) := by
  have htr := OQ_trunc0 (X := XI u) (A := A) (B := C) hB XI_ok
  have hsn := fun h => VI_san (ws := u) (m := HN A C) (h := h) A_lt0
  have hsp : ∀ h, AVal.san (HN A C) h (.ptr 0 0) = .ptr 0 0 := fun h => san_ptr_lt (by simp [HN]; omega)
  intro d
  induction d with
  | zero =>
    intro i hd
    obtain rfl : u.length = i := by omega
    refine ⟨(u.length : Int), ?_⟩
    rw [List.drop_length]
    refine lp_exit ?_
    unfold m158_l0
    simp -implicitDefEqProofs [VI_len, endR, htr, hsn, hsp]
  | succ d ih =>
    intro i hd
    have hil : i < u.length := by omega
    have hil' : (i : Int) < (u.length : Int) := by omega
    have hx : u[i]? = some u[i] := List.getElem?_eq_getElem hil
    have w1 : IntKind.i64.wrap ((i : Int) + 1) = ((i + 1 : Nat) : Int) := by rw [wrap64 (by omega) (by omega), Int.natCast_add]; rfl
    have ix := fun k => VI_index (id := A.length) (k := k) hil
    have ld := VI_load (A := A) (B := C) hil
    have hgd : u.getD i 0 = u[i] := by simp [List.getD_eq_getElem?_getD, hx]
    rw [hgd] at ld
    rw [List.drop_eq_getElem_cons hil]
    generalize u[i] = z at *
    by_cases hz : z = t
    · subst hz
      refine ⟨(i : Int), ?_⟩
      rw [if_pos (by simp), if_pos (by simp)]
      refine lp_ret ?_
      unfold m158_l0
      simp -implicitDefEqProofs [-aload_vptr, VI_len, hil', ix, ld, intc, endR, htr, hsn, hsp]
    · obtain ⟨j, g⟩ := ih (i + 1) (by omega)
      refine ⟨j, ?_⟩
      have hm : (t ∈ z :: u.drop (i + 1)) ↔ t ∈ u.drop (i + 1) := by
        rw [List.mem_cons]; exact ⟨fun h => h.elim (fun e => absurd e.symm hz) id, .inr⟩
      simp only [hm]
      rw [← g]
      refine lp_go ?_
      generalize ((i + 1 : Nat) : Int) = i1 at *
      unfold m158_l0
      simp -implicitDefEqProofs [-aload_vptr, VI_len, hil', ix, ld, intc, hz, w1, endR, htr, hsn, hsp]

theorem m158_loop {b : Blk} (hb : b.ops.length ≤ 1048576) (t : Int) : ∀ (d i : Nat), b.ops.length = i + d →
    ∃ (e : Ex) (r j : Int), lpW (m158_l1 KK 1) ([.int .i64 t, .ptr 0 0, .int .i64 0, .int .i64 (i : Int)], [.cells b.cells]) = some (e, [.int .i64 t, .ptr 0 0, .int .i64 r, .int .i64 j], [.cells b.cells]) ∧
      ((e = .ret ∧ r = fateS (b.ops.drop i) b.term t) ∨ (e = .exit 0 ∧ fateS (b.ops.drop i) b.term t = fateS [] b.term t)) := by
  have htr : ∀ C, trunc 1 (.cells b.cells :: C) = some [.cells b.cells] := fun C => trunc_app (h := [.cells b.cells]) (C := C) (KBn_cells (by simp [Blk.cells]) KBn_nil)
  have hsp : ∀ h, AVal.san 1 h (.ptr 0 0) = .ptr 0 0 := fun h => san_ptr_lt (by omega)
  have ld : ∀ C, aload false 1 (.cells b.cells :: C) (.ptr 0 0) = some (.slice (b.ops.map Op.cells) .no) := fun C => rfl
  intro d
  induction d with
  | zero =>
    intro i hd
    obtain rfl : b.ops.length = i := by omega
    rw [List.drop_length]
    refine ⟨.exit 0, 0, (b.ops.length : Int), lp_exit ?_, .inr ⟨rfl, rfl⟩⟩
    unfold m158_l1
    simp -implicitDefEqProofs [-aload_ptr, ld, endR, htr, hsp]
  | succ d ih =>
    intro i hd
    have hil : i < b.ops.length := by omega
    have hil' : (i : Int) < (b.ops.length : Int) := by omega
    have hx : b.ops[i]? = some b.ops[i] := List.getElem?_eq_getElem hil
    have w1 : IntKind.i64.wrap ((i : Int) + 1) = ((i + 1 : Nat) : Int) := by rw [wrap64 (by omega) (by omega), Int.natCast_add]; rfl
    rw [List.drop_eq_getElem_cons hil]
    generalize b.ops[i] = o at *
    have g100 := c100 o [.cells b.cells]
    have g101 := c101 o
    have hB : KB [ABlk.cells b.cells] [] := ⟨fun n _ => KBn_cells (by simp [Blk.cells]) KBn_nil, fun n _ => KBn_nil⟩
    obtain ⟨j0, gi⟩ := m158_inner hB (u := usesS o) (by have := uses_len o; omega) t (i : Int) (usesS o).length 0 (by omega)
    have eq : [ABlk.cells b.cells] ++ [XI (usesS o)] = OQ [ABlk.cells b.cells] (XI (usesS o)) [] := rfl
    rw [eq] at g100
    have hl3 : [ABlk.cells b.cells].length = 1 := rfl
    rw [hl3] at g100
    rw [hl3] at gi
    simp only [List.drop_zero, Int.cast_ofNat_Int] at gi
    have eld : aload false 1 (OQ [ABlk.cells b.cells] (XI (usesS o)) []) (.ptr 0 0) = some (.slice (b.ops.map Op.cells) .no) := rfl
    have etr : trunc 1 (OQ [ABlk.cells b.cells] (XI (usesS o)) []) = some [.cells b.cells] := htr _
    have elen : (OQ [ABlk.cells b.cells] (XI (usesS o)) []).length = HN [ABlk.cells b.cells] [] := OQ_len
    have ixo : aindexSl 6 (.slice (b.ops.map Op.cells) .no) (.int .i64 (i : Int)) = some (.pptr o.cells) := by rw [aindexSl_map, hx]; rfl
    simp only [fateS]
    generalize hH3 : OQ [ABlk.cells b.cells] (XI (usesS o)) [] = H3 at *
    generalize VI 1 (usesS o) = V3 at *
    clear hH3 eq hB
    simp only [Op.cells] at ixo g100 g101
    by_cases hu : t ∈ usesS o
    · rw [if_pos hu, if_pos hu] at gi
      rw [if_pos hu]
      refine ⟨.ret, 1, (i : Int), lp_ret ?_, .inl ⟨rfl, rfl⟩⟩
      unfold m158_l1
      simp -implicitDefEqProofs [-aload_ptr, -OQ_len, ld, hil', ixo, g100, elen, gi, endR, etr, hsp]
    · rw [if_neg hu, if_neg hu] at gi
      rw [if_neg hu]
      by_cases hd1 : (formS o.kind).dst = true ∧ o.dst = t
      · rw [if_pos hd1]
        obtain ⟨d1, d2⟩ := hd1
        rw [d1] at g101
        rw [d2] at g100 g101 ixo
        refine ⟨.ret, 2, (i : Int), lp_ret ?_, .inl ⟨rfl, rfl⟩⟩
        unfold m158_l1
        simp -implicitDefEqProofs [-aload_ptr, -OQ_len, ld, hil', ixo, g100, elen, gi, eld, g101, d2, endR, etr, hsp]
      · rw [if_neg hd1]
        obtain ⟨e, r, j, g1, g2⟩ := ih (i + 1) (by omega)
        refine ⟨e, r, j, ?_, g2⟩
        rw [← g1]
        refine lp_go ?_
        generalize ((i + 1 : Nat) : Int) = i1 at *
        cases hf : (formS o.kind).dst
        · rw [hf] at g101
          unfold m158_l1
          simp -implicitDefEqProofs [-aload_ptr, -OQ_len, ld, hil', ixo, g100, elen, gi, eld, g101, w1, endR, etr, hsp]
        · have d2 : ¬ o.dst = t := fun e => hd1 ⟨hf, e⟩
          rw [hf] at g101
          unfold m158_l1
          simp -implicitDefEqProofs [-aload_ptr, -OQ_len, ld, hil', ixo, g100, elen, gi, eld, g101, d2, w1, endR, etr, hsp]
theorem c158 {b : Blk} (hb : b.ops.length ≤ 1048576) (t : Int) (h : Heap) : KK 158 [.agg b.cells, .int .i64 0, .int .i64 t] h = some (.ret (.int .i64 (fateS b.ops b.term t)), h) := by
  refine callP_pure rfl rfl (evW_by (m158_eq _ _ _ _ _) ?_)
  obtain ⟨e, r, j, g1, g2⟩ := m158_loop hb t b.ops.length 0 (by omega)
  simp only [List.drop_zero, Int.cast_ofNat_Int, Blk.cells] at g1 g2 ⊢
  rcases g2 with ⟨rfl, rfl⟩ | ⟨rfl, g2⟩
  · simp [m158, g1, finR_zero]
  · rw [g2]
    simp only [fateS]
    by_cases k2 : b.term.kind = 2
    · by_cases ha : b.term.a = t
      · rw [k2, ha] at g1
        simp [m158, g1, k2, ha, finR_zero]
      · rw [k2] at g1
        simp [m158, g1, k2, ha, finR_zero]
    · simp [m158, g1, k2, finR_zero]

theorem c131 (t : Term) (h : Heap) : KK 131 [.agg t.cells] h = some (.ret (.slice (ints (leadsS t)) .no), h) := by
  refine callP_pure rfl rfl (evW_by (m131_eq _ _ _) ?_)
  have f0 : ∀ (z : Int) (h : Heap), abuildSlice 1 1 [.int .i64 0] [(0, .int .i64 z)] h = some (.slice [[.int .i64 z]] (.own h.length), h ++ [.front 1 1]) := fun z h => rfl
  have a1 : ∀ X Y z C t, aappend 1 8 (X :: Y :: .front 0 0 :: C) (.slice [] (.own 2)) (.slice [[.int .i64 z]] t) = some (.slice [[.int .i64 z]] (.own 2), X :: Y :: .front 1 1 :: C) := fun X Y z C t => by
    have := FR_append (h := [X, Y]) (C := C) (l := []) (z := z) (by simp) (t := t)
    simpa [FR, ints] using this
  have a2 : ∀ X Y y z C t, aappend 1 8 (X :: Y :: .front 1 1 :: C) (.slice [[.int .i64 y]] (.own 2)) (.slice [[.int .i64 z]] t) = some (.slice [[.int .i64 y], [.int .i64 z]] (.own 2), X :: Y :: .front 2 1 :: C) := fun X Y y z C t => by
    have := FR_append (h := [X, Y]) (C := C) (l := [y]) (z := z) (by simp) (t := t)
    simpa [FR, ints] using this
  unfold leadsS
  simp only [Term.cells]
  by_cases k1 : t.kind = 1
  · by_cases hy : 0 ≤ t.yes
    · simp [m131, k1, hy, f0, a1, finR_zero, ints]
    · simp [m131, k1, hy, f0, a1, finR_zero, ints]
  by_cases k2 : t.kind = 2
  · by_cases hy : 0 ≤ t.yes <;> by_cases hn : 0 ≤ t.no <;> simp [m131, k1, k2, hy, hn, f0, a1, a2, finR_zero, ints]
  · simp [m131, k1, k2, finR_zero, ints]
end Go.Proofs.YtkeoalhglkfbkaaDoor

/-
  The way that is looked for, and what it tells. No conditions.
-/
namespace Go.Proofs.YtkeoalhglkfbkaaDoor
open Go Hk Go.Proofs.Wd

/-- The heap of 'way'. -/
def HW (p : IR) (seen : List Bool) (l r : List Int) : Heap := [.cells p.cells, .cells (seen.map AVal.bool), .vec (l ++ r).length 1 ((l ++ r).map intc)]
def WV (l r : List Int) : AVal := .vslice 2 (l ++ r).length 0 l.length 1
theorem bools_CBn {n : Nat} (l : List Bool) : CBn n (l.map AVal.bool) := CBn_of fun c hc => by
  obtain ⟨x, _, rfl⟩ := List.mem_map.1 hc
  exact ⟨fun m h _ => rfl, rfl⟩
theorem intc_CBn {n : Nat} (l : List Int) : CBn n (l.map intc) := CBn_of fun c hc => by
  obtain ⟨x, _, rfl⟩ := List.mem_map.1 hc
  exact ⟨fun m h _ => rfl, rfl⟩
theorem KBn_vec {n tot sz : Nat} {cs : List AVal} {C : List ABlk} (h1 : CBn n cs) (h : KBn n C) : KBn n (.vec tot sz cs :: C) := fun m x hm => by simp [h m x hm, h1 m x hm]
theorem HW_KBn {p : IR} {seen : List Bool} {l r : List Int} {n : Nat} : KBn n (HW p seen l r) := KBn_cells HB_CBn (KBn_cells (bools_CBn _) (KBn_vec (intc_CBn _) KBn_nil))
theorem WV_len {l r : List Int} : alenSl (WV l r) = some (.int .i64 (l.length : Int)) := rfl
theorem WV_san {l r : List Int} {h : Heap} : AVal.san 3 h (WV l r) = WV l r := rfl
theorem ints_flat (l : List Int) : (ints l).flatten = l.map intc := by
  induction l with
  | nil => rfl
  | cons x r ih => simp only [ints, List.map_cons, List.flatten_cons, intc, List.cons_append, List.nil_append]; rw [← ih]; rfl
theorem WV_append {p : IR} {seen : List Bool} {l r new : List Int} {C : Heap} (hl : (l ++ r).length ≤ 4000000) (hn : new.length ≤ 4000000) {t : Hk.Tok} :
    ∃ r', (l ++ new ++ r').length ≤ max (l ++ r).length (l ++ new).length ∧ aappendV 1 8 (HW p seen l r ++ C) (WV l r) (.slice (ints new) t) = some (WV (l ++ new) r', HW p seen (l ++ new) r' ++ C) := by
  have hr : ∀ H : Heap, arowsS 1 H (.slice (ints new) t) = some (ints new) := fun H => by simp [ints]
  have hil : (ints new).length = new.length := by simp [ints]
  have gv : getVec (HW p seen l r ++ C) 2 (l ++ r).length = some (1, (l ++ r).map intc) := by simp [HW]
  simp only [List.length_append] at hl
  by_cases h0 : new.length = 0
  · obtain rfl := List.eq_nil_of_length_eq_zero h0
    refine ⟨r, by simp, ?_⟩
    unfold aappendV WV
    simp only [hr, gv, hil]
    rw [if_pos ⟨trivial, trivial, by omega, by omega⟩, if_pos h0]
    simp
  · by_cases h1 : l.length + new.length ≤ (l ++ r).length
    · refine ⟨r.drop new.length, ?_, ?_⟩
      · simp only [List.length_append, List.length_drop] at h1 ⊢; omega
      · have hpc : putCells ((l ++ r).map intc) (l.length * 1) (ints new).flatten = (l ++ new ++ r.drop new.length).map intc := by
          rw [ints_flat]
          unfold putCells
          simp only [List.map_append, Nat.mul_one, List.length_map]
          have e1 : (l.map intc ++ r.map intc).take l.length = l.map intc := by
            have := List.take_left (l₁ := l.map intc) (l₂ := r.map intc)
            rwa [List.length_map] at this
          have e2 : (l.map intc ++ r.map intc).drop (l.length + new.length) = (r.drop new.length).map intc := by
            have := List.drop_left (l₁ := l.map intc) (l₂ := r.map intc)
            rw [List.length_map] at this
            rw [← List.drop_drop, this, List.map_drop]
          rw [e1, e2]
        have htot : (l ++ new ++ r.drop new.length).length = (l ++ r).length := by
          simp only [List.length_append, List.length_drop] at h1 ⊢; omega
        have hln : (l ++ new).length = l.length + new.length := by simp
        unfold aappendV WV
        simp only [hr, gv, hil]
        rw [if_pos ⟨trivial, trivial, by omega, by omega⟩, if_neg h0, if_pos h1, hpc, htot, hln]
        simp [HW, htot]
        simp only [List.length_append, List.length_drop] at h1 ⊢
        omega
    · refine ⟨[], by simp; omega, ?_⟩
      have hln : (l ++ new).length = l.length + new.length := by simp
      have hpc : ((l ++ r).map intc).take (l.length * 1) ++ (ints new).flatten = (l ++ new).map intc := by
        rw [ints_flat, Nat.mul_one]
        simp only [List.map_append]
        have := List.take_left (l₁ := l.map intc) (l₂ := r.map intc)
        rw [List.length_map] at this
        rw [this]
      unfold aappendV WV
      simp only [hr, gv, hil]
      rw [if_pos ⟨trivial, trivial, by omega, by omega⟩, if_neg h0, if_neg h1, hpc]
      simp [HW]

def cf (l : List Bool) : Nat := (l.filter fun b => !b).length
theorem cf_set : ∀ {l : List Bool} {k : Nat}, l[k]? = some false → cf (l.set k true) + 1 = cf l
  | [], k, h => by simp at h
  | x :: r, 0, h => by simp at h; subst h; simp [cf]
  | x :: r, k + 1, h => by
    have ih := cf_set (l := r) (k := k) (by simpa using h)
    cases x <;> simp [cf] at ih ⊢ <;> omega
theorem cf_le (l : List Bool) : cf l ≤ l.length := List.length_filter_le _ _

section
variable {p : IR} (hp : OpsOk p) (hl : ∀ b ∈ p.blocks, leadsP b.term = leadsS b.term) (t : Int) {src : List Int} (hsrc : ∀ f ∈ src, 0 ≤ f)
include hp hl hsrc
theorem m130_loop : ∀ (n : Nat) (seen : List Bool) (l r : List Int), 3 * cf seen + l.length < n → n ≤ 4000000 → (l ++ r).length ≤ 4000000 → WayInv p.blocks t src seen l →
    ∃ (e : Ex) (rb : Bool) (seen' : List Bool) (l' r' : List Int), lpW (m130_l0 KK 3) ([.int .i64 t, .ptr 0 0, .bool false, .mslice 1 0 p.blocks.length 1, WV l r], HW p seen l r) =
      some (e, [.int .i64 t, .ptr 0 0, .bool rb, .mslice 1 0 p.blocks.length 1, WV l' r'], HW p seen' l' r') ∧
      ((e = .ret ∧ rb = true ∧ ∃ f ∈ src, Reach p.blocks t f.toNat) ∨ (e = .exit 0 ∧ ¬ ∃ f ∈ src, Reach p.blocks t f.toNat)) := by
  have htr : ∀ seen l r C, trunc 3 (HW p seen l r ++ C) = some (HW p seen l r) := fun seen l r C => trunc_app (h := HW p seen l r) (C := C) HW_KBn
  have htr0 : ∀ seen l r, trunc 3 (HW p seen l r) = some (HW p seen l r) := fun seen l r => trunc_app0 (h := HW p seen l r) HW_KBn
  have hsp : ∀ h, AVal.san 3 h (.ptr 0 0) = .ptr 0 0 := fun h => san_ptr_lt (by omega)
  have hsm : ∀ h, AVal.san 3 h (.mslice 1 0 p.blocks.length 1) = .mslice 1 0 p.blocks.length 1 := fun h => rfl
  have ldA : ∀ seen l r, aload false 1 (HW p seen l r) (.ptr 0 2) = some (.slice (p.blocks.map Blk.cells) .no) := fun _ _ _ => rfl
  have hln : ∀ b ∈ p.blocks, ∀ j ∈ leadsS b.term, 0 ≤ j := fun b hb j hj => by rw [← hl b hb] at hj; exact (hp.lead b hb j hj).1
  intro n
  induction n with
  | zero => intro seen l r h; omega
  | succ n ih =>
    intro seen l r hn hn4 hlr hI
    rcases List.eq_nil_or_concat l with rfl | ⟨l0, k, rfl⟩
    · refine ⟨.exit 0, false, seen, [], r, lp_exit ?_, .inr ⟨rfl, hI.done⟩⟩
      have hw0 : alenSl (WV [] r) = some (.int .i64 0) := rfl
      unfold m130_l0
      simp -implicitDefEqProofs [-aload_ptr, hw0, endR, htr0, hsp, hsm, WV_san]
    · simp only [List.concat_eq_append] at hn hlr hI ⊢
      have happ : (l0 ++ [k]) ++ r = l0 ++ (k :: r) := by simp
      have hH : ∀ s, HW p s (l0 ++ [k]) r = HW p s l0 (k :: r) := fun s => by unfold HW; rw [happ]
      have hk := hI.lt k (by simp)
      obtain ⟨q, hq⟩ := Int.eq_ofNat_of_zero_le hk.1
      have hqn : q < p.blocks.length := by have := hk.2; rw [hq] at this; simpa using this
      have hsl : q < seen.length := by rw [hI.len]; exact hqn
      have hb : p.blocks[q]? = some p.blocks[q] := List.getElem?_eq_getElem hqn
      have hbm := List.getElem_mem hqn
      have hx : seen[q]? = some seen[q] := List.getElem?_eq_getElem hsl
      have hlen : alenSl (WV (l0 ++ [k]) r) = some (.int .i64 ((l0.length + 1 : Nat) : Int)) := by simp [WV_len]
      have hgt : (0 : Int) < ((l0.length + 1 : Nat) : Int) := by omega
      have hl0 : l0.length ≤ 4000000 := by simp only [List.length_append] at hlr; omega
      have w0 : IntKind.i64.wrap (((l0.length + 1 : Nat) : Int) - 1) = (l0.length : Int) := by rw [wrap64] <;> omega
      have ix : aindexSl 1 (WV (l0 ++ [k]) r) (.int .i64 (l0.length : Int)) = some (.vptr 2 (l0 ++ (k :: r)).length l0.length) := by
        unfold WV; rw [happ, aindexSl_vslice, if_pos ⟨by simp, rfl⟩]; simp
      have ldk : aload false 1 (HW p seen l0 (k :: r)) (.vptr 2 (l0 ++ (k :: r)).length l0.length) = some (.int .i64 (q : Int)) := by
        rw [aload_vptr]
        have : getVec (HW p seen l0 (k :: r)) 2 (l0 ++ (k :: r)).length = some (1, (l0 ++ (k :: r)).map intc) := by simp [HW]
        rw [this]
        simp [intc, hq]
      have sl : asliceSl 1 (WV (l0 ++ [k]) r) none (some (.int .i64 (l0.length : Int))) = some (WV l0 (k :: r)) := by
        have a2 : abound (some (.int .i64 (l0.length : Int))) (l0 ++ [k]).length = some l0.length := by simp [abound]
        unfold WV
        simp only [asliceSl, abound_none, a2, happ]
        rw [if_pos ⟨by omega, by simp, trivial⟩]
        simp
      have ixs : aindexSl 1 (.mslice 1 0 p.blocks.length 1) (.int .i64 (q : Int)) = some (.ptr 1 q) := by rw [aindexSl_mslice, if_pos ⟨hqn, rfl⟩]; simp
      have lds : aload false 1 (HW p seen l0 (k :: r)) (.ptr 1 q) = some (.bool seen[q]) := by
        rw [aload_ptr]
        have : getBlk (HW p seen l0 (k :: r)) 1 = some (seen.map AVal.bool) := rfl
        rw [this, Option.bind_some, List.getElem?_map, hx]; rfl
      obtain ⟨pa, ix, ldk⟩ : ∃ pa, aindexSl 1 (WV (l0 ++ [k]) r) (.int .i64 (l0.length : Int)) = some pa ∧ aload false 1 (HW p seen l0 (k :: r)) pa = some (.int .i64 (q : Int)) := ⟨_, ix, ldk⟩
      rw [hH]
      by_cases hsn : seen[q] = true
      · rw [hsn] at lds hx
        have hI2 := hI.skip (by rw [hq]; simpa using hx) hsrc hln
        obtain ⟨e, rb, s', l', r', g1, g2⟩ := ih seen l0 (k :: r) (by simp only [List.length_append, List.length_singleton] at hn; omega) (by omega) (by rw [← happ]; exact hlr) hI2
        refine ⟨e, rb, s', l', r', ?_, g2⟩
        rw [← g1]
        refine lp_go ?_
        have htr1 := htr0 seen l0 (k :: r)
        generalize ((l0.length + 1 : Nat) : Int) = z1 at *
        generalize HW p seen l0 (k :: r) = Hh at *
        unfold m130_l0
        simp -implicitDefEqProofs [-aload_ptr, -aload_vptr, hlen, hgt, w0, ix, ldk, sl, ixs, lds, endR, htr1, hsp, hsm, WV_san]
      · have hsf : seen[q] = false := by cases h : seen[q] <;> simp_all
        rw [hsf] at lds hx
        have hcf := cf_set hx
        have st : astore 1 (HW p seen l0 (k :: r)) (.ptr 1 q) (.bool true) = some (HW p (seen.set q true) l0 (k :: r)) := by
          rw [astore_ptr]
          have : getBlk (HW p seen l0 (k :: r)) 1 = some (seen.map AVal.bool) := rfl
          have hq' : q < (seen.map AVal.bool).length := by simpa using hsl
          rw [this, Option.bind_some, if_pos ⟨rfl, by simp; omega, rfl⟩, cells_bool, List.drop_eq_getElem_cons hq', keepTok_cons, keepTok_nil2, keep1_bool]
          have : putCells (seen.map AVal.bool) q [.bool true] = (seen.set q true).map AVal.bool := by
            unfold putCells
            rw [List.map_set, List.set_eq_take_append_cons_drop, if_pos hq']
            simp
          rw [this]; rfl
        have bx : aindexSl 5 (.slice (p.blocks.map Blk.cells) .no) (.int .i64 (q : Int)) = some (.pptr (Blk.cells p.blocks[q])) := by rw [aindexSl_map, hb]; rfl
        have g158 := c158 (b := p.blocks[q]) (hp.len _ hbm) t
        have g131 := c131 (p.blocks[q]).term
        have hfc := fateS_cases (p.blocks[q]).ops (p.blocks[q]).term t
        have hlt : ∀ j ∈ leadsS (p.blocks[q]).term, 0 ≤ j ∧ j.toNat < p.blocks.length := fun j hj => by rw [← hl _ hbm] at hj; exact hp.lead _ hbm j hj
        have hbk : p.blocks[k.toNat]? = some p.blocks[q] := by rw [hq]; simpa using hb
        have hll : (leadsS (p.blocks[q]).term).length ≤ 2 := by
          unfold leadsS
          split
          · exact Nat.le_trans (List.length_filter_le _ _) (by simp)
          · split
            · exact Nat.le_trans (List.length_filter_le _ _) (by simp)
            · simp
        have hkq : k.toNat = q := by rw [hq]; simp
        have ldA1 := ldA (seen.set q true) l0 (k :: r)
        have htr1 := htr0 (seen.set q true) l0 (k :: r)
        simp only [List.length_append, List.length_singleton] at hn
        rcases hfc with hf | hf | hf
        · -- neither read nor made: on
          have hI2 := hI.push hbk (by rw [hf]; decide) rfl hlt
          rw [hf, if_pos rfl, hkq] at hI2
          obtain ⟨r', hr1, hr2⟩ := WV_append (p := p) (seen := seen.set q true) (l := l0) (r := k :: r) (new := leadsS (p.blocks[q]).term) (C := []) (by rw [← happ]; exact hlr) (by omega) (t := .no)
          rw [List.append_nil, List.append_nil] at hr2
          obtain ⟨e, rb, s', l', r'', g1, g2⟩ := ih (seen.set q true) (l0 ++ leadsS (p.blocks[q]).term) r' (by simp only [List.length_append]; omega) (by omega) (by
            rw [← happ] at hr1
            have : (l0 ++ leadsS (p.blocks[q]).term).length ≤ 4000000 := by simp only [List.length_append]; omega
            omega) hI2
          refine ⟨e, rb, s', l', r'', ?_, g2⟩
          rw [← g1]
          refine lp_go ?_
          have htr2 := htr0 (seen.set q true) (l0 ++ leadsS (p.blocks[q]).term) r'
          rw [hf] at g158
          simp only [Blk.cells, Term.cells] at bx g158 g131
          generalize leadsS (p.blocks[q]).term = ld at *
          generalize ((l0.length + 1 : Nat) : Int) = z1 at *
          generalize HW p (seen.set q true) (l0 ++ ld) r' = H3 at *
          generalize HW p (seen.set q true) l0 (k :: r) = H2 at *
          generalize HW p seen l0 (k :: r) = H1 at *
          unfold m130_l0
          simp -implicitDefEqProofs [-aload_ptr, -aload_vptr, -astore_ptr, hlen, hgt, w0, ix, ldk, sl, ixs, lds, st, ldA1, bx, g158, g131, hr2, endR, htr2, hsp, hsm, WV_san]
        · -- read
          refine ⟨.ret, true, seen.set q true, l0, k :: r, lp_ret ?_, .inl ⟨rfl, rfl, hI.hit hbk hf⟩⟩
          rw [hf] at g158
          simp only [Blk.cells, Term.cells] at bx g158 g131
          generalize ((l0.length + 1 : Nat) : Int) = z1 at *
          generalize HW p (seen.set q true) l0 (k :: r) = H2 at *
          generalize HW p seen l0 (k :: r) = H1 at *
          unfold m130_l0
          simp -implicitDefEqProofs [-aload_ptr, -aload_vptr, -astore_ptr, hlen, hgt, w0, ix, ldk, sl, ixs, lds, st, ldA1, bx, g158, endR, htr1, hsp, hsm, WV_san]
        · -- made
          have hI2 := hI.push hbk (by rw [hf]; decide) rfl hlt
          rw [hf, if_neg (by decide), hkq, List.append_nil] at hI2
          obtain ⟨e, rb, s', l', r'', g1, g2⟩ := ih (seen.set q true) l0 (k :: r) (by omega) (by omega) (by rw [← happ]; exact hlr) hI2
          refine ⟨e, rb, s', l', r'', ?_, g2⟩
          rw [← g1]
          refine lp_go ?_
          rw [hf] at g158
          simp only [Blk.cells, Term.cells] at bx g158 g131
          generalize ((l0.length + 1 : Nat) : Int) = z1 at *
          generalize HW p (seen.set q true) l0 (k :: r) = H2 at *
          generalize HW p seen l0 (k :: r) = H1 at *
          unfold m130_l0
          simp -implicitDefEqProofs [-aload_ptr, -aload_vptr, -astore_ptr, hlen, hgt, w0, ix, ldk, sl, ixs, lds, st, ldA1, bx, g158, endR, htr1, hsp, hsm, WV_san]
omit hsrc
open Classical in
theorem c130 (hsrc : ∀ f ∈ src, 0 ≤ f ∧ f.toNat < p.blocks.length) (hsl : src.length ≤ 10) (h : Heap) : KK 130 [.agg p.cells, .slice (ints src) .no, .int .i64 t] h = some (.ret (.bool (decide (∃ f ∈ src, Reach p.blocks t f.toNat))), h) := by
  refine callP_pure rfl rfl (evW_by (m130_eq _ _ _ _ _) ?_)
  have hnb := hp.nb
  have hcf := cf_le (List.replicate p.blocks.length false)
  rw [List.length_replicate] at hcf
  have h0 : HW p (List.replicate p.blocks.length false) [] [] = [.cells p.cells, .cells (List.replicate p.blocks.length (.bool false)), .vec 0 1 []] := by simp [HW]
  obtain ⟨r', hr1, hr2⟩ := WV_append (p := p) (seen := List.replicate p.blocks.length false) (l := []) (r := []) (new := src) (C := []) (by simp) (by omega) (t := .no)
  rw [List.append_nil, List.append_nil, h0] at hr2
  simp only [List.nil_append] at hr2 hr1
  obtain ⟨e, rb, s', l', r'', g1, g2⟩ := m130_loop hp hl t (fun f hf => (hsrc f hf).1) 3200000 (List.replicate p.blocks.length false) src r' (by omega) (by omega) (by
    have : max ([] : List Int).length src.length ≤ 10 := by simp; omega
    simp only [List.length_nil] at hr1 this
    omega) (WayInv.start hsrc)
  have mk : ∀ (h : Heap), amakeSlice 1 1 [.bool false] (.int .i64 (p.blocks.length : Int)) h = some (.mslice h.length 0 p.blocks.length 1, h ++ [.cells (List.replicate p.blocks.length (.bool false))]) := fun h => by
    simp only [amakeSlice]
    rw [if_pos ⟨by omega, by simp; omega, by omega⟩]
    simp
  have b0 : ∀ h : Heap, abuildSliceV 0 1 [.int .i64 0] [] h = some (.vslice h.length 0 0 0 1, h ++ [.vec 0 1 []]) := fun h => rfl
  have w0 : WV [] [] = .vslice 2 0 0 0 1 := rfl
  have l3 : (HW p (List.replicate p.blocks.length false) src r').length = 3 := rfl
  rw [w0] at hr2
  generalize HW p (List.replicate p.blocks.length false) src r' = H1 at *
  generalize HW p s' l' r'' = H2 at *
  generalize List.replicate p.blocks.length (AVal.bool false) = c0 at *
  rcases g2 with ⟨rfl, rfl, g2⟩ | ⟨rfl, g2⟩
  · rw [decide_eq_true g2]
    simp only [IR.cells] at hr2 ⊢
    simp -implicitDefEqProofs [m130, mk, b0, hr2, l3, g1, finR_zero]
  · rw [decide_eq_false g2]
    simp only [IR.cells] at hr2 ⊢
    simp -implicitDefEqProofs [m130, mk, b0, hr2, l3, g1, finR_zero]
end
end Go.Proofs.YtkeoalhglkfbkaaDoor

/-
  The document's 'Live': the same as the program's. No conditions.
-/
namespace Go.Proofs.YtkeoalhglkfbkaaDoor
open Go Hk Go.Proofs.Wd

section
variable {p : IR} (hp : OpsOk p) (hl : ∀ b ∈ p.blocks, leadsP b.term = leadsS b.term)
include hp hl
open Classical in
theorem c65 {k : Nat} (hk : k < p.blocks.length) (t : Int) (h : Heap) : KK 65 [.agg p.cells, .int .i64 (k : Int), .int .i64 t] h = some (.ret (.bool (decide (Reach p.blocks t k))), h) := by
  refine callP_pure rfl rfl (evW_by (m65_eq _ _ _ _ _) ?_)
  have g := c130 hp hl t (src := [(k : Int)]) (fun f hf => by simp at hf; subst hf; exact ⟨by omega, by simpa using hk⟩) (by simp)
  have f0 : ∀ (z : Int) (h : Heap), abuildSlice 1 1 [.int .i64 0] [(0, .int .i64 z)] h = some (.slice (ints [z]) (.own h.length), h ++ [.front 1 1]) := fun z h => rfl
  have e : decide (∃ f ∈ [(k : Int)], Reach p.blocks t f.toNat) = decide (Reach p.blocks t k) := by
    congr 1; simp
  rw [e] at g
  simp only [IR.cells] at g ⊢
  simp [m65, f0, g, finR_zero]
open Classical in
theorem c66 {k : Nat} {b : Blk} (hb : p.blocks[k]? = some b) (t : Int) (h : Heap) : KK 66 [.agg p.cells, .int .i64 (k : Int), .int .i64 t] h = some (.ret (.bool (decide (Behind p.blocks t b.term))), h) := by
  refine callP_pure rfl rfl (evW_by (m66_eq _ _ _ _ _) ?_)
  have hbm := List.mem_of_getElem? hb
  have g := c130 hp hl t (src := leadsS b.term) (fun f hf => by rw [← hl b hbm] at hf; exact hp.lead b hbm f hf) (by rw [← hl b hbm]; exact leadsP_len _)
  have g131 := c131 b.term
  have bx : aindexSl 5 (.slice (p.blocks.map Blk.cells) .no) (.int .i64 (k : Int)) = some (.pptr b.cells) := by rw [aindexSl_map, hb]; rfl
  have e : decide (∃ f ∈ leadsS b.term, Reach p.blocks t f.toNat) = decide (Behind p.blocks t b.term) := decide_eq_decide.2 Iff.rfl
  rw [e] at g
  simp only [IR.cells, Blk.cells, Term.cells] at g g131 bx ⊢
  generalize leadsS b.term = ld at *
  simp -implicitDefEqProofs [m66, bx, g131, g, finR_zero]

open Classical in
theorem m28_loop0 {k : Nat} {b : Blk} (hb : p.blocks[k]? = some b) (R1 R2 : List (List AVal)) (F1 F2 : ABlk) (hF1 : ∀ n, KBn n [F1]) (hF2 : ∀ n, KBn n [F2]) : ∀ (d i : Nat), p.temps.toNat = i + d →
    lpW (m28_l0 KK 7) ([.ptr 0 0, T1, T2, .int .i64 0, .slice R1 (.own 3), .slice R2 (.own 4), .int .i64 (k : Int), .slice (ints (zs ((List.range i).filter fun t : Nat => decide (Reach p.blocks (t : Int) k)))) (.own 5), .slice (ints (zs ((List.range i).filter fun t : Nat => decide (Behind p.blocks (t : Int) b.term)))) (.own 6), .int .i64 (i : Int)],
        [.cells p.cells, .front 0 0, .front 0 0, F1, F2, FR (zs ((List.range i).filter fun t : Nat => decide (Reach p.blocks (t : Int) k))).length, FR (zs ((List.range i).filter fun t : Nat => decide (Behind p.blocks (t : Int) b.term))).length]) =
      some (.exit 2, [.ptr 0 0, T1, T2, .int .i64 0, .slice R1 (.own 3), .slice R2 (.own 4), .int .i64 (k : Int), .slice (ints (zs ((List.range p.temps.toNat).filter fun t : Nat => decide (Reach p.blocks (t : Int) k)))) (.own 5), .slice (ints (zs ((List.range p.temps.toNat).filter fun t : Nat => decide (Behind p.blocks (t : Int) b.term)))) (.own 6), .int .i64 (p.temps.toNat : Int)],
        [.cells p.cells, .front 0 0, .front 0 0, F1, F2, FR (zs ((List.range p.temps.toNat).filter fun t : Nat => decide (Reach p.blocks (t : Int) k))).length, FR (zs ((List.range p.temps.toNat).filter fun t : Nat => decide (Behind p.blocks (t : Int) b.term))).length]) := by
  have q0 := fun h => sP (m := 7) (h := h) (by omega)
  have q1 := fun h => sT1 (m := 7) (h := h) (by omega)
  have q2 := fun h => sT2 (m := 7) (h := h) (by omega)
  have q3 : ∀ h rows, AVal.san 7 h (.slice rows (.own 3)) = .slice rows (.own 3) := fun h rows => by simp
  have q4 : ∀ h rows, AVal.san 7 h (.slice rows (.own 4)) = .slice rows (.own 4) := fun h rows => by simp
  have q5 : ∀ h rows, AVal.san 7 h (.slice rows (.own 5)) = .slice rows (.own 5) := fun h rows => by simp
  have q6 : ∀ h rows, AVal.san 7 h (.slice rows (.own 6)) = .slice rows (.own 6) := fun h rows => by simp
  have hT : ∀ n k : Nat, TH ([.cells p.cells, .front 0 0, .front 0 0, F1, F2, FR n, FR k] : Heap) := fun n k => by
    have e : ([.cells p.cells, .front 0 0, .front 0 0, F1, F2, FR n, FR k] : Heap) = [.cells p.cells, .front 0 0, .front 0 0] ++ ([F1] ++ ([F2] ++ ([FR n] ++ [FR k]))) := rfl
    unfold TH; rw [e]
    exact KBn_app (KBn_cells HB_CBn (KBn_front (KBn_front KBn_nil))) (KBn_app (hF1 _) (KBn_app (hF2 _) (KBn_app FR_ok FR_ok)))
  have htr : ∀ n k C, trunc 7 (.cells p.cells :: .front 0 0 :: .front 0 0 :: F1 :: F2 :: FR n :: FR k :: C) = some [.cells p.cells, .front 0 0, .front 0 0, F1, F2, FR n, FR k] := fun n k C => trunc_app (C := C) (hT n k)
  have ldT : ∀ C, aload false 1 (.cells p.cells :: C) (.ptr 0 0) = some (.int .i64 p.temps) := fun C => rfl
  have ldP : ∀ C, aload true 5 (.cells p.cells :: C) (.ptr 0 0) = some (.agg p.cells) := fun C => rfl
  have hpt := hp.temps
  have un : AVal.untok (.agg p.cells) = .agg p.cells := rfl
  intro d
  induction d with
  | zero =>
    intro i hd
    obtain rfl : p.temps.toNat = i := by omega
    have hc : ¬ ((p.temps.toNat : Int) < p.temps) := by omega
    refine lp_exit ?_
    generalize p.temps.toNat = T at *
    unfold m28_l0
    simp -implicitDefEqProofs [-aload_ptr, -aload_ptrT, ldT, hc, endR, htr, q0, q1, q2, q3, q4, q5, q6]
  | succ d ih =>
    intro i hd
    have hc : ((i : Int) < p.temps) := by omega
    have hkl : k < p.blocks.length := (List.getElem?_eq_some_iff.1 hb).1
    have g65 := c65 hp hl hkl (i : Int)
    have g66 := c66 hp hl hb (i : Int)
    have w1 : IntKind.i64.wrap ((i : Int) + 1) = ((i + 1 : Nat) : Int) := by rw [wrap64 (by omega) (by omega), Int.natCast_add]; rfl
    have f0 : ∀ (z : Int) (h : Heap), abuildSlice 1 1 [.int .i64 0] [(0, .int .i64 z)] h = some (.slice [[.int .i64 z]] (.own h.length), h ++ [.front 1 1]) := fun z h => rfl
    rw [← ih (i + 1) (by omega)]
    clear ih
    refine lp_go ?_
    have e1 : zs ((List.range (i + 1)).filter fun t : Nat => decide (Reach p.blocks (t : Int) k)) = zs ((List.range i).filter fun t : Nat => decide (Reach p.blocks (t : Int) k)) ++ (if Reach p.blocks (i : Int) k then [(i : Int)] else []) := by
      rw [List.range_succ, List.filter_append]
      unfold zs
      rw [List.map_append]
      congr 1
      by_cases h : Reach p.blocks (i : Int) k <;> simp [h]
    have e2 : zs ((List.range (i + 1)).filter fun t : Nat => decide (Behind p.blocks (t : Int) b.term)) = zs ((List.range i).filter fun t : Nat => decide (Behind p.blocks (t : Int) b.term)) ++ (if Behind p.blocks (i : Int) b.term then [(i : Int)] else []) := by
      rw [List.range_succ, List.filter_append]
      unfold zs
      rw [List.map_append]
      congr 1
      by_cases h : Behind p.blocks (i : Int) b.term <;> simp [h]
    have l1 : (zs ((List.range i).filter fun t : Nat => decide (Reach p.blocks (t : Int) k))).length ≤ i := by rw [zs_len]; exact Nat.le_trans (List.length_filter_le _ _) (by simp)
    have l2 : (zs ((List.range i).filter fun t : Nat => decide (Behind p.blocks (t : Int) b.term))).length ≤ i := by rw [zs_len]; exact Nat.le_trans (List.length_filter_le _ _) (by simp)
    rw [e1, e2]
    generalize zs ((List.range i).filter fun t : Nat => decide (Reach p.blocks (t : Int) k)) = A at *
    generalize zs ((List.range i).filter fun t : Nat => decide (Behind p.blocks (t : Int) b.term)) = B at *
    have a1 := fun C t => FR_append (h := [.cells p.cells, .front 0 0, .front 0 0, F1, F2]) (C := C) (l := A) (z := (i : Int)) (by omega) (t := t)
    have a2 := fun X C t => FR_append (h := [.cells p.cells, .front 0 0, .front 0 0, F1, F2, X]) (C := C) (l := B) (z := (i : Int)) (by omega) (t := t)
    simp only [List.length_cons, List.length_nil, Nat.zero_add, Nat.reduceAdd, List.cons_append, List.nil_append] at a1 a2
    clear e1 e2
    generalize ((i + 1 : Nat) : Int) = i1 at *
    by_cases c1 : Reach p.blocks (i : Int) k
    · rw [decide_eq_true c1] at g65
      rw [if_pos c1]
      have lA : (A ++ [(i : Int)]).length = A.length + 1 := by simp
      rw [lA]
      by_cases c2 : Behind p.blocks (i : Int) b.term
      · rw [decide_eq_true c2] at g66
        rw [if_pos c2]
        have lB : (B ++ [(i : Int)]).length = B.length + 1 := by simp
        rw [lB]
        generalize ints (A ++ [(i : Int)]) = A1 at *
        generalize ints (B ++ [(i : Int)]) = B1 at *
        unfold m28_l0
        simp -implicitDefEqProofs [-aload_ptr, -aload_ptrT, -untok_agg, un, ldT, ldP, hc, g65, g66, f0, a1, a2, w1, endR, htr, q0, q1, q2, q3, q4, q5, q6]
      · rw [decide_eq_false c2] at g66
        rw [if_neg c2, List.append_nil]
        generalize ints (A ++ [(i : Int)]) = A1 at *
        unfold m28_l0
        simp -implicitDefEqProofs [-aload_ptr, -aload_ptrT, -untok_agg, un, ldT, ldP, hc, g65, g66, f0, a1, w1, endR, htr, q0, q1, q2, q3, q4, q5, q6]
    · rw [decide_eq_false c1] at g65
      rw [if_neg c1, List.append_nil]
      by_cases c2 : Behind p.blocks (i : Int) b.term
      · rw [decide_eq_true c2] at g66
        rw [if_pos c2]
        have lB : (B ++ [(i : Int)]).length = B.length + 1 := by simp
        rw [lB]
        generalize ints (B ++ [(i : Int)]) = B1 at *
        unfold m28_l0
        simp -implicitDefEqProofs [-aload_ptr, -aload_ptrT, -untok_agg, un, ldT, ldP, hc, g65, g66, f0, a2, w1, endR, htr, q0, q1, q2, q3, q4, q5, q6]
      · rw [decide_eq_false c2] at g66
        rw [if_neg c2, List.append_nil]
        unfold m28_l0
        simp -implicitDefEqProofs [-aload_ptr, -aload_ptrT, -untok_agg, un, ldT, ldP, hc, g65, g66, w1, endR, htr, q0, q1, q2, q3, q4, q5, q6]

theorem m28_loop1 (h0 : checkS p = 0) : ∀ (d i : Nat), p.blocks.length = i + d →
    lpW (m28_l1 KK 5) ([.ptr 0 0, T1, T2, .int .i64 0, .slice (((liveI p).take i).map fun z => [.slice (ints z) .no]) (.own 3), .slice (((liveO p).take i).map fun z => [.slice (ints z) .no]) (.own 4), .int .i64 (i : Int)], [.cells p.cells, .front 0 0, .front 0 0, FR i, FR i]) =
      some (.exit 0, [.ptr 0 0, T1, T2, .int .i64 0, .slice ((liveI p).map fun z => [.slice (ints z) .no]) (.own 3), .slice ((liveO p).map fun z => [.slice (ints z) .no]) (.own 4), .int .i64 (p.blocks.length : Int)], [.cells p.cells, .front 0 0, .front 0 0, FR p.blocks.length, FR p.blocks.length]) := by
  classical
  have q0 := fun h => sP (m := 5) (h := h) (by omega)
  have q1 := fun h => sT1 (m := 5) (h := h) (by omega)
  have q2 := fun h => sT2 (m := 5) (h := h) (by omega)
  have q3 : ∀ h rows, AVal.san 5 h (.slice rows (.own 3)) = .slice rows (.own 3) := fun h rows => by simp
  have q4 : ∀ h rows, AVal.san 5 h (.slice rows (.own 4)) = .slice rows (.own 4) := fun h rows => by simp
  have hT : ∀ n k : Nat, TH ([.cells p.cells, .front 0 0, .front 0 0, FR n, FR k] : Heap) := fun n k => by
    have e : ([.cells p.cells, .front 0 0, .front 0 0, FR n, FR k] : Heap) = [.cells p.cells, .front 0 0, .front 0 0] ++ ([FR n] ++ [FR k]) := rfl
    unfold TH; rw [e]
    exact KBn_app (KBn_cells HB_CBn (KBn_front (KBn_front KBn_nil))) (KBn_app FR_ok FR_ok)
  have htr : ∀ n k C, trunc 5 (.cells p.cells :: .front 0 0 :: .front 0 0 :: FR n :: FR k :: C) = some [.cells p.cells, .front 0 0, .front 0 0, FR n, FR k] := fun n k C => trunc_app (C := C) (hT n k)
  have ldB : ∀ C, aload false 1 (.cells p.cells :: C) (.ptr 0 2) = some (.slice (p.blocks.map Blk.cells) .no) := fun C => rfl
  have hnb := hp.nb
  have hlI : (liveI p).length = p.blocks.length := by unfold liveI; rw [if_pos h0]; simp
  have hlO : (liveO p).length = p.blocks.length := by unfold liveO; rw [if_pos h0]; simp
  intro d
  induction d with
  | zero =>
    intro i hd
    obtain rfl : p.blocks.length = i := by omega
    have e1 : (liveI p).take p.blocks.length = liveI p := by rw [← hlI, List.take_length]
    have e2 : (liveO p).take p.blocks.length = liveO p := by rw [← hlO, List.take_length]
    rw [e1, e2]
    refine lp_exit ?_
    unfold m28_l1
    simp -implicitDefEqProofs [-aload_ptr, ldB, endR, htr, q0, q1, q2, q3, q4]
  | succ d ih =>
    intro i hd
    have hil : i < p.blocks.length := by omega
    have hil' : ((i : Int) < (p.blocks.length : Int)) := by omega
    have hb : p.blocks[i]? = some p.blocks[i] := List.getElem?_eq_getElem hil
    have w1 : IntKind.i64.wrap ((i : Int) + 1) = ((i + 1 : Nat) : Int) := by rw [wrap64 (by omega) (by omega), Int.natCast_add]; rfl
    have g := m28_loop0 hp hl hb (((liveI p).take i).map fun z => [.slice (ints z) .no]) (((liveO p).take i).map fun z => [.slice (ints z) .no]) (FR i) (FR i) (fun n => FR_ok) (fun n => FR_ok) p.temps.toNat 0 (by omega)
    have eI : zs ((List.range p.temps.toNat).filter fun t : Nat => decide (Reach p.blocks (t : Int) i)) = liveIn p i := rfl
    have eO : zs ((List.range p.temps.toNat).filter fun t : Nat => decide (Behind p.blocks (t : Int) (p.blocks[i]).term)) = liveOut p i := by
      unfold liveOut
      congr 1
      apply List.filter_congr
      intro t _
      rw [decide_eq_decide]
      exact ⟨fun h => ⟨_, hb, h⟩, fun ⟨b, h1, h2⟩ => by rw [hb] at h1; cases h1; exact h2⟩
    rw [eI, eO] at g
    have e0 : zs ((List.range 0).filter fun t : Nat => decide (Reach p.blocks (t : Int) i)) = [] := rfl
    have e0' : zs ((List.range 0).filter fun t : Nat => decide (Behind p.blocks (t : Int) (p.blocks[i]).term)) = [] := rfl
    have eF : FR ([] : List Int).length = .front 0 0 := rfl
    have ei : ints [] = [] := rfl
    simp only [e0, e0', eF, ei, Int.cast_ofNat_Int] at g
    have s1 : (liveI p).take (i + 1) = (liveI p).take i ++ [liveIn p i] := by
      rw [List.take_succ_eq_append_getElem (by omega)]
      congr 2
      unfold liveI; simp [h0]
    have s2 : (liveO p).take (i + 1) = (liveO p).take i ++ [liveOut p i] := by
      rw [List.take_succ_eq_append_getElem (by omega)]
      congr 2
      unfold liveO; simp [h0]
    have f0 : ∀ (z : List Int) (t : Hk.Tok) (h : Heap), abuildSlice 1 1 [.slice [] .nil] [(0, .slice (ints z) t)] h = some (.slice [[.slice (ints z) .no]] (.own h.length), h ++ [.front 1 1]) := fun z t h => rfl
    have lI : (((liveI p).take i).map fun z => [AVal.slice (ints z) .no]).length = i := by simp; omega
    have lO : (((liveO p).take i).map fun z => [AVal.slice (ints z) .no]).length = i := by simp; omega
    have a1 := fun C t => FR_app (h := [.cells p.cells, .front 0 0, .front 0 0]) (C := C) (rows := ((liveI p).take i).map fun z => [.slice (ints z) .no]) (v := .slice (ints (liveIn p i)) .no) (by_ := 24) (by omega) (by rw [lI]; omega) (t := t)
    have a2 := fun X C t => FR_app (h := [.cells p.cells, .front 0 0, .front 0 0, X]) (C := C) (rows := ((liveO p).take i).map fun z => [.slice (ints z) .no]) (v := .slice (ints (liveOut p i)) .no) (by_ := 24) (by omega) (by rw [lO]; omega) (t := t)
    rw [lI] at a1
    rw [lO] at a2
    simp only [List.length_cons, List.length_nil, Nat.zero_add, Nat.reduceAdd, List.cons_append, List.nil_append] at a1 a2
    rw [← ih (i + 1) (by omega), s1, s2, List.map_append, List.map_append]
    clear ih s1 s2
    simp only [List.map_cons, List.map_nil]
    refine lp_go ?_
    generalize (((liveI p).take i).map fun z => [AVal.slice (ints z) .no]) = A at *
    generalize (((liveO p).take i).map fun z => [AVal.slice (ints z) .no]) = B at *
    generalize ((i + 1 : Nat) : Int) = i1 at *
    generalize liveIn p i = li at *
    generalize liveOut p i = lo at *
    unfold m28_l1
    simp -implicitDefEqProofs [-aload_ptr, ldB, hil', g, f0, a1, a2, w1, endR, htr, q0, q1, q2, q3, q4]
end
theorem c28 (p : IR) (h : Heap) : KK 28 [.agg p.cells] h = some (.ret (.tuple [listsA (liveI p), listsA (liveO p), .int .i64 (checkS p)]), h) := by
  refine callP_pure rfl rfl (evW_by (m28_eq _ _ _) ?_)
  have g64 := c64 p
  by_cases h0 : checkS p = 0
  · obtain ⟨hp, hl⟩ := opsOk_of h0
    have g := m28_loop1 hp hl h0 p.blocks.length 0 (by omega)
    rw [h0] at g64 ⊢
    have eF : FR 0 = .front 0 0 := rfl
    simp only [eF, List.take_zero, List.map_nil, Int.cast_ofNat_Int] at g
    have st : ∀ (r1 r2 : List (List AVal)) (h : Heap), AVal.untok (AVal.san 0 h (.tuple [.slice r1 (.own 3), .slice r2 (.own 4), .int .i64 0])) = .tuple [.slice r1 .no, .slice r2 .no, .int .i64 0] := fun _ _ _ => rfl
    unfold listsA
    generalize (liveI p).map (fun z => [AVal.slice (ints z) .no]) = R1 at *
    generalize (liveO p).map (fun z => [AVal.slice (ints z) .no]) = R2 at *
    simp only [T1, T2, IR.cells] at g g64 ⊢
    simp -implicitDefEqProofs [m28, g64, g, finR, st]
  · have e1 : liveI p = [] := if_neg h0
    have e2 : liveO p = [] := if_neg h0
    rw [e1, e2]
    generalize checkS p = e at *
    have st : ∀ (h : Heap), AVal.untok (AVal.san 0 h (.tuple [.slice [] (.own 3), .slice [] (.own 4), .int .i64 e])) = .tuple [.slice [] .no, .slice [] .no, .int .i64 e] := fun _ => rfl
    simp only [IR.cells] at g64 ⊢
    simp -implicitDefEqProofs [m28, g64, h0, finR, st, listsA]
end Go.Proofs.YtkeoalhglkfbkaaDoor

/-
  A map of temps. No conditions.
-/
namespace Go.Proofs.YtkeoalhglkfbkaaDoor
open Go Hk Go.Proofs.Wd

/-- A map of temps. -/
def em (L : List Int) : List (AVal × AVal) := L.map fun t => (.int .i64 t, .int .i64 1)
end Go.Proofs.YtkeoalhglkfbkaaDoor

/-
  'Points': the temps wanted within a block. No conditions.
-/
namespace Go.Proofs.YtkeoalhglkfbkaaDoor
open Go Hk Go.Proofs.Wd

section
variable {b : Blk} {L : List Int} {E : Heap}
end

end Go.Proofs.YtkeoalhglkfbkaaDoor

/-
  'Points': the whole. No conditions.
-/
namespace Go.Proofs.YtkeoalhglkfbkaaDoor
open Go Hk Go.Proofs.Wd

end Go.Proofs.YtkeoalhglkfbkaaDoor

/-
  'LiveTells': the evaluator's run. No conditions.
-/
namespace Go.Proofs.YtkeoalhglkfbkaaDoor
open Go Hk Go.Proofs.Wd

theorem m25_loop {p : IR} : ∀ (d i : Nat) (n : Int), i ≤ n → n ≤ 801 → 801 - n.toNat < d → ∃ (n' : Int) (i' : Int),
    lpW (m25_l0 KK 1) ([.ptr 0 0, .bool false, .int .i64 n, .int .i64 (i : Int)], [.cells p.cells]) = some (.exit 0, [.ptr 0 0, .bool false, .int .i64 n', .int .i64 i'], [.cells p.cells]) := by
  intro d
  have htr : trunc 1 [.cells p.cells] = some [.cells p.cells] := by simp [trunc, IR.cells]
  have ag : afieldAt 2 (.ptr 0 0) = some (.ptr 0 2) := rfl
  have l1 : aload false 1 [.cells p.cells] (.ptr 0 2) = some (.slice (p.blocks.map Blk.cells) .no) := by simp [IR.cells]
  have lenB : alenSl (.slice (p.blocks.map Blk.cells) .no) = some (.int .i64 (p.blocks.length : Int)) := by simp
  induction d with
  | zero => intro i n _ _ h; omega
  | succ d ih =>
    intro i n hi hn hd
    by_cases h1 : i < p.blocks.length
    · by_cases h2 : n ≤ 300
      · have hb := List.getElem?_eq_getElem h1
        generalize p.blocks[i] = b at hb
        obtain ⟨n', i', hr⟩ := ih (i + 1) (n + 1 + min (b.ops.length : Int) 500) (by omega) (by omega) (by omega)
        refine ⟨n', i', ?_⟩
        rw [← hr]
        refine lp_go ?_
        have hl : (i : Int) < (p.blocks.length : Int) := by omega
        have ix : aindexSl 5 (.slice (p.blocks.map Blk.cells) .no) (.int .i64 (i : Int)) = some (.pptr b.cells) := by simp [hb, Blk.cells]
        have ag1 : afieldAt 0 (.pptr b.cells) = some (.pptr b.cells) := by simp [afieldAt]
        have l2 : aload false 1 [.cells p.cells] (.pptr b.cells) = some (.slice (b.ops.map Op.cells) .no) := by simp [Blk.cells]
        have lenO : alenSl (.slice (b.ops.map Op.cells) .no) = some (.int .i64 (b.ops.length : Int)) := by simp
        have mn : amin2 (.int .i64 (b.ops.length : Int)) (.int .i64 500) = some (.int .i64 (min (b.ops.length : Int) 500)) := by
          simp [amin2]
          try (split <;> omega)
        have w0 : IntKind.i64.wrap (n + 1) = n + 1 := wrap64 (by omega) (by omega)
        have w1 : IntKind.i64.wrap (n + 1 + min (b.ops.length : Int) 500) = n + 1 + min (b.ops.length : Int) 500 := wrap64 (by omega) (by omega)
        have w2 : IntKind.i64.wrap ((i : Int) + 1) = ((i + 1 : Nat) : Int) := by rw [wrap64 (by omega) (by omega), Int.natCast_add]; rfl
        generalize ((i + 1 : Nat) : Int) = i1 at *
        unfold m25_l0
        simp -implicitDefEqProofs [-aload_ptr, endR, htr, ag, l1, lenB, hl, h2, ix, ag1, l2, lenO, mn, w0, w1, w2, san1_ptr]
      · refine ⟨n, i, lp_exit ?_⟩
        have hl : (i : Int) < (p.blocks.length : Int) := by omega
        unfold m25_l0
        simp -implicitDefEqProofs [-aload_ptr, endR, htr, ag, l1, lenB, hl, h2, san1_ptr]
    · refine ⟨n, i, lp_exit ?_⟩
      have hl : ¬ (i : Int) < (p.blocks.length : Int) := by omega
      unfold m25_l0
      simp -implicitDefEqProofs [-aload_ptr, endR, htr, ag, l1, lenB, hl, san1_ptr]
theorem c25 (p : IR) : ∃ b : Bool, ∀ h, KK 25 [.agg p.cells] h = some (.ret (.bool b), h) := by
  obtain ⟨n, i, g⟩ := m25_loop (p := p) 1000 0 0 (by omega) (by omega) (by omega)
  have e0 : ((0 : Nat) : Int) = 0 := rfl
  rw [e0] at g
  refine ⟨decide (n ≤ 300) && decide (p.temps ≤ 60), fun h => callP_pure rfl rfl (evW_by (m25_eq _ _ _) ?_)⟩
  have an : anew 5 [] (.agg p.cells) = some (.ptr 0 0, [.cells p.cells]) := by simp [IR.cells]
  have ag : afieldAt 0 (.ptr 0 0) = some (.ptr 0 0) := rfl
  have l1 : aload false 1 [.cells p.cells] (.ptr 0 0) = some (.int .i64 p.temps) := by simp [IR.cells]
  by_cases h2 : n ≤ 300
  · by_cases h3 : p.temps ≤ 60 <;> simp -implicitDefEqProofs [m25, -aload_ptr, -anew, an, g, ag, l1, h2, h3, finR_zero]
  · simp -implicitDefEqProofs [m25, -aload_ptr, -anew, an, g, ag, l1, h2, finR_zero]

theorem m29_loop0 {ls : List (List Int)} {i : Nat} {z : List Int} (hz : ls[i]? = some z) (hl : z.length ≤ 2000000) : ∀ (d k : Nat), z.length = k + d →
    lpW (m29_l0 KK 0) ([listsA ls, listsA ls, .bool false, .int .i64 (i : Int), .int .i64 (k : Int)], []) = some (.exit 2, [listsA ls, listsA ls, .bool false, .int .i64 (i : Int), .int .i64 (z.length : Int)], []) := by
  have ix : aindexSl 1 (listsA ls) (.int .i64 (i : Int)) = some (.pptr [.slice (ints z) .no]) := by simp [listsA, hz]
  have lenz : alenSl (.slice (ints z) .no) = some (.int .i64 (z.length : Int)) := by simp [ints]
  have sn : ∀ h, AVal.san 0 h (listsA ls) = listsA ls := fun h => rfl
  intro d
  induction d with
  | zero =>
    intro k hk
    obtain rfl : k = z.length := by omega
    refine lp_exit ?_
    unfold m29_l0
    simp -implicitDefEqProofs [ix, lenz, endR, trunc, sn]
  | succ d ih =>
    intro k hk
    rw [← ih (k + 1) (by omega)]
    refine lp_go ?_
    have hkl : k < z.length := by omega
    have hki : (k : Int) < (z.length : Int) := by omega
    obtain ⟨x, hx⟩ : ∃ x, z[k] = x := ⟨_, rfl⟩
    have ix2 : aindexSl 1 (.slice (ints z) .no) (.int .i64 (k : Int)) = some (.pptr [.int .i64 x]) := by simp [ints, hkl, hx]
    have w2 : IntKind.i64.wrap ((k : Int) + 1) = ((k + 1 : Nat) : Int) := by rw [wrap64 (by omega) (by omega), Int.natCast_add]; rfl
    generalize ((k + 1 : Nat) : Int) = k1 at *
    unfold m29_l0
    simp -implicitDefEqProofs [ix, lenz, ix2, hki, w2, endR, trunc, sn]
theorem m29_loop1 {ls : List (List Int)} (hl : ∀ z ∈ ls, z.length ≤ 2000000) (hls : ls.length ≤ 2000000) : ∀ (d i : Nat), ls.length = i + d →
    lpW (m29_l1 KK 0) ([listsA ls, listsA ls, .bool false, .int .i64 (i : Int)], []) = some (.exit 0, [listsA ls, listsA ls, .bool false, .int .i64 (ls.length : Int)], []) := by
  have sn : ∀ h, AVal.san 0 h (listsA ls) = listsA ls := fun h => rfl
  have len1 : alenSl (listsA ls) = some (.int .i64 (ls.length : Int)) := by simp [listsA]
  intro d
  induction d with
  | zero =>
    intro i hi
    obtain rfl : i = ls.length := by omega
    refine lp_exit ?_
    unfold m29_l1
    simp -implicitDefEqProofs [len1, endR, trunc, sn]
  | succ d ih =>
    intro i hi
    rw [← ih (i + 1) (by omega)]
    refine lp_go ?_
    have hil : i < ls.length := by omega
    have hii : (i : Int) < (ls.length : Int) := by omega
    obtain ⟨z, hx⟩ : ∃ z, ls[i]? = some z := ⟨_, List.getElem?_eq_getElem hil⟩
    have g := m29_loop0 hx (hl z (List.mem_of_getElem? hx)) z.length 0 (by omega)
    have e0 : ((0 : Nat) : Int) = 0 := rfl
    rw [e0] at g
    have ix : aindexSl 1 (listsA ls) (.int .i64 (i : Int)) = some (.pptr [.slice (ints z) .no]) := by simp [listsA, hx]
    have lenz : alenSl (.slice (ints z) .no) = some (.int .i64 (z.length : Int)) := by simp [ints]
    have w2 : IntKind.i64.wrap ((i : Int) + 1) = ((i + 1 : Nat) : Int) := by rw [wrap64 (by omega) (by omega), Int.natCast_add]; rfl
    generalize ((i + 1 : Nat) : Int) = k1 at *
    unfold m29_l1
    simp -implicitDefEqProofs [len1, ix, lenz, g, hii, w2, endR, trunc, sn]
theorem c29 {ls : List (List Int)} (hl : ∀ z ∈ ls, z.length ≤ 2000000) (hls : ls.length ≤ 2000000) (h : Heap) : KK 29 [listsA ls, listsA ls] h = some (.ret (.bool true), h) := by
  refine callP_pure rfl rfl (evW_by (m29_eq _ _ _ _) ?_)
  have g := m29_loop1 hl hls ls.length 0 (by omega)
  have e0 : ((0 : Nat) : Int) = 0 := rfl
  rw [e0] at g
  have len1 : alenSl (listsA ls) = some (.int .i64 (ls.length : Int)) := by simp [listsA]
  simp -implicitDefEqProofs [m29, len1, g, finR_zero]

theorem zs_filter_len {n : Nat} {f : Nat → Bool} : (zs ((List.range n).filter f)).length ≤ n := by
  rw [zs_len]
  exact Nat.le_trans (List.length_filter_le _ _) (by simp)
theorem liveI_len (p : IR) : (∀ z ∈ liveI p, z.length ≤ 2000000) ∧ (liveI p).length ≤ 2000000 := by
  unfold liveI
  split
  · rename_i h
    have lp := (opsOk_of h).1
    have h1 := lp.temps
    have h2 := lp.nb
    refine ⟨fun z hz => ?_, by simp; omega⟩
    obtain ⟨k, _, rfl⟩ := List.mem_map.1 hz
    exact Nat.le_trans zs_filter_len (by omega)
  · simp
theorem liveO_len (p : IR) : (∀ z ∈ liveO p, z.length ≤ 2000000) ∧ (liveO p).length ≤ 2000000 := by
  unfold liveO
  split
  · rename_i h
    have lp := (opsOk_of h).1
    have h1 := lp.temps
    have h2 := lp.nb
    refine ⟨fun z hz => ?_, by simp; omega⟩
    obtain ⟨k, _, rfl⟩ := List.mem_map.1 hz
    exact Nat.le_trans zs_filter_len (by omega)
  · simp

/-- The law LiveTells. -/
theorem c6 (p : IR) (h : Heap) : KK 6 [.agg p.cells] h = some (.ret (.bool true), h) := by
  refine callP_pure rfl rfl (evW_by (m6_eq _ _ _) ?_)
  have an : anew 5 [] (.agg p.cells) = some (.ptr 0 0, [.cells p.cells]) := by simp [IR.cells]
  have l1 : aload true 5 [.cells p.cells] (.ptr 0 0) = some (.agg p.cells) := by simp [IR.cells]
  have u1 : (AVal.agg p.cells).untok = .agg p.cells := rfl
  have u2 : ∀ ls, (listsA ls).untok = listsA ls := fun ls => rfl
  obtain ⟨b, g25⟩ := c25 p
  have g26 := c26
  have g27 := c27 p
  have g28 := c28 p
  have gi := c29 (liveI_len p).1 (liveI_len p).2
  have go := c29 (liveO_len p).1 (liveO_len p).2
  generalize liveI p = li at *
  generalize liveO p = lo at *
  cases b <;> simp -implicitDefEqProofs [m6, -aload_ptr, -anew, an, l1, u1, u2, g25, g26, g27, g28, gi, go, finR_zero, aextract]
end Go.Proofs.YtkeoalhglkfbkaaDoor

/-
  'within', and what Points tells at first. No conditions.
-/
namespace Go.Proofs.YtkeoalhglkfbkaaDoor
open Go Hk Go.Proofs.Wd

end Go.Proofs.YtkeoalhglkfbkaaDoor

/-
  The shallow forms of the functions on programs of blocks, each equal to the evaluator's run of its code. No conditions.
-/
namespace Go.Proofs.YtkeoalhglkfbkaaDoor
open Go Hk
end Go.Proofs.YtkeoalhglkfbkaaDoor

/-
  Operations that are dead are taken out: in which order does not matter. No conditions.
-/
namespace Go.Proofs.YtkeoalhglkfbkaaDoor
open Go Hk

/-- May an operation be taken out, if what it makes is not wanted? -/
def pureS (o : Op) : Bool := decide (o.kind ≠ 18) && decide (o.kind ≠ 19) && (formS o.kind).dst
def behindS (bs : List Blk) (x : Term) : Int → Prop := fun t => Behind bs t x

/-- One dead operation is taken out. -/
def Step (bs bs' : List Blk) : Prop := ∃ (i : Nat) (b : Blk) (pre : List Op) (o : Op) (post : List Op), bs[i]? = some b ∧ b.ops = pre ++ o :: post ∧ pureS o = true ∧ ¬ trOps post b.term (behindS bs b.term) o.dst ∧ bs' = bs.set i ⟨pre ++ post, b.term⟩
inductive Star : List Blk → List Blk → Prop
  | refl (a) : Star a a
  | head {a b c} : Step a b → Star b c → Star a c
theorem Star.trans {a b c : List Blk} (h : Star a b) (h' : Star b c) : Star a c := by
  induction h with
  | refl => exact h'
  | head s _ ih => exact .head s (ih h')
end Go.Proofs.YtkeoalhglkfbkaaDoor

/-
  Functions of dead: what may be taken out; a number is looked for in a rising list. No conditions.
-/
namespace Go.Proofs.YtkeoalhglkfbkaaDoor
open Go Hk Go.Proofs.Wd

end Go.Proofs.YtkeoalhglkfbkaaDoor

/-
  'block' of dead: a block without what is dead. No conditions.
-/
namespace Go.Proofs.YtkeoalhglkfbkaaDoor
open Go Hk Go.Proofs.Wd

end Go.Proofs.YtkeoalhglkfbkaaDoor

/-
  Dead operations, plainly: what a round leaves; a program that may be stays one. No conditions.
-/
namespace Go.Proofs.YtkeoalhglkfbkaaDoor
open Go Hk Go.Proofs.Wd

/-- Blocks of which some operations are left. -/
inductive Sub : List Op → List Op → Prop
  | nil : Sub [] []
  | keep {o l r} : Sub l r → Sub (o :: l) (o :: r)
  | skip {o l r} : pureS o = true → Sub l r → Sub (o :: l) r
theorem Sub.refl : ∀ l, Sub l l
  | [] => .nil
  | _ :: l => .keep (Sub.refl l)
theorem Sub.trans {a b c : List Op} (h : Sub a b) (h' : Sub b c) : Sub a c := by
  induction h generalizing c with
  | nil => exact h'
  | keep h ih => cases h' with
    | keep h2 => exact .keep (ih h2)
    | skip hp h2 => exact .skip hp (ih h2)
  | skip hp h ih => exact .skip hp (ih h')
theorem Sub.mem {a b : List Op} (h : Sub a b) : ∀ o ∈ b, o ∈ a := by
  induction h with
  | nil => simp
  | keep _ ih => intro o ho; rcases List.mem_cons.1 ho with rfl | h1; · simp
                 · simp [ih o h1]
  | skip _ _ ih => intro o ho; simp [ih o ho]
theorem Sub.len {a b : List Op} (h : Sub a b) : b.length ≤ a.length := by
  induction h <;> simp <;> omega
/-- The blocks of one program, some operations taken out. -/
def SubB (bs q : List Blk) : Prop := bs.length = q.length ∧ ∀ (i : Nat) (b c : Blk), bs[i]? = some b → q[i]? = some c → b.term = c.term ∧ Sub b.ops c.ops
theorem SubB.refl (bs : List Blk) : SubB bs bs := ⟨rfl, fun i b c h h' => by rw [h] at h'; cases h'; exact ⟨rfl, .refl _⟩⟩
theorem SubB.trans {a b c : List Blk} (h : SubB a b) (h' : SubB b c) : SubB a c := by
  refine ⟨h.1.trans h'.1, fun i x z hx hz => ?_⟩
  obtain ⟨y, hy⟩ : ∃ y, b[i]? = some y := ⟨_, List.getElem?_eq_getElem (by rw [← h.1]; exact (List.getElem?_eq_some_iff.1 hx).1)⟩
  obtain ⟨e1, s1⟩ := h.2 i x y hx hy
  obtain ⟨e2, s2⟩ := h'.2 i y z hy hz
  exact ⟨e1.trans e2, s1.trans s2⟩
end Go.Proofs.YtkeoalhglkfbkaaDoor

/-
  'Dead': the blocks are gone through once. No conditions.
-/
namespace Go.Proofs.YtkeoalhglkfbkaaDoor
open Go Hk Go.Proofs.Wd

/-- The arrays, copied: their slice and its block. -/
inductive AF (p : IR) : AVal → Heap → Prop
  | nil (h : p.arrays = []) : AF p (.slice [] .nil) []
  | own : AF p (.slice (p.arrays.map Arr.cells) (.own 4)) [.front p.arrays.length 4]
section
variable {p : IR} {A : AVal} {F : Heap} {bs : List Blk} {E : Heap}
theorem AF.san (h : AF p A F) {m : Nat} {H : Heap} (hm : F.length + 4 ≤ m) : A.san1 m H = A := by
  cases h with
  | nil => rfl
  | own => simp at hm; simp [show 4 < m by omega]
theorem AF.ok (h : AF p A F) : A.cellOk = true := by cases h <;> rfl
theorem AF.un (h : AF p A F) : A.untok1 = .slice (p.arrays.map Arr.cells) .no := by
  cases h with
  | nil h => simp [AVal.untok1, h]
  | own => rfl
theorem AF.KB (h : AF p A F) {n : Nat} : KBn n F := by
  cases h with
  | nil => exact KBn_nil
  | own => exact KBn_front KBn_nil
end

end Go.Proofs.YtkeoalhglkfbkaaDoor

/-
  'Dead': a round of its inner loop. No conditions.
-/
namespace Go.Proofs.YtkeoalhglkfbkaaDoor
open Go Hk Go.Proofs.Wd

section
variable {p : IR} {A : AVal} {F : Heap} {bs : List Blk}
end
end Go.Proofs.YtkeoalhglkfbkaaDoor

/-
  'Dead': its loops. No conditions.
-/
namespace Go.Proofs.YtkeoalhglkfbkaaDoor
open Go Hk Go.Proofs.Wd

section
variable {p : IR} {A : AVal} {F : Heap} {bs : List Blk}
end
end Go.Proofs.YtkeoalhglkfbkaaDoor

/-
  'Dead': a round of its outer loop. No conditions.
-/
namespace Go.Proofs.YtkeoalhglkfbkaaDoor
open Go Hk Go.Proofs.Wd

section
variable {p : IR} {A : AVal} {F : Heap} {bs : List Blk}
end
end Go.Proofs.YtkeoalhglkfbkaaDoor

/-
  'Dead': what it answers. No conditions.
-/
namespace Go.Proofs.YtkeoalhglkfbkaaDoor
open Go Hk Go.Proofs.Wd

section
variable {p : IR} {A : AVal} {F : Heap}
end

end Go.Proofs.YtkeoalhglkfbkaaDoor

/-
  The document's 'Is'. No conditions.
-/
namespace Go.Proofs.YtkeoalhglkfbkaaDoor
open Go Hk Go.Proofs.Wd

end Go.Proofs.YtkeoalhglkfbkaaDoor

/-
  The document's 'without'. No conditions.
-/
namespace Go.Proofs.YtkeoalhglkfbkaaDoor
open Go Hk Go.Proofs.Wd

end Go.Proofs.YtkeoalhglkfbkaaDoor

/-
  The document's 'without': its rounds. No conditions.
-/
namespace Go.Proofs.YtkeoalhglkfbkaaDoor
open Go Hk Go.Proofs.Wd

end Go.Proofs.YtkeoalhglkfbkaaDoor

/-
  The document's 'without', whole. No conditions.
-/
namespace Go.Proofs.YtkeoalhglkfbkaaDoor
open Go Hk Go.Proofs.Wd

end Go.Proofs.YtkeoalhglkfbkaaDoor

/-
  The document's 'Dead': its inner loop. No conditions.
-/
namespace Go.Proofs.YtkeoalhglkfbkaaDoor
open Go Hk Go.Proofs.Wd

end Go.Proofs.YtkeoalhglkfbkaaDoor

/-
  The document's 'Dead': a block gone through. No conditions.
-/
namespace Go.Proofs.YtkeoalhglkfbkaaDoor
open Go Hk Go.Proofs.Wd

end Go.Proofs.YtkeoalhglkfbkaaDoor

/-
  The document's 'Dead': all blocks gone through. No conditions.
-/
namespace Go.Proofs.YtkeoalhglkfbkaaDoor
open Go Hk Go.Proofs.Wd

end Go.Proofs.YtkeoalhglkfbkaaDoor

/-
  The document's 'Dead': what it answers. No conditions.
-/
namespace Go.Proofs.YtkeoalhglkfbkaaDoor
open Go Hk Go.Proofs.Wd

end Go.Proofs.YtkeoalhglkfbkaaDoor

/-
  Few operations; 'Same' of a program with itself. No conditions.
-/
namespace Go.Proofs.YtkeoalhglkfbkaaDoor
open Go Hk Go.Proofs.Wd

def H42 (p : IR) (E : Heap) : Heap := .cells p.cells :: .cells p.cells :: E
theorem H42_KBn {p : IR} : KBn 2 (H42 p []) := KBn_cells HB_CBn (KBn_cells HB_CBn KBn_nil)
section
variable {p : IR}
theorem H42_tr {E : Heap} : trunc 2 (H42 p E) = some (H42 p []) := trunc_app (h := H42 p []) (C := E) H42_KBn
theorem m42_loop0 (hn : p.arrays.length ≤ 2000000) : ∀ (d i : Nat), p.arrays.length = i + d →
    lpW (m42_l0 KK 2) ([.ptr 0 0, .ptr 1 0, .bool false, .int .i64 (i : Int)], H42 p []) = some (.exit 0, [.ptr 0 0, .ptr 1 0, .bool false, .int .i64 (p.arrays.length : Int)], H42 p []) := by
  have ag0 : afieldAt 1 (.ptr 0 0) = some (.ptr 0 1) := rfl
  have ag1 : afieldAt 1 (.ptr 1 0) = some (.ptr 1 1) := rfl
  have l0 : aload false 1 (H42 p []) (.ptr 0 1) = some (.slice (p.arrays.map Arr.cells) .no) := by simp [H42, IR.cells]
  have l1 : aload false 1 (H42 p []) (.ptr 1 1) = some (.slice (p.arrays.map Arr.cells) .no) := by simp [H42, IR.cells]
  have len : alenSl (.slice (p.arrays.map Arr.cells) .no) = some (.int .i64 (p.arrays.length : Int)) := by simp
  have tr := H42_tr (p := p) (E := [])
  intro d
  induction d with
  | zero =>
    intro i hi
    obtain rfl : i = p.arrays.length := by omega
    refine lp_exit ?_
    generalize H42 p [] = X at *
    unfold m42_l0
    simp -implicitDefEqProofs [-aload_ptr, ag0, l0, len, tr, endR, san1_ptr]
  | succ d ih =>
    intro i hi
    rw [← ih (i + 1) (by omega)]
    refine lp_go ?_
    have hil : i < p.arrays.length := by omega
    have hii : (i : Int) < (p.arrays.length : Int) := by omega
    obtain ⟨x, hx⟩ : ∃ x, p.arrays[i]? = some x := ⟨_, List.getElem?_eq_getElem hil⟩
    have ix : aindexSl 4 (.slice (p.arrays.map Arr.cells) .no) (.int .i64 (i : Int)) = some (.pptr x.cells) := by rw [aindexSl_map, hx]; rfl
    have lx : ∀ H, aload true 4 H (.pptr x.cells) = some (.agg x.cells) := by intro H; simp [Arr.cells]
    have eq : aeqAgg [.i, .i, .i, .i] (.agg x.cells) (.agg x.cells) = some true := by simp [aeqAgg, aeqAll, aeqK, Arr.cells]
    have w1 : IntKind.i64.wrap ((i : Int) + 1) = ((i + 1 : Nat) : Int) := by rw [wrap64 (by omega) (by omega), Int.natCast_add]; rfl
    generalize ((i + 1 : Nat) : Int) = i1 at *
    generalize H42 p [] = X at *
    unfold m42_l0
    simp -implicitDefEqProofs [-aload_ptr, -aload_pptr, ag0, ag1, l0, l1, len, hii, ix, lx, eq, w1, tr, endR, san1_ptr]
theorem HB_CBnB {n : Nat} {b : Blk} : CBn n b.cells := CBn_slice (CBn_int (CBn_int (CBn_int (CBn_int CBn_nil))))
theorem H42_KBn2 {b c : Blk} : KBn 4 (H42 p [.cells b.cells, .cells c.cells]) := KBn_cells HB_CBn (KBn_cells HB_CBn (KBn_cells HB_CBnB (KBn_cells HB_CBnB KBn_nil)))
theorem m42_loop1 {b : Blk} {i0 : Int} (hn : b.ops.length ≤ 2000000) : ∀ (d i : Nat), b.ops.length = i + d →
    lpW (m42_l1 KK 4) ([.ptr 0 0, .ptr 1 0, .bool false, .int .i64 i0, .ptr 2 0, .ptr 3 0, .int .i64 (i : Int)], H42 p [.cells b.cells, .cells b.cells]) = some (.exit 4, [.ptr 0 0, .ptr 1 0, .bool false, .int .i64 i0, .ptr 2 0, .ptr 3 0, .int .i64 (b.ops.length : Int)], H42 p [.cells b.cells, .cells b.cells]) := by
  have ag0 : afieldAt 0 (.ptr 2 0) = some (.ptr 2 0) := rfl
  have ag1 : afieldAt 0 (.ptr 3 0) = some (.ptr 3 0) := rfl
  have l0 : aload false 1 (H42 p [.cells b.cells, .cells b.cells]) (.ptr 2 0) = some (.slice (b.ops.map Op.cells) .no) := by simp [H42, Blk.cells]
  have l1 : aload false 1 (H42 p [.cells b.cells, .cells b.cells]) (.ptr 3 0) = some (.slice (b.ops.map Op.cells) .no) := by simp [H42, Blk.cells]
  have len : alenSl (.slice (b.ops.map Op.cells) .no) = some (.int .i64 (b.ops.length : Int)) := by simp
  have tr : trunc 4 (H42 p [.cells b.cells, .cells b.cells]) = some (H42 p [.cells b.cells, .cells b.cells]) := trunc_app0 (h := H42 p [.cells b.cells, .cells b.cells]) H42_KBn2
  intro d
  induction d with
  | zero =>
    intro i hi
    obtain rfl : i = b.ops.length := by omega
    refine lp_exit ?_
    generalize H42 p [.cells b.cells, .cells b.cells] = X at *
    unfold m42_l1
    simp -implicitDefEqProofs [-aload_ptr, ag0, l0, len, tr, endR, san1_ptr]
  | succ d ih =>
    intro i hi
    rw [← ih (i + 1) (by omega)]
    refine lp_go ?_
    have hil : i < b.ops.length := by omega
    have hii : (i : Int) < (b.ops.length : Int) := by omega
    obtain ⟨x, hx⟩ : ∃ x, b.ops[i]? = some x := ⟨_, List.getElem?_eq_getElem hil⟩
    have ix : aindexSl 6 (.slice (b.ops.map Op.cells) .no) (.int .i64 (i : Int)) = some (.pptr x.cells) := by rw [aindexSl_map, hx]; rfl
    have lx : ∀ H, aload true 6 H (.pptr x.cells) = some (.agg x.cells) := by intro H; simp [Op.cells]
    have eq : aeqAgg [.i, .i, .i, .i, .i, .i] (.agg x.cells) (.agg x.cells) = some true := by simp [aeqAgg, aeqAll, aeqK, Op.cells]
    have w1 : IntKind.i64.wrap ((i : Int) + 1) = ((i + 1 : Nat) : Int) := by rw [wrap64 (by omega) (by omega), Int.natCast_add]; rfl
    generalize ((i + 1 : Nat) : Int) = i1 at *
    generalize H42 p [.cells b.cells, .cells b.cells] = X at *
    unfold m42_l1
    simp -implicitDefEqProofs [-aload_ptr, -aload_pptr, ag0, ag1, l0, l1, len, hii, ix, lx, eq, w1, tr, endR, san1_ptr]
theorem m42_round {b : Blk} {i : Nat} (hb : p.blocks[i]? = some b) (hi : i ≤ 2000000) (hn : b.ops.length ≤ 2000000) :
    m42_l2 KK 2 ([.ptr 0 0, .ptr 1 0, .bool false, .int .i64 (i : Int)], H42 p []) = some (.normal, [.ptr 0 0, .ptr 1 0, .bool false, .int .i64 ((i + 1 : Nat) : Int)], H42 p []) := by
  have hib := (List.getElem?_eq_some_iff.1 hb).1
  have hii : (i : Int) < (p.blocks.length : Int) := by omega
  have w1 : IntKind.i64.wrap ((i : Int) + 1) = ((i + 1 : Nat) : Int) := by rw [wrap64 (by omega) (by omega), Int.natCast_add]; rfl
  have g := m42_loop1 (p := p) (i0 := (i : Int)) hn b.ops.length 0 (by omega)
  have e0 : ((0 : Nat) : Int) = 0 := rfl
  rw [e0] at g
  have la : H42 p [] ++ [.free, .free] = H42 p [.free, .free] := rfl
  have ll : (H42 p []).length = 2 := rfl
  have ag0 : afieldAt 2 (.ptr 0 0) = some (.ptr 0 2) := rfl
  have ag1 : afieldAt 2 (.ptr 1 0) = some (.ptr 1 2) := rfl
  have l0 : ∀ E, aload false 1 (H42 p E) (.ptr 0 2) = some (.slice (p.blocks.map Blk.cells) .no) := by intro E; simp [H42, IR.cells]
  have l1 : ∀ E, aload false 1 (H42 p E) (.ptr 1 2) = some (.slice (p.blocks.map Blk.cells) .no) := by intro E; simp [H42, IR.cells]
  have len : alenSl (.slice (p.blocks.map Blk.cells) .no) = some (.int .i64 (p.blocks.length : Int)) := by simp
  have ixb : aindexSl 5 (.slice (p.blocks.map Blk.cells) .no) (.int .i64 (i : Int)) = some (.pptr b.cells) := by rw [aindexSl_map, hb]; rfl
  have lbb : ∀ H, aload true 5 H (.pptr b.cells) = some (.agg b.cells) := by intro H; simp [Blk.cells]
  have n0 : anewAt (2 + 0) 5 (H42 p [.free, .free]) (.agg [.slice [] .nil, .int .i64 0, .int .i64 0, .int .i64 0, .int .i64 0]) = some (.ptr 2 0, H42 p [.cells [.slice [] .nil, .int .i64 0, .int .i64 0, .int .i64 0, .int .i64 0], .free]) := by rfl
  have n1 : anewAt (2 + 1) 5 (H42 p [.cells [.slice [] .nil, .int .i64 0, .int .i64 0, .int .i64 0, .int .i64 0], .free]) (.agg [.slice [] .nil, .int .i64 0, .int .i64 0, .int .i64 0, .int .i64 0]) = some (.ptr 3 0, H42 p [.cells [.slice [] .nil, .int .i64 0, .int .i64 0, .int .i64 0, .int .i64 0], .cells [.slice [] .nil, .int .i64 0, .int .i64 0, .int .i64 0, .int .i64 0]]) := by rfl
  have lk : lockIds [0, 1] [.ptr 1 2, .pptr b.cells] = [1] := rfl
  have hd : hide [1] (H42 p [.cells [.slice [] .nil, .int .i64 0, .int .i64 0, .int .i64 0, .int .i64 0], .cells [.slice [] .nil, .int .i64 0, .int .i64 0, .int .i64 0, .int .i64 0]]) = [.cells p.cells, .gone, .cells [.slice [] .nil, .int .i64 0, .int .i64 0, .int .i64 0, .int .i64 0], .cells [.slice [] .nil, .int .i64 0, .int .i64 0, .int .i64 0, .int .i64 0]] := rfl
  have s0 : astore 5 [.cells p.cells, .gone, .cells [.slice [] .nil, .int .i64 0, .int .i64 0, .int .i64 0, .int .i64 0], .cells [.slice [] .nil, .int .i64 0, .int .i64 0, .int .i64 0, .int .i64 0]] (.ptr 2 0) (.agg b.cells) = some [.cells p.cells, .gone, .cells b.cells, .cells [.slice [] .nil, .int .i64 0, .int .i64 0, .int .i64 0, .int .i64 0]] := by simp [Blk.cells]
  have uh : unhide [1] (H42 p [.cells [.slice [] .nil, .int .i64 0, .int .i64 0, .int .i64 0, .int .i64 0], .cells [.slice [] .nil, .int .i64 0, .int .i64 0, .int .i64 0, .int .i64 0]]) [.cells p.cells, .gone, .cells b.cells, .cells [.slice [] .nil, .int .i64 0, .int .i64 0, .int .i64 0, .int .i64 0]] = H42 p [.cells b.cells, .cells [.slice [] .nil, .int .i64 0, .int .i64 0, .int .i64 0, .int .i64 0]] := rfl
  have s1 : astore 5 (H42 p [.cells b.cells, .cells [.slice [] .nil, .int .i64 0, .int .i64 0, .int .i64 0, .int .i64 0]]) (.ptr 3 0) (.agg b.cells) = some (H42 p [.cells b.cells, .cells b.cells]) := by simp [H42, Blk.cells]
  have at0 : afieldAt 1 (.ptr 2 0) = some (.ptr 2 1) := rfl
  have at1 : afieldAt 1 (.ptr 3 0) = some (.ptr 3 1) := rfl
  have lt0 : aload true 4 (H42 p [.cells b.cells, .cells b.cells]) (.ptr 2 1) = some (.agg b.term.cells) := by simp [H42, Blk.cells, Term.cells]
  have lt1 : aload true 4 (H42 p [.cells b.cells, .cells b.cells]) (.ptr 3 1) = some (.agg b.term.cells) := by simp [H42, Blk.cells, Term.cells]
  have eq : aeqAgg [.i, .i, .i, .i] (.agg b.term.cells) (.agg b.term.cells) = some true := by simp [aeqAgg, aeqAll, aeqK, Term.cells]
  have a20 : afieldAt 0 (.ptr 2 0) = some (.ptr 2 0) := rfl
  have a30 : afieldAt 0 (.ptr 3 0) = some (.ptr 3 0) := rfl
  have lo0 : aload false 1 (H42 p [.cells b.cells, .cells b.cells]) (.ptr 2 0) = some (.slice (b.ops.map Op.cells) .no) := by simp [H42, Blk.cells]
  have lo1 : aload false 1 (H42 p [.cells b.cells, .cells b.cells]) (.ptr 3 0) = some (.slice (b.ops.map Op.cells) .no) := by simp [H42, Blk.cells]
  have lenO : alenSl (.slice (b.ops.map Op.cells) .no) = some (.int .i64 (b.ops.length : Int)) := by simp
  have l4 : (H42 p [.cells b.cells, .cells b.cells]).length = 4 := rfl
  have tr := H42_tr (p := p) (E := [.cells b.cells, .cells b.cells])
  generalize ((i + 1 : Nat) : Int) = i1 at *
  have l00 := l0 [.free, .free]
  have l10 := l1 [.free, .free]
  have l0n := l0 []
  generalize H42 p [] = X at *
  generalize H42 p [.free, .free] = X1 at *
  generalize H42 p [.cells [.slice [] .nil, .int .i64 0, .int .i64 0, .int .i64 0, .int .i64 0], .free] = X2 at *
  generalize H42 p [.cells [.slice [] .nil, .int .i64 0, .int .i64 0, .int .i64 0, .int .i64 0], .cells [.slice [] .nil, .int .i64 0, .int .i64 0, .int .i64 0, .int .i64 0]] = X3 at *
  generalize H42 p [.cells b.cells, .cells [.slice [] .nil, .int .i64 0, .int .i64 0, .int .i64 0, .int .i64 0]] = X4 at *
  generalize H42 p [.cells b.cells, .cells b.cells] = X5 at *
  unfold m42_l2
  simp -implicitDefEqProofs [-aload_ptr, -aload_ptrT, -aload_pptr, -astore_ptr, la, ll, ag0, ag1, l0n, l00, l10, len, hii, ixb, lbb, n0, n1, lk, hd, s0, uh, s1, at0, at1, lt0, lt1, eq, a20, a30, lo0, lo1, lenO, l4, g, tr, w1, endR, san1_ptr]
theorem m42_loop2 (hn : p.blocks.length ≤ 2000000) (ho : ∀ b ∈ p.blocks, b.ops.length ≤ 2000000) : ∀ (d i : Nat), p.blocks.length = i + d →
    lpW (m42_l2 KK 2) ([.ptr 0 0, .ptr 1 0, .bool false, .int .i64 (i : Int)], H42 p []) = some (.exit 2, [.ptr 0 0, .ptr 1 0, .bool false, .int .i64 (p.blocks.length : Int)], H42 p []) := by
  intro d
  induction d with
  | zero =>
    intro i hi
    obtain rfl : i = p.blocks.length := by omega
    refine lp_exit ?_
    have ag0 : afieldAt 2 (.ptr 0 0) = some (.ptr 0 2) := rfl
    have l0 : aload false 1 (H42 p []) (.ptr 0 2) = some (.slice (p.blocks.map Blk.cells) .no) := by simp [H42, IR.cells]
    have len : alenSl (.slice (p.blocks.map Blk.cells) .no) = some (.int .i64 (p.blocks.length : Int)) := by simp
    have tr := H42_tr (p := p) (E := [])
    generalize H42 p [] = X at *
    unfold m42_l2
    simp -implicitDefEqProofs [-aload_ptr, ag0, l0, len, tr, endR, san1_ptr]
  | succ d ih =>
    intro i hi
    rw [← ih (i + 1) (by omega)]
    obtain ⟨b, hb⟩ : ∃ b, p.blocks[i]? = some b := ⟨_, List.getElem?_eq_getElem (by omega)⟩
    exact lp_go (m42_round hb (by omega) (ho b (List.mem_of_getElem? hb)))
/-- 'Same' of a program with itself. -/
theorem c42 (ha : p.arrays.length ≤ 2000000) (hn : p.blocks.length ≤ 2000000) (ho : ∀ b ∈ p.blocks, b.ops.length ≤ 2000000) (h : Heap) : KK 42 [.agg p.cells, .agg p.cells] h = some (.ret (.bool true), h) := by
  refine callP_pure rfl rfl (evW_by (m42_eq _ _ _ _) ?_)
  have g0 := m42_loop0 (p := p) ha p.arrays.length 0 (by omega)
  have g2 := m42_loop2 (p := p) hn ho p.blocks.length 0 (by omega)
  have e0 : ((0 : Nat) : Int) = 0 := rfl
  rw [e0] at g0 g2
  have a0 : anew 5 [] (.agg p.cells) = some (.ptr 0 0, [.cells p.cells]) := by simp [IR.cells]
  have a1 : anew 5 [.cells p.cells] (.agg p.cells) = some (.ptr 1 0, H42 p []) := by simp [IR.cells, H42]
  have ag : ∀ k i, afieldAt k (.ptr i 0) = some (.ptr i k) := by intro k i; simp [afieldAt]
  have t0 : ∀ i, i < 2 → aload false 1 (H42 p []) (.ptr i 0) = some (.int .i64 p.temps) := by intro i hi; match i, hi with | 0, _ => simp [H42, IR.cells] | 1, _ => simp [H42, IR.cells]
  have t1 : ∀ i, i < 2 → aload false 1 (H42 p []) (.ptr i 1) = some (.slice (p.arrays.map Arr.cells) .no) := by intro i hi; match i, hi with | 0, _ => simp [H42, IR.cells] | 1, _ => simp [H42, IR.cells]
  have t2 : ∀ i, i < 2 → aload false 1 (H42 p []) (.ptr i 2) = some (.slice (p.blocks.map Blk.cells) .no) := by intro i hi; match i, hi with | 0, _ => simp [H42, IR.cells] | 1, _ => simp [H42, IR.cells]
  have t3 : ∀ i, i < 2 → aload false 1 (H42 p []) (.ptr i 3) = some (.int .i64 p.inn) := by intro i hi; match i, hi with | 0, _ => simp [H42, IR.cells] | 1, _ => simp [H42, IR.cells]
  have t4 : ∀ i, i < 2 → aload false 1 (H42 p []) (.ptr i 4) = some (.int .i64 p.out) := by intro i hi; match i, hi with | 0, _ => simp [H42, IR.cells] | 1, _ => simp [H42, IR.cells]
  have ll : (H42 p []).length = 2 := rfl
  generalize H42 p [] = X at *
  unfold m42
  simp -implicitDefEqProofs [-aload_ptr, -anew, -afieldAt_ptr, a0, a1, ag, t0, t1, t2, t3, t4, ll, g0, g2, finR_zero]
end
end Go.Proofs.YtkeoalhglkfbkaaDoor

/-
  'lives' of layer 22 answers true. No conditions.
-/
namespace Go.Proofs.YtkeoalhglkfbkaaDoor
open Go Hk Go.Proofs.Wd

def t39 : Term := ⟨3, 0, 0, 0⟩
end Go.Proofs.YtkeoalhglkfbkaaDoor

/-
  'DeadNone', plainly: no operation that is left is dead; what is left is found in its order. No conditions.
-/
namespace Go.Proofs.YtkeoalhglkfbkaaDoor
open Go Hk Go.Proofs.Wd

end Go.Proofs.YtkeoalhglkfbkaaDoor

/-
  'DeadNone': its loops. No conditions.
-/
namespace Go.Proofs.YtkeoalhglkfbkaaDoor
open Go Hk Go.Proofs.Wd

section
variable {p : IR} {q : List Blk} {b : Blk} {outs lst : List (List Int)} {i : Nat}
end
end Go.Proofs.YtkeoalhglkfbkaaDoor

/-
  'DeadNone', 'DeadTells': the evaluator's runs. No conditions.
-/
namespace Go.Proofs.YtkeoalhglkfbkaaDoor
open Go Hk Go.Proofs.Wd

section
variable {p : IR} {q : List Blk} {outs : List (List Int)} {i : Nat}
end

end Go.Proofs.YtkeoalhglkfbkaaDoor

/-
  The shallow forms of the functions on programs of blocks, each equal to the evaluator's run of its code. No conditions.
-/
namespace Go.Proofs.YtkeoalhglkfbkaaDoor
open Go Hk
/- hauberk/hauberklaw25.SlotsApplied -/
noncomputable def m16 (K : CallO) (a0 a1 : AVal) (h0 : Heap) : Option (Res × Heap) :=
  (bindVH (anew 5 h0 a0) fun t0 h1 => (aload true 5 h1 t0).bind fun t2 => bindRes (K 49 [(AVal.untok t2), (AVal.untok a1)] h1) (fun t3 h4 => (aextract 0 t3).bind fun t5 => (aextract 1 t3).bind fun t6 => bindVH (anew 5 h4 (.agg [(.int .i64 0), (.slice [] .nil), (.slice [] .nil), (.int .i64 0), (.int .i64 0)])) fun t7 h8 => (astore 5 h8 t7 t5).bind fun h9 => (aload true 5 h9 t0).bind fun t10 => bindRes (K 50 [(AVal.untok t10), (AVal.untok a1)] h9) (fun t11 h12 => (aextract 0 t11).bind fun t13 => (aextract 1 t11).bind fun t14 => bindVH (anew 5 h12 (.agg [(.int .i64 0), (.slice [] .nil), (.slice [] .nil), (.int .i64 0), (.int .i64 0)])) fun t15 h16 => (astore 5 h16 t15 t13).bind fun h17 => (aload true 5 h17 t7).bind fun t18 => (aload true 5 h17 t15).bind fun t19 => bindRes (K 42 [(AVal.untok t18), (AVal.untok t19)] h17) (fun t20 h21 => (guardSel true t20 (kv0 t6 h21) (kv0 (.tuple []) h21)).bind (fin0 (fun t22 h23 => (guardSel true t20 (kv0 t14 h23) (kv0 (.tuple []) h23)).bind (fin0 (fun t24 h25 => (guardSel true t20 ((abin .eql t22 t24).bind fun t26 => kv0 t26 h25) (kv0 (.tuple []) h25)).bind (fin0 (fun t27 h28 => (apick t20 t27 (.bool false)).bind fun t29 => (guardSel true t29 (bindRes (K 44 [] h28) (fun t30 h31 => kv0 t30 h31) kp0) (kv0 (.tuple []) h28)).bind (fin0 (fun t32 h33 => (apick t29 t32 (.bool false)).bind fun t34 => some (.ret, [t34], h33)) (fun _ _ => none))) (fun _ _ => none))) (fun _ _ => none))) (fun _ _ => none))) (fun _ _ => none)) (fun _ _ => none)) (fun _ _ => none)).bind fun r35 => (fun x4v36 h37 => Ex.endF r35.1 (finR (List.length h0) x4v36 h37)) (List.getD r35.2.1 0 .junk) r35.2.2
theorem m16_eq (K : CallO) (a0 a1 : AVal) (h0 : Heap) : evB Tryd.prog ann lpW K 16 [a0, a1] h0 = m16 (callP ann K) a0 a1 h0 := by kernel_rfl

end Go.Proofs.YtkeoalhglkfbkaaDoor

/-
  'lives' of layer 25 answers true. No conditions.
-/
namespace Go.Proofs.YtkeoalhglkfbkaaDoor
open Go Hk
theorem r44 : evF Tryd.prog ann (loopN 40) 16 44 [] [] = some (.ret (.bool true), []) := by kernel_rfl
theorem c44 (h : Heap) : KK 44 [] h = some (.ret (.bool true), h) := callP_pure rfl rfl (evW_run 40 16 44 [] [] _ r44)
end Go.Proofs.YtkeoalhglkfbkaaDoor
