/-
  The texts IX.K11, IX.R1, IX.R2, IX.R3, IX.S1, IX.S2, IX.S3, IX.S4, IX.S5, IX.S6, IX.W5, one behind another. No conditions.
-/
import Derived.Test.YtkeoalhglkfbkaaDoorIx2
import Derived.Test.YtkeoalhglkfbkaaDoorIx1
set_option linter.unusedVariables false
set_option linter.unusedSimpArgs false
set_option linter.unusedSectionVars false
set_option linter.all false
/-
  'Live': what it answers. No conditions.
-/
namespace Go.Proofs.YtkeoalhglkfbkaaDoor
open Go Hk Go.Proofs.Wd

theorem checkS_zero {p : IR} (h : checkS p = 0) : Lim0 p ∧ Lim p ∧ p.blocks ≠ [] ∧ arrsS p.inn p.out 0 p.arrays = true ∧ ∀ b ∈ p.blocks, (∀ o ∈ b.ops, opS p o = true) ∧ termS (p := p) b.term = true := by
  unfold checkS at h
  cases hl : limitedS p
  · rw [hl, if_pos rfl] at h; exact absurd h (by decide)
  · rw [hl, if_neg (by decide)] at h
    have l := limited_iff.1 hl
    split at h
    · rename_i hc
      obtain ⟨c1, c2, c3, c4, c5, c6⟩ := hc
      simp only [between, Bool.and_eq_true, decide_eq_true_eq] at c1 c2
      split at h
      · rename_i h2
        simp only [Bool.and_eq_true, List.all_eq_true] at h2
        refine ⟨l, ⟨c5, l.t1, l.a1, l.b1, c1.1, c1.2, c2.1, c2.2⟩, c6, h2.1, fun b hb => ?_⟩
        have := h2.2 b hb
        simp only [blkS, Bool.and_eq_true, List.all_eq_true] at this
        exact this
      · exact absurd h (by decide)
    · exact absurd h (by decide)

theorem opsOk_of {p : IR} (h : checkS p = 0) : OpsOk p ∧ ∀ b ∈ p.blocks, leadsP b.term = leadsS b.term := by
  obtain ⟨l, lp, hne, _, hb⟩ := checkS_zero h
  have ht0 := lp.t0
  have ht1 := lp.t1
  have hu : ∀ b ∈ p.blocks, ∀ o ∈ b.ops, (∀ t ∈ usesS o, 0 ≤ t ∧ t < p.temps) ∧ o.dst ≤ 2000000 ∧ ((formS o.kind).dst = true → 0 ≤ o.dst ∧ o.dst < p.temps) := by
    intro b hbm o ho
    have h1 := (hb b hbm).1 o ho
    unfold opS at h1
    simp only [Bool.and_eq_true, List.all_eq_true, decide_eq_true_eq, Bool.or_eq_true, Bool.not_eq_true', between] at h1
    obtain ⟨_, _, h2, ⟨h3, _⟩, h4, _⟩ := h1
    refine ⟨fun t ht => by have := h2 t ht; omega, ?_, fun hd => ?_⟩
    · rcases h4 with h4 | h4
      · rw [h4] at h3; simp at h3; omega
      · omega
    · rcases h4 with h4 | h4
      · rw [hd] at h4; cases h4
      · omega
  have hlead : ∀ b ∈ p.blocks, ∀ j ∈ leadsP b.term, 0 ≤ j ∧ j.toNat < p.blocks.length := by
    intro b hbm j hj
    have h1 := (hb b hbm).2
    unfold termS at h1
    unfold leadsP at hj
    by_cases k1 : b.term.kind = 1
    · rw [if_pos k1] at h1 hj
      simp only [Bool.and_eq_true, decide_eq_true_eq, between] at h1
      have := List.mem_filter.1 hj
      simp at this
      omega
    · rw [if_neg k1] at h1 hj
      by_cases k2 : b.term.kind = 2
      · rw [if_pos k2] at h1 hj
        simp only [Bool.and_eq_true, decide_eq_true_eq, between] at h1
        have := List.mem_filter.1 hj
        simp at this
        omega
      · rw [if_neg k2] at hj; simp at hj
  refine ⟨⟨fun b hb o ho => (hu b hb o ho).1, fun b hb o ho => (hu b hb o ho).2.1, fun b hb o ho => (hu b hb o ho).2.2, fun b hbm k2 => ?_, hlead, ht1, by have := lp.b1; omega, fun b hb => by have := opsS_mem hb; have := l.o1; omega⟩, fun b hbm => leads_eq (hb b hbm).2⟩
  have h1 := (hb b hbm).2
  unfold termS at h1
  rw [if_neg (by omega), if_pos k2] at h1
  simp only [Bool.and_eq_true, decide_eq_true_eq, between] at h1
  omega

def slW (ws : List Wd) : AVal := .slice (ints (zs (listS ws))) .no
def rowsW (l : List Cl) (i : Nat) : List (List AVal) := (List.range i).map fun k => [slW (Wk l k)]
theorem rowsW_len {l : List Cl} {i : Nat} : (rowsW l i).length = i := by simp [rowsW]
theorem rowsW_succ {l : List Cl} {i : Nat} : rowsW l (i + 1) = rowsW l i ++ [[slW (Wk l i)]] := by simp [rowsW, List.range_succ]

section
variable {p : IR} (hp : OpsOk p) {ins outs : List Cl} (hi : ins.length = p.blocks.length) (ho : outs.length = p.blocks.length) (hsi : ∀ c ∈ ins, (setC c).length ≤ 20000) (hso : ∀ c ∈ outs, (setC c).length ≤ 20000)
include hp hi ho hsi hso
theorem m27_loop4 : ∀ (d i : Nat), p.blocks.length = i + d →
    lpW (m27_l4 KK 7) ([T1, T2, .int .i64 0, .mslice 3 0 p.blocks.length 1, .mslice 4 0 p.blocks.length 1, .slice (rowsW ins i) (.own 5), .slice (rowsW outs i) (.own 6), .int .i64 (p.blocks.length : Int), .int .i64 (i : Int)], HB p (ins.map cellA) (outs.map cellA) ++ [FR i, FR i]) =
      some (.exit 8, [T1, T2, .int .i64 0, .mslice 3 0 p.blocks.length 1, .mslice 4 0 p.blocks.length 1, .slice (rowsW ins p.blocks.length) (.own 5), .slice (rowsW outs p.blocks.length) (.own 6), .int .i64 (p.blocks.length : Int), .int .i64 (p.blocks.length : Int)],
        HB p (ins.map cellA) (outs.map cellA) ++ [FR p.blocks.length, FR p.blocks.length]) := by
  have q1 := fun h => sT1 (m := 7) (h := h) (by omega)
  have q2 := fun h => sT2 (m := 7) (h := h) (by omega)
  have q3 := fun h => sMI (m := 7) (h := h) (n := p.blocks.length) (by omega)
  have q4 := fun h => sMO (m := 7) (h := h) (n := p.blocks.length) (by omega)
  have q5 : ∀ h rows, AVal.san 7 h (.slice rows (.own 5)) = .slice rows (.own 5) := fun h rows => by simp
  have q6 : ∀ h rows, AVal.san 7 h (.slice rows (.own 6)) = .slice rows (.own 6) := fun h rows => by simp
  have hnb := hp.nb
  have hT : ∀ n k : Nat, TH (HB p (ins.map cellA) (outs.map cellA) ++ [FR n, FR k]) := fun n k => by
    have e : HB p (ins.map cellA) (outs.map cellA) ++ [FR n, FR k] = HB p (ins.map cellA) (outs.map cellA) ++ ([FR n] ++ [FR k]) := rfl
    unfold TH; rw [e]
    exact KBn_app (HB_KBn (cells_CBn _) (cells_CBn _)) (KBn_app FR_ok FR_ok)
  have htr : ∀ n k C, trunc 7 (.cells p.cells :: .front 0 0 :: .front 0 0 :: .cells (ins.map cellA) :: .cells (outs.map cellA) :: FR n :: FR k :: C) = some [.cells p.cells, .front 0 0, .front 0 0, .cells (ins.map cellA), .cells (outs.map cellA), FR n, FR k] := fun n k C => trunc_app (C := C) (hT n k)
  intro d
  induction d with
  | zero =>
    intro i hd
    obtain rfl : p.blocks.length = i := by omega
    refine lp_exit ?_
    simp only [HB, List.cons_append, List.nil_append]
    unfold m27_l4
    simp -implicitDefEqProofs [endR, htr, q1, q2, q3, q4, q5, q6]
  | succ d ih =>
    intro i hd
    have hil : i < p.blocks.length := by omega
    have hil' : (i : Int) < (p.blocks.length : Int) := by omega
    rw [← ih (i + 1) (by omega)]
    refine lp_go ?_
    have hci : ins[i]? = some ins[i] := List.getElem?_eq_getElem (by omega)
    have hco : outs[i]? = some outs[i] := List.getElem?_eq_getElem (by omega)
    have hWi : setC ins[i] = Wk ins i := by unfold Wk; rw [List.getD_eq_getElem?_getD, hci]; rfl
    have hWo : setC outs[i] = Wk outs i := by unfold Wk; rw [List.getD_eq_getElem?_getD, hco]; rfl
    have ixi : aindexSl 1 (.mslice 3 0 p.blocks.length 1) (.int .i64 (i : Int)) = some (.ptr 3 i) := by rw [aindexSl_mslice, if_pos ⟨hil, rfl⟩]; simp
    have ixo : aindexSl 1 (.mslice 4 0 p.blocks.length 1) (.int .i64 (i : Int)) = some (.ptr 4 i) := by rw [aindexSl_mslice, if_pos ⟨hil, rfl⟩]; simp
    have ldi : ∀ X Y Z W C, aload false 1 (X :: Y :: Z :: .cells (ins.map cellA) :: W :: C) (.ptr 3 i) = some (cellA ins[i]) := fun X Y Z W C => by
      rw [aload_ptr]
      have : getBlk (X :: Y :: Z :: .cells (ins.map cellA) :: W :: C) 3 = some (ins.map cellA) := rfl
      rw [this, Option.bind_some, List.getElem?_map, hci]; rfl
    have ldo : ∀ X Y Z W C, aload false 1 (X :: Y :: Z :: W :: .cells (outs.map cellA) :: C) (.ptr 4 i) = some (cellA outs[i]) := fun X Y Z W C => by
      rw [aload_ptr]
      have : getBlk (X :: Y :: Z :: W :: .cells (outs.map cellA) :: C) 4 = some (outs.map cellA) := rfl
      rw [this, Option.bind_some, List.getElem?_map, hco]; rfl
    have hTh : TH ([.cells p.cells, .front 0 0, .front 0 0, .cells (ins.map cellA), .gone, FR i, FR i] : Heap) := by
      have e : ([.cells p.cells, .front 0 0, .front 0 0, .cells (ins.map cellA), .gone, FR i, FR i] : Heap) = [.cells p.cells, .front 0 0, .front 0 0, .cells (ins.map cellA), .gone] ++ ([FR i] ++ [FR i]) := rfl
      unfold TH; rw [e]
      exact KBn_app (KBn_cells HB_CBn (KBn_front (KBn_front (KBn_cells (cells_CBn _) (KBn_gone_iff.2 KBn_nil))))) (KBn_app FR_ok FR_ok)
    have g1 := c63 hTh (cellA_in ins[i]) (hsi _ (List.getElem_mem _))
    rw [hWi] at g1
    have hT2 : TH ([.cells p.cells, .front 0 0, .front 0 0, .cells (ins.map cellA), .cells (outs.map cellA), FR (i + 1), FR i, .front 1 1] : Heap) := by
      have e : ([.cells p.cells, .front 0 0, .front 0 0, .cells (ins.map cellA), .cells (outs.map cellA), FR (i + 1), FR i, .front 1 1] : Heap) = HB p (ins.map cellA) (outs.map cellA) ++ ([FR (i + 1)] ++ ([FR i] ++ [.front 1 1])) := rfl
      unfold TH; rw [e]
      exact KBn_app (HB_KBn (cells_CBn _) (cells_CBn _)) (KBn_app FR_ok (KBn_app FR_ok (KBn_front KBn_nil)))
    have g2 := c63 hT2 (cellA_in outs[i]) (hso _ (List.getElem_mem _))
    rw [hWo] at g2
    have w1 : IntKind.i64.wrap ((i : Int) + 1) = ((i + 1 : Nat) : Int) := by rw [wrap64 (by omega) (by omega), Int.natCast_add]; rfl
    have row : ∀ (z : List Int) (h : Heap), abuildSlice 1 1 [.slice [] .nil] [(0, .slice (ints z) .no)] h = some (.slice [[.slice (ints z) .no]] (.own h.length), h ++ [.front 1 1]) := fun z h => rfl
    have a1 := fun t => FR_app (h := [.cells p.cells, .front 0 0, .front 0 0, .cells (ins.map cellA), .gone]) (C := [FR i, .front 1 1]) (rows := rowsW ins i) (v := .slice (ints (zs (listS (Wk ins i)))) .no) (by_ := 24) (by omega) (by rw [rowsW_len]; omega) (t := t)
    have a2 := fun t => FR_app (h := [.cells p.cells, .front 0 0, .front 0 0, .cells (ins.map cellA), .cells (outs.map cellA), FR (i + 1)]) (C := [.front 1 1, .front 1 1]) (rows := rowsW outs i) (v := .slice (ints (zs (listS (Wk outs i)))) .no) (by_ := 24) (by omega) (by rw [rowsW_len]; omega) (t := t)
    have r1 : rowsW ins i ++ [[.slice (ints (zs (listS (Wk ins i)))) .no]] = rowsW ins (i + 1) := rowsW_succ.symm
    have r2 : rowsW outs i ++ [[.slice (ints (zs (listS (Wk outs i)))) .no]] = rowsW outs (i + 1) := rowsW_succ.symm
    simp only [rowsW_len, r1, r2, List.length_cons, List.length_nil, Nat.zero_add, Nat.reduceAdd, List.cons_append, List.nil_append] at a1 a2
    simp only [HB, List.cons_append, List.nil_append]
    generalize ((i + 1 : Nat) : Int) = i1 at *
    generalize rowsW ins (i + 1) = R1 at *
    generalize rowsW outs (i + 1) = R2 at *
    generalize rowsW ins i = R3 at *
    generalize rowsW outs i = R4 at *
    generalize zs (listS (Wk ins i)) = z1 at *
    generalize zs (listS (Wk outs i)) = z2 at *
    generalize cellA ins[i] = c1 at *
    generalize cellA outs[i] = c2 at *
    unfold m27_l4
    simp -implicitDefEqProofs [-aload_ptr, hil', ixi, ixo, ldi, ldo, g1, g2, row, a1, a2, w1, endR, htr, q1, q2, q3, q4, q5, q6]
end

open Classical in
/-- The temps that are wanted ahead of a block. -/
noncomputable def liveIn (p : IR) (k : Nat) : List Int := zs ((List.range p.temps.toNat).filter fun t => decide (Reach p.blocks (t : Int) k))
open Classical in
/-- Those that are wanted behind it. -/
noncomputable def liveOut (p : IR) (k : Nat) : List Int := zs ((List.range p.temps.toNat).filter fun t => decide (∃ b, p.blocks[k]? = some b ∧ Behind p.blocks (t : Int) b.term))
noncomputable def liveI (p : IR) : List (List Int) := if checkS p = 0 then (List.range p.blocks.length).map (liveIn p) else []
noncomputable def liveO (p : IR) : List (List Int) := if checkS p = 0 then (List.range p.blocks.length).map (liveOut p) else []
def listsA (l : List (List Int)) : AVal := .slice (l.map fun z => [.slice (ints z) .no]) .no

theorem listS_reach {ws : List Wd} {n : Nat} {P : Nat → Prop} [DecidablePred P] (h : ∀ t, wget ws t = true ↔ P t) (hn : ∀ t, P t → t < n) : listS ws = (List.range n).filter fun t => decide (P t) := by
  rw [listS_eq fun t ht => hn t ((h t).1 ht)]
  apply List.filter_congr
  intro t _
  cases hx : wget ws t
  · have : ¬ P t := fun hp => by rw [(h t).2 hp] at hx; cases hx
    simp [this]
  · simp [(h t).1 hx]

theorem c27 (p : IR) (h : Heap) : KK 27 [.agg p.cells] h = some (.ret (.tuple [listsA (liveI p), listsA (liveO p), .int .i64 (checkS p)]), h) := by
  classical
  refine callP_pure rfl rfl (evW_by (m27_eq _ _ _) ?_)
  have g30 := c30 p
  by_cases h0 : checkS p = 0
  · obtain ⟨hp, hl⟩ := opsOk_of h0
    obtain ⟨_, lp, _⟩ := checkS_zero h0
    have hM : ∀ ins, SI p ins → sizeS ins ≤ p.blocks.length * 1280000 := fun ins hI => by have := sizeS_le ins hI.sz; rwa [hI.len] at this
    obtain ⟨ins, outs, g1, g2, g3, g4⟩ := m27_loop3 hp hl _ hM _ (List.replicate p.blocks.length (false, [])) (List.replicate p.blocks.length (false, [])) true (Nat.lt_succ_self _) (SI.start hp hl) (by simp) (fun h => by cases h)
    have hso : ∀ c ∈ outs, (setC c).length ≤ 20000 := fun c hc => by
      obtain ⟨k, hk⟩ := List.getElem?_of_mem hc
      have hkl : k < p.blocks.length := by rw [← g3]; exact (List.getElem?_eq_some_iff.1 hk).1
      have := (g4 k _ (List.getElem?_eq_getElem hkl)).1
      rw [List.getD_eq_getElem?_getD, hk] at this
      simp at this
      rw [this]
      exact join_len 20000 _ [] (by simp) fun s hs' => by
        obtain ⟨j, _, rfl⟩ := List.mem_map.1 hs'
        exact Wk_sz g2.sz j.toNat
    have g5 := m27_loop4 hp g2.len g3 g2.sz hso p.blocks.length 0 (by omega)
    have e1 : rowsW ins p.blocks.length = (liveI p).map fun z => [.slice (ints z) .no] := by
      unfold rowsW liveI
      rw [if_pos h0, List.map_map]
      apply List.map_congr_left
      intro k hk
      simp only [Function.comp, slW, liveIn]
      rw [listS_reach (n := p.temps.toNat) (P := fun t : Nat => Reach p.blocks (t : Int) k) (fun t => SI.complete hp hl g2 g4 k t) (fun t ht => by have := (reach_range hp ht).2; omega)]
    have e2 : rowsW outs p.blocks.length = (liveO p).map fun z => [.slice (ints z) .no] := by
      unfold rowsW liveO
      rw [if_pos h0, List.map_map]
      apply List.map_congr_left
      intro k hk
      have hkl := List.mem_range.1 hk
      have hb : p.blocks[k]? = some p.blocks[k] := List.getElem?_eq_getElem hkl
      have hbm := List.getElem_mem hkl
      have hw : Wk outs k = outW ins p.blocks[k] := by unfold Wk; rw [(g4 k _ hb).1]; rfl
      simp only [Function.comp, slW, liveOut]
      rw [hw, listS_reach (n := p.temps.toNat) (P := fun t : Nat => ∃ b, p.blocks[k]? = some b ∧ Behind p.blocks (t : Int) b.term) (fun t => ?_) (fun t ht => ?_)]
      · rw [wget_out]
        constructor
        · rintro ⟨j, hj, ht⟩
          rw [hl _ hbm] at hj
          exact ⟨_, hb, j, hj, (SI.complete hp hl g2 g4 _ _).1 ht⟩
        · rintro ⟨b, hb', j, hj, hr⟩
          rw [hb] at hb'; cases hb'
          rw [← hl _ hbm] at hj
          exact ⟨j, hj, (SI.complete hp hl g2 g4 _ _).2 hr⟩
      · obtain ⟨b, _, j, _, hr⟩ := ht
        have := (reach_range hp hr).2; omega
    rw [e1, e2] at g5
    have e0 : ∀ l : List Cl, rowsW l 0 = [] := fun l => rfl
    have eF : FR 0 = .front 0 0 := rfl
    have er : (List.replicate p.blocks.length (false, [])).map cellA = List.replicate p.blocks.length (.slice [] .nil) := by rw [List.map_replicate]; rfl
    simp only [e0, eF, Int.cast_ofNat_Int] at g5
    rw [er] at g1
    have mk : ∀ (h : Heap), amakeSlice 1 24 [.slice [] .nil] (.int .i64 (p.blocks.length : Int)) h = some (.mslice h.length 0 p.blocks.length 1, h ++ [.cells (List.replicate p.blocks.length (.slice [] .nil))]) := fun h => by
      have hnb := hp.nb
      simp only [amakeSlice]
      rw [if_pos ⟨by omega, by simp; omega, by omega⟩]
      simp
    rw [h0] at g30 ⊢
    have st : ∀ (r1 r2 : List (List AVal)) (h : Heap), AVal.untok (AVal.san 0 h (.tuple [.slice r1 (.own 5), .slice r2 (.own 6), .int .i64 0])) = .tuple [.slice r1 .no, .slice r2 .no, .int .i64 0] := fun _ _ _ => rfl
    unfold listsA
    generalize (liveI p).map (fun z => [AVal.slice (ints z) .no]) = R1 at *
    generalize (liveO p).map (fun z => [AVal.slice (ints z) .no]) = R2 at *
    generalize ins.map cellA = ci at *
    generalize outs.map cellA = co at *
    simp only [lvS, HB, T1, T2, List.cons_append, List.nil_append, IR.cells] at g1 g5 g30 ⊢
    generalize List.replicate p.blocks.length (AVal.slice [] .nil) = c0 at *
    simp -implicitDefEqProofs [m27, g30, mk, g1, g5, finR, st]
  · have e1 : liveI p = [] := if_neg h0
    have e2 : liveO p = [] := if_neg h0
    rw [e1, e2]
    generalize checkS p = e at *
    have st : ∀ (h : Heap), AVal.untok (AVal.san 0 h (.tuple [.slice [] (.own 3), .slice [] (.own 4), .int .i64 e])) = .tuple [.slice [] .no, .slice [] .no, .int .i64 e] := fun _ => rfl
    simp only [IR.cells] at g30 ⊢
    simp -implicitDefEqProofs [m27, g30, h0, finR, st, listsA]
end Go.Proofs.YtkeoalhglkfbkaaDoor

/-
  The document's Uses, and the fate of a temp. No conditions.
-/
namespace Go.Proofs.YtkeoalhglkfbkaaDoor
open Go Hk Go.Proofs.Wd

/-! ### Numbers in a slice that is written into -/
def VI (id : Nat) : List Int → AVal
  | [] => .slice [] (.own id)
  | w :: r => .vslice id (r.length + 1) 0 (r.length + 1) 1
def XI : List Int → ABlk
  | [] => .front 0 0
  | w :: r => .vec (r.length + 1) 1 ((w :: r).map intc)

section
variable {A B C : List ABlk} {ws : List Int} {id m i : Nat} {h : Heap} {k : IntKind}
theorem VI_len : alenSl (VI id ws) = some (.int .i64 (ws.length : Int)) := by cases ws <;> rfl
theorem VI_san (hi : id < m) : AVal.san m h (VI id ws) = VI id ws := by
  cases ws with
  | nil => simp [VI, hi]
  | cons w r => exact san_vslice hi
theorem XI_ok : XOk (XI ws) := by
  intro m h
  cases ws with
  | nil => rfl
  | cons w r =>
    have : sanCells m h ((w :: r).map intc) = some ((w :: r).map intc) := sanCells_ints fun c hc => by
      obtain ⟨x, _, rfl⟩ := List.mem_map.1 hc; exact ⟨_, _, rfl⟩
    show (sanCells m h ((w :: r).map intc)).map _ = _
    rw [this]; rfl
theorem VI_index (hi : i < ws.length) : aindexSl 1 (VI id ws) (.int k (i : Int)) = some (.vptr id ws.length i) := by
  cases ws with
  | nil => simp at hi
  | cons w r =>
    have : i < r.length + 1 := by simpa using hi
    simp [VI, this]
theorem getVec_XI (h0 : ws ≠ []) : getVec (OQ A (XI ws) B) A.length ws.length = some (1, ws.map intc) := by
  unfold getVec
  rw [OQ_get?]
  cases ws with
  | nil => exact absurd rfl h0
  | cons w r => simp [XI]
theorem VI_load (hi : i < ws.length) : aload false 1 (OQ A (XI ws) B) (.vptr A.length ws.length i) = some (intc (ws.getD i 0)) := by
  rw [aload_vptr, getVec_XI (by intro e; subst e; simp at hi)]
  simp [List.getD_eq_getElem?_getD, hi]
theorem VI_append (hl : ws.length ≤ 2000000) (w : Int) {t : Hk.Tok} : aappendV 1 8 (OQ A (XI ws) B) (VI A.length ws) (.slice [[intc w]] t) = some (VI A.length (ws ++ [w]), OQ A (XI (ws ++ [w])) B) := by
  have hr : arowsS 1 (OQ A (XI ws) B) (.slice [[intc w]] t) = some [[intc w]] := by simp
  cases ws with
  | nil =>
    unfold aappendV
    simp only [VI, hr]
    rw [OQ_get?]
    simp [XI, VI, OQ_put]
  | cons x r =>
    have hg := getVec_XI (A := A) (B := B) (ws := x :: r) (by simp)
    unfold aappendV
    simp only [VI, hr]
    simp only [List.length_cons] at hg hl ⊢
    rw [hg]
    simp only [List.length_nil, Nat.zero_add]
    rw [if_pos ⟨trivial, trivial, by omega, by omega⟩, if_neg (by omega), if_neg (by omega)]
    simp [XI, VI, OQ_put, List.take_of_length_le]
end

def usesG (o : Op) : Heap := .cells o.cells :: .front 0 0 :: XI (usesS o) :: (usesS o).map fun _ => .front 1 1
theorem c100 (o : Op) (h : Heap) : KK 100 [.agg o.cells] h = some (.ret (VI (h.length + 2) (usesS o)), h ++ usesG o) := by
  refine evW_by (m100_eq _ _ _) ?_
  have f0 : ∀ (z : Int) (h : Heap), abuildSlice 1 1 [.int .i64 0] [(0, .int .i64 z)] h = some (.slice [[intc z]] (.own h.length), h ++ [.front 1 1]) := fun z h => rfl
  have gb : ∀ C, getBlk (h ++ .cells o.cells :: C) h.length = some o.cells := fun C => by unfold getBlk; rw [List.getElem?_append_right (Nat.le_refl _), Nat.sub_self]; rfl
  have ap : ∀ (l : List Int) (z : Int) (C : Heap) (t : Hk.Tok), l.length ≤ 10 → aappendV 1 8 (h ++ .cells o.cells :: .front 0 0 :: XI l :: C) (VI (h.length + 2) l) (.slice [[intc z]] t) = some (VI (h.length + 2) (l ++ [z]), h ++ .cells o.cells :: .front 0 0 :: XI (l ++ [z]) :: C) := fun l z C t hl => by
    have g := VI_append (A := h ++ [.cells o.cells, .front 0 0]) (B := C) (ws := l) (by omega) z (t := t)
    have e : (h ++ [ABlk.cells o.cells, .front 0 0]).length = h.length + 2 := by simp
    rw [e] at g
    simpa [OQ] using g
  have a1 := fun z C t => ap [] z C t (by simp)
  have a2 := fun x z C t => ap [x] z C t (by simp)
  have a3 := fun x y z C t => ap [x, y] z C t (by simp)
  have x0 : XI [] = .front 0 0 := rfl
  have v0 : VI (h.length + 2) [] = .slice [] (.own (h.length + 2)) := rfl
  have hs := form_src o.kind
  have c163 := c163 o.kind
  have hA := hasA o.kind
  have hB := hasB o.kind
  have hC := hasC o.kind
  unfold usesG usesS
  simp only [x0, v0, List.nil_append, List.cons_append] at a1 a2 a3
  simp only [Op.cells] at gb a1 a2 a3 ⊢
  rcases (show (formS o.kind).src = 0 ∨ (formS o.kind).src = 1 ∨ (formS o.kind).src = 2 ∨ (formS o.kind).src = 3 by omega) with h0 | h0 | h0 | h0 <;>
    rw [h0] at hA hB hC ⊢ <;>
    simp -implicitDefEqProofs [m100, gb, c163, hA, hB, hC, f0, a1, a2, a3, x0, v0]

/-! ### The fate of a temp -/
theorem m158_inner {A C : List ABlk} (hB : KB A C) {u : List Int} (hu : u.length ≤ 10) (t k : Int) : ∀ (d i : Nat), u.length = i + d →
    ∃ j : Int, lpW (m158_l0 KK (HN A C)) ([.int .i64 t, .ptr 0 0, .int .i64 0, .int .i64 k, VI A.length u, .int .i64 (i : Int)], OQ A (XI u) C) =
      some (if t ∈ u.drop i then .ret else .exit 2, [.int .i64 t, .ptr 0 0, .int .i64 (if t ∈ u.drop i then 1 else 0), .int .i64 k, VI A.length u, .int .i64 j], OQ A (XI u) C) := by
  have htr := OQ_trunc0 (X := XI u) (A := A) (B := C) hB XI_ok
  have hsn := fun h => VI_san (ws := u) (m := HN A C) (h := h) A_lt0
  have hsp : ∀ h, AVal.san (HN A C) h (.ptr 0 0) = .ptr 0 0 := fun h => san_ptr_lt (by simp [HN]; omega)
  intro d
  induction d with
  | zero =>
    intro i hd
    obtain rfl : u.length = i := by omega
    refine ⟨(u.length : Int), ?_⟩
    rw [List.drop_length]
    refine lp_exit ?_
    unfold m158_l0
    simp -implicitDefEqProofs [VI_len, endR, htr, hsn, hsp]
  | succ d ih =>
    intro i hd
    have hil : i < u.length := by omega
    have hil' : (i : Int) < (u.length : Int) := by omega
    have hx : u[i]? = some u[i] := List.getElem?_eq_getElem hil
    have w1 : IntKind.i64.wrap ((i : Int) + 1) = ((i + 1 : Nat) : Int) := by rw [wrap64 (by omega) (by omega), Int.natCast_add]; rfl
    have ix := fun k => VI_index (id := A.length) (k := k) hil
    have ld := VI_load (A := A) (B := C) hil
    have hgd : u.getD i 0 = u[i] := by simp [List.getD_eq_getElem?_getD, hx]
    rw [hgd] at ld
    rw [List.drop_eq_getElem_cons hil]
    generalize u[i] = z at *
    by_cases hz : z = t
    · subst hz
      refine ⟨(i : Int), ?_⟩
      rw [if_pos (by simp), if_pos (by simp)]
      refine lp_ret ?_
      unfold m158_l0
      simp -implicitDefEqProofs [-aload_vptr, VI_len, hil', ix, ld, intc, endR, htr, hsn, hsp]
    · obtain ⟨j, g⟩ := ih (i + 1) (by omega)
      refine ⟨j, ?_⟩
      have hm : (t ∈ z :: u.drop (i + 1)) ↔ t ∈ u.drop (i + 1) := by
        rw [List.mem_cons]; exact ⟨fun h => h.elim (fun e => absurd e.symm hz) id, .inr⟩
      simp only [hm]
      rw [← g]
      refine lp_go ?_
      generalize ((i + 1 : Nat) : Int) = i1 at *
      unfold m158_l0
      simp -implicitDefEqProofs [-aload_vptr, VI_len, hil', ix, ld, intc, hz, w1, endR, htr, hsn, hsp]

theorem m158_loop {b : Blk} (hb : b.ops.length ≤ 1048576) (t : Int) : ∀ (d i : Nat), b.ops.length = i + d →
    ∃ (e : Ex) (r j : Int), lpW (m158_l1 KK 1) ([.int .i64 t, .ptr 0 0, .int .i64 0, .int .i64 (i : Int)], [.cells b.cells]) = some (e, [.int .i64 t, .ptr 0 0, .int .i64 r, .int .i64 j], [.cells b.cells]) ∧
      ((e = .ret ∧ r = fateS (b.ops.drop i) b.term t) ∨ (e = .exit 0 ∧ fateS (b.ops.drop i) b.term t = fateS [] b.term t)) := by
  have htr : ∀ C, trunc 1 (.cells b.cells :: C) = some [.cells b.cells] := fun C => trunc_app (h := [.cells b.cells]) (C := C) (KBn_cells (by simp [Blk.cells]) KBn_nil)
  have hsp : ∀ h, AVal.san 1 h (.ptr 0 0) = .ptr 0 0 := fun h => san_ptr_lt (by omega)
  have ld : ∀ C, aload false 1 (.cells b.cells :: C) (.ptr 0 0) = some (.slice (b.ops.map Op.cells) .no) := fun C => rfl
  intro d
  induction d with
  | zero =>
    intro i hd
    obtain rfl : b.ops.length = i := by omega
    rw [List.drop_length]
    refine ⟨.exit 0, 0, (b.ops.length : Int), lp_exit ?_, .inr ⟨rfl, rfl⟩⟩
    unfold m158_l1
    simp -implicitDefEqProofs [-aload_ptr, ld, endR, htr, hsp]
  | succ d ih =>
    intro i hd
    have hil : i < b.ops.length := by omega
    have hil' : (i : Int) < (b.ops.length : Int) := by omega
    have hx : b.ops[i]? = some b.ops[i] := List.getElem?_eq_getElem hil
    have w1 : IntKind.i64.wrap ((i : Int) + 1) = ((i + 1 : Nat) : Int) := by rw [wrap64 (by omega) (by omega), Int.natCast_add]; rfl
    rw [List.drop_eq_getElem_cons hil]
    generalize b.ops[i] = o at *
    have g100 := c100 o [.cells b.cells]
    have g101 := c101 o
    have hB : KB [ABlk.cells b.cells, .cells o.cells, .front 0 0] ((usesS o).map fun _ => .front 1 1) := by
      refine ⟨fun n _ => KBn_cells (by simp [Blk.cells]) (KBn_cells (by simp [Op.cells]) (KBn_front KBn_nil)), fun n _ => ?_⟩
      generalize usesS o = u
      induction u with
      | nil => exact KBn_nil
      | cons x r ih => exact KBn_front ih
    obtain ⟨j0, gi⟩ := m158_inner hB (u := usesS o) (by have := uses_len o; omega) t (i : Int) (usesS o).length 0 (by omega)
    have eq : [ABlk.cells b.cells] ++ usesG o = OQ [ABlk.cells b.cells, .cells o.cells, .front 0 0] (XI (usesS o)) ((usesS o).map fun _ => .front 1 1) := rfl
    rw [eq] at g100
    have hl3 : [ABlk.cells b.cells, ABlk.cells o.cells, .front 0 0].length = 3 := rfl
    have hl1 : [ABlk.cells b.cells].length + 2 = 3 := rfl
    rw [hl1] at g100
    rw [hl3] at gi
    simp only [List.drop_zero, Int.cast_ofNat_Int] at gi
    have eld : aload false 1 (OQ [ABlk.cells b.cells, .cells o.cells, .front 0 0] (XI (usesS o)) ((usesS o).map fun _ => .front 1 1)) (.ptr 0 0) = some (.slice (b.ops.map Op.cells) .no) := rfl
    have etr : trunc 1 (OQ [ABlk.cells b.cells, .cells o.cells, .front 0 0] (XI (usesS o)) ((usesS o).map fun _ => .front 1 1)) = some [.cells b.cells] := htr _
    have elen : (OQ [ABlk.cells b.cells, .cells o.cells, .front 0 0] (XI (usesS o)) ((usesS o).map fun _ => .front 1 1)).length = HN [ABlk.cells b.cells, .cells o.cells, .front 0 0] ((usesS o).map fun _ => .front 1 1) := OQ_len
    have ixo : aindexSl 6 (.slice (b.ops.map Op.cells) .no) (.int .i64 (i : Int)) = some (.pptr o.cells) := by rw [aindexSl_map, hx]; rfl
    simp only [fateS]
    generalize hCC : ((usesS o).map fun _ => ABlk.front 1 1) = CC at *
    generalize hA3 : [ABlk.cells b.cells, ABlk.cells o.cells, .front 0 0] = A3 at *
    generalize hH3 : OQ A3 (XI (usesS o)) CC = H3 at *
    generalize VI 3 (usesS o) = V3 at *
    clear hH3 hA3 hCC eq hB
    simp only [Op.cells] at ixo g100 g101
    by_cases hu : t ∈ usesS o
    · rw [if_pos hu, if_pos hu] at gi
      rw [if_pos hu]
      refine ⟨.ret, 1, (i : Int), lp_ret ?_, .inl ⟨rfl, rfl⟩⟩
      unfold m158_l1
      simp -implicitDefEqProofs [-aload_ptr, -OQ_len, ld, hil', ixo, g100, elen, gi, endR, etr, hsp]
    · rw [if_neg hu, if_neg hu] at gi
      rw [if_neg hu]
      by_cases hd1 : (formS o.kind).dst = true ∧ o.dst = t
      · rw [if_pos hd1]
        obtain ⟨d1, d2⟩ := hd1
        rw [d1] at g101
        rw [d2] at g100 g101 ixo
        refine ⟨.ret, 2, (i : Int), lp_ret ?_, .inl ⟨rfl, rfl⟩⟩
        unfold m158_l1
        simp -implicitDefEqProofs [-aload_ptr, -OQ_len, ld, hil', ixo, g100, elen, gi, eld, g101, d2, endR, etr, hsp]
      · rw [if_neg hd1]
        obtain ⟨e, r, j, g1, g2⟩ := ih (i + 1) (by omega)
        refine ⟨e, r, j, ?_, g2⟩
        rw [← g1]
        refine lp_go ?_
        generalize ((i + 1 : Nat) : Int) = i1 at *
        cases hf : (formS o.kind).dst
        · rw [hf] at g101
          unfold m158_l1
          simp -implicitDefEqProofs [-aload_ptr, -OQ_len, ld, hil', ixo, g100, elen, gi, eld, g101, w1, endR, etr, hsp]
        · have d2 : ¬ o.dst = t := fun e => hd1 ⟨hf, e⟩
          rw [hf] at g101
          unfold m158_l1
          simp -implicitDefEqProofs [-aload_ptr, -OQ_len, ld, hil', ixo, g100, elen, gi, eld, g101, d2, w1, endR, etr, hsp]
theorem c158 {b : Blk} (hb : b.ops.length ≤ 1048576) (t : Int) (h : Heap) : KK 158 [.agg b.cells, .int .i64 0, .int .i64 t] h = some (.ret (.int .i64 (fateS b.ops b.term t)), h) := by
  refine callP_pure rfl rfl (evW_by (m158_eq _ _ _ _ _) ?_)
  obtain ⟨e, r, j, g1, g2⟩ := m158_loop hb t b.ops.length 0 (by omega)
  simp only [List.drop_zero, Int.cast_ofNat_Int, Blk.cells] at g1 g2 ⊢
  rcases g2 with ⟨rfl, rfl⟩ | ⟨rfl, g2⟩
  · simp [m158, g1, finR_zero]
  · rw [g2]
    simp only [fateS]
    by_cases k2 : b.term.kind = 2
    · by_cases ha : b.term.a = t
      · rw [k2, ha] at g1
        simp [m158, g1, k2, ha, finR_zero]
      · rw [k2] at g1
        simp [m158, g1, k2, ha, finR_zero]
    · simp [m158, g1, k2, finR_zero]

theorem c131 (t : Term) (h : Heap) : KK 131 [.agg t.cells] h = some (.ret (.slice (ints (leadsS t)) .no), h) := by
  refine callP_pure rfl rfl (evW_by (m131_eq _ _ _) ?_)
  have f0 : ∀ (z : Int) (h : Heap), abuildSlice 1 1 [.int .i64 0] [(0, .int .i64 z)] h = some (.slice [[.int .i64 z]] (.own h.length), h ++ [.front 1 1]) := fun z h => rfl
  have a1 : ∀ X Y z C t, aappend 1 8 (X :: Y :: .front 0 0 :: C) (.slice [] (.own 2)) (.slice [[.int .i64 z]] t) = some (.slice [[.int .i64 z]] (.own 2), X :: Y :: .front 1 1 :: C) := fun X Y z C t => by
    have := FR_append (h := [X, Y]) (C := C) (l := []) (z := z) (by simp) (t := t)
    simpa [FR, ints] using this
  have a2 : ∀ X Y y z C t, aappend 1 8 (X :: Y :: .front 1 1 :: C) (.slice [[.int .i64 y]] (.own 2)) (.slice [[.int .i64 z]] t) = some (.slice [[.int .i64 y], [.int .i64 z]] (.own 2), X :: Y :: .front 2 1 :: C) := fun X Y y z C t => by
    have := FR_append (h := [X, Y]) (C := C) (l := [y]) (z := z) (by simp) (t := t)
    simpa [FR, ints] using this
  unfold leadsS
  simp only [Term.cells]
  by_cases k1 : t.kind = 1
  · by_cases hy : 0 ≤ t.yes
    · simp [m131, k1, hy, f0, a1, finR_zero, ints]
    · simp [m131, k1, hy, f0, a1, finR_zero, ints]
  by_cases k2 : t.kind = 2
  · by_cases hy : 0 ≤ t.yes <;> by_cases hn : 0 ≤ t.no <;> simp [m131, k1, k2, hy, hn, f0, a1, a2, finR_zero, ints]
  · simp [m131, k1, k2, finR_zero, ints]
end Go.Proofs.YtkeoalhglkfbkaaDoor

/-
  The way that is looked for, and what it tells. No conditions.
-/
namespace Go.Proofs.YtkeoalhglkfbkaaDoor
open Go Hk Go.Proofs.Wd

/-- The heap of 'way'. -/
def HW (p : IR) (seen : List Bool) (l r : List Int) : Heap := [.cells p.cells, .cells (seen.map AVal.bool), .vec (l ++ r).length 1 ((l ++ r).map intc)]
def WV (l r : List Int) : AVal := .vslice 2 (l ++ r).length 0 l.length 1
theorem bools_CBn {n : Nat} (l : List Bool) : CBn n (l.map AVal.bool) := CBn_of fun c hc => by
  obtain ⟨x, _, rfl⟩ := List.mem_map.1 hc
  exact ⟨fun m h _ => rfl, rfl⟩
theorem intc_CBn {n : Nat} (l : List Int) : CBn n (l.map intc) := CBn_of fun c hc => by
  obtain ⟨x, _, rfl⟩ := List.mem_map.1 hc
  exact ⟨fun m h _ => rfl, rfl⟩
theorem KBn_vec {n tot sz : Nat} {cs : List AVal} {C : List ABlk} (h1 : CBn n cs) (h : KBn n C) : KBn n (.vec tot sz cs :: C) := fun m x hm => by simp [h m x hm, h1 m x hm]
theorem HW_KBn {p : IR} {seen : List Bool} {l r : List Int} {n : Nat} : KBn n (HW p seen l r) := KBn_cells HB_CBn (KBn_cells (bools_CBn _) (KBn_vec (intc_CBn _) KBn_nil))
theorem WV_len {l r : List Int} : alenSl (WV l r) = some (.int .i64 (l.length : Int)) := rfl
theorem WV_san {l r : List Int} {h : Heap} : AVal.san 3 h (WV l r) = WV l r := rfl
theorem ints_flat (l : List Int) : (ints l).flatten = l.map intc := by
  induction l with
  | nil => rfl
  | cons x r ih => simp only [ints, List.map_cons, List.flatten_cons, intc, List.cons_append, List.nil_append]; rw [← ih]; rfl
theorem WV_append {p : IR} {seen : List Bool} {l r new : List Int} {C : Heap} (hl : (l ++ r).length ≤ 4000000) (hn : new.length ≤ 4000000) {t : Hk.Tok} :
    ∃ r', (l ++ new ++ r').length ≤ max (l ++ r).length (l ++ new).length ∧ aappendV 1 8 (HW p seen l r ++ C) (WV l r) (.slice (ints new) t) = some (WV (l ++ new) r', HW p seen (l ++ new) r' ++ C) := by
  have hr : ∀ H : Heap, arowsS 1 H (.slice (ints new) t) = some (ints new) := fun H => by simp [ints]
  have hil : (ints new).length = new.length := by simp [ints]
  have gv : getVec (HW p seen l r ++ C) 2 (l ++ r).length = some (1, (l ++ r).map intc) := by simp [HW]
  simp only [List.length_append] at hl
  by_cases h0 : new.length = 0
  · obtain rfl := List.eq_nil_of_length_eq_zero h0
    refine ⟨r, by simp, ?_⟩
    unfold aappendV WV
    simp only [hr, gv, hil]
    rw [if_pos ⟨trivial, trivial, by omega, by omega⟩, if_pos h0]
    simp
  · by_cases h1 : l.length + new.length ≤ (l ++ r).length
    · refine ⟨r.drop new.length, ?_, ?_⟩
      · simp only [List.length_append, List.length_drop] at h1 ⊢; omega
      · have hpc : putCells ((l ++ r).map intc) (l.length * 1) (ints new).flatten = (l ++ new ++ r.drop new.length).map intc := by
          rw [ints_flat]
          unfold putCells
          simp only [List.map_append, Nat.mul_one, List.length_map]
          have e1 : (l.map intc ++ r.map intc).take l.length = l.map intc := by
            have := List.take_left (l₁ := l.map intc) (l₂ := r.map intc)
            rwa [List.length_map] at this
          have e2 : (l.map intc ++ r.map intc).drop (l.length + new.length) = (r.drop new.length).map intc := by
            have := List.drop_left (l₁ := l.map intc) (l₂ := r.map intc)
            rw [List.length_map] at this
            rw [← List.drop_drop, this, List.map_drop]
          rw [e1, e2]
        have htot : (l ++ new ++ r.drop new.length).length = (l ++ r).length := by
          simp only [List.length_append, List.length_drop] at h1 ⊢; omega
        have hln : (l ++ new).length = l.length + new.length := by simp
        unfold aappendV WV
        simp only [hr, gv, hil]
        rw [if_pos ⟨trivial, trivial, by omega, by omega⟩, if_neg h0, if_pos h1, hpc, htot, hln]
        simp [HW, htot]
        simp only [List.length_append, List.length_drop] at h1 ⊢
        omega
    · refine ⟨[], by simp; omega, ?_⟩
      have hln : (l ++ new).length = l.length + new.length := by simp
      have hpc : ((l ++ r).map intc).take (l.length * 1) ++ (ints new).flatten = (l ++ new).map intc := by
        rw [ints_flat, Nat.mul_one]
        simp only [List.map_append]
        have := List.take_left (l₁ := l.map intc) (l₂ := r.map intc)
        rw [List.length_map] at this
        rw [this]
      unfold aappendV WV
      simp only [hr, gv, hil]
      rw [if_pos ⟨trivial, trivial, by omega, by omega⟩, if_neg h0, if_neg h1, hpc]
      simp [HW]

def cf (l : List Bool) : Nat := (l.filter fun b => !b).length
theorem cf_set : ∀ {l : List Bool} {k : Nat}, l[k]? = some false → cf (l.set k true) + 1 = cf l
  | [], k, h => by simp at h
  | x :: r, 0, h => by simp at h; subst h; simp [cf]
  | x :: r, k + 1, h => by
    have ih := cf_set (l := r) (k := k) (by simpa using h)
    cases x <;> simp [cf] at ih ⊢ <;> omega
theorem cf_le (l : List Bool) : cf l ≤ l.length := List.length_filter_le _ _

section
variable {p : IR} (hp : OpsOk p) (hl : ∀ b ∈ p.blocks, leadsP b.term = leadsS b.term) (t : Int) {src : List Int} (hsrc : ∀ f ∈ src, 0 ≤ f)
include hp hl hsrc
theorem m130_loop : ∀ (n : Nat) (seen : List Bool) (l r : List Int), 3 * cf seen + l.length < n → n ≤ 4000000 → (l ++ r).length ≤ 4000000 → WayInv p.blocks t src seen l →
    ∃ (e : Ex) (rb : Bool) (seen' : List Bool) (l' r' : List Int), lpW (m130_l0 KK 3) ([.int .i64 t, .ptr 0 0, .bool false, .mslice 1 0 p.blocks.length 1, WV l r], HW p seen l r) =
      some (e, [.int .i64 t, .ptr 0 0, .bool rb, .mslice 1 0 p.blocks.length 1, WV l' r'], HW p seen' l' r') ∧
      ((e = .ret ∧ rb = true ∧ ∃ f ∈ src, Reach p.blocks t f.toNat) ∨ (e = .exit 0 ∧ ¬ ∃ f ∈ src, Reach p.blocks t f.toNat)) := by
  have htr : ∀ seen l r C, trunc 3 (HW p seen l r ++ C) = some (HW p seen l r) := fun seen l r C => trunc_app (h := HW p seen l r) (C := C) HW_KBn
  have htr0 : ∀ seen l r, trunc 3 (HW p seen l r) = some (HW p seen l r) := fun seen l r => trunc_app0 (h := HW p seen l r) HW_KBn
  have hsp : ∀ h, AVal.san 3 h (.ptr 0 0) = .ptr 0 0 := fun h => san_ptr_lt (by omega)
  have hsm : ∀ h, AVal.san 3 h (.mslice 1 0 p.blocks.length 1) = .mslice 1 0 p.blocks.length 1 := fun h => rfl
  have ldA : ∀ seen l r, aload false 1 (HW p seen l r) (.ptr 0 2) = some (.slice (p.blocks.map Blk.cells) .no) := fun _ _ _ => rfl
  have hln : ∀ b ∈ p.blocks, ∀ j ∈ leadsS b.term, 0 ≤ j := fun b hb j hj => by rw [← hl b hb] at hj; exact (hp.lead b hb j hj).1
  intro n
  induction n with
  | zero => intro seen l r h; omega
  | succ n ih =>
    intro seen l r hn hn4 hlr hI
    rcases List.eq_nil_or_concat l with rfl | ⟨l0, k, rfl⟩
    · refine ⟨.exit 0, false, seen, [], r, lp_exit ?_, .inr ⟨rfl, hI.done⟩⟩
      have hw0 : alenSl (WV [] r) = some (.int .i64 0) := rfl
      unfold m130_l0
      simp -implicitDefEqProofs [-aload_ptr, hw0, endR, htr0, hsp, hsm, WV_san]
    · simp only [List.concat_eq_append] at hn hlr hI ⊢
      have happ : (l0 ++ [k]) ++ r = l0 ++ (k :: r) := by simp
      have hH : ∀ s, HW p s (l0 ++ [k]) r = HW p s l0 (k :: r) := fun s => by unfold HW; rw [happ]
      have hk := hI.lt k (by simp)
      obtain ⟨q, hq⟩ := Int.eq_ofNat_of_zero_le hk.1
      have hqn : q < p.blocks.length := by have := hk.2; rw [hq] at this; simpa using this
      have hsl : q < seen.length := by rw [hI.len]; exact hqn
      have hb : p.blocks[q]? = some p.blocks[q] := List.getElem?_eq_getElem hqn
      have hbm := List.getElem_mem hqn
      have hx : seen[q]? = some seen[q] := List.getElem?_eq_getElem hsl
      have hlen : alenSl (WV (l0 ++ [k]) r) = some (.int .i64 ((l0.length + 1 : Nat) : Int)) := by simp [WV_len]
      have hgt : (0 : Int) < ((l0.length + 1 : Nat) : Int) := by omega
      have hl0 : l0.length ≤ 4000000 := by simp only [List.length_append] at hlr; omega
      have w0 : IntKind.i64.wrap (((l0.length + 1 : Nat) : Int) - 1) = (l0.length : Int) := by rw [wrap64] <;> omega
      have ix : aindexSl 1 (WV (l0 ++ [k]) r) (.int .i64 (l0.length : Int)) = some (.vptr 2 (l0 ++ (k :: r)).length l0.length) := by
        unfold WV; rw [happ, aindexSl_vslice, if_pos ⟨by simp, rfl⟩]; simp
      have ldk : aload false 1 (HW p seen l0 (k :: r)) (.vptr 2 (l0 ++ (k :: r)).length l0.length) = some (.int .i64 (q : Int)) := by
        rw [aload_vptr]
        have : getVec (HW p seen l0 (k :: r)) 2 (l0 ++ (k :: r)).length = some (1, (l0 ++ (k :: r)).map intc) := by simp [HW]
        rw [this]
        simp [intc, hq]
      have sl : asliceSl 1 (WV (l0 ++ [k]) r) none (some (.int .i64 (l0.length : Int))) = some (WV l0 (k :: r)) := by
        have a2 : abound (some (.int .i64 (l0.length : Int))) (l0 ++ [k]).length = some l0.length := by simp [abound]
        unfold WV
        simp only [asliceSl, abound_none, a2, happ]
        rw [if_pos ⟨by omega, by simp, trivial⟩]
        simp
      have ixs : aindexSl 1 (.mslice 1 0 p.blocks.length 1) (.int .i64 (q : Int)) = some (.ptr 1 q) := by rw [aindexSl_mslice, if_pos ⟨hqn, rfl⟩]; simp
      have lds : aload false 1 (HW p seen l0 (k :: r)) (.ptr 1 q) = some (.bool seen[q]) := by
        rw [aload_ptr]
        have : getBlk (HW p seen l0 (k :: r)) 1 = some (seen.map AVal.bool) := rfl
        rw [this, Option.bind_some, List.getElem?_map, hx]; rfl
      obtain ⟨pa, ix, ldk⟩ : ∃ pa, aindexSl 1 (WV (l0 ++ [k]) r) (.int .i64 (l0.length : Int)) = some pa ∧ aload false 1 (HW p seen l0 (k :: r)) pa = some (.int .i64 (q : Int)) := ⟨_, ix, ldk⟩
      rw [hH]
      by_cases hsn : seen[q] = true
      · rw [hsn] at lds hx
        have hI2 := hI.skip (by rw [hq]; simpa using hx) hsrc hln
        obtain ⟨e, rb, s', l', r', g1, g2⟩ := ih seen l0 (k :: r) (by simp only [List.length_append, List.length_singleton] at hn; omega) (by omega) (by rw [← happ]; exact hlr) hI2
        refine ⟨e, rb, s', l', r', ?_, g2⟩
        rw [← g1]
        refine lp_go ?_
        have htr1 := htr0 seen l0 (k :: r)
        generalize ((l0.length + 1 : Nat) : Int) = z1 at *
        generalize HW p seen l0 (k :: r) = Hh at *
        unfold m130_l0
        simp -implicitDefEqProofs [-aload_ptr, -aload_vptr, hlen, hgt, w0, ix, ldk, sl, ixs, lds, endR, htr1, hsp, hsm, WV_san]
      · have hsf : seen[q] = false := by cases h : seen[q] <;> simp_all
        rw [hsf] at lds hx
        have hcf := cf_set hx
        have st : astore 1 (HW p seen l0 (k :: r)) (.ptr 1 q) (.bool true) = some (HW p (seen.set q true) l0 (k :: r)) := by
          rw [astore_ptr]
          have : getBlk (HW p seen l0 (k :: r)) 1 = some (seen.map AVal.bool) := rfl
          have hq' : q < (seen.map AVal.bool).length := by simpa using hsl
          rw [this, Option.bind_some, if_pos ⟨rfl, by simp; omega, rfl⟩, cells_bool, List.drop_eq_getElem_cons hq', keepTok_cons, keepTok_nil2, keep1_bool]
          have : putCells (seen.map AVal.bool) q [.bool true] = (seen.set q true).map AVal.bool := by
            unfold putCells
            rw [List.map_set, List.set_eq_take_append_cons_drop, if_pos hq']
            simp
          rw [this]; rfl
        have bx : aindexSl 5 (.slice (p.blocks.map Blk.cells) .no) (.int .i64 (q : Int)) = some (.pptr (Blk.cells p.blocks[q])) := by rw [aindexSl_map, hb]; rfl
        have g158 := c158 (b := p.blocks[q]) (hp.len _ hbm) t
        have g131 := c131 (p.blocks[q]).term
        have hfc := fateS_cases (p.blocks[q]).ops (p.blocks[q]).term t
        have hlt : ∀ j ∈ leadsS (p.blocks[q]).term, 0 ≤ j ∧ j.toNat < p.blocks.length := fun j hj => by rw [← hl _ hbm] at hj; exact hp.lead _ hbm j hj
        have hbk : p.blocks[k.toNat]? = some p.blocks[q] := by rw [hq]; simpa using hb
        have hll : (leadsS (p.blocks[q]).term).length ≤ 2 := by
          unfold leadsS
          split
          · exact Nat.le_trans (List.length_filter_le _ _) (by simp)
          · split
            · exact Nat.le_trans (List.length_filter_le _ _) (by simp)
            · simp
        have hkq : k.toNat = q := by rw [hq]; simp
        have ldA1 := ldA (seen.set q true) l0 (k :: r)
        have htr1 := htr0 (seen.set q true) l0 (k :: r)
        simp only [List.length_append, List.length_singleton] at hn
        rcases hfc with hf | hf | hf
        · -- neither read nor made: on
          have hI2 := hI.push hbk (by rw [hf]; decide) rfl hlt
          rw [hf, if_pos rfl, hkq] at hI2
          obtain ⟨r', hr1, hr2⟩ := WV_append (p := p) (seen := seen.set q true) (l := l0) (r := k :: r) (new := leadsS (p.blocks[q]).term) (C := []) (by rw [← happ]; exact hlr) (by omega) (t := .no)
          rw [List.append_nil, List.append_nil] at hr2
          obtain ⟨e, rb, s', l', r'', g1, g2⟩ := ih (seen.set q true) (l0 ++ leadsS (p.blocks[q]).term) r' (by simp only [List.length_append]; omega) (by omega) (by
            rw [← happ] at hr1
            have : (l0 ++ leadsS (p.blocks[q]).term).length ≤ 4000000 := by simp only [List.length_append]; omega
            omega) hI2
          refine ⟨e, rb, s', l', r'', ?_, g2⟩
          rw [← g1]
          refine lp_go ?_
          have htr2 := htr0 (seen.set q true) (l0 ++ leadsS (p.blocks[q]).term) r'
          rw [hf] at g158
          simp only [Blk.cells, Term.cells] at bx g158 g131
          generalize leadsS (p.blocks[q]).term = ld at *
          generalize ((l0.length + 1 : Nat) : Int) = z1 at *
          generalize HW p (seen.set q true) (l0 ++ ld) r' = H3 at *
          generalize HW p (seen.set q true) l0 (k :: r) = H2 at *
          generalize HW p seen l0 (k :: r) = H1 at *
          unfold m130_l0
          simp -implicitDefEqProofs [-aload_ptr, -aload_vptr, -astore_ptr, hlen, hgt, w0, ix, ldk, sl, ixs, lds, st, ldA1, bx, g158, g131, hr2, endR, htr2, hsp, hsm, WV_san]
        · -- read
          refine ⟨.ret, true, seen.set q true, l0, k :: r, lp_ret ?_, .inl ⟨rfl, rfl, hI.hit hbk hf⟩⟩
          rw [hf] at g158
          simp only [Blk.cells, Term.cells] at bx g158 g131
          generalize ((l0.length + 1 : Nat) : Int) = z1 at *
          generalize HW p (seen.set q true) l0 (k :: r) = H2 at *
          generalize HW p seen l0 (k :: r) = H1 at *
          unfold m130_l0
          simp -implicitDefEqProofs [-aload_ptr, -aload_vptr, -astore_ptr, hlen, hgt, w0, ix, ldk, sl, ixs, lds, st, ldA1, bx, g158, endR, htr1, hsp, hsm, WV_san]
        · -- made
          have hI2 := hI.push hbk (by rw [hf]; decide) rfl hlt
          rw [hf, if_neg (by decide), hkq, List.append_nil] at hI2
          obtain ⟨e, rb, s', l', r'', g1, g2⟩ := ih (seen.set q true) l0 (k :: r) (by omega) (by omega) (by rw [← happ]; exact hlr) hI2
          refine ⟨e, rb, s', l', r'', ?_, g2⟩
          rw [← g1]
          refine lp_go ?_
          rw [hf] at g158
          simp only [Blk.cells, Term.cells] at bx g158 g131
          generalize ((l0.length + 1 : Nat) : Int) = z1 at *
          generalize HW p (seen.set q true) l0 (k :: r) = H2 at *
          generalize HW p seen l0 (k :: r) = H1 at *
          unfold m130_l0
          simp -implicitDefEqProofs [-aload_ptr, -aload_vptr, -astore_ptr, hlen, hgt, w0, ix, ldk, sl, ixs, lds, st, ldA1, bx, g158, endR, htr1, hsp, hsm, WV_san]
omit hsrc
open Classical in
theorem c130 (hsrc : ∀ f ∈ src, 0 ≤ f ∧ f.toNat < p.blocks.length) (hsl : src.length ≤ 10) (h : Heap) : KK 130 [.agg p.cells, .slice (ints src) .no, .int .i64 t] h = some (.ret (.bool (decide (∃ f ∈ src, Reach p.blocks t f.toNat))), h) := by
  refine callP_pure rfl rfl (evW_by (m130_eq _ _ _ _ _) ?_)
  have hnb := hp.nb
  have hcf := cf_le (List.replicate p.blocks.length false)
  rw [List.length_replicate] at hcf
  have h0 : HW p (List.replicate p.blocks.length false) [] [] = [.cells p.cells, .cells (List.replicate p.blocks.length (.bool false)), .vec 0 1 []] := by simp [HW]
  obtain ⟨r', hr1, hr2⟩ := WV_append (p := p) (seen := List.replicate p.blocks.length false) (l := []) (r := []) (new := src) (C := []) (by simp) (by omega) (t := .no)
  rw [List.append_nil, List.append_nil, h0] at hr2
  simp only [List.nil_append] at hr2 hr1
  obtain ⟨e, rb, s', l', r'', g1, g2⟩ := m130_loop hp hl t (fun f hf => (hsrc f hf).1) 3200000 (List.replicate p.blocks.length false) src r' (by omega) (by omega) (by
    have : max ([] : List Int).length src.length ≤ 10 := by simp; omega
    simp only [List.length_nil] at hr1 this
    omega) (WayInv.start hsrc)
  have mk : ∀ (h : Heap), amakeSlice 1 1 [.bool false] (.int .i64 (p.blocks.length : Int)) h = some (.mslice h.length 0 p.blocks.length 1, h ++ [.cells (List.replicate p.blocks.length (.bool false))]) := fun h => by
    simp only [amakeSlice]
    rw [if_pos ⟨by omega, by simp; omega, by omega⟩]
    simp
  have b0 : ∀ h : Heap, abuildSliceV 0 1 [.int .i64 0] [] h = some (.vslice h.length 0 0 0 1, h ++ [.vec 0 1 []]) := fun h => rfl
  have w0 : WV [] [] = .vslice 2 0 0 0 1 := rfl
  have l3 : (HW p (List.replicate p.blocks.length false) src r').length = 3 := rfl
  rw [w0] at hr2
  generalize HW p (List.replicate p.blocks.length false) src r' = H1 at *
  generalize HW p s' l' r'' = H2 at *
  generalize List.replicate p.blocks.length (AVal.bool false) = c0 at *
  rcases g2 with ⟨rfl, rfl, g2⟩ | ⟨rfl, g2⟩
  · rw [decide_eq_true g2]
    simp only [IR.cells] at hr2 ⊢
    simp -implicitDefEqProofs [m130, mk, b0, hr2, l3, g1, finR_zero]
  · rw [decide_eq_false g2]
    simp only [IR.cells] at hr2 ⊢
    simp -implicitDefEqProofs [m130, mk, b0, hr2, l3, g1, finR_zero]
end
end Go.Proofs.YtkeoalhglkfbkaaDoor

/-
  The document's 'Live': the same as the program's. No conditions.
-/
namespace Go.Proofs.YtkeoalhglkfbkaaDoor
open Go Hk Go.Proofs.Wd

section
variable {p : IR} (hp : OpsOk p) (hl : ∀ b ∈ p.blocks, leadsP b.term = leadsS b.term)
include hp hl
open Classical in
theorem c65 {k : Nat} (hk : k < p.blocks.length) (t : Int) (h : Heap) : KK 65 [.agg p.cells, .int .i64 (k : Int), .int .i64 t] h = some (.ret (.bool (decide (Reach p.blocks t k))), h) := by
  refine callP_pure rfl rfl (evW_by (m65_eq _ _ _ _ _) ?_)
  have g := c130 hp hl t (src := [(k : Int)]) (fun f hf => by simp at hf; subst hf; exact ⟨by omega, by simpa using hk⟩) (by simp)
  have f0 : ∀ (z : Int) (h : Heap), abuildSlice 1 1 [.int .i64 0] [(0, .int .i64 z)] h = some (.slice (ints [z]) (.own h.length), h ++ [.front 1 1]) := fun z h => rfl
  have e : decide (∃ f ∈ [(k : Int)], Reach p.blocks t f.toNat) = decide (Reach p.blocks t k) := by
    congr 1; simp
  rw [e] at g
  simp only [IR.cells] at g ⊢
  simp [m65, f0, g, finR_zero]
open Classical in
theorem c66 {k : Nat} {b : Blk} (hb : p.blocks[k]? = some b) (t : Int) (h : Heap) : KK 66 [.agg p.cells, .int .i64 (k : Int), .int .i64 t] h = some (.ret (.bool (decide (Behind p.blocks t b.term))), h) := by
  refine callP_pure rfl rfl (evW_by (m66_eq _ _ _ _ _) ?_)
  have hbm := List.mem_of_getElem? hb
  have g := c130 hp hl t (src := leadsS b.term) (fun f hf => by rw [← hl b hbm] at hf; exact hp.lead b hbm f hf) (by rw [← hl b hbm]; exact leadsP_len _)
  have g131 := c131 b.term
  have bx : aindexSl 5 (.slice (p.blocks.map Blk.cells) .no) (.int .i64 (k : Int)) = some (.pptr b.cells) := by rw [aindexSl_map, hb]; rfl
  have e : decide (∃ f ∈ leadsS b.term, Reach p.blocks t f.toNat) = decide (Behind p.blocks t b.term) := decide_eq_decide.2 Iff.rfl
  rw [e] at g
  simp only [IR.cells, Blk.cells, Term.cells] at g g131 bx ⊢
  generalize leadsS b.term = ld at *
  simp -implicitDefEqProofs [m66, bx, g131, g, finR_zero]

open Classical in
theorem m28_loop0 {k : Nat} {b : Blk} (hb : p.blocks[k]? = some b) (R1 R2 : List (List AVal)) (F1 F2 : ABlk) (hF1 : ∀ n, KBn n [F1]) (hF2 : ∀ n, KBn n [F2]) : ∀ (d i : Nat), p.temps.toNat = i + d →
    lpW (m28_l0 KK 7) ([.ptr 0 0, T1, T2, .int .i64 0, .slice R1 (.own 3), .slice R2 (.own 4), .int .i64 (k : Int), .slice (ints (zs ((List.range i).filter fun t : Nat => decide (Reach p.blocks (t : Int) k)))) (.own 5), .slice (ints (zs ((List.range i).filter fun t : Nat => decide (Behind p.blocks (t : Int) b.term)))) (.own 6), .int .i64 (i : Int)],
        [.cells p.cells, .front 0 0, .front 0 0, F1, F2, FR (zs ((List.range i).filter fun t : Nat => decide (Reach p.blocks (t : Int) k))).length, FR (zs ((List.range i).filter fun t : Nat => decide (Behind p.blocks (t : Int) b.term))).length]) =
      some (.exit 2, [.ptr 0 0, T1, T2, .int .i64 0, .slice R1 (.own 3), .slice R2 (.own 4), .int .i64 (k : Int), .slice (ints (zs ((List.range p.temps.toNat).filter fun t : Nat => decide (Reach p.blocks (t : Int) k)))) (.own 5), .slice (ints (zs ((List.range p.temps.toNat).filter fun t : Nat => decide (Behind p.blocks (t : Int) b.term)))) (.own 6), .int .i64 (p.temps.toNat : Int)],
        [.cells p.cells, .front 0 0, .front 0 0, F1, F2, FR (zs ((List.range p.temps.toNat).filter fun t : Nat => decide (Reach p.blocks (t : Int) k))).length, FR (zs ((List.range p.temps.toNat).filter fun t : Nat => decide (Behind p.blocks (t : Int) b.term))).length]) := by
  have q0 := fun h => sP (m := 7) (h := h) (by omega)
  have q1 := fun h => sT1 (m := 7) (h := h) (by omega)
  have q2 := fun h => sT2 (m := 7) (h := h) (by omega)
  have q3 : ∀ h rows, AVal.san 7 h (.slice rows (.own 3)) = .slice rows (.own 3) := fun h rows => by simp
  have q4 : ∀ h rows, AVal.san 7 h (.slice rows (.own 4)) = .slice rows (.own 4) := fun h rows => by simp
  have q5 : ∀ h rows, AVal.san 7 h (.slice rows (.own 5)) = .slice rows (.own 5) := fun h rows => by simp
  have q6 : ∀ h rows, AVal.san 7 h (.slice rows (.own 6)) = .slice rows (.own 6) := fun h rows => by simp
  have hT : ∀ n k : Nat, TH ([.cells p.cells, .front 0 0, .front 0 0, F1, F2, FR n, FR k] : Heap) := fun n k => by
    have e : ([.cells p.cells, .front 0 0, .front 0 0, F1, F2, FR n, FR k] : Heap) = [.cells p.cells, .front 0 0, .front 0 0] ++ ([F1] ++ ([F2] ++ ([FR n] ++ [FR k]))) := rfl
    unfold TH; rw [e]
    exact KBn_app (KBn_cells HB_CBn (KBn_front (KBn_front KBn_nil))) (KBn_app (hF1 _) (KBn_app (hF2 _) (KBn_app FR_ok FR_ok)))
  have htr : ∀ n k C, trunc 7 (.cells p.cells :: .front 0 0 :: .front 0 0 :: F1 :: F2 :: FR n :: FR k :: C) = some [.cells p.cells, .front 0 0, .front 0 0, F1, F2, FR n, FR k] := fun n k C => trunc_app (C := C) (hT n k)
  have ldT : ∀ C, aload false 1 (.cells p.cells :: C) (.ptr 0 0) = some (.int .i64 p.temps) := fun C => rfl
  have ldP : ∀ C, aload true 5 (.cells p.cells :: C) (.ptr 0 0) = some (.agg p.cells) := fun C => rfl
  have hpt := hp.temps
  have un : AVal.untok (.agg p.cells) = .agg p.cells := rfl
  intro d
  induction d with
  | zero =>
    intro i hd
    obtain rfl : p.temps.toNat = i := by omega
    have hc : ¬ ((p.temps.toNat : Int) < p.temps) := by omega
    refine lp_exit ?_
    generalize p.temps.toNat = T at *
    unfold m28_l0
    simp -implicitDefEqProofs [-aload_ptr, -aload_ptrT, ldT, hc, endR, htr, q0, q1, q2, q3, q4, q5, q6]
  | succ d ih =>
    intro i hd
    have hc : ((i : Int) < p.temps) := by omega
    have hkl : k < p.blocks.length := (List.getElem?_eq_some_iff.1 hb).1
    have g65 := c65 hp hl hkl (i : Int)
    have g66 := c66 hp hl hb (i : Int)
    have w1 : IntKind.i64.wrap ((i : Int) + 1) = ((i + 1 : Nat) : Int) := by rw [wrap64 (by omega) (by omega), Int.natCast_add]; rfl
    have f0 : ∀ (z : Int) (h : Heap), abuildSlice 1 1 [.int .i64 0] [(0, .int .i64 z)] h = some (.slice [[.int .i64 z]] (.own h.length), h ++ [.front 1 1]) := fun z h => rfl
    rw [← ih (i + 1) (by omega)]
    clear ih
    refine lp_go ?_
    have e1 : zs ((List.range (i + 1)).filter fun t : Nat => decide (Reach p.blocks (t : Int) k)) = zs ((List.range i).filter fun t : Nat => decide (Reach p.blocks (t : Int) k)) ++ (if Reach p.blocks (i : Int) k then [(i : Int)] else []) := by
      rw [List.range_succ, List.filter_append]
      unfold zs
      rw [List.map_append]
      congr 1
      by_cases h : Reach p.blocks (i : Int) k <;> simp [h]
    have e2 : zs ((List.range (i + 1)).filter fun t : Nat => decide (Behind p.blocks (t : Int) b.term)) = zs ((List.range i).filter fun t : Nat => decide (Behind p.blocks (t : Int) b.term)) ++ (if Behind p.blocks (i : Int) b.term then [(i : Int)] else []) := by
      rw [List.range_succ, List.filter_append]
      unfold zs
      rw [List.map_append]
      congr 1
      by_cases h : Behind p.blocks (i : Int) b.term <;> simp [h]
    have l1 : (zs ((List.range i).filter fun t : Nat => decide (Reach p.blocks (t : Int) k))).length ≤ i := by rw [zs_len]; exact Nat.le_trans (List.length_filter_le _ _) (by simp)
    have l2 : (zs ((List.range i).filter fun t : Nat => decide (Behind p.blocks (t : Int) b.term))).length ≤ i := by rw [zs_len]; exact Nat.le_trans (List.length_filter_le _ _) (by simp)
    rw [e1, e2]
    generalize zs ((List.range i).filter fun t : Nat => decide (Reach p.blocks (t : Int) k)) = A at *
    generalize zs ((List.range i).filter fun t : Nat => decide (Behind p.blocks (t : Int) b.term)) = B at *
    have a1 := fun C t => FR_append (h := [.cells p.cells, .front 0 0, .front 0 0, F1, F2]) (C := C) (l := A) (z := (i : Int)) (by omega) (t := t)
    have a2 := fun X C t => FR_append (h := [.cells p.cells, .front 0 0, .front 0 0, F1, F2, X]) (C := C) (l := B) (z := (i : Int)) (by omega) (t := t)
    simp only [List.length_cons, List.length_nil, Nat.zero_add, Nat.reduceAdd, List.cons_append, List.nil_append] at a1 a2
    clear e1 e2
    generalize ((i + 1 : Nat) : Int) = i1 at *
    by_cases c1 : Reach p.blocks (i : Int) k
    · rw [decide_eq_true c1] at g65
      rw [if_pos c1]
      have lA : (A ++ [(i : Int)]).length = A.length + 1 := by simp
      rw [lA]
      by_cases c2 : Behind p.blocks (i : Int) b.term
      · rw [decide_eq_true c2] at g66
        rw [if_pos c2]
        have lB : (B ++ [(i : Int)]).length = B.length + 1 := by simp
        rw [lB]
        generalize ints (A ++ [(i : Int)]) = A1 at *
        generalize ints (B ++ [(i : Int)]) = B1 at *
        unfold m28_l0
        simp -implicitDefEqProofs [-aload_ptr, -aload_ptrT, -untok_agg, un, ldT, ldP, hc, g65, g66, f0, a1, a2, w1, endR, htr, q0, q1, q2, q3, q4, q5, q6]
      · rw [decide_eq_false c2] at g66
        rw [if_neg c2, List.append_nil]
        generalize ints (A ++ [(i : Int)]) = A1 at *
        unfold m28_l0
        simp -implicitDefEqProofs [-aload_ptr, -aload_ptrT, -untok_agg, un, ldT, ldP, hc, g65, g66, f0, a1, w1, endR, htr, q0, q1, q2, q3, q4, q5, q6]
    · rw [decide_eq_false c1] at g65
      rw [if_neg c1, List.append_nil]
      by_cases c2 : Behind p.blocks (i : Int) b.term
      · rw [decide_eq_true c2] at g66
        rw [if_pos c2]
        have lB : (B ++ [(i : Int)]).length = B.length + 1 := by simp
        rw [lB]
        generalize ints (B ++ [(i : Int)]) = B1 at *
        unfold m28_l0
        simp -implicitDefEqProofs [-aload_ptr, -aload_ptrT, -untok_agg, un, ldT, ldP, hc, g65, g66, f0, a2, w1, endR, htr, q0, q1, q2, q3, q4, q5, q6]
      · rw [decide_eq_false c2] at g66
        rw [if_neg c2, List.append_nil]
        unfold m28_l0
        simp -implicitDefEqProofs [-aload_ptr, -aload_ptrT, -untok_agg, un, ldT, ldP, hc, g65, g66, w1, endR, htr, q0, q1, q2, q3, q4, q5, q6]

theorem m28_loop1 (h0 : checkS p = 0) : ∀ (d i : Nat), p.blocks.length = i + d →
    lpW (m28_l1 KK 5) ([.ptr 0 0, T1, T2, .int .i64 0, .slice (((liveI p).take i).map fun z => [.slice (ints z) .no]) (.own 3), .slice (((liveO p).take i).map fun z => [.slice (ints z) .no]) (.own 4), .int .i64 (i : Int)], [.cells p.cells, .front 0 0, .front 0 0, FR i, FR i]) =
      some (.exit 0, [.ptr 0 0, T1, T2, .int .i64 0, .slice ((liveI p).map fun z => [.slice (ints z) .no]) (.own 3), .slice ((liveO p).map fun z => [.slice (ints z) .no]) (.own 4), .int .i64 (p.blocks.length : Int)], [.cells p.cells, .front 0 0, .front 0 0, FR p.blocks.length, FR p.blocks.length]) := by
  classical
  have q0 := fun h => sP (m := 5) (h := h) (by omega)
  have q1 := fun h => sT1 (m := 5) (h := h) (by omega)
  have q2 := fun h => sT2 (m := 5) (h := h) (by omega)
  have q3 : ∀ h rows, AVal.san 5 h (.slice rows (.own 3)) = .slice rows (.own 3) := fun h rows => by simp
  have q4 : ∀ h rows, AVal.san 5 h (.slice rows (.own 4)) = .slice rows (.own 4) := fun h rows => by simp
  have hT : ∀ n k : Nat, TH ([.cells p.cells, .front 0 0, .front 0 0, FR n, FR k] : Heap) := fun n k => by
    have e : ([.cells p.cells, .front 0 0, .front 0 0, FR n, FR k] : Heap) = [.cells p.cells, .front 0 0, .front 0 0] ++ ([FR n] ++ [FR k]) := rfl
    unfold TH; rw [e]
    exact KBn_app (KBn_cells HB_CBn (KBn_front (KBn_front KBn_nil))) (KBn_app FR_ok FR_ok)
  have htr : ∀ n k C, trunc 5 (.cells p.cells :: .front 0 0 :: .front 0 0 :: FR n :: FR k :: C) = some [.cells p.cells, .front 0 0, .front 0 0, FR n, FR k] := fun n k C => trunc_app (C := C) (hT n k)
  have ldB : ∀ C, aload false 1 (.cells p.cells :: C) (.ptr 0 2) = some (.slice (p.blocks.map Blk.cells) .no) := fun C => rfl
  have hnb := hp.nb
  have hlI : (liveI p).length = p.blocks.length := by unfold liveI; rw [if_pos h0]; simp
  have hlO : (liveO p).length = p.blocks.length := by unfold liveO; rw [if_pos h0]; simp
  intro d
  induction d with
  | zero =>
    intro i hd
    obtain rfl : p.blocks.length = i := by omega
    have e1 : (liveI p).take p.blocks.length = liveI p := by rw [← hlI, List.take_length]
    have e2 : (liveO p).take p.blocks.length = liveO p := by rw [← hlO, List.take_length]
    rw [e1, e2]
    refine lp_exit ?_
    unfold m28_l1
    simp -implicitDefEqProofs [-aload_ptr, ldB, endR, htr, q0, q1, q2, q3, q4]
  | succ d ih =>
    intro i hd
    have hil : i < p.blocks.length := by omega
    have hil' : ((i : Int) < (p.blocks.length : Int)) := by omega
    have hb : p.blocks[i]? = some p.blocks[i] := List.getElem?_eq_getElem hil
    have w1 : IntKind.i64.wrap ((i : Int) + 1) = ((i + 1 : Nat) : Int) := by rw [wrap64 (by omega) (by omega), Int.natCast_add]; rfl
    have g := m28_loop0 hp hl hb (((liveI p).take i).map fun z => [.slice (ints z) .no]) (((liveO p).take i).map fun z => [.slice (ints z) .no]) (FR i) (FR i) (fun n => FR_ok) (fun n => FR_ok) p.temps.toNat 0 (by omega)
    have eI : zs ((List.range p.temps.toNat).filter fun t : Nat => decide (Reach p.blocks (t : Int) i)) = liveIn p i := rfl
    have eO : zs ((List.range p.temps.toNat).filter fun t : Nat => decide (Behind p.blocks (t : Int) (p.blocks[i]).term)) = liveOut p i := by
      unfold liveOut
      congr 1
      apply List.filter_congr
      intro t _
      rw [decide_eq_decide]
      exact ⟨fun h => ⟨_, hb, h⟩, fun ⟨b, h1, h2⟩ => by rw [hb] at h1; cases h1; exact h2⟩
    rw [eI, eO] at g
    have e0 : zs ((List.range 0).filter fun t : Nat => decide (Reach p.blocks (t : Int) i)) = [] := rfl
    have e0' : zs ((List.range 0).filter fun t : Nat => decide (Behind p.blocks (t : Int) (p.blocks[i]).term)) = [] := rfl
    have eF : FR ([] : List Int).length = .front 0 0 := rfl
    have ei : ints [] = [] := rfl
    simp only [e0, e0', eF, ei, Int.cast_ofNat_Int] at g
    have s1 : (liveI p).take (i + 1) = (liveI p).take i ++ [liveIn p i] := by
      rw [List.take_succ_eq_append_getElem (by omega)]
      congr 2
      unfold liveI; simp [h0]
    have s2 : (liveO p).take (i + 1) = (liveO p).take i ++ [liveOut p i] := by
      rw [List.take_succ_eq_append_getElem (by omega)]
      congr 2
      unfold liveO; simp [h0]
    have f0 : ∀ (z : List Int) (t : Hk.Tok) (h : Heap), abuildSlice 1 1 [.slice [] .nil] [(0, .slice (ints z) t)] h = some (.slice [[.slice (ints z) .no]] (.own h.length), h ++ [.front 1 1]) := fun z t h => rfl
    have lI : (((liveI p).take i).map fun z => [AVal.slice (ints z) .no]).length = i := by simp; omega
    have lO : (((liveO p).take i).map fun z => [AVal.slice (ints z) .no]).length = i := by simp; omega
    have a1 := fun C t => FR_app (h := [.cells p.cells, .front 0 0, .front 0 0]) (C := C) (rows := ((liveI p).take i).map fun z => [.slice (ints z) .no]) (v := .slice (ints (liveIn p i)) .no) (by_ := 24) (by omega) (by rw [lI]; omega) (t := t)
    have a2 := fun X C t => FR_app (h := [.cells p.cells, .front 0 0, .front 0 0, X]) (C := C) (rows := ((liveO p).take i).map fun z => [.slice (ints z) .no]) (v := .slice (ints (liveOut p i)) .no) (by_ := 24) (by omega) (by rw [lO]; omega) (t := t)
    rw [lI] at a1
    rw [lO] at a2
    simp only [List.length_cons, List.length_nil, Nat.zero_add, Nat.reduceAdd, List.cons_append, List.nil_append] at a1 a2
    rw [← ih (i + 1) (by omega), s1, s2, List.map_append, List.map_append]
    clear ih s1 s2
    simp only [List.map_cons, List.map_nil]
    refine lp_go ?_
    generalize (((liveI p).take i).map fun z => [AVal.slice (ints z) .no]) = A at *
    generalize (((liveO p).take i).map fun z => [AVal.slice (ints z) .no]) = B at *
    generalize ((i + 1 : Nat) : Int) = i1 at *
    generalize liveIn p i = li at *
    generalize liveOut p i = lo at *
    unfold m28_l1
    simp -implicitDefEqProofs [-aload_ptr, ldB, hil', g, f0, a1, a2, w1, endR, htr, q0, q1, q2, q3, q4]
end
theorem c28 (p : IR) (h : Heap) : KK 28 [.agg p.cells] h = some (.ret (.tuple [listsA (liveI p), listsA (liveO p), .int .i64 (checkS p)]), h) := by
  refine callP_pure rfl rfl (evW_by (m28_eq _ _ _) ?_)
  have g64 := c64 p
  by_cases h0 : checkS p = 0
  · obtain ⟨hp, hl⟩ := opsOk_of h0
    have g := m28_loop1 hp hl h0 p.blocks.length 0 (by omega)
    rw [h0] at g64 ⊢
    have eF : FR 0 = .front 0 0 := rfl
    simp only [eF, List.take_zero, List.map_nil, Int.cast_ofNat_Int] at g
    have st : ∀ (r1 r2 : List (List AVal)) (h : Heap), AVal.untok (AVal.san 0 h (.tuple [.slice r1 (.own 3), .slice r2 (.own 4), .int .i64 0])) = .tuple [.slice r1 .no, .slice r2 .no, .int .i64 0] := fun _ _ _ => rfl
    unfold listsA
    generalize (liveI p).map (fun z => [AVal.slice (ints z) .no]) = R1 at *
    generalize (liveO p).map (fun z => [AVal.slice (ints z) .no]) = R2 at *
    simp only [T1, T2, IR.cells] at g g64 ⊢
    simp -implicitDefEqProofs [m28, g64, g, finR, st]
  · have e1 : liveI p = [] := if_neg h0
    have e2 : liveO p = [] := if_neg h0
    rw [e1, e2]
    generalize checkS p = e at *
    have st : ∀ (h : Heap), AVal.untok (AVal.san 0 h (.tuple [.slice [] (.own 3), .slice [] (.own 4), .int .i64 e])) = .tuple [.slice [] .no, .slice [] .no, .int .i64 e] := fun _ => rfl
    simp only [IR.cells] at g64 ⊢
    simp -implicitDefEqProofs [m28, g64, h0, finR, st, listsA]
end Go.Proofs.YtkeoalhglkfbkaaDoor

/-
  A map of temps. No conditions.
-/
namespace Go.Proofs.YtkeoalhglkfbkaaDoor
open Go Hk Go.Proofs.Wd

/-- A map of temps. -/
def em (L : List Int) : List (AVal × AVal) := L.map fun t => (.int .i64 t, .int .i64 1)
def putL (L : List Int) (t : Int) : List Int := if t ∈ L then L else L ++ [t]
theorem afind_em (t : Int) : ∀ L, afind (.int .i64 t) (em L) = some (if t ∈ L then some (.int .i64 1) else none)
  | [] => rfl
  | x :: r => by
    have e : em (x :: r) = (.int .i64 x, .int .i64 1) :: em r := rfl
    rw [e]
    by_cases h : t = x
    · subst h; simp [afind, aeq1]
    · simp only [afind, aeq1, if_true]
      rw [beq_false_of_ne h]
      simp only [afind_em t r, List.mem_cons, h, false_or]
theorem aput_em (t : Int) : ∀ L, aputMap (.int .i64 t) (.int .i64 1) (em L) = em (putL L t)
  | [] => rfl
  | x :: r => by
    have e : em (x :: r) = (.int .i64 x, .int .i64 1) :: em r := rfl
    rw [e]
    by_cases h : t = x
    · subst h; simp [aputMap, aeq1, putL, em]
    · simp only [aputMap, aeq1, if_true]
      rw [beq_false_of_ne h]
      simp only [aput_em t r, putL, List.mem_cons, h, false_or]
      split <;> simp [em]
theorem adel_em (t : Int) : ∀ L, adelMap (.int .i64 t) (em L) = em (L.erase t)
  | [] => rfl
  | x :: r => by
    have e : em (x :: r) = (.int .i64 x, .int .i64 1) :: em r := rfl
    rw [e]
    by_cases h : t = x
    · subst h; simp [adelMap, aeq1]
    · simp only [adelMap, aeq1, if_true]
      rw [beq_false_of_ne h]
      simp only [adel_em t r]
      rw [List.erase_cons_tail (by simpa using fun h' => h h'.symm)]
      rfl
theorem keys_em : ∀ L, (∀ t ∈ L, 0 ≤ t ∧ t ≤ 2000000) → aintKeys (em L) = some L
  | [], _ => rfl
  | x :: r, h => by
    have e : em (x :: r) = (.int .i64 x, .int .i64 1) :: em r := rfl
    have hx := h x (by simp)
    rw [e]
    have w : (Lit.int .i64 x).wf = true := by
      have e1 : IntKind.min .i64 = -9223372036854775808 := rfl
      have e2 : IntKind.max .i64 = 9223372036854775807 := rfl
      simp only [Lit.wf, e1, e2, Bool.and_eq_true, decide_eq_true_eq]
      omega
    have w1 : (Lit.int .i64 1).wf = true := rfl
    simp only [aintKeys, w, w1, and_self, if_true, keys_em r fun t ht => h t (by simp [ht])]
    rfl

theorem putL_mem {L : List Int} {t x : Int} : x ∈ putL L t ↔ x ∈ L ∨ x = t := by
  unfold putL
  split
  · rename_i h
    exact ⟨.inl, fun h' => h'.elim id fun e => e ▸ h⟩
  · simp
theorem putL_nodup {L : List Int} {t : Int} (h : L.Nodup) : (putL L t).Nodup := by
  unfold putL
  split
  · exact h
  · rename_i hn
    rw [List.nodup_append]
    exact ⟨h, by simp, fun a ha b hb => by simp at hb; subst hb; exact fun e => hn (e ▸ ha)⟩
def sortI (L : List Int) : List Int := L.mergeSort fun x y => decide (x ≤ y)
theorem sortI_mem {L : List Int} {x : Int} : x ∈ sortI L ↔ x ∈ L := (List.mergeSort_perm L _).mem_iff
/-- Two rising lists of the same numbers. -/
theorem rising_eq : ∀ {A B : List Int}, A.Pairwise (· < ·) → B.Pairwise (· < ·) → (∀ x, x ∈ A ↔ x ∈ B) → A = B
  | [], [], _, _, _ => rfl
  | [], b :: _, _, _, h => by simpa using (h b).2 (by simp)
  | a :: _, [], _, _, h => by simpa using (h a).1 (by simp)
  | a :: A, b :: B, ha, hb, h => by
    rw [List.pairwise_cons] at ha hb
    have e : a = b := by
      rcases List.mem_cons.1 ((h a).1 (by simp)) with h1 | h1
      · exact h1
      · rcases List.mem_cons.1 ((h b).2 (by simp)) with h2 | h2
        · exact h2.symm
        · have := hb.1 a h1; have := ha.1 b h2; omega
    subst e
    rw [rising_eq ha.2 hb.2 fun x => ?_]
    constructor
    · intro hx
      rcases List.mem_cons.1 ((h x).1 (by simp [hx])) with h1 | h1
      · subst h1; have := ha.1 x hx; omega
      · exact h1
    · intro hx
      rcases List.mem_cons.1 ((h x).2 (by simp [hx])) with h1 | h1
      · subst h1; have := hb.1 x hx; omega
      · exact h1
theorem sortI_rising {L : List Int} (h : L.Nodup) : (sortI L).Pairwise (· < ·) := by
  have h1 : (sortI L).Pairwise fun x y => decide (x ≤ y) = true := List.pairwise_mergeSort (fun a b c h1 h2 => by simp at *; omega) (fun a b => by simp; omega) L
  have h2 : (sortI L).Nodup := (List.mergeSort_perm L _).nodup_iff.2 h
  have h3 := h1.and h2
  exact h3.imp fun ⟨a, b⟩ => by simp at a; omega
theorem KBn_map {n : Nat} {L : List Int} {C : List ABlk} (h : KBn n C) : KBn n (.map (em L) :: C) := fun m x hm => by
  have : ∀ L : List Int, sanBlk m x (.map (em L)) = some (.map (em L)) := by
    intro L
    have : (em L).all (fun e => e.2.shut1 m) = true := by
      rw [List.all_eq_true]
      intro e he
      obtain ⟨t, _, rfl⟩ := List.mem_map.1 he
      rfl
    simp only [sanBlk, this, cond_true]
  simp [h m x hm, this]
end Go.Proofs.YtkeoalhglkfbkaaDoor

/-
  'Points': the temps wanted within a block. No conditions.
-/
namespace Go.Proofs.YtkeoalhglkfbkaaDoor
open Go Hk Go.Proofs.Wd

def HP (b : Blk) (L : List Int) (E : Heap) : Heap := .cells b.cells :: .front 0 0 :: .map (em L) :: E
section
variable {b : Blk} {L : List Int} {E : Heap}
theorem b_CBn {n : Nat} : CBn n b.cells := by simp [Blk.cells]
theorem HP_KBn {n : Nat} (h : KBn n E) : KBn n (HP b L E) := KBn_cells b_CBn (KBn_front (KBn_map h))
theorem HP_set (t : Int) : amapSet (HP b L E) (.map 2) (.int .i64 t) (.int .i64 1) = some (HP b (putL L t) E) := by
  simp [amapSet, HP, afind_em, aput_em]
theorem HP_del (t : Int) : amapDel (HP b L E) (.map 2) (.int .i64 t) = some (HP b (L.erase t) E) := by
  simp [amapDel, HP, afind_em, adel_em, akeyOk]
theorem c72 {id : Nat} {h : Heap} (hm : h[id]? = some (.map (em L))) (hL : ∀ t ∈ L, 0 ≤ t ∧ t ≤ 2000000) (hl : L.length ≤ 1048576) : KK 72 [.map id] h = some (.ret (.slice (ints (sortI L)) .no), h) := by
  refine evW_by rfl ?_
  have : asortedKeys h (.map id) = some (.slice (ints (sortI L)) .no) := by
    simp only [asortedKeys, hm, keys_em _ hL]
    rw [if_pos hl]
    rfl
  show (asortedKeys h (.map id)).map _ = _
  rw [this]; rfl
end

/-- What is put in by a list of temps. -/
def putsL (L l : List Int) : List Int := l.foldl putL L
theorem putsL_mem {x : Int} : ∀ {l L : List Int}, x ∈ putsL L l ↔ x ∈ L ∨ x ∈ l
  | [], L => by simp [putsL]
  | a :: r, L => by
    have := putsL_mem (x := x) (l := r) (L := putL L a)
    simp only [putsL, List.foldl_cons] at this ⊢
    rw [this, putL_mem, List.mem_cons, or_assoc]
theorem putsL_nodup : ∀ {l L : List Int}, L.Nodup → (putsL L l).Nodup
  | [], L, h => h
  | a :: r, L, h => putsL_nodup (l := r) (putL_nodup h)

theorem m31_loop0 {b : Blk} {out : List Int} (ho : ∀ t ∈ out, 0 ≤ t ∧ t ≤ 2000000) (hlen : out.length ≤ 2000000) : ∀ (d i : Nat) (L : List Int), out.length = i + d →
    lpW (m31_l0 KK 3) ([.ptr 0 0, .slice [] (.own 1), .map 2, .slice (ints out) .no, .int .i64 (out.length : Int), .int .i64 (i : Int)], HP b L []) =
    some (.exit 0, [.ptr 0 0, .slice [] (.own 1), .map 2, .slice (ints out) .no, .int .i64 (out.length : Int), .int .i64 (out.length : Int)], HP b (putsL L (out.drop i)) []) := by
  intro d
  have htr : ∀ L, trunc 3 (HP b L []) = some (HP b L []) := fun L => trunc_app0 (HP_KBn KBn_nil)
  have s3 : ∀ h', AVal.san 3 h' (.map 2) = .map 2 := fun h' => rfl
  induction d with
  | zero =>
    intro i L hi
    obtain rfl : i = out.length := by omega
    rw [List.drop_length]
    refine lp_exit ?_
    unfold m31_l0
    simp [endR, htr, s3, putsL, san1_ptr]
  | succ d ih =>
    intro i L hi
    have hi' : i < out.length := by omega
    have hz := List.getElem?_eq_getElem hi'
    obtain ⟨z, hzi⟩ : ∃ z, out[i] = z := ⟨_, rfl⟩
    rw [hzi] at hz
    have ⟨z0, z1⟩ := ho z (List.mem_of_getElem? hz)
    have w1 : IntKind.i64.wrap ((i : Int) + 1) = ((i + 1 : Nat) : Int) := by rw [wrap64 (by omega) (by omega), Int.natCast_add]; rfl
    have e1 : out.drop i = z :: out.drop (i + 1) := by rw [List.drop_eq_getElem_cons hi']; congr 1
    have ed : putsL L (out.drop i) = putsL (putL L z) (out.drop (i + 1)) := by rw [e1]; rfl
    rw [ed, ← ih (i + 1) (putL L z) (by omega)]
    refine lp_go ?_
    have hl : (i : Int) < (out.length : Int) := by omega
    have ix : aindexSl 1 (.slice (ints out) .no) (.int .i64 (i : Int)) = some (.pptr [.int .i64 z]) := by
      simp [ints, hi', hzi]
    have st := HP_set (b := b) (L := L) (E := []) z
    have htr' := htr (putL L z)
    generalize HP b L [] = H0 at *
    generalize HP b (putL L z) [] = H1 at *
    generalize ((i + 1 : Nat) : Int) = i1 at *
    unfold m31_l0
    simp [endR, htr', s3, san1_ptr, hl, ix, z0, st, w1, akeyFor]

def VP (n : Nat) (cs : List AVal) : ABlk := .vec n 1 cs
theorem m31_loop1 {b : Blk} {o : Op} {n : Nat} {cs : List AVal} (hcs : CBn 5 cs) {us : List Int} (ho : ∀ t ∈ us, 0 ≤ t ∧ t ≤ 2000000) (hlen : us.length ≤ 2000000) {j : Int} : ∀ (d i : Nat) (L : List Int), us.length = i + d →
    lpW (m31_l1 KK 5) ([.ptr 0 0, .slice [] (.own 1), .map 2, .vslice 3 n 0 n 1, .int .i64 j, .slice (ints us) .no, .int .i64 (us.length : Int), .int .i64 (i : Int)], HP b L [VP n cs, .cells o.cells]) =
    some (.exit 4, [.ptr 0 0, .slice [] (.own 1), .map 2, .vslice 3 n 0 n 1, .int .i64 j, .slice (ints us) .no, .int .i64 (us.length : Int), .int .i64 (us.length : Int)], HP b (putsL L (us.drop i)) [VP n cs, .cells o.cells]) := by
  intro d
  have hE : KBn 5 [VP n cs, .cells o.cells] := KBn_vec hcs (KBn_cells (by simp [Op.cells]) KBn_nil)
  have htr : ∀ L, trunc 5 (HP b L [VP n cs, .cells o.cells]) = some (HP b L [VP n cs, .cells o.cells]) := fun L => trunc_app0 (h := HP b L [VP n cs, .cells o.cells]) (HP_KBn hE)
  have s3 : ∀ h', AVal.san 5 h' (.map 2) = .map 2 := fun h' => rfl
  have s4 : ∀ h', AVal.san 5 h' (.vslice 3 n 0 n 1) = .vslice 3 n 0 n 1 := fun h' => rfl
  induction d with
  | zero =>
    intro i L hi
    obtain rfl : i = us.length := by omega
    rw [List.drop_length]
    refine lp_exit ?_
    unfold m31_l1
    simp [endR, htr, s3, s4, putsL, san1_ptr]
  | succ d ih =>
    intro i L hi
    have hi' : i < us.length := by omega
    have hz := List.getElem?_eq_getElem hi'
    obtain ⟨z, hzi⟩ : ∃ z, us[i] = z := ⟨_, rfl⟩
    rw [hzi] at hz
    have ⟨z0, z1⟩ := ho z (List.mem_of_getElem? hz)
    have w1 : IntKind.i64.wrap ((i : Int) + 1) = ((i + 1 : Nat) : Int) := by rw [wrap64 (by omega) (by omega), Int.natCast_add]; rfl
    have e1 : us.drop i = z :: us.drop (i + 1) := by rw [List.drop_eq_getElem_cons hi']; congr 1
    have ed : putsL L (us.drop i) = putsL (putL L z) (us.drop (i + 1)) := by rw [e1]; rfl
    rw [ed, ← ih (i + 1) (putL L z) (by omega)]
    refine lp_go ?_
    have hl : (i : Int) < (us.length : Int) := by omega
    have ix : aindexSl 1 (.slice (ints us) .no) (.int .i64 (i : Int)) = some (.pptr [.int .i64 z]) := by
      simp [ints, hi', hzi]
    have st := HP_set (b := b) (L := L) (E := [VP n cs, .cells o.cells]) z
    have htr' := htr (putL L z)
    generalize HP b L [VP n cs, .cells o.cells] = H0 at *
    generalize HP b (putL L z) [VP n cs, .cells o.cells] = H1 at *
    generalize ((i + 1 : Nat) : Int) = i1 at *
    unfold m31_l1
    simp [endR, htr', s3, s4, san1_ptr, hl, ix, z0, st, w1, akeyFor]

/-- What is wanted ahead of an operation, as a list. -/
def stepL (L : List Int) (o : Op) : List Int := putsL (if (formS o.kind).dst = true then L.erase o.dst else L) (usesS o)
def wantL : List Op → List Int → List Int
  | [], L => L
  | o :: r, L => stepL (wantL r L) o

def SC (c : AVal) : Prop := ∃ rows, c = .slice rows .no ∨ c = .slice rows .nil
theorem SC_CBn {n : Nat} {cs : List AVal} (h : ∀ c ∈ cs, SC c) : CBn n cs := CBn_of fun c hc => by
  obtain ⟨r, rfl | rfl⟩ := h c hc <;> exact ⟨fun m h _ => rfl, rfl⟩
theorem m31_round {b : Blk} {o : Op} {n j : Nat} {cs : List AVal} {L : List Int} (hcs : ∀ c ∈ cs, SC c) (hj : b.ops[j]? = some o) (hu : ∀ t ∈ usesS o, 0 ≤ t ∧ t ≤ 2000000) (hul : (usesS o).length ≤ 2000000)
    (hL : ∀ t ∈ stepL L o, 0 ≤ t ∧ t ≤ 2000000) (hLl : (stepL L o).length ≤ 1048576) (hn : j < n) (hcl : cs.length = n) (hnm : n ≤ 2000001) :
    m31_l2 KK 4 ([.ptr 0 0, .slice [] (.own 1), .map 2, .vslice 3 n 0 n 1, .int .i64 (j : Int)], HP b L [VP n cs]) =
    some (.normal, [.ptr 0 0, .slice [] (.own 1), .map 2, .vslice 3 n 0 n 1, .int .i64 ((j : Int) - 1)], HP b (stepL L o) [VP n (cs.set j (.slice (ints (sortI (stepL L o))) .no))]) := by
  have w1 : IntKind.i64.wrap ((j : Int) - 1) = (j : Int) - 1 := by rw [wrap64 (by omega) (by omega)]
  have l1 : aload false 1 (HP b L [VP n cs]) (.ptr 0 0) = some (.slice (b.ops.map Op.cells) .no) := by simp [HP, Blk.cells]
  have l2 : aindexSl 6 (.slice (b.ops.map Op.cells) .no) (.int .i64 (j : Int)) = some (.pptr o.cells) := by simp [hj, Op.cells]
  have l3 : aload true 6 (HP b L [VP n cs]) (.pptr o.cells) = some (.agg o.cells) := by simp [Op.cells]
  have l4 : HP b L [VP n cs] ++ [.cells [.int .i64 0, .int .i64 0, .int .i64 0, .int .i64 0, .int .i64 0, .int .i64 0]] = HP b L [VP n cs, .cells [.int .i64 0, .int .i64 0, .int .i64 0, .int .i64 0, .int .i64 0, .int .i64 0]] := rfl
  have l4' : (HP b L [VP n cs]).length = 4 := rfl
  have l5 : astore 6 (HP b L [VP n cs, .cells [.int .i64 0, .int .i64 0, .int .i64 0, .int .i64 0, .int .i64 0, .int .i64 0]]) (.ptr 4 0) (.agg o.cells) = some (HP b L [VP n cs, .cells o.cells]) := by simp [HP, Op.cells]
  have l6 : ∀ L, aload true 6 (HP b L [VP n cs, .cells o.cells]) (.ptr 4 0) = some (.agg o.cells) := by intro L; simp [HP, Op.cells]
  have l7 : aload false 1 (HP b L [VP n cs, .cells o.cells]) (.ptr 4 1) = some (.int .i64 o.dst) := by simp [HP, Op.cells]
  have l8 : (AVal.agg o.cells).untok = .agg o.cells := rfl
  have l9 : ∀ L, (HP b L [VP n cs, .cells o.cells]).length = 5 := fun L => rfl
  have del := HP_del (b := b) (L := L) (E := [VP n cs, .cells o.cells]) o.dst
  have g73 := c73 o
  have g74 : ∀ h, KK 74 [.agg o.cells] h = some (.ret (.slice (ints (usesS o)) .no), h) := c74 o
  have lenu : alenSl (.slice (ints (usesS o)) .no) = some (.int .i64 ((usesS o).length : Int)) := by simp [ints]
  have lp : ∀ L, lpW (m31_l1 KK 5) ([.ptr 0 0, .slice [] (.own 1), .map 2, .vslice 3 n 0 n 1, .int .i64 (j : Int), .slice (ints (usesS o)) .no, .int .i64 ((usesS o).length : Int), .int .i64 0], HP b L [VP n cs, .cells o.cells]) = _ :=
    fun L => m31_loop1 (b := b) (o := o) (n := n) (SC_CBn hcs) hu hul (j := (j : Int)) (usesS o).length 0 L (by omega)
  simp only [List.drop_zero] at lp
  have k72 := c72 (id := 2) (L := stepL L o) (h := HP b (stepL L o) [VP n cs, .cells o.cells]) rfl hL hLl
  have s3 : ∀ h', AVal.san 4 h' (.map 2) = .map 2 := fun h' => rfl
  have s4 : ∀ h', AVal.san 4 h' (.vslice 3 n 0 n 1) = .vslice 3 n 0 n 1 := fun h' => rfl
  have ix : aindexSl 1 (.vslice 3 n 0 n 1) (.int .i64 (j : Int)) = some (.vptr 3 n j) := by simp [hn]
  have st : astore 1 (HP b (stepL L o) [VP n cs, .cells o.cells]) (.vptr 3 n j) (.slice (ints (sortI (stepL L o))) .no) = some (HP b (stepL L o) [VP n (cs.set j (.slice (ints (sortI (stepL L o))) .no)), .cells o.cells]) := by
    rw [astore_vptr]
    have : getVec (HP b (stepL L o) [VP n cs, .cells o.cells]) 3 n = some (1, cs) := by simp [HP, VP]
    rw [this]
    have e1 : putCells cs j [.slice (ints (sortI (stepL L o))) .no] = cs.set j (.slice (ints (sortI (stepL L o))) .no) := by
      unfold putCells
      rw [List.set_eq_take_append_cons_drop, if_pos (by omega)]
      simp
    simp only [Option.bind_some]
    rw [if_pos ⟨rfl, by first | omega | (simp; omega), rfl⟩]
    have e2 := e1
    unfold putCells at e2
    simp only [cells_slice, e1]
    simp [HP, VP]
  have u1 : AVal.untok (.map 2) = .map 2 := rfl
  have htr : trunc 4 (HP b (stepL L o) [VP n (cs.set j (.slice (ints (sortI (stepL L o))) .no)), .cells o.cells]) = some (HP b (stepL L o) [VP n (cs.set j (.slice (ints (sortI (stepL L o))) .no))]) := by
    refine trunc_app (h := HP b (stepL L o) [VP n (cs.set j (.slice (ints (sortI (stepL L o))) .no))]) (C := [.cells o.cells]) (HP_KBn (KBn_vec ?_ KBn_nil))
    refine SC_CBn fun c hc => ?_
    rcases List.mem_or_eq_of_mem_set hc with h1 | h1
    · exact hcs c h1
    · exact ⟨_, .inl h1⟩
  have ag : ∀ k o', afieldAt k (.ptr 4 o') = some (.ptr 4 (o' + k)) := fun k o' => rfl
  have ag0 : afieldAt 0 (.ptr 0 0) = some (.ptr 0 0) := rfl
  have hge : (0 : Int) ≤ (j : Int) := by omega
  unfold stepL at *
  generalize HP b L [VP n cs] = H0 at *
  generalize HP b L [VP n cs, .cells [.int .i64 0, .int .i64 0, .int .i64 0, .int .i64 0, .int .i64 0, .int .i64 0]] = H1 at *
  cases hd : (formS o.kind).dst with
  | true =>
    rw [hd] at g73 k72 st htr
    simp only [if_true] at k72 st htr ⊢
    unfold m31_l2
    have lp' := lp (L.erase o.dst)
    have l9' := l9 (L.erase o.dst)
    have l6' := l6 (L.erase o.dst)
    simp -implicitDefEqProofs [-aload_ptr, -astore_ptr, -aload_vptr, -astore_vptr, ag0, ag, l1, l2, l3, l4, l4', l5, l6, l7, l8, l9, g73, g74, lenu, lp', k72, s3, s4, ix, st, u1, htr, hge, del, san1_ptr, endR, akeyFor, w1]
  | false =>
    rw [hd] at g73 k72 st htr
    simp only [Bool.false_eq_true, if_false] at k72 st htr ⊢
    unfold m31_l2
    simp -implicitDefEqProofs [-aload_ptr, -astore_ptr, -aload_vptr, -astore_vptr, ag0, ag, l1, l2, l3, l4, l4', l5, l6, l7, l8, l9, g73, g74, lenu, lp, k72, s3, s4, ix, st, u1, htr, hge, san1_ptr, endR, w1]
end Go.Proofs.YtkeoalhglkfbkaaDoor

/-
  'Points': the whole. No conditions.
-/
namespace Go.Proofs.YtkeoalhglkfbkaaDoor
open Go Hk Go.Proofs.Wd

/-- The rows from i on are told. -/
def rowsP (ops : List Op) (L : List Int) (i : Nat) : List AVal := (List.range (ops.length + 1)).map fun k => if i ≤ k then .slice (ints (sortI (wantL (ops.drop k) L))) .no else .slice [] .nil
theorem rowsP_len {ops : List Op} {L : List Int} {i : Nat} : (rowsP ops L i).length = ops.length + 1 := by simp [rowsP]
theorem rowsP_SC {ops : List Op} {L : List Int} {i : Nat} : ∀ c ∈ rowsP ops L i, SC c := by
  intro c hc
  obtain ⟨k, _, rfl⟩ := List.mem_map.1 hc
  by_cases h : i ≤ k
  · exact ⟨_, .inl (if_pos h)⟩
  · exact ⟨_, .inr (if_neg h)⟩
theorem rowsP_set {ops : List Op} {L : List Int} {i : Nat} : (rowsP ops L (i + 1)).set i (.slice (ints (sortI (wantL (ops.drop i) L))) .no) = rowsP ops L i := by
  apply List.ext_getElem?
  intro k
  rw [List.getElem?_set]
  simp only [rowsP, List.getElem?_map, List.length_map, List.length_range]
  by_cases h : k < ops.length + 1
  · rw [List.getElem?_range h]
    by_cases hk : i = k
    · subst hk; rw [if_pos rfl, if_pos h]; simp
    · rw [if_neg hk]
      simp only [Option.map_some]
      by_cases h2 : i + 1 ≤ k
      · rw [if_pos h2, if_pos (by omega)]
      · rw [if_neg h2, if_neg (by omega)]
  · have : (List.range (ops.length + 1))[k]? = none := by simp; omega
    rw [this]
    simp only [Option.map_none]
    split
    · rw [if_neg (by omega)]
    · rfl
theorem rowsP_top {ops : List Op} {L : List Int} : (List.replicate (ops.length + 1) (AVal.slice [] .nil)).set ops.length (.slice (ints (sortI L)) .no) = rowsP ops L ops.length := by
  rw [← rowsP_set]
  have e : wantL (ops.drop ops.length) L = L := by rw [List.drop_length]; rfl
  rw [e]
  congr 1
  apply List.ext_getElem?
  intro k
  simp only [rowsP, List.getElem?_map, List.getElem?_replicate]
  by_cases h : k < ops.length + 1
  · rw [List.getElem?_range h, if_pos h]
    simp only [Option.map_some]
    rw [if_neg (by omega)]
  · have : (List.range (ops.length + 1))[k]? = none := by simp; omega
    rw [this, if_neg h]; rfl

theorem wantL_drop {ops : List Op} {L : List Int} {i : Nat} {o : Op} (h : ops[i]? = some o) : wantL (ops.drop i) L = stepL (wantL (ops.drop (i + 1)) L) o := by
  have hi := (List.getElem?_eq_some_iff.1 h).1
  rw [List.drop_eq_getElem_cons hi, (List.getElem?_eq_some_iff.1 h).2]
  rfl

theorem m31_loop2 {b : Blk} {L : List Int} (hu : ∀ o ∈ b.ops, (∀ t ∈ usesS o, 0 ≤ t ∧ t ≤ 2000000) ∧ (usesS o).length ≤ 2000000)
    (hL : ∀ i, ∀ t ∈ wantL (b.ops.drop i) L, 0 ≤ t ∧ t ≤ 2000000) (hLl : ∀ i, (wantL (b.ops.drop i) L).length ≤ 1048576) (hnm : b.ops.length ≤ 2000000) : ∀ (i : Nat), i ≤ b.ops.length →
    lpW (m31_l2 KK 4) ([.ptr 0 0, .slice [] (.own 1), .map 2, .vslice 3 (b.ops.length + 1) 0 (b.ops.length + 1) 1, .int .i64 ((i : Int) - 1)], HP b (wantL (b.ops.drop i) L) [VP (b.ops.length + 1) (rowsP b.ops L i)]) =
    some (.exit 2, [.ptr 0 0, .slice [] (.own 1), .map 2, .vslice 3 (b.ops.length + 1) 0 (b.ops.length + 1) 1, .int .i64 (-1)], HP b (wantL b.ops L) [VP (b.ops.length + 1) (rowsP b.ops L 0)]) := by
  intro i
  induction i with
  | zero =>
    intro _
    refine lp_exit ?_
    have e : b.ops.drop 0 = b.ops := List.drop_zero
    rw [e]
    have hr : ∀ c ∈ rowsP b.ops L 0, SC c := rowsP_SC
    generalize rowsP b.ops L 0 = cs at *
    generalize b.ops.length + 1 = n at *
    have htr : trunc 4 (HP b (wantL b.ops L) [VP n cs]) = some (HP b (wantL b.ops L) [VP n cs]) :=
      trunc_app0 (h := HP b (wantL b.ops L) [VP n cs]) (HP_KBn (KBn_vec (SC_CBn hr) KBn_nil))
    have s3 : ∀ h', AVal.san 4 h' (.map 2) = .map 2 := fun h' => rfl
    have s4 : ∀ h', AVal.san 4 h' (.vslice 3 n 0 n 1) = .vslice 3 n 0 n 1 := fun h' => rfl
    have e0 : ((0 : Nat) : Int) - 1 = -1 := rfl
    rw [e0]
    unfold m31_l2
    simp [endR, htr, s3, s4, san1_ptr]
  | succ i ih =>
    intro hi
    have ho := List.getElem?_eq_getElem (l := b.ops) (i := i) (by omega)
    generalize b.ops[i] = o at ho
    obtain ⟨u1, u2⟩ := hu o (List.mem_of_getElem? ho)
    have hw := wantL_drop (L := L) ho
    have k1 := hL i
    have k2 := hLl i
    rw [hw] at k1 k2
    have g := m31_round (b := b) (o := o) (n := b.ops.length + 1) (j := i) (cs := rowsP b.ops L (i + 1)) (L := wantL (b.ops.drop (i + 1)) L) rowsP_SC ho u1 u2 k1 k2 (by omega) rowsP_len (by omega)
    rw [← hw, rowsP_set] at g
    have e0 : ((i + 1 : Nat) : Int) - 1 = (i : Int) := by omega
    rw [e0, ← ih (by omega)]
    exact lp_go g

theorem pureRow_SC {cs : List AVal} (h : ∀ c ∈ cs, ∃ rows, c = .slice rows .no) : pureRow cs = some cs := by
  induction cs with
  | nil => rfl
  | cons c r ih =>
    obtain ⟨rows, rfl⟩ := h c (by simp)
    simp only [pureRow, ih fun c hc => h c (by simp [hc]), AVal.pure1]

theorem pointsLists {ops : List Op} {L : List Int} : .slice ((rowsP ops L 0).map fun c => [c]) .no = listsA ((List.range (ops.length + 1)).map fun k => sortI (wantL (ops.drop k) L)) := by
  unfold listsA rowsP
  simp only [List.map_map, Nat.zero_le, if_true]
  rfl
/-- What is wanted behind a block's operations, as a list. -/
def endL (b : Blk) (out : List Int) : List Int := if b.term.kind = 2 then putL (putsL [] out) b.term.a else putsL [] out
def pointsS (b : Blk) (out : List Int) : List (List Int) := (List.range (b.ops.length + 1)).map fun k => sortI (wantL (b.ops.drop k) (endL b out))

theorem c31 {b : Blk} {out : List Int} (ho : ∀ t ∈ out, 0 ≤ t ∧ t ≤ 2000000) (hlen : out.length ≤ 2000000) (hu : ∀ o ∈ b.ops, (∀ t ∈ usesS o, 0 ≤ t ∧ t ≤ 2000000) ∧ (usesS o).length ≤ 2000000)
    (ha : b.term.kind = 2 → 0 ≤ b.term.a ∧ b.term.a ≤ 2000000)
    (hL : ∀ i, ∀ t ∈ wantL (b.ops.drop i) (endL b out), 0 ≤ t ∧ t ≤ 2000000) (hLl : ∀ i, (wantL (b.ops.drop i) (endL b out)).length ≤ 1048576) (hnm : b.ops.length ≤ 2000000) (h : Heap) :
    KK 31 [.agg b.cells, .slice (ints out) .no] h = some (.ret (listsA (pointsS b out)), h) := by
  refine callP_pure rfl rfl (evW_by (m31_eq _ _ _ _) ?_)
  have g0 := m31_loop0 (b := b) ho hlen out.length 0 [] (by omega)
  rw [List.drop_zero] at g0
  have e0 : HP b [] [] = [.cells b.cells, .front 0 0, .map []] := rfl
  have e00 : ((0 : Nat) : Int) = 0 := rfl
  rw [e0, e00] at g0
  have an : anew 5 [] (.agg b.cells) = some (.ptr 0 0, [.cells b.cells]) := by simp [Blk.cells]
  have lenO : alenSl (.slice (ints out) .no) = some (.int .i64 (out.length : Int)) := by simp [ints]
  have lk : ∀ L E, aload false 1 (HP b L E) (.ptr 0 1) = some (.int .i64 b.term.kind) := by intro L E; simp [HP, Blk.cells]
  have la : ∀ L E, aload false 1 (HP b L E) (.ptr 0 2) = some (.int .i64 b.term.a) := by intro L E; simp [HP, Blk.cells]
  have lo : ∀ L E, aload false 1 (HP b L E) (.ptr 0 0) = some (.slice (b.ops.map Op.cells) .no) := by intro L E; simp [HP, Blk.cells]
  have lenP : alenSl (.slice (b.ops.map Op.cells) .no) = some (.int .i64 (b.ops.length : Int)) := by simp
  have w1 : IntKind.i64.wrap ((b.ops.length : Int) + 1) = ((b.ops.length + 1 : Nat) : Int) := by rw [wrap64 (by omega) (by omega), Int.natCast_add]; rfl
  have w2 : IntKind.i64.wrap ((b.ops.length : Int) - 1) = (b.ops.length : Int) - 1 := by rw [wrap64 (by omega) (by omega)]
  have mk : ∀ L, amakeSliceV 1 24 [(.slice [] .nil)] (.int .i64 ((b.ops.length + 1 : Nat) : Int)) (HP b L []) = some (.vslice 3 (b.ops.length + 1) 0 (b.ops.length + 1) 1, HP b L [VP (b.ops.length + 1) (List.replicate (b.ops.length + 1) (.slice [] .nil))]) := by
    intro L
    unfold amakeSliceV
    simp only [Int.toNat_natCast]
    rw [if_pos ⟨by omega, by omega, by omega⟩]
    have : (List.replicate (b.ops.length + 1) [AVal.slice [] Hk.Tok.nil]).flatten = List.replicate (b.ops.length + 1) (.slice [] .nil) := by
      generalize b.ops.length + 1 = n
      induction n with
      | zero => rfl
      | succ n ih => rw [List.replicate_succ, List.flatten_cons, ih]; rfl
    rw [this]; rfl
  have hd : ∀ L E, hide1 (HP b L E) 0 = .gone :: .front 0 0 :: .map (em L) :: E := fun L E => rfl
  have uhd : ∀ L E, unhide1 (HP b L E) (.gone :: .front 0 0 :: .map (em L) :: E) 0 = HP b L E := fun L E => rfl
  have lki : lockIds [0] [AVal.ptr 0 0] = [0] := rfl
  have u1 : AVal.untok (.map 2) = .map 2 := rfl
  have e9 : wantL (b.ops.drop b.ops.length) (endL b out) = endL b out := by rw [List.drop_length]; rfl
  have k72 : ∀ E, KK 72 [.map 2] (.gone :: .front 0 0 :: .map (em (endL b out)) :: E) = some (.ret (.slice (ints (sortI (endL b out))) .no), .gone :: .front 0 0 :: .map (em (endL b out)) :: E) := by
    intro E
    have h1 := hL b.ops.length
    have h2 := hLl b.ops.length
    rw [e9] at h1 h2
    exact c72 (id := 2) rfl h1 h2
  have ix : aindexSl 1 (.vslice 3 (b.ops.length + 1) 0 (b.ops.length + 1) 1) (.int .i64 (b.ops.length : Int)) = some (.vptr 3 (b.ops.length + 1) b.ops.length) := by simp
  have st : ∀ L, astore 1 (HP b L [VP (b.ops.length + 1) (List.replicate (b.ops.length + 1) (.slice [] .nil))]) (.vptr 3 (b.ops.length + 1) b.ops.length) (.slice (ints (sortI (endL b out))) .no) =
      some (HP b L [VP (b.ops.length + 1) (rowsP b.ops (endL b out) b.ops.length)]) := by
    intro L
    rw [← rowsP_top, astore_vptr]
    generalize hn : b.ops.length = n
    generalize hc : List.replicate (n + 1) (AVal.slice [] Hk.Tok.nil) = cs
    have hcl : cs.length = n + 1 := by rw [← hc]; simp
    have : getVec (HP b L [VP (n + 1) cs]) 3 (n + 1) = some (1, cs) := by simp [HP, VP]
    rw [this]
    have e1 : putCells cs n [.slice (ints (sortI (endL b out))) .no] = cs.set n (.slice (ints (sortI (endL b out))) .no) := by
      unfold putCells
      rw [List.set_eq_take_append_cons_drop, if_pos (by omega)]
      simp
    simp only [Option.bind_some]
    rw [if_pos ⟨rfl, by first | omega | (simp; omega), rfl⟩]
    simp only [cells_slice, e1]
    simp [HP, VP]
  have g2 := m31_loop2 (b := b) (L := endL b out) hu hL hLl hnm b.ops.length (Nat.le_refl _)
  rw [e9] at g2
  have l4 : ∀ L V, (HP b L [V]).length = 4 := fun L V => rfl
  have fz : ∀ L, afreeze (HP b L [VP (b.ops.length + 1) (rowsP b.ops (endL b out) 0)]) (.vslice 3 (b.ops.length + 1) 0 (b.ops.length + 1) 1) = some (listsA (pointsS b out), [.cells b.cells, .front 0 0, .map (em L), .gone]) := by
    intro L
    have hp : pureRow (rowsP b.ops (endL b out) 0) = some (rowsP b.ops (endL b out) 0) := pureRow_SC fun c hc => by
      obtain ⟨k, _, rfl⟩ := List.mem_map.1 hc
      exact ⟨_, if_pos (Nat.zero_le _)⟩
    have hlen := rowsP_len (ops := b.ops) (L := endL b out) (i := 0)
    have hpl := pointsLists (ops := b.ops) (L := endL b out)
    have hro := rowsOf_one (l := rowsP b.ops (endL b out) 0)
    unfold afreeze
    have : getVec (HP b L [VP (b.ops.length + 1) (rowsP b.ops (endL b out) 0)]) 3 (b.ops.length + 1) = some (1, rowsP b.ops (endL b out) 0) := by simp [HP, VP]
    simp only [this, List.drop_zero, Nat.mul_one]
    rw [List.take_of_length_le (by omega), hp]
    simp only [Nat.zero_add]
    rw [if_pos (by omega), ← hlen, hro, hpl]
    rfl
  have fin : ∀ L, finF 0 (.vslice 3 (b.ops.length + 1) 0 (b.ops.length + 1) 1) (HP b L [VP (b.ops.length + 1) (rowsP b.ops (endL b out) 0)]) = some (.ret (listsA (pointsS b out)), []) := by
    intro L
    unfold finF
    rw [fz]
    simp only [Option.bind_some]
    rw [finR_zero]
    rfl
  have ag0 : afieldAt 0 (.ptr 0 0) = some (.ptr 0 0) := rfl
  have ag1 : afieldAt 1 (.ptr 0 0) = some (.ptr 0 1) := rfl
  have ag2 : afieldAt 0 (.ptr 0 1) = some (.ptr 0 1) := rfl
  have ag3 : afieldAt 1 (.ptr 0 1) = some (.ptr 0 2) := rfl
  have hse := HP_set (b := b) (L := putsL [] out) (E := []) b.term.a
  generalize ((b.ops.length + 1 : Nat) : Int) = n1 at w1 mk
  by_cases hk : b.term.kind = 2
  · have eL : endL b out = putL (putsL [] out) b.term.a := if_pos hk
    obtain ⟨a0, a1⟩ := ha hk
    rw [hk] at lk
    rw [← eL] at hse
    unfold m31
    simp -implicitDefEqProofs [-aload_ptr, -astore_ptr, -aload_vptr, -astore_vptr, -anew, an, lenO, g0, lk, la, lo, lenP, w1, w2, mk, hd, uhd, lki, u1, k72, ix, st, g2, l4, fin, ag0, ag1, ag2, ag3, hse, a0, akeyFor]
  · have eL : endL b out = putsL [] out := if_neg hk
    rw [← eL] at g0
    unfold m31
    simp -implicitDefEqProofs [-aload_ptr, -astore_ptr, -aload_vptr, -astore_vptr, -anew, an, lenO, g0, lk, la, lo, lenP, w1, w2, mk, hd, uhd, lki, u1, k72, ix, st, g2, l4, fin, ag0, ag1, ag2, ag3, hk]
end Go.Proofs.YtkeoalhglkfbkaaDoor

/-
  'LiveTells': the evaluator's run. No conditions.
-/
namespace Go.Proofs.YtkeoalhglkfbkaaDoor
open Go Hk Go.Proofs.Wd

theorem m25_loop {p : IR} : ∀ (d i : Nat) (n : Int), i ≤ n → n ≤ 801 → 801 - n.toNat < d → ∃ (n' : Int) (i' : Int),
    lpW (m25_l0 KK 1) ([.ptr 0 0, .bool false, .int .i64 n, .int .i64 (i : Int)], [.cells p.cells]) = some (.exit 0, [.ptr 0 0, .bool false, .int .i64 n', .int .i64 i'], [.cells p.cells]) := by
  intro d
  have htr : trunc 1 [.cells p.cells] = some [.cells p.cells] := by simp [trunc, IR.cells]
  have ag : afieldAt 2 (.ptr 0 0) = some (.ptr 0 2) := rfl
  have l1 : aload false 1 [.cells p.cells] (.ptr 0 2) = some (.slice (p.blocks.map Blk.cells) .no) := by simp [IR.cells]
  have lenB : alenSl (.slice (p.blocks.map Blk.cells) .no) = some (.int .i64 (p.blocks.length : Int)) := by simp
  induction d with
  | zero => intro i n _ _ h; omega
  | succ d ih =>
    intro i n hi hn hd
    by_cases h1 : i < p.blocks.length
    · by_cases h2 : n ≤ 300
      · have hb := List.getElem?_eq_getElem h1
        generalize p.blocks[i] = b at hb
        obtain ⟨n', i', hr⟩ := ih (i + 1) (n + 1 + min (b.ops.length : Int) 500) (by omega) (by omega) (by omega)
        refine ⟨n', i', ?_⟩
        rw [← hr]
        refine lp_go ?_
        have hl : (i : Int) < (p.blocks.length : Int) := by omega
        have ix : aindexSl 5 (.slice (p.blocks.map Blk.cells) .no) (.int .i64 (i : Int)) = some (.pptr b.cells) := by simp [hb, Blk.cells]
        have ag1 : afieldAt 0 (.pptr b.cells) = some (.pptr b.cells) := by simp [afieldAt]
        have l2 : aload false 1 [.cells p.cells] (.pptr b.cells) = some (.slice (b.ops.map Op.cells) .no) := by simp [Blk.cells]
        have lenO : alenSl (.slice (b.ops.map Op.cells) .no) = some (.int .i64 (b.ops.length : Int)) := by simp
        have mn : amin2 (.int .i64 (b.ops.length : Int)) (.int .i64 500) = some (.int .i64 (min (b.ops.length : Int) 500)) := by
          simp [amin2]
          try (split <;> omega)
        have w0 : IntKind.i64.wrap (n + 1) = n + 1 := wrap64 (by omega) (by omega)
        have w1 : IntKind.i64.wrap (n + 1 + min (b.ops.length : Int) 500) = n + 1 + min (b.ops.length : Int) 500 := wrap64 (by omega) (by omega)
        have w2 : IntKind.i64.wrap ((i : Int) + 1) = ((i + 1 : Nat) : Int) := by rw [wrap64 (by omega) (by omega), Int.natCast_add]; rfl
        generalize ((i + 1 : Nat) : Int) = i1 at *
        unfold m25_l0
        simp -implicitDefEqProofs [-aload_ptr, endR, htr, ag, l1, lenB, hl, h2, ix, ag1, l2, lenO, mn, w0, w1, w2, san1_ptr]
      · refine ⟨n, i, lp_exit ?_⟩
        have hl : (i : Int) < (p.blocks.length : Int) := by omega
        unfold m25_l0
        simp -implicitDefEqProofs [-aload_ptr, endR, htr, ag, l1, lenB, hl, h2, san1_ptr]
    · refine ⟨n, i, lp_exit ?_⟩
      have hl : ¬ (i : Int) < (p.blocks.length : Int) := by omega
      unfold m25_l0
      simp -implicitDefEqProofs [-aload_ptr, endR, htr, ag, l1, lenB, hl, san1_ptr]
theorem c25 (p : IR) : ∃ b : Bool, ∀ h, KK 25 [.agg p.cells] h = some (.ret (.bool b), h) := by
  obtain ⟨n, i, g⟩ := m25_loop (p := p) 1000 0 0 (by omega) (by omega) (by omega)
  have e0 : ((0 : Nat) : Int) = 0 := rfl
  rw [e0] at g
  refine ⟨decide (n ≤ 300) && decide (p.temps ≤ 60), fun h => callP_pure rfl rfl (evW_by (m25_eq _ _ _) ?_)⟩
  have an : anew 5 [] (.agg p.cells) = some (.ptr 0 0, [.cells p.cells]) := by simp [IR.cells]
  have ag : afieldAt 0 (.ptr 0 0) = some (.ptr 0 0) := rfl
  have l1 : aload false 1 [.cells p.cells] (.ptr 0 0) = some (.int .i64 p.temps) := by simp [IR.cells]
  by_cases h2 : n ≤ 300
  · by_cases h3 : p.temps ≤ 60 <;> simp -implicitDefEqProofs [m25, -aload_ptr, -anew, an, g, ag, l1, h2, h3, finR_zero]
  · simp -implicitDefEqProofs [m25, -aload_ptr, -anew, an, g, ag, l1, h2, finR_zero]

theorem m29_loop0 {ls : List (List Int)} {i : Nat} {z : List Int} (hz : ls[i]? = some z) (hl : z.length ≤ 2000000) : ∀ (d k : Nat), z.length = k + d →
    lpW (m29_l0 KK 0) ([listsA ls, listsA ls, .bool false, .int .i64 (i : Int), .int .i64 (k : Int)], []) = some (.exit 2, [listsA ls, listsA ls, .bool false, .int .i64 (i : Int), .int .i64 (z.length : Int)], []) := by
  have ix : aindexSl 1 (listsA ls) (.int .i64 (i : Int)) = some (.pptr [.slice (ints z) .no]) := by simp [listsA, hz]
  have lenz : alenSl (.slice (ints z) .no) = some (.int .i64 (z.length : Int)) := by simp [ints]
  have sn : ∀ h, AVal.san 0 h (listsA ls) = listsA ls := fun h => rfl
  intro d
  induction d with
  | zero =>
    intro k hk
    obtain rfl : k = z.length := by omega
    refine lp_exit ?_
    unfold m29_l0
    simp -implicitDefEqProofs [ix, lenz, endR, trunc, sn]
  | succ d ih =>
    intro k hk
    rw [← ih (k + 1) (by omega)]
    refine lp_go ?_
    have hkl : k < z.length := by omega
    have hki : (k : Int) < (z.length : Int) := by omega
    obtain ⟨x, hx⟩ : ∃ x, z[k] = x := ⟨_, rfl⟩
    have ix2 : aindexSl 1 (.slice (ints z) .no) (.int .i64 (k : Int)) = some (.pptr [.int .i64 x]) := by simp [ints, hkl, hx]
    have w2 : IntKind.i64.wrap ((k : Int) + 1) = ((k + 1 : Nat) : Int) := by rw [wrap64 (by omega) (by omega), Int.natCast_add]; rfl
    generalize ((k + 1 : Nat) : Int) = k1 at *
    unfold m29_l0
    simp -implicitDefEqProofs [ix, lenz, ix2, hki, w2, endR, trunc, sn]
theorem m29_loop1 {ls : List (List Int)} (hl : ∀ z ∈ ls, z.length ≤ 2000000) (hls : ls.length ≤ 2000000) : ∀ (d i : Nat), ls.length = i + d →
    lpW (m29_l1 KK 0) ([listsA ls, listsA ls, .bool false, .int .i64 (i : Int)], []) = some (.exit 0, [listsA ls, listsA ls, .bool false, .int .i64 (ls.length : Int)], []) := by
  have sn : ∀ h, AVal.san 0 h (listsA ls) = listsA ls := fun h => rfl
  have len1 : alenSl (listsA ls) = some (.int .i64 (ls.length : Int)) := by simp [listsA]
  intro d
  induction d with
  | zero =>
    intro i hi
    obtain rfl : i = ls.length := by omega
    refine lp_exit ?_
    unfold m29_l1
    simp -implicitDefEqProofs [len1, endR, trunc, sn]
  | succ d ih =>
    intro i hi
    rw [← ih (i + 1) (by omega)]
    refine lp_go ?_
    have hil : i < ls.length := by omega
    have hii : (i : Int) < (ls.length : Int) := by omega
    obtain ⟨z, hx⟩ : ∃ z, ls[i]? = some z := ⟨_, List.getElem?_eq_getElem hil⟩
    have g := m29_loop0 hx (hl z (List.mem_of_getElem? hx)) z.length 0 (by omega)
    have e0 : ((0 : Nat) : Int) = 0 := rfl
    rw [e0] at g
    have ix : aindexSl 1 (listsA ls) (.int .i64 (i : Int)) = some (.pptr [.slice (ints z) .no]) := by simp [listsA, hx]
    have lenz : alenSl (.slice (ints z) .no) = some (.int .i64 (z.length : Int)) := by simp [ints]
    have w2 : IntKind.i64.wrap ((i : Int) + 1) = ((i + 1 : Nat) : Int) := by rw [wrap64 (by omega) (by omega), Int.natCast_add]; rfl
    generalize ((i + 1 : Nat) : Int) = k1 at *
    unfold m29_l1
    simp -implicitDefEqProofs [len1, ix, lenz, g, hii, w2, endR, trunc, sn]
theorem c29 {ls : List (List Int)} (hl : ∀ z ∈ ls, z.length ≤ 2000000) (hls : ls.length ≤ 2000000) (h : Heap) : KK 29 [listsA ls, listsA ls] h = some (.ret (.bool true), h) := by
  refine callP_pure rfl rfl (evW_by (m29_eq _ _ _ _) ?_)
  have g := m29_loop1 hl hls ls.length 0 (by omega)
  have e0 : ((0 : Nat) : Int) = 0 := rfl
  rw [e0] at g
  have len1 : alenSl (listsA ls) = some (.int .i64 (ls.length : Int)) := by simp [listsA]
  simp -implicitDefEqProofs [m29, len1, g, finR_zero]

theorem zs_filter_len {n : Nat} {f : Nat → Bool} : (zs ((List.range n).filter f)).length ≤ n := by
  rw [zs_len]
  exact Nat.le_trans (List.length_filter_le _ _) (by simp)
theorem liveI_len (p : IR) : (∀ z ∈ liveI p, z.length ≤ 2000000) ∧ (liveI p).length ≤ 2000000 := by
  unfold liveI
  split
  · rename_i h
    have lp := (opsOk_of h).1
    have h1 := lp.temps
    have h2 := lp.nb
    refine ⟨fun z hz => ?_, by simp; omega⟩
    obtain ⟨k, _, rfl⟩ := List.mem_map.1 hz
    exact Nat.le_trans zs_filter_len (by omega)
  · simp
theorem liveO_len (p : IR) : (∀ z ∈ liveO p, z.length ≤ 2000000) ∧ (liveO p).length ≤ 2000000 := by
  unfold liveO
  split
  · rename_i h
    have lp := (opsOk_of h).1
    have h1 := lp.temps
    have h2 := lp.nb
    refine ⟨fun z hz => ?_, by simp; omega⟩
    obtain ⟨k, _, rfl⟩ := List.mem_map.1 hz
    exact Nat.le_trans zs_filter_len (by omega)
  · simp

/-- The law LiveTells. -/
theorem c6 (p : IR) (h : Heap) : KK 6 [.agg p.cells] h = some (.ret (.bool true), h) := by
  refine callP_pure rfl rfl (evW_by (m6_eq _ _ _) ?_)
  have an : anew 5 [] (.agg p.cells) = some (.ptr 0 0, [.cells p.cells]) := by simp [IR.cells]
  have l1 : aload true 5 [.cells p.cells] (.ptr 0 0) = some (.agg p.cells) := by simp [IR.cells]
  have u1 : (AVal.agg p.cells).untok = .agg p.cells := rfl
  have u2 : ∀ ls, (listsA ls).untok = listsA ls := fun ls => rfl
  obtain ⟨b, g25⟩ := c25 p
  have g26 := c26
  have g27 := c27 p
  have g28 := c28 p
  have gi := c29 (liveI_len p).1 (liveI_len p).2
  have go := c29 (liveO_len p).1 (liveO_len p).2
  generalize liveI p = li at *
  generalize liveO p = lo at *
  cases b <;> simp -implicitDefEqProofs [m6, -aload_ptr, -anew, an, l1, u1, u2, g25, g26, g27, g28, gi, go, finR_zero, aextract]
end Go.Proofs.YtkeoalhglkfbkaaDoor

/-
  'within', and what Points tells at first. No conditions.
-/
namespace Go.Proofs.YtkeoalhglkfbkaaDoor
open Go Hk Go.Proofs.Wd

theorem m32_loop0 {a b : List Int} {i : Nat} {x : Int} (hx : a[i]? = some x) (hb : b.length ≤ 4000000) : ∀ (d k : Nat) (f : Bool), b.length = k + d →
    lpW (m32_l0 KK 0) ([.slice (ints a) .no, .slice (ints b) .no, .bool false, .int .i64 (i : Int), .bool f, .int .i64 (k : Int)], []) =
    some (.exit 2, [.slice (ints a) .no, .slice (ints b) .no, .bool false, .int .i64 (i : Int), .bool (f || (b.drop k).any fun y => decide (x = y)), .int .i64 (b.length : Int)], []) := by
  have ix : aindexSl 1 (.slice (ints a) .no) (.int .i64 (i : Int)) = some (.pptr [.int .i64 x]) := by simp [ints, hx]
  have lenb : alenSl (.slice (ints b) .no) = some (.int .i64 (b.length : Int)) := by simp [ints]
  intro d
  induction d with
  | zero =>
    intro k f hk
    obtain rfl : k = b.length := by omega
    rw [List.drop_length]
    refine lp_exit ?_
    unfold m32_l0
    simp -implicitDefEqProofs [lenb, endR, trunc]
  | succ d ih =>
    intro k f hk
    have hk' : k < b.length := by omega
    obtain ⟨y, hy⟩ : ∃ y, b[k] = y := ⟨_, rfl⟩
    have ed : b.drop k = y :: b.drop (k + 1) := by rw [List.drop_eq_getElem_cons hk', hy]
    rw [ed, List.any_cons, ← Bool.or_assoc, ← ih (k + 1) (f || decide (x = y)) (by omega)]
    refine lp_go ?_
    have hki : (k : Int) < (b.length : Int) := by omega
    have ix2 : aindexSl 1 (.slice (ints b) .no) (.int .i64 (k : Int)) = some (.pptr [.int .i64 y]) := by simp [ints, hk', hy]
    have w2 : IntKind.i64.wrap ((k : Int) + 1) = ((k + 1 : Nat) : Int) := by rw [wrap64 (by omega) (by omega), Int.natCast_add]; rfl
    generalize ((k + 1 : Nat) : Int) = k1 at *
    unfold m32_l0
    cases f <;> simp -implicitDefEqProofs [ix, lenb, ix2, hki, w2, endR, trunc]
theorem m32_loop1 {a b : List Int} (ha : a.length ≤ 4000000) (hb : b.length ≤ 4000000) (hab : ∀ x ∈ a, x ∈ b) : ∀ (d i : Nat), a.length = i + d →
    lpW (m32_l1 KK 0) ([.slice (ints a) .no, .slice (ints b) .no, .bool false, .int .i64 (i : Int)], []) = some (.exit 0, [.slice (ints a) .no, .slice (ints b) .no, .bool false, .int .i64 (a.length : Int)], []) := by
  have lena : alenSl (.slice (ints a) .no) = some (.int .i64 (a.length : Int)) := by simp [ints]
  intro d
  induction d with
  | zero =>
    intro i hi
    obtain rfl : i = a.length := by omega
    refine lp_exit ?_
    unfold m32_l1
    simp -implicitDefEqProofs [lena, endR, trunc]
  | succ d ih =>
    intro i hi
    rw [← ih (i + 1) (by omega)]
    refine lp_go ?_
    have hil : i < a.length := by omega
    have hii : (i : Int) < (a.length : Int) := by omega
    have hx := List.getElem?_eq_getElem hil
    generalize a[i] = x at hx
    have g := m32_loop0 hx hb b.length 0 false (by omega)
    have e0 : ((0 : Nat) : Int) = 0 := rfl
    have e1 : (b.drop 0).any (fun y => decide (x = y)) = true := by
      rw [List.drop_zero, List.any_eq_true]
      exact ⟨x, hab x (List.mem_of_getElem? hx), by simp⟩
    rw [e0, e1] at g
    have w2 : IntKind.i64.wrap ((i : Int) + 1) = ((i + 1 : Nat) : Int) := by rw [wrap64 (by omega) (by omega), Int.natCast_add]; rfl
    generalize ((i + 1 : Nat) : Int) = k1 at *
    unfold m32_l1
    simp -implicitDefEqProofs [lena, g, hii, w2, endR, trunc]
theorem c32 {a b : List Int} (ha : a.length ≤ 4000000) (hb : b.length ≤ 4000000) (hab : ∀ x ∈ a, x ∈ b) (h : Heap) : KK 32 [.slice (ints a) .no, .slice (ints b) .no] h = some (.ret (.bool true), h) := by
  refine callP_pure rfl rfl (evW_by (m32_eq _ _ _ _) ?_)
  have g := m32_loop1 ha hb hab a.length 0 (by omega)
  have e0 : ((0 : Nat) : Int) = 0 := rfl
  rw [e0] at g
  simp -implicitDefEqProofs [m32, g, finR_zero]

/-! ### What Points tells, plainly -/
theorem stepL_nodup {L : List Int} {o : Op} (h : L.Nodup) : (stepL L o).Nodup := by
  unfold stepL
  apply putsL_nodup
  split
  · exact h.erase _
  · exact h
theorem wantL_nodup : ∀ {ops : List Op} {L : List Int}, L.Nodup → (wantL ops L).Nodup
  | [], _, h => h
  | o :: r, _, h => stepL_nodup (wantL_nodup (ops := r) h)
theorem endL_nodup {b : Blk} {out : List Int} : (endL b out).Nodup := by
  unfold endL
  split
  · exact putL_nodup (putsL_nodup List.nodup_nil)
  · exact putsL_nodup List.nodup_nil
theorem wantL_mem {b : Blk} {out : List Int} {t : Int} : ∀ {ops : List Op}, t ∈ wantL ops (endL b out) ↔ trOps ops b.term (fun t => t ∈ out) t
  | [] => by
    show t ∈ endL b out ↔ (b.term.kind = 2 ∧ b.term.a = t) ∨ t ∈ out
    unfold endL
    by_cases h : b.term.kind = 2
    · rw [if_pos h, putL_mem, putsL_mem]
      simp only [h, true_and, List.not_mem_nil, false_or]
      constructor
      · rintro (h | rfl)
        · exact .inr h
        · exact .inl rfl
      · rintro (rfl | h)
        · exact .inr rfl
        · exact .inl h
    · rw [if_neg h, putsL_mem]
      simp [h]
  | o :: r => by
    have ih := wantL_mem (b := b) (out := out) (t := t) (ops := r)
    show t ∈ stepL (wantL r (endL b out)) o ↔ t ∈ usesS o ∨ (trOps r b.term (fun t => t ∈ out) t ∧ ¬((formS o.kind).dst = true ∧ o.dst = t))
    unfold stepL
    rw [putsL_mem, ← ih]
    have hn : (wantL r (endL b out)).Nodup := wantL_nodup endL_nodup
    by_cases h : (formS o.kind).dst = true
    · rw [if_pos h, hn.mem_erase_iff]
      constructor
      · rintro (⟨h1, h2⟩ | h1)
        · exact .inr ⟨h2, fun hh => h1 hh.2.symm⟩
        · exact .inl h1
      · rintro (h1 | ⟨h1, h2⟩)
        · exact .inr h1
        · exact .inl ⟨fun hh => h2 ⟨h, hh.symm⟩, h1⟩
    · rw [if_neg h]
      simp only [h, Bool.false_eq_true, false_and, not_false_eq_true, and_true]
      exact or_comm

theorem rising_len : ∀ {l : List Int} {a n : Int}, l.Pairwise (· < ·) → (∀ t ∈ l, a ≤ t ∧ t < n) → (l.length : Int) ≤ max (n - a) 0
  | [], a, n, _, _ => by simp; omega
  | x :: r, a, n, hp, hb => by
    rw [List.pairwise_cons] at hp
    have hx := hb x (by simp)
    have := rising_len (l := r) (a := x + 1) (n := n) hp.2 fun t ht => by
      have h1 := hp.1 t ht
      have h2 := hb t (by simp [ht])
      omega
    simp only [List.length_cons]
    omega
theorem nodup_len {l : List Int} {n : Int} (hl : l.Nodup) (hb : ∀ t ∈ l, 0 ≤ t ∧ t < n) (hn : n ≤ 1048576) : l.length ≤ 1048576 := by
  have h1 := rising_len (sortI_rising hl) (a := 0) (n := n) fun t ht => hb t (sortI_mem.1 ht)
  have h2 : (sortI l).length = l.length := (List.mergeSort_perm l _).length_eq
  omega

theorem zs_mem {n : Nat} {P : Nat → Prop} [DecidablePred P] {t : Int} : t ∈ zs ((List.range n).filter fun t => decide (P t)) ↔ 0 ≤ t ∧ t.toNat < n ∧ P t.toNat := by
  unfold zs
  simp only [List.mem_map, List.mem_filter, List.mem_range, decide_eq_true_eq]
  constructor
  · rintro ⟨a, ⟨h1, h2⟩, rfl⟩
    exact ⟨by omega, by simpa using h1, by simpa using h2⟩
  · rintro ⟨h1, h2, h3⟩
    exact ⟨t.toNat, ⟨h2, h3⟩, by omega⟩
theorem zs_rising {n : Nat} {f : Nat → Bool} : (zs ((List.range n).filter f)).Pairwise (· < ·) := by
  unfold zs
  rw [List.pairwise_map]
  exact ((List.pairwise_lt_range (n := n)).filter f).imp fun h => by omega
theorem liveIn_mem {p : IR} {k : Nat} {t : Int} : t ∈ liveIn p k ↔ 0 ≤ t ∧ t < p.temps ∧ Reach p.blocks t k := by
  classical
  unfold liveIn
  rw [zs_mem]
  constructor
  · rintro ⟨h1, h2, h3⟩
    rw [show ((t.toNat : Nat) : Int) = t by omega] at h3
    exact ⟨h1, by omega, h3⟩
  · rintro ⟨h1, h2, h3⟩
    rw [show ((t.toNat : Nat) : Int) = t by omega]
    exact ⟨h1, by omega, h3⟩
theorem liveOut_mem {p : IR} {k : Nat} {b : Blk} (hb : p.blocks[k]? = some b) {t : Int} : t ∈ liveOut p k ↔ 0 ≤ t ∧ t < p.temps ∧ Behind p.blocks t b.term := by
  classical
  unfold liveOut
  rw [zs_mem]
  constructor
  · rintro ⟨h1, h2, b', h3, h4⟩
    rw [hb] at h3; cases h3
    rw [show ((t.toNat : Nat) : Int) = t by omega] at h4
    exact ⟨h1, by omega, h4⟩
  · rintro ⟨h1, h2, h3⟩
    refine ⟨h1, by omega, b, hb, ?_⟩
    rw [show ((t.toNat : Nat) : Int) = t by omega]
    exact h3
theorem wantL_bound {p : IR} (hp : OpsOk p) {k : Nat} {b : Blk} (hb : p.blocks[k]? = some b) {i : Nat} {t : Int} (ht : t ∈ wantL (b.ops.drop i) (endL b (liveOut p k))) : 0 ≤ t ∧ t < p.temps := by
  have hbm := List.mem_of_getElem? hb
  have key : ∀ (ops : List Op), (∀ o ∈ ops, o ∈ b.ops) → t ∈ wantL ops (endL b (liveOut p k)) → 0 ≤ t ∧ t < p.temps := by
    intro ops
    induction ops with
    | nil =>
      intro _ h
      rw [wantL_mem] at h
      rcases h with ⟨h1, h2⟩ | h1
      · rw [← h2]; exact hp.term b hbm h1
      · have := (liveOut_mem hb).1 h1; exact ⟨this.1, this.2.1⟩
    | cons o r ih =>
      intro ho h
      rw [wantL_mem] at h
      rcases h with h1 | ⟨h1, _⟩
      · exact hp.use b hbm o (ho o (by simp)) t h1
      · exact ih (fun o' h' => ho o' (by simp [h'])) (wantL_mem.2 h1)
  exact key _ (fun o ho => List.mem_of_mem_drop ho) ht
theorem points_first {p : IR} (hp : OpsOk p) {k : Nat} {b : Blk} (hb : p.blocks[k]? = some b) : sortI (wantL b.ops (endL b (liveOut p k))) = liveIn p k := by
  refine rising_eq (sortI_rising (wantL_nodup endL_nodup)) zs_rising fun t => ?_
  rw [sortI_mem, liveIn_mem]
  have hr := reach_iff (t := t) hb
  constructor
  · intro h
    have hbd := wantL_bound hp hb (i := 0) (by rw [List.drop_zero]; exact h)
    refine ⟨hbd.1, hbd.2, hr.2 ?_⟩
    rw [wantL_mem] at h
    exact trOps_mono (fun t ht => ((liveOut_mem hb).1 ht).2.2) h
  · rintro ⟨h1, h2, h3⟩
    rw [wantL_mem, trOps_fate]
    have h4 := hr.1 h3
    unfold trBlk at h4
    rw [trOps_fate] at h4
    rcases h4 with h4 | ⟨h4, h5⟩
    · exact .inl h4
    · exact .inr ⟨h4, (liveOut_mem hb).2 ⟨h1, h2, h5⟩⟩
theorem c31_live {p : IR} (hp : OpsOk p) {k : Nat} {b : Blk} (hb : p.blocks[k]? = some b) (h : Heap) :
    KK 31 [.agg b.cells, .slice (ints (liveOut p k)) .no] h = some (.ret (listsA (pointsS b (liveOut p k))), h) := by
  have hbm := List.mem_of_getElem? hb
  have ht := hp.temps
  refine c31 (fun t h1 => ?_) (Nat.le_trans zs_filter_len (by omega)) (fun o ho => ⟨fun t h1 => ?_, by have := uses_len o; omega⟩) (fun h1 => ?_) (fun i t h1 => ?_) (fun i => ?_) (by have := hp.len b hbm; omega) h
  · have := (liveOut_mem hb).1 h1; omega
  · have := hp.use b hbm o ho t h1; omega
  · have := hp.term b hbm h1; omega
  · have := wantL_bound hp hb h1; omega
  · exact nodup_len (wantL_nodup endL_nodup) (fun t h1 => wantL_bound hp hb h1) ht
theorem points_take {p : IR} (hp : OpsOk p) {k : Nat} {b : Blk} (hb : p.blocks[k]? = some b) : (pointsS b (liveOut p k)).take 1 = [liveIn p k] := by
  unfold pointsS
  rw [← List.map_take, List.take_range, show min 1 (b.ops.length + 1) = 1 by omega]
  simp only [List.range_one, List.map_cons, List.map_nil, List.drop_zero, points_first hp hb]

theorem FR_appends {h C : Heap} {l m : List Int} (hl : l.length ≤ 2000000) (hm : m.length ≤ 2000000) {t : Hk.Tok} :
    aappend 1 8 (h ++ FR l.length :: C) (.slice (ints l) (.own h.length)) (.slice (ints m) t) = some (.slice (ints (l ++ m)) (.own h.length), h ++ FR (l.length + m.length) :: C) := by
  have hr : ∀ H : Heap, arowsS 1 H (.slice (ints m) t) = some (ints m) := fun H => by simp [ints]
  have hg : ∀ x, (h ++ x :: C)[h.length]? = some x := fun x => by rw [List.getElem?_append_right (Nat.le_refl _), Nat.sub_self]; rfl
  have hs : ∀ x y, (h ++ x :: C).set h.length y = h ++ y :: C := fun x y => by rw [List.set_append_right _ _ (Nat.le_refl _), Nat.sub_self]; rfl
  have hi : (ints l).length = l.length := by simp [ints]
  have hi2 : (ints m).length = m.length := by simp [ints]
  have e2 : ints (l ++ m) = ints l ++ ints m := by simp [ints]
  unfold aappend
  simp only [hr]
  rw [hg, e2]
  by_cases h0 : l.length = 0
  · have e3 : FR l.length = .front 0 0 := by simp [FR, h0]
    rw [e3]
    simp only [hi, hi2, hs]
    by_cases h1 : m.length = 0
    · obtain rfl := List.eq_nil_of_length_eq_zero h1
      obtain rfl := List.eq_nil_of_length_eq_zero h0
      simp [FR, ints]
    · have e1 : FR (l.length + m.length) = .front m.length 1 := by simp [FR, h1, h0]
      rw [e1, if_pos ⟨h0, .inr ⟨trivial, trivial⟩, by omega, by omega⟩, if_neg (by omega)]
      simp [h0]
  · have e3 : FR l.length = .front l.length 1 := by simp [FR, h0]
    have e1 : FR (l.length + m.length) = .front (l.length + m.length) 1 := by simp [FR, h0]
    rw [e3, e1]
    simp only [hi, hi2, hs]
    by_cases h1 : m.length = 0
    · obtain rfl := List.eq_nil_of_length_eq_zero h1
      simp [ints]
      omega
    · rw [if_pos ⟨trivial, .inl trivial, by omega, by omega⟩, if_neg (by omega)]
end Go.Proofs.YtkeoalhglkfbkaaDoor

/-
  'LiveFlows': the evaluator's run. No conditions.
-/
namespace Go.Proofs.YtkeoalhglkfbkaaDoor
open Go Hk Go.Proofs.Wd

/-- What the law puts together. -/
def nextS (ins : List (List Int)) (x : Term) : List Int :=
  (if (x.kind = 1 ∨ x.kind = 2) ∧ 0 ≤ x.yes then ins.getD x.yes.toNat [] else []) ++ (if x.kind = 2 ∧ 0 ≤ x.no then ins.getD x.no.toNat [] else [])
theorem nextS_mem {ins : List (List Int)} {x : Term} {t : Int} : t ∈ nextS ins x ↔ ∃ j ∈ leadsS x, t ∈ ins.getD j.toNat [] := by
  unfold nextS leadsS
  rw [List.mem_append]
  by_cases h1 : x.kind = 1
  · by_cases h2 : 0 ≤ x.yes <;> simp [h1, h2]
  · by_cases h3 : x.kind = 2
    · by_cases h2 : 0 ≤ x.yes <;> by_cases h4 : 0 ≤ x.no <;> simp [h3, h2, h4]
    · simp [h1, h3]

def H7 (p : IR) (E : Heap) : Heap := .cells p.cells :: E
set_option maxHeartbeats 1000000 in
theorem m7_round {p : IR} {ins outs pts : List (List Int)} {i : Nat} {b : Blk} {zi zo : List Int} (hb : p.blocks[i]? = some b) (hi : ins[i]? = some zi) (ho : outs[i]? = some zo) (hil : i ≤ 2000000)
    (hlead : ∀ j ∈ leadsS b.term, j.toNat < ins.length) (hlen : ∀ z ∈ ins, z.length ≤ 1048576)
    (h31 : ∀ h, KK 31 [.agg b.cells, .slice (ints zo) .no] h = some (.ret (listsA pts), h))
    (h32 : ∀ h, KK 32 [.slice (ints (nextS ins b.term)) .no, .slice (ints zo) .no] h = some (.ret (.bool true), h))
    (h32' : ∀ h, KK 32 [.slice (ints zo) .no, .slice (ints (nextS ins b.term)) .no] h = some (.ret (.bool true), h))
    (hpt : pts.take 1 = [zi]) :
    m7_l0 KK 1 ([.ptr 0 0, .bool false, listsA ins, listsA outs, .int .i64 (i : Int)], H7 p []) = some (.normal, [.ptr 0 0, .bool false, listsA ins, listsA outs, .int .i64 ((i + 1 : Nat) : Int)], H7 p []) := by
  have hib : i < p.blocks.length := (List.getElem?_eq_some_iff.1 hb).1
  have hii : (i : Int) < (p.blocks.length : Int) := by omega
  have w1 : IntKind.i64.wrap ((i : Int) + 1) = ((i + 1 : Nat) : Int) := by rw [wrap64 (by omega) (by omega), Int.natCast_add]; rfl
  generalize ((i + 1 : Nat) : Int) = i1 at *
  have ag2 : afieldAt 2 (.ptr 0 0) = some (.ptr 0 2) := rfl
  have lb : ∀ E, aload false 1 (H7 p E) (.ptr 0 2) = some (.slice (p.blocks.map Blk.cells) .no) := by intro E; simp [H7, IR.cells]
  have lenB : alenSl (.slice (p.blocks.map Blk.cells) .no) = some (.int .i64 (p.blocks.length : Int)) := by simp
  have ixb : aindexSl 5 (.slice (p.blocks.map Blk.cells) .no) (.int .i64 (i : Int)) = some (.pptr b.cells) := by simp [hb, Blk.cells]
  have agt : afieldAt 1 (.pptr b.cells) = some (.pptr b.term.cells) := by simp [afieldAt, Blk.cells, Term.cells]
  have lt : ∀ E, aload true 4 (H7 p E) (.pptr b.term.cells) = some (.agg b.term.cells) := by intro E; simp [Term.cells]
  have lbl : ∀ E, aload true 5 (H7 p E) (.pptr b.cells) = some (.agg b.cells) := by intro E; simp [Blk.cells]
  have an : anew 4 (H7 p []) (.agg [.int .i64 0, .int .i64 0, .int .i64 0, .int .i64 0]) = some (.ptr 1 0, H7 p [.cells [.int .i64 0, .int .i64 0, .int .i64 0, .int .i64 0]]) := by simp [H7]
  have st : astore 4 (H7 p [.cells [.int .i64 0, .int .i64 0, .int .i64 0, .int .i64 0]]) (.ptr 1 0) (.agg b.term.cells) = some (H7 p [.cells b.term.cells]) := by simp [H7, Term.cells]
  have la : H7 p [.cells b.term.cells] ++ [.front 0 0] = H7 p [.cells b.term.cells, FR 0] := rfl
  have ll : (H7 p [.cells b.term.cells]).length = 2 := rfl
  have a0 : afieldAt 0 (.ptr 1 0) = some (.ptr 1 0) := rfl
  have a2 : afieldAt 2 (.ptr 1 0) = some (.ptr 1 2) := rfl
  have a3 : afieldAt 3 (.ptr 1 0) = some (.ptr 1 3) := rfl
  have k0 : ∀ F, aload false 1 (H7 p [.cells b.term.cells, F]) (.ptr 1 0) = some (.int .i64 b.term.kind) := by intro F; simp [H7, Term.cells]
  have k2 : ∀ F, aload false 1 (H7 p [.cells b.term.cells, F]) (.ptr 1 2) = some (.int .i64 b.term.yes) := by intro F; simp [H7, Term.cells]
  have k3 : ∀ F, aload false 1 (H7 p [.cells b.term.cells, F]) (.ptr 1 3) = some (.int .i64 b.term.no) := by intro F; simp [H7, Term.cells]
  have ixi : aindexSl 1 (listsA ins) (.int .i64 (i : Int)) = some (.pptr [.slice (ints zi) .no]) := by simp [listsA, hi]
  have ixo : aindexSl 1 (listsA outs) (.int .i64 (i : Int)) = some (.pptr [.slice (ints zo) .no]) := by simp [listsA, ho]
  have lz : ∀ h z, aload false 1 h (.pptr [.slice (ints z) .no]) = some (.slice (ints z) .no) := by intro h z; simp
  have ixj : ∀ j : Int, 0 ≤ j → j.toNat < ins.length → aindexSl 1 (listsA ins) (.int .i64 j) = some (.pptr [.slice (ints (ins.getD j.toNat [])) .no]) := by
    intro j h1 h2
    obtain ⟨n, rfl⟩ := Int.eq_ofNat_of_zero_le h1
    simp only [Int.toNat_natCast] at h2 ⊢
    simp [listsA, List.getElem?_eq_getElem h2, List.getD_eq_getElem?_getD]
  have gl : ∀ j : Int, (ins.getD j.toNat []).length ≤ 1048576 := by
    intro j
    rw [List.getD_eq_getElem?_getD]
    cases hx : ins[j.toNat]? with
    | none => simp
    | some z => exact hlen z (List.mem_of_getElem? hx)
  have ap : ∀ (l m : List Int), l.length ≤ 2000000 → m.length ≤ 2000000 → aappend 1 8 (H7 p [.cells b.term.cells, FR l.length]) (.slice (ints l) (.own 2)) (.slice (ints m) .no) = some (.slice (ints (l ++ m)) (.own 2), H7 p [.cells b.term.cells, FR (l.length + m.length)]) :=
    fun l m h1 h2 => FR_appends (h := H7 p [.cells b.term.cells]) (C := []) h1 h2
  have ap0 : ∀ (m : List Int), m.length ≤ 2000000 → aappend 1 8 (H7 p [.cells b.term.cells, FR 0]) (.slice [] (.own 2)) (.slice (ints m) .no) = some (.slice (ints m) (.own 2), H7 p [.cells b.term.cells, FR m.length]) := by
    intro m h2
    have := ap [] m (by simp) h2
    simp only [List.length_nil, Nat.zero_add, List.nil_append] at this
    exact this
  have ut : ∀ l t, AVal.untok (.slice (ints l) t) = .slice (ints l) .no := fun l t => rfl
  have ut0 : ∀ t, AVal.untok (.slice [] t) = .slice (ints []) .no := fun t => rfl
  have ub : (AVal.agg b.cells).untok = .agg b.cells := rfl
  have up : (listsA pts).untok = listsA pts := rfl
  have hpl : ∃ r, pts = zi :: r := by
    cases pts with
    | nil => simp at hpt
    | cons x r => simp at hpt; exact ⟨r, by rw [hpt]⟩
  obtain ⟨r, rfl⟩ := hpl
  have lenp : alenSl (listsA (zi :: r)) = some (.int .i64 ((r.length + 1 : Nat) : Int)) := by simp [listsA]
  have ne : ((r.length + 1 : Nat) : Int) ≠ 0 := by omega
  have sl : asliceSl 1 (listsA (zi :: r)) none (some (.int .i64 1)) = some (listsA [zi]) := by
    simp [asliceSl, listsA, abound]
  have bs : ∀ F, abuildSlice 1 1 [(.slice [] .nil)] [(0, .slice (ints zi) .no)] (H7 p [.cells b.term.cells, F]) = some (.slice [[.slice (ints zi) .no]] (.own 3), H7 p [.cells b.term.cells, F, .front 1 1]) := by
    intro F
    simp [abuildSlice, abuildRow, pureRow, AVal.pure1, rowsOf, H7]
  have us : AVal.untok (.slice [[.slice (ints zi) .no]] (.own 3)) = listsA [zi] := rfl
  have us1 : AVal.untok (listsA [zi]) = listsA [zi] := rfl
  have h29 : ∀ h, KK 29 [listsA [zi], listsA [zi]] h = some (.ret (.bool true), h) := c29 (fun z hz => by
    simp at hz; subst hz; have := hlen z (List.mem_of_getElem? hi); omega) (by simp)
  have hH : KBn 1 (H7 p []) := KBn_cells HB_CBn KBn_nil
  have tr : ∀ E, trunc 1 (H7 p E) = some (H7 p []) := fun E => trunc_app (h := H7 p []) (C := E) hH
  have si : ∀ h z, AVal.san 1 h (listsA z) = listsA z := fun h z => rfl
  have fin : ∀ (F : ABlk), True := fun _ => trivial
  generalize ((r.length + 1 : Nat) : Int) = rl at *
  unfold leadsS at hlead
  unfold nextS at h32 h32'
  by_cases h1 : b.term.kind = 1
  · by_cases h2 : 0 ≤ b.term.yes
    · have hy := ixj _ h2 (hlead b.term.yes (by simp [h1, h2]))
      have hg := gl b.term.yes
      generalize ins.getD b.term.yes.toNat [] = zy at *
      have p0 := ap0 zy (by omega)
      simp only [h1, h2, true_or, and_self, if_true, show ¬ (1 : Int) = 2 by decide, false_and, if_false, List.append_nil] at h32 h32'
      rw [h1] at k0
      unfold m7_l0
      simp -implicitDefEqProofs [-aload_ptr, -aload_pptr, -astore_ptr, -anew, ag2, lb, lenB, hii, ixb, agt, lt, lbl, an, st, la, ll, a0, a2, a3, k0, k2, k3, ixi, ixo, lz, hy, p0, h2, ut, ub, up, h31, h32, h32', lenp, ne, sl, bs, us, us1, h29, endR, tr, si, san1_ptr, w1]
    · simp only [h1, h2, true_or, and_false, if_false, show ¬ (1 : Int) = 2 by decide, false_and, List.append_nil] at h32 h32'
      rw [h1] at k0
      unfold m7_l0
      simp -implicitDefEqProofs [-aload_ptr, -aload_pptr, -astore_ptr, -anew, ag2, lb, lenB, hii, ixb, agt, lt, lbl, an, st, la, ll, a0, a2, a3, k0, k2, k3, ixi, ixo, lz, h2, ut, ut0, ub, up, h31, h32, h32', lenp, ne, sl, bs, us, us1, h29, endR, tr, si, san1_ptr, w1]
  · by_cases h3 : b.term.kind = 2
    · rw [h3] at k0
      by_cases h2 : 0 ≤ b.term.yes
      · have hy := ixj _ h2 (hlead b.term.yes (by simp [h3, h2]))
        have hg := gl b.term.yes
        by_cases h4 : 0 ≤ b.term.no
        · have hn := ixj _ h4 (hlead b.term.no (by simp [h3, h4]))
          have hgn := gl b.term.no
          generalize ins.getD b.term.yes.toNat [] = zy at *
          generalize ins.getD b.term.no.toNat [] = zn at *
          have p0 := ap0 zy (by omega)
          have p1 := ap zy zn (by omega) (by omega)
          simp only [h3, h2, h4, or_true, and_self, if_true] at h32 h32'
          unfold m7_l0
          simp -implicitDefEqProofs [-aload_ptr, -aload_pptr, -astore_ptr, -anew, ag2, lb, lenB, hii, ixb, agt, lt, lbl, an, st, la, ll, a0, a2, a3, k0, k2, k3, ixi, ixo, lz, hy, hn, p0, p1, h2, h4, ut, ub, up, h31, h32, h32', lenp, ne, sl, bs, us, us1, h29, endR, tr, si, san1_ptr, w1]
        · generalize ins.getD b.term.yes.toNat [] = zy at *
          have p0 := ap0 zy (by omega)
          simp only [h3, h2, h4, or_true, and_self, if_true, and_false, if_false, List.append_nil] at h32 h32'
          unfold m7_l0
          simp -implicitDefEqProofs [-aload_ptr, -aload_pptr, -astore_ptr, -anew, ag2, lb, lenB, hii, ixb, agt, lt, lbl, an, st, la, ll, a0, a2, a3, k0, k2, k3, ixi, ixo, lz, hy, p0, h2, h4, ut, ub, up, h31, h32, h32', lenp, ne, sl, bs, us, us1, h29, endR, tr, si, san1_ptr, w1]
      · by_cases h4 : 0 ≤ b.term.no
        · have hn := ixj _ h4 (hlead b.term.no (by simp [h3, h4]))
          have hgn := gl b.term.no
          generalize ins.getD b.term.no.toNat [] = zn at *
          have p0 := ap0 zn (by omega)
          simp only [h3, h2, h4, and_false, if_false, and_self, if_true, List.nil_append] at h32 h32'
          unfold m7_l0
          simp -implicitDefEqProofs [-aload_ptr, -aload_pptr, -astore_ptr, -anew, ag2, lb, lenB, hii, ixb, agt, lt, lbl, an, st, la, ll, a0, a2, a3, k0, k2, k3, ixi, ixo, lz, hn, p0, h2, h4, ut, ub, up, h31, h32, h32', lenp, ne, sl, bs, us, us1, h29, endR, tr, si, san1_ptr, w1]
        · simp only [h3, h2, h4, and_false, if_false, List.append_nil] at h32 h32'
          unfold m7_l0
          simp -implicitDefEqProofs [-aload_ptr, -aload_pptr, -astore_ptr, -anew, ag2, lb, lenB, hii, ixb, agt, lt, lbl, an, st, la, ll, a0, a2, a3, k0, k2, k3, ixi, ixo, lz, h2, h4, ut, ut0, ub, up, h31, h32, h32', lenp, ne, sl, bs, us, us1, h29, endR, tr, si, san1_ptr, w1]
    · simp only [h1, h3, false_and, or_self, if_false, List.append_nil] at h32 h32'
      unfold m7_l0
      simp -implicitDefEqProofs [-aload_ptr, -aload_pptr, -astore_ptr, -anew, ag2, lb, lenB, hii, ixb, agt, lt, lbl, an, st, la, ll, a0, a2, a3, k0, k2, k3, h1, h3, ixi, ixo, lz, ut, ut0, ub, up, h31, h32, h32', lenp, ne, sl, bs, us, us1, h29, endR, tr, si, san1_ptr, w1]

theorem m7_loop {p : IR} (h0 : checkS p = 0) : ∀ (d i : Nat), p.blocks.length = i + d →
    lpW (m7_l0 KK 1) ([.ptr 0 0, .bool false, listsA (liveI p), listsA (liveO p), .int .i64 (i : Int)], H7 p []) = some (.exit 0, [.ptr 0 0, .bool false, listsA (liveI p), listsA (liveO p), .int .i64 (p.blocks.length : Int)], H7 p []) := by
  obtain ⟨hp, hl⟩ := opsOk_of h0
  have hnb := hp.nb
  have eI : liveI p = (List.range p.blocks.length).map (liveIn p) := if_pos h0
  have eO : liveO p = (List.range p.blocks.length).map (liveOut p) := if_pos h0
  have hti := hp.temps
  have glen : ∀ z ∈ liveI p, z.length ≤ 1048576 := by
    rw [eI]
    intro z hz
    obtain ⟨k, _, rfl⟩ := List.mem_map.1 hz
    exact Nat.le_trans zs_filter_len (by omega)
  have gd : ∀ j : Nat, j < p.blocks.length → (liveI p).getD j [] = liveIn p j := by
    intro j hj
    rw [eI, List.getD_eq_getElem?_getD, List.getElem?_map, List.getElem?_range hj]; rfl
  intro d
  induction d with
  | zero =>
    intro i hi
    obtain rfl : i = p.blocks.length := by omega
    refine lp_exit ?_
    have ag2 : afieldAt 2 (.ptr 0 0) = some (.ptr 0 2) := rfl
    have lb : aload false 1 (H7 p []) (.ptr 0 2) = some (.slice (p.blocks.map Blk.cells) .no) := by simp [H7, IR.cells]
    have lenB : alenSl (.slice (p.blocks.map Blk.cells) .no) = some (.int .i64 (p.blocks.length : Int)) := by simp
    have hH : KBn 1 (H7 p []) := KBn_cells HB_CBn KBn_nil
    have tr : trunc 1 (H7 p []) = some (H7 p []) := trunc_app0 (h := H7 p []) hH
    have si : ∀ h z, AVal.san 1 h (listsA z) = listsA z := fun h z => rfl
    unfold m7_l0
    simp -implicitDefEqProofs [-aload_ptr, ag2, lb, lenB, endR, tr, si, san1_ptr]
  | succ d ih =>
    intro i hi
    rw [← ih (i + 1) (by omega)]
    have hib : i < p.blocks.length := by omega
    obtain ⟨b, hb⟩ : ∃ b, p.blocks[i]? = some b := ⟨_, List.getElem?_eq_getElem hib⟩
    have hbm := List.mem_of_getElem? hb
    have gi : (liveI p)[i]? = some (liveIn p i) := by rw [eI, List.getElem?_map, List.getElem?_range hib]; rfl
    have go : (liveO p)[i]? = some (liveOut p i) := by rw [eO, List.getElem?_map, List.getElem?_range hib]; rfl
    have hlead : ∀ j ∈ leadsS b.term, j.toNat < p.blocks.length := fun j hj => (hp.lead b hbm j (by rw [hl b hbm]; exact hj)).2
    have hlo : (liveOut p i).length ≤ 2000000 := Nat.le_trans zs_filter_len (by omega)
    have hmem : ∀ t, t ∈ nextS (liveI p) b.term ↔ t ∈ liveOut p i := by
      intro t
      rw [nextS_mem, liveOut_mem hb]
      constructor
      · rintro ⟨j, hj, ht⟩
        rw [gd _ (hlead j hj)] at ht
        have := liveIn_mem.1 ht
        exact ⟨this.1, this.2.1, j, hj, this.2.2⟩
      · rintro ⟨h1, h2, j, hj, h3⟩
        exact ⟨j, hj, by rw [gd _ (hlead j hj)]; exact liveIn_mem.2 ⟨h1, h2, h3⟩⟩
    have gl : ∀ j : Nat, ((liveI p).getD j []).length ≤ 1048576 := by
      intro j
      rw [List.getD_eq_getElem?_getD]
      cases hx : (liveI p)[j]? with
      | none => simp
      | some z => exact glen z (List.mem_of_getElem? hx)
    have hnl : (nextS (liveI p) b.term).length ≤ 4000000 := by
      unfold nextS
      rw [List.length_append]
      have e1 := gl b.term.yes.toNat
      have e2 := gl b.term.no.toNat
      split <;> split <;> (try simp only [List.length_nil]) <;> omega
    have hil : (liveI p).length = p.blocks.length := by rw [eI]; simp
    exact lp_go (m7_round hb gi go (by omega) (by rw [hil]; exact hlead) glen (c31_live hp hb) (c32 hnl (by omega) fun t ht => (hmem t).1 ht) (c32 (by omega) hnl fun t ht => (hmem t).2 ht) (points_take hp hb))

/-- The law LiveFlows. -/
theorem c7 (p : IR) (h : Heap) : KK 7 [.agg p.cells] h = some (.ret (.bool true), h) := by
  refine callP_pure rfl rfl (evW_by (m7_eq _ _ _) ?_)
  have an : anew 5 [] (.agg p.cells) = some (.ptr 0 0, H7 p []) := by simp [H7, IR.cells]
  have l1 : aload true 5 (H7 p []) (.ptr 0 0) = some (.agg p.cells) := by simp [H7, IR.cells]
  have u1 : (AVal.agg p.cells).untok = .agg p.cells := rfl
  obtain ⟨b, g25⟩ := c25 p
  have g26 := c26
  have g27 := c27 p
  have g30 := c30 p
  cases b with
  | false => simp -implicitDefEqProofs [m7, -aload_ptr, -anew, an, l1, u1, g25, g26, finR_zero]
  | true =>
    by_cases h0 : checkS p = 0
    · have gl := m7_loop h0 p.blocks.length 0 (by omega)
      have e0 : ((0 : Nat) : Int) = 0 := rfl
      rw [e0] at gl
      have ag2 : afieldAt 2 (.ptr 0 0) = some (.ptr 0 2) := rfl
      have lb : aload false 1 (H7 p []) (.ptr 0 2) = some (.slice (p.blocks.map Blk.cells) .no) := by simp [H7, IR.cells]
      have lenB : alenSl (.slice (p.blocks.map Blk.cells) .no) = some (.int .i64 (p.blocks.length : Int)) := by simp
      have li : alenSl (listsA (liveI p)) = some (.int .i64 (p.blocks.length : Int)) := by simp [listsA, liveI, h0]
      have lo : alenSl (listsA (liveO p)) = some (.int .i64 (p.blocks.length : Int)) := by simp [listsA, liveO, h0]
      have ll : (H7 p []).length = 1 := rfl
      rw [h0] at g27
      generalize liveI p = ins at *
      generalize liveO p = outs at *
      simp -implicitDefEqProofs [m7, -aload_ptr, -anew, an, l1, u1, g25, g26, g27, g30, gl, ag2, lb, lenB, li, lo, ll, aextract, finR_zero]
    · have ei : liveI p = [] := if_neg h0
      have eo : liveO p = [] := if_neg h0
      have li : alenSl (listsA []) = some (.int .i64 0) := rfl
      rw [ei, eo] at g27
      have gb : getBlk (H7 p []) 0 = some p.cells := rfl
      have c5 : p.cells.length = 5 := rfl
      have tk : p.cells.take 5 = p.cells := rfl
      simp -implicitDefEqProofs [m7, -aload_ptr, -anew, an, l1, u1, g25, g26, g27, g30, h0, li, gb, c5, tk, aextract, finR_zero]
end Go.Proofs.YtkeoalhglkfbkaaDoor

/-
  LiveTells and LiveFlows, as their rows want them. No conditions.
-/
namespace Go.Proofs.YtkeoalhglkfbkaaDoor
open Go Hk
theorem law6 (p : IR) : evW Tryd.prog ann 6 [.agg p.cells] [] = some (.ret (.bool true), []) := of_KK rfl (c6 p [])
theorem law7 (p : IR) : evW Tryd.prog ann 7 [.agg p.cells] [] = some (.ret (.bool true), []) := of_KK rfl (c7 p [])
end Go.Proofs.YtkeoalhglkfbkaaDoor
