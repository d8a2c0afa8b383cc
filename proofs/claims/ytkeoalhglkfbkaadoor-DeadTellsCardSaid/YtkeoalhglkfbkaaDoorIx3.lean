/-
  The texts IX.K11, IX.R1, IX.R2, IX.R3, IX.S1, IX.S2, IX.S3, IX.S4, IX.S5, IX.M3, IX.D1, IX.D2, IX.D3, IX.D4, IX.D5, IX.D6, IX.D7, IX.D8, one behind another. No conditions.
-/
import Derived.Test.YtkeoalhglkfbkaaDoorIx2
import Derived.Test.YtkeoalhglkfbkaaDoorIx1
import Derived.KernelRfl
set_option linter.unusedVariables false
set_option linter.unusedSimpArgs false
set_option linter.unusedSectionVars false
set_option linter.all false
/-
  'Live': what it answers. No conditions.
-/
namespace Go.Proofs.YtkeoalhglkfbkaaDoor
open Go Hk Go.Proofs.Wd

theorem checkS_zero {p : IR} (h : checkS p = 0) : Lim0 p ∧ Lim p ∧ p.blocks ≠ [] ∧ arrsS p.inn p.out 0 p.arrays = true ∧ ∀ b ∈ p.blocks, (∀ o ∈ b.ops, opS p o = true) ∧ termS (p := p) b.term = true := by
  unfold checkS at h
  cases hl : limitedS p
  · rw [hl, if_pos rfl] at h; exact absurd h (by decide)
  · rw [hl, if_neg (by decide)] at h
    have l := limited_iff.1 hl
    split at h
    · rename_i hc
      obtain ⟨c1, c2, c3, c4, c5, c6⟩ := hc
      simp only [between, Bool.and_eq_true, decide_eq_true_eq] at c1 c2
      split at h
      · rename_i h2
        simp only [Bool.and_eq_true, List.all_eq_true] at h2
        refine ⟨l, ⟨c5, l.t1, l.a1, l.b1, c1.1, c1.2, c2.1, c2.2⟩, c6, h2.1, fun b hb => ?_⟩
        have := h2.2 b hb
        simp only [blkS, Bool.and_eq_true, List.all_eq_true] at this
        exact this
      · exact absurd h (by decide)
    · exact absurd h (by decide)

theorem opsOk_of {p : IR} (h : checkS p = 0) : OpsOk p ∧ ∀ b ∈ p.blocks, leadsP b.term = leadsS b.term := by
  obtain ⟨l, lp, hne, _, hb⟩ := checkS_zero h
  have ht0 := lp.t0
  have ht1 := lp.t1
  have hu : ∀ b ∈ p.blocks, ∀ o ∈ b.ops, (∀ t ∈ usesS o, 0 ≤ t ∧ t < p.temps) ∧ o.dst ≤ 2000000 ∧ ((formS o.kind).dst = true → 0 ≤ o.dst ∧ o.dst < p.temps) := by
    intro b hbm o ho
    have h1 := (hb b hbm).1 o ho
    unfold opS at h1
    simp only [Bool.and_eq_true, List.all_eq_true, decide_eq_true_eq, Bool.or_eq_true, Bool.not_eq_true', between] at h1
    obtain ⟨_, _, h2, ⟨h3, _⟩, h4, _⟩ := h1
    refine ⟨fun t ht => by have := h2 t ht; omega, ?_, fun hd => ?_⟩
    · rcases h4 with h4 | h4
      · rw [h4] at h3; simp at h3; omega
      · omega
    · rcases h4 with h4 | h4
      · rw [hd] at h4; cases h4
      · omega
  have hlead : ∀ b ∈ p.blocks, ∀ j ∈ leadsP b.term, 0 ≤ j ∧ j.toNat < p.blocks.length := by
    intro b hbm j hj
    have h1 := (hb b hbm).2
    unfold termS at h1
    unfold leadsP at hj
    by_cases k1 : b.term.kind = 1
    · rw [if_pos k1] at h1 hj
      simp only [Bool.and_eq_true, decide_eq_true_eq, between] at h1
      have := List.mem_filter.1 hj
      simp at this
      omega
    · rw [if_neg k1] at h1 hj
      by_cases k2 : b.term.kind = 2
      · rw [if_pos k2] at h1 hj
        simp only [Bool.and_eq_true, decide_eq_true_eq, between] at h1
        have := List.mem_filter.1 hj
        simp at this
        omega
      · rw [if_neg k2] at hj; simp at hj
  refine ⟨⟨fun b hb o ho => (hu b hb o ho).1, fun b hb o ho => (hu b hb o ho).2.1, fun b hb o ho => (hu b hb o ho).2.2, fun b hbm k2 => ?_, hlead, ht1, by have := lp.b1; omega, fun b hb => by have := opsS_mem hb; have := l.o1; omega⟩, fun b hbm => leads_eq (hb b hbm).2⟩
  have h1 := (hb b hbm).2
  unfold termS at h1
  rw [if_neg (by omega), if_pos k2] at h1
  simp only [Bool.and_eq_true, decide_eq_true_eq, between] at h1
  omega

def slW (ws : List Wd) : AVal := .slice (ints (zs (listS ws))) .no
def rowsW (l : List Cl) (i : Nat) : List (List AVal) := (List.range i).map fun k => [slW (Wk l k)]
theorem rowsW_len {l : List Cl} {i : Nat} : (rowsW l i).length = i := by simp [rowsW]
theorem rowsW_succ {l : List Cl} {i : Nat} : rowsW l (i + 1) = rowsW l i ++ [[slW (Wk l i)]] := by simp [rowsW, List.range_succ]

section
variable {p : IR} (hp : OpsOk p) {ins outs : List Cl} (hi : ins.length = p.blocks.length) (ho : outs.length = p.blocks.length) (hsi : ∀ c ∈ ins, (setC c).length ≤ 20000) (hso : ∀ c ∈ outs, (setC c).length ≤ 20000)
include hp hi ho hsi hso
theorem m27_loop4 : ∀ (d i : Nat), p.blocks.length = i + d →
    lpW (m27_l4 KK 7) ([T1, T2, .int .i64 0, .mslice 3 0 p.blocks.length 1, .mslice 4 0 p.blocks.length 1, .slice (rowsW ins i) (.own 5), .slice (rowsW outs i) (.own 6), .int .i64 (p.blocks.length : Int), .int .i64 (i : Int)], HB p (ins.map cellA) (outs.map cellA) ++ [FR i, FR i]) =
      some (.exit 8, [T1, T2, .int .i64 0, .mslice 3 0 p.blocks.length 1, .mslice 4 0 p.blocks.length 1, .slice (rowsW ins p.blocks.length) (.own 5), .slice (rowsW outs p.blocks.length) (.own 6), .int .i64 (p.blocks.length : Int), .int .i64 (p.blocks.length : Int)],
        HB p (ins.map cellA) (outs.map cellA) ++ [FR p.blocks.length, FR p.blocks.length]) := by
  have q1 := fun h => sT1 (m := 7) (h := h) (by omega)
  have q2 := fun h => sT2 (m := 7) (h := h) (by omega)
  have q3 := fun h => sMI (m := 7) (h := h) (n := p.blocks.length) (by omega)
  have q4 := fun h => sMO (m := 7) (h := h) (n := p.blocks.length) (by omega)
  have q5 : ∀ h rows, AVal.san 7 h (.slice rows (.own 5)) = .slice rows (.own 5) := fun h rows => by simp
  have q6 : ∀ h rows, AVal.san 7 h (.slice rows (.own 6)) = .slice rows (.own 6) := fun h rows => by simp
  have hnb := hp.nb
  have hT : ∀ n k : Nat, TH (HB p (ins.map cellA) (outs.map cellA) ++ [FR n, FR k]) := fun n k => by
    have e : HB p (ins.map cellA) (outs.map cellA) ++ [FR n, FR k] = HB p (ins.map cellA) (outs.map cellA) ++ ([FR n] ++ [FR k]) := rfl
    unfold TH; rw [e]
    exact KBn_app (HB_KBn (cells_CBn _) (cells_CBn _)) (KBn_app FR_ok FR_ok)
  have htr : ∀ n k C, trunc 7 (.cells p.cells :: .front 0 0 :: .front 0 0 :: .cells (ins.map cellA) :: .cells (outs.map cellA) :: FR n :: FR k :: C) = some [.cells p.cells, .front 0 0, .front 0 0, .cells (ins.map cellA), .cells (outs.map cellA), FR n, FR k] := fun n k C => trunc_app (C := C) (hT n k)
  intro d
  induction d with
  | zero =>
    intro i hd
    obtain rfl : p.blocks.length = i := by omega
    refine lp_exit ?_
    simp only [HB, List.cons_append, List.nil_append]
    unfold m27_l4
    simp -implicitDefEqProofs [endR, htr, q1, q2, q3, q4, q5, q6]
  | succ d ih =>
    intro i hd
    have hil : i < p.blocks.length := by omega
    have hil' : (i : Int) < (p.blocks.length : Int) := by omega
    rw [← ih (i + 1) (by omega)]
    refine lp_go ?_
    have hci : ins[i]? = some ins[i] := List.getElem?_eq_getElem (by omega)
    have hco : outs[i]? = some outs[i] := List.getElem?_eq_getElem (by omega)
    have hWi : setC ins[i] = Wk ins i := by unfold Wk; rw [List.getD_eq_getElem?_getD, hci]; rfl
    have hWo : setC outs[i] = Wk outs i := by unfold Wk; rw [List.getD_eq_getElem?_getD, hco]; rfl
    have ixi : aindexSl 1 (.mslice 3 0 p.blocks.length 1) (.int .i64 (i : Int)) = some (.ptr 3 i) := by rw [aindexSl_mslice, if_pos ⟨hil, rfl⟩]; simp
    have ixo : aindexSl 1 (.mslice 4 0 p.blocks.length 1) (.int .i64 (i : Int)) = some (.ptr 4 i) := by rw [aindexSl_mslice, if_pos ⟨hil, rfl⟩]; simp
    have ldi : ∀ X Y Z W C, aload false 1 (X :: Y :: Z :: .cells (ins.map cellA) :: W :: C) (.ptr 3 i) = some (cellA ins[i]) := fun X Y Z W C => by
      rw [aload_ptr]
      have : getBlk (X :: Y :: Z :: .cells (ins.map cellA) :: W :: C) 3 = some (ins.map cellA) := rfl
      rw [this, Option.bind_some, List.getElem?_map, hci]; rfl
    have ldo : ∀ X Y Z W C, aload false 1 (X :: Y :: Z :: W :: .cells (outs.map cellA) :: C) (.ptr 4 i) = some (cellA outs[i]) := fun X Y Z W C => by
      rw [aload_ptr]
      have : getBlk (X :: Y :: Z :: W :: .cells (outs.map cellA) :: C) 4 = some (outs.map cellA) := rfl
      rw [this, Option.bind_some, List.getElem?_map, hco]; rfl
    have hTh : TH ([.cells p.cells, .front 0 0, .front 0 0, .cells (ins.map cellA), .gone, FR i, FR i] : Heap) := by
      have e : ([.cells p.cells, .front 0 0, .front 0 0, .cells (ins.map cellA), .gone, FR i, FR i] : Heap) = [.cells p.cells, .front 0 0, .front 0 0, .cells (ins.map cellA), .gone] ++ ([FR i] ++ [FR i]) := rfl
      unfold TH; rw [e]
      exact KBn_app (KBn_cells HB_CBn (KBn_front (KBn_front (KBn_cells (cells_CBn _) (KBn_gone_iff.2 KBn_nil))))) (KBn_app FR_ok FR_ok)
    have g1 := c63 hTh (cellA_in ins[i]) (hsi _ (List.getElem_mem _))
    rw [hWi] at g1
    have hT2 : TH ([.cells p.cells, .front 0 0, .front 0 0, .cells (ins.map cellA), .cells (outs.map cellA), FR (i + 1), FR i, .front 1 1] : Heap) := by
      have e : ([.cells p.cells, .front 0 0, .front 0 0, .cells (ins.map cellA), .cells (outs.map cellA), FR (i + 1), FR i, .front 1 1] : Heap) = HB p (ins.map cellA) (outs.map cellA) ++ ([FR (i + 1)] ++ ([FR i] ++ [.front 1 1])) := rfl
      unfold TH; rw [e]
      exact KBn_app (HB_KBn (cells_CBn _) (cells_CBn _)) (KBn_app FR_ok (KBn_app FR_ok (KBn_front KBn_nil)))
    have g2 := c63 hT2 (cellA_in outs[i]) (hso _ (List.getElem_mem _))
    rw [hWo] at g2
    have w1 : IntKind.i64.wrap ((i : Int) + 1) = ((i + 1 : Nat) : Int) := by rw [wrap64 (by omega) (by omega), Int.natCast_add]; rfl
    have row : ∀ (z : List Int) (h : Heap), abuildSlice 1 1 [.slice [] .nil] [(0, .slice (ints z) .no)] h = some (.slice [[.slice (ints z) .no]] (.own h.length), h ++ [.front 1 1]) := fun z h => rfl
    have a1 := fun t => FR_app (h := [.cells p.cells, .front 0 0, .front 0 0, .cells (ins.map cellA), .gone]) (C := [FR i, .front 1 1]) (rows := rowsW ins i) (v := .slice (ints (zs (listS (Wk ins i)))) .no) (by_ := 24) (by omega) (by rw [rowsW_len]; omega) (t := t)
    have a2 := fun t => FR_app (h := [.cells p.cells, .front 0 0, .front 0 0, .cells (ins.map cellA), .cells (outs.map cellA), FR (i + 1)]) (C := [.front 1 1, .front 1 1]) (rows := rowsW outs i) (v := .slice (ints (zs (listS (Wk outs i)))) .no) (by_ := 24) (by omega) (by rw [rowsW_len]; omega) (t := t)
    have r1 : rowsW ins i ++ [[.slice (ints (zs (listS (Wk ins i)))) .no]] = rowsW ins (i + 1) := rowsW_succ.symm
    have r2 : rowsW outs i ++ [[.slice (ints (zs (listS (Wk outs i)))) .no]] = rowsW outs (i + 1) := rowsW_succ.symm
    simp only [rowsW_len, r1, r2, List.length_cons, List.length_nil, Nat.zero_add, Nat.reduceAdd, List.cons_append, List.nil_append] at a1 a2
    simp only [HB, List.cons_append, List.nil_append]
    generalize ((i + 1 : Nat) : Int) = i1 at *
    generalize rowsW ins (i + 1) = R1 at *
    generalize rowsW outs (i + 1) = R2 at *
    generalize rowsW ins i = R3 at *
    generalize rowsW outs i = R4 at *
    generalize zs (listS (Wk ins i)) = z1 at *
    generalize zs (listS (Wk outs i)) = z2 at *
    generalize cellA ins[i] = c1 at *
    generalize cellA outs[i] = c2 at *
    unfold m27_l4
    simp -implicitDefEqProofs [-aload_ptr, hil', ixi, ixo, ldi, ldo, g1, g2, row, a1, a2, w1, endR, htr, q1, q2, q3, q4, q5, q6]
end

open Classical in
/-- The temps that are wanted ahead of a block. -/
noncomputable def liveIn (p : IR) (k : Nat) : List Int := zs ((List.range p.temps.toNat).filter fun t => decide (Reach p.blocks (t : Int) k))
open Classical in
/-- Those that are wanted behind it. -/
noncomputable def liveOut (p : IR) (k : Nat) : List Int := zs ((List.range p.temps.toNat).filter fun t => decide (∃ b, p.blocks[k]? = some b ∧ Behind p.blocks (t : Int) b.term))
noncomputable def liveI (p : IR) : List (List Int) := if checkS p = 0 then (List.range p.blocks.length).map (liveIn p) else []
noncomputable def liveO (p : IR) : List (List Int) := if checkS p = 0 then (List.range p.blocks.length).map (liveOut p) else []
def listsA (l : List (List Int)) : AVal := .slice (l.map fun z => [.slice (ints z) .no]) .no

theorem listS_reach {ws : List Wd} {n : Nat} {P : Nat → Prop} [DecidablePred P] (h : ∀ t, wget ws t = true ↔ P t) (hn : ∀ t, P t → t < n) : listS ws = (List.range n).filter fun t => decide (P t) := by
  rw [listS_eq fun t ht => hn t ((h t).1 ht)]
  apply List.filter_congr
  intro t _
  cases hx : wget ws t
  · have : ¬ P t := fun hp => by rw [(h t).2 hp] at hx; cases hx
    simp [this]
  · simp [(h t).1 hx]

theorem c27 (p : IR) (h : Heap) : KK 27 [.agg p.cells] h = some (.ret (.tuple [listsA (liveI p), listsA (liveO p), .int .i64 (checkS p)]), h) := by
  classical
  refine callP_pure rfl rfl (evW_by (m27_eq _ _ _) ?_)
  have g30 := c30 p
  by_cases h0 : checkS p = 0
  · obtain ⟨hp, hl⟩ := opsOk_of h0
    obtain ⟨_, lp, _⟩ := checkS_zero h0
    have hM : ∀ ins, SI p ins → sizeS ins ≤ p.blocks.length * 1280000 := fun ins hI => by have := sizeS_le ins hI.sz; rwa [hI.len] at this
    obtain ⟨ins, outs, g1, g2, g3, g4⟩ := m27_loop3 hp hl _ hM _ (List.replicate p.blocks.length (false, [])) (List.replicate p.blocks.length (false, [])) true (Nat.lt_succ_self _) (SI.start hp hl) (by simp) (fun h => by cases h)
    have hso : ∀ c ∈ outs, (setC c).length ≤ 20000 := fun c hc => by
      obtain ⟨k, hk⟩ := List.getElem?_of_mem hc
      have hkl : k < p.blocks.length := by rw [← g3]; exact (List.getElem?_eq_some_iff.1 hk).1
      have := (g4 k _ (List.getElem?_eq_getElem hkl)).1
      rw [List.getD_eq_getElem?_getD, hk] at this
      simp at this
      rw [this]
      exact join_len 20000 _ [] (by simp) fun s hs' => by
        obtain ⟨j, _, rfl⟩ := List.mem_map.1 hs'
        exact Wk_sz g2.sz j.toNat
    have g5 := m27_loop4 hp g2.len g3 g2.sz hso p.blocks.length 0 (by omega)
    have e1 : rowsW ins p.blocks.length = (liveI p).map fun z => [.slice (ints z) .no] := by
      unfold rowsW liveI
      rw [if_pos h0, List.map_map]
      apply List.map_congr_left
      intro k hk
      simp only [Function.comp, slW, liveIn]
      rw [listS_reach (n := p.temps.toNat) (P := fun t : Nat => Reach p.blocks (t : Int) k) (fun t => SI.complete hp hl g2 g4 k t) (fun t ht => by have := (reach_range hp ht).2; omega)]
    have e2 : rowsW outs p.blocks.length = (liveO p).map fun z => [.slice (ints z) .no] := by
      unfold rowsW liveO
      rw [if_pos h0, List.map_map]
      apply List.map_congr_left
      intro k hk
      have hkl := List.mem_range.1 hk
      have hb : p.blocks[k]? = some p.blocks[k] := List.getElem?_eq_getElem hkl
      have hbm := List.getElem_mem hkl
      have hw : Wk outs k = outW ins p.blocks[k] := by unfold Wk; rw [(g4 k _ hb).1]; rfl
      simp only [Function.comp, slW, liveOut]
      rw [hw, listS_reach (n := p.temps.toNat) (P := fun t : Nat => ∃ b, p.blocks[k]? = some b ∧ Behind p.blocks (t : Int) b.term) (fun t => ?_) (fun t ht => ?_)]
      · rw [wget_out]
        constructor
        · rintro ⟨j, hj, ht⟩
          rw [hl _ hbm] at hj
          exact ⟨_, hb, j, hj, (SI.complete hp hl g2 g4 _ _).1 ht⟩
        · rintro ⟨b, hb', j, hj, hr⟩
          rw [hb] at hb'; cases hb'
          rw [← hl _ hbm] at hj
          exact ⟨j, hj, (SI.complete hp hl g2 g4 _ _).2 hr⟩
      · obtain ⟨b, _, j, _, hr⟩ := ht
        have := (reach_range hp hr).2; omega
    rw [e1, e2] at g5
    have e0 : ∀ l : List Cl, rowsW l 0 = [] := fun l => rfl
    have eF : FR 0 = .front 0 0 := rfl
    have er : (List.replicate p.blocks.length (false, [])).map cellA = List.replicate p.blocks.length (.slice [] .nil) := by rw [List.map_replicate]; rfl
    simp only [e0, eF, Int.cast_ofNat_Int] at g5
    rw [er] at g1
    have mk : ∀ (h : Heap), amakeSlice 1 24 [.slice [] .nil] (.int .i64 (p.blocks.length : Int)) h = some (.mslice h.length 0 p.blocks.length 1, h ++ [.cells (List.replicate p.blocks.length (.slice [] .nil))]) := fun h => by
      have hnb := hp.nb
      simp only [amakeSlice]
      rw [if_pos ⟨by omega, by simp; omega, by omega⟩]
      simp
    rw [h0] at g30 ⊢
    have st : ∀ (r1 r2 : List (List AVal)) (h : Heap), AVal.untok (AVal.san 0 h (.tuple [.slice r1 (.own 5), .slice r2 (.own 6), .int .i64 0])) = .tuple [.slice r1 .no, .slice r2 .no, .int .i64 0] := fun _ _ _ => rfl
    unfold listsA
    generalize (liveI p).map (fun z => [AVal.slice (ints z) .no]) = R1 at *
    generalize (liveO p).map (fun z => [AVal.slice (ints z) .no]) = R2 at *
    generalize ins.map cellA = ci at *
    generalize outs.map cellA = co at *
    simp only [lvS, HB, T1, T2, List.cons_append, List.nil_append, IR.cells] at g1 g5 g30 ⊢
    generalize List.replicate p.blocks.length (AVal.slice [] .nil) = c0 at *
    simp -implicitDefEqProofs [m27, g30, mk, g1, g5, finR, st]
  · have e1 : liveI p = [] := if_neg h0
    have e2 : liveO p = [] := if_neg h0
    rw [e1, e2]
    generalize checkS p = e at *
    have st : ∀ (h : Heap), AVal.untok (AVal.san 0 h (.tuple [.slice [] (.own 3), .slice [] (.own 4), .int .i64 e])) = .tuple [.slice [] .no, .slice [] .no, .int .i64 e] := fun _ => rfl
    simp only [IR.cells] at g30 ⊢
    simp -implicitDefEqProofs [m27, g30, h0, finR, st, listsA]
end Go.Proofs.YtkeoalhglkfbkaaDoor

/-
  The document's Uses, and the fate of a temp. No conditions.
-/
namespace Go.Proofs.YtkeoalhglkfbkaaDoor
open Go Hk Go.Proofs.Wd

/-! ### Numbers in a slice that is written into -/
def VI (id : Nat) : List Int → AVal
  | [] => .slice [] (.own id)
  | w :: r => .vslice id (r.length + 1) 0 (r.length + 1) 1
def XI : List Int → ABlk
  | [] => .front 0 0
  | w :: r => .vec (r.length + 1) 1 ((w :: r).map intc)

section
variable {A B C : List ABlk} {ws : List Int} {id m i : Nat} {h : Heap} {k : IntKind}
theorem VI_len : alenSl (VI id ws) = some (.int .i64 (ws.length : Int)) := by cases ws <;> rfl
theorem VI_san (hi : id < m) : AVal.san m h (VI id ws) = VI id ws := by
  cases ws with
  | nil => simp [VI, hi]
  | cons w r => exact san_vslice hi
theorem XI_ok : XOk (XI ws) := by
  intro m h
  cases ws with
  | nil => rfl
  | cons w r =>
    have : sanCells m h ((w :: r).map intc) = some ((w :: r).map intc) := sanCells_ints fun c hc => by
      obtain ⟨x, _, rfl⟩ := List.mem_map.1 hc; exact ⟨_, _, rfl⟩
    show (sanCells m h ((w :: r).map intc)).map _ = _
    rw [this]; rfl
theorem VI_index (hi : i < ws.length) : aindexSl 1 (VI id ws) (.int k (i : Int)) = some (.vptr id ws.length i) := by
  cases ws with
  | nil => simp at hi
  | cons w r =>
    have : i < r.length + 1 := by simpa using hi
    simp [VI, this]
theorem getVec_XI (h0 : ws ≠ []) : getVec (OQ A (XI ws) B) A.length ws.length = some (1, ws.map intc) := by
  unfold getVec
  rw [OQ_get?]
  cases ws with
  | nil => exact absurd rfl h0
  | cons w r => simp [XI]
theorem VI_load (hi : i < ws.length) : aload false 1 (OQ A (XI ws) B) (.vptr A.length ws.length i) = some (intc (ws.getD i 0)) := by
  rw [aload_vptr, getVec_XI (by intro e; subst e; simp at hi)]
  simp [List.getD_eq_getElem?_getD, hi]
theorem VI_append (hl : ws.length ≤ 2000000) (w : Int) {t : Hk.Tok} : aappendV 1 8 (OQ A (XI ws) B) (VI A.length ws) (.slice [[intc w]] t) = some (VI A.length (ws ++ [w]), OQ A (XI (ws ++ [w])) B) := by
  have hr : arowsS 1 (OQ A (XI ws) B) (.slice [[intc w]] t) = some [[intc w]] := by simp
  cases ws with
  | nil =>
    unfold aappendV
    simp only [VI, hr]
    rw [OQ_get?]
    simp [XI, VI, OQ_put]
  | cons x r =>
    have hg := getVec_XI (A := A) (B := B) (ws := x :: r) (by simp)
    unfold aappendV
    simp only [VI, hr]
    simp only [List.length_cons] at hg hl ⊢
    rw [hg]
    simp only [List.length_nil, Nat.zero_add]
    rw [if_pos ⟨trivial, trivial, by omega, by omega⟩, if_neg (by omega), if_neg (by omega)]
    simp [XI, VI, OQ_put, List.take_of_length_le]
end

def usesG (o : Op) : Heap := .cells o.cells :: .front 0 0 :: XI (usesS o) :: (usesS o).map fun _ => .front 1 1
theorem c100 (o : Op) (h : Heap) : KK 100 [.agg o.cells] h = some (.ret (VI (h.length + 2) (usesS o)), h ++ usesG o) := by
  refine evW_by (m100_eq _ _ _) ?_
  have f0 : ∀ (z : Int) (h : Heap), abuildSlice 1 1 [.int .i64 0] [(0, .int .i64 z)] h = some (.slice [[intc z]] (.own h.length), h ++ [.front 1 1]) := fun z h => rfl
  have gb : ∀ C, getBlk (h ++ .cells o.cells :: C) h.length = some o.cells := fun C => by unfold getBlk; rw [List.getElem?_append_right (Nat.le_refl _), Nat.sub_self]; rfl
  have ap : ∀ (l : List Int) (z : Int) (C : Heap) (t : Hk.Tok), l.length ≤ 10 → aappendV 1 8 (h ++ .cells o.cells :: .front 0 0 :: XI l :: C) (VI (h.length + 2) l) (.slice [[intc z]] t) = some (VI (h.length + 2) (l ++ [z]), h ++ .cells o.cells :: .front 0 0 :: XI (l ++ [z]) :: C) := fun l z C t hl => by
    have g := VI_append (A := h ++ [.cells o.cells, .front 0 0]) (B := C) (ws := l) (by omega) z (t := t)
    have e : (h ++ [ABlk.cells o.cells, .front 0 0]).length = h.length + 2 := by simp
    rw [e] at g
    simpa [OQ] using g
  have a1 := fun z C t => ap [] z C t (by simp)
  have a2 := fun x z C t => ap [x] z C t (by simp)
  have a3 := fun x y z C t => ap [x, y] z C t (by simp)
  have x0 : XI [] = .front 0 0 := rfl
  have v0 : VI (h.length + 2) [] = .slice [] (.own (h.length + 2)) := rfl
  have hs := form_src o.kind
  have c163 := c163 o.kind
  have hA := hasA o.kind
  have hB := hasB o.kind
  have hC := hasC o.kind
  unfold usesG usesS
  simp only [x0, v0, List.nil_append, List.cons_append] at a1 a2 a3
  simp only [Op.cells] at gb a1 a2 a3 ⊢
  rcases (show (formS o.kind).src = 0 ∨ (formS o.kind).src = 1 ∨ (formS o.kind).src = 2 ∨ (formS o.kind).src = 3 by omega) with h0 | h0 | h0 | h0 <;>
    rw [h0] at hA hB hC ⊢ <;>
    simp -implicitDefEqProofs [m100, gb, c163, hA, hB, hC, f0, a1, a2, a3, x0, v0]

/-! ### The fate of a temp -/
theorem m158_inner {A C : List ABlk} (hB : KB A C) {u : List Int} (hu : u.length ≤ 10) (t k : Int) : ∀ (d i : Nat), u.length = i + d →
    ∃ j : Int, lpW (m158_l0 KK (HN A C)) ([.int .i64 t, .ptr 0 0, .int .i64 0, .int .i64 k, VI A.length u, .int .i64 (i : Int)], OQ A (XI u) C) =
      some (if t ∈ u.drop i then .ret else .exit 2, [.int .i64 t, .ptr 0 0, .int .i64 (if t ∈ u.drop i then 1 else 0), .int .i64 k, VI A.length u, .int .i64 j], OQ A (XI u) C) := by
  have htr := OQ_trunc0 (X := XI u) (A := A) (B := C) hB XI_ok
  have hsn := fun h => VI_san (ws := u) (m := HN A C) (h := h) A_lt0
  have hsp : ∀ h, AVal.san (HN A C) h (.ptr 0 0) = .ptr 0 0 := fun h => san_ptr_lt (by simp [HN]; omega)
  intro d
  induction d with
  | zero =>
    intro i hd
    obtain rfl : u.length = i := by omega
    refine ⟨(u.length : Int), ?_⟩
    rw [List.drop_length]
    refine lp_exit ?_
    unfold m158_l0
    simp -implicitDefEqProofs [VI_len, endR, htr, hsn, hsp]
  | succ d ih =>
    intro i hd
    have hil : i < u.length := by omega
    have hil' : (i : Int) < (u.length : Int) := by omega
    have hx : u[i]? = some u[i] := List.getElem?_eq_getElem hil
    have w1 : IntKind.i64.wrap ((i : Int) + 1) = ((i + 1 : Nat) : Int) := by rw [wrap64 (by omega) (by omega), Int.natCast_add]; rfl
    have ix := fun k => VI_index (id := A.length) (k := k) hil
    have ld := VI_load (A := A) (B := C) hil
    have hgd : u.getD i 0 = u[i] := by simp [List.getD_eq_getElem?_getD, hx]
    rw [hgd] at ld
    rw [List.drop_eq_getElem_cons hil]
    generalize u[i] = z at *
    by_cases hz : z = t
    · subst hz
      refine ⟨(i : Int), ?_⟩
      rw [if_pos (by simp), if_pos (by simp)]
      refine lp_ret ?_
      unfold m158_l0
      simp -implicitDefEqProofs [-aload_vptr, VI_len, hil', ix, ld, intc, endR, htr, hsn, hsp]
    · obtain ⟨j, g⟩ := ih (i + 1) (by omega)
      refine ⟨j, ?_⟩
      have hm : (t ∈ z :: u.drop (i + 1)) ↔ t ∈ u.drop (i + 1) := by
        rw [List.mem_cons]; exact ⟨fun h => h.elim (fun e => absurd e.symm hz) id, .inr⟩
      simp only [hm]
      rw [← g]
      refine lp_go ?_
      generalize ((i + 1 : Nat) : Int) = i1 at *
      unfold m158_l0
      simp -implicitDefEqProofs [-aload_vptr, VI_len, hil', ix, ld, intc, hz, w1, endR, htr, hsn, hsp]

theorem m158_loop {b : Blk} (hb : b.ops.length ≤ 1048576) (t : Int) : ∀ (d i : Nat), b.ops.length = i + d →
    ∃ (e : Ex) (r j : Int), lpW (m158_l1 KK 1) ([.int .i64 t, .ptr 0 0, .int .i64 0, .int .i64 (i : Int)], [.cells b.cells]) = some (e, [.int .i64 t, .ptr 0 0, .int .i64 r, .int .i64 j], [.cells b.cells]) ∧
      ((e = .ret ∧ r = fateS (b.ops.drop i) b.term t) ∨ (e = .exit 0 ∧ fateS (b.ops.drop i) b.term t = fateS [] b.term t)) := by
  have htr : ∀ C, trunc 1 (.cells b.cells :: C) = some [.cells b.cells] := fun C => trunc_app (h := [.cells b.cells]) (C := C) (KBn_cells (by simp [Blk.cells]) KBn_nil)
  have hsp : ∀ h, AVal.san 1 h (.ptr 0 0) = .ptr 0 0 := fun h => san_ptr_lt (by omega)
  have ld : ∀ C, aload false 1 (.cells b.cells :: C) (.ptr 0 0) = some (.slice (b.ops.map Op.cells) .no) := fun C => rfl
  intro d
  induction d with
  | zero =>
    intro i hd
    obtain rfl : b.ops.length = i := by omega
    rw [List.drop_length]
    refine ⟨.exit 0, 0, (b.ops.length : Int), lp_exit ?_, .inr ⟨rfl, rfl⟩⟩
    unfold m158_l1
    simp -implicitDefEqProofs [-aload_ptr, ld, endR, htr, hsp]
  | succ d ih =>
    intro i hd
    have hil : i < b.ops.length := by omega
    have hil' : (i : Int) < (b.ops.length : Int) := by omega
    have hx : b.ops[i]? = some b.ops[i] := List.getElem?_eq_getElem hil
    have w1 : IntKind.i64.wrap ((i : Int) + 1) = ((i + 1 : Nat) : Int) := by rw [wrap64 (by omega) (by omega), Int.natCast_add]; rfl
    rw [List.drop_eq_getElem_cons hil]
    generalize b.ops[i] = o at *
    have g100 := c100 o [.cells b.cells]
    have g101 := c101 o
    have hB : KB [ABlk.cells b.cells, .cells o.cells, .front 0 0] ((usesS o).map fun _ => .front 1 1) := by
      refine ⟨fun n _ => KBn_cells (by simp [Blk.cells]) (KBn_cells (by simp [Op.cells]) (KBn_front KBn_nil)), fun n _ => ?_⟩
      generalize usesS o = u
      induction u with
      | nil => exact KBn_nil
      | cons x r ih => exact KBn_front ih
    obtain ⟨j0, gi⟩ := m158_inner hB (u := usesS o) (by have := uses_len o; omega) t (i : Int) (usesS o).length 0 (by omega)
    have eq : [ABlk.cells b.cells] ++ usesG o = OQ [ABlk.cells b.cells, .cells o.cells, .front 0 0] (XI (usesS o)) ((usesS o).map fun _ => .front 1 1) := rfl
    rw [eq] at g100
    have hl3 : [ABlk.cells b.cells, ABlk.cells o.cells, .front 0 0].length = 3 := rfl
    have hl1 : [ABlk.cells b.cells].length + 2 = 3 := rfl
    rw [hl1] at g100
    rw [hl3] at gi
    simp only [List.drop_zero, Int.cast_ofNat_Int] at gi
    have eld : aload false 1 (OQ [ABlk.cells b.cells, .cells o.cells, .front 0 0] (XI (usesS o)) ((usesS o).map fun _ => .front 1 1)) (.ptr 0 0) = some (.slice (b.ops.map Op.cells) .no) := rfl
    have etr : trunc 1 (OQ [ABlk.cells b.cells, .cells o.cells, .front 0 0] (XI (usesS o)) ((usesS o).map fun _ => .front 1 1)) = some [.cells b.cells] := htr _
    have elen : (OQ [ABlk.cells b.cells, .cells o.cells, .front 0 0] (XI (usesS o)) ((usesS o).map fun _ => .front 1 1)).length = HN [ABlk.cells b.cells, .cells o.cells, .front 0 0] ((usesS o).map fun _ => .front 1 1) := OQ_len
    have ixo : aindexSl 6 (.slice (b.ops.map Op.cells) .no) (.int .i64 (i : Int)) = some (.pptr o.cells) := by rw [aindexSl_map, hx]; rfl
    simp only [fateS]
    generalize hCC : ((usesS o).map fun _ => ABlk.front 1 1) = CC at *
    generalize hA3 : [ABlk.cells b.cells, ABlk.cells o.cells, .front 0 0] = A3 at *
    generalize hH3 : OQ A3 (XI (usesS o)) CC = H3 at *
    generalize VI 3 (usesS o) = V3 at *
    clear hH3 hA3 hCC eq hB
    simp only [Op.cells] at ixo g100 g101
    by_cases hu : t ∈ usesS o
    · rw [if_pos hu, if_pos hu] at gi
      rw [if_pos hu]
      refine ⟨.ret, 1, (i : Int), lp_ret ?_, .inl ⟨rfl, rfl⟩⟩
      unfold m158_l1
      simp -implicitDefEqProofs [-aload_ptr, -OQ_len, ld, hil', ixo, g100, elen, gi, endR, etr, hsp]
    · rw [if_neg hu, if_neg hu] at gi
      rw [if_neg hu]
      by_cases hd1 : (formS o.kind).dst = true ∧ o.dst = t
      · rw [if_pos hd1]
        obtain ⟨d1, d2⟩ := hd1
        rw [d1] at g101
        rw [d2] at g100 g101 ixo
        refine ⟨.ret, 2, (i : Int), lp_ret ?_, .inl ⟨rfl, rfl⟩⟩
        unfold m158_l1
        simp -implicitDefEqProofs [-aload_ptr, -OQ_len, ld, hil', ixo, g100, elen, gi, eld, g101, d2, endR, etr, hsp]
      · rw [if_neg hd1]
        obtain ⟨e, r, j, g1, g2⟩ := ih (i + 1) (by omega)
        refine ⟨e, r, j, ?_, g2⟩
        rw [← g1]
        refine lp_go ?_
        generalize ((i + 1 : Nat) : Int) = i1 at *
        cases hf : (formS o.kind).dst
        · rw [hf] at g101
          unfold m158_l1
          simp -implicitDefEqProofs [-aload_ptr, -OQ_len, ld, hil', ixo, g100, elen, gi, eld, g101, w1, endR, etr, hsp]
        · have d2 : ¬ o.dst = t := fun e => hd1 ⟨hf, e⟩
          rw [hf] at g101
          unfold m158_l1
          simp -implicitDefEqProofs [-aload_ptr, -OQ_len, ld, hil', ixo, g100, elen, gi, eld, g101, d2, w1, endR, etr, hsp]
theorem c158 {b : Blk} (hb : b.ops.length ≤ 1048576) (t : Int) (h : Heap) : KK 158 [.agg b.cells, .int .i64 0, .int .i64 t] h = some (.ret (.int .i64 (fateS b.ops b.term t)), h) := by
  refine callP_pure rfl rfl (evW_by (m158_eq _ _ _ _ _) ?_)
  obtain ⟨e, r, j, g1, g2⟩ := m158_loop hb t b.ops.length 0 (by omega)
  simp only [List.drop_zero, Int.cast_ofNat_Int, Blk.cells] at g1 g2 ⊢
  rcases g2 with ⟨rfl, rfl⟩ | ⟨rfl, g2⟩
  · simp [m158, g1, finR_zero]
  · rw [g2]
    simp only [fateS]
    by_cases k2 : b.term.kind = 2
    · by_cases ha : b.term.a = t
      · rw [k2, ha] at g1
        simp [m158, g1, k2, ha, finR_zero]
      · rw [k2] at g1
        simp [m158, g1, k2, ha, finR_zero]
    · simp [m158, g1, k2, finR_zero]

theorem c131 (t : Term) (h : Heap) : KK 131 [.agg t.cells] h = some (.ret (.slice (ints (leadsS t)) .no), h) := by
  refine callP_pure rfl rfl (evW_by (m131_eq _ _ _) ?_)
  have f0 : ∀ (z : Int) (h : Heap), abuildSlice 1 1 [.int .i64 0] [(0, .int .i64 z)] h = some (.slice [[.int .i64 z]] (.own h.length), h ++ [.front 1 1]) := fun z h => rfl
  have a1 : ∀ X Y z C t, aappend 1 8 (X :: Y :: .front 0 0 :: C) (.slice [] (.own 2)) (.slice [[.int .i64 z]] t) = some (.slice [[.int .i64 z]] (.own 2), X :: Y :: .front 1 1 :: C) := fun X Y z C t => by
    have := FR_append (h := [X, Y]) (C := C) (l := []) (z := z) (by simp) (t := t)
    simpa [FR, ints] using this
  have a2 : ∀ X Y y z C t, aappend 1 8 (X :: Y :: .front 1 1 :: C) (.slice [[.int .i64 y]] (.own 2)) (.slice [[.int .i64 z]] t) = some (.slice [[.int .i64 y], [.int .i64 z]] (.own 2), X :: Y :: .front 2 1 :: C) := fun X Y y z C t => by
    have := FR_append (h := [X, Y]) (C := C) (l := [y]) (z := z) (by simp) (t := t)
    simpa [FR, ints] using this
  unfold leadsS
  simp only [Term.cells]
  by_cases k1 : t.kind = 1
  · by_cases hy : 0 ≤ t.yes
    · simp [m131, k1, hy, f0, a1, finR_zero, ints]
    · simp [m131, k1, hy, f0, a1, finR_zero, ints]
  by_cases k2 : t.kind = 2
  · by_cases hy : 0 ≤ t.yes <;> by_cases hn : 0 ≤ t.no <;> simp [m131, k1, k2, hy, hn, f0, a1, a2, finR_zero, ints]
  · simp [m131, k1, k2, finR_zero, ints]
end Go.Proofs.YtkeoalhglkfbkaaDoor

/-
  The way that is looked for, and what it tells. No conditions.
-/
namespace Go.Proofs.YtkeoalhglkfbkaaDoor
open Go Hk Go.Proofs.Wd

/-- The heap of 'way'. -/
def HW (p : IR) (seen : List Bool) (l r : List Int) : Heap := [.cells p.cells, .cells (seen.map AVal.bool), .vec (l ++ r).length 1 ((l ++ r).map intc)]
def WV (l r : List Int) : AVal := .vslice 2 (l ++ r).length 0 l.length 1
theorem bools_CBn {n : Nat} (l : List Bool) : CBn n (l.map AVal.bool) := CBn_of fun c hc => by
  obtain ⟨x, _, rfl⟩ := List.mem_map.1 hc
  exact ⟨fun m h _ => rfl, rfl⟩
theorem intc_CBn {n : Nat} (l : List Int) : CBn n (l.map intc) := CBn_of fun c hc => by
  obtain ⟨x, _, rfl⟩ := List.mem_map.1 hc
  exact ⟨fun m h _ => rfl, rfl⟩
theorem KBn_vec {n tot sz : Nat} {cs : List AVal} {C : List ABlk} (h1 : CBn n cs) (h : KBn n C) : KBn n (.vec tot sz cs :: C) := fun m x hm => by simp [h m x hm, h1 m x hm]
theorem HW_KBn {p : IR} {seen : List Bool} {l r : List Int} {n : Nat} : KBn n (HW p seen l r) := KBn_cells HB_CBn (KBn_cells (bools_CBn _) (KBn_vec (intc_CBn _) KBn_nil))
theorem WV_len {l r : List Int} : alenSl (WV l r) = some (.int .i64 (l.length : Int)) := rfl
theorem WV_san {l r : List Int} {h : Heap} : AVal.san 3 h (WV l r) = WV l r := rfl
theorem ints_flat (l : List Int) : (ints l).flatten = l.map intc := by
  induction l with
  | nil => rfl
  | cons x r ih => simp only [ints, List.map_cons, List.flatten_cons, intc, List.cons_append, List.nil_append]; rw [← ih]; rfl
theorem WV_append {p : IR} {seen : List Bool} {l r new : List Int} {C : Heap} (hl : (l ++ r).length ≤ 4000000) (hn : new.length ≤ 4000000) {t : Hk.Tok} :
    ∃ r', (l ++ new ++ r').length ≤ max (l ++ r).length (l ++ new).length ∧ aappendV 1 8 (HW p seen l r ++ C) (WV l r) (.slice (ints new) t) = some (WV (l ++ new) r', HW p seen (l ++ new) r' ++ C) := by
  have hr : ∀ H : Heap, arowsS 1 H (.slice (ints new) t) = some (ints new) := fun H => by simp [ints]
  have hil : (ints new).length = new.length := by simp [ints]
  have gv : getVec (HW p seen l r ++ C) 2 (l ++ r).length = some (1, (l ++ r).map intc) := by simp [HW]
  simp only [List.length_append] at hl
  by_cases h0 : new.length = 0
  · obtain rfl := List.eq_nil_of_length_eq_zero h0
    refine ⟨r, by simp, ?_⟩
    unfold aappendV WV
    simp only [hr, gv, hil]
    rw [if_pos ⟨trivial, trivial, by omega, by omega⟩, if_pos h0]
    simp
  · by_cases h1 : l.length + new.length ≤ (l ++ r).length
    · refine ⟨r.drop new.length, ?_, ?_⟩
      · simp only [List.length_append, List.length_drop] at h1 ⊢; omega
      · have hpc : putCells ((l ++ r).map intc) (l.length * 1) (ints new).flatten = (l ++ new ++ r.drop new.length).map intc := by
          rw [ints_flat]
          unfold putCells
          simp only [List.map_append, Nat.mul_one, List.length_map]
          have e1 : (l.map intc ++ r.map intc).take l.length = l.map intc := by
            have := List.take_left (l₁ := l.map intc) (l₂ := r.map intc)
            rwa [List.length_map] at this
          have e2 : (l.map intc ++ r.map intc).drop (l.length + new.length) = (r.drop new.length).map intc := by
            have := List.drop_left (l₁ := l.map intc) (l₂ := r.map intc)
            rw [List.length_map] at this
            rw [← List.drop_drop, this, List.map_drop]
          rw [e1, e2]
        have htot : (l ++ new ++ r.drop new.length).length = (l ++ r).length := by
          simp only [List.length_append, List.length_drop] at h1 ⊢; omega
        have hln : (l ++ new).length = l.length + new.length := by simp
        unfold aappendV WV
        simp only [hr, gv, hil]
        rw [if_pos ⟨trivial, trivial, by omega, by omega⟩, if_neg h0, if_pos h1, hpc, htot, hln]
        simp [HW, htot]
        simp only [List.length_append, List.length_drop] at h1 ⊢
        omega
    · refine ⟨[], by simp; omega, ?_⟩
      have hln : (l ++ new).length = l.length + new.length := by simp
      have hpc : ((l ++ r).map intc).take (l.length * 1) ++ (ints new).flatten = (l ++ new).map intc := by
        rw [ints_flat, Nat.mul_one]
        simp only [List.map_append]
        have := List.take_left (l₁ := l.map intc) (l₂ := r.map intc)
        rw [List.length_map] at this
        rw [this]
      unfold aappendV WV
      simp only [hr, gv, hil]
      rw [if_pos ⟨trivial, trivial, by omega, by omega⟩, if_neg h0, if_neg h1, hpc]
      simp [HW]

def cf (l : List Bool) : Nat := (l.filter fun b => !b).length
theorem cf_set : ∀ {l : List Bool} {k : Nat}, l[k]? = some false → cf (l.set k true) + 1 = cf l
  | [], k, h => by simp at h
  | x :: r, 0, h => by simp at h; subst h; simp [cf]
  | x :: r, k + 1, h => by
    have ih := cf_set (l := r) (k := k) (by simpa using h)
    cases x <;> simp [cf] at ih ⊢ <;> omega
theorem cf_le (l : List Bool) : cf l ≤ l.length := List.length_filter_le _ _

section
variable {p : IR} (hp : OpsOk p) (hl : ∀ b ∈ p.blocks, leadsP b.term = leadsS b.term) (t : Int) {src : List Int} (hsrc : ∀ f ∈ src, 0 ≤ f)
include hp hl hsrc
theorem m130_loop : ∀ (n : Nat) (seen : List Bool) (l r : List Int), 3 * cf seen + l.length < n → n ≤ 4000000 → (l ++ r).length ≤ 4000000 → WayInv p.blocks t src seen l →
    ∃ (e : Ex) (rb : Bool) (seen' : List Bool) (l' r' : List Int), lpW (m130_l0 KK 3) ([.int .i64 t, .ptr 0 0, .bool false, .mslice 1 0 p.blocks.length 1, WV l r], HW p seen l r) =
      some (e, [.int .i64 t, .ptr 0 0, .bool rb, .mslice 1 0 p.blocks.length 1, WV l' r'], HW p seen' l' r') ∧
      ((e = .ret ∧ rb = true ∧ ∃ f ∈ src, Reach p.blocks t f.toNat) ∨ (e = .exit 0 ∧ ¬ ∃ f ∈ src, Reach p.blocks t f.toNat)) := by
  have htr : ∀ seen l r C, trunc 3 (HW p seen l r ++ C) = some (HW p seen l r) := fun seen l r C => trunc_app (h := HW p seen l r) (C := C) HW_KBn
  have htr0 : ∀ seen l r, trunc 3 (HW p seen l r) = some (HW p seen l r) := fun seen l r => trunc_app0 (h := HW p seen l r) HW_KBn
  have hsp : ∀ h, AVal.san 3 h (.ptr 0 0) = .ptr 0 0 := fun h => san_ptr_lt (by omega)
  have hsm : ∀ h, AVal.san 3 h (.mslice 1 0 p.blocks.length 1) = .mslice 1 0 p.blocks.length 1 := fun h => rfl
  have ldA : ∀ seen l r, aload false 1 (HW p seen l r) (.ptr 0 2) = some (.slice (p.blocks.map Blk.cells) .no) := fun _ _ _ => rfl
  have hln : ∀ b ∈ p.blocks, ∀ j ∈ leadsS b.term, 0 ≤ j := fun b hb j hj => by rw [← hl b hb] at hj; exact (hp.lead b hb j hj).1
  intro n
  induction n with
  | zero => intro seen l r h; omega
  | succ n ih =>
    intro seen l r hn hn4 hlr hI
    rcases List.eq_nil_or_concat l with rfl | ⟨l0, k, rfl⟩
    · refine ⟨.exit 0, false, seen, [], r, lp_exit ?_, .inr ⟨rfl, hI.done⟩⟩
      have hw0 : alenSl (WV [] r) = some (.int .i64 0) := rfl
      unfold m130_l0
      simp -implicitDefEqProofs [-aload_ptr, hw0, endR, htr0, hsp, hsm, WV_san]
    · simp only [List.concat_eq_append] at hn hlr hI ⊢
      have happ : (l0 ++ [k]) ++ r = l0 ++ (k :: r) := by simp
      have hH : ∀ s, HW p s (l0 ++ [k]) r = HW p s l0 (k :: r) := fun s => by unfold HW; rw [happ]
      have hk := hI.lt k (by simp)
      obtain ⟨q, hq⟩ := Int.eq_ofNat_of_zero_le hk.1
      have hqn : q < p.blocks.length := by have := hk.2; rw [hq] at this; simpa using this
      have hsl : q < seen.length := by rw [hI.len]; exact hqn
      have hb : p.blocks[q]? = some p.blocks[q] := List.getElem?_eq_getElem hqn
      have hbm := List.getElem_mem hqn
      have hx : seen[q]? = some seen[q] := List.getElem?_eq_getElem hsl
      have hlen : alenSl (WV (l0 ++ [k]) r) = some (.int .i64 ((l0.length + 1 : Nat) : Int)) := by simp [WV_len]
      have hgt : (0 : Int) < ((l0.length + 1 : Nat) : Int) := by omega
      have hl0 : l0.length ≤ 4000000 := by simp only [List.length_append] at hlr; omega
      have w0 : IntKind.i64.wrap (((l0.length + 1 : Nat) : Int) - 1) = (l0.length : Int) := by rw [wrap64] <;> omega
      have ix : aindexSl 1 (WV (l0 ++ [k]) r) (.int .i64 (l0.length : Int)) = some (.vptr 2 (l0 ++ (k :: r)).length l0.length) := by
        unfold WV; rw [happ, aindexSl_vslice, if_pos ⟨by simp, rfl⟩]; simp
      have ldk : aload false 1 (HW p seen l0 (k :: r)) (.vptr 2 (l0 ++ (k :: r)).length l0.length) = some (.int .i64 (q : Int)) := by
        rw [aload_vptr]
        have : getVec (HW p seen l0 (k :: r)) 2 (l0 ++ (k :: r)).length = some (1, (l0 ++ (k :: r)).map intc) := by simp [HW]
        rw [this]
        simp [intc, hq]
      have sl : asliceSl 1 (WV (l0 ++ [k]) r) none (some (.int .i64 (l0.length : Int))) = some (WV l0 (k :: r)) := by
        have a2 : abound (some (.int .i64 (l0.length : Int))) (l0 ++ [k]).length = some l0.length := by simp [abound]
        unfold WV
        simp only [asliceSl, abound_none, a2, happ]
        rw [if_pos ⟨by omega, by simp, trivial⟩]
        simp
      have ixs : aindexSl 1 (.mslice 1 0 p.blocks.length 1) (.int .i64 (q : Int)) = some (.ptr 1 q) := by rw [aindexSl_mslice, if_pos ⟨hqn, rfl⟩]; simp
      have lds : aload false 1 (HW p seen l0 (k :: r)) (.ptr 1 q) = some (.bool seen[q]) := by
        rw [aload_ptr]
        have : getBlk (HW p seen l0 (k :: r)) 1 = some (seen.map AVal.bool) := rfl
        rw [this, Option.bind_some, List.getElem?_map, hx]; rfl
      obtain ⟨pa, ix, ldk⟩ : ∃ pa, aindexSl 1 (WV (l0 ++ [k]) r) (.int .i64 (l0.length : Int)) = some pa ∧ aload false 1 (HW p seen l0 (k :: r)) pa = some (.int .i64 (q : Int)) := ⟨_, ix, ldk⟩
      rw [hH]
      by_cases hsn : seen[q] = true
      · rw [hsn] at lds hx
        have hI2 := hI.skip (by rw [hq]; simpa using hx) hsrc hln
        obtain ⟨e, rb, s', l', r', g1, g2⟩ := ih seen l0 (k :: r) (by simp only [List.length_append, List.length_singleton] at hn; omega) (by omega) (by rw [← happ]; exact hlr) hI2
        refine ⟨e, rb, s', l', r', ?_, g2⟩
        rw [← g1]
        refine lp_go ?_
        have htr1 := htr0 seen l0 (k :: r)
        generalize ((l0.length + 1 : Nat) : Int) = z1 at *
        generalize HW p seen l0 (k :: r) = Hh at *
        unfold m130_l0
        simp -implicitDefEqProofs [-aload_ptr, -aload_vptr, hlen, hgt, w0, ix, ldk, sl, ixs, lds, endR, htr1, hsp, hsm, WV_san]
      · have hsf : seen[q] = false := by cases h : seen[q] <;> simp_all
        rw [hsf] at lds hx
        have hcf := cf_set hx
        have st : astore 1 (HW p seen l0 (k :: r)) (.ptr 1 q) (.bool true) = some (HW p (seen.set q true) l0 (k :: r)) := by
          rw [astore_ptr]
          have : getBlk (HW p seen l0 (k :: r)) 1 = some (seen.map AVal.bool) := rfl
          have hq' : q < (seen.map AVal.bool).length := by simpa using hsl
          rw [this, Option.bind_some, if_pos ⟨rfl, by simp; omega, rfl⟩, cells_bool, List.drop_eq_getElem_cons hq', keepTok_cons, keepTok_nil2, keep1_bool]
          have : putCells (seen.map AVal.bool) q [.bool true] = (seen.set q true).map AVal.bool := by
            unfold putCells
            rw [List.map_set, List.set_eq_take_append_cons_drop, if_pos hq']
            simp
          rw [this]; rfl
        have bx : aindexSl 5 (.slice (p.blocks.map Blk.cells) .no) (.int .i64 (q : Int)) = some (.pptr (Blk.cells p.blocks[q])) := by rw [aindexSl_map, hb]; rfl
        have g158 := c158 (b := p.blocks[q]) (hp.len _ hbm) t
        have g131 := c131 (p.blocks[q]).term
        have hfc := fateS_cases (p.blocks[q]).ops (p.blocks[q]).term t
        have hlt : ∀ j ∈ leadsS (p.blocks[q]).term, 0 ≤ j ∧ j.toNat < p.blocks.length := fun j hj => by rw [← hl _ hbm] at hj; exact hp.lead _ hbm j hj
        have hbk : p.blocks[k.toNat]? = some p.blocks[q] := by rw [hq]; simpa using hb
        have hll : (leadsS (p.blocks[q]).term).length ≤ 2 := by
          unfold leadsS
          split
          · exact Nat.le_trans (List.length_filter_le _ _) (by simp)
          · split
            · exact Nat.le_trans (List.length_filter_le _ _) (by simp)
            · simp
        have hkq : k.toNat = q := by rw [hq]; simp
        have ldA1 := ldA (seen.set q true) l0 (k :: r)
        have htr1 := htr0 (seen.set q true) l0 (k :: r)
        simp only [List.length_append, List.length_singleton] at hn
        rcases hfc with hf | hf | hf
        · -- neither read nor made: on
          have hI2 := hI.push hbk (by rw [hf]; decide) rfl hlt
          rw [hf, if_pos rfl, hkq] at hI2
          obtain ⟨r', hr1, hr2⟩ := WV_append (p := p) (seen := seen.set q true) (l := l0) (r := k :: r) (new := leadsS (p.blocks[q]).term) (C := []) (by rw [← happ]; exact hlr) (by omega) (t := .no)
          rw [List.append_nil, List.append_nil] at hr2
          obtain ⟨e, rb, s', l', r'', g1, g2⟩ := ih (seen.set q true) (l0 ++ leadsS (p.blocks[q]).term) r' (by simp only [List.length_append]; omega) (by omega) (by
            rw [← happ] at hr1
            have : (l0 ++ leadsS (p.blocks[q]).term).length ≤ 4000000 := by simp only [List.length_append]; omega
            omega) hI2
          refine ⟨e, rb, s', l', r'', ?_, g2⟩
          rw [← g1]
          refine lp_go ?_
          have htr2 := htr0 (seen.set q true) (l0 ++ leadsS (p.blocks[q]).term) r'
          rw [hf] at g158
          simp only [Blk.cells, Term.cells] at bx g158 g131
          generalize leadsS (p.blocks[q]).term = ld at *
          generalize ((l0.length + 1 : Nat) : Int) = z1 at *
          generalize HW p (seen.set q true) (l0 ++ ld) r' = H3 at *
          generalize HW p (seen.set q true) l0 (k :: r) = H2 at *
          generalize HW p seen l0 (k :: r) = H1 at *
          unfold m130_l0
          simp -implicitDefEqProofs [-aload_ptr, -aload_vptr, -astore_ptr, hlen, hgt, w0, ix, ldk, sl, ixs, lds, st, ldA1, bx, g158, g131, hr2, endR, htr2, hsp, hsm, WV_san]
        · -- read
          refine ⟨.ret, true, seen.set q true, l0, k :: r, lp_ret ?_, .inl ⟨rfl, rfl, hI.hit hbk hf⟩⟩
          rw [hf] at g158
          simp only [Blk.cells, Term.cells] at bx g158 g131
          generalize ((l0.length + 1 : Nat) : Int) = z1 at *
          generalize HW p (seen.set q true) l0 (k :: r) = H2 at *
          generalize HW p seen l0 (k :: r) = H1 at *
          unfold m130_l0
          simp -implicitDefEqProofs [-aload_ptr, -aload_vptr, -astore_ptr, hlen, hgt, w0, ix, ldk, sl, ixs, lds, st, ldA1, bx, g158, endR, htr1, hsp, hsm, WV_san]
        · -- made
          have hI2 := hI.push hbk (by rw [hf]; decide) rfl hlt
          rw [hf, if_neg (by decide), hkq, List.append_nil] at hI2
          obtain ⟨e, rb, s', l', r'', g1, g2⟩ := ih (seen.set q true) l0 (k :: r) (by omega) (by omega) (by rw [← happ]; exact hlr) hI2
          refine ⟨e, rb, s', l', r'', ?_, g2⟩
          rw [← g1]
          refine lp_go ?_
          rw [hf] at g158
          simp only [Blk.cells, Term.cells] at bx g158 g131
          generalize ((l0.length + 1 : Nat) : Int) = z1 at *
          generalize HW p (seen.set q true) l0 (k :: r) = H2 at *
          generalize HW p seen l0 (k :: r) = H1 at *
          unfold m130_l0
          simp -implicitDefEqProofs [-aload_ptr, -aload_vptr, -astore_ptr, hlen, hgt, w0, ix, ldk, sl, ixs, lds, st, ldA1, bx, g158, endR, htr1, hsp, hsm, WV_san]
omit hsrc
open Classical in
theorem c130 (hsrc : ∀ f ∈ src, 0 ≤ f ∧ f.toNat < p.blocks.length) (hsl : src.length ≤ 10) (h : Heap) : KK 130 [.agg p.cells, .slice (ints src) .no, .int .i64 t] h = some (.ret (.bool (decide (∃ f ∈ src, Reach p.blocks t f.toNat))), h) := by
  refine callP_pure rfl rfl (evW_by (m130_eq _ _ _ _ _) ?_)
  have hnb := hp.nb
  have hcf := cf_le (List.replicate p.blocks.length false)
  rw [List.length_replicate] at hcf
  have h0 : HW p (List.replicate p.blocks.length false) [] [] = [.cells p.cells, .cells (List.replicate p.blocks.length (.bool false)), .vec 0 1 []] := by simp [HW]
  obtain ⟨r', hr1, hr2⟩ := WV_append (p := p) (seen := List.replicate p.blocks.length false) (l := []) (r := []) (new := src) (C := []) (by simp) (by omega) (t := .no)
  rw [List.append_nil, List.append_nil, h0] at hr2
  simp only [List.nil_append] at hr2 hr1
  obtain ⟨e, rb, s', l', r'', g1, g2⟩ := m130_loop hp hl t (fun f hf => (hsrc f hf).1) 3200000 (List.replicate p.blocks.length false) src r' (by omega) (by omega) (by
    have : max ([] : List Int).length src.length ≤ 10 := by simp; omega
    simp only [List.length_nil] at hr1 this
    omega) (WayInv.start hsrc)
  have mk : ∀ (h : Heap), amakeSlice 1 1 [.bool false] (.int .i64 (p.blocks.length : Int)) h = some (.mslice h.length 0 p.blocks.length 1, h ++ [.cells (List.replicate p.blocks.length (.bool false))]) := fun h => by
    simp only [amakeSlice]
    rw [if_pos ⟨by omega, by simp; omega, by omega⟩]
    simp
  have b0 : ∀ h : Heap, abuildSliceV 0 1 [.int .i64 0] [] h = some (.vslice h.length 0 0 0 1, h ++ [.vec 0 1 []]) := fun h => rfl
  have w0 : WV [] [] = .vslice 2 0 0 0 1 := rfl
  have l3 : (HW p (List.replicate p.blocks.length false) src r').length = 3 := rfl
  rw [w0] at hr2
  generalize HW p (List.replicate p.blocks.length false) src r' = H1 at *
  generalize HW p s' l' r'' = H2 at *
  generalize List.replicate p.blocks.length (AVal.bool false) = c0 at *
  rcases g2 with ⟨rfl, rfl, g2⟩ | ⟨rfl, g2⟩
  · rw [decide_eq_true g2]
    simp only [IR.cells] at hr2 ⊢
    simp -implicitDefEqProofs [m130, mk, b0, hr2, l3, g1, finR_zero]
  · rw [decide_eq_false g2]
    simp only [IR.cells] at hr2 ⊢
    simp -implicitDefEqProofs [m130, mk, b0, hr2, l3, g1, finR_zero]
end
end Go.Proofs.YtkeoalhglkfbkaaDoor

/-
  The document's 'Live': the same as the program's. No conditions.
-/
namespace Go.Proofs.YtkeoalhglkfbkaaDoor
open Go Hk Go.Proofs.Wd

section
variable {p : IR} (hp : OpsOk p) (hl : ∀ b ∈ p.blocks, leadsP b.term = leadsS b.term)
include hp hl
open Classical in
theorem c65 {k : Nat} (hk : k < p.blocks.length) (t : Int) (h : Heap) : KK 65 [.agg p.cells, .int .i64 (k : Int), .int .i64 t] h = some (.ret (.bool (decide (Reach p.blocks t k))), h) := by
  refine callP_pure rfl rfl (evW_by (m65_eq _ _ _ _ _) ?_)
  have g := c130 hp hl t (src := [(k : Int)]) (fun f hf => by simp at hf; subst hf; exact ⟨by omega, by simpa using hk⟩) (by simp)
  have f0 : ∀ (z : Int) (h : Heap), abuildSlice 1 1 [.int .i64 0] [(0, .int .i64 z)] h = some (.slice (ints [z]) (.own h.length), h ++ [.front 1 1]) := fun z h => rfl
  have e : decide (∃ f ∈ [(k : Int)], Reach p.blocks t f.toNat) = decide (Reach p.blocks t k) := by
    congr 1; simp
  rw [e] at g
  simp only [IR.cells] at g ⊢
  simp [m65, f0, g, finR_zero]
open Classical in
theorem c66 {k : Nat} {b : Blk} (hb : p.blocks[k]? = some b) (t : Int) (h : Heap) : KK 66 [.agg p.cells, .int .i64 (k : Int), .int .i64 t] h = some (.ret (.bool (decide (Behind p.blocks t b.term))), h) := by
  refine callP_pure rfl rfl (evW_by (m66_eq _ _ _ _ _) ?_)
  have hbm := List.mem_of_getElem? hb
  have g := c130 hp hl t (src := leadsS b.term) (fun f hf => by rw [← hl b hbm] at hf; exact hp.lead b hbm f hf) (by rw [← hl b hbm]; exact leadsP_len _)
  have g131 := c131 b.term
  have bx : aindexSl 5 (.slice (p.blocks.map Blk.cells) .no) (.int .i64 (k : Int)) = some (.pptr b.cells) := by rw [aindexSl_map, hb]; rfl
  have e : decide (∃ f ∈ leadsS b.term, Reach p.blocks t f.toNat) = decide (Behind p.blocks t b.term) := decide_eq_decide.2 Iff.rfl
  rw [e] at g
  simp only [IR.cells, Blk.cells, Term.cells] at g g131 bx ⊢
  generalize leadsS b.term = ld at *
  simp -implicitDefEqProofs [m66, bx, g131, g, finR_zero]

open Classical in
theorem m28_loop0 {k : Nat} {b : Blk} (hb : p.blocks[k]? = some b) (R1 R2 : List (List AVal)) (F1 F2 : ABlk) (hF1 : ∀ n, KBn n [F1]) (hF2 : ∀ n, KBn n [F2]) : ∀ (d i : Nat), p.temps.toNat = i + d →
    lpW (m28_l0 KK 7) ([.ptr 0 0, T1, T2, .int .i64 0, .slice R1 (.own 3), .slice R2 (.own 4), .int .i64 (k : Int), .slice (ints (zs ((List.range i).filter fun t : Nat => decide (Reach p.blocks (t : Int) k)))) (.own 5), .slice (ints (zs ((List.range i).filter fun t : Nat => decide (Behind p.blocks (t : Int) b.term)))) (.own 6), .int .i64 (i : Int)],
        [.cells p.cells, .front 0 0, .front 0 0, F1, F2, FR (zs ((List.range i).filter fun t : Nat => decide (Reach p.blocks (t : Int) k))).length, FR (zs ((List.range i).filter fun t : Nat => decide (Behind p.blocks (t : Int) b.term))).length]) =
      some (.exit 2, [.ptr 0 0, T1, T2, .int .i64 0, .slice R1 (.own 3), .slice R2 (.own 4), .int .i64 (k : Int), .slice (ints (zs ((List.range p.temps.toNat).filter fun t : Nat => decide (Reach p.blocks (t : Int) k)))) (.own 5), .slice (ints (zs ((List.range p.temps.toNat).filter fun t : Nat => decide (Behind p.blocks (t : Int) b.term)))) (.own 6), .int .i64 (p.temps.toNat : Int)],
        [.cells p.cells, .front 0 0, .front 0 0, F1, F2, FR (zs ((List.range p.temps.toNat).filter fun t : Nat => decide (Reach p.blocks (t : Int) k))).length, FR (zs ((List.range p.temps.toNat).filter fun t : Nat => decide (Behind p.blocks (t : Int) b.term))).length]) := by
  have q0 := fun h => sP (m := 7) (h := h) (by omega)
  have q1 := fun h => sT1 (m := 7) (h := h) (by omega)
  have q2 := fun h => sT2 (m := 7) (h := h) (by omega)
  have q3 : ∀ h rows, AVal.san 7 h (.slice rows (.own 3)) = .slice rows (.own 3) := fun h rows => by simp
  have q4 : ∀ h rows, AVal.san 7 h (.slice rows (.own 4)) = .slice rows (.own 4) := fun h rows => by simp
  have q5 : ∀ h rows, AVal.san 7 h (.slice rows (.own 5)) = .slice rows (.own 5) := fun h rows => by simp
  have q6 : ∀ h rows, AVal.san 7 h (.slice rows (.own 6)) = .slice rows (.own 6) := fun h rows => by simp
  have hT : ∀ n k : Nat, TH ([.cells p.cells, .front 0 0, .front 0 0, F1, F2, FR n, FR k] : Heap) := fun n k => by
    have e : ([.cells p.cells, .front 0 0, .front 0 0, F1, F2, FR n, FR k] : Heap) = [.cells p.cells, .front 0 0, .front 0 0] ++ ([F1] ++ ([F2] ++ ([FR n] ++ [FR k]))) := rfl
    unfold TH; rw [e]
    exact KBn_app (KBn_cells HB_CBn (KBn_front (KBn_front KBn_nil))) (KBn_app (hF1 _) (KBn_app (hF2 _) (KBn_app FR_ok FR_ok)))
  have htr : ∀ n k C, trunc 7 (.cells p.cells :: .front 0 0 :: .front 0 0 :: F1 :: F2 :: FR n :: FR k :: C) = some [.cells p.cells, .front 0 0, .front 0 0, F1, F2, FR n, FR k] := fun n k C => trunc_app (C := C) (hT n k)
  have ldT : ∀ C, aload false 1 (.cells p.cells :: C) (.ptr 0 0) = some (.int .i64 p.temps) := fun C => rfl
  have ldP : ∀ C, aload true 5 (.cells p.cells :: C) (.ptr 0 0) = some (.agg p.cells) := fun C => rfl
  have hpt := hp.temps
  have un : AVal.untok (.agg p.cells) = .agg p.cells := rfl
  intro d
  induction d with
  | zero =>
    intro i hd
    obtain rfl : p.temps.toNat = i := by omega
    have hc : ¬ ((p.temps.toNat : Int) < p.temps) := by omega
    refine lp_exit ?_
    generalize p.temps.toNat = T at *
    unfold m28_l0
    simp -implicitDefEqProofs [-aload_ptr, -aload_ptrT, ldT, hc, endR, htr, q0, q1, q2, q3, q4, q5, q6]
  | succ d ih =>
    intro i hd
    have hc : ((i : Int) < p.temps) := by omega
    have hkl : k < p.blocks.length := (List.getElem?_eq_some_iff.1 hb).1
    have g65 := c65 hp hl hkl (i : Int)
    have g66 := c66 hp hl hb (i : Int)
    have w1 : IntKind.i64.wrap ((i : Int) + 1) = ((i + 1 : Nat) : Int) := by rw [wrap64 (by omega) (by omega), Int.natCast_add]; rfl
    have f0 : ∀ (z : Int) (h : Heap), abuildSlice 1 1 [.int .i64 0] [(0, .int .i64 z)] h = some (.slice [[.int .i64 z]] (.own h.length), h ++ [.front 1 1]) := fun z h => rfl
    rw [← ih (i + 1) (by omega)]
    clear ih
    refine lp_go ?_
    have e1 : zs ((List.range (i + 1)).filter fun t : Nat => decide (Reach p.blocks (t : Int) k)) = zs ((List.range i).filter fun t : Nat => decide (Reach p.blocks (t : Int) k)) ++ (if Reach p.blocks (i : Int) k then [(i : Int)] else []) := by
      rw [List.range_succ, List.filter_append]
      unfold zs
      rw [List.map_append]
      congr 1
      by_cases h : Reach p.blocks (i : Int) k <;> simp [h]
    have e2 : zs ((List.range (i + 1)).filter fun t : Nat => decide (Behind p.blocks (t : Int) b.term)) = zs ((List.range i).filter fun t : Nat => decide (Behind p.blocks (t : Int) b.term)) ++ (if Behind p.blocks (i : Int) b.term then [(i : Int)] else []) := by
      rw [List.range_succ, List.filter_append]
      unfold zs
      rw [List.map_append]
      congr 1
      by_cases h : Behind p.blocks (i : Int) b.term <;> simp [h]
    have l1 : (zs ((List.range i).filter fun t : Nat => decide (Reach p.blocks (t : Int) k))).length ≤ i := by rw [zs_len]; exact Nat.le_trans (List.length_filter_le _ _) (by simp)
    have l2 : (zs ((List.range i).filter fun t : Nat => decide (Behind p.blocks (t : Int) b.term))).length ≤ i := by rw [zs_len]; exact Nat.le_trans (List.length_filter_le _ _) (by simp)
    rw [e1, e2]
    generalize zs ((List.range i).filter fun t : Nat => decide (Reach p.blocks (t : Int) k)) = A at *
    generalize zs ((List.range i).filter fun t : Nat => decide (Behind p.blocks (t : Int) b.term)) = B at *
    have a1 := fun C t => FR_append (h := [.cells p.cells, .front 0 0, .front 0 0, F1, F2]) (C := C) (l := A) (z := (i : Int)) (by omega) (t := t)
    have a2 := fun X C t => FR_append (h := [.cells p.cells, .front 0 0, .front 0 0, F1, F2, X]) (C := C) (l := B) (z := (i : Int)) (by omega) (t := t)
    simp only [List.length_cons, List.length_nil, Nat.zero_add, Nat.reduceAdd, List.cons_append, List.nil_append] at a1 a2
    clear e1 e2
    generalize ((i + 1 : Nat) : Int) = i1 at *
    by_cases c1 : Reach p.blocks (i : Int) k
    · rw [decide_eq_true c1] at g65
      rw [if_pos c1]
      have lA : (A ++ [(i : Int)]).length = A.length + 1 := by simp
      rw [lA]
      by_cases c2 : Behind p.blocks (i : Int) b.term
      · rw [decide_eq_true c2] at g66
        rw [if_pos c2]
        have lB : (B ++ [(i : Int)]).length = B.length + 1 := by simp
        rw [lB]
        generalize ints (A ++ [(i : Int)]) = A1 at *
        generalize ints (B ++ [(i : Int)]) = B1 at *
        unfold m28_l0
        simp -implicitDefEqProofs [-aload_ptr, -aload_ptrT, -untok_agg, un, ldT, ldP, hc, g65, g66, f0, a1, a2, w1, endR, htr, q0, q1, q2, q3, q4, q5, q6]
      · rw [decide_eq_false c2] at g66
        rw [if_neg c2, List.append_nil]
        generalize ints (A ++ [(i : Int)]) = A1 at *
        unfold m28_l0
        simp -implicitDefEqProofs [-aload_ptr, -aload_ptrT, -untok_agg, un, ldT, ldP, hc, g65, g66, f0, a1, w1, endR, htr, q0, q1, q2, q3, q4, q5, q6]
    · rw [decide_eq_false c1] at g65
      rw [if_neg c1, List.append_nil]
      by_cases c2 : Behind p.blocks (i : Int) b.term
      · rw [decide_eq_true c2] at g66
        rw [if_pos c2]
        have lB : (B ++ [(i : Int)]).length = B.length + 1 := by simp
        rw [lB]
        generalize ints (B ++ [(i : Int)]) = B1 at *
        unfold m28_l0
        simp -implicitDefEqProofs [-aload_ptr, -aload_ptrT, -untok_agg, un, ldT, ldP, hc, g65, g66, f0, a2, w1, endR, htr, q0, q1, q2, q3, q4, q5, q6]
      · rw [decide_eq_false c2] at g66
        rw [if_neg c2, List.append_nil]
        unfold m28_l0
        simp -implicitDefEqProofs [-aload_ptr, -aload_ptrT, -untok_agg, un, ldT, ldP, hc, g65, g66, w1, endR, htr, q0, q1, q2, q3, q4, q5, q6]

theorem m28_loop1 (h0 : checkS p = 0) : ∀ (d i : Nat), p.blocks.length = i + d →
    lpW (m28_l1 KK 5) ([.ptr 0 0, T1, T2, .int .i64 0, .slice (((liveI p).take i).map fun z => [.slice (ints z) .no]) (.own 3), .slice (((liveO p).take i).map fun z => [.slice (ints z) .no]) (.own 4), .int .i64 (i : Int)], [.cells p.cells, .front 0 0, .front 0 0, FR i, FR i]) =
      some (.exit 0, [.ptr 0 0, T1, T2, .int .i64 0, .slice ((liveI p).map fun z => [.slice (ints z) .no]) (.own 3), .slice ((liveO p).map fun z => [.slice (ints z) .no]) (.own 4), .int .i64 (p.blocks.length : Int)], [.cells p.cells, .front 0 0, .front 0 0, FR p.blocks.length, FR p.blocks.length]) := by
  classical
  have q0 := fun h => sP (m := 5) (h := h) (by omega)
  have q1 := fun h => sT1 (m := 5) (h := h) (by omega)
  have q2 := fun h => sT2 (m := 5) (h := h) (by omega)
  have q3 : ∀ h rows, AVal.san 5 h (.slice rows (.own 3)) = .slice rows (.own 3) := fun h rows => by simp
  have q4 : ∀ h rows, AVal.san 5 h (.slice rows (.own 4)) = .slice rows (.own 4) := fun h rows => by simp
  have hT : ∀ n k : Nat, TH ([.cells p.cells, .front 0 0, .front 0 0, FR n, FR k] : Heap) := fun n k => by
    have e : ([.cells p.cells, .front 0 0, .front 0 0, FR n, FR k] : Heap) = [.cells p.cells, .front 0 0, .front 0 0] ++ ([FR n] ++ [FR k]) := rfl
    unfold TH; rw [e]
    exact KBn_app (KBn_cells HB_CBn (KBn_front (KBn_front KBn_nil))) (KBn_app FR_ok FR_ok)
  have htr : ∀ n k C, trunc 5 (.cells p.cells :: .front 0 0 :: .front 0 0 :: FR n :: FR k :: C) = some [.cells p.cells, .front 0 0, .front 0 0, FR n, FR k] := fun n k C => trunc_app (C := C) (hT n k)
  have ldB : ∀ C, aload false 1 (.cells p.cells :: C) (.ptr 0 2) = some (.slice (p.blocks.map Blk.cells) .no) := fun C => rfl
  have hnb := hp.nb
  have hlI : (liveI p).length = p.blocks.length := by unfold liveI; rw [if_pos h0]; simp
  have hlO : (liveO p).length = p.blocks.length := by unfold liveO; rw [if_pos h0]; simp
  intro d
  induction d with
  | zero =>
    intro i hd
    obtain rfl : p.blocks.length = i := by omega
    have e1 : (liveI p).take p.blocks.length = liveI p := by rw [← hlI, List.take_length]
    have e2 : (liveO p).take p.blocks.length = liveO p := by rw [← hlO, List.take_length]
    rw [e1, e2]
    refine lp_exit ?_
    unfold m28_l1
    simp -implicitDefEqProofs [-aload_ptr, ldB, endR, htr, q0, q1, q2, q3, q4]
  | succ d ih =>
    intro i hd
    have hil : i < p.blocks.length := by omega
    have hil' : ((i : Int) < (p.blocks.length : Int)) := by omega
    have hb : p.blocks[i]? = some p.blocks[i] := List.getElem?_eq_getElem hil
    have w1 : IntKind.i64.wrap ((i : Int) + 1) = ((i + 1 : Nat) : Int) := by rw [wrap64 (by omega) (by omega), Int.natCast_add]; rfl
    have g := m28_loop0 hp hl hb (((liveI p).take i).map fun z => [.slice (ints z) .no]) (((liveO p).take i).map fun z => [.slice (ints z) .no]) (FR i) (FR i) (fun n => FR_ok) (fun n => FR_ok) p.temps.toNat 0 (by omega)
    have eI : zs ((List.range p.temps.toNat).filter fun t : Nat => decide (Reach p.blocks (t : Int) i)) = liveIn p i := rfl
    have eO : zs ((List.range p.temps.toNat).filter fun t : Nat => decide (Behind p.blocks (t : Int) (p.blocks[i]).term)) = liveOut p i := by
      unfold liveOut
      congr 1
      apply List.filter_congr
      intro t _
      rw [decide_eq_decide]
      exact ⟨fun h => ⟨_, hb, h⟩, fun ⟨b, h1, h2⟩ => by rw [hb] at h1; cases h1; exact h2⟩
    rw [eI, eO] at g
    have e0 : zs ((List.range 0).filter fun t : Nat => decide (Reach p.blocks (t : Int) i)) = [] := rfl
    have e0' : zs ((List.range 0).filter fun t : Nat => decide (Behind p.blocks (t : Int) (p.blocks[i]).term)) = [] := rfl
    have eF : FR ([] : List Int).length = .front 0 0 := rfl
    have ei : ints [] = [] := rfl
    simp only [e0, e0', eF, ei, Int.cast_ofNat_Int] at g
    have s1 : (liveI p).take (i + 1) = (liveI p).take i ++ [liveIn p i] := by
      rw [List.take_succ_eq_append_getElem (by omega)]
      congr 2
      unfold liveI; simp [h0]
    have s2 : (liveO p).take (i + 1) = (liveO p).take i ++ [liveOut p i] := by
      rw [List.take_succ_eq_append_getElem (by omega)]
      congr 2
      unfold liveO; simp [h0]
    have f0 : ∀ (z : List Int) (t : Hk.Tok) (h : Heap), abuildSlice 1 1 [.slice [] .nil] [(0, .slice (ints z) t)] h = some (.slice [[.slice (ints z) .no]] (.own h.length), h ++ [.front 1 1]) := fun z t h => rfl
    have lI : (((liveI p).take i).map fun z => [AVal.slice (ints z) .no]).length = i := by simp; omega
    have lO : (((liveO p).take i).map fun z => [AVal.slice (ints z) .no]).length = i := by simp; omega
    have a1 := fun C t => FR_app (h := [.cells p.cells, .front 0 0, .front 0 0]) (C := C) (rows := ((liveI p).take i).map fun z => [.slice (ints z) .no]) (v := .slice (ints (liveIn p i)) .no) (by_ := 24) (by omega) (by rw [lI]; omega) (t := t)
    have a2 := fun X C t => FR_app (h := [.cells p.cells, .front 0 0, .front 0 0, X]) (C := C) (rows := ((liveO p).take i).map fun z => [.slice (ints z) .no]) (v := .slice (ints (liveOut p i)) .no) (by_ := 24) (by omega) (by rw [lO]; omega) (t := t)
    rw [lI] at a1
    rw [lO] at a2
    simp only [List.length_cons, List.length_nil, Nat.zero_add, Nat.reduceAdd, List.cons_append, List.nil_append] at a1 a2
    rw [← ih (i + 1) (by omega), s1, s2, List.map_append, List.map_append]
    clear ih s1 s2
    simp only [List.map_cons, List.map_nil]
    refine lp_go ?_
    generalize (((liveI p).take i).map fun z => [AVal.slice (ints z) .no]) = A at *
    generalize (((liveO p).take i).map fun z => [AVal.slice (ints z) .no]) = B at *
    generalize ((i + 1 : Nat) : Int) = i1 at *
    generalize liveIn p i = li at *
    generalize liveOut p i = lo at *
    unfold m28_l1
    simp -implicitDefEqProofs [-aload_ptr, ldB, hil', g, f0, a1, a2, w1, endR, htr, q0, q1, q2, q3, q4]
end
theorem c28 (p : IR) (h : Heap) : KK 28 [.agg p.cells] h = some (.ret (.tuple [listsA (liveI p), listsA (liveO p), .int .i64 (checkS p)]), h) := by
  refine callP_pure rfl rfl (evW_by (m28_eq _ _ _) ?_)
  have g64 := c64 p
  by_cases h0 : checkS p = 0
  · obtain ⟨hp, hl⟩ := opsOk_of h0
    have g := m28_loop1 hp hl h0 p.blocks.length 0 (by omega)
    rw [h0] at g64 ⊢
    have eF : FR 0 = .front 0 0 := rfl
    simp only [eF, List.take_zero, List.map_nil, Int.cast_ofNat_Int] at g
    have st : ∀ (r1 r2 : List (List AVal)) (h : Heap), AVal.untok (AVal.san 0 h (.tuple [.slice r1 (.own 3), .slice r2 (.own 4), .int .i64 0])) = .tuple [.slice r1 .no, .slice r2 .no, .int .i64 0] := fun _ _ _ => rfl
    unfold listsA
    generalize (liveI p).map (fun z => [AVal.slice (ints z) .no]) = R1 at *
    generalize (liveO p).map (fun z => [AVal.slice (ints z) .no]) = R2 at *
    simp only [T1, T2, IR.cells] at g g64 ⊢
    simp -implicitDefEqProofs [m28, g64, g, finR, st]
  · have e1 : liveI p = [] := if_neg h0
    have e2 : liveO p = [] := if_neg h0
    rw [e1, e2]
    generalize checkS p = e at *
    have st : ∀ (h : Heap), AVal.untok (AVal.san 0 h (.tuple [.slice [] (.own 3), .slice [] (.own 4), .int .i64 e])) = .tuple [.slice [] .no, .slice [] .no, .int .i64 e] := fun _ => rfl
    simp only [IR.cells] at g64 ⊢
    simp -implicitDefEqProofs [m28, g64, h0, finR, st, listsA]
end Go.Proofs.YtkeoalhglkfbkaaDoor

/-
  A map of temps. No conditions.
-/
namespace Go.Proofs.YtkeoalhglkfbkaaDoor
open Go Hk Go.Proofs.Wd

/-- A map of temps. -/
def em (L : List Int) : List (AVal × AVal) := L.map fun t => (.int .i64 t, .int .i64 1)
def putL (L : List Int) (t : Int) : List Int := if t ∈ L then L else L ++ [t]
theorem afind_em (t : Int) : ∀ L, afind (.int .i64 t) (em L) = some (if t ∈ L then some (.int .i64 1) else none)
  | [] => rfl
  | x :: r => by
    have e : em (x :: r) = (.int .i64 x, .int .i64 1) :: em r := rfl
    rw [e]
    by_cases h : t = x
    · subst h; simp [afind, aeq1]
    · simp only [afind, aeq1, if_true]
      rw [beq_false_of_ne h]
      simp only [afind_em t r, List.mem_cons, h, false_or]
theorem aput_em (t : Int) : ∀ L, aputMap (.int .i64 t) (.int .i64 1) (em L) = em (putL L t)
  | [] => rfl
  | x :: r => by
    have e : em (x :: r) = (.int .i64 x, .int .i64 1) :: em r := rfl
    rw [e]
    by_cases h : t = x
    · subst h; simp [aputMap, aeq1, putL, em]
    · simp only [aputMap, aeq1, if_true]
      rw [beq_false_of_ne h]
      simp only [aput_em t r, putL, List.mem_cons, h, false_or]
      split <;> simp [em]
theorem adel_em (t : Int) : ∀ L, adelMap (.int .i64 t) (em L) = em (L.erase t)
  | [] => rfl
  | x :: r => by
    have e : em (x :: r) = (.int .i64 x, .int .i64 1) :: em r := rfl
    rw [e]
    by_cases h : t = x
    · subst h; simp [adelMap, aeq1]
    · simp only [adelMap, aeq1, if_true]
      rw [beq_false_of_ne h]
      simp only [adel_em t r]
      rw [List.erase_cons_tail (by simpa using fun h' => h h'.symm)]
      rfl
theorem keys_em : ∀ L, (∀ t ∈ L, 0 ≤ t ∧ t ≤ 2000000) → aintKeys (em L) = some L
  | [], _ => rfl
  | x :: r, h => by
    have e : em (x :: r) = (.int .i64 x, .int .i64 1) :: em r := rfl
    have hx := h x (by simp)
    rw [e]
    have w : (Lit.int .i64 x).wf = true := by
      have e1 : IntKind.min .i64 = -9223372036854775808 := rfl
      have e2 : IntKind.max .i64 = 9223372036854775807 := rfl
      simp only [Lit.wf, e1, e2, Bool.and_eq_true, decide_eq_true_eq]
      omega
    have w1 : (Lit.int .i64 1).wf = true := rfl
    simp only [aintKeys, w, w1, and_self, if_true, keys_em r fun t ht => h t (by simp [ht])]
    rfl

theorem putL_mem {L : List Int} {t x : Int} : x ∈ putL L t ↔ x ∈ L ∨ x = t := by
  unfold putL
  split
  · rename_i h
    exact ⟨.inl, fun h' => h'.elim id fun e => e ▸ h⟩
  · simp
theorem putL_nodup {L : List Int} {t : Int} (h : L.Nodup) : (putL L t).Nodup := by
  unfold putL
  split
  · exact h
  · rename_i hn
    rw [List.nodup_append]
    exact ⟨h, by simp, fun a ha b hb => by simp at hb; subst hb; exact fun e => hn (e ▸ ha)⟩
def sortI (L : List Int) : List Int := L.mergeSort fun x y => decide (x ≤ y)
theorem sortI_mem {L : List Int} {x : Int} : x ∈ sortI L ↔ x ∈ L := (List.mergeSort_perm L _).mem_iff
theorem sortI_rising {L : List Int} (h : L.Nodup) : (sortI L).Pairwise (· < ·) := by
  have h1 : (sortI L).Pairwise fun x y => decide (x ≤ y) = true := List.pairwise_mergeSort (fun a b c h1 h2 => by simp at *; omega) (fun a b => by simp; omega) L
  have h2 : (sortI L).Nodup := (List.mergeSort_perm L _).nodup_iff.2 h
  have h3 := h1.and h2
  exact h3.imp fun ⟨a, b⟩ => by simp at a; omega
theorem KBn_map {n : Nat} {L : List Int} {C : List ABlk} (h : KBn n C) : KBn n (.map (em L) :: C) := fun m x hm => by
  have : ∀ L : List Int, sanBlk m x (.map (em L)) = some (.map (em L)) := by
    intro L
    have : (em L).all (fun e => e.2.shut1 m) = true := by
      rw [List.all_eq_true]
      intro e he
      obtain ⟨t, _, rfl⟩ := List.mem_map.1 he
      rfl
    simp only [sanBlk, this, cond_true]
  simp [h m x hm, this]
end Go.Proofs.YtkeoalhglkfbkaaDoor

/-
  'Points': the temps wanted within a block. No conditions.
-/
namespace Go.Proofs.YtkeoalhglkfbkaaDoor
open Go Hk Go.Proofs.Wd

def HP (b : Blk) (L : List Int) (E : Heap) : Heap := .cells b.cells :: .front 0 0 :: .map (em L) :: E
section
variable {b : Blk} {L : List Int} {E : Heap}
theorem b_CBn {n : Nat} : CBn n b.cells := by simp [Blk.cells]
theorem HP_KBn {n : Nat} (h : KBn n E) : KBn n (HP b L E) := KBn_cells b_CBn (KBn_front (KBn_map h))
theorem HP_set (t : Int) : amapSet (HP b L E) (.map 2) (.int .i64 t) (.int .i64 1) = some (HP b (putL L t) E) := by
  simp [amapSet, HP, afind_em, aput_em]
theorem HP_del (t : Int) : amapDel (HP b L E) (.map 2) (.int .i64 t) = some (HP b (L.erase t) E) := by
  simp [amapDel, HP, afind_em, adel_em, akeyOk]
theorem c72 {id : Nat} {h : Heap} (hm : h[id]? = some (.map (em L))) (hL : ∀ t ∈ L, 0 ≤ t ∧ t ≤ 2000000) (hl : L.length ≤ 1048576) : KK 72 [.map id] h = some (.ret (.slice (ints (sortI L)) .no), h) := by
  refine evW_by rfl ?_
  have : asortedKeys h (.map id) = some (.slice (ints (sortI L)) .no) := by
    simp only [asortedKeys, hm, keys_em _ hL]
    rw [if_pos hl]
    rfl
  show (asortedKeys h (.map id)).map _ = _
  rw [this]; rfl
end

/-- What is put in by a list of temps. -/
def putsL (L l : List Int) : List Int := l.foldl putL L
theorem putsL_mem {x : Int} : ∀ {l L : List Int}, x ∈ putsL L l ↔ x ∈ L ∨ x ∈ l
  | [], L => by simp [putsL]
  | a :: r, L => by
    have := putsL_mem (x := x) (l := r) (L := putL L a)
    simp only [putsL, List.foldl_cons] at this ⊢
    rw [this, putL_mem, List.mem_cons, or_assoc]
theorem putsL_nodup : ∀ {l L : List Int}, L.Nodup → (putsL L l).Nodup
  | [], L, h => h
  | a :: r, L, h => putsL_nodup (l := r) (putL_nodup h)

theorem m31_loop0 {b : Blk} {out : List Int} (ho : ∀ t ∈ out, 0 ≤ t ∧ t ≤ 2000000) (hlen : out.length ≤ 2000000) : ∀ (d i : Nat) (L : List Int), out.length = i + d →
    lpW (m31_l0 KK 3) ([.ptr 0 0, .slice [] (.own 1), .map 2, .slice (ints out) .no, .int .i64 (out.length : Int), .int .i64 (i : Int)], HP b L []) =
    some (.exit 0, [.ptr 0 0, .slice [] (.own 1), .map 2, .slice (ints out) .no, .int .i64 (out.length : Int), .int .i64 (out.length : Int)], HP b (putsL L (out.drop i)) []) := by
  intro d
  have htr : ∀ L, trunc 3 (HP b L []) = some (HP b L []) := fun L => trunc_app0 (HP_KBn KBn_nil)
  have s3 : ∀ h', AVal.san 3 h' (.map 2) = .map 2 := fun h' => rfl
  induction d with
  | zero =>
    intro i L hi
    obtain rfl : i = out.length := by omega
    rw [List.drop_length]
    refine lp_exit ?_
    unfold m31_l0
    simp [endR, htr, s3, putsL, san1_ptr]
  | succ d ih =>
    intro i L hi
    have hi' : i < out.length := by omega
    have hz := List.getElem?_eq_getElem hi'
    obtain ⟨z, hzi⟩ : ∃ z, out[i] = z := ⟨_, rfl⟩
    rw [hzi] at hz
    have ⟨z0, z1⟩ := ho z (List.mem_of_getElem? hz)
    have w1 : IntKind.i64.wrap ((i : Int) + 1) = ((i + 1 : Nat) : Int) := by rw [wrap64 (by omega) (by omega), Int.natCast_add]; rfl
    have e1 : out.drop i = z :: out.drop (i + 1) := by rw [List.drop_eq_getElem_cons hi']; congr 1
    have ed : putsL L (out.drop i) = putsL (putL L z) (out.drop (i + 1)) := by rw [e1]; rfl
    rw [ed, ← ih (i + 1) (putL L z) (by omega)]
    refine lp_go ?_
    have hl : (i : Int) < (out.length : Int) := by omega
    have ix : aindexSl 1 (.slice (ints out) .no) (.int .i64 (i : Int)) = some (.pptr [.int .i64 z]) := by
      simp [ints, hi', hzi]
    have st := HP_set (b := b) (L := L) (E := []) z
    have htr' := htr (putL L z)
    generalize HP b L [] = H0 at *
    generalize HP b (putL L z) [] = H1 at *
    generalize ((i + 1 : Nat) : Int) = i1 at *
    unfold m31_l0
    simp [endR, htr', s3, san1_ptr, hl, ix, z0, st, w1, akeyFor]

def VP (n : Nat) (cs : List AVal) : ABlk := .vec n 1 cs
theorem m31_loop1 {b : Blk} {o : Op} {n : Nat} {cs : List AVal} (hcs : CBn 5 cs) {us : List Int} (ho : ∀ t ∈ us, 0 ≤ t ∧ t ≤ 2000000) (hlen : us.length ≤ 2000000) {j : Int} : ∀ (d i : Nat) (L : List Int), us.length = i + d →
    lpW (m31_l1 KK 5) ([.ptr 0 0, .slice [] (.own 1), .map 2, .vslice 3 n 0 n 1, .int .i64 j, .slice (ints us) .no, .int .i64 (us.length : Int), .int .i64 (i : Int)], HP b L [VP n cs, .cells o.cells]) =
    some (.exit 4, [.ptr 0 0, .slice [] (.own 1), .map 2, .vslice 3 n 0 n 1, .int .i64 j, .slice (ints us) .no, .int .i64 (us.length : Int), .int .i64 (us.length : Int)], HP b (putsL L (us.drop i)) [VP n cs, .cells o.cells]) := by
  intro d
  have hE : KBn 5 [VP n cs, .cells o.cells] := KBn_vec hcs (KBn_cells (by simp [Op.cells]) KBn_nil)
  have htr : ∀ L, trunc 5 (HP b L [VP n cs, .cells o.cells]) = some (HP b L [VP n cs, .cells o.cells]) := fun L => trunc_app0 (h := HP b L [VP n cs, .cells o.cells]) (HP_KBn hE)
  have s3 : ∀ h', AVal.san 5 h' (.map 2) = .map 2 := fun h' => rfl
  have s4 : ∀ h', AVal.san 5 h' (.vslice 3 n 0 n 1) = .vslice 3 n 0 n 1 := fun h' => rfl
  induction d with
  | zero =>
    intro i L hi
    obtain rfl : i = us.length := by omega
    rw [List.drop_length]
    refine lp_exit ?_
    unfold m31_l1
    simp [endR, htr, s3, s4, putsL, san1_ptr]
  | succ d ih =>
    intro i L hi
    have hi' : i < us.length := by omega
    have hz := List.getElem?_eq_getElem hi'
    obtain ⟨z, hzi⟩ : ∃ z, us[i] = z := ⟨_, rfl⟩
    rw [hzi] at hz
    have ⟨z0, z1⟩ := ho z (List.mem_of_getElem? hz)
    have w1 : IntKind.i64.wrap ((i : Int) + 1) = ((i + 1 : Nat) : Int) := by rw [wrap64 (by omega) (by omega), Int.natCast_add]; rfl
    have e1 : us.drop i = z :: us.drop (i + 1) := by rw [List.drop_eq_getElem_cons hi']; congr 1
    have ed : putsL L (us.drop i) = putsL (putL L z) (us.drop (i + 1)) := by rw [e1]; rfl
    rw [ed, ← ih (i + 1) (putL L z) (by omega)]
    refine lp_go ?_
    have hl : (i : Int) < (us.length : Int) := by omega
    have ix : aindexSl 1 (.slice (ints us) .no) (.int .i64 (i : Int)) = some (.pptr [.int .i64 z]) := by
      simp [ints, hi', hzi]
    have st := HP_set (b := b) (L := L) (E := [VP n cs, .cells o.cells]) z
    have htr' := htr (putL L z)
    generalize HP b L [VP n cs, .cells o.cells] = H0 at *
    generalize HP b (putL L z) [VP n cs, .cells o.cells] = H1 at *
    generalize ((i + 1 : Nat) : Int) = i1 at *
    unfold m31_l1
    simp [endR, htr', s3, s4, san1_ptr, hl, ix, z0, st, w1, akeyFor]

/-- What is wanted ahead of an operation, as a list. -/
def stepL (L : List Int) (o : Op) : List Int := putsL (if (formS o.kind).dst = true then L.erase o.dst else L) (usesS o)
def wantL : List Op → List Int → List Int
  | [], L => L
  | o :: r, L => stepL (wantL r L) o

def SC (c : AVal) : Prop := ∃ rows, c = .slice rows .no ∨ c = .slice rows .nil
theorem SC_CBn {n : Nat} {cs : List AVal} (h : ∀ c ∈ cs, SC c) : CBn n cs := CBn_of fun c hc => by
  obtain ⟨r, rfl | rfl⟩ := h c hc <;> exact ⟨fun m h _ => rfl, rfl⟩
theorem m31_round {b : Blk} {o : Op} {n j : Nat} {cs : List AVal} {L : List Int} (hcs : ∀ c ∈ cs, SC c) (hj : b.ops[j]? = some o) (hu : ∀ t ∈ usesS o, 0 ≤ t ∧ t ≤ 2000000) (hul : (usesS o).length ≤ 2000000)
    (hL : ∀ t ∈ stepL L o, 0 ≤ t ∧ t ≤ 2000000) (hLl : (stepL L o).length ≤ 1048576) (hn : j < n) (hcl : cs.length = n) (hnm : n ≤ 2000001) :
    m31_l2 KK 4 ([.ptr 0 0, .slice [] (.own 1), .map 2, .vslice 3 n 0 n 1, .int .i64 (j : Int)], HP b L [VP n cs]) =
    some (.normal, [.ptr 0 0, .slice [] (.own 1), .map 2, .vslice 3 n 0 n 1, .int .i64 ((j : Int) - 1)], HP b (stepL L o) [VP n (cs.set j (.slice (ints (sortI (stepL L o))) .no))]) := by
  have w1 : IntKind.i64.wrap ((j : Int) - 1) = (j : Int) - 1 := by rw [wrap64 (by omega) (by omega)]
  have l1 : aload false 1 (HP b L [VP n cs]) (.ptr 0 0) = some (.slice (b.ops.map Op.cells) .no) := by simp [HP, Blk.cells]
  have l2 : aindexSl 6 (.slice (b.ops.map Op.cells) .no) (.int .i64 (j : Int)) = some (.pptr o.cells) := by simp [hj, Op.cells]
  have l3 : aload true 6 (HP b L [VP n cs]) (.pptr o.cells) = some (.agg o.cells) := by simp [Op.cells]
  have l4 : HP b L [VP n cs] ++ [.cells [.int .i64 0, .int .i64 0, .int .i64 0, .int .i64 0, .int .i64 0, .int .i64 0]] = HP b L [VP n cs, .cells [.int .i64 0, .int .i64 0, .int .i64 0, .int .i64 0, .int .i64 0, .int .i64 0]] := rfl
  have l4' : (HP b L [VP n cs]).length = 4 := rfl
  have l5 : astore 6 (HP b L [VP n cs, .cells [.int .i64 0, .int .i64 0, .int .i64 0, .int .i64 0, .int .i64 0, .int .i64 0]]) (.ptr 4 0) (.agg o.cells) = some (HP b L [VP n cs, .cells o.cells]) := by simp [HP, Op.cells]
  have l6 : ∀ L, aload true 6 (HP b L [VP n cs, .cells o.cells]) (.ptr 4 0) = some (.agg o.cells) := by intro L; simp [HP, Op.cells]
  have l7 : aload false 1 (HP b L [VP n cs, .cells o.cells]) (.ptr 4 1) = some (.int .i64 o.dst) := by simp [HP, Op.cells]
  have l8 : (AVal.agg o.cells).untok = .agg o.cells := rfl
  have l9 : ∀ L, (HP b L [VP n cs, .cells o.cells]).length = 5 := fun L => rfl
  have del := HP_del (b := b) (L := L) (E := [VP n cs, .cells o.cells]) o.dst
  have g73 := c73 o
  have g74 : ∀ h, KK 74 [.agg o.cells] h = some (.ret (.slice (ints (usesS o)) .no), h) := c74 o
  have lenu : alenSl (.slice (ints (usesS o)) .no) = some (.int .i64 ((usesS o).length : Int)) := by simp [ints]
  have lp : ∀ L, lpW (m31_l1 KK 5) ([.ptr 0 0, .slice [] (.own 1), .map 2, .vslice 3 n 0 n 1, .int .i64 (j : Int), .slice (ints (usesS o)) .no, .int .i64 ((usesS o).length : Int), .int .i64 0], HP b L [VP n cs, .cells o.cells]) = _ :=
    fun L => m31_loop1 (b := b) (o := o) (n := n) (SC_CBn hcs) hu hul (j := (j : Int)) (usesS o).length 0 L (by omega)
  simp only [List.drop_zero] at lp
  have k72 := c72 (id := 2) (L := stepL L o) (h := HP b (stepL L o) [VP n cs, .cells o.cells]) rfl hL hLl
  have s3 : ∀ h', AVal.san 4 h' (.map 2) = .map 2 := fun h' => rfl
  have s4 : ∀ h', AVal.san 4 h' (.vslice 3 n 0 n 1) = .vslice 3 n 0 n 1 := fun h' => rfl
  have ix : aindexSl 1 (.vslice 3 n 0 n 1) (.int .i64 (j : Int)) = some (.vptr 3 n j) := by simp [hn]
  have st : astore 1 (HP b (stepL L o) [VP n cs, .cells o.cells]) (.vptr 3 n j) (.slice (ints (sortI (stepL L o))) .no) = some (HP b (stepL L o) [VP n (cs.set j (.slice (ints (sortI (stepL L o))) .no)), .cells o.cells]) := by
    rw [astore_vptr]
    have : getVec (HP b (stepL L o) [VP n cs, .cells o.cells]) 3 n = some (1, cs) := by simp [HP, VP]
    rw [this]
    have e1 : putCells cs j [.slice (ints (sortI (stepL L o))) .no] = cs.set j (.slice (ints (sortI (stepL L o))) .no) := by
      unfold putCells
      rw [List.set_eq_take_append_cons_drop, if_pos (by omega)]
      simp
    simp only [Option.bind_some]
    rw [if_pos ⟨rfl, by first | omega | (simp; omega), rfl⟩]
    have e2 := e1
    unfold putCells at e2
    simp only [cells_slice, e1]
    simp [HP, VP]
  have u1 : AVal.untok (.map 2) = .map 2 := rfl
  have htr : trunc 4 (HP b (stepL L o) [VP n (cs.set j (.slice (ints (sortI (stepL L o))) .no)), .cells o.cells]) = some (HP b (stepL L o) [VP n (cs.set j (.slice (ints (sortI (stepL L o))) .no))]) := by
    refine trunc_app (h := HP b (stepL L o) [VP n (cs.set j (.slice (ints (sortI (stepL L o))) .no))]) (C := [.cells o.cells]) (HP_KBn (KBn_vec ?_ KBn_nil))
    refine SC_CBn fun c hc => ?_
    rcases List.mem_or_eq_of_mem_set hc with h1 | h1
    · exact hcs c h1
    · exact ⟨_, .inl h1⟩
  have ag : ∀ k o', afieldAt k (.ptr 4 o') = some (.ptr 4 (o' + k)) := fun k o' => rfl
  have ag0 : afieldAt 0 (.ptr 0 0) = some (.ptr 0 0) := rfl
  have hge : (0 : Int) ≤ (j : Int) := by omega
  unfold stepL at *
  generalize HP b L [VP n cs] = H0 at *
  generalize HP b L [VP n cs, .cells [.int .i64 0, .int .i64 0, .int .i64 0, .int .i64 0, .int .i64 0, .int .i64 0]] = H1 at *
  cases hd : (formS o.kind).dst with
  | true =>
    rw [hd] at g73 k72 st htr
    simp only [if_true] at k72 st htr ⊢
    unfold m31_l2
    have lp' := lp (L.erase o.dst)
    have l9' := l9 (L.erase o.dst)
    have l6' := l6 (L.erase o.dst)
    simp -implicitDefEqProofs [-aload_ptr, -astore_ptr, -aload_vptr, -astore_vptr, ag0, ag, l1, l2, l3, l4, l4', l5, l6, l7, l8, l9, g73, g74, lenu, lp', k72, s3, s4, ix, st, u1, htr, hge, del, san1_ptr, endR, akeyFor, w1]
  | false =>
    rw [hd] at g73 k72 st htr
    simp only [Bool.false_eq_true, if_false] at k72 st htr ⊢
    unfold m31_l2
    simp -implicitDefEqProofs [-aload_ptr, -astore_ptr, -aload_vptr, -astore_vptr, ag0, ag, l1, l2, l3, l4, l4', l5, l6, l7, l8, l9, g73, g74, lenu, lp, k72, s3, s4, ix, st, u1, htr, hge, san1_ptr, endR, w1]
end Go.Proofs.YtkeoalhglkfbkaaDoor

/-
  'Points': the whole. No conditions.
-/
namespace Go.Proofs.YtkeoalhglkfbkaaDoor
open Go Hk Go.Proofs.Wd

/-- The rows from i on are told. -/
def rowsP (ops : List Op) (L : List Int) (i : Nat) : List AVal := (List.range (ops.length + 1)).map fun k => if i ≤ k then .slice (ints (sortI (wantL (ops.drop k) L))) .no else .slice [] .nil
theorem rowsP_len {ops : List Op} {L : List Int} {i : Nat} : (rowsP ops L i).length = ops.length + 1 := by simp [rowsP]
theorem rowsP_SC {ops : List Op} {L : List Int} {i : Nat} : ∀ c ∈ rowsP ops L i, SC c := by
  intro c hc
  obtain ⟨k, _, rfl⟩ := List.mem_map.1 hc
  by_cases h : i ≤ k
  · exact ⟨_, .inl (if_pos h)⟩
  · exact ⟨_, .inr (if_neg h)⟩
theorem rowsP_set {ops : List Op} {L : List Int} {i : Nat} : (rowsP ops L (i + 1)).set i (.slice (ints (sortI (wantL (ops.drop i) L))) .no) = rowsP ops L i := by
  apply List.ext_getElem?
  intro k
  rw [List.getElem?_set]
  simp only [rowsP, List.getElem?_map, List.length_map, List.length_range]
  by_cases h : k < ops.length + 1
  · rw [List.getElem?_range h]
    by_cases hk : i = k
    · subst hk; rw [if_pos rfl, if_pos h]; simp
    · rw [if_neg hk]
      simp only [Option.map_some]
      by_cases h2 : i + 1 ≤ k
      · rw [if_pos h2, if_pos (by omega)]
      · rw [if_neg h2, if_neg (by omega)]
  · have : (List.range (ops.length + 1))[k]? = none := by simp; omega
    rw [this]
    simp only [Option.map_none]
    split
    · rw [if_neg (by omega)]
    · rfl
theorem rowsP_top {ops : List Op} {L : List Int} : (List.replicate (ops.length + 1) (AVal.slice [] .nil)).set ops.length (.slice (ints (sortI L)) .no) = rowsP ops L ops.length := by
  rw [← rowsP_set]
  have e : wantL (ops.drop ops.length) L = L := by rw [List.drop_length]; rfl
  rw [e]
  congr 1
  apply List.ext_getElem?
  intro k
  simp only [rowsP, List.getElem?_map, List.getElem?_replicate]
  by_cases h : k < ops.length + 1
  · rw [List.getElem?_range h, if_pos h]
    simp only [Option.map_some]
    rw [if_neg (by omega)]
  · have : (List.range (ops.length + 1))[k]? = none := by simp; omega
    rw [this, if_neg h]; rfl

theorem wantL_drop {ops : List Op} {L : List Int} {i : Nat} {o : Op} (h : ops[i]? = some o) : wantL (ops.drop i) L = stepL (wantL (ops.drop (i + 1)) L) o := by
  have hi := (List.getElem?_eq_some_iff.1 h).1
  rw [List.drop_eq_getElem_cons hi, (List.getElem?_eq_some_iff.1 h).2]
  rfl

theorem m31_loop2 {b : Blk} {L : List Int} (hu : ∀ o ∈ b.ops, (∀ t ∈ usesS o, 0 ≤ t ∧ t ≤ 2000000) ∧ (usesS o).length ≤ 2000000)
    (hL : ∀ i, ∀ t ∈ wantL (b.ops.drop i) L, 0 ≤ t ∧ t ≤ 2000000) (hLl : ∀ i, (wantL (b.ops.drop i) L).length ≤ 1048576) (hnm : b.ops.length ≤ 2000000) : ∀ (i : Nat), i ≤ b.ops.length →
    lpW (m31_l2 KK 4) ([.ptr 0 0, .slice [] (.own 1), .map 2, .vslice 3 (b.ops.length + 1) 0 (b.ops.length + 1) 1, .int .i64 ((i : Int) - 1)], HP b (wantL (b.ops.drop i) L) [VP (b.ops.length + 1) (rowsP b.ops L i)]) =
    some (.exit 2, [.ptr 0 0, .slice [] (.own 1), .map 2, .vslice 3 (b.ops.length + 1) 0 (b.ops.length + 1) 1, .int .i64 (-1)], HP b (wantL b.ops L) [VP (b.ops.length + 1) (rowsP b.ops L 0)]) := by
  intro i
  induction i with
  | zero =>
    intro _
    refine lp_exit ?_
    have e : b.ops.drop 0 = b.ops := List.drop_zero
    rw [e]
    have hr : ∀ c ∈ rowsP b.ops L 0, SC c := rowsP_SC
    generalize rowsP b.ops L 0 = cs at *
    generalize b.ops.length + 1 = n at *
    have htr : trunc 4 (HP b (wantL b.ops L) [VP n cs]) = some (HP b (wantL b.ops L) [VP n cs]) :=
      trunc_app0 (h := HP b (wantL b.ops L) [VP n cs]) (HP_KBn (KBn_vec (SC_CBn hr) KBn_nil))
    have s3 : ∀ h', AVal.san 4 h' (.map 2) = .map 2 := fun h' => rfl
    have s4 : ∀ h', AVal.san 4 h' (.vslice 3 n 0 n 1) = .vslice 3 n 0 n 1 := fun h' => rfl
    have e0 : ((0 : Nat) : Int) - 1 = -1 := rfl
    rw [e0]
    unfold m31_l2
    simp [endR, htr, s3, s4, san1_ptr]
  | succ i ih =>
    intro hi
    have ho := List.getElem?_eq_getElem (l := b.ops) (i := i) (by omega)
    generalize b.ops[i] = o at ho
    obtain ⟨u1, u2⟩ := hu o (List.mem_of_getElem? ho)
    have hw := wantL_drop (L := L) ho
    have k1 := hL i
    have k2 := hLl i
    rw [hw] at k1 k2
    have g := m31_round (b := b) (o := o) (n := b.ops.length + 1) (j := i) (cs := rowsP b.ops L (i + 1)) (L := wantL (b.ops.drop (i + 1)) L) rowsP_SC ho u1 u2 k1 k2 (by omega) rowsP_len (by omega)
    rw [← hw, rowsP_set] at g
    have e0 : ((i + 1 : Nat) : Int) - 1 = (i : Int) := by omega
    rw [e0, ← ih (by omega)]
    exact lp_go g

theorem pureRow_SC {cs : List AVal} (h : ∀ c ∈ cs, ∃ rows, c = .slice rows .no) : pureRow cs = some cs := by
  induction cs with
  | nil => rfl
  | cons c r ih =>
    obtain ⟨rows, rfl⟩ := h c (by simp)
    simp only [pureRow, ih fun c hc => h c (by simp [hc]), AVal.pure1]

theorem pointsLists {ops : List Op} {L : List Int} : .slice ((rowsP ops L 0).map fun c => [c]) .no = listsA ((List.range (ops.length + 1)).map fun k => sortI (wantL (ops.drop k) L)) := by
  unfold listsA rowsP
  simp only [List.map_map, Nat.zero_le, if_true]
  rfl
/-- What is wanted behind a block's operations, as a list. -/
def endL (b : Blk) (out : List Int) : List Int := if b.term.kind = 2 then putL (putsL [] out) b.term.a else putsL [] out
def pointsS (b : Blk) (out : List Int) : List (List Int) := (List.range (b.ops.length + 1)).map fun k => sortI (wantL (b.ops.drop k) (endL b out))

theorem c31 {b : Blk} {out : List Int} (ho : ∀ t ∈ out, 0 ≤ t ∧ t ≤ 2000000) (hlen : out.length ≤ 2000000) (hu : ∀ o ∈ b.ops, (∀ t ∈ usesS o, 0 ≤ t ∧ t ≤ 2000000) ∧ (usesS o).length ≤ 2000000)
    (ha : b.term.kind = 2 → 0 ≤ b.term.a ∧ b.term.a ≤ 2000000)
    (hL : ∀ i, ∀ t ∈ wantL (b.ops.drop i) (endL b out), 0 ≤ t ∧ t ≤ 2000000) (hLl : ∀ i, (wantL (b.ops.drop i) (endL b out)).length ≤ 1048576) (hnm : b.ops.length ≤ 2000000) (h : Heap) :
    KK 31 [.agg b.cells, .slice (ints out) .no] h = some (.ret (listsA (pointsS b out)), h) := by
  refine callP_pure rfl rfl (evW_by (m31_eq _ _ _ _) ?_)
  have g0 := m31_loop0 (b := b) ho hlen out.length 0 [] (by omega)
  rw [List.drop_zero] at g0
  have e0 : HP b [] [] = [.cells b.cells, .front 0 0, .map []] := rfl
  have e00 : ((0 : Nat) : Int) = 0 := rfl
  rw [e0, e00] at g0
  have an : anew 5 [] (.agg b.cells) = some (.ptr 0 0, [.cells b.cells]) := by simp [Blk.cells]
  have lenO : alenSl (.slice (ints out) .no) = some (.int .i64 (out.length : Int)) := by simp [ints]
  have lk : ∀ L E, aload false 1 (HP b L E) (.ptr 0 1) = some (.int .i64 b.term.kind) := by intro L E; simp [HP, Blk.cells]
  have la : ∀ L E, aload false 1 (HP b L E) (.ptr 0 2) = some (.int .i64 b.term.a) := by intro L E; simp [HP, Blk.cells]
  have lo : ∀ L E, aload false 1 (HP b L E) (.ptr 0 0) = some (.slice (b.ops.map Op.cells) .no) := by intro L E; simp [HP, Blk.cells]
  have lenP : alenSl (.slice (b.ops.map Op.cells) .no) = some (.int .i64 (b.ops.length : Int)) := by simp
  have w1 : IntKind.i64.wrap ((b.ops.length : Int) + 1) = ((b.ops.length + 1 : Nat) : Int) := by rw [wrap64 (by omega) (by omega), Int.natCast_add]; rfl
  have w2 : IntKind.i64.wrap ((b.ops.length : Int) - 1) = (b.ops.length : Int) - 1 := by rw [wrap64 (by omega) (by omega)]
  have mk : ∀ L, amakeSliceV 1 24 [(.slice [] .nil)] (.int .i64 ((b.ops.length + 1 : Nat) : Int)) (HP b L []) = some (.vslice 3 (b.ops.length + 1) 0 (b.ops.length + 1) 1, HP b L [VP (b.ops.length + 1) (List.replicate (b.ops.length + 1) (.slice [] .nil))]) := by
    intro L
    unfold amakeSliceV
    simp only [Int.toNat_natCast]
    rw [if_pos ⟨by omega, by omega, by omega⟩]
    have : (List.replicate (b.ops.length + 1) [AVal.slice [] Hk.Tok.nil]).flatten = List.replicate (b.ops.length + 1) (.slice [] .nil) := by
      generalize b.ops.length + 1 = n
      induction n with
      | zero => rfl
      | succ n ih => rw [List.replicate_succ, List.flatten_cons, ih]; rfl
    rw [this]; rfl
  have hd : ∀ L E, hide1 (HP b L E) 0 = .gone :: .front 0 0 :: .map (em L) :: E := fun L E => rfl
  have uhd : ∀ L E, unhide1 (HP b L E) (.gone :: .front 0 0 :: .map (em L) :: E) 0 = HP b L E := fun L E => rfl
  have lki : lockIds [0] [AVal.ptr 0 0] = [0] := rfl
  have u1 : AVal.untok (.map 2) = .map 2 := rfl
  have e9 : wantL (b.ops.drop b.ops.length) (endL b out) = endL b out := by rw [List.drop_length]; rfl
  have k72 : ∀ E, KK 72 [.map 2] (.gone :: .front 0 0 :: .map (em (endL b out)) :: E) = some (.ret (.slice (ints (sortI (endL b out))) .no), .gone :: .front 0 0 :: .map (em (endL b out)) :: E) := by
    intro E
    have h1 := hL b.ops.length
    have h2 := hLl b.ops.length
    rw [e9] at h1 h2
    exact c72 (id := 2) rfl h1 h2
  have ix : aindexSl 1 (.vslice 3 (b.ops.length + 1) 0 (b.ops.length + 1) 1) (.int .i64 (b.ops.length : Int)) = some (.vptr 3 (b.ops.length + 1) b.ops.length) := by simp
  have st : ∀ L, astore 1 (HP b L [VP (b.ops.length + 1) (List.replicate (b.ops.length + 1) (.slice [] .nil))]) (.vptr 3 (b.ops.length + 1) b.ops.length) (.slice (ints (sortI (endL b out))) .no) =
      some (HP b L [VP (b.ops.length + 1) (rowsP b.ops (endL b out) b.ops.length)]) := by
    intro L
    rw [← rowsP_top, astore_vptr]
    generalize hn : b.ops.length = n
    generalize hc : List.replicate (n + 1) (AVal.slice [] Hk.Tok.nil) = cs
    have hcl : cs.length = n + 1 := by rw [← hc]; simp
    have : getVec (HP b L [VP (n + 1) cs]) 3 (n + 1) = some (1, cs) := by simp [HP, VP]
    rw [this]
    have e1 : putCells cs n [.slice (ints (sortI (endL b out))) .no] = cs.set n (.slice (ints (sortI (endL b out))) .no) := by
      unfold putCells
      rw [List.set_eq_take_append_cons_drop, if_pos (by omega)]
      simp
    simp only [Option.bind_some]
    rw [if_pos ⟨rfl, by first | omega | (simp; omega), rfl⟩]
    simp only [cells_slice, e1]
    simp [HP, VP]
  have g2 := m31_loop2 (b := b) (L := endL b out) hu hL hLl hnm b.ops.length (Nat.le_refl _)
  rw [e9] at g2
  have l4 : ∀ L V, (HP b L [V]).length = 4 := fun L V => rfl
  have fz : ∀ L, afreeze (HP b L [VP (b.ops.length + 1) (rowsP b.ops (endL b out) 0)]) (.vslice 3 (b.ops.length + 1) 0 (b.ops.length + 1) 1) = some (listsA (pointsS b out), [.cells b.cells, .front 0 0, .map (em L), .gone]) := by
    intro L
    have hp : pureRow (rowsP b.ops (endL b out) 0) = some (rowsP b.ops (endL b out) 0) := pureRow_SC fun c hc => by
      obtain ⟨k, _, rfl⟩ := List.mem_map.1 hc
      exact ⟨_, if_pos (Nat.zero_le _)⟩
    have hlen := rowsP_len (ops := b.ops) (L := endL b out) (i := 0)
    have hpl := pointsLists (ops := b.ops) (L := endL b out)
    have hro := rowsOf_one (l := rowsP b.ops (endL b out) 0)
    unfold afreeze
    have : getVec (HP b L [VP (b.ops.length + 1) (rowsP b.ops (endL b out) 0)]) 3 (b.ops.length + 1) = some (1, rowsP b.ops (endL b out) 0) := by simp [HP, VP]
    simp only [this, List.drop_zero, Nat.mul_one]
    rw [List.take_of_length_le (by omega), hp]
    simp only [Nat.zero_add]
    rw [if_pos (by omega), ← hlen, hro, hpl]
    rfl
  have fin : ∀ L, finF 0 (.vslice 3 (b.ops.length + 1) 0 (b.ops.length + 1) 1) (HP b L [VP (b.ops.length + 1) (rowsP b.ops (endL b out) 0)]) = some (.ret (listsA (pointsS b out)), []) := by
    intro L
    unfold finF
    rw [fz]
    simp only [Option.bind_some]
    rw [finR_zero]
    rfl
  have ag0 : afieldAt 0 (.ptr 0 0) = some (.ptr 0 0) := rfl
  have ag1 : afieldAt 1 (.ptr 0 0) = some (.ptr 0 1) := rfl
  have ag2 : afieldAt 0 (.ptr 0 1) = some (.ptr 0 1) := rfl
  have ag3 : afieldAt 1 (.ptr 0 1) = some (.ptr 0 2) := rfl
  have hse := HP_set (b := b) (L := putsL [] out) (E := []) b.term.a
  generalize ((b.ops.length + 1 : Nat) : Int) = n1 at w1 mk
  by_cases hk : b.term.kind = 2
  · have eL : endL b out = putL (putsL [] out) b.term.a := if_pos hk
    obtain ⟨a0, a1⟩ := ha hk
    rw [hk] at lk
    rw [← eL] at hse
    unfold m31
    simp -implicitDefEqProofs [-aload_ptr, -astore_ptr, -aload_vptr, -astore_vptr, -anew, an, lenO, g0, lk, la, lo, lenP, w1, w2, mk, hd, uhd, lki, u1, k72, ix, st, g2, l4, fin, ag0, ag1, ag2, ag3, hse, a0, akeyFor]
  · have eL : endL b out = putsL [] out := if_neg hk
    rw [← eL] at g0
    unfold m31
    simp -implicitDefEqProofs [-aload_ptr, -astore_ptr, -aload_vptr, -astore_vptr, -anew, an, lenO, g0, lk, la, lo, lenP, w1, w2, mk, hd, uhd, lki, u1, k72, ix, st, g2, l4, fin, ag0, ag1, ag2, ag3, hk]
end Go.Proofs.YtkeoalhglkfbkaaDoor

/-
  'LiveTells': the evaluator's run. No conditions.
-/
namespace Go.Proofs.YtkeoalhglkfbkaaDoor
open Go Hk Go.Proofs.Wd

theorem m25_loop {p : IR} : ∀ (d i : Nat) (n : Int), i ≤ n → n ≤ 801 → 801 - n.toNat < d → ∃ (n' : Int) (i' : Int),
    lpW (m25_l0 KK 1) ([.ptr 0 0, .bool false, .int .i64 n, .int .i64 (i : Int)], [.cells p.cells]) = some (.exit 0, [.ptr 0 0, .bool false, .int .i64 n', .int .i64 i'], [.cells p.cells]) := by
  intro d
  have htr : trunc 1 [.cells p.cells] = some [.cells p.cells] := by simp [trunc, IR.cells]
  have ag : afieldAt 2 (.ptr 0 0) = some (.ptr 0 2) := rfl
  have l1 : aload false 1 [.cells p.cells] (.ptr 0 2) = some (.slice (p.blocks.map Blk.cells) .no) := by simp [IR.cells]
  have lenB : alenSl (.slice (p.blocks.map Blk.cells) .no) = some (.int .i64 (p.blocks.length : Int)) := by simp
  induction d with
  | zero => intro i n _ _ h; omega
  | succ d ih =>
    intro i n hi hn hd
    by_cases h1 : i < p.blocks.length
    · by_cases h2 : n ≤ 300
      · have hb := List.getElem?_eq_getElem h1
        generalize p.blocks[i] = b at hb
        obtain ⟨n', i', hr⟩ := ih (i + 1) (n + 1 + min (b.ops.length : Int) 500) (by omega) (by omega) (by omega)
        refine ⟨n', i', ?_⟩
        rw [← hr]
        refine lp_go ?_
        have hl : (i : Int) < (p.blocks.length : Int) := by omega
        have ix : aindexSl 5 (.slice (p.blocks.map Blk.cells) .no) (.int .i64 (i : Int)) = some (.pptr b.cells) := by simp [hb, Blk.cells]
        have ag1 : afieldAt 0 (.pptr b.cells) = some (.pptr b.cells) := by simp [afieldAt]
        have l2 : aload false 1 [.cells p.cells] (.pptr b.cells) = some (.slice (b.ops.map Op.cells) .no) := by simp [Blk.cells]
        have lenO : alenSl (.slice (b.ops.map Op.cells) .no) = some (.int .i64 (b.ops.length : Int)) := by simp
        have mn : amin2 (.int .i64 (b.ops.length : Int)) (.int .i64 500) = some (.int .i64 (min (b.ops.length : Int) 500)) := by
          simp [amin2]
          try (split <;> omega)
        have w0 : IntKind.i64.wrap (n + 1) = n + 1 := wrap64 (by omega) (by omega)
        have w1 : IntKind.i64.wrap (n + 1 + min (b.ops.length : Int) 500) = n + 1 + min (b.ops.length : Int) 500 := wrap64 (by omega) (by omega)
        have w2 : IntKind.i64.wrap ((i : Int) + 1) = ((i + 1 : Nat) : Int) := by rw [wrap64 (by omega) (by omega), Int.natCast_add]; rfl
        generalize ((i + 1 : Nat) : Int) = i1 at *
        unfold m25_l0
        simp -implicitDefEqProofs [-aload_ptr, endR, htr, ag, l1, lenB, hl, h2, ix, ag1, l2, lenO, mn, w0, w1, w2, san1_ptr]
      · refine ⟨n, i, lp_exit ?_⟩
        have hl : (i : Int) < (p.blocks.length : Int) := by omega
        unfold m25_l0
        simp -implicitDefEqProofs [-aload_ptr, endR, htr, ag, l1, lenB, hl, h2, san1_ptr]
    · refine ⟨n, i, lp_exit ?_⟩
      have hl : ¬ (i : Int) < (p.blocks.length : Int) := by omega
      unfold m25_l0
      simp -implicitDefEqProofs [-aload_ptr, endR, htr, ag, l1, lenB, hl, san1_ptr]
theorem c25 (p : IR) : ∃ b : Bool, ∀ h, KK 25 [.agg p.cells] h = some (.ret (.bool b), h) := by
  obtain ⟨n, i, g⟩ := m25_loop (p := p) 1000 0 0 (by omega) (by omega) (by omega)
  have e0 : ((0 : Nat) : Int) = 0 := rfl
  rw [e0] at g
  refine ⟨decide (n ≤ 300) && decide (p.temps ≤ 60), fun h => callP_pure rfl rfl (evW_by (m25_eq _ _ _) ?_)⟩
  have an : anew 5 [] (.agg p.cells) = some (.ptr 0 0, [.cells p.cells]) := by simp [IR.cells]
  have ag : afieldAt 0 (.ptr 0 0) = some (.ptr 0 0) := rfl
  have l1 : aload false 1 [.cells p.cells] (.ptr 0 0) = some (.int .i64 p.temps) := by simp [IR.cells]
  by_cases h2 : n ≤ 300
  · by_cases h3 : p.temps ≤ 60 <;> simp -implicitDefEqProofs [m25, -aload_ptr, -anew, an, g, ag, l1, h2, h3, finR_zero]
  · simp -implicitDefEqProofs [m25, -aload_ptr, -anew, an, g, ag, l1, h2, finR_zero]

theorem m29_loop0 {ls : List (List Int)} {i : Nat} {z : List Int} (hz : ls[i]? = some z) (hl : z.length ≤ 2000000) : ∀ (d k : Nat), z.length = k + d →
    lpW (m29_l0 KK 0) ([listsA ls, listsA ls, .bool false, .int .i64 (i : Int), .int .i64 (k : Int)], []) = some (.exit 2, [listsA ls, listsA ls, .bool false, .int .i64 (i : Int), .int .i64 (z.length : Int)], []) := by
  have ix : aindexSl 1 (listsA ls) (.int .i64 (i : Int)) = some (.pptr [.slice (ints z) .no]) := by simp [listsA, hz]
  have lenz : alenSl (.slice (ints z) .no) = some (.int .i64 (z.length : Int)) := by simp [ints]
  have sn : ∀ h, AVal.san 0 h (listsA ls) = listsA ls := fun h => rfl
  intro d
  induction d with
  | zero =>
    intro k hk
    obtain rfl : k = z.length := by omega
    refine lp_exit ?_
    unfold m29_l0
    simp -implicitDefEqProofs [ix, lenz, endR, trunc, sn]
  | succ d ih =>
    intro k hk
    rw [← ih (k + 1) (by omega)]
    refine lp_go ?_
    have hkl : k < z.length := by omega
    have hki : (k : Int) < (z.length : Int) := by omega
    obtain ⟨x, hx⟩ : ∃ x, z[k] = x := ⟨_, rfl⟩
    have ix2 : aindexSl 1 (.slice (ints z) .no) (.int .i64 (k : Int)) = some (.pptr [.int .i64 x]) := by simp [ints, hkl, hx]
    have w2 : IntKind.i64.wrap ((k : Int) + 1) = ((k + 1 : Nat) : Int) := by rw [wrap64 (by omega) (by omega), Int.natCast_add]; rfl
    generalize ((k + 1 : Nat) : Int) = k1 at *
    unfold m29_l0
    simp -implicitDefEqProofs [ix, lenz, ix2, hki, w2, endR, trunc, sn]
theorem m29_loop1 {ls : List (List Int)} (hl : ∀ z ∈ ls, z.length ≤ 2000000) (hls : ls.length ≤ 2000000) : ∀ (d i : Nat), ls.length = i + d →
    lpW (m29_l1 KK 0) ([listsA ls, listsA ls, .bool false, .int .i64 (i : Int)], []) = some (.exit 0, [listsA ls, listsA ls, .bool false, .int .i64 (ls.length : Int)], []) := by
  have sn : ∀ h, AVal.san 0 h (listsA ls) = listsA ls := fun h => rfl
  have len1 : alenSl (listsA ls) = some (.int .i64 (ls.length : Int)) := by simp [listsA]
  intro d
  induction d with
  | zero =>
    intro i hi
    obtain rfl : i = ls.length := by omega
    refine lp_exit ?_
    unfold m29_l1
    simp -implicitDefEqProofs [len1, endR, trunc, sn]
  | succ d ih =>
    intro i hi
    rw [← ih (i + 1) (by omega)]
    refine lp_go ?_
    have hil : i < ls.length := by omega
    have hii : (i : Int) < (ls.length : Int) := by omega
    obtain ⟨z, hx⟩ : ∃ z, ls[i]? = some z := ⟨_, List.getElem?_eq_getElem hil⟩
    have g := m29_loop0 hx (hl z (List.mem_of_getElem? hx)) z.length 0 (by omega)
    have e0 : ((0 : Nat) : Int) = 0 := rfl
    rw [e0] at g
    have ix : aindexSl 1 (listsA ls) (.int .i64 (i : Int)) = some (.pptr [.slice (ints z) .no]) := by simp [listsA, hx]
    have lenz : alenSl (.slice (ints z) .no) = some (.int .i64 (z.length : Int)) := by simp [ints]
    have w2 : IntKind.i64.wrap ((i : Int) + 1) = ((i + 1 : Nat) : Int) := by rw [wrap64 (by omega) (by omega), Int.natCast_add]; rfl
    generalize ((i + 1 : Nat) : Int) = k1 at *
    unfold m29_l1
    simp -implicitDefEqProofs [len1, ix, lenz, g, hii, w2, endR, trunc, sn]
theorem c29 {ls : List (List Int)} (hl : ∀ z ∈ ls, z.length ≤ 2000000) (hls : ls.length ≤ 2000000) (h : Heap) : KK 29 [listsA ls, listsA ls] h = some (.ret (.bool true), h) := by
  refine callP_pure rfl rfl (evW_by (m29_eq _ _ _ _) ?_)
  have g := m29_loop1 hl hls ls.length 0 (by omega)
  have e0 : ((0 : Nat) : Int) = 0 := rfl
  rw [e0] at g
  have len1 : alenSl (listsA ls) = some (.int .i64 (ls.length : Int)) := by simp [listsA]
  simp -implicitDefEqProofs [m29, len1, g, finR_zero]

theorem zs_filter_len {n : Nat} {f : Nat → Bool} : (zs ((List.range n).filter f)).length ≤ n := by
  rw [zs_len]
  exact Nat.le_trans (List.length_filter_le _ _) (by simp)
theorem liveI_len (p : IR) : (∀ z ∈ liveI p, z.length ≤ 2000000) ∧ (liveI p).length ≤ 2000000 := by
  unfold liveI
  split
  · rename_i h
    have lp := (opsOk_of h).1
    have h1 := lp.temps
    have h2 := lp.nb
    refine ⟨fun z hz => ?_, by simp; omega⟩
    obtain ⟨k, _, rfl⟩ := List.mem_map.1 hz
    exact Nat.le_trans zs_filter_len (by omega)
  · simp
theorem liveO_len (p : IR) : (∀ z ∈ liveO p, z.length ≤ 2000000) ∧ (liveO p).length ≤ 2000000 := by
  unfold liveO
  split
  · rename_i h
    have lp := (opsOk_of h).1
    have h1 := lp.temps
    have h2 := lp.nb
    refine ⟨fun z hz => ?_, by simp; omega⟩
    obtain ⟨k, _, rfl⟩ := List.mem_map.1 hz
    exact Nat.le_trans zs_filter_len (by omega)
  · simp

/-- The law LiveTells. -/
theorem c6 (p : IR) (h : Heap) : KK 6 [.agg p.cells] h = some (.ret (.bool true), h) := by
  refine callP_pure rfl rfl (evW_by (m6_eq _ _ _) ?_)
  have an : anew 5 [] (.agg p.cells) = some (.ptr 0 0, [.cells p.cells]) := by simp [IR.cells]
  have l1 : aload true 5 [.cells p.cells] (.ptr 0 0) = some (.agg p.cells) := by simp [IR.cells]
  have u1 : (AVal.agg p.cells).untok = .agg p.cells := rfl
  have u2 : ∀ ls, (listsA ls).untok = listsA ls := fun ls => rfl
  obtain ⟨b, g25⟩ := c25 p
  have g26 := c26
  have g27 := c27 p
  have g28 := c28 p
  have gi := c29 (liveI_len p).1 (liveI_len p).2
  have go := c29 (liveO_len p).1 (liveO_len p).2
  generalize liveI p = li at *
  generalize liveO p = lo at *
  cases b <;> simp -implicitDefEqProofs [m6, -aload_ptr, -anew, an, l1, u1, u2, g25, g26, g27, g28, gi, go, finR_zero, aextract]
end Go.Proofs.YtkeoalhglkfbkaaDoor

/-
  'within', and what Points tells at first. No conditions.
-/
namespace Go.Proofs.YtkeoalhglkfbkaaDoor
open Go Hk Go.Proofs.Wd

/-! ### What Points tells, plainly -/
theorem stepL_nodup {L : List Int} {o : Op} (h : L.Nodup) : (stepL L o).Nodup := by
  unfold stepL
  apply putsL_nodup
  split
  · exact h.erase _
  · exact h
theorem wantL_nodup : ∀ {ops : List Op} {L : List Int}, L.Nodup → (wantL ops L).Nodup
  | [], _, h => h
  | o :: r, _, h => stepL_nodup (wantL_nodup (ops := r) h)
theorem endL_nodup {b : Blk} {out : List Int} : (endL b out).Nodup := by
  unfold endL
  split
  · exact putL_nodup (putsL_nodup List.nodup_nil)
  · exact putsL_nodup List.nodup_nil
theorem wantL_mem {b : Blk} {out : List Int} {t : Int} : ∀ {ops : List Op}, t ∈ wantL ops (endL b out) ↔ trOps ops b.term (fun t => t ∈ out) t
  | [] => by
    show t ∈ endL b out ↔ (b.term.kind = 2 ∧ b.term.a = t) ∨ t ∈ out
    unfold endL
    by_cases h : b.term.kind = 2
    · rw [if_pos h, putL_mem, putsL_mem]
      simp only [h, true_and, List.not_mem_nil, false_or]
      constructor
      · rintro (h | rfl)
        · exact .inr h
        · exact .inl rfl
      · rintro (rfl | h)
        · exact .inr rfl
        · exact .inl h
    · rw [if_neg h, putsL_mem]
      simp [h]
  | o :: r => by
    have ih := wantL_mem (b := b) (out := out) (t := t) (ops := r)
    show t ∈ stepL (wantL r (endL b out)) o ↔ t ∈ usesS o ∨ (trOps r b.term (fun t => t ∈ out) t ∧ ¬((formS o.kind).dst = true ∧ o.dst = t))
    unfold stepL
    rw [putsL_mem, ← ih]
    have hn : (wantL r (endL b out)).Nodup := wantL_nodup endL_nodup
    by_cases h : (formS o.kind).dst = true
    · rw [if_pos h, hn.mem_erase_iff]
      constructor
      · rintro (⟨h1, h2⟩ | h1)
        · exact .inr ⟨h2, fun hh => h1 hh.2.symm⟩
        · exact .inl h1
      · rintro (h1 | ⟨h1, h2⟩)
        · exact .inr h1
        · exact .inl ⟨fun hh => h2 ⟨h, hh.symm⟩, h1⟩
    · rw [if_neg h]
      simp only [h, Bool.false_eq_true, false_and, not_false_eq_true, and_true]
      exact or_comm

theorem rising_len : ∀ {l : List Int} {a n : Int}, l.Pairwise (· < ·) → (∀ t ∈ l, a ≤ t ∧ t < n) → (l.length : Int) ≤ max (n - a) 0
  | [], a, n, _, _ => by simp; omega
  | x :: r, a, n, hp, hb => by
    rw [List.pairwise_cons] at hp
    have hx := hb x (by simp)
    have := rising_len (l := r) (a := x + 1) (n := n) hp.2 fun t ht => by
      have h1 := hp.1 t ht
      have h2 := hb t (by simp [ht])
      omega
    simp only [List.length_cons]
    omega
theorem nodup_len {l : List Int} {n : Int} (hl : l.Nodup) (hb : ∀ t ∈ l, 0 ≤ t ∧ t < n) (hn : n ≤ 1048576) : l.length ≤ 1048576 := by
  have h1 := rising_len (sortI_rising hl) (a := 0) (n := n) fun t ht => hb t (sortI_mem.1 ht)
  have h2 : (sortI l).length = l.length := (List.mergeSort_perm l _).length_eq
  omega

theorem zs_mem {n : Nat} {P : Nat → Prop} [DecidablePred P] {t : Int} : t ∈ zs ((List.range n).filter fun t => decide (P t)) ↔ 0 ≤ t ∧ t.toNat < n ∧ P t.toNat := by
  unfold zs
  simp only [List.mem_map, List.mem_filter, List.mem_range, decide_eq_true_eq]
  constructor
  · rintro ⟨a, ⟨h1, h2⟩, rfl⟩
    exact ⟨by omega, by simpa using h1, by simpa using h2⟩
  · rintro ⟨h1, h2, h3⟩
    exact ⟨t.toNat, ⟨h2, h3⟩, by omega⟩
theorem liveOut_mem {p : IR} {k : Nat} {b : Blk} (hb : p.blocks[k]? = some b) {t : Int} : t ∈ liveOut p k ↔ 0 ≤ t ∧ t < p.temps ∧ Behind p.blocks t b.term := by
  classical
  unfold liveOut
  rw [zs_mem]
  constructor
  · rintro ⟨h1, h2, b', h3, h4⟩
    rw [hb] at h3; cases h3
    rw [show ((t.toNat : Nat) : Int) = t by omega] at h4
    exact ⟨h1, by omega, h4⟩
  · rintro ⟨h1, h2, h3⟩
    refine ⟨h1, by omega, b, hb, ?_⟩
    rw [show ((t.toNat : Nat) : Int) = t by omega]
    exact h3
theorem wantL_bound {p : IR} (hp : OpsOk p) {k : Nat} {b : Blk} (hb : p.blocks[k]? = some b) {i : Nat} {t : Int} (ht : t ∈ wantL (b.ops.drop i) (endL b (liveOut p k))) : 0 ≤ t ∧ t < p.temps := by
  have hbm := List.mem_of_getElem? hb
  have key : ∀ (ops : List Op), (∀ o ∈ ops, o ∈ b.ops) → t ∈ wantL ops (endL b (liveOut p k)) → 0 ≤ t ∧ t < p.temps := by
    intro ops
    induction ops with
    | nil =>
      intro _ h
      rw [wantL_mem] at h
      rcases h with ⟨h1, h2⟩ | h1
      · rw [← h2]; exact hp.term b hbm h1
      · have := (liveOut_mem hb).1 h1; exact ⟨this.1, this.2.1⟩
    | cons o r ih =>
      intro ho h
      rw [wantL_mem] at h
      rcases h with h1 | ⟨h1, _⟩
      · exact hp.use b hbm o (ho o (by simp)) t h1
      · exact ih (fun o' h' => ho o' (by simp [h'])) (wantL_mem.2 h1)
  exact key _ (fun o ho => List.mem_of_mem_drop ho) ht
theorem c31_live {p : IR} (hp : OpsOk p) {k : Nat} {b : Blk} (hb : p.blocks[k]? = some b) (h : Heap) :
    KK 31 [.agg b.cells, .slice (ints (liveOut p k)) .no] h = some (.ret (listsA (pointsS b (liveOut p k))), h) := by
  have hbm := List.mem_of_getElem? hb
  have ht := hp.temps
  refine c31 (fun t h1 => ?_) (Nat.le_trans zs_filter_len (by omega)) (fun o ho => ⟨fun t h1 => ?_, by have := uses_len o; omega⟩) (fun h1 => ?_) (fun i t h1 => ?_) (fun i => ?_) (by have := hp.len b hbm; omega) h
  · have := (liveOut_mem hb).1 h1; omega
  · have := hp.use b hbm o ho t h1; omega
  · have := hp.term b hbm h1; omega
  · have := wantL_bound hp hb h1; omega
  · exact nodup_len (wantL_nodup endL_nodup) (fun t h1 => wantL_bound hp hb h1) ht
end Go.Proofs.YtkeoalhglkfbkaaDoor

/-
  The shallow forms of the functions on programs of blocks, each equal to the evaluator's run of its code. No conditions.
-/
namespace Go.Proofs.YtkeoalhglkfbkaaDoor
open Go Hk
/- hauberk/hauberklaw22.DeadTells -/
noncomputable def m12 (K : CallO) (a0 : AVal) (h0 : Heap) : Option (Res × Heap) :=
  (bindVH (anew 5 h0 a0) fun t0 h1 => (aload true 5 h1 t0).bind fun t2 => bindRes (K 38 [(AVal.untok t2)] h1) (fun t3 h4 => (aun .not t3).bind fun t5 => acond t5 (bindRes (K 39 [] h4) (fun t6 h7 => some (.ret, [t6], h7)) (fun _ _ => none)) ((aload true 5 h4 t0).bind fun t8 => bindRes (K 40 [(AVal.untok t8)] h4) (fun t9 h10 => (aextract 0 t9).bind fun t11 => (aextract 1 t9).bind fun t12 => bindVH (anew 5 h10 (.agg [(.int .i64 0), (.slice [] .nil), (.slice [] .nil), (.int .i64 0), (.int .i64 0)])) fun t13 h14 => (astore 5 h14 t13 t11).bind fun h15 => (aload true 5 h15 t0).bind fun t16 => bindRes (K 41 [(AVal.untok t16)] h15) (fun t17 h18 => (aextract 0 t17).bind fun t19 => (aextract 1 t17).bind fun t20 => bindVH (anew 5 h18 (.agg [(.int .i64 0), (.slice [] .nil), (.slice [] .nil), (.int .i64 0), (.int .i64 0)])) fun t21 h22 => (astore 5 h22 t21 t19).bind fun h23 => (aload true 5 h23 t13).bind fun t24 => (aload true 5 h23 t21).bind fun t25 => bindRes (K 42 [(AVal.untok t24), (AVal.untok t25)] h23) (fun t26 h27 => (guardSel true t26 (kv0 t12 h27) (kv0 (.tuple []) h27)).bind (fin0 (fun t28 h29 => (guardSel true t26 (kv0 t20 h29) (kv0 (.tuple []) h29)).bind (fin0 (fun t30 h31 => (guardSel true t26 ((abin .eql t28 t30).bind fun t32 => kv0 t32 h31) (kv0 (.tuple []) h31)).bind (fin0 (fun t33 h34 => (apick t26 t33 (.bool false)).bind fun t35 => (guardSel true t35 (bindRes (K 39 [] h34) (fun t36 h37 => kv0 t36 h37) kp0) (kv0 (.tuple []) h34)).bind (fin0 (fun t38 h39 => (apick t35 t38 (.bool false)).bind fun t40 => some (.ret, [t40], h39)) (fun _ _ => none))) (fun _ _ => none))) (fun _ _ => none))) (fun _ _ => none))) (fun _ _ => none)) (fun _ _ => none)) (fun _ _ => none))) (fun _ _ => none)).bind fun r41 => (fun x2v42 h43 => Ex.endF r41.1 (finR (List.length h0) x2v42 h43)) (List.getD r41.2.1 0 .junk) r41.2.2
theorem m12_eq (K : CallO) (a0 : AVal) (h0 : Heap) : evB Tryd.prog ann lpW K 12 [a0] h0 = m12 (callP ann K) a0 h0 := by kernel_rfl

/- hauberk/hauberklaw22.DeadNone -/
noncomputable def m13_l0 (K : CallO) (m : Nat) (s : List AVal × Heap) : Option R :=
  (fun x1v124 x2v125 x3v126 x6v127 x8v128 x9v129 x10v130 x11v131 x12v132 h133 => (afieldAt 2 x1v124).bind fun t134 => (aload false 1 h133 t134).bind fun t135 => (aindexSl 5 t135 x8v128).bind fun t136 => (afieldAt 0 t136).bind fun t137 => (aload false 1 h133 t137).bind fun t138 => (alenSl t138).bind fun t139 => (abin .lss x12v132 t139).bind fun t140 => acond t140 (((afieldAt 2 x1v124).bind fun t141 => (aload false 1 h133 t141).bind fun t142 => (aindexSl 5 t142 x8v128).bind fun t143 => (afieldAt 0 t143).bind fun t144 => (aload false 1 h133 t144).bind fun t145 => (aindexSl 6 t145 x12v132).bind fun t146 => (aload true 6 h133 t146).bind fun t147 => bindVH (anew 6 h133 (.agg [(.int .i64 0), (.int .i64 0), (.int .i64 0), (.int .i64 0), (.int .i64 0), (.int .i64 0)])) fun t148 h149 => (astore 6 h149 t148 t147).bind fun h150 => (afieldAt 0 x9v129).bind fun t151 => (aload false 1 h150 t151).bind fun t152 => (alenSl t152).bind fun t153 => (abin .lss x11v131 t153).bind fun t154 => (guardSel true t154 ((afieldAt 0 x9v129).bind fun t155 => kv0 t155 h150) (kv0 (.tuple []) h150)).bind (fin0 (fun t156 h157 => (guardSel true t154 ((aload false 1 h157 t156).bind fun t158 => kv0 t158 h157) (kv0 (.tuple []) h157)).bind (fin0 (fun t159 h160 => (guardSel true t154 (kv0 x11v131 h160) (kv0 (.tuple []) h160)).bind (fin0 (fun t161 h162 => (guardSel true t154 ((aindexSl 6 t159 t161).bind fun t163 => kv0 t163 h162) (kv0 (.tuple []) h162)).bind (fin0 (fun t164 h165 => (guardSel true t154 ((aload true 6 h165 t164).bind fun t166 => kv0 t166 h165) (kv0 (.tuple []) h165)).bind (fin0 (fun t167 h168 => (guardSel true t154 ((aload true 6 h168 t148).bind fun t169 => kv0 t169 h168) (kv0 (.tuple []) h168)).bind (fin0 (fun t170 h171 => (guardSel true t154 ((aeqAgg [.i, .i, .i, .i, .i, .i] t167 t170).bind fun t172 => kv0 (.bool t172) h171) (kv0 (.tuple []) h171)).bind (fin0 (fun t173 h174 => (apick t154 t173 (.bool false)).bind fun t175 => (acond t175 ((abin .add x11v131 (.int .i64 1)).bind fun t176 => some (.normal, [x1v124, x2v125, x3v126, x6v127, x8v128, x9v129, x10v130, t176, x12v132], h174)) ((afieldAt 0 t148).bind fun t177 => (aload false 1 h174 t177).bind fun t178 => (abin .eql t178 (.int .i64 18)).bind fun t179 => (guardSel false t179 ((afieldAt 0 t148).bind fun t180 => kv0 t180 h174) (kv0 (.tuple []) h174)).bind (fin0 (fun t181 h182 => (guardSel false t179 ((aload false 1 h182 t181).bind fun t183 => kv0 t183 h182) (kv0 (.tuple []) h182)).bind (fin0 (fun t184 h185 => (guardSel false t179 ((abin .eql t184 (.int .i64 19)).bind fun t186 => kv0 t186 h185) (kv0 (.tuple []) h185)).bind (fin0 (fun t187 h188 => (apick t179 (.bool true) t187).bind fun t189 => acond t189 (some (.ret, [x1v124, (.bool false), x3v126, x6v127, x8v128, x9v129, x10v130, x11v131, x12v132], h188)) (some (.normal, [x1v124, x2v125, x3v126, x6v127, x8v128, x9v129, x10v130, x11v131, x12v132], h188))) (fun _ _ => none))) (fun _ _ => none))) (fun _ _ => none)))).bind fun r190 => (fun x1v191 x2v192 x3v193 x6v194 x8v195 x9v196 x10v197 x11v198 x12v199 h200 => Ex.thenDo r190.1 (some (.normal, [x1v191, x2v192, x3v193, x6v194, x8v195, x9v196, x10v197, x11v198, x12v199], h200)) (fun e201 => some (e201, [x1v191, x2v192, x3v193, x6v194, x8v195, x9v196, x10v197, x11v198, x12v199], h200))) (List.getD r190.2.1 0 .junk) (List.getD r190.2.1 1 .junk) (List.getD r190.2.1 2 .junk) (List.getD r190.2.1 3 .junk) (List.getD r190.2.1 4 .junk) (List.getD r190.2.1 5 .junk) (List.getD r190.2.1 6 .junk) (List.getD r190.2.1 7 .junk) (List.getD r190.2.1 8 .junk) r190.2.2) (fun _ _ => none))) (fun _ _ => none))) (fun _ _ => none))) (fun _ _ => none))) (fun _ _ => none))) (fun _ _ => none))) (fun _ _ => none))).bind fun r202 => (fun x1v203 x2v204 x3v205 x6v206 x8v207 x9v208 x10v209 x11v210 x12v211 h212 => Ex.inBlock 3 r202.1 ((abin .add x12v211 (.int .i64 1)).bind fun t214 => endR m .normal [x1v203, x2v204, x3v205, x6v206, x8v207, x9v208, x10v209, x11v210, t214] h212) (fun e213 => endR m e213 [x1v203, x2v204, x3v205, x6v206, x8v207, x9v208, x10v209, x11v210, x12v211] h212)) (List.getD r202.2.1 0 .junk) (List.getD r202.2.1 1 .junk) (List.getD r202.2.1 2 .junk) (List.getD r202.2.1 3 .junk) (List.getD r202.2.1 4 .junk) (List.getD r202.2.1 5 .junk) (List.getD r202.2.1 6 .junk) (List.getD r202.2.1 7 .junk) (List.getD r202.2.1 8 .junk) r202.2.2) (endR m (.exit 2) [x1v124, x2v125, x3v126, x6v127, x8v128, x9v129, x10v130, x11v131, x12v132] h133)) (List.getD s.1 0 .junk) (List.getD s.1 1 .junk) (List.getD s.1 2 .junk) (List.getD s.1 3 .junk) (List.getD s.1 4 .junk) (List.getD s.1 5 .junk) (List.getD s.1 6 .junk) (List.getD s.1 7 .junk) (List.getD s.1 8 .junk) s.2
noncomputable def m13_l1 (K : CallO) (m : Nat) (s : List AVal × Heap) : Option R :=
  (fun x1v272 x2v273 x3v274 x6v275 x8v276 x9v277 x10v278 x14v279 x15v280 x16v281 h282 => (abin .add x14v279 (.int .i64 1)).bind fun t283 => (aindexSl 1 x10v278 t283).bind fun t284 => (aload false 1 h282 t284).bind fun t285 => (alenSl t285).bind fun t286 => (abin .lss x16v281 t286).bind fun t287 => acond t287 ((guardSel false x15v280 (kv0 x10v278 h282) (kv0 (.tuple []) h282)).bind (fin0 (fun t288 h289 => (guardSel false x15v280 (kv0 x14v279 h289) (kv0 (.tuple []) h289)).bind (fin0 (fun t290 h291 => (guardSel false x15v280 ((abin .add t290 (.int .i64 1)).bind fun t292 => kv0 t292 h291) (kv0 (.tuple []) h291)).bind (fin0 (fun t293 h294 => (guardSel false x15v280 ((aindexSl 1 t288 t293).bind fun t295 => kv0 t295 h294) (kv0 (.tuple []) h294)).bind (fin0 (fun t296 h297 => (guardSel false x15v280 ((aload false 1 h297 t296).bind fun t298 => kv0 t298 h297) (kv0 (.tuple []) h297)).bind (fin0 (fun t299 h300 => (guardSel false x15v280 (kv0 x16v281 h300) (kv0 (.tuple []) h300)).bind (fin0 (fun t301 h302 => (guardSel false x15v280 ((aindexSl 1 t299 t301).bind fun t303 => kv0 t303 h302) (kv0 (.tuple []) h302)).bind (fin0 (fun t304 h305 => (guardSel false x15v280 ((aload false 1 h305 t304).bind fun t306 => kv0 t306 h305) (kv0 (.tuple []) h305)).bind (fin0 (fun t307 h308 => (guardSel false x15v280 ((afieldAt 0 x9v277).bind fun t309 => kv0 t309 h308) (kv0 (.tuple []) h308)).bind (fin0 (fun t310 h311 => (guardSel false x15v280 ((aload false 1 h311 t310).bind fun t312 => kv0 t312 h311) (kv0 (.tuple []) h311)).bind (fin0 (fun t313 h314 => (guardSel false x15v280 (kv0 x14v279 h314) (kv0 (.tuple []) h314)).bind (fin0 (fun t315 h316 => (guardSel false x15v280 ((aindexSl 6 t313 t315).bind fun t317 => kv0 t317 h316) (kv0 (.tuple []) h316)).bind (fin0 (fun t318 h319 => (guardSel false x15v280 ((afieldAt 1 t318).bind fun t320 => kv0 t320 h319) (kv0 (.tuple []) h319)).bind (fin0 (fun t321 h322 => (guardSel false x15v280 ((aload false 1 h322 t321).bind fun t323 => kv0 t323 h322) (kv0 (.tuple []) h322)).bind (fin0 (fun t324 h325 => (guardSel false x15v280 ((abin .eql t307 t324).bind fun t326 => kv0 t326 h325) (kv0 (.tuple []) h325)).bind (fin0 (fun t327 h328 => (apick x15v280 (.bool true) t327).bind fun t329 => (abin .add x16v281 (.int .i64 1)).bind fun t330 => endR m .normal [x1v272, x2v273, x3v274, x6v275, x8v276, x9v277, x10v278, x14v279, t329, t330] h328) (fun _ _ => none))) (fun _ _ => none))) (fun _ _ => none))) (fun _ _ => none))) (fun _ _ => none))) (fun _ _ => none))) (fun _ _ => none))) (fun _ _ => none))) (fun _ _ => none))) (fun _ _ => none))) (fun _ _ => none))) (fun _ _ => none))) (fun _ _ => none))) (fun _ _ => none))) (fun _ _ => none))) (endR m (.exit 6) [x1v272, x2v273, x3v274, x6v275, x8v276, x9v277, x10v278, x14v279, x15v280, x16v281] h282)) (List.getD s.1 0 .junk) (List.getD s.1 1 .junk) (List.getD s.1 2 .junk) (List.getD s.1 3 .junk) (List.getD s.1 4 .junk) (List.getD s.1 5 .junk) (List.getD s.1 6 .junk) (List.getD s.1 7 .junk) (List.getD s.1 8 .junk) (List.getD s.1 9 .junk) s.2
noncomputable def m13_l2 (K : CallO) (m : Nat) (s : List AVal × Heap) : Option R :=
  (fun x1v232 x2v233 x3v234 x6v235 x8v236 x9v237 x10v238 x14v239 h240 => (afieldAt 0 x9v237).bind fun t241 => (aload false 1 h240 t241).bind fun t242 => (alenSl t242).bind fun t243 => (abin .lss x14v239 t243).bind fun t244 => acond t244 (((afieldAt 0 x9v237).bind fun t245 => (aload false 1 h240 t245).bind fun t246 => (aindexSl 6 t246 x14v239).bind fun t247 => (afieldAt 0 t247).bind fun t248 => (aload false 1 h240 t248).bind fun t249 => (abin .eql t249 (.int .i64 18)).bind fun t250 => (guardSel false t250 ((afieldAt 0 x9v237).bind fun t251 => kv0 t251 h240) (kv0 (.tuple []) h240)).bind (fin0 (fun t252 h253 => (guardSel false t250 ((aload false 1 h253 t252).bind fun t254 => kv0 t254 h253) (kv0 (.tuple []) h253)).bind (fin0 (fun t255 h256 => (guardSel false t250 (kv0 x14v239 h256) (kv0 (.tuple []) h256)).bind (fin0 (fun t257 h258 => (guardSel false t250 ((aindexSl 6 t255 t257).bind fun t259 => kv0 t259 h258) (kv0 (.tuple []) h258)).bind (fin0 (fun t260 h261 => (guardSel false t250 ((afieldAt 0 t260).bind fun t262 => kv0 t262 h261) (kv0 (.tuple []) h261)).bind (fin0 (fun t263 h264 => (guardSel false t250 ((aload false 1 h264 t263).bind fun t265 => kv0 t265 h264) (kv0 (.tuple []) h264)).bind (fin0 (fun t266 h267 => (guardSel false t250 ((abin .eql t266 (.int .i64 19)).bind fun t268 => kv0 t268 h267) (kv0 (.tuple []) h267)).bind (fin0 (fun t269 h270 => (apick t250 (.bool true) t269).bind fun t271 => (lpW (m13_l1 K (List.length h270)) ([x1v232, x2v233, x3v234, x6v235, x8v236, x9v237, x10v238, x14v239, t271, (.int .i64 0)], h270)).bind fun r331 => (fun x1v333 x2v334 x3v335 x6v336 x8v337 x9v338 x10v339 x14v340 x15v341 x16v342 h343 => Ex.thenDo r331.1 none (fun e332 => Ex.inBlock 6 e332 ((aun .not x15v341).bind fun t345 => acond t345 (some (.ret, [x1v333, (.bool false), x3v335, x6v336, x8v337, x9v338, x10v339, x14v340], h343)) (some (.normal, [x1v333, x2v334, x3v335, x6v336, x8v337, x9v338, x10v339, x14v340], h343))) (fun e344 => some (e344, [x1v333, x2v334, x3v335, x6v336, x8v337, x9v338, x10v339, x14v340], h343)))) (List.getD r331.2.1 0 .junk) (List.getD r331.2.1 1 .junk) (List.getD r331.2.1 2 .junk) (List.getD r331.2.1 3 .junk) (List.getD r331.2.1 4 .junk) (List.getD r331.2.1 5 .junk) (List.getD r331.2.1 6 .junk) (List.getD r331.2.1 7 .junk) (List.getD r331.2.1 8 .junk) (List.getD r331.2.1 9 .junk) r331.2.2) (fun _ _ => none))) (fun _ _ => none))) (fun _ _ => none))) (fun _ _ => none))) (fun _ _ => none))) (fun _ _ => none))) (fun _ _ => none))).bind fun r346 => (fun x1v347 x2v348 x3v349 x6v350 x8v351 x9v352 x10v353 x14v354 h355 => Ex.inBlock 5 r346.1 ((abin .add x14v354 (.int .i64 1)).bind fun t357 => endR m .normal [x1v347, x2v348, x3v349, x6v350, x8v351, x9v352, x10v353, t357] h355) (fun e356 => endR m e356 [x1v347, x2v348, x3v349, x6v350, x8v351, x9v352, x10v353, x14v354] h355)) (List.getD r346.2.1 0 .junk) (List.getD r346.2.1 1 .junk) (List.getD r346.2.1 2 .junk) (List.getD r346.2.1 3 .junk) (List.getD r346.2.1 4 .junk) (List.getD r346.2.1 5 .junk) (List.getD r346.2.1 6 .junk) (List.getD r346.2.1 7 .junk) r346.2.2) (endR m (.exit 4) [x1v232, x2v233, x3v234, x6v235, x8v236, x9v237, x10v238, x14v239] h240)) (List.getD s.1 0 .junk) (List.getD s.1 1 .junk) (List.getD s.1 2 .junk) (List.getD s.1 3 .junk) (List.getD s.1 4 .junk) (List.getD s.1 5 .junk) (List.getD s.1 6 .junk) (List.getD s.1 7 .junk) s.2
noncomputable def m13_l3 (K : CallO) (m : Nat) (s : List AVal × Heap) : Option R :=
  (fun x1v73 x2v74 x3v75 x6v76 x8v77 h78 => (afieldAt 2 x1v73).bind fun t79 => (aload false 1 h78 t79).bind fun t80 => (alenSl t80).bind fun t81 => (abin .lss x8v77 t81).bind fun t82 => acond t82 (((afieldAt 2 x3v75).bind fun t83 => (aload false 1 h78 t83).bind fun t84 => (aindexSl 5 t84 x8v77).bind fun t85 => (aload true 5 h78 t85).bind fun t86 => bindVH (anew 5 h78 (.agg [(.slice [] .nil), (.int .i64 0), (.int .i64 0), (.int .i64 0), (.int .i64 0)])) fun t87 h88 => (astore 5 h88 t87 t86).bind fun h89 => (aload true 5 h89 t87).bind fun t90 => (aindexSl 1 x6v76 x8v77).bind fun t91 => (aload false 1 h89 t91).bind fun t92 => bindRes (K 31 [(AVal.untok t90), (AVal.untok t92)] h89) (fun t93 h94 => (afieldAt 1 t87).bind fun t95 => (aload true 4 h94 t95).bind fun t96 => (afieldAt 2 x1v73).bind fun t97 => (aload false 1 h94 t97).bind fun t98 => (aindexSl 5 t98 x8v77).bind fun t99 => (afieldAt 1 t99).bind fun t100 => (aload true 4 h94 t100).bind fun t101 => (aeqAgg [.i, .i, .i, .i] t96 t101).bind fun t102 => (guardSel false (.bool (!t102)) (kv0 t93 h94) (kv0 (.tuple []) h94)).bind (fin0 (fun t103 h104 => (guardSel false (.bool (!t102)) ((alenSl t103).bind fun t105 => kv0 t105 h104) (kv0 (.tuple []) h104)).bind (fin0 (fun t106 h107 => (guardSel false (.bool (!t102)) ((afieldAt 0 t87).bind fun t108 => kv0 t108 h107) (kv0 (.tuple []) h107)).bind (fin0 (fun t109 h110 => (guardSel false (.bool (!t102)) ((aload false 1 h110 t109).bind fun t111 => kv0 t111 h110) (kv0 (.tuple []) h110)).bind (fin0 (fun t112 h113 => (guardSel false (.bool (!t102)) ((alenSl t112).bind fun t114 => kv0 t114 h113) (kv0 (.tuple []) h113)).bind (fin0 (fun t115 h116 => (guardSel false (.bool (!t102)) ((abin .add t115 (.int .i64 1)).bind fun t117 => kv0 t117 h116) (kv0 (.tuple []) h116)).bind (fin0 (fun t118 h119 => (guardSel false (.bool (!t102)) ((abin .neq t106 t118).bind fun t120 => kv0 t120 h119) (kv0 (.tuple []) h119)).bind (fin0 (fun t121 h122 => (apick (.bool (!t102)) (.bool true) t121).bind fun t123 => acond t123 (some (.ret, [x1v73, (.bool false), x3v75, x6v76, x8v77], h122)) ((lpW (m13_l0 K (List.length h122)) ([x1v73, x2v74, x3v75, x6v76, x8v77, t87, t93, (.int .i64 0), (.int .i64 0)], h122)).bind fun r215 => (fun x1v217 x2v218 x3v219 x6v220 x8v221 x9v222 x10v223 x11v224 x12v225 h226 => Ex.thenDo r215.1 none (fun e216 => Ex.inBlock 2 e216 ((afieldAt 0 x9v222).bind fun t228 => (aload false 1 h226 t228).bind fun t229 => (alenSl t229).bind fun t230 => (abin .neq x11v224 t230).bind fun t231 => acond t231 (some (.ret, [x1v217, (.bool false), x3v219, x6v220, x8v221], h226)) ((lpW (m13_l2 K (List.length h226)) ([x1v217, x2v218, x3v219, x6v220, x8v221, x9v222, x10v223, (.int .i64 0)], h226)).bind fun r358 => (fun x1v360 x2v361 x3v362 x6v363 x8v364 x9v365 x10v366 x14v367 h368 => Ex.thenDo r358.1 none (fun e359 => Ex.inBlock 4 e359 (some (.normal, [x1v360, x2v361, x3v362, x6v363, x8v364], h368)) (fun e369 => some (e369, [x1v360, x2v361, x3v362, x6v363, x8v364], h368)))) (List.getD r358.2.1 0 .junk) (List.getD r358.2.1 1 .junk) (List.getD r358.2.1 2 .junk) (List.getD r358.2.1 3 .junk) (List.getD r358.2.1 4 .junk) (List.getD r358.2.1 5 .junk) (List.getD r358.2.1 6 .junk) (List.getD r358.2.1 7 .junk) r358.2.2)) (fun e227 => some (e227, [x1v217, x2v218, x3v219, x6v220, x8v221], h226)))) (List.getD r215.2.1 0 .junk) (List.getD r215.2.1 1 .junk) (List.getD r215.2.1 2 .junk) (List.getD r215.2.1 3 .junk) (List.getD r215.2.1 4 .junk) (List.getD r215.2.1 5 .junk) (List.getD r215.2.1 6 .junk) (List.getD r215.2.1 7 .junk) (List.getD r215.2.1 8 .junk) r215.2.2)) (fun _ _ => none))) (fun _ _ => none))) (fun _ _ => none))) (fun _ _ => none))) (fun _ _ => none))) (fun _ _ => none))) (fun _ _ => none))) (fun _ _ => none)).bind fun r370 => (fun x1v371 x2v372 x3v373 x6v374 x8v375 h376 => Ex.inBlock 1 r370.1 ((abin .add x8v375 (.int .i64 1)).bind fun t378 => endR m .normal [x1v371, x2v372, x3v373, x6v374, t378] h376) (fun e377 => endR m e377 [x1v371, x2v372, x3v373, x6v374, x8v375] h376)) (List.getD r370.2.1 0 .junk) (List.getD r370.2.1 1 .junk) (List.getD r370.2.1 2 .junk) (List.getD r370.2.1 3 .junk) (List.getD r370.2.1 4 .junk) r370.2.2) (endR m (.exit 0) [x1v73, x2v74, x3v75, x6v76, x8v77] h78)) (List.getD s.1 0 .junk) (List.getD s.1 1 .junk) (List.getD s.1 2 .junk) (List.getD s.1 3 .junk) (List.getD s.1 4 .junk) s.2
noncomputable def m13 (K : CallO) (a0 : AVal) (h0 : Heap) : Option (Res × Heap) :=
  (bindVH (anew 5 h0 a0) fun t0 h1 => (aload true 5 h1 t0).bind fun t2 => bindRes (K 38 [(AVal.untok t2)] h1) (fun t3 h4 => (aun .not t3).bind fun t5 => acond t5 (bindRes (K 39 [] h4) (fun t6 h7 => some (.ret, [t6], h7)) (fun _ _ => none)) ((aload true 5 h4 t0).bind fun t8 => bindRes (K 40 [(AVal.untok t8)] h4) (fun t9 h10 => (aextract 0 t9).bind fun t11 => (aextract 1 t9).bind fun t12 => bindVH (anew 5 h10 (.agg [(.int .i64 0), (.slice [] .nil), (.slice [] .nil), (.int .i64 0), (.int .i64 0)])) fun t13 h14 => (astore 5 h14 t13 t11).bind fun h15 => (abin .neq t12 (.int .i64 0)).bind fun t16 => acond t16 ((aload true 5 h15 t0).bind fun t17 => bindRes (K 30 [(AVal.untok t17)] h15) (fun t18 h19 => (abin .eql t12 t18).bind fun t20 => (guardSel true t20 (bindRes (K 39 [] h19) (fun t21 h22 => kv0 t21 h22) kp0) (kv0 (.tuple []) h19)).bind (fin0 (fun t23 h24 => (apick t20 t23 (.bool false)).bind fun t25 => some (.ret, [t25], h24)) (fun _ _ => none))) (fun _ _ => none)) ((aload true 5 h15 t13).bind fun t26 => bindRes (K 27 [(AVal.untok t26)] h15) (fun t27 h28 => (aextract 0 t27).bind fun t29 => (aextract 1 t27).bind fun t30 => (aextract 2 t27).bind fun t31 => (abin .neq t31 (.int .i64 0)).bind fun t32 => (guardSel false t32 ((afieldAt 2 t13).bind fun t33 => kv0 t33 h28) (kv0 (.tuple []) h28)).bind (fin0 (fun t34 h35 => (guardSel false t32 ((aload false 1 h35 t34).bind fun t36 => kv0 t36 h35) (kv0 (.tuple []) h35)).bind (fin0 (fun t37 h38 => (guardSel false t32 ((alenSl t37).bind fun t39 => kv0 t39 h38) (kv0 (.tuple []) h38)).bind (fin0 (fun t40 h41 => (guardSel false t32 ((afieldAt 2 t0).bind fun t42 => kv0 t42 h41) (kv0 (.tuple []) h41)).bind (fin0 (fun t43 h44 => (guardSel false t32 ((aload false 1 h44 t43).bind fun t45 => kv0 t45 h44) (kv0 (.tuple []) h44)).bind (fin0 (fun t46 h47 => (guardSel false t32 ((alenSl t46).bind fun t48 => kv0 t48 h47) (kv0 (.tuple []) h47)).bind (fin0 (fun t49 h50 => (guardSel false t32 ((abin .neq t40 t49).bind fun t51 => kv0 t51 h50) (kv0 (.tuple []) h50)).bind (fin0 (fun t52 h53 => (apick t32 (.bool true) t52).bind fun t54 => (guardSel false t54 (kv0 t30 h53) (kv0 (.tuple []) h53)).bind (fin0 (fun t55 h56 => (guardSel false t54 ((alenSl t55).bind fun t57 => kv0 t57 h56) (kv0 (.tuple []) h56)).bind (fin0 (fun t58 h59 => (guardSel false t54 ((afieldAt 2 t0).bind fun t60 => kv0 t60 h59) (kv0 (.tuple []) h59)).bind (fin0 (fun t61 h62 => (guardSel false t54 ((aload false 1 h62 t61).bind fun t63 => kv0 t63 h62) (kv0 (.tuple []) h62)).bind (fin0 (fun t64 h65 => (guardSel false t54 ((alenSl t64).bind fun t66 => kv0 t66 h65) (kv0 (.tuple []) h65)).bind (fin0 (fun t67 h68 => (guardSel false t54 ((abin .neq t58 t67).bind fun t69 => kv0 t69 h68) (kv0 (.tuple []) h68)).bind (fin0 (fun t70 h71 => (apick t54 (.bool true) t70).bind fun t72 => acond t72 (some (.ret, [(.bool false)], h71)) ((lpW (m13_l3 K (List.length h71)) ([t0, (.bool false), t13, t30, (.int .i64 0)], h71)).bind fun r379 => (fun x1v381 x2v382 x3v383 x6v384 x8v385 h386 => Ex.thenDo r379.1 none (fun e380 => Ex.inBlock 0 e380 (bindRes (K 39 [] h386) (fun t388 h389 => some (.ret, [t388], h389)) (fun _ _ => none)) (fun e387 => some (e387, [x2v382], h386)))) (List.getD r379.2.1 0 .junk) (List.getD r379.2.1 1 .junk) (List.getD r379.2.1 2 .junk) (List.getD r379.2.1 3 .junk) (List.getD r379.2.1 4 .junk) r379.2.2)) (fun _ _ => none))) (fun _ _ => none))) (fun _ _ => none))) (fun _ _ => none))) (fun _ _ => none))) (fun _ _ => none))) (fun _ _ => none))) (fun _ _ => none))) (fun _ _ => none))) (fun _ _ => none))) (fun _ _ => none))) (fun _ _ => none))) (fun _ _ => none))) (fun _ _ => none))) (fun _ _ => none))) (fun _ _ => none)).bind fun r390 => (fun x2v391 h392 => Ex.endF r390.1 (finR (List.length h0) x2v391 h392)) (List.getD r390.2.1 0 .junk) r390.2.2
theorem m13_eq (K : CallO) (a0 : AVal) (h0 : Heap) : evB Tryd.prog ann lpW K 13 [a0] h0 = m13 (callP ann K) a0 h0 := by kernel_rfl

/- hauberk/hauberklaw22.few -/
noncomputable def m38_l0 (K : CallO) (m : Nat) (s : List AVal × Heap) : Option R :=
  (fun x1v2 x2v3 x3v4 x4v5 h6 => (afieldAt 2 x1v2).bind fun t7 => (aload false 1 h6 t7).bind fun t8 => (alenSl t8).bind fun t9 => (abin .lss x4v5 t9).bind fun t10 => (guardSel true t10 (kv0 x3v4 h6) (kv0 (.tuple []) h6)).bind (fin0 (fun t11 h12 => (guardSel true t10 ((abin .leq t11 (.int .i64 200)).bind fun t13 => kv0 t13 h12) (kv0 (.tuple []) h12)).bind (fin0 (fun t14 h15 => (apick t10 t14 (.bool false)).bind fun t16 => acond t16 ((abin .add x3v4 (.int .i64 1)).bind fun t17 => (afieldAt 2 x1v2).bind fun t18 => (aload false 1 h15 t18).bind fun t19 => (aindexSl 5 t19 x4v5).bind fun t20 => (afieldAt 0 t20).bind fun t21 => (aload false 1 h15 t21).bind fun t22 => (alenSl t22).bind fun t23 => (amin2 t23 (.int .i64 500)).bind fun t24 => (abin .add t17 t24).bind fun t25 => (abin .add x4v5 (.int .i64 1)).bind fun t26 => endR m .normal [x1v2, x2v3, t25, t26] h15) (endR m (.exit 0) [x1v2, x2v3, x3v4, x4v5] h15)) (fun _ _ => none))) (fun _ _ => none))) (List.getD s.1 0 .junk) (List.getD s.1 1 .junk) (List.getD s.1 2 .junk) (List.getD s.1 3 .junk) s.2
noncomputable def m38 (K : CallO) (a0 : AVal) (h0 : Heap) : Option (Res × Heap) :=
  (bindVH (anew 5 h0 a0) fun t0 h1 => (lpW (m38_l0 K (List.length h1)) ([t0, (.bool false), (.int .i64 0), (.int .i64 0)], h1)).bind fun r27 => (fun x1v29 x2v30 x3v31 x4v32 h33 => Ex.thenDo r27.1 none (fun e28 => Ex.inBlock 0 e28 ((abin .leq x3v31 (.int .i64 200)).bind fun t35 => some (.ret, [t35], h33)) (fun e34 => some (e34, [x2v30], h33)))) (List.getD r27.2.1 0 .junk) (List.getD r27.2.1 1 .junk) (List.getD r27.2.1 2 .junk) (List.getD r27.2.1 3 .junk) r27.2.2).bind fun r36 => (fun x2v37 h38 => Ex.endF r36.1 (finR (List.length h0) x2v37 h38)) (List.getD r36.2.1 0 .junk) r36.2.2
theorem m38_eq (K : CallO) (a0 : AVal) (h0 : Heap) : evB Tryd.prog ann lpW K 38 [a0] h0 = m38 (callP ann K) a0 h0 := by kernel_rfl

/- hauberk/hauberklaw22.lives -/
noncomputable def m39 (K : CallO) (h0 : Heap) : Option (Res × Heap) :=
  ((abuild [(.int .i64 0), (.int .i64 0), (.int .i64 0), (.int .i64 0), (.int .i64 0), (.int .i64 0)] [(0, 1), (1, 1), (2, 1), (3, 1), (4, 1), (5, 1)] [(0, (.int .i64 1)), (5, (.int .i64 1))]).bind fun t0 => (abuild [(.int .i64 0), (.int .i64 0), (.int .i64 0), (.int .i64 0), (.int .i64 0), (.int .i64 0)] [(0, 1), (1, 1), (2, 1), (3, 1), (4, 1), (5, 1)] [(0, (.int .i64 10)), (1, (.int .i64 1))]).bind fun t1 => (abuild [(.int .i64 0), (.int .i64 0), (.int .i64 0), (.int .i64 0), (.int .i64 0), (.int .i64 0)] [(0, 1), (1, 1), (2, 1), (3, 1), (4, 1), (5, 1)] [(0, (.int .i64 10)), (2, (.int .i64 1))]).bind fun t2 => bindVH (abuildSlice 3 6 [(.int .i64 0), (.int .i64 0), (.int .i64 0), (.int .i64 0), (.int .i64 0), (.int .i64 0)] [(0, t0), (1, t1), (2, t2)] h0) fun t3 h4 => (abuild [(.int .i64 0), (.int .i64 0), (.int .i64 0), (.int .i64 0)] [(0, 1), (1, 1), (2, 1), (3, 1)] [(0, (.int .i64 3))]).bind fun t5 => (abuild [(.slice [] .nil), (.int .i64 0), (.int .i64 0), (.int .i64 0), (.int .i64 0)] [(0, 1), (1, 4)] [(0, t3), (1, t5)]).bind fun t6 => bindVH (abuildSlice 1 5 [(.slice [] .nil), (.int .i64 0), (.int .i64 0), (.int .i64 0), (.int .i64 0)] [(0, t6)] h4) fun t7 h8 => (abuild [(.int .i64 0), (.slice [] .nil), (.slice [] .nil), (.int .i64 0), (.int .i64 0)] [(0, 1), (1, 1), (2, 1), (3, 1), (4, 1)] [(0, (.int .i64 2)), (2, t7)]).bind fun t9 => bindVH (anew 5 h8 (.agg [(.int .i64 0), (.slice [] .nil), (.slice [] .nil), (.int .i64 0), (.int .i64 0)])) fun t10 h11 => (astore 5 h11 t10 t9).bind fun h12 => (aload true 5 h12 t10).bind fun t13 => bindRes (K 40 [(AVal.untok t13)] h12) (fun t14 h15 => (aextract 0 t14).bind fun t16 => (aextract 1 t14).bind fun t17 => bindVH (anew 5 h15 (.agg [(.int .i64 0), (.slice [] .nil), (.slice [] .nil), (.int .i64 0), (.int .i64 0)])) fun t18 h19 => (astore 5 h19 t18 t16).bind fun h20 => (abin .eql t17 (.int .i64 0)).bind fun t21 => (guardSel true t21 ((afieldAt 2 t18).bind fun t22 => kv0 t22 h20) (kv0 (.tuple []) h20)).bind (fin0 (fun t23 h24 => (guardSel true t21 ((aload false 1 h24 t23).bind fun t25 => kv0 t25 h24) (kv0 (.tuple []) h24)).bind (fin0 (fun t26 h27 => (guardSel true t21 ((alenSl t26).bind fun t28 => kv0 t28 h27) (kv0 (.tuple []) h27)).bind (fin0 (fun t29 h30 => (guardSel true t21 ((abin .eql t29 (.int .i64 1)).bind fun t31 => kv0 t31 h30) (kv0 (.tuple []) h30)).bind (fin0 (fun t32 h33 => (apick t21 t32 (.bool false)).bind fun t34 => (guardSel true t34 ((afieldAt 2 t18).bind fun t35 => kv0 t35 h33) (kv0 (.tuple []) h33)).bind (fin0 (fun t36 h37 => (guardSel true t34 ((aload false 1 h37 t36).bind fun t38 => kv0 t38 h37) (kv0 (.tuple []) h37)).bind (fin0 (fun t39 h40 => (guardSel true t34 ((aindexSl 5 t39 (.int .i64 0)).bind fun t41 => kv0 t41 h40) (kv0 (.tuple []) h40)).bind (fin0 (fun t42 h43 => (guardSel true t34 ((afieldAt 0 t42).bind fun t44 => kv0 t44 h43) (kv0 (.tuple []) h43)).bind (fin0 (fun t45 h46 => (guardSel true t34 ((aload false 1 h46 t45).bind fun t47 => kv0 t47 h46) (kv0 (.tuple []) h46)).bind (fin0 (fun t48 h49 => (guardSel true t34 ((alenSl t48).bind fun t50 => kv0 t50 h49) (kv0 (.tuple []) h49)).bind (fin0 (fun t51 h52 => (guardSel true t34 ((abin .eql t51 (.int .i64 0)).bind fun t53 => kv0 t53 h52) (kv0 (.tuple []) h52)).bind (fin0 (fun t54 h55 => (apick t34 t54 (.bool false)).bind fun t56 => (guardSel true t56 ((afieldAt 0 t18).bind fun t57 => kv0 t57 h55) (kv0 (.tuple []) h55)).bind (fin0 (fun t58 h59 => (guardSel true t56 ((aload false 1 h59 t58).bind fun t60 => kv0 t60 h59) (kv0 (.tuple []) h59)).bind (fin0 (fun t61 h62 => (guardSel true t56 ((abin .eql t61 (.int .i64 2)).bind fun t63 => kv0 t63 h62) (kv0 (.tuple []) h62)).bind (fin0 (fun t64 h65 => (apick t56 t64 (.bool false)).bind fun t66 => some (.ret, [t66], h65)) (fun _ _ => none))) (fun _ _ => none))) (fun _ _ => none))) (fun _ _ => none))) (fun _ _ => none))) (fun _ _ => none))) (fun _ _ => none))) (fun _ _ => none))) (fun _ _ => none))) (fun _ _ => none))) (fun _ _ => none))) (fun _ _ => none))) (fun _ _ => none))) (fun _ _ => none))) (fun _ _ => none)).bind fun r67 => (fun x0v68 h69 => Ex.endF r67.1 (finR (List.length h0) x0v68 h69)) (List.getD r67.2.1 0 .junk) r67.2.2
theorem m39_eq (K : CallO) (h0 : Heap) : evB Tryd.prog ann lpW K 39 [] h0 = m39 (callP ann K) h0 := by kernel_rfl

/- hauberk/dead.Dead -/
noncomputable def m40_l0 (K : CallO) (m : Nat) (s : List AVal × Heap) : Option R :=
  (fun x1v38 x2v39 x3v40 x6v41 x8v42 x9v43 x33v44 x34v45 x35v46 h47 => (abin .lss x35v46 x34v45).bind fun t48 => acond t48 ((aindexSl 5 x33v44 x35v46).bind fun t49 => (aload true 5 h47 t49).bind fun t50 => bindVH (anew 5 h47 (.agg [(.slice [] .nil), (.int .i64 0), (.int .i64 0), (.int .i64 0), (.int .i64 0)])) fun t51 h52 => bindVH (afreeze h52 t50) fun t53 h54 => (astore 5 h54 t51 t53).bind fun h55 => (aload true 5 h55 t51).bind fun t56 => (aindexSl 1 x6v41 x35v46).bind fun t57 => (aload false 1 h55 t57).bind fun t58 => bindRes (K 80 [(AVal.untok t56), (AVal.untok t58)] h55) (fun t59 h60 => (aindexSl 5 x8v42 x35v46).bind fun t61 => bindVH (afreeze h60 t59) fun t62 h63 => (astore 5 h63 t61 t62).bind fun h64 => (guardSel false x9v43 (kv0 x8v42 h64) (kv0 (.tuple []) h64)).bind (fin0 (fun t65 h66 => (guardSel false x9v43 (kv0 x35v46 h66) (kv0 (.tuple []) h66)).bind (fin0 (fun t67 h68 => (guardSel false x9v43 ((aindexSl 5 t65 t67).bind fun t69 => kv0 t69 h68) (kv0 (.tuple []) h68)).bind (fin0 (fun t70 h71 => (guardSel false x9v43 ((afieldAt 0 t70).bind fun t72 => kv0 t72 h71) (kv0 (.tuple []) h71)).bind (fin0 (fun t73 h74 => (guardSel false x9v43 ((aload false 1 h74 t73).bind fun t75 => kv0 t75 h74) (kv0 (.tuple []) h74)).bind (fin0 (fun t76 h77 => (guardSel false x9v43 ((alenSl t76).bind fun t78 => kv0 t78 h77) (kv0 (.tuple []) h77)).bind (fin0 (fun t79 h80 => (guardSel false x9v43 ((afieldAt 0 t51).bind fun t81 => kv0 t81 h80) (kv0 (.tuple []) h80)).bind (fin0 (fun t82 h83 => (guardSel false x9v43 ((aload false 1 h83 t82).bind fun t84 => kv0 t84 h83) (kv0 (.tuple []) h83)).bind (fin0 (fun t85 h86 => (guardSel false x9v43 ((alenSl t85).bind fun t87 => kv0 t87 h86) (kv0 (.tuple []) h86)).bind (fin0 (fun t88 h89 => (guardSel false x9v43 ((abin .lss t79 t88).bind fun t90 => kv0 t90 h89) (kv0 (.tuple []) h89)).bind (fin0 (fun t91 h92 => (apick x9v43 (.bool true) t91).bind fun t93 => (abin .add x35v46 (.int .i64 1)).bind fun t94 => endR m .normal [x1v38, x2v39, x3v40, x6v41, x8v42, t93, x33v44, x34v45, t94] h92) (fun _ _ => none))) (fun _ _ => none))) (fun _ _ => none))) (fun _ _ => none))) (fun _ _ => none))) (fun _ _ => none))) (fun _ _ => none))) (fun _ _ => none))) (fun _ _ => none))) (fun _ _ => none))) (fun _ _ => none)) (endR m (.exit 2) [x1v38, x2v39, x3v40, x6v41, x8v42, x9v43, x33v44, x34v45, x35v46] h47)) (List.getD s.1 0 .junk) (List.getD s.1 1 .junk) (List.getD s.1 2 .junk) (List.getD s.1 3 .junk) (List.getD s.1 4 .junk) (List.getD s.1 5 .junk) (List.getD s.1 6 .junk) (List.getD s.1 7 .junk) (List.getD s.1 8 .junk) s.2
noncomputable def m40_l1 (K : CallO) (m : Nat) (s : List AVal × Heap) : Option R :=
  (fun x1v20 x2v21 x3v22 h23 => ((aload true 5 h23 x1v20).bind fun t24 => bindRes (K 27 [(AVal.untok t24)] h23) (fun t25 h26 => (aextract 0 t25).bind fun t27 => (aextract 1 t25).bind fun t28 => (aextract 2 t25).bind fun t29 => (afieldAt 2 x1v20).bind fun t30 => (aload false 1 h26 t30).bind fun t31 => (alenSl t31).bind fun t32 => bindVH (amakeSliceV 5 56 [(.slice [] .nil), (.int .i64 0), (.int .i64 0), (.int .i64 0), (.int .i64 0)] t32 h26) fun t33 h34 => (afieldAt 2 x1v20).bind fun t35 => (aload false 1 h34 t35).bind fun t36 => (alenSl t36).bind fun t37 => (lpW (m40_l0 K (List.length h34)) ([x1v20, x2v21, x3v22, t28, t33, (.bool false), t36, t37, (.int .i64 0)], h34)).bind fun r95 => (fun x1v97 x2v98 x3v99 x6v100 x8v101 x9v102 x33v103 x34v104 x35v105 h106 => Ex.thenDo r95.1 none (fun e96 => Ex.inBlock 2 e96 ((afieldAt 2 x1v97).bind fun t108 => bindVH (afreeze h106 x8v101) fun t109 h110 => (astore 1 h110 t108 t109).bind fun h111 => acond x9v102 (some ((.exit 1), [x1v97, x2v98, x3v99], h111)) ((aload true 5 h111 x1v97).bind fun t112 => bindVH (afreeze h111 t112) fun t113 h114 => (astore 5 h114 x2v98 t113).bind fun h115 => some (.ret, [x1v97, x2v98, (.int .i64 0)], h115))) (fun e107 => some (e107, [x1v97, x2v98, x3v99], h106)))) (List.getD r95.2.1 0 .junk) (List.getD r95.2.1 1 .junk) (List.getD r95.2.1 2 .junk) (List.getD r95.2.1 3 .junk) (List.getD r95.2.1 4 .junk) (List.getD r95.2.1 5 .junk) (List.getD r95.2.1 6 .junk) (List.getD r95.2.1 7 .junk) (List.getD r95.2.1 8 .junk) r95.2.2) (fun _ _ => none)).bind fun r116 => (fun x1v117 x2v118 x3v119 h120 => Ex.inBlock 1 r116.1 (endR m .normal [x1v117, x2v118, x3v119] h120) (fun e121 => endR m e121 [x1v117, x2v118, x3v119] h120)) (List.getD r116.2.1 0 .junk) (List.getD r116.2.1 1 .junk) (List.getD r116.2.1 2 .junk) r116.2.2) (List.getD s.1 0 .junk) (List.getD s.1 1 .junk) (List.getD s.1 2 .junk) s.2
noncomputable def m40 (K : CallO) (a0 : AVal) (h0 : Heap) : Option (Res × Heap) :=
  (bindVH (anew 5 h0 a0) fun t0 h1 => bindVH (anew 5 h1 (.agg [(.int .i64 0), (.slice [] .nil), (.slice [] .nil), (.int .i64 0), (.int .i64 0)])) fun t2 h3 => (aload true 5 h3 t0).bind fun t4 => bindRes (K 30 [(AVal.untok t4)] h3) (fun t5 h6 => (abin .neq t5 (.int .i64 0)).bind fun t7 => acond t7 ((abuild [(.int .i64 0), (.slice [] .nil), (.slice [] .nil), (.int .i64 0), (.int .i64 0)] [(0, 1), (1, 1), (2, 1), (3, 1), (4, 1)] []).bind fun t8 => bindVH (afreeze h6 t8) fun t9 h10 => (astore 5 h10 t2 t9).bind fun h11 => some (.ret, [t2, t5], h11)) ((afieldAt 1 t0).bind fun t12 => (aload false 1 h6 t12).bind fun t13 => bindVH (aappend 4 32 h6 (.slice [] .nil) t13) fun t14 h15 => (afieldAt 1 t0).bind fun t16 => bindVH (afreeze h15 t14) fun t17 h18 => (astore 1 h18 t16 t17).bind fun h19 => (lpW (m40_l1 K (List.length h19)) ([t0, t2, (.int .i64 0)], h19)).bind fun r122 => (fun x1v124 x2v125 x3v126 h127 => Ex.thenDo r122.1 none (fun e123 => Ex.inBlock 0 e123 (some (.normal, [x2v125, x3v126], h127)) (fun e128 => some (e128, [x2v125, x3v126], h127)))) (List.getD r122.2.1 0 .junk) (List.getD r122.2.1 1 .junk) (List.getD r122.2.1 2 .junk) r122.2.2)) (fun _ _ => none)).bind fun r129 => (fun x2v130 x3v131 h132 => Ex.endF r129.1 ((aload true 5 h132 x2v130).bind fun t133 => finR (List.length h0) (.tuple [t133, x3v131]) h132)) (List.getD r129.2.1 0 .junk) (List.getD r129.2.1 1 .junk) r129.2.2
theorem m40_eq (K : CallO) (a0 : AVal) (h0 : Heap) : evB Tryd.prog ann lpW K 40 [a0] h0 = m40 (callP ann K) a0 h0 := by kernel_rfl

/- hauberk/hauberkref22.Dead -/
noncomputable def m41_l0 (K : CallO) (m : Nat) (s : List AVal × Heap) : Option R :=
  (fun x1v33 x2v34 x3v35 x5v36 x6v37 x7v38 h39 => (abin .geq x7v38 (.int .i64 0)).bind fun t40 => acond t40 ((aload true 5 h39 x1v33).bind fun t41 => bindRes (K 81 [(AVal.untok t41), (AVal.untok x6v37), (AVal.untok x7v38)] h39) (fun t42 h43 => (acond t42 ((aload true 5 h43 x1v33).bind fun t44 => bindRes (K 82 [(AVal.untok t44), (AVal.untok x6v37), (AVal.untok x7v38)] h43) (fun t45 h46 => (astore 5 h46 x1v33 t45).bind fun h47 => some (.normal, [x1v33, x2v34, x3v35, (.bool true), x6v37, x7v38], h47)) (fun _ _ => none)) (some (.normal, [x1v33, x2v34, x3v35, x5v36, x6v37, x7v38], h43))).bind fun r48 => (fun x1v49 x2v50 x3v51 x5v52 x6v53 x7v54 h55 => Ex.nrm r48.1 ((abin .sub x7v54 (.int .i64 1)).bind fun t56 => endR m .normal [x1v49, x2v50, x3v51, x5v52, x6v53, t56] h55)) (List.getD r48.2.1 0 .junk) (List.getD r48.2.1 1 .junk) (List.getD r48.2.1 2 .junk) (List.getD r48.2.1 3 .junk) (List.getD r48.2.1 4 .junk) (List.getD r48.2.1 5 .junk) r48.2.2) (fun _ _ => none)) (endR m (.exit 4) [x1v33, x2v34, x3v35, x5v36, x6v37, x7v38] h39)) (List.getD s.1 0 .junk) (List.getD s.1 1 .junk) (List.getD s.1 2 .junk) (List.getD s.1 3 .junk) (List.getD s.1 4 .junk) (List.getD s.1 5 .junk) s.2
noncomputable def m41_l1 (K : CallO) (m : Nat) (s : List AVal × Heap) : Option R :=
  (fun x1v19 x2v20 x3v21 x5v22 x6v23 h24 => (abin .geq x6v23 (.int .i64 0)).bind fun t25 => acond t25 (((afieldAt 2 x1v19).bind fun t26 => (aload false 1 h24 t26).bind fun t27 => (aindexSl 5 t27 x6v23).bind fun t28 => (afieldAt 0 t28).bind fun t29 => (aload false 1 h24 t29).bind fun t30 => (alenSl t30).bind fun t31 => (abin .sub t31 (.int .i64 1)).bind fun t32 => (lpW (m41_l0 K (List.length h24)) ([x1v19, x2v20, x3v21, x5v22, x6v23, t32], h24)).bind fun r57 => (fun x1v59 x2v60 x3v61 x5v62 x6v63 x7v64 h65 => Ex.thenDo r57.1 none (fun e58 => Ex.inBlock 4 e58 (some (.normal, [x1v59, x2v60, x3v61, x5v62, x6v63], h65)) (fun e66 => some (e66, [x1v59, x2v60, x3v61, x5v62, x6v63], h65)))) (List.getD r57.2.1 0 .junk) (List.getD r57.2.1 1 .junk) (List.getD r57.2.1 2 .junk) (List.getD r57.2.1 3 .junk) (List.getD r57.2.1 4 .junk) (List.getD r57.2.1 5 .junk) r57.2.2).bind fun r67 => (fun x1v68 x2v69 x3v70 x5v71 x6v72 h73 => Ex.inBlock 3 r67.1 ((abin .sub x6v72 (.int .i64 1)).bind fun t75 => endR m .normal [x1v68, x2v69, x3v70, x5v71, t75] h73) (fun e74 => endR m e74 [x1v68, x2v69, x3v70, x5v71, x6v72] h73)) (List.getD r67.2.1 0 .junk) (List.getD r67.2.1 1 .junk) (List.getD r67.2.1 2 .junk) (List.getD r67.2.1 3 .junk) (List.getD r67.2.1 4 .junk) r67.2.2) (endR m (.exit 2) [x1v19, x2v20, x3v21, x5v22, x6v23] h24)) (List.getD s.1 0 .junk) (List.getD s.1 1 .junk) (List.getD s.1 2 .junk) (List.getD s.1 3 .junk) (List.getD s.1 4 .junk) s.2
noncomputable def m41_l2 (K : CallO) (m : Nat) (s : List AVal × Heap) : Option R :=
  (fun x1v10 x2v11 x3v12 x5v13 h14 => acond x5v13 (((afieldAt 2 x1v10).bind fun t15 => (aload false 1 h14 t15).bind fun t16 => (alenSl t16).bind fun t17 => (abin .sub t17 (.int .i64 1)).bind fun t18 => (lpW (m41_l1 K (List.length h14)) ([x1v10, x2v11, x3v12, (.bool false), t18], h14)).bind fun r76 => (fun x1v78 x2v79 x3v80 x5v81 x6v82 h83 => Ex.thenDo r76.1 none (fun e77 => Ex.inBlock 2 e77 (some (.normal, [x1v78, x2v79, x3v80, x5v81], h83)) (fun e84 => some (e84, [x1v78, x2v79, x3v80, x5v81], h83)))) (List.getD r76.2.1 0 .junk) (List.getD r76.2.1 1 .junk) (List.getD r76.2.1 2 .junk) (List.getD r76.2.1 3 .junk) (List.getD r76.2.1 4 .junk) r76.2.2).bind fun r85 => (fun x1v86 x2v87 x3v88 x5v89 h90 => Ex.inBlock 1 r85.1 (endR m .normal [x1v86, x2v87, x3v88, x5v89] h90) (fun e91 => endR m e91 [x1v86, x2v87, x3v88, x5v89] h90)) (List.getD r85.2.1 0 .junk) (List.getD r85.2.1 1 .junk) (List.getD r85.2.1 2 .junk) (List.getD r85.2.1 3 .junk) r85.2.2) (endR m (.exit 0) [x1v10, x2v11, x3v12, x5v13] h14)) (List.getD s.1 0 .junk) (List.getD s.1 1 .junk) (List.getD s.1 2 .junk) (List.getD s.1 3 .junk) s.2
noncomputable def m41 (K : CallO) (a0 : AVal) (h0 : Heap) : Option (Res × Heap) :=
  (bindVH (anew 5 h0 a0) fun t0 h1 => bindVH (anew 5 h1 (.agg [(.int .i64 0), (.slice [] .nil), (.slice [] .nil), (.int .i64 0), (.int .i64 0)])) fun t2 h3 => (aload true 5 h3 t0).bind fun t4 => bindRes (K 64 [(AVal.untok t4)] h3) (fun t5 h6 => (abin .neq t5 (.int .i64 0)).bind fun t7 => acond t7 ((abuild [(.int .i64 0), (.slice [] .nil), (.slice [] .nil), (.int .i64 0), (.int .i64 0)] [(0, 1), (1, 1), (2, 1), (3, 1), (4, 1)] []).bind fun t8 => (astore 5 h6 t2 t8).bind fun h9 => some (.ret, [t2, t5], h9)) ((lpW (m41_l2 K (List.length h6)) ([t0, t2, (.int .i64 0), (.bool true)], h6)).bind fun r92 => (fun x1v94 x2v95 x3v96 x5v97 h98 => Ex.thenDo r92.1 none (fun e93 => Ex.inBlock 0 e93 ((aload true 5 h98 x1v94).bind fun t100 => (astore 5 h98 x2v95 t100).bind fun h101 => some (.ret, [x2v95, (.int .i64 0)], h101)) (fun e99 => some (e99, [x2v95, x3v96], h98)))) (List.getD r92.2.1 0 .junk) (List.getD r92.2.1 1 .junk) (List.getD r92.2.1 2 .junk) (List.getD r92.2.1 3 .junk) r92.2.2)) (fun _ _ => none)).bind fun r102 => (fun x2v103 x3v104 h105 => Ex.endF r102.1 ((aload true 5 h105 x2v103).bind fun t106 => finR (List.length h0) (.tuple [t106, x3v104]) h105)) (List.getD r102.2.1 0 .junk) (List.getD r102.2.1 1 .junk) r102.2.2
theorem m41_eq (K : CallO) (a0 : AVal) (h0 : Heap) : evB Tryd.prog ann lpW K 41 [a0] h0 = m41 (callP ann K) a0 h0 := by kernel_rfl

/- hauberk/dead.block -/
noncomputable def m80_l0 (K : CallO) (m : Nat) (s : List AVal × Heap) : Option R :=
  (fun x4v16 x5v17 x6v18 x18v19 x19v20 x20v21 h22 => (abin .lss x20v21 x19v20).bind fun t23 => acond t23 ((aindexSl 6 x18v19 x20v21).bind fun t24 => (aload true 6 h22 t24).bind fun t25 => bindVH (anew 6 h22 (.agg [(.int .i64 0), (.int .i64 0), (.int .i64 0), (.int .i64 0), (.int .i64 0), (.int .i64 0)])) fun t26 h27 => (astore 6 h27 t26 t25).bind fun h28 => (abin .add x20v21 (.int .i64 1)).bind fun t29 => (aindexSl 1 x5v17 t29).bind fun t30 => (aload false 1 h28 t30).bind fun t31 => (afieldAt 1 t26).bind fun t32 => (aload false 1 h28 t32).bind fun t33 => bindRes (K 156 [(AVal.untok t31), (AVal.untok t33)] h28) (fun t34 h35 => (aextract 0 t34).bind fun t36 => (aextract 1 t34).bind fun t37 => (guardSel false t37 ((aload true 6 h35 t26).bind fun t38 => kv0 t38 h35) (kv0 (.tuple []) h35)).bind (fin0 (fun t39 h40 => (guardSel false t37 (bindRes (K 157 [(AVal.untok t39)] h40) (fun t41 h42 => kv0 t41 h42) kp0) (kv0 (.tuple []) h40)).bind (fin0 (fun t43 h44 => (guardSel false t37 ((aun .not t43).bind fun t45 => kv0 t45 h44) (kv0 (.tuple []) h44)).bind (fin0 (fun t46 h47 => (apick t37 (.bool true) t46).bind fun t48 => (acond t48 ((afieldAt 0 x6v18).bind fun t49 => (aload false 1 h47 t49).bind fun t50 => (aload true 6 h47 t26).bind fun t51 => bindVH (abuildSlice 1 6 [(.int .i64 0), (.int .i64 0), (.int .i64 0), (.int .i64 0), (.int .i64 0), (.int .i64 0)] [(0, t51)] h47) fun t52 h53 => bindVH (aappend 6 48 h53 t50 t52) fun t54 h55 => (afieldAt 0 x6v18).bind fun t56 => (astore 1 h55 t56 t54).bind fun h57 => some (.normal, [x4v16, x5v17, x6v18, x18v19, x19v20, x20v21], h57)) (some (.normal, [x4v16, x5v17, x6v18, x18v19, x19v20, x20v21], h47))).bind fun r58 => (fun x4v59 x5v60 x6v61 x18v62 x19v63 x20v64 h65 => Ex.nrm r58.1 ((abin .add x20v64 (.int .i64 1)).bind fun t66 => endR m .normal [x4v59, x5v60, x6v61, x18v62, x19v63, t66] h65)) (List.getD r58.2.1 0 .junk) (List.getD r58.2.1 1 .junk) (List.getD r58.2.1 2 .junk) (List.getD r58.2.1 3 .junk) (List.getD r58.2.1 4 .junk) (List.getD r58.2.1 5 .junk) r58.2.2) (fun _ _ => none))) (fun _ _ => none))) (fun _ _ => none))) (fun _ _ => none)) (endR m (.exit 0) [x4v16, x5v17, x6v18, x18v19, x19v20, x20v21] h22)) (List.getD s.1 0 .junk) (List.getD s.1 1 .junk) (List.getD s.1 2 .junk) (List.getD s.1 3 .junk) (List.getD s.1 4 .junk) (List.getD s.1 5 .junk) s.2
noncomputable def m80 (K : CallO) (a0 a1 : AVal) (h0 : Heap) : Option (Res × Heap) :=
  (bindVH (anew 5 h0 a0) fun t0 h1 => bindVH (anew 5 h1 (.agg [(.slice [] .nil), (.int .i64 0), (.int .i64 0), (.int .i64 0), (.int .i64 0)])) fun t2 h3 => (aload true 5 h3 t0).bind fun t4 => bindRes (K 31 [(AVal.untok t4), (AVal.untok a1)] h3) (fun t5 h6 => (afieldAt 1 t0).bind fun t7 => (aload true 4 h6 t7).bind fun t8 => (abuild [(.slice [] .nil), (.int .i64 0), (.int .i64 0), (.int .i64 0), (.int .i64 0)] [(0, 1), (1, 4)] [(1, t8)]).bind fun t9 => bindVH (anew 5 h6 (.agg [(.slice [] .nil), (.int .i64 0), (.int .i64 0), (.int .i64 0), (.int .i64 0)])) fun t10 h11 => (astore 5 h11 t10 t9).bind fun h12 => (afieldAt 0 t0).bind fun t13 => (aload false 1 h12 t13).bind fun t14 => (alenSl t14).bind fun t15 => (lpW (m80_l0 K (List.length h12)) ([t2, t5, t10, t14, t15, (.int .i64 0)], h12)).bind fun r67 => (fun x4v69 x5v70 x6v71 x18v72 x19v73 x20v74 h75 => Ex.thenDo r67.1 none (fun e68 => Ex.inBlock 0 e68 ((aload true 5 h75 x6v71).bind fun t77 => (astore 5 h75 x4v69 t77).bind fun h78 => some (.ret, [x4v69], h78)) (fun e76 => some (e76, [x4v69], h75)))) (List.getD r67.2.1 0 .junk) (List.getD r67.2.1 1 .junk) (List.getD r67.2.1 2 .junk) (List.getD r67.2.1 3 .junk) (List.getD r67.2.1 4 .junk) (List.getD r67.2.1 5 .junk) r67.2.2) (fun _ _ => none)).bind fun r79 => (fun x4v80 h81 => Ex.endF r79.1 ((aload true 5 h81 x4v80).bind fun t82 => finR (List.length h0) t82 h81)) (List.getD r79.2.1 0 .junk) r79.2.2
theorem m80_eq (K : CallO) (a0 a1 : AVal) (h0 : Heap) : evB Tryd.prog ann lpW K 80 [a0, a1] h0 = m80 (callP ann K) a0 a1 h0 := by kernel_rfl

/- hauberk/hauberkref22.Is -/
noncomputable def m81 (K : CallO) (a0 a1 a2 : AVal) (h0 : Heap) : Option (Res × Heap) :=
  (bindVH (anew 5 h0 a0) fun t0 h1 => (afieldAt 2 t0).bind fun t2 => (aload false 1 h1 t2).bind fun t3 => (aindexSl 5 t3 a1).bind fun t4 => (afieldAt 0 t4).bind fun t5 => (aload false 1 h1 t5).bind fun t6 => (aindexSl 6 t6 a2).bind fun t7 => (aload true 6 h1 t7).bind fun t8 => bindVH (anew 6 h1 (.agg [(.int .i64 0), (.int .i64 0), (.int .i64 0), (.int .i64 0), (.int .i64 0), (.int .i64 0)])) fun t9 h10 => (astore 6 h10 t9 t8).bind fun h11 => (aload true 6 h11 t9).bind fun t12 => bindRes (K 101 [(AVal.untok t12)] h11) (fun t13 h14 => (aun .not t13).bind fun t15 => (guardSel false t15 ((afieldAt 0 t9).bind fun t16 => kv0 t16 h14) (kv0 (.tuple []) h14)).bind (fin0 (fun t17 h18 => (guardSel false t15 ((aload false 1 h18 t17).bind fun t19 => kv0 t19 h18) (kv0 (.tuple []) h18)).bind (fin0 (fun t20 h21 => (guardSel false t15 ((abin .eql t20 (.int .i64 18)).bind fun t22 => kv0 t22 h21) (kv0 (.tuple []) h21)).bind (fin0 (fun t23 h24 => (apick t15 (.bool true) t23).bind fun t25 => acond t25 (some (.ret, [(.bool false)], h24)) ((afieldAt 2 t0).bind fun t26 => (aload false 1 h24 t26).bind fun t27 => (aindexSl 5 t27 a1).bind fun t28 => (aload true 5 h24 t28).bind fun t29 => (abin .add a2 (.int .i64 1)).bind fun t30 => (afieldAt 1 t9).bind fun t31 => (aload false 1 h24 t31).bind fun t32 => bindRes (K 158 [(AVal.untok t29), (AVal.untok t30), (AVal.untok t32)] h24) (fun t33 h34 => (abin .eql t33 (.int .i64 2)).bind fun t35 => (guardSel false t35 (kv0 t33 h34) (kv0 (.tuple []) h34)).bind (fin0 (fun t36 h37 => (guardSel false t35 ((abin .eql t36 (.int .i64 0)).bind fun t38 => kv0 t38 h37) (kv0 (.tuple []) h37)).bind (fin0 (fun t39 h40 => (guardSel false t35 (kv0 t39 h40) (kv0 (.tuple []) h40)).bind (fin0 (fun t41 h42 => (guardSel true t41 ((aload true 5 h42 t0).bind fun t43 => kv0 t43 h42) (kv0 (.tuple []) h42)).bind (fin0 (fun t44 h45 => (guardSel true t41 (kv0 a1 h45) (kv0 (.tuple []) h45)).bind (fin0 (fun t46 h47 => (guardSel true t41 ((afieldAt 1 t9).bind fun t48 => kv0 t48 h47) (kv0 (.tuple []) h47)).bind (fin0 (fun t49 h50 => (guardSel true t41 ((aload false 1 h50 t49).bind fun t51 => kv0 t51 h50) (kv0 (.tuple []) h50)).bind (fin0 (fun t52 h53 => (guardSel true t41 (bindRes (K 66 [(AVal.untok t44), (AVal.untok t46), (AVal.untok t52)] h53) (fun t54 h55 => kv0 t54 h55) kp0) (kv0 (.tuple []) h53)).bind (fin0 (fun t56 h57 => (guardSel true t41 ((aun .not t56).bind fun t58 => kv0 t58 h57) (kv0 (.tuple []) h57)).bind (fin0 (fun t59 h60 => (guardSel false t35 ((apick t41 t59 (.bool false)).bind fun t61 => kv0 t61 h60) (kv0 (.tuple []) h60)).bind (fin0 (fun t62 h63 => (apick t35 (.bool true) t62).bind fun t64 => some (.ret, [t64], h63)) (fun _ _ => none))) (fun _ _ => none))) (fun _ _ => none))) (fun _ _ => none))) (fun _ _ => none))) (fun _ _ => none))) (fun _ _ => none))) (fun _ _ => none))) (fun _ _ => none))) (fun _ _ => none))) (fun _ _ => none))) (fun _ _ => none))) (fun _ _ => none))) (fun _ _ => none))) (fun _ _ => none)).bind fun r65 => (fun x6v66 h67 => Ex.endF r65.1 (finR (List.length h0) x6v66 h67)) (List.getD r65.2.1 0 .junk) r65.2.2
theorem m81_eq (K : CallO) (a0 a1 a2 : AVal) (h0 : Heap) : evB Tryd.prog ann lpW K 81 [a0, a1, a2] h0 = m81 (callP ann K) a0 a1 a2 h0 := by kernel_rfl

/- hauberk/hauberkref22.without -/
noncomputable def m82_l0 (K : CallO) (m : Nat) (s : List AVal × Heap) : Option R :=
  (fun x1v6 x2v7 x3v8 x6v9 x7v10 x8v11 h12 => (afieldAt 2 x3v8).bind fun t13 => (aload false 1 h12 t13).bind fun t14 => (alenSl t14).bind fun t15 => (abin .lss x8v11 t15).bind fun t16 => acond t16 ((afieldAt 2 x3v8).bind fun t17 => (aload false 1 h12 t17).bind fun t18 => (aindexSl 5 t18 x8v11).bind fun t19 => (aload true 5 h12 t19).bind fun t20 => bindVH (anew 5 h12 (.agg [(.slice [] .nil), (.int .i64 0), (.int .i64 0), (.int .i64 0), (.int .i64 0)])) fun t21 h22 => (astore 5 h22 t21 t20).bind fun h23 => (abin .eql x8v11 x1v6).bind fun t24 => (acond t24 ((fun (t26 : AVal) (h25 : Heap) => (afieldAt 0 t21).bind fun t27 => (aload false 1 h25 t27).bind fun t28 => (asliceSl 6 t28 none (some x2v7)).bind fun t29 => bindVH (aappend 6 48 h25 t26 t29) fun t30 h31 => (afieldAt 0 t21).bind fun t32 => (aload false 1 h31 t32).bind fun t33 => (abin .add x2v7 (.int .i64 1)).bind fun t34 => (asliceSl 6 t33 (some t34) none).bind fun t35 => bindVH (aappend 6 48 h31 t30 t35) fun t36 h37 => (afieldAt 0 t21).bind fun t38 => (astore 1 h37 t38 t36).bind fun h39 => some (.normal, [x1v6, x2v7, x3v8, x6v9, x7v10, x8v11, t21], h39)) (.slice [] (.own (List.length h23))) (h23 ++ [.front 0 0])) (some (.normal, [x1v6, x2v7, x3v8, x6v9, x7v10, x8v11, t21], h23))).bind fun r40 => (fun x1v41 x2v42 x3v43 x6v44 x7v45 x8v46 x9v47 h48 => Ex.nrm r40.1 ((aload true 5 h48 x9v47).bind fun t49 => bindVH (abuildSlice 1 5 [(.slice [] .nil), (.int .i64 0), (.int .i64 0), (.int .i64 0), (.int .i64 0)] [(0, t49)] h48) fun t50 h51 => bindVH (aappend 5 56 h51 x7v45 t50) fun t52 h53 => (abin .add x8v46 (.int .i64 1)).bind fun t54 => endR m .normal [x1v41, x2v42, x3v43, x6v44, t52, t54] h53)) (List.getD r40.2.1 0 .junk) (List.getD r40.2.1 1 .junk) (List.getD r40.2.1 2 .junk) (List.getD r40.2.1 3 .junk) (List.getD r40.2.1 4 .junk) (List.getD r40.2.1 5 .junk) (List.getD r40.2.1 6 .junk) r40.2.2) (endR m (.exit 0) [x1v6, x2v7, x3v8, x6v9, x7v10, x8v11] h12)) (List.getD s.1 0 .junk) (List.getD s.1 1 .junk) (List.getD s.1 2 .junk) (List.getD s.1 3 .junk) (List.getD s.1 4 .junk) (List.getD s.1 5 .junk) s.2
noncomputable def m82 (K : CallO) (a0 a1 a2 : AVal) (h0 : Heap) : Option (Res × Heap) :=
  (bindVH (anew 5 h0 a0) fun t0 h1 => bindVH (anew 5 h1 (.agg [(.int .i64 0), (.slice [] .nil), (.slice [] .nil), (.int .i64 0), (.int .i64 0)])) fun t2 h3 => (fun (t5 : AVal) (h4 : Heap) => (lpW (m82_l0 K (List.length h4)) ([a1, a2, t0, t2, t5, (.int .i64 0)], h4)).bind fun r55 => (fun x1v57 x2v58 x3v59 x6v60 x7v61 x8v62 h63 => Ex.thenDo r55.1 none (fun e56 => Ex.inBlock 0 e56 ((afieldAt 2 x3v59).bind fun t65 => (astore 1 h63 t65 x7v61).bind fun h66 => (aload true 5 h66 x3v59).bind fun t67 => (astore 5 h66 x6v60 t67).bind fun h68 => some (.ret, [x6v60], h68)) (fun e64 => some (e64, [x6v60], h63)))) (List.getD r55.2.1 0 .junk) (List.getD r55.2.1 1 .junk) (List.getD r55.2.1 2 .junk) (List.getD r55.2.1 3 .junk) (List.getD r55.2.1 4 .junk) (List.getD r55.2.1 5 .junk) r55.2.2) (.slice [] (.own (List.length h3))) (h3 ++ [.front 0 0])).bind fun r69 => (fun x6v70 h71 => Ex.endF r69.1 ((aload true 5 h71 x6v70).bind fun t72 => finR (List.length h0) t72 h71)) (List.getD r69.2.1 0 .junk) r69.2.2
theorem m82_eq (K : CallO) (a0 a1 a2 : AVal) (h0 : Heap) : evB Tryd.prog ann lpW K 82 [a0, a1, a2] h0 = m82 (callP ann K) a0 a1 a2 h0 := by kernel_rfl

/- slices.BinarySearch[[]int,int] -/
noncomputable def m156_l0 (K : CallO) (m : Nat) (s : List AVal × Heap) : Option R :=
  (fun x0v1 x1v2 x4v3 x5v4 x6v5 x7v6 x8v7 h8 => (abin .lss x7v6 x8v7).bind fun t9 => acond t9 ((abin .add x7v6 x8v7).bind fun t10 => (aconvInt .u64 t10).bind fun t11 => (abin .shr t11 (.int .u64 1)).bind fun t12 => (aconvInt .i64 t12).bind fun t13 => (aindexSl 1 x0v1 t13).bind fun t14 => (aload false 1 h8 t14).bind fun t15 => bindRes (K 189 [(AVal.untok t15), (AVal.untok x1v2)] h8) (fun t16 h17 => (acond t16 ((abin .add t13 (.int .i64 1)).bind fun t18 => some (.normal, [x0v1, x1v2, x4v3, x5v4, x6v5, t18, x8v7], h17)) (some (.normal, [x0v1, x1v2, x4v3, x5v4, x6v5, x7v6, t13], h17))).bind fun r19 => (fun x0v20 x1v21 x4v22 x5v23 x6v24 x7v25 x8v26 h27 => Ex.nrm r19.1 (endR m .normal [x0v20, x1v21, x4v22, x5v23, x6v24, x7v25, x8v26] h27)) (List.getD r19.2.1 0 .junk) (List.getD r19.2.1 1 .junk) (List.getD r19.2.1 2 .junk) (List.getD r19.2.1 3 .junk) (List.getD r19.2.1 4 .junk) (List.getD r19.2.1 5 .junk) (List.getD r19.2.1 6 .junk) r19.2.2) (fun _ _ => none)) (endR m (.exit 0) [x0v1, x1v2, x4v3, x5v4, x6v5, x7v6, x8v7] h8)) (List.getD s.1 0 .junk) (List.getD s.1 1 .junk) (List.getD s.1 2 .junk) (List.getD s.1 3 .junk) (List.getD s.1 4 .junk) (List.getD s.1 5 .junk) (List.getD s.1 6 .junk) s.2
noncomputable def m156 (K : CallO) (a0 a1 : AVal) (h0 : Heap) : Option (Res × Heap) :=
  ((alenSl a0).bind fun t0 => (lpW (m156_l0 K (List.length h0)) ([a0, a1, (.int .i64 0), (.bool false), t0, (.int .i64 0), t0], h0)).bind fun r28 => (fun x0v30 x1v31 x4v32 x5v33 x6v34 x7v35 x8v36 h37 => Ex.thenDo r28.1 none (fun e29 => Ex.inBlock 0 e29 ((abin .lss x7v35 x6v34).bind fun t39 => (guardSel true t39 (kv0 x0v30 h37) (kv0 (.tuple []) h37)).bind (fin0 (fun t40 h41 => (guardSel true t39 (kv0 x7v35 h41) (kv0 (.tuple []) h41)).bind (fin0 (fun t42 h43 => (guardSel true t39 ((aindexSl 1 t40 t42).bind fun t44 => kv0 t44 h43) (kv0 (.tuple []) h43)).bind (fin0 (fun t45 h46 => (guardSel true t39 ((aload false 1 h46 t45).bind fun t47 => kv0 t47 h46) (kv0 (.tuple []) h46)).bind (fin0 (fun t48 h49 => (guardSel true t39 (kv0 x1v31 h49) (kv0 (.tuple []) h49)).bind (fin0 (fun t50 h51 => (guardSel true t39 ((abin .eql t48 t50).bind fun t52 => kv0 t52 h51) (kv0 (.tuple []) h51)).bind (fin0 (fun t53 h54 => (guardSel true t39 (kv0 t53 h54) (kv0 (.tuple []) h54)).bind (fin0 (fun t55 h56 => (guardSel false t55 (kv0 x0v30 h56) (kv0 (.tuple []) h56)).bind (fin0 (fun t57 h58 => (guardSel false t55 (kv0 x7v35 h58) (kv0 (.tuple []) h58)).bind (fin0 (fun t59 h60 => (guardSel false t55 ((aindexSl 1 t57 t59).bind fun t61 => kv0 t61 h60) (kv0 (.tuple []) h60)).bind (fin0 (fun t62 h63 => (guardSel false t55 ((aload false 1 h63 t62).bind fun t64 => kv0 t64 h63) (kv0 (.tuple []) h63)).bind (fin0 (fun t65 h66 => (guardSel false t55 (bindRes (K 190 [(AVal.untok t65)] h66) (fun t67 h68 => kv0 t67 h68) kp0) (kv0 (.tuple []) h66)).bind (fin0 (fun t69 h70 => (guardSel false t55 (kv0 t69 h70) (kv0 (.tuple []) h70)).bind (fin0 (fun t71 h72 => (guardSel true t71 (kv0 x1v31 h72) (kv0 (.tuple []) h72)).bind (fin0 (fun t73 h74 => (guardSel true t71 (bindRes (K 190 [(AVal.untok t73)] h74) (fun t75 h76 => kv0 t75 h76) kp0) (kv0 (.tuple []) h74)).bind (fin0 (fun t77 h78 => (guardSel false t55 ((apick t71 t77 (.bool false)).bind fun t79 => kv0 t79 h78) (kv0 (.tuple []) h78)).bind (fin0 (fun t80 h81 => (guardSel true t39 ((apick t55 (.bool true) t80).bind fun t82 => kv0 t82 h81) (kv0 (.tuple []) h81)).bind (fin0 (fun t83 h84 => (apick t39 t83 (.bool false)).bind fun t85 => some (.ret, [x7v35, t85], h84)) (fun _ _ => none))) (fun _ _ => none))) (fun _ _ => none))) (fun _ _ => none))) (fun _ _ => none))) (fun _ _ => none))) (fun _ _ => none))) (fun _ _ => none))) (fun _ _ => none))) (fun _ _ => none))) (fun _ _ => none))) (fun _ _ => none))) (fun _ _ => none))) (fun _ _ => none))) (fun _ _ => none))) (fun _ _ => none))) (fun _ _ => none))) (fun e38 => some (e38, [x4v32, x5v33], h37)))) (List.getD r28.2.1 0 .junk) (List.getD r28.2.1 1 .junk) (List.getD r28.2.1 2 .junk) (List.getD r28.2.1 3 .junk) (List.getD r28.2.1 4 .junk) (List.getD r28.2.1 5 .junk) (List.getD r28.2.1 6 .junk) r28.2.2).bind fun r86 => (fun x4v87 x5v88 h89 => Ex.endF r86.1 (finR (List.length h0) (.tuple [x4v87, x5v88]) h89)) (List.getD r86.2.1 0 .junk) (List.getD r86.2.1 1 .junk) r86.2.2
theorem m156_eq (K : CallO) (a0 a1 : AVal) (h0 : Heap) : evB Tryd.prog ann lpW K 156 [a0, a1] h0 = m156 (callP ann K) a0 a1 h0 := by kernel_rfl

/- hauberk/dead.pure -/
noncomputable def m157 (K : CallO) (a0 : AVal) (h0 : Heap) : Option (Res × Heap) :=
  (bindVH (anew 6 h0 a0) fun t0 h1 => (afieldAt 0 t0).bind fun t2 => (aload false 1 h1 t2).bind fun t3 => (abin .neq t3 (.int .i64 18)).bind fun t4 => (guardSel true t4 ((afieldAt 0 t0).bind fun t5 => kv0 t5 h1) (kv0 (.tuple []) h1)).bind (fin0 (fun t6 h7 => (guardSel true t4 ((aload false 1 h7 t6).bind fun t8 => kv0 t8 h7) (kv0 (.tuple []) h7)).bind (fin0 (fun t9 h10 => (guardSel true t4 ((abin .neq t9 (.int .i64 19)).bind fun t11 => kv0 t11 h10) (kv0 (.tuple []) h10)).bind (fin0 (fun t12 h13 => (apick t4 t12 (.bool false)).bind fun t14 => (guardSel true t14 ((aload true 6 h13 t0).bind fun t15 => kv0 t15 h13) (kv0 (.tuple []) h13)).bind (fin0 (fun t16 h17 => (guardSel true t14 (bindRes (K 73 [(AVal.untok t16)] h17) (fun t18 h19 => kv0 t18 h19) kp0) (kv0 (.tuple []) h17)).bind (fin0 (fun t20 h21 => (apick t14 t20 (.bool false)).bind fun t22 => some (.ret, [t22], h21)) (fun _ _ => none))) (fun _ _ => none))) (fun _ _ => none))) (fun _ _ => none))) (fun _ _ => none))).bind fun r23 => (fun x2v24 h25 => Ex.endF r23.1 (finR (List.length h0) x2v24 h25)) (List.getD r23.2.1 0 .junk) r23.2.2
theorem m157_eq (K : CallO) (a0 : AVal) (h0 : Heap) : evB Tryd.prog ann lpW K 157 [a0] h0 = m157 (callP ann K) a0 h0 := by kernel_rfl

/- cmp.isNaN[int] -/
noncomputable def m162 (K : CallO) (a0 : AVal) (h0 : Heap) : Option (Res × Heap) :=
  ((abin .neq a0 a0).bind fun t0 => some (.ret, [t0], h0)).bind fun r1 => (fun x2v2 h3 => Ex.endF r1.1 (finR (List.length h0) x2v2 h3)) (List.getD r1.2.1 0 .junk) r1.2.2
theorem m162_eq (K : CallO) (a0 : AVal) (h0 : Heap) : evB Tryd.prog ann lpW K 162 [a0] h0 = m162 (callP ann K) a0 h0 := by kernel_rfl

/- cmp.Less[int] -/
noncomputable def m189 (K : CallO) (a0 a1 : AVal) (h0 : Heap) : Option (Res × Heap) :=
  (bindRes (K 162 [(AVal.untok a0)] h0) (fun t0 h1 => (guardSel true t0 (kv0 a1 h1) (kv0 (.tuple []) h1)).bind (fin0 (fun t2 h3 => (guardSel true t0 (bindRes (K 162 [(AVal.untok t2)] h3) (fun t4 h5 => kv0 t4 h5) kp0) (kv0 (.tuple []) h3)).bind (fin0 (fun t6 h7 => (guardSel true t0 ((aun .not t6).bind fun t8 => kv0 t8 h7) (kv0 (.tuple []) h7)).bind (fin0 (fun t9 h10 => (apick t0 t9 (.bool false)).bind fun t11 => (guardSel false t11 (kv0 a0 h10) (kv0 (.tuple []) h10)).bind (fin0 (fun t12 h13 => (guardSel false t11 (kv0 a1 h13) (kv0 (.tuple []) h13)).bind (fin0 (fun t14 h15 => (guardSel false t11 ((abin .lss t12 t14).bind fun t16 => kv0 t16 h15) (kv0 (.tuple []) h15)).bind (fin0 (fun t17 h18 => (apick t11 (.bool true) t17).bind fun t19 => some (.ret, [t19], h18)) (fun _ _ => none))) (fun _ _ => none))) (fun _ _ => none))) (fun _ _ => none))) (fun _ _ => none))) (fun _ _ => none))) (fun _ _ => none)).bind fun r20 => (fun x4v21 h22 => Ex.endF r20.1 (finR (List.length h0) x4v21 h22)) (List.getD r20.2.1 0 .junk) r20.2.2
theorem m189_eq (K : CallO) (a0 a1 : AVal) (h0 : Heap) : evB Tryd.prog ann lpW K 189 [a0, a1] h0 = m189 (callP ann K) a0 a1 h0 := by kernel_rfl

/- slices.isNaN[int] -/
noncomputable def m190 (K : CallO) (a0 : AVal) (h0 : Heap) : Option (Res × Heap) :=
  ((abin .neq a0 a0).bind fun t0 => some (.ret, [t0], h0)).bind fun r1 => (fun x2v2 h3 => Ex.endF r1.1 (finR (List.length h0) x2v2 h3)) (List.getD r1.2.1 0 .junk) r1.2.2
theorem m190_eq (K : CallO) (a0 : AVal) (h0 : Heap) : evB Tryd.prog ann lpW K 190 [a0] h0 = m190 (callP ann K) a0 h0 := by kernel_rfl

end Go.Proofs.YtkeoalhglkfbkaaDoor

/-
  Operations that are dead are taken out: in which order does not matter. No conditions.
-/
namespace Go.Proofs.YtkeoalhglkfbkaaDoor
open Go Hk

/-- May an operation be taken out, if what it makes is not wanted? -/
def pureS (o : Op) : Bool := decide (o.kind ≠ 18) && decide (o.kind ≠ 19) && (formS o.kind).dst
def behindS (bs : List Blk) (x : Term) : Int → Prop := fun t => Behind bs t x

/-- One dead operation is taken out. -/
def Step (bs bs' : List Blk) : Prop := ∃ (i : Nat) (b : Blk) (pre : List Op) (o : Op) (post : List Op), bs[i]? = some b ∧ b.ops = pre ++ o :: post ∧ pureS o = true ∧ ¬ trOps post b.term (behindS bs b.term) o.dst ∧ bs' = bs.set i ⟨pre ++ post, b.term⟩
inductive Star : List Blk → List Blk → Prop
  | refl (a) : Star a a
  | head {a b c} : Step a b → Star b c → Star a c
theorem Star.trans {a b c : List Blk} (h : Star a b) (h' : Star b c) : Star a c := by
  induction h with
  | refl => exact h'
  | head s _ ih => exact .head s (ih h')
theorem Star.snoc {a b c : List Blk} (h : Star a b) (h' : Step b c) : Star a c := h.trans (.head h' (.refl _))
def Norm (bs : List Blk) : Prop := ∀ bs', ¬ Step bs bs'

theorem trOps_cons (o : Op) (r : List Op) (x : Term) (S : Int → Prop) (t : Int) : trOps (o :: r) x S t ↔ t ∈ usesS o ∨ (trOps r x S t ∧ ¬((formS o.kind).dst = true ∧ o.dst = t)) := Iff.rfl
theorem trOps_app_mono {r r' : List Op} {x x' : Term} {S S' : Int → Prop} (h : ∀ t, trOps r x S t → trOps r' x' S' t) : ∀ (l : List Op) (t : Int), trOps (l ++ r) x S t → trOps (l ++ r') x' S' t
  | [], t => h t
  | o :: l, t => fun ht => by
    rw [List.cons_append, trOps_cons] at ht ⊢
    rcases ht with h1 | ⟨h1, h2⟩
    · exact .inl h1
    · exact .inr ⟨trOps_app_mono h l t h1, h2⟩
/-- Without a dead operation no more is wanted. -/
theorem trOps_without {o : Op} {post : List Op} {x : Term} {S : Int → Prop} (hd : ¬ trOps post x S o.dst) (pre : List Op) (t : Int) : trOps (pre ++ post) x S t → trOps (pre ++ o :: post) x S t :=
  trOps_app_mono (fun t ht => by
    rw [trOps_cons]
    exact .inr ⟨ht, fun ⟨_, h⟩ => hd (h ▸ ht)⟩) pre t

theorem step_reach {bs bs' : List Blk} (h : Step bs bs') {t : Int} {k : Nat} (hr : Reach bs' t k) : Reach bs t k := by
  obtain ⟨i, b, pre, o, post, hb, ho, hp, hd, rfl⟩ := h
  refine live_complete (W := fun k t => Reach bs t k) (fun k b' hb' t ht => ?_) hr
  rw [List.getElem?_set] at hb'
  by_cases hik : i = k
  · subst hik
    have hi : i < bs.length := (List.getElem?_eq_some_iff.1 hb).1
    rw [if_pos rfl, if_pos hi] at hb'
    cases hb'
    rw [reach_iff hb]
    unfold trBlk at ht ⊢
    rw [ho]
    exact trOps_without hd pre t ht
  · rw [if_neg hik] at hb'
    rw [reach_iff hb']
    exact ht
theorem step_behind {bs bs' : List Blk} (h : Step bs bs') {x : Term} {t : Int} (hr : behindS bs' x t) : behindS bs x t := by
  obtain ⟨j, hj, h1⟩ := hr
  exact ⟨j, hj, step_reach h h1⟩
theorem star_behind {bs bs' : List Blk} (h : Star bs bs') {x : Term} {t : Int} (hr : behindS bs' x t) : behindS bs x t := by
  induction h with
  | refl => exact hr
  | head s _ ih => exact step_behind s (ih hr)

/-- What is dead is dead without another one, too. -/
theorem step_diamond {bs q1 q2 : List Blk} (h1 : Step bs q1) (h2 : Step bs q2) : q1 = q2 ∨ ∃ r, Step q1 r ∧ Step q2 r := by
  have g1 := h1
  have g2 := h2
  obtain ⟨i, b, pre, o, post, hb, ho, hp, hd, rfl⟩ := h1
  obtain ⟨j, c, pre2, u, post2, hc, hu, hq, he, rfl⟩ := h2
  have hi : i < bs.length := (List.getElem?_eq_some_iff.1 hb).1
  have hj : j < bs.length := (List.getElem?_eq_some_iff.1 hc).1
  have mono1 : ∀ x t, behindS (bs.set i ⟨pre ++ post, b.term⟩) x t → behindS bs x t := fun x t => step_behind g1
  have mono2 : ∀ x t, behindS (bs.set j ⟨pre2 ++ post2, c.term⟩) x t → behindS bs x t := fun x t => step_behind g2
  by_cases hij : i = j
  · subst hij
    rw [hb] at hc; cases hc
    rw [ho] at hu
    -- one of them stands ahead
    have key : ∀ (pre post pre2 post2 mid : List Op) (o u : Op), b.ops = pre ++ o :: post → pre2 = pre ++ o :: mid → post = mid ++ u :: post2 → pureS o = true → pureS u = true →
        ¬ trOps post b.term (behindS bs b.term) o.dst → ¬ trOps post2 b.term (behindS bs b.term) u.dst →
        (∀ x t, behindS (bs.set i ⟨pre ++ post, b.term⟩) x t → behindS bs x t) → (∀ x t, behindS (bs.set i ⟨pre2 ++ post2, b.term⟩) x t → behindS bs x t) →
        ∃ r, Step (bs.set i ⟨pre ++ post, b.term⟩) r ∧ Step (bs.set i ⟨pre2 ++ post2, b.term⟩) r := by
      intro pre post pre2 post2 mid o u ho e1 e2 hp hq hd he m1 m2
      subst e1; subst e2
      refine ⟨bs.set i ⟨pre ++ (mid ++ post2), b.term⟩, ⟨i, ⟨pre ++ (mid ++ u :: post2), b.term⟩, pre ++ mid, u, post2, ?_, ?_, hq, ?_, ?_⟩, ⟨i, ⟨pre ++ o :: mid ++ post2, b.term⟩, pre, o, mid ++ post2, ?_, ?_, hp, ?_, ?_⟩⟩
      · simp [hi]
      · simp
      · exact fun h => he (trOps_mono (fun t => m1 _ t) h)
      · simp
      · simp [hi]
      · simp
      · intro h
        refine hd (trOps_without he mid _ (trOps_mono (fun t => m2 _ t) h))
      · simp
    rcases List.append_eq_append_iff.1 hu with ⟨m, e1, e2⟩ | ⟨m, e1, e2⟩
    · cases m with
      | nil =>
        simp only [List.append_nil, List.nil_append, List.cons.injEq] at e1 e2
        obtain ⟨rfl, rfl⟩ := e2
        subst e1
        exact .inl rfl
      | cons x m =>
        simp only [List.cons_append, List.cons.injEq] at e2
        obtain ⟨rfl, e2⟩ := e2
        exact .inr (key pre post pre2 post2 m o u ho e1 e2 hp hq hd he mono1 mono2)
    · cases m with
      | nil =>
        simp only [List.append_nil, List.nil_append, List.cons.injEq] at e1 e2
        obtain ⟨rfl, rfl⟩ := e2
        subst e1
        exact .inl rfl
      | cons x m =>
        simp only [List.cons_append, List.cons.injEq] at e2
        obtain ⟨rfl, e2⟩ := e2
        obtain ⟨r, r1, r2⟩ := key pre2 post2 pre post m u o (ho.trans hu) e1 e2 hq hp he hd mono2 mono1
        exact .inr ⟨r, r2, r1⟩
  · refine .inr ⟨(bs.set i ⟨pre ++ post, b.term⟩).set j ⟨pre2 ++ post2, c.term⟩, ⟨j, c, pre2, u, post2, ?_, hu, hq, ?_, rfl⟩, ⟨i, b, pre, o, post, ?_, ho, hp, ?_, ?_⟩⟩
    · rw [List.getElem?_set_ne hij]; exact hc
    · exact fun h => he (trOps_mono (fun t => mono1 _ t) h)
    · rw [List.getElem?_set_ne (Ne.symm hij)]; exact hb
    · exact fun h => hd (trOps_mono (fun t => mono2 _ t) h)
    · exact List.set_comm _ _ hij

theorem star_strip {a a' q : List Blk} (h : Star a q) (hn : Norm q) (s : Step a a') : Star a' q := by
  induction h generalizing a' with
  | refl => exact absurd s (hn _)
  | head s1 _ ih =>
    rcases step_diamond s1 s with rfl | ⟨r, r1, r2⟩
    · assumption
    · exact .head r2 (ih hn r1)
/-- One normal form alone. -/
theorem norm_unique {a q1 q2 : List Blk} (h1 : Star a q1) (n1 : Norm q1) (h2 : Star a q2) (n2 : Norm q2) : q1 = q2 := by
  induction h1 with
  | refl => cases h2 with
    | refl => rfl
    | head s _ => exact absurd s (n1 _)
  | head s _ ih => exact ih n1 (star_strip h2 n2 s)

/-! ### All that is dead at once -/
open Classical in
noncomputable def filtS (x : Term) (S : Int → Prop) : List Op → List Op
  | [] => []
  | o :: r => if pureS o = true ∧ ¬ trOps r x S o.dst then filtS x S r else o :: filtS x S r
theorem filtS_len (x : Term) (S : Int → Prop) : ∀ l, (filtS x S l).length ≤ l.length
  | [] => Nat.le_refl _
  | o :: r => by
    have := filtS_len x S r
    unfold filtS
    split <;> simp <;> omega
theorem filtS_all (x : Term) (S : Int → Prop) : ∀ {l}, (filtS x S l).length = l.length → filtS x S l = l ∧ ∀ pre o post, l = pre ++ o :: post → ¬(pureS o = true ∧ ¬ trOps post x S o.dst)
  | [], _ => ⟨rfl, fun pre o post h => by simp at h⟩
  | o :: r, h => by
    have hl := filtS_len x S r
    unfold filtS at h ⊢
    split at h
    · simp at h; omega
    · rename_i hc
      rw [if_neg hc]
      obtain ⟨i1, i2⟩ := filtS_all x S (l := r) (by simpa using h)
      refine ⟨by rw [i1], fun pre u post hp => ?_⟩
      cases pre with
      | nil => simp at hp; obtain ⟨rfl, rfl⟩ := hp; exact hc
      | cons y pre => simp at hp; exact i2 pre u post hp.2
theorem star_block {bs cur : List Blk} {i : Nat} {x : Term} (hs : Star bs cur) : ∀ (l acc : List Op), cur[i]? = some ⟨acc ++ l, x⟩ → Star bs (cur.set i ⟨acc ++ filtS x (behindS bs x) l, x⟩) := by
  intro l
  induction l generalizing cur with
  | nil =>
    intro acc h
    have e : cur.set i ⟨acc ++ filtS x (behindS bs x) [], x⟩ = cur := by
      have hi := (List.getElem?_eq_some_iff.1 h).1
      have hg := (List.getElem?_eq_some_iff.1 h).2
      show cur.set i ⟨acc ++ [], x⟩ = cur
      rw [← hg, List.set_getElem_self]
    rw [e]; exact hs
  | cons o r ih =>
    intro acc h
    have hi := (List.getElem?_eq_some_iff.1 h).1
    unfold filtS
    split
    · rename_i hc
      have st : Step cur (cur.set i ⟨acc ++ r, x⟩) := ⟨i, ⟨acc ++ o :: r, x⟩, acc, o, r, h, rfl, hc.1, fun ht => hc.2 (trOps_mono (fun t hb => star_behind hs hb) ht), rfl⟩
      have := ih (hs.snoc st) acc (by simp [hi])
      rwa [List.set_set] at this
    · have := ih hs (acc ++ [o]) (by rw [h]; simp)
      simpa using this
/-- A round: every block without what is dead. -/
noncomputable def roundS (bs : List Blk) : List Blk := bs.map fun b => ⟨filtS b.term (behindS bs b.term) b.ops, b.term⟩
theorem star_round (bs : List Blk) : Star bs (roundS bs) := by
  have key : ∀ i, i ≤ bs.length → Star bs ((roundS bs).take i ++ bs.drop i) := by
    intro i
    induction i with
    | zero => intro _; simpa using Star.refl bs
    | succ i ih =>
      intro hi
      have h0 := ih (by omega)
      have hl : ((roundS bs).take i).length = i := by simp [roundS]; omega
      have hb : ((roundS bs).take i ++ bs.drop i)[i]? = some (bs[i]) := by
        rw [List.getElem?_append_right (by omega), hl, Nat.sub_self, List.getElem?_drop, Nat.add_zero, List.getElem?_eq_getElem (by omega)]
      have := star_block (x := bs[i].term) h0 bs[i].ops [] hb
      have e : ((roundS bs).take i ++ bs.drop i).set i ⟨[] ++ filtS bs[i].term (behindS bs bs[i].term) bs[i].ops, bs[i].term⟩ = (roundS bs).take (i + 1) ++ bs.drop (i + 1) := by
        rw [List.set_append_right _ _ (by omega), hl, Nat.sub_self, List.drop_eq_getElem_cons (by omega : i < bs.length), List.set_cons_zero, List.take_succ_eq_append_getElem (by simp [roundS]; omega)]
        simp [roundS]
      rw [e] at this
      exact this
  have h := key bs.length (Nat.le_refl _)
  have e : (roundS bs).take bs.length = roundS bs := List.take_of_length_le (by simp [roundS])
  rw [e, List.drop_length, List.append_nil] at h
  exact h
def nOps (bs : List Blk) : Nat := (bs.map fun b => b.ops.length).sum
theorem round_norm {bs : List Blk} (h : ∀ b ∈ bs, (filtS b.term (behindS bs b.term) b.ops).length = b.ops.length) : roundS bs = bs ∧ Norm bs := by
  constructor
  · unfold roundS
    have : bs.map (fun b => (⟨filtS b.term (behindS bs b.term) b.ops, b.term⟩ : Blk)) = bs.map id := List.map_congr_left fun b hb => by
      rw [(filtS_all _ _ (h b hb)).1]; rfl
    rw [this, List.map_id]
  · rintro q ⟨i, b, pre, o, post, hb, ho, hp, hd, _⟩
    exact (filtS_all _ _ (h b (List.mem_of_getElem? hb))).2 pre o post ho ⟨hp, hd⟩
end Go.Proofs.YtkeoalhglkfbkaaDoor

/-
  Functions of dead: what may be taken out; a number is looked for in a rising list. No conditions.
-/
namespace Go.Proofs.YtkeoalhglkfbkaaDoor
open Go Hk Go.Proofs.Wd

theorem c157 (o : Op) (h : Heap) : KK 157 [.agg o.cells] h = some (.ret (.bool (pureS o)), h) := by
  refine callP_pure rfl rfl (evW_by (m157_eq _ _ _) ?_)
  have an : anew 6 [] (.agg o.cells) = some (.ptr 0 0, [.cells o.cells]) := by simp [Op.cells]
  have ag : afieldAt 0 (.ptr 0 0) = some (.ptr 0 0) := rfl
  have l0 : aload false 1 [.cells o.cells] (.ptr 0 0) = some (.int .i64 o.kind) := by simp [Op.cells]
  have l1 : aload true 6 [.cells o.cells] (.ptr 0 0) = some (.agg o.cells) := by simp [Op.cells]
  have u : (AVal.agg o.cells).untok = .agg o.cells := rfl
  have o6 : o.cells.length = 6 := rfl
  have o7 : o.cells.take 6 = o.cells := rfl
  have g := c73 o
  by_cases h1 : o.kind = 18
  · simp -implicitDefEqProofs [m157, -aload_ptr, -anew, an, ag, l0, l1, o6, o7, u, g, h1, pureS, finR_zero]
  · by_cases h2 : o.kind = 19
    · simp -implicitDefEqProofs [m157, -aload_ptr, -anew, an, ag, l0, l1, o6, o7, u, g, h1, h2, pureS, finR_zero]
    · cases hd : (formS o.kind).dst <;> rw [hd] at g <;> simp -implicitDefEqProofs [m157, -aload_ptr, -anew, an, ag, l0, l1, o6, o7, u, g, h1, h2, hd, pureS, finR_zero]
theorem c162 (a : Int) (h : Heap) : KK 162 [.int .i64 a] h = some (.ret (.bool false), h) := by
  refine callP_pure rfl rfl (evW_by (m162_eq _ _ _) ?_)
  simp [m162, finR_zero]
theorem c190 (a : Int) (h : Heap) : KK 190 [.int .i64 a] h = some (.ret (.bool false), h) := by
  refine callP_pure rfl rfl (evW_by (m190_eq _ _ _) ?_)
  simp [m190, finR_zero]
theorem c189 (a b : Int) (h : Heap) : KK 189 [.int .i64 a, .int .i64 b] h = some (.ret (.bool (decide (a < b))), h) := by
  refine callP_pure rfl rfl (evW_by (m189_eq _ _ _ _) ?_)
  have g := c162
  by_cases h1 : a < b <;> simp -implicitDefEqProofs [m189, g, h1, finR_zero]

theorem wrapU64 {n : Int} (h1 : 0 ≤ n) (h2 : n ≤ 9223372036854775807) : IntKind.wrap .u64 n = n := by
  simp only [IntKind.wrap, IntKind.bits, IntKind.signed]
  simp
  omega
theorem m156_loop {l : List Int} {t : Int} (hl : l.length ≤ 2000000) (hr : l.Pairwise (· < ·)) : ∀ (d i j : Nat), j - i ≤ d → i ≤ j → j ≤ l.length → (∀ k, k < i → ∀ x, l[k]? = some x → x < t) → (∀ k x, j ≤ k → l[k]? = some x → t ≤ x) →
    ∃ i' : Nat, i' ≤ l.length ∧ (∀ k, k < i' → ∀ x, l[k]? = some x → x < t) ∧ (∀ k x, i' ≤ k → l[k]? = some x → t ≤ x) ∧
    lpW (m156_l0 KK 0) ([.slice (ints l) .no, .int .i64 t, .int .i64 0, .bool false, .int .i64 (l.length : Int), .int .i64 (i : Int), .int .i64 (j : Int)], []) =
    some (.exit 0, [.slice (ints l) .no, .int .i64 t, .int .i64 0, .bool false, .int .i64 (l.length : Int), .int .i64 (i' : Int), .int .i64 (i' : Int)], []) := by
  intro d
  induction d with
  | zero =>
    intro i j hd hij hj h1 h2
    obtain rfl : i = j := by omega
    refine ⟨i, hj, h1, h2, lp_exit ?_⟩
    unfold m156_l0
    simp -implicitDefEqProofs [endR, trunc]
  | succ d ih =>
    intro i j hd hij hj h1 h2
    by_cases hlt : i < j
    · have hm : (i + j) / 2 < l.length := by omega
      have hm1 : i ≤ (i + j) / 2 := by omega
      have hm2 : (i + j) / 2 < j := by omega
      have hx := List.getElem?_eq_getElem hm
      generalize l[(i + j) / 2] = x at hx
      have lo : ∀ k y, l[k]? = some y → k < (i + j) / 2 → y < x := by
        intro k y hy hk
        have hk' := (List.getElem?_eq_some_iff.1 hy).1
        have := List.pairwise_iff_getElem.1 hr k ((i + j) / 2) hk' hm hk
        rw [(List.getElem?_eq_some_iff.1 hy).2, (List.getElem?_eq_some_iff.1 hx).2] at this
        exact this
      have hi : ∀ k y, l[k]? = some y → (i + j) / 2 < k → x < y := by
        intro k y hy hk
        have hk' := (List.getElem?_eq_some_iff.1 hy).1
        have := List.pairwise_iff_getElem.1 hr ((i + j) / 2) k hm hk' hk
        rw [(List.getElem?_eq_some_iff.1 hy).2, (List.getElem?_eq_some_iff.1 hx).2] at this
        exact this
      have a1 : abin .add (.int .i64 (i : Int)) (.int .i64 (j : Int)) = some (.int .i64 ((i + j : Nat) : Int)) := by
        have : IntKind.i64.wrap ((i : Int) + (j : Int)) = ((i + j : Nat) : Int) := by rw [wrap64 (by omega) (by omega), Int.natCast_add]
        simp [this]
      have a2 : aconvInt .u64 (.int .i64 ((i + j : Nat) : Int)) = some (.int .u64 ((i + j : Nat) : Int)) := by
        have : IntKind.u64.wrap ((i + j : Nat) : Int) = ((i + j : Nat) : Int) := wrapU64 (by omega) (by omega)
        rw [aconvInt_int, this]
      have a3 : abin .shr (.int .u64 ((i + j : Nat) : Int)) (.int .u64 1) = some (.int .u64 (((i + j) / 2 : Nat) : Int)) := by
        have e : min (1 : Int).toNat (IntKind.bits .u64) = 1 := rfl
        unfold abin
        simp only [e]
        rw [if_neg (by decide), Int.fdiv_eq_ediv_of_nonneg _ (by decide)]
        have : ((i + j : Nat) : Int) / 2 ^ 1 = (((i + j) / 2 : Nat) : Int) := by omega
        rw [this]
      have a4 : aconvInt .i64 (.int .u64 (((i + j) / 2 : Nat) : Int)) = some (.int .i64 (((i + j) / 2 : Nat) : Int)) := by
        rw [aconvInt_int, wrap64 (by omega) (by omega)]
      have ix : aindexSl 1 (.slice (ints l) .no) (.int .i64 (((i + j) / 2 : Nat) : Int)) = some (.pptr [.int .i64 x]) := by
        unfold ints
        rw [aindexSl_map, hx]; rfl
      have g := c189 x t
      have w1 : IntKind.i64.wrap ((((i + j) / 2 : Nat) : Int) + 1) = (((i + j) / 2 + 1 : Nat) : Int) := by rw [wrap64 (by omega) (by omega), Int.natCast_add]; rfl
      have hlt' : (i : Int) < (j : Int) := by omega
      by_cases hc : x < t
      · obtain ⟨i', q1, q2, q3, q4⟩ := ih ((i + j) / 2 + 1) j (by omega) (by omega) hj (fun k hk y hy => by
          by_cases hkm : k = (i + j) / 2
          · subst hkm; rw [hx] at hy; cases hy; exact hc
          · have := lo k y hy (by omega); omega) h2
        refine ⟨i', q1, q2, q3, ?_⟩
        rw [← q4]
        refine lp_go ?_
        generalize (((i + j) / 2 + 1 : Nat) : Int) = m1 at *
        generalize (((i + j) / 2 : Nat) : Int) = m0 at *
        generalize ((i + j : Nat) : Int) = m2 at *
        unfold m156_l0
        simp -implicitDefEqProofs [-aconvInt_int, hlt', a1, a2, a3, a4, ix, g, hc, w1, endR, trunc]
      · obtain ⟨i', q1, q2, q3, q4⟩ := ih i ((i + j) / 2) (by omega) (by omega) (by omega) h1 (fun k y hk hy => by
          by_cases hkm : k = (i + j) / 2
          · subst hkm; rw [hx] at hy; cases hy; omega
          · have := hi k y hy (by omega); omega)
        refine ⟨i', q1, q2, q3, ?_⟩
        rw [← q4]
        refine lp_go ?_
        generalize (((i + j) / 2 + 1 : Nat) : Int) = m1 at *
        generalize (((i + j) / 2 : Nat) : Int) = m0 at *
        generalize ((i + j : Nat) : Int) = m2 at *
        unfold m156_l0
        simp -implicitDefEqProofs [-aconvInt_int, hlt', a1, a2, a3, a4, ix, g, hc, endR, trunc]
    · obtain rfl : i = j := by omega
      refine ⟨i, hj, h1, h2, lp_exit ?_⟩
      unfold m156_l0
      simp -implicitDefEqProofs [endR, trunc]
theorem c156 {l : List Int} {t : Int} (hl : l.length ≤ 2000000) (hr : l.Pairwise (· < ·)) : ∃ i : Int, ∀ h, KK 156 [.slice (ints l) .no, .int .i64 t] h = some (.ret (.tuple [.int .i64 i, .bool (decide (t ∈ l))]), h) := by
  obtain ⟨i, q1, q2, q3, g⟩ := m156_loop (t := t) hl hr l.length 0 l.length (by omega) (by omega) (Nat.le_refl _) (fun k hk => by omega) (fun k x hk hx => by
    have := (List.getElem?_eq_some_iff.1 hx).1; omega)
  have e0 : ((0 : Nat) : Int) = 0 := rfl
  rw [e0] at g
  refine ⟨i, fun h => callP_pure rfl rfl (evW_by (m156_eq _ _ _ _) ?_)⟩
  have len : alenSl (.slice (ints l) .no) = some (.int .i64 (l.length : Int)) := by simp [ints]
  by_cases hi : i < l.length
  · have hi' : (i : Int) < (l.length : Int) := by omega
    have hx := List.getElem?_eq_getElem hi
    generalize l[i] = x at hx
    have hxt := q3 i x (Nat.le_refl _) hx
    have ix : aindexSl 1 (.slice (ints l) .no) (.int .i64 (i : Int)) = some (.pptr [.int .i64 x]) := by simp [ints, hx]
    have g1 := c190
    by_cases hc : x = t
    · have hm : t ∈ l := by rw [← hc]; exact List.mem_of_getElem? hx
      subst hc
      simp -implicitDefEqProofs [m156, len, g, hi', ix, hm, g1, finR_zero]
    · have hm : ¬ t ∈ l := by
        intro ht
        obtain ⟨k, hk⟩ := List.getElem?_of_mem ht
        by_cases h3 : k < i
        · have := q2 k h3 t hk; omega
        · by_cases h4 : k = i
          · subst h4; rw [hx] at hk; cases hk; exact hc rfl
          · have hkl := (List.getElem?_eq_some_iff.1 hk).1
            have := List.pairwise_iff_getElem.1 hr i k hi hkl (by omega)
            rw [(List.getElem?_eq_some_iff.1 hx).2, (List.getElem?_eq_some_iff.1 hk).2] at this
            omega
      simp -implicitDefEqProofs [m156, len, g, hi', ix, hm, hc, g1, finR_zero]
  · have hi' : ¬ (i : Int) < (l.length : Int) := by omega
    have hm : ¬ t ∈ l := by
      intro ht
      obtain ⟨k, hk⟩ := List.getElem?_of_mem ht
      have hkl := (List.getElem?_eq_some_iff.1 hk).1
      have := q2 k (by omega) t hk
      omega
    simp -implicitDefEqProofs [m156, len, g, hi', hm, finR_zero]
end Go.Proofs.YtkeoalhglkfbkaaDoor

/-
  'block' of dead: a block without what is dead. No conditions.
-/
namespace Go.Proofs.YtkeoalhglkfbkaaDoor
open Go Hk Go.Proofs.Wd

/-- What is left of operations, of what is wanted behind them. -/
def filtL (E : List Int) : List Op → List Op
  | [] => []
  | o :: r => if pureS o = true ∧ ¬ o.dst ∈ wantL r E then filtL E r else o :: filtL E r

def FRs (sz n : Nat) : ABlk := if n = 0 then .front 0 0 else .front n sz
theorem FRs_ok {sz n k : Nat} : KBn k [FRs sz n] := by
  unfold FRs; split <;> exact KBn_front KBn_nil
theorem FRs_append {α : Type} {enc : α → List AVal} {sz by_ : Nat} (hby : by_ ≤ 100) {h C : Heap} {l : List α} {z : α} (hl : l.length ≤ 2000000) {t : Hk.Tok} (hsz : (enc z).length = sz) (hpos : 0 < sz) :
    aappend sz by_ (h ++ FRs sz l.length :: C) (.slice (l.map enc) (.own h.length)) (.slice [enc z] t) = some (.slice ((l ++ [z]).map enc) (.own h.length), h ++ FRs sz (l.length + 1) :: C) := by
  have hr : ∀ H : Heap, arowsS sz H (.slice [enc z] t) = some [enc z] := fun H => by simp [hsz]
  have hg : ∀ x, (h ++ x :: C)[h.length]? = some x := fun x => by rw [List.getElem?_append_right (Nat.le_refl _), Nat.sub_self]; rfl
  have hs : ∀ x y, (h ++ x :: C).set h.length y = h ++ y :: C := fun x y => by rw [List.set_append_right _ _ (Nat.le_refl _), Nat.sub_self]; rfl
  have hi : (l.map enc).length = l.length := by simp
  have e1 : FRs sz (l.length + 1) = .front (l.length + 1) sz := by simp [FRs]
  have e2 : (l ++ [z]).map enc = l.map enc ++ [enc z] := by simp
  have hb : (l.length + 1) * by_ ≤ 140737488355328 := Nat.le_trans (Nat.mul_le_mul (Nat.le_refl _) hby) (by omega)
  unfold aappend
  simp only [hr]
  rw [hg, e1, e2]
  by_cases h0 : l.length = 0
  · have e3 : FRs sz l.length = .front 0 0 := by simp [FRs, h0]
    rw [e3]
    simp only [hi, List.length_singleton, hs]
    rw [if_pos ⟨h0, .inr ⟨trivial, trivial⟩, by omega, by omega⟩, if_neg (by omega), h0]
  · have e3 : FRs sz l.length = .front l.length sz := by simp [FRs, h0]
    rw [e3]
    simp only [hi, List.length_singleton, hs]
    rw [if_pos ⟨trivial, .inl trivial, by omega, by omega⟩, if_neg (by omega)]

/-- The heap of 'block'. -/
def H8 (b : Blk) (l : List Op) (E : Heap) : Heap :=
  .cells b.cells :: .cells [.slice [] (.own 2), .int .i64 0, .int .i64 0, .int .i64 0, .int .i64 0] :: .front 0 0 :: .cells (.slice (l.map Op.cells) (.own 4) :: b.term.cells) :: FRs 6 l.length :: E
theorem H8_KBn {b : Blk} {l : List Op} : KBn 5 (H8 b l []) :=
  KBn_cells b_CBn (KBn_cells (CBn_own (by omega) (by simp)) (KBn_front (KBn_cells (CBn_own (by omega) (by simp [Term.cells])) FRs_ok)))
theorem H8_append {b : Blk} {l : List Op} {o : Op} {C : Heap} (hl : l.length ≤ 2000000) {t : Hk.Tok} :
    ∃ H1, aappend 6 48 (H8 b l C) (.slice (l.map Op.cells) (.own 4)) (.slice [o.cells] t) = some (.slice ((l ++ [o]).map Op.cells) (.own 4), H1) ∧ astore 1 H1 (.ptr 3 0) (.slice ((l ++ [o]).map Op.cells) (.own 4)) = some (H8 b (l ++ [o]) C) := by
  have := FRs_append (enc := Op.cells) (sz := 6) (by_ := 48) (by omega) (h := [.cells b.cells, .cells [.slice [] (.own 2), .int .i64 0, .int .i64 0, .int .i64 0, .int .i64 0], .front 0 0, .cells (.slice (l.map Op.cells) (.own 4) :: b.term.cells)]) (C := C) (l := l) (z := o) hl (t := t) rfl (by omega)
  refine ⟨_, this, ?_⟩
  simp [H8, Term.cells, keep1, AVal.isNil]

theorem m80_step {b : Blk} {pts : List (List Int)} {l : List Op} {k : Nat} {o : Op} {z : List Int} (hk : b.ops[k]? = some o) (hz : pts[k + 1]? = some z) (hr : z.Pairwise (· < ·)) (hzl : z.length ≤ 2000000) (hl : l.length ≤ 2000000) (hkl : k ≤ 2000000) :
    m80_l0 KK 5 ([.ptr 1 0, listsA pts, .ptr 3 0, .slice (b.ops.map Op.cells) .no, .int .i64 (b.ops.length : Int), .int .i64 (k : Int)], H8 b l []) =
    some (.normal, [.ptr 1 0, listsA pts, .ptr 3 0, .slice (b.ops.map Op.cells) .no, .int .i64 (b.ops.length : Int), .int .i64 ((k + 1 : Nat) : Int)], H8 b (if pureS o = true ∧ ¬ o.dst ∈ z then l else l ++ [o]) []) := by
  have hkb : k < b.ops.length := (List.getElem?_eq_some_iff.1 hk).1
  have hkb' : (k : Int) < (b.ops.length : Int) := by omega
  have w1 : IntKind.i64.wrap ((k : Int) + 1) = ((k + 1 : Nat) : Int) := by rw [wrap64 (by omega) (by omega), Int.natCast_add]; rfl
  have ixo : aindexSl 6 (.slice (b.ops.map Op.cells) .no) (.int .i64 (k : Int)) = some (.pptr o.cells) := by simp [hk, Op.cells]
  have l3 : ∀ H, aload true 6 H (.pptr o.cells) = some (.agg o.cells) := by intro H; simp [Op.cells]
  have an : anew 6 (H8 b l []) (.agg [.int .i64 0, .int .i64 0, .int .i64 0, .int .i64 0, .int .i64 0, .int .i64 0]) = some (.ptr 5 0, H8 b l [.cells [.int .i64 0, .int .i64 0, .int .i64 0, .int .i64 0, .int .i64 0, .int .i64 0]]) := by simp [H8]
  have st : astore 6 (H8 b l [.cells [.int .i64 0, .int .i64 0, .int .i64 0, .int .i64 0, .int .i64 0, .int .i64 0]]) (.ptr 5 0) (.agg o.cells) = some (H8 b l [.cells o.cells]) := by simp [H8, Op.cells]
  have ixp : aindexSl 1 (listsA pts) (.int .i64 ((k + 1 : Nat) : Int)) = some (.pptr [.slice (ints z) .no]) := by
    unfold listsA
    rw [aindexSl_map, hz]; rfl
  have lz : ∀ H, aload false 1 H (.pptr [.slice (ints z) .no]) = some (.slice (ints z) .no) := by intro H; simp
  have ag1 : afieldAt 1 (.ptr 5 0) = some (.ptr 5 1) := rfl
  have ag0 : afieldAt 0 (.ptr 3 0) = some (.ptr 3 0) := rfl
  have ld : aload false 1 (H8 b l [.cells o.cells]) (.ptr 5 1) = some (.int .i64 o.dst) := by simp [H8, Op.cells]
  have lo : ∀ E, aload true 6 (H8 b l (.cells o.cells :: E)) (.ptr 5 0) = some (.agg o.cells) := by intro E; simp [H8, Op.cells]
  have ll : aload false 1 (H8 b l [.cells o.cells]) (.ptr 3 0) = some (.slice (l.map Op.cells) (.own 4)) := by simp [H8]
  have uz : AVal.untok (.slice (ints z) .no) = .slice (ints z) .no := rfl
  have uo : (AVal.agg o.cells).untok = .agg o.cells := rfl
  obtain ⟨i, g156⟩ := c156 (t := o.dst) hzl hr
  have g157 := c157 o
  have bs : abuildSlice 1 6 [.int .i64 0, .int .i64 0, .int .i64 0, .int .i64 0, .int .i64 0, .int .i64 0] [(0, .agg o.cells)] (H8 b l [.cells o.cells]) = some (.slice [o.cells] (.own 6), H8 b l [.cells o.cells, .front 1 6]) := by
    simp [abuildSlice, abuildRow, pureRow, AVal.pure1, rowsOf, H8, Op.cells]
  obtain ⟨H1, ap, sp⟩ := H8_append (b := b) (l := l) (o := o) (C := [.cells o.cells, .front 1 6]) hl (t := .own 6)
  have sn1 : ∀ h, AVal.san 5 h (listsA pts) = listsA pts := fun h => rfl
  have tr0 : trunc 5 (H8 b l [.cells o.cells]) = some (H8 b l []) := trunc_app (h := H8 b l []) (C := [.cells o.cells]) H8_KBn
  have tr1 : trunc 5 (H8 b (l ++ [o]) [.cells o.cells, .front 1 6]) = some (H8 b (l ++ [o]) []) := trunc_app (h := H8 b (l ++ [o]) []) (C := [.cells o.cells, .front 1 6]) H8_KBn
  have lo0 := lo []
  generalize ((k + 1 : Nat) : Int) = k1 at *
  obtain ⟨LM, hLM⟩ : ∃ LM, LM = (l ++ [o]).map Op.cells := ⟨_, rfl⟩
  rw [← hLM] at ap sp
  generalize hX0 : H8 b l [] = X0 at *
  generalize H8 b l [.cells [.int .i64 0, .int .i64 0, .int .i64 0, .int .i64 0, .int .i64 0, .int .i64 0]] = X1 at *
  generalize H8 b l [.cells o.cells] = X2 at *
  generalize H8 b l [.cells o.cells, .front 1 6] = X3 at *
  unfold m80_l0
  by_cases hm : o.dst ∈ z
  · rw [if_neg (fun h => h.2 hm)]
    simp -implicitDefEqProofs [-aload_ptr, -aload_ptrT, -aload_pptr, -aload_pptr1, -astore_ptr, -anew, hkb', w1, ixo, l3, an, st, ixp, lz, ag1, ag0, ld, lo0, ll, uz, uo, g156, g157, hm, bs, ap, sp, sn1, tr1, endR, san1_ptr, aextract]
  · cases hp : pureS o with
    | true =>
      rw [if_pos ⟨rfl, hm⟩]
      rw [hp] at g157
      simp -implicitDefEqProofs [-aload_ptr, -aload_ptrT, -aload_pptr, -aload_pptr1, -astore_ptr, -anew, hkb', w1, ixo, l3, an, st, ixp, lz, ag1, ag0, ld, lo0, ll, uz, uo, g156, g157, hm, hX0, sn1, tr0, endR, san1_ptr, aextract]
    | false =>
      rw [if_neg (by simp)]
      rw [hp] at g157
      simp -implicitDefEqProofs [-aload_ptr, -aload_ptrT, -aload_pptr, -aload_pptr1, -astore_ptr, -anew, hkb', w1, ixo, l3, an, st, ixp, lz, ag1, ag0, ld, lo0, ll, uz, uo, g156, g157, hm, bs, ap, sp, sn1, tr1, endR, san1_ptr, aextract]

theorem m80_loop {b : Blk} {E : List Int} (hE : E.Nodup) (hEl : ∀ k, (wantL (b.ops.drop k) E).length ≤ 1048576) (hbl : b.ops.length ≤ 1048576) : ∀ (d k : Nat) (l : List Op), b.ops.length = k + d → l.length ≤ k →
    lpW (m80_l0 KK 5) ([.ptr 1 0, listsA ((List.range (b.ops.length + 1)).map fun k => sortI (wantL (b.ops.drop k) E)), .ptr 3 0, .slice (b.ops.map Op.cells) .no, .int .i64 (b.ops.length : Int), .int .i64 (k : Int)], H8 b l []) =
    some (.exit 0, [.ptr 1 0, listsA ((List.range (b.ops.length + 1)).map fun k => sortI (wantL (b.ops.drop k) E)), .ptr 3 0, .slice (b.ops.map Op.cells) .no, .int .i64 (b.ops.length : Int), .int .i64 (b.ops.length : Int)], H8 b (l ++ filtL E (b.ops.drop k)) []) := by
  intro d
  induction d with
  | zero =>
    intro k l hk _
    obtain rfl : k = b.ops.length := by omega
    rw [List.drop_length]
    refine lp_exit ?_
    have sn1 : ∀ h z, AVal.san 5 h (listsA z) = listsA z := fun h z => rfl
    have tr0 : trunc 5 (H8 b l []) = some (H8 b l []) := trunc_app0 (h := H8 b l []) H8_KBn
    unfold m80_l0
    simp -implicitDefEqProofs [endR, sn1, tr0, san1_ptr, filtL]
  | succ d ih =>
    intro k l hk hlk
    have hkb : k < b.ops.length := by omega
    obtain ⟨o, ho⟩ : ∃ o, b.ops[k]? = some o := ⟨_, List.getElem?_eq_getElem hkb⟩
    have ed : b.ops.drop k = o :: b.ops.drop (k + 1) := by rw [List.drop_eq_getElem_cons hkb, (List.getElem?_eq_some_iff.1 ho).2]
    have hz : ((List.range (b.ops.length + 1)).map fun k => sortI (wantL (b.ops.drop k) E))[k + 1]? = some (sortI (wantL (b.ops.drop (k + 1)) E)) := by
      rw [List.getElem?_map, List.getElem?_range (by omega)]; rfl
    have hzl : (sortI (wantL (b.ops.drop (k + 1)) E)).length ≤ 2000000 := by
      have h1 : (sortI (wantL (b.ops.drop (k + 1)) E)).length = _ := (List.mergeSort_perm _ _).length_eq
      have := hEl (k + 1)
      omega
    rw [lp_go (m80_step ho hz (sortI_rising (wantL_nodup hE)) hzl (by omega) (by omega))]
    rw [ed]
    unfold filtL
    by_cases hc : pureS o = true ∧ ¬ o.dst ∈ wantL (b.ops.drop (k + 1)) E
    · have hc' : pureS o = true ∧ ¬ o.dst ∈ sortI (wantL (b.ops.drop (k + 1)) E) := ⟨hc.1, fun h => hc.2 (sortI_mem.1 h)⟩
      rw [if_pos hc, if_pos hc']
      exact ih (k + 1) l (by omega) (by omega)
    · have hc' : ¬(pureS o = true ∧ ¬ o.dst ∈ sortI (wantL (b.ops.drop (k + 1)) E)) := fun h => hc ⟨h.1, fun h1 => h.2 (sortI_mem.2 h1)⟩
      rw [if_neg hc, if_neg hc', ih (k + 1) (l ++ [o]) (by omega) (by simp; omega)]
      simp
theorem c80 {b : Blk} {out : List Int} (hEl : ∀ k, (wantL (b.ops.drop k) (endL b out)).length ≤ 1048576) (hbl : b.ops.length ≤ 1048576)
    (h31 : ∀ h, KK 31 [.agg b.cells, .slice (ints out) .no] h = some (.ret (listsA (pointsS b out)), h)) (h : Heap) :
    KK 80 [.agg b.cells, .slice (ints out) .no] h = some (.ret (.agg (Blk.cells ⟨filtL (endL b out) b.ops, b.term⟩)), h) := by
  refine callP_pure rfl rfl (evW_by (m80_eq _ _ _ _) ?_)
  have g := m80_loop (b := b) (E := endL b out) endL_nodup hEl hbl b.ops.length 0 [] (by omega) (by simp)
  have e0 : ((0 : Nat) : Int) = 0 := rfl
  rw [e0, List.drop_zero, List.nil_append] at g
  have h31' : ∀ h, KK 31 [.agg b.cells, .slice (ints out) .no] h = some (.ret (listsA ((List.range (b.ops.length + 1)).map fun k => sortI (wantL (b.ops.drop k) (endL b out)))), h) := h31
  have a0 : anew 5 [] (.agg b.cells) = some (.ptr 0 0, [.cells b.cells]) := by simp [Blk.cells]
  have a1 : anew 5 [.cells b.cells] (.agg [.slice [] .nil, .int .i64 0, .int .i64 0, .int .i64 0, .int .i64 0]) = some (.ptr 1 0, [.cells b.cells, .cells [.slice [] (.own 2), .int .i64 0, .int .i64 0, .int .i64 0, .int .i64 0], .front 0 0]) := by simp
  have l0 : ∀ E, aload true 5 (.cells b.cells :: E) (.ptr 0 0) = some (.agg b.cells) := by intro E; simp [Blk.cells]
  have ub : (AVal.agg b.cells).untok = .agg b.cells := rfl
  have uo : AVal.untok (.slice (ints out) .no) = .slice (ints out) .no := rfl
  have ag1 : afieldAt 1 (.ptr 0 0) = some (.ptr 0 1) := rfl
  have ag0 : afieldAt 0 (.ptr 0 0) = some (.ptr 0 0) := rfl
  have l1 : ∀ E, aload true 4 (.cells b.cells :: E) (.ptr 0 1) = some (.agg b.term.cells) := by intro E; simp [Blk.cells, Term.cells]
  have bd : abuild [.slice [] .nil, .int .i64 0, .int .i64 0, .int .i64 0, .int .i64 0] [(0, 1), (1, 4)] [(1, .agg b.term.cells)] = some (.agg (.slice [] .nil :: b.term.cells)) := by simp [Term.cells]
  have a2 : anew 5 [.cells b.cells, .cells [.slice [] (.own 2), .int .i64 0, .int .i64 0, .int .i64 0, .int .i64 0], .front 0 0] (.agg [.slice [] .nil, .int .i64 0, .int .i64 0, .int .i64 0, .int .i64 0]) =
      some (.ptr 3 0, [.cells b.cells, .cells [.slice [] (.own 2), .int .i64 0, .int .i64 0, .int .i64 0, .int .i64 0], .front 0 0, .cells [.slice [] (.own 4), .int .i64 0, .int .i64 0, .int .i64 0, .int .i64 0], .front 0 0]) := by simp
  have s2 : astore 5 [.cells b.cells, .cells [.slice [] (.own 2), .int .i64 0, .int .i64 0, .int .i64 0, .int .i64 0], .front 0 0, .cells [.slice [] (.own 4), .int .i64 0, .int .i64 0, .int .i64 0, .int .i64 0], .front 0 0] (.ptr 3 0) (.agg (.slice [] .nil :: b.term.cells)) =
      some (H8 b [] []) := by simp [H8, Term.cells, keep1, AVal.isNil, isFresh, FRs]
  have l2 : aload false 1 (H8 b [] []) (.ptr 0 0) = some (.slice (b.ops.map Op.cells) .no) := by simp [H8, Blk.cells]
  have lenB : alenSl (.slice (b.ops.map Op.cells) .no) = some (.int .i64 (b.ops.length : Int)) := by simp
  have l5 : (H8 b [] []).length = 5 := rfl
  have l3 : ∀ l, aload true 5 (H8 b l []) (.ptr 3 0) = some (.agg (.slice (l.map Op.cells) (.own 4) :: b.term.cells)) := by intro l; simp [H8, Term.cells]
  have fin : ∀ l, ∃ H, astore 5 (H8 b l []) (.ptr 1 0) (.agg (.slice (l.map Op.cells) (.own 4) :: b.term.cells)) = some H ∧ ((aload true 5 H (.ptr 1 0)).bind fun t82 => finR 0 t82 H) = some (.ret (.agg (Blk.cells ⟨l, b.term⟩)), []) := by
    intro l
    cases l with
    | nil => exact ⟨_, by simp [H8, Term.cells, keep1, AVal.isNil, isFresh, FRs]; rfl, rfl⟩
    | cons o r => exact ⟨_, by simp [H8, Term.cells, keep1, AVal.isNil, isFresh, FRs]; rfl, rfl⟩
  obtain ⟨H, f1, f2⟩ := fin (filtL (endL b out) b.ops)
  have l3' := l3 (filtL (endL b out) b.ops)
  generalize H8 b (filtL (endL b out) b.ops) [] = HF at *
  generalize H8 b [] [] = HI at *
  generalize (List.range (b.ops.length + 1)).map (fun k => sortI (wantL (b.ops.drop k) (endL b out))) = P at *
  unfold m80
  simp -implicitDefEqProofs [-aload_ptr, -aload_ptrT, -astore_ptr, -anew, -abuild, a0, a1, l0, ub, uo, h31', ag1, ag0, l1, bd, a2, s2, l2, lenB, l5, g, l3', f1, f2]
end Go.Proofs.YtkeoalhglkfbkaaDoor

/-
  Dead operations, plainly: what a round leaves; a program that may be stays one. No conditions.
-/
namespace Go.Proofs.YtkeoalhglkfbkaaDoor
open Go Hk Go.Proofs.Wd

/-- A program with other blocks. -/
def wB (p : IR) (bs : List Blk) : IR := ⟨p.temps, p.arrays, bs, p.inn, p.out⟩
/-- Blocks of which some operations are left. -/
inductive Sub : List Op → List Op → Prop
  | nil : Sub [] []
  | keep {o l r} : Sub l r → Sub (o :: l) (o :: r)
  | skip {o l r} : pureS o = true → Sub l r → Sub (o :: l) r
theorem Sub.refl : ∀ l, Sub l l
  | [] => .nil
  | _ :: l => .keep (Sub.refl l)
theorem Sub.trans {a b c : List Op} (h : Sub a b) (h' : Sub b c) : Sub a c := by
  induction h generalizing c with
  | nil => exact h'
  | keep h ih => cases h' with
    | keep h2 => exact .keep (ih h2)
    | skip hp h2 => exact .skip hp (ih h2)
  | skip hp h ih => exact .skip hp (ih h')
theorem Sub.mem {a b : List Op} (h : Sub a b) : ∀ o ∈ b, o ∈ a := by
  induction h with
  | nil => simp
  | keep _ ih => intro o ho; rcases List.mem_cons.1 ho with rfl | h1; · simp
                 · simp [ih o h1]
  | skip _ _ ih => intro o ho; simp [ih o ho]
theorem Sub.len {a b : List Op} (h : Sub a b) : b.length ≤ a.length := by
  induction h <;> simp <;> omega
theorem Sub.cut {o : Op} {post : List Op} (hp : pureS o = true) : ∀ pre : List Op, Sub (pre ++ o :: post) (pre ++ post)
  | [] => .skip hp (.refl _)
  | _ :: pre => .keep (Sub.cut hp pre)
/-- The blocks of one program, some operations taken out. -/
def SubB (bs q : List Blk) : Prop := bs.length = q.length ∧ ∀ (i : Nat) (b c : Blk), bs[i]? = some b → q[i]? = some c → b.term = c.term ∧ Sub b.ops c.ops
theorem SubB.refl (bs : List Blk) : SubB bs bs := ⟨rfl, fun i b c h h' => by rw [h] at h'; cases h'; exact ⟨rfl, .refl _⟩⟩
theorem SubB.trans {a b c : List Blk} (h : SubB a b) (h' : SubB b c) : SubB a c := by
  refine ⟨h.1.trans h'.1, fun i x z hx hz => ?_⟩
  obtain ⟨y, hy⟩ : ∃ y, b[i]? = some y := ⟨_, List.getElem?_eq_getElem (by rw [← h.1]; exact (List.getElem?_eq_some_iff.1 hx).1)⟩
  obtain ⟨e1, s1⟩ := h.2 i x y hx hy
  obtain ⟨e2, s2⟩ := h'.2 i y z hy hz
  exact ⟨e1.trans e2, s1.trans s2⟩
theorem step_subB {a b : List Blk} (h : Step a b) : SubB a b := by
  obtain ⟨i, x, pre, o, post, hx, ho, hp, _, rfl⟩ := h
  refine ⟨by simp, fun j y z hy hz => ?_⟩
  rw [List.getElem?_set] at hz
  have hi := (List.getElem?_eq_some_iff.1 hx).1
  by_cases hij : i = j
  · subst hij
    rw [hx] at hy; cases hy
    rw [if_pos rfl, if_pos hi] at hz
    cases hz
    exact ⟨rfl, by rw [ho]; exact Sub.cut hp pre⟩
  · rw [if_neg hij, hy] at hz
    cases hz
    exact ⟨rfl, .refl _⟩
theorem star_subB {a b : List Blk} (h : Star a b) : SubB a b := by
  induction h with
  | refl => exact .refl _
  | head s _ ih => exact (step_subB s).trans ih

theorem opsS_mono : ∀ {a b : List Blk}, SubB a b → opsS b ≤ opsS a
  | [], b, h => by
    have : b = [] := List.eq_nil_of_length_eq_zero h.1.symm
    subst this; exact Int.le_refl _
  | x :: a, [], h => by have := h.1; simp at this
  | x :: a, y :: b, h => by
    have h0 := (h.2 0 x y rfl rfl).2.len
    have h1 := opsS_mono (a := a) (b := b) ⟨by have := h.1; simpa using this, fun i u v hu hv => h.2 (i + 1) u v (by simpa using hu) (by simpa using hv)⟩
    simp only [opsS]
    omega
/-- A program that may be stays one. -/
theorem checkS_sub {p : IR} {q : List Blk} (h : SubB p.blocks q) (h0 : checkS p = 0) : checkS (wB p q) = 0 := by
  obtain ⟨l0, lm, hne, harr, hb⟩ := checkS_zero h0
  have hlq : (wB p q).blocks.length = p.blocks.length := h.1.symm
  have hlim : limitedS (wB p q) = true := by
    rw [limited_iff]
    exact ⟨l0.t1, l0.a1, by rw [hlq]; exact l0.b1, Int.le_trans (opsS_mono h) l0.o1, l0.r1⟩
  have hcond : ∀ c ∈ q, (∀ o ∈ c.ops, opS (wB p q) o = true) ∧ termS (p := wB p q) c.term = true := by
    intro c hc
    obtain ⟨i, hi⟩ := List.getElem?_of_mem hc
    obtain ⟨b, hbi⟩ : ∃ b, p.blocks[i]? = some b := ⟨_, List.getElem?_eq_getElem (by rw [h.1]; exact (List.getElem?_eq_some_iff.1 hi).1)⟩
    obtain ⟨e1, s1⟩ := h.2 i b c hbi hi
    obtain ⟨g1, g2⟩ := hb b (List.mem_of_getElem? hbi)
    refine ⟨fun o ho => g1 o (s1.mem o ho), ?_⟩
    rw [← e1]
    unfold termS at g2 ⊢
    rw [hlq]
    exact g2
  have hqne : q ≠ [] := by
    rintro rfl
    exact hne (List.eq_nil_of_length_eq_zero h.1)
  unfold checkS at h0 ⊢
  rw [hlim, if_neg (by decide)]
  have hl : limitedS p = true := limited_iff.2 l0
  rw [hl, if_neg (by decide)] at h0
  split at h0
  · rename_i hc
    have hc' : (between (wB p q).temps 0 1048576 = true) ∨ True := .inr trivial
    rw [if_pos ⟨hc.1, hc.2.1, hc.2.2.1, hc.2.2.2.1, hc.2.2.2.2.1, hqne⟩]
    split at h0
    · rename_i h2
      rw [if_pos]
      simp only [Bool.and_eq_true, List.all_eq_true] at h2 ⊢
      refine ⟨h2.1, fun c hc => ?_⟩
      simp only [blkS, Bool.and_eq_true, List.all_eq_true]
      exact hcond c hc
    · exact absurd h0 (by decide)
  · exact absurd h0 (by decide)

/-- What is left of a block is what is left by all that is wanted. -/
theorem filtL_eq {p : IR} (hp : OpsOk p) {k : Nat} {b : Blk} (hb : p.blocks[k]? = some b) : ∀ (l : List Op), (∀ o ∈ l, o ∈ b.ops) → filtL (endL b (liveOut p k)) l = filtS b.term (behindS p.blocks b.term) l
  | [], _ => rfl
  | o :: r, hl => by
    have ih := filtL_eq hp hb r fun o ho => hl o (by simp [ho])
    have hbm := List.mem_of_getElem? hb
    have hiff : pureS o = true → (o.dst ∈ wantL r (endL b (liveOut p k)) ↔ trOps r b.term (behindS p.blocks b.term) o.dst) := by
      intro hpu
      have hd : (formS o.kind).dst = true := by
        unfold pureS at hpu
        simp only [Bool.and_eq_true] at hpu
        exact hpu.2
      have hr := hp.made b hbm o (hl o (by simp)) hd
      rw [wantL_mem, trOps_fate, trOps_fate, liveOut_mem hb]
      constructor
      · rintro (h1 | ⟨h1, _, _, h2⟩)
        · exact .inl h1
        · exact .inr ⟨h1, h2⟩
      · rintro (h1 | ⟨h1, h2⟩)
        · exact .inl h1
        · exact .inr ⟨h1, hr.1, hr.2, h2⟩
    unfold filtL filtS
    rw [ih]
    by_cases hpu : pureS o = true
    · by_cases hm : o.dst ∈ wantL r (endL b (liveOut p k))
      · have hm' := (hiff hpu).1 hm
        rw [if_neg (fun h => h.2 hm), if_neg (fun h => h.2 hm')]
      · have hm' : ¬ _ := fun h => hm ((hiff hpu).2 h)
        rw [if_pos ⟨hpu, hm⟩, if_pos ⟨hpu, hm'⟩]
    · rw [if_neg (fun h => hpu h.1), if_neg (fun h => hpu h.1)]
end Go.Proofs.YtkeoalhglkfbkaaDoor

/-
  'Dead': the blocks are gone through once. No conditions.
-/
namespace Go.Proofs.YtkeoalhglkfbkaaDoor
open Go Hk Go.Proofs.Wd

/-- The arrays, copied: their slice and its block. -/
inductive AF (p : IR) : AVal → Heap → Prop
  | nil (h : p.arrays = []) : AF p (.slice [] .nil) []
  | own : AF p (.slice (p.arrays.map Arr.cells) (.own 4)) [.front p.arrays.length 4]
def HD (p : IR) (A : AVal) (F : Heap) (bs : List Blk) (E : Heap) : Heap :=
  .cells [.int .i64 p.temps, A, .slice (bs.map Blk.cells) .no, .int .i64 p.inn, .int .i64 p.out] :: .cells [.int .i64 0, .slice [] (.own 2), .slice [] (.own 3), .int .i64 0, .int .i64 0] :: .front 0 0 :: .front 0 0 :: (F ++ E)
section
variable {p : IR} {A : AVal} {F : Heap} {bs : List Blk} {E : Heap}
theorem HD_len : (HD p A F bs E).length = F.length + 4 + E.length := by simp [HD]; omega
theorem HD_get {k : Nat} : (HD p A F bs E)[F.length + 4 + k]? = E[k]? := by
  unfold HD
  rw [show F.length + 4 + k = (F.length + k) + 1 + 1 + 1 + 1 by omega]
  simp only [List.getElem?_cons_succ]
  rw [List.getElem?_append_right (by omega)]
  congr 1; omega
theorem HD_set {k : Nat} {x : ABlk} : (HD p A F bs E).set (F.length + 4 + k) x = HD p A F bs (E.set k x) := by
  unfold HD
  rw [show F.length + 4 + k = (F.length + k) + 1 + 1 + 1 + 1 by omega]
  simp only [List.set_cons_succ]
  rw [List.set_append_right _ _ (by omega)]
  congr 5; congr 1; omega
theorem HD_app {C : Heap} : HD p A F bs E ++ C = HD p A F bs (E ++ C) := by simp [HD]
theorem AF.san (h : AF p A F) {m : Nat} {H : Heap} (hm : F.length + 4 ≤ m) : A.san1 m H = A := by
  cases h with
  | nil => rfl
  | own => simp at hm; simp [show 4 < m by omega]
theorem AF.ok (h : AF p A F) : A.cellOk = true := by cases h <;> rfl
theorem AF.un (h : AF p A F) : A.untok1 = .slice (p.arrays.map Arr.cells) .no := by
  cases h with
  | nil h => simp [AVal.untok1, h]
  | own => rfl
theorem AF.KB (h : AF p A F) {n : Nat} : KBn n F := by
  cases h with
  | nil => exact KBn_nil
  | own => exact KBn_front KBn_nil
theorem HD_KBn (h : AF p A F) {n : Nat} (hn : F.length + 4 ≤ n) (hE : KBn n E) : KBn n (HD p A F bs E) := by
  refine KBn_cells ?_ (KBn_cells (CBn_int (CBn_own (by omega) (CBn_own (by omega) (CBn_int (CBn_int CBn_nil))))) (KBn_front (KBn_front (KBn_app h.KB hE))))
  refine CBn_int ((CBn_any (fun m x hm => h.san (by omega)) h.ok).2 ?_)
  simp
end

def zrow : List AVal := [.slice [] .nil, .int .i64 0, .int .i64 0, .int .i64 0, .int .i64 0]
def rowsB (q : List Blk) (n : Nat) : List AVal := (q.map Blk.cells ++ List.replicate (n - q.length) zrow).flatten
theorem flat5_len : ∀ {l : List (List AVal)}, (∀ r ∈ l, r.length = 5) → l.flatten.length = 5 * l.length
  | [], _ => rfl
  | x :: r, h => by
    rw [List.flatten_cons, List.length_append, h x (by simp), flat5_len fun y hy => h y (by simp [hy]), List.length_cons]; omega
theorem rowsB_all {q : List Blk} {n : Nat} : ∀ r ∈ (q.map Blk.cells ++ List.replicate (n - q.length) zrow), r.length = 5 := by
  intro r hr
  rcases List.mem_append.1 hr with h | h
  · obtain ⟨b, _, rfl⟩ := List.mem_map.1 h; rfl
  · rw [(List.mem_replicate.1 h).2]; rfl
theorem rowsB_len {q : List Blk} {n : Nat} (h : q.length ≤ n) : (rowsB q n).length = 5 * n := by
  unfold rowsB
  rw [flat5_len rowsB_all]
  simp; omega
theorem rowsB_put {q : List Blk} {n : Nat} (h : q.length < n) (c : Blk) : putCells (rowsB q n) (q.length * 5) c.cells = rowsB (q ++ [c]) n := by
  have e1 : n - q.length = (n - (q ++ [c]).length) + 1 := by simp; omega
  have hl : (q.map Blk.cells).flatten.length = q.length * 5 := by
    rw [flat5_len fun r hr => by obtain ⟨b, _, rfl⟩ := List.mem_map.1 hr; rfl]
    simp; omega
  unfold rowsB
  rw [e1, List.replicate_succ, List.flatten_append, List.flatten_cons]
  generalize hX : (q.map Blk.cells).flatten = X at *
  generalize hR : (List.replicate (n - (q ++ [c]).length) zrow).flatten = R
  unfold putCells
  rw [← hl, List.take_left, ← List.drop_drop, List.drop_left]
  have hd : List.drop c.cells.length (zrow ++ R) = R := by
    have : c.cells.length = zrow.length := rfl
    rw [this, List.drop_left]
  rw [hd, List.map_append, List.append_assoc, List.flatten_append, List.flatten_append, hX, hR]
  simp
theorem rowsB_get {q : List Blk} {n : Nat} (c : Blk) : (rowsB (q ++ [c]) n)[q.length * 5]? = some (.slice (c.ops.map Op.cells) .no) := by
  have hl : (q.map Blk.cells).flatten.length = q.length * 5 := by
    rw [flat5_len fun r hr => by obtain ⟨b, _, rfl⟩ := List.mem_map.1 hr; rfl]
    simp; omega
  unfold rowsB
  rw [List.map_append, List.append_assoc, List.flatten_append, List.getElem?_append_right (by omega), hl, Nat.sub_self]
  rfl
def CP (c : AVal) : Prop := ∃ rows, c = .slice rows .no ∨ c = .slice rows .nil ∨ ∃ k z, c = .int k z
theorem CP_CBn {n : Nat} {cs : List AVal} (h : ∀ c ∈ cs, CP c) : CBn n cs := CBn_of fun c hc => by
  obtain ⟨r, rfl | rfl | ⟨k, z, rfl⟩⟩ := h c hc <;> exact ⟨fun m h _ => rfl, rfl⟩
theorem rowsB_CP {q : List Blk} {n : Nat} : ∀ c ∈ rowsB q n, CP c := by
  intro c hc
  unfold rowsB at hc
  obtain ⟨r, hr, hcr⟩ := List.mem_flatten.1 hc
  rcases List.mem_append.1 hr with h | h
  · obtain ⟨b, _, rfl⟩ := List.mem_map.1 h
    simp only [Blk.cells, List.mem_cons, List.not_mem_nil, or_false] at hcr
    rcases hcr with rfl | rfl | rfl | rfl | rfl
    · exact ⟨_, .inl rfl⟩
    all_goals exact ⟨[], .inr (.inr ⟨_, _, rfl⟩)⟩
  · rw [(List.mem_replicate.1 h).2] at hcr
    simp only [zrow, List.mem_cons, List.not_mem_nil, or_false] at hcr
    rcases hcr with rfl | rfl | rfl | rfl | rfl
    · exact ⟨_, .inr (.inl rfl)⟩
    all_goals exact ⟨[], .inr (.inr ⟨_, _, rfl⟩)⟩
end Go.Proofs.YtkeoalhglkfbkaaDoor

/-
  'Dead': a round of its inner loop. No conditions.
-/
namespace Go.Proofs.YtkeoalhglkfbkaaDoor
open Go Hk Go.Proofs.Wd

section
variable {p : IR} {A : AVal} {F : Heap} {bs : List Blk}
/-- The block of what the blocks become. -/
def VB (q : List Blk) (n : Nat) : ABlk := .vec n 5 (rowsB q n)
theorem VB_KBn {q : List Blk} {n k : Nat} : KBn k [VB q n] := KBn_vec (CP_CBn rowsB_CP) KBn_nil

set_option maxHeartbeats 1000000 in
theorem m40_step (hA : AF p A F) {outs : List (List Int)} {q : List Blk} {b c : Blk} {z : List Int} {less : Bool} {n : Nat} (hn : bs.length = n) (hb : bs[q.length]? = some b) (hz : outs[q.length]? = some z) (hq : n ≤ 2000000)
    (h80 : ∀ h, KK 80 [.agg b.cells, .slice (ints z) .no] h = some (.ret (.agg c.cells), h)) :
    m40_l0 KK (F.length + 5) ([.ptr 0 0, .ptr 1 0, .int .i64 0, listsA outs, .vslice (F.length + 4) n 0 n 5, .bool less, .slice (bs.map Blk.cells) .no, .int .i64 (n : Int), .int .i64 (q.length : Int)], HD p A F bs [VB q n]) =
    some (.normal, [.ptr 0 0, .ptr 1 0, .int .i64 0, listsA outs, .vslice (F.length + 4) n 0 n 5, .bool (less || decide (c.ops.length < b.ops.length)), .slice (bs.map Blk.cells) .no, .int .i64 (n : Int), .int .i64 ((q.length + 1 : Nat) : Int)], HD p A F bs [VB (q ++ [c]) n]) := by
  have hqn : q.length < n := by rw [← hn]; exact (List.getElem?_eq_some_iff.1 hb).1
  have hqi : (q.length : Int) < (n : Int) := by omega
  have w1 : IntKind.i64.wrap ((q.length : Int) + 1) = ((q.length + 1 : Nat) : Int) := by rw [wrap64 (by omega) (by omega), Int.natCast_add]; rfl
  have ixb : aindexSl 5 (.slice (bs.map Blk.cells) .no) (.int .i64 (q.length : Int)) = some (.pptr b.cells) := by
    rw [aindexSl_map, hb]; rfl
  have lb : ∀ H, aload true 5 H (.pptr b.cells) = some (.agg b.cells) := by intro H; simp [Blk.cells]
  have an : anew 5 (HD p A F bs [VB q n]) (.agg [.slice [] .nil, .int .i64 0, .int .i64 0, .int .i64 0, .int .i64 0]) =
      some (.ptr (F.length + 5) 0, HD p A F bs [VB q n, .cells [.slice [] (.own (F.length + 6)), .int .i64 0, .int .i64 0, .int .i64 0, .int .i64 0], .front 0 0]) := by
    simp [HD_len, HD_app]
  have fz : ∀ H, afreeze H (.agg b.cells) = some (.agg b.cells, H) := fun H => rfl
  have fz2 : ∀ H, afreeze H (.agg c.cells) = some (.agg c.cells, H) := fun H => rfl
  have gb : ∀ X Y Z, getBlk (HD p A F bs [X, .cells Y, Z]) (F.length + 5) = some Y := by
    intro X Y Z
    have := HD_get (p := p) (A := A) (F := F) (bs := bs) (E := [X, .cells Y, Z]) (k := 1)
    simp only [getBlk]
    rw [show F.length + 5 = F.length + 4 + 1 by omega, this]; rfl
  have sb : ∀ X Y Z W, (HD p A F bs [X, Y, Z]).set (F.length + 5) W = HD p A F bs [X, W, Z] := by
    intro X Y Z W
    have := HD_set (p := p) (A := A) (F := F) (bs := bs) (E := [X, Y, Z]) (k := 1) (x := W)
    rw [show F.length + 5 = F.length + 4 + 1 by omega, this]; rfl
  have st : astore 5 (HD p A F bs [VB q n, .cells [.slice [] (.own (F.length + 6)), .int .i64 0, .int .i64 0, .int .i64 0, .int .i64 0], .front 0 0]) (.ptr (F.length + 5) 0) (.agg b.cells) =
      some (HD p A F bs [VB q n, .cells b.cells, .front 0 0]) := by
    rw [astore_ptr, gb]
    simp [Blk.cells, keep1, AVal.isNil, sb]
  have l1 : ∀ V, aload true 5 (HD p A F bs [V, .cells b.cells, .front 0 0]) (.ptr (F.length + 5) 0) = some (.agg b.cells) := by
    intro V
    rw [aload_ptrT, gb]
    simp [Blk.cells]
  have ixo : aindexSl 1 (listsA outs) (.int .i64 (q.length : Int)) = some (.pptr [.slice (ints z) .no]) := by
    unfold listsA
    rw [aindexSl_map, hz]; rfl
  have lz : ∀ H, aload false 1 H (.pptr [.slice (ints z) .no]) = some (.slice (ints z) .no) := by intro H; simp
  have ub : (AVal.agg b.cells).untok = .agg b.cells := rfl
  have uz : AVal.untok (.slice (ints z) .no) = .slice (ints z) .no := rfl
  have ixv : aindexSl 5 (.vslice (F.length + 4) n 0 n 5) (.int .i64 (q.length : Int)) = some (.vptr (F.length + 4) n (q.length * 5)) := by
    simp [hqn]
  have gv : ∀ r E, getVec (HD p A F bs (VB r n :: E)) (F.length + 4) n = some (5, rowsB r n) := by
    intro r E
    have := HD_get (p := p) (A := A) (F := F) (bs := bs) (E := VB r n :: E) (k := 0)
    simp only [Nat.add_zero, List.getElem?_cons_zero] at this
    simp only [getVec]
    rw [this]
    simp [VB]
  have sv : ∀ r E W, (HD p A F bs (VB r n :: E)).set (F.length + 4) W = HD p A F bs (W :: E) := by
    intro r E W
    have := HD_set (p := p) (A := A) (F := F) (bs := bs) (E := VB r n :: E) (k := 0) (x := W)
    simpa using this
  have hrl := rowsB_len (q := q) (n := n) (by omega)
  have sv1 : ∀ E, astore 5 (HD p A F bs (VB q n :: E)) (.vptr (F.length + 4) n (q.length * 5)) (.agg c.cells) = some (HD p A F bs (VB (q ++ [c]) n :: E)) := by
    intro E
    rw [astore_vptr, gv]
    simp only [Option.bind_some]
    have hc : (AVal.agg c.cells).cells = c.cells := rfl
    rw [hc, if_pos ⟨rfl, by omega, by simp [Blk.cells, AVal.cellOk]⟩, sv, rowsB_put hqn]
    rfl
  have agv : afieldAt 0 (.vptr (F.length + 4) n (q.length * 5)) = some (.vptr (F.length + 4) n (q.length * 5)) := rfl
  have ag0 : afieldAt 0 (.ptr (F.length + 5) 0) = some (.ptr (F.length + 5) 0) := rfl
  have lv : ∀ E, aload false 1 (HD p A F bs (VB (q ++ [c]) n :: E)) (.vptr (F.length + 4) n (q.length * 5)) = some (.slice (c.ops.map Op.cells) .no) := by
    intro E
    rw [aload_vptr, gv]
    exact rowsB_get c
  have lo : ∀ V, aload false 1 (HD p A F bs [V, .cells b.cells, .front 0 0]) (.ptr (F.length + 5) 0) = some (.slice (b.ops.map Op.cells) .no) := by
    intro V
    rw [aload_ptr, gb]; rfl
  have lc : ∀ l : List Op, alenSl (.slice (l.map Op.cells) .no) = some (.int .i64 (l.length : Int)) := by intro l; simp
  have sn1 : ∀ h, AVal.san (F.length + 5) h (listsA outs) = listsA outs := fun h => rfl
  have sn2 : ∀ h, AVal.san (F.length + 5) h (.vslice (F.length + 4) n 0 n 5) = .vslice (F.length + 4) n 0 n 5 := fun h => by
    simp [AVal.san, AVal.san1]
  have tr : trunc (F.length + 5) (HD p A F bs [VB (q ++ [c]) n, .cells b.cells, .front 0 0]) = some (HD p A F bs [VB (q ++ [c]) n]) := by
    have h1 := trunc_app (h := HD p A F bs [VB (q ++ [c]) n]) (C := [.cells b.cells, .front 0 0]) (by
      show KBn (HD p A F bs [VB (q ++ [c]) n]).length _
      rw [HD_len]
      exact HD_KBn hA (by simp) VB_KBn)
    rw [HD_len, HD_app] at h1
    exact h1
  have lc1 := lc b.ops
  have lc2 := lc c.ops
  have st1 := sv1 [.cells b.cells, .front 0 0]
  have lv1 := lv [.cells b.cells, .front 0 0]
  have lo1 := lo (VB (q ++ [c]) n)
  have l11 := l1 (VB q n)
  have nat : ((c.ops.length : Int) < (b.ops.length : Int)) ↔ c.ops.length < b.ops.length := by omega
  generalize ((q.length + 1 : Nat) : Int) = q1 at *
  generalize c.ops.map Op.cells = CO at *
  generalize b.ops.map Op.cells = BO at *
  generalize HD p A F bs [VB q n] = X0 at *
  generalize HD p A F bs [VB (q ++ [c]) n] = X5 at *
  generalize HD p A F bs [VB q n, .cells [.slice [] (.own (F.length + 6)), .int .i64 0, .int .i64 0, .int .i64 0, .int .i64 0], .front 0 0] = X1 at *
  generalize HD p A F bs [VB q n, .cells b.cells, .front 0 0] = X2 at *
  generalize HD p A F bs [VB (q ++ [c]) n, .cells b.cells, .front 0 0] = X3 at *
  unfold m40_l0
  cases less <;> by_cases hc : c.ops.length < b.ops.length <;>
    simp -implicitDefEqProofs [-aload_ptr, -aload_ptrT, -aload_pptr, -aload_pptr1, -aload_vptr, -aload_vptrT, -astore_ptr, -astore_vptr, -anew, -afreeze_agg, hqi, w1, ixb, lb, an, fz, fz2, st, l11, ixo, lz, ub, uz, h80, ixv, st1, agv, ag0, lv1, lo1, lc1, lc2, nat, hc, sn1, sn2, tr, endR, san1_ptr]
end
end Go.Proofs.YtkeoalhglkfbkaaDoor

/-
  'Dead': its loops. No conditions.
-/
namespace Go.Proofs.YtkeoalhglkfbkaaDoor
open Go Hk Go.Proofs.Wd

section
variable {p : IR} {A : AVal} {F : Heap} {bs : List Blk}
theorem m40_loop0 (hA : AF p A F) {outs : List (List Int)} {cs : List Blk} (hcs : cs.length = bs.length) (hn : bs.length ≤ 2000000)
    (h80 : ∀ (i : Nat) (b c : Blk), bs[i]? = some b → cs[i]? = some c → ∃ z, outs[i]? = some z ∧ ∀ h, KK 80 [.agg b.cells, .slice (ints z) .no] h = some (.ret (.agg c.cells), h)) :
    ∀ (d i : Nat) (less : Bool), bs.length = i + d → ∃ less' : Bool, (less' = false ↔ less = false ∧ ∀ (k : Nat) (b c : Blk), i ≤ k → bs[k]? = some b → cs[k]? = some c → ¬ c.ops.length < b.ops.length) ∧
    lpW (m40_l0 KK (F.length + 5)) ([.ptr 0 0, .ptr 1 0, .int .i64 0, listsA outs, .vslice (F.length + 4) bs.length 0 bs.length 5, .bool less, .slice (bs.map Blk.cells) .no, .int .i64 (bs.length : Int), .int .i64 (i : Int)], HD p A F bs [VB (cs.take i) bs.length]) =
    some (.exit 2, [.ptr 0 0, .ptr 1 0, .int .i64 0, listsA outs, .vslice (F.length + 4) bs.length 0 bs.length 5, .bool less', .slice (bs.map Blk.cells) .no, .int .i64 (bs.length : Int), .int .i64 (bs.length : Int)], HD p A F bs [VB cs bs.length]) := by
  intro d
  induction d with
  | zero =>
    intro i less hi
    obtain rfl : i = bs.length := by omega
    refine ⟨less, ⟨fun h => ⟨h, fun k b c h1 h2 => ?_⟩, fun h => h.1⟩, lp_exit ?_⟩
    · have := (List.getElem?_eq_some_iff.1 h2).1; omega
    · rw [← hcs, List.take_length]
      have sn1 : ∀ h, AVal.san (F.length + 5) h (listsA outs) = listsA outs := fun h => rfl
      have sn2 : ∀ n h, AVal.san (F.length + 5) h (.vslice (F.length + 4) n 0 n 5) = .vslice (F.length + 4) n 0 n 5 := fun n h => by
        simp [AVal.san, AVal.san1]
      have tr : trunc (F.length + 5) (HD p A F bs [VB cs cs.length]) = some (HD p A F bs [VB cs cs.length]) := by
        have h1 := trunc_app0 (h := HD p A F bs [VB cs cs.length]) (by
          show KBn (HD p A F bs [VB cs cs.length]).length _
          rw [HD_len]
          exact HD_KBn hA (by simp) VB_KBn)
        rw [HD_len] at h1
        exact h1
      unfold m40_l0
      simp -implicitDefEqProofs [endR, tr, sn1, sn2, san1_ptr]
  | succ d ih =>
    intro i less hi
    have hib : i < bs.length := by omega
    obtain ⟨b, hb⟩ : ∃ b, bs[i]? = some b := ⟨_, List.getElem?_eq_getElem hib⟩
    obtain ⟨c, hc⟩ : ∃ c, cs[i]? = some c := ⟨_, List.getElem?_eq_getElem (by omega)⟩
    obtain ⟨z, hz, hk⟩ := h80 i b c hb hc
    have hl : (cs.take i).length = i := by rw [List.length_take]; omega
    have st := m40_step (p := p) hA (outs := outs) (q := cs.take i) (b := b) (c := c) (z := z) (less := less) rfl (by rw [hl]; exact hb) (by rw [hl]; exact hz) hn hk
    rw [hl] at st
    have et : cs.take i ++ [c] = cs.take (i + 1) := by
      rw [List.take_succ_eq_append_getElem (by omega), (List.getElem?_eq_some_iff.1 hc).2]
    rw [et] at st
    obtain ⟨less', h1, h2⟩ := ih (i + 1) (less || decide (c.ops.length < b.ops.length)) (by omega)
    refine ⟨less', ?_, ?_⟩
    · rw [h1]
      simp only [Bool.or_eq_false_iff, decide_eq_false_iff_not]
      constructor
      · rintro ⟨⟨g1, g2⟩, g3⟩
        refine ⟨g1, fun k b' c' hik hb' hc' => ?_⟩
        by_cases hki : k = i
        · subst hki; rw [hb] at hb'; rw [hc] at hc'; cases hb'; cases hc'; exact g2
        · exact g3 k b' c' (by omega) hb' hc'
      · rintro ⟨g1, g2⟩
        exact ⟨⟨g1, g2 i b c (Nat.le_refl _) hb hc⟩, fun k b' c' hik => g2 k b' c' (by omega)⟩
    · rw [← h2]
      exact lp_go st
end
end Go.Proofs.YtkeoalhglkfbkaaDoor

/-
  'Dead': a round of its outer loop. No conditions.
-/
namespace Go.Proofs.YtkeoalhglkfbkaaDoor
open Go Hk Go.Proofs.Wd

theorem rowsOf_flat : ∀ (l : List (List AVal)), (∀ r ∈ l, r.length = 5) → rowsOf l.length 5 l.flatten = l
  | [], _ => rfl
  | x :: r, h => by
    have hx := h x (by simp)
    simp only [List.length_cons, List.flatten_cons, rowsOf]
    rw [← hx, List.take_left, List.drop_left, hx, rowsOf_flat r fun y hy => h y (by simp [hy])]
theorem pureRow_CP {cs : List AVal} (h : ∀ c ∈ cs, (∃ rows, c = .slice rows .no) ∨ ∃ k z, c = .int k z) : pureRow cs = some cs := by
  induction cs with
  | nil => rfl
  | cons c r ih =>
    have hi := ih fun c hc => h c (by simp [hc])
    rcases h c (by simp) with ⟨rows, rfl⟩ | ⟨k, z, rfl⟩ <;> simp only [pureRow, hi, AVal.pure1]
section
variable {p : IR} {A : AVal} {F : Heap} {bs : List Blk}
theorem HD_freeze {cs : List Blk} : afreeze (HD p A F bs [VB cs cs.length]) (.vslice (F.length + 4) cs.length 0 cs.length 5) = some (.slice (cs.map Blk.cells) .no, HD p A F bs [.gone]) := by
  have hg := HD_get (p := p) (A := A) (F := F) (bs := bs) (E := [VB cs cs.length]) (k := 0)
  have hs := HD_set (p := p) (A := A) (F := F) (bs := bs) (E := [VB cs cs.length]) (k := 0) (x := .gone)
  simp only [Nat.add_zero, List.getElem?_cons_zero, List.set_cons_zero] at hg hs
  have gv : getVec (HD p A F bs [VB cs cs.length]) (F.length + 4) cs.length = some (5, rowsB cs cs.length) := by
    simp only [getVec]
    rw [hg]
    simp [VB]
  have er : rowsB cs cs.length = (cs.map Blk.cells).flatten := by simp [rowsB]
  have hl := rowsB_len (q := cs) (n := cs.length) (Nat.le_refl _)
  have hp : pureRow (rowsB cs cs.length) = some (rowsB cs cs.length) := pureRow_CP fun c hc => by
    rw [er] at hc
    obtain ⟨r, hr, hcr⟩ := List.mem_flatten.1 hc
    obtain ⟨b, _, rfl⟩ := List.mem_map.1 hr
    simp only [Blk.cells, List.mem_cons, List.not_mem_nil, or_false] at hcr
    rcases hcr with rfl | rfl | rfl | rfl | rfl
    · exact .inl ⟨_, rfl⟩
    all_goals exact .inr ⟨_, _, rfl⟩
  have hro : rowsOf cs.length 5 (rowsB cs cs.length) = cs.map Blk.cells := by
    have := rowsOf_flat (cs.map Blk.cells) fun r hr => by obtain ⟨b, _, rfl⟩ := List.mem_map.1 hr; rfl
    rw [List.length_map, ← er] at this
    exact this
  unfold afreeze
  simp only [gv, List.drop_zero]
  rw [List.take_of_length_le (by omega), hp]
  simp only [Nat.zero_add]
  rw [if_pos (by omega), hro, hs]

/-- The result's block. -/
def keepA (A : AVal) : AVal := if A.isNil then .slice [] (.own 2) else A
def HR (p : IR) (A : AVal) (F : Heap) (bs : List Blk) (E : Heap) : Heap :=
  .cells [.int .i64 p.temps, A, .slice (bs.map Blk.cells) .no, .int .i64 p.inn, .int .i64 p.out] :: .cells [.int .i64 p.temps, keepA A, .slice (bs.map Blk.cells) .no, .int .i64 p.inn, .int .i64 p.out] :: .front 0 0 :: .front 0 0 :: (F ++ E)
theorem keepA_own {rows : List (List AVal)} {k : Nat} : keepA (.slice rows (.own k)) = .slice rows (.own k) := by cases rows <;> rfl
theorem HD_store (hA : AF p A F) {E : Heap} : astore 5 (HD p A F bs E) (.ptr 1 0) (.agg [.int .i64 p.temps, A, .slice (bs.map Blk.cells) .no, .int .i64 p.inn, .int .i64 p.out]) = some (HR p A F bs E) := by
  cases hA <;> simp [HD, HR, keepA, keep1, AVal.isNil, isFresh, AVal.cellOk]
theorem HR_KBn (hA : AF p A F) {n : Nat} (hn : F.length + 4 ≤ n) {E : Heap} (hE : KBn n E) : KBn n (HR p A F bs E) := by
  have c1 : CBn n [.int .i64 p.temps, A, .slice (bs.map Blk.cells) .no, .int .i64 p.inn, .int .i64 p.out] := by
    refine CBn_int ((CBn_any (fun m x hm => hA.san (by omega)) hA.ok).2 ?_)
    simp
  have c2 : CBn n [.int .i64 p.temps, keepA A, .slice (bs.map Blk.cells) .no, .int .i64 p.inn, .int .i64 p.out] := by
    cases hA with
    | nil => exact CBn_int (CBn_own (by omega) (by simp))
    | own => rw [keepA_own]; exact c1
  exact KBn_cells c1 (KBn_cells c2 (KBn_front (KBn_front (KBn_app hA.KB hE))))
theorem HR_fin (hA : AF p A F) : ((aload true 5 (HR p A F bs []) (.ptr 1 0)).bind fun t => finR 0 (.tuple [t, .int .i64 0]) (HR p A F bs [])) = some (.ret (.tuple [.agg (wB p bs).cells, .int .i64 0]), []) := by
  have l : aload true 5 (HR p A F bs []) (.ptr 1 0) = some (.agg [.int .i64 p.temps, keepA A, .slice (bs.map Blk.cells) .no, .int .i64 p.inn, .int .i64 p.out]) := by simp [HR]
  rw [l]
  simp only [Option.bind_some]
  rw [finR_zero]
  cases hA with
  | nil h => simp only [IR.cells, wB, h]; rfl
  | own => rw [keepA_own]; rfl

set_option maxHeartbeats 1000000 in
theorem m40_round (hA : AF p A F) (h0 : checkS (wB p bs) = 0) {cs : List Blk} (hcs : cs.length = bs.length) (hn : bs.length ≤ 2000000)
    (h80 : ∀ (i : Nat) (b c : Blk), bs[i]? = some b → cs[i]? = some c → ∃ z, (liveO (wB p bs))[i]? = some z ∧ ∀ h, KK 80 [.agg b.cells, .slice (ints z) .no] h = some (.ret (.agg c.cells), h)) :
    ((∃ (k : Nat) (b c : Blk), bs[k]? = some b ∧ cs[k]? = some c ∧ c.ops.length < b.ops.length) ∧ m40_l1 KK (F.length + 4) ([.ptr 0 0, .ptr 1 0, .int .i64 0], HD p A F bs []) = some (.normal, [.ptr 0 0, .ptr 1 0, .int .i64 0], HD p A F cs [])) ∨
    ((∀ (k : Nat) (b c : Blk), bs[k]? = some b → cs[k]? = some c → ¬ c.ops.length < b.ops.length) ∧ m40_l1 KK (F.length + 4) ([.ptr 0 0, .ptr 1 0, .int .i64 0], HD p A F bs []) = some (.ret, [.ptr 0 0, .ptr 1 0, .int .i64 0], HR p A F cs [])) := by
  obtain ⟨less, hless, g⟩ := m40_loop0 hA hcs hn h80 bs.length 0 false (by omega)
  have e0 : ((0 : Nat) : Int) = 0 := rfl
  rw [e0, List.take_zero] at g
  have g27 := c27 (wB p bs)
  rw [h0] at g27
  have la : ∀ bs, aload true 5 (HD p A F bs []) (.ptr 0 0) = some (.agg [.int .i64 p.temps, A, .slice (bs.map Blk.cells) .no, .int .i64 p.inn, .int .i64 p.out]) := by intro bs; simp [HD]
  have lg : aload true 5 (HD p A F cs [.gone]) (.ptr 0 0) = some (.agg [.int .i64 p.temps, A, .slice (cs.map Blk.cells) .no, .int .i64 p.inn, .int .i64 p.out]) := by simp [HD]
  have un : (AVal.agg [.int .i64 p.temps, A, .slice (bs.map Blk.cells) .no, .int .i64 p.inn, .int .i64 p.out]).untok = .agg (wB p bs).cells := by
    simp only [AVal.untok, List.map_cons, hA.un]; rfl
  have fza : ∀ H (l : List AVal), afreeze H (.agg l) = some (.agg l, H) := fun H l => rfl
  have ag2 : afieldAt 2 (.ptr 0 0) = some (.ptr 0 2) := rfl
  have lb : ∀ E, aload false 1 (HD p A F bs E) (.ptr 0 2) = some (.slice (bs.map Blk.cells) .no) := by intro E; simp [HD]
  have lenB : alenSl (.slice (bs.map Blk.cells) .no) = some (.int .i64 (bs.length : Int)) := by simp
  have mk : amakeSliceV 5 56 [(.slice [] .nil), (.int .i64 0), (.int .i64 0), (.int .i64 0), (.int .i64 0)] (.int .i64 (bs.length : Int)) (HD p A F bs []) = some (.vslice (F.length + 4) bs.length 0 bs.length 5, HD p A F bs [VB [] bs.length]) := by
    unfold amakeSliceV
    simp only [Int.toNat_natCast]
    rw [if_pos ⟨by omega, by omega, by omega⟩, HD_len, HD_app]
    rfl
  have hl5 : (HD p A F bs [VB [] bs.length]).length = F.length + 5 := by rw [HD_len]; rfl
  have fz : afreeze (HD p A F bs [VB cs bs.length]) (.vslice (F.length + 4) bs.length 0 bs.length 5) = some (.slice (cs.map Blk.cells) .no, HD p A F bs [.gone]) := by rw [← hcs]; exact HD_freeze
  have st : astore 1 (HD p A F bs [.gone]) (.ptr 0 2) (.slice (cs.map Blk.cells) .no) = some (HD p A F cs [.gone]) := by simp [HD, keep1, AVal.isNil]
  have st2 := HD_store (bs := cs) hA (E := [.gone])
  have tr : trunc (F.length + 4) (HD p A F cs [.gone]) = some (HD p A F cs []) := by
    have h1 := trunc_app (h := HD p A F cs []) (C := [.gone]) (by
      show KBn (HD p A F cs []).length _
      rw [HD_len]
      exact HD_KBn hA (by simp) KBn_nil)
    rw [HD_len, HD_app] at h1
    exact h1
  have tr2 : trunc (F.length + 4) (HR p A F cs [.gone]) = some (HR p A F cs []) := by
    have hl : (HR p A F cs []).length = F.length + 4 := by simp [HR]
    have h1 := trunc_app (h := HR p A F cs []) (C := [.gone]) (by
      show KBn (HR p A F cs []).length _
      rw [hl]
      exact HR_KBn hA (by simp) KBn_nil)
    rw [hl] at h1
    have e : HR p A F cs [] ++ [ABlk.gone] = HR p A F cs [.gone] := by simp [HR]
    rw [e] at h1
    exact h1
  generalize liveI (wB p bs) = li at *
  generalize liveO (wB p bs) = lo at *
  have la0 := la bs
  generalize (AVal.agg [.int .i64 p.temps, A, .slice (bs.map Blk.cells) .no, .int .i64 p.inn, .int .i64 p.out]) = AG at *
  have lb0 := lb []
  have lb1 := lb [VB [] bs.length]
  cases less with
  | true =>
    refine .inl ⟨?_, ?_⟩
    · apply Classical.byContradiction
      intro hno
      have : true = false := hless.2 ⟨rfl, fun k b c _ hb hc hlt => hno ⟨k, b, c, hb, hc, hlt⟩⟩
      cases this
    · unfold m40_l1
      simp -implicitDefEqProofs [-aload_ptr, -aload_ptrT, -astore_ptr, -anew, -afreeze_agg, la0, un, g27, ag2, lb0, lb1, lenB, mk, hl5, g, fz, st, tr, endR, san1_ptr, aextract]
  | false =>
    refine .inr ⟨fun k b c hb hc => (hless.1 rfl).2 k b c (by omega) hb hc, ?_⟩
    unfold m40_l1
    simp -implicitDefEqProofs [-aload_ptr, -aload_ptrT, -astore_ptr, -anew, -afreeze_agg, la0, un, g27, ag2, lb0, lb1, lenB, mk, hl5, g, fz, fza, st, lg, st2, tr2, endR, san1_ptr, aextract]
end
end Go.Proofs.YtkeoalhglkfbkaaDoor
