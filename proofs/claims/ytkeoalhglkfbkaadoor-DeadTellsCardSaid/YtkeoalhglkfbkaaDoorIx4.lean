/-
  The texts IX.D9, IX.D10, IX.D11, IX.D12, IX.D13, IX.D14, IX.D15, IX.D16, IX.D17, IX.D18, IX.L39, IX.D19, IX.D20, IX.D21, IX.W12, one behind another. No conditions.
-/
import Derived.Test.YtkeoalhglkfbkaaDoorIx3
import Derived.Test.YtkeoalhglkfbkaaDoorIx1
set_option linter.unusedVariables false
set_option linter.unusedSimpArgs false
set_option linter.unusedSectionVars false
set_option linter.all false
/-
  'Dead': what it answers. No conditions.
-/
namespace Go.Proofs.YtkeoalhglkfbkaaDoor
open Go Hk Go.Proofs.Wd

theorem nOps_lt : ∀ {bs cs : List Blk}, SubB bs cs → (∃ (k : Nat) (b c : Blk), bs[k]? = some b ∧ cs[k]? = some c ∧ c.ops.length < b.ops.length) → nOps cs < nOps bs := by
  have le : ∀ {bs cs : List Blk}, SubB bs cs → nOps cs ≤ nOps bs := by
    intro bs
    induction bs with
    | nil =>
      intro cs h
      have : cs = [] := List.eq_nil_of_length_eq_zero h.1.symm
      subst this; exact Nat.le_refl _
    | cons b bs ih =>
      intro cs h
      cases cs with
      | nil => have := h.1; simp at this
      | cons c cs =>
        have h0 := (h.2 0 b c rfl rfl).2.len
        have h1 := ih (cs := cs) ⟨by have := h.1; simpa using this, fun i u v hu hv => h.2 (i + 1) u v (by simpa using hu) (by simpa using hv)⟩
        simp only [nOps, List.map_cons, List.sum_cons] at h1 ⊢
        omega
  intro bs
  induction bs with
  | nil => rintro cs h ⟨k, b, c, hb, _⟩; simp at hb
  | cons b bs ih =>
    rintro cs h ⟨k, b', c', hb, hc, hlt⟩
    cases cs with
    | nil => have := h.1; simp at this
    | cons c cs =>
      have hs : SubB bs cs := ⟨by have := h.1; simpa using this, fun i u v hu hv => h.2 (i + 1) u v (by simpa using hu) (by simpa using hv)⟩
      have h0 := (h.2 0 b c rfl rfl).2.len
      have h1 := le hs
      cases k with
      | zero =>
        simp at hb hc; subst hb; subst hc
        simp only [nOps, List.map_cons, List.sum_cons] at h1 ⊢
        omega
      | succ k =>
        have := ih hs ⟨k, b', c', by simpa using hb, by simpa using hc, hlt⟩
        simp only [nOps, List.map_cons, List.sum_cons] at this ⊢
        omega

section
variable {p : IR} {A : AVal} {F : Heap}
theorem m40_loop1 (hA : AF p A F) : ∀ (N : Nat) (bs : List Blk), nOps bs < N → checkS (wB p bs) = 0 →
    ∃ q, Star bs q ∧ Norm q ∧ lpW (m40_l1 KK (F.length + 4)) ([.ptr 0 0, .ptr 1 0, .int .i64 0], HD p A F bs []) = some (.ret, [.ptr 0 0, .ptr 1 0, .int .i64 0], HR p A F q []) := by
  intro N
  induction N with
  | zero => intro bs hN _; omega
  | succ N ih =>
    intro bs hN h0
    have hp := (opsOk_of h0).1
    have hnb : bs.length ≤ 1048576 := hp.nb
    have hti := hp.temps
    have hlen : (roundS bs).length = bs.length := by simp [roundS]
    have hget : ∀ (i : Nat) (b c : Blk), bs[i]? = some b → (roundS bs)[i]? = some c → c = ⟨filtS b.term (behindS bs b.term) b.ops, b.term⟩ := by
      intro i b c hb hc
      unfold roundS at hc
      rw [List.getElem?_map, hb] at hc
      exact (Option.some.inj hc).symm
    have eO : liveO (wB p bs) = (List.range bs.length).map (liveOut (wB p bs)) := if_pos h0
    have hs := star_round bs
    have hsub := star_subB hs
    rcases m40_round hA h0 hlen (by omega) (fun i b c hb hc => by
      have hib := (List.getElem?_eq_some_iff.1 hb).1
      have hb' : (wB p bs).blocks[i]? = some b := hb
      refine ⟨liveOut (wB p bs) i, by rw [eO, List.getElem?_map, List.getElem?_range hib]; rfl, fun h => ?_⟩
      have g := c80 (b := b) (out := liveOut (wB p bs) i) (fun k => nodup_len (wantL_nodup endL_nodup) (fun t h1 => wantL_bound hp hb' h1) hti) (hp.len b (List.mem_of_getElem? hb')) (c31_live hp hb') h
      rw [filtL_eq hp hb' b.ops (fun o ho => ho)] at g
      rw [hget i b c hb hc]
      exact g) with ⟨hless, g⟩ | ⟨hno, g⟩
    · obtain ⟨q, s1, n1, g1⟩ := ih (roundS bs) (by have := nOps_lt hsub hless; omega) (checkS_sub (p := wB p bs) hsub h0)
      exact ⟨q, hs.trans s1, n1, by rw [lp_go g]; exact g1⟩
    · have hfix : ∀ b ∈ bs, (filtS b.term (behindS bs b.term) b.ops).length = b.ops.length := by
        intro b hbm
        obtain ⟨i, hb⟩ := List.getElem?_of_mem hbm
        have h1 := hno i b ⟨filtS b.term (behindS bs b.term) b.ops, b.term⟩ hb (by unfold roundS; rw [List.getElem?_map, hb]; rfl)
        have h2 := filtS_len b.term (behindS bs b.term) b.ops
        simp only at h1
        omega
      obtain ⟨e1, n1⟩ := round_norm hfix
      rw [e1] at g
      exact ⟨bs, .refl _, n1, lp_ret g⟩
end

theorem aappend_nil {α : Type} {enc : α → List AVal} {sz by_ : Nat} {h : Heap} {xs : List α} {t : Hk.Tok} (hsz : ∀ x, (enc x).length = sz) (hx : xs ≠ []) (hl : xs.length ≤ 1048576) (hby : by_ ≤ 1000) :
    aappend sz by_ h (.slice [] .nil) (.slice (xs.map enc) t) = some (.slice (xs.map enc) (.own h.length), h ++ [.front xs.length sz]) := by
  have hr : arowsS sz h (.slice (xs.map enc) t) = some (xs.map enc) := by simp [hsz]
  have hn : xs.length ≠ 0 := fun e => hx (List.eq_nil_of_length_eq_zero e)
  have hb : xs.length * by_ ≤ 140737488355328 := Nat.le_trans (Nat.mul_le_mul hl hby) (by omega)
  unfold aappend
  simp only [hr, List.length_map]
  rw [if_neg hn, if_pos ⟨hb, by omega⟩]

/-- 'Dead'. -/
theorem c40 (p : IR) : (checkS p ≠ 0 ∧ ∀ h, KK 40 [.agg p.cells] h = some (.ret (.tuple [.agg (IR.cells ⟨0, [], [], 0, 0⟩), .int .i64 (checkS p)]), h)) ∨
    (checkS p = 0 ∧ ∃ q, Star p.blocks q ∧ Norm q ∧ ∀ h, KK 40 [.agg p.cells] h = some (.ret (.tuple [.agg (wB p q).cells, .int .i64 0]), h)) := by
  have a0 : anew 5 [] (.agg p.cells) = some (.ptr 0 0, [.cells p.cells]) := by simp [IR.cells]
  have a1 : anew 5 [.cells p.cells] (.agg [.int .i64 0, .slice [] .nil, .slice [] .nil, .int .i64 0, .int .i64 0]) = some (.ptr 1 0, [.cells p.cells, .cells [.int .i64 0, .slice [] (.own 2), .slice [] (.own 3), .int .i64 0, .int .i64 0], .front 0 0, .front 0 0]) := by simp
  have l0 : ∀ E, aload true 5 (.cells p.cells :: E) (.ptr 0 0) = some (.agg p.cells) := by intro E; simp [IR.cells]
  have u0 : (AVal.agg p.cells).untok = .agg p.cells := rfl
  have g30 := c30 p
  have ag1 : afieldAt 1 (.ptr 0 0) = some (.ptr 0 1) := rfl
  by_cases h0 : checkS p = 0
  · refine .inr ⟨h0, ?_⟩
    have lar : ∀ E, aload false 1 (.cells p.cells :: E) (.ptr 0 1) = some (.slice (p.arrays.map Arr.cells) .no) := by intro E; simp [IR.cells]
    obtain ⟨l00, _, _⟩ := checkS_zero h0
    have hal := l00.a1
    have key : ∀ (A : AVal) (F : Heap) (H1 : Heap), AF p A F → aappend 4 32 [.cells p.cells, .cells [.int .i64 0, .slice [] (.own 2), .slice [] (.own 3), .int .i64 0, .int .i64 0], .front 0 0, .front 0 0] (.slice [] .nil) (.slice (p.arrays.map Arr.cells) .no) = some (A, H1) →
        afreeze H1 A = some (A, H1) → astore 1 H1 (.ptr 0 1) A = some (HD p A F p.blocks []) → ∃ q, Star p.blocks q ∧ Norm q ∧ ∀ h, KK 40 [.agg p.cells] h = some (.ret (.tuple [.agg (wB p q).cells, .int .i64 0]), h) := by
      intro A F H1 hA e1 e2 e3
      obtain ⟨q, s1, n1, g⟩ := m40_loop1 hA (nOps p.blocks + 1) p.blocks (Nat.lt_succ_self _) h0
      refine ⟨q, s1, n1, fun h => callP_pure rfl rfl (evW_by (m40_eq _ _ _) ?_)⟩
      have hl : (HD p A F p.blocks []).length = F.length + 4 := by rw [HD_len]; rfl
      have f1 := HR_fin (bs := q) hA
      rw [h0] at g30
      have l01 := l0 [.cells [.int .i64 0, .slice [] (.own 2), .slice [] (.own 3), .int .i64 0, .int .i64 0], .front 0 0, .front 0 0]
      have lar1 := lar [.cells [.int .i64 0, .slice [] (.own 2), .slice [] (.own 3), .int .i64 0, .int .i64 0], .front 0 0, .front 0 0]
      generalize HR p A F q [] = HX at *
      generalize HD p A F p.blocks [] = HY at *
      unfold m40
      simp -implicitDefEqProofs [-aload_ptr, -aload_ptrT, -astore_ptr, -anew, -abuild, a0, a1, l01, u0, g30, ag1, lar1, e1, e2, e3, hl, g, f1]
    cases ha : p.arrays with
    | nil =>
      refine key (.slice [] .nil) [] _ (.nil ha) (by rw [ha]; simp [aappend]; rfl) rfl ?_
      simp [HD, IR.cells, keep1, AVal.isNil, isFresh]
    | cons x r =>
      refine key (.slice (p.arrays.map Arr.cells) (.own 4)) [.front p.arrays.length 4] [.cells p.cells, .cells [.int .i64 0, .slice [] (.own 2), .slice [] (.own 3), .int .i64 0, .int .i64 0], .front 0 0, .front 0 0, .front p.arrays.length 4] .own ?_ rfl ?_
      · exact aappend_nil (fun _ => rfl) (by rw [ha]; simp) (by omega) (by omega)
      · simp [HD, IR.cells, keep1, ha, AVal.isNil]
  · refine .inl ⟨h0, fun h => callP_pure rfl rfl (evW_by (m40_eq _ _ _) ?_)⟩
    have l01 := l0 [.cells [.int .i64 0, .slice [] (.own 2), .slice [] (.own 3), .int .i64 0, .int .i64 0], .front 0 0, .front 0 0]
    have bz : abuild [.int .i64 0, .slice [] .nil, .slice [] .nil, .int .i64 0, .int .i64 0] [(0, 1), (1, 1), (2, 1), (3, 1), (4, 1)] [] = some (.agg [.int .i64 0, .slice [] .nil, .slice [] .nil, .int .i64 0, .int .i64 0]) := rfl
    have st : astore 5 [.cells p.cells, .cells [.int .i64 0, .slice [] (.own 2), .slice [] (.own 3), .int .i64 0, .int .i64 0], .front 0 0, .front 0 0] (.ptr 1 0) (.agg [.int .i64 0, .slice [] .nil, .slice [] .nil, .int .i64 0, .int .i64 0]) =
        some [.cells p.cells, .cells [.int .i64 0, .slice [] (.own 2), .slice [] (.own 3), .int .i64 0, .int .i64 0], .front 0 0, .front 0 0] := by simp [keep1, AVal.isNil, isFresh]
    have f1 : (aload true 5 [.cells p.cells, .cells [.int .i64 0, .slice [] (.own 2), .slice [] (.own 3), .int .i64 0, .int .i64 0], .front 0 0, .front 0 0] (.ptr 1 0)).bind (fun t => finR 0 (.tuple [t, .int .i64 (checkS p)]) [.cells p.cells, .cells [.int .i64 0, .slice [] (.own 2), .slice [] (.own 3), .int .i64 0, .int .i64 0], .front 0 0, .front 0 0]) =
        some (.ret (.tuple [.agg (IR.cells ⟨0, [], [], 0, 0⟩), .int .i64 (checkS p)]), []) := rfl
    generalize ([.cells p.cells, .cells [.int .i64 0, .slice [] (.own 2), .slice [] (.own 3), .int .i64 0, .int .i64 0], .front 0 0, .front 0 0] : Heap) = HX at *
    unfold m40
    simp -implicitDefEqProofs [-aload_ptr, -aload_ptrT, -astore_ptr, -anew, -abuild, a0, a1, l01, u0, g30, h0, bz, st, f1]
end Go.Proofs.YtkeoalhglkfbkaaDoor

/-
  The document's 'Is'. No conditions.
-/
namespace Go.Proofs.YtkeoalhglkfbkaaDoor
open Go Hk Go.Proofs.Wd

theorem c158g {b : Blk} (hb : b.ops.length ≤ 1048576) (t : Int) {k : Nat} (hk : k ≤ b.ops.length) (h : Heap) : KK 158 [.agg b.cells, .int .i64 (k : Int), .int .i64 t] h = some (.ret (.int .i64 (fateS (b.ops.drop k) b.term t)), h) := by
  refine callP_pure rfl rfl (evW_by (m158_eq _ _ _ _ _) ?_)
  obtain ⟨e, r, j, g1, g2⟩ := m158_loop hb t (b.ops.length - k) k (by omega)
  simp only [Blk.cells] at g1 g2 ⊢
  generalize (k : Int) = ki at *
  rcases g2 with ⟨rfl, rfl⟩ | ⟨rfl, g2⟩
  · simp [m158, g1, finR_zero]
  · rw [g2]
    simp only [fateS]
    by_cases k2 : b.term.kind = 2
    · by_cases ha : b.term.a = t
      · rw [k2, ha] at g1
        simp [m158, g1, k2, ha, finR_zero]
      · rw [k2] at g1
        simp [m158, g1, k2, ha, finR_zero]
    · simp [m158, g1, k2, finR_zero]

/-- 'Is'. -/
theorem c81 {p : IR} (hp : OpsOk p) (hl : ∀ b ∈ p.blocks, leadsP b.term = leadsS b.term) {i k : Nat} {b : Blk} {o : Op} (hb : p.blocks[i]? = some b) (ho : b.ops[k]? = some o) :
    ∃ r : Bool, (r = true ↔ pureS o = true ∧ ¬ trOps (b.ops.drop (k + 1)) b.term (behindS p.blocks b.term) o.dst) ∧ ∀ h, KK 81 [.agg p.cells, .int .i64 (i : Int), .int .i64 (k : Int)] h = some (.ret (.bool r), h) := by
  classical
  have hkl := (List.getElem?_eq_some_iff.1 ho).1
  have hbl := hp.len b (List.mem_of_getElem? hb)
  have g158 := c158g hbl o.dst (k := k + 1) (by omega)
  have g66 := c66 hp hl hb o.dst
  have g101 := c101 o
  have hfc := fateS_cases (b.ops.drop (k + 1)) b.term o.dst
  have hiff := trOps_fate (b.ops.drop (k + 1)) b.term (behindS p.blocks b.term) o.dst
  have a0 : anew 5 [] (.agg p.cells) = some (.ptr 0 0, [.cells p.cells]) := by simp [IR.cells]
  have ag2 : afieldAt 2 (.ptr 0 0) = some (.ptr 0 2) := rfl
  have lb : ∀ E, aload false 1 (.cells p.cells :: E) (.ptr 0 2) = some (.slice (p.blocks.map Blk.cells) .no) := by intro E; simp [IR.cells]
  have ixb : aindexSl 5 (.slice (p.blocks.map Blk.cells) .no) (.int .i64 (i : Int)) = some (.pptr b.cells) := by rw [aindexSl_map, hb]; rfl
  have agb : afieldAt 0 (.pptr b.cells) = some (.pptr b.cells) := by simp [afieldAt]
  have lo : ∀ H, aload false 1 H (.pptr b.cells) = some (.slice (b.ops.map Op.cells) .no) := by intro H; simp [Blk.cells]
  have ixo : aindexSl 6 (.slice (b.ops.map Op.cells) .no) (.int .i64 (k : Int)) = some (.pptr o.cells) := by rw [aindexSl_map, ho]; rfl
  have lop : ∀ H, aload true 6 H (.pptr o.cells) = some (.agg o.cells) := by intro H; simp [Op.cells]
  have a1 : anew 6 [.cells p.cells] (.agg [.int .i64 0, .int .i64 0, .int .i64 0, .int .i64 0, .int .i64 0, .int .i64 0]) = some (.ptr 1 0, [.cells p.cells, .cells [.int .i64 0, .int .i64 0, .int .i64 0, .int .i64 0, .int .i64 0, .int .i64 0]]) := by simp
  have st : astore 6 [.cells p.cells, .cells [.int .i64 0, .int .i64 0, .int .i64 0, .int .i64 0, .int .i64 0, .int .i64 0]] (.ptr 1 0) (.agg o.cells) = some [.cells p.cells, .cells o.cells] := by simp [Op.cells]
  have l1 : aload true 6 [.cells p.cells, .cells o.cells] (.ptr 1 0) = some (.agg o.cells) := by simp [Op.cells]
  have lk : aload false 1 [.cells p.cells, .cells o.cells] (.ptr 1 0) = some (.int .i64 o.kind) := by simp [Op.cells]
  have ld : aload false 1 [.cells p.cells, .cells o.cells] (.ptr 1 1) = some (.int .i64 o.dst) := by simp [Op.cells]
  have lp : aload true 5 [.cells p.cells, .cells o.cells] (.ptr 0 0) = some (.agg p.cells) := by simp [IR.cells]
  have ag0 : afieldAt 0 (.ptr 1 0) = some (.ptr 1 0) := rfl
  have ag1 : afieldAt 1 (.ptr 1 0) = some (.ptr 1 1) := rfl
  have lbb : ∀ H, aload true 5 H (.pptr b.cells) = some (.agg b.cells) := by intro H; simp [Blk.cells]
  have uo : (AVal.agg o.cells).untok = .agg o.cells := rfl
  have ub : (AVal.agg b.cells).untok = .agg b.cells := rfl
  have up : (AVal.agg p.cells).untok = .agg p.cells := rfl
  have w1 : IntKind.i64.wrap ((k : Int) + 1) = ((k + 1 : Nat) : Int) := by rw [wrap64 (by omega) (by omega), Int.natCast_add]; rfl
  have lb0 := lb []
  have lb1 := lb [.cells o.cells]
  generalize ((k + 1 : Nat) : Int) = k1 at *
  have noS : ¬ pureS o = true → (formS o.kind).dst = false ∨ o.kind = 18 := by
    intro hn
    by_cases hd : (formS o.kind).dst = true
    · by_cases h18 : o.kind = 18
      · exact .inr h18
      · by_cases h19 : o.kind = 19
        · rw [h19] at hd; exact absurd hd (by decide)
        · exact absurd (by simp [pureS, hd, h18, h19]) hn
    · exact .inl (by simpa using hd)
  by_cases hpu : pureS o = true
  · have hd : (formS o.kind).dst = true := by unfold pureS at hpu; simp only [Bool.and_eq_true] at hpu; exact hpu.2
    have h18 : ¬ o.kind = 18 := by unfold pureS at hpu; simp only [Bool.and_eq_true, decide_eq_true_eq] at hpu; exact hpu.1.1
    rw [hd] at g101
    rcases hfc with hf | hf | hf
    · rw [hf] at g158 hiff
      by_cases hbh : Behind p.blocks o.dst b.term
      · refine ⟨false, ⟨fun h => absurd h (by decide), fun h => absurd (hiff.2 (.inr ⟨rfl, hbh⟩)) h.2⟩, fun h => callP_pure rfl rfl (evW_by (m81_eq _ _ _ _ _) ?_)⟩
        simp only [hbh, decide_true] at g66
        unfold m81
        simp -implicitDefEqProofs [-aload_ptr, -aload_ptrT, -aload_pptr, -aload_pptr1, -astore_ptr, -anew, a0, ag2, lb0, lb1, ixb, agb, lo, ixo, lop, a1, st, l1, lk, ld, lp, ag0, ag1, lbb, uo, ub, up, w1, g158, g66, g101, h18, finR_zero]
      · refine ⟨true, ⟨fun _ => ⟨hpu, fun h => ?_⟩, fun _ => rfl⟩, fun h => callP_pure rfl rfl (evW_by (m81_eq _ _ _ _ _) ?_)⟩
        · rcases hiff.1 h with h1 | h1
          · omega
          · exact hbh h1.2
        · simp only [hbh, decide_false] at g66
          unfold m81
          simp -implicitDefEqProofs [-aload_ptr, -aload_ptrT, -aload_pptr, -aload_pptr1, -astore_ptr, -anew, a0, ag2, lb0, lb1, ixb, agb, lo, ixo, lop, a1, st, l1, lk, ld, lp, ag0, ag1, lbb, uo, ub, up, w1, g158, g66, g101, h18, finR_zero]
    · rw [hf] at g158 hiff
      refine ⟨false, ⟨fun h => absurd h (by decide), fun h => absurd (hiff.2 (.inl rfl)) h.2⟩, fun h => callP_pure rfl rfl (evW_by (m81_eq _ _ _ _ _) ?_)⟩
      unfold m81
      simp -implicitDefEqProofs [-aload_ptr, -aload_ptrT, -aload_pptr, -aload_pptr1, -astore_ptr, -anew, a0, ag2, lb0, lb1, ixb, agb, lo, ixo, lop, a1, st, l1, lk, ld, lp, ag0, ag1, lbb, uo, ub, up, w1, g158, g101, h18, finR_zero]
    · rw [hf] at g158 hiff
      refine ⟨true, ⟨fun _ => ⟨hpu, fun h => ?_⟩, fun _ => rfl⟩, fun h => callP_pure rfl rfl (evW_by (m81_eq _ _ _ _ _) ?_)⟩
      · rcases hiff.1 h with h1 | h1 <;> omega
      · unfold m81
        simp -implicitDefEqProofs [-aload_ptr, -aload_ptrT, -aload_pptr, -aload_pptr1, -astore_ptr, -anew, a0, ag2, lb0, lb1, ixb, agb, lo, ixo, lop, a1, st, l1, lk, ld, lp, ag0, ag1, lbb, uo, ub, up, w1, g158, g101, h18, finR_zero]
  · refine ⟨false, ⟨fun h => absurd h (by decide), fun h => absurd h.1 hpu⟩, fun h => callP_pure rfl rfl (evW_by (m81_eq _ _ _ _ _) ?_)⟩
    rcases noS hpu with hd | h18
    · rw [hd] at g101
      unfold m81
      simp -implicitDefEqProofs [-aload_ptr, -aload_ptrT, -aload_pptr, -aload_pptr1, -astore_ptr, -anew, a0, ag2, lb0, lb1, ixb, agb, lo, ixo, lop, a1, st, l1, lk, ag0, uo, g101, finR_zero]
    · rw [h18] at lk
      unfold m81
      cases hd : (formS o.kind).dst <;> rw [hd] at g101 <;>
        simp -implicitDefEqProofs [-aload_ptr, -aload_ptrT, -aload_pptr, -aload_pptr1, -astore_ptr, -anew, a0, ag2, lb0, lb1, ixb, agb, lo, ixo, lop, a1, st, l1, lk, ag0, uo, g101, finR_zero]
end Go.Proofs.YtkeoalhglkfbkaaDoor

/-
  The document's 'without'. No conditions.
-/
namespace Go.Proofs.YtkeoalhglkfbkaaDoor
open Go Hk Go.Proofs.Wd

theorem FRs_appends {α : Type} {enc : α → List AVal} {sz by_ : Nat} (hby : by_ ≤ 100) {h C : Heap} {l m : List α} (hl : l.length ≤ 4000000) (hm : m.length ≤ 4000000) {t : Hk.Tok} (hsz : ∀ x, (enc x).length = sz) (hpos : 0 < sz) :
    aappend sz by_ (h ++ FRs sz l.length :: C) (.slice (l.map enc) (.own h.length)) (.slice (m.map enc) t) = some (.slice ((l ++ m).map enc) (.own h.length), h ++ FRs sz (l.length + m.length) :: C) := by
  have hr : ∀ H : Heap, arowsS sz H (.slice (m.map enc) t) = some (m.map enc) := fun H => by simp [hsz]
  have hg : ∀ x, (h ++ x :: C)[h.length]? = some x := fun x => by rw [List.getElem?_append_right (Nat.le_refl _), Nat.sub_self]; rfl
  have hs : ∀ x y, (h ++ x :: C).set h.length y = h ++ y :: C := fun x y => by rw [List.set_append_right _ _ (Nat.le_refl _), Nat.sub_self]; rfl
  have hi : (l.map enc).length = l.length := by simp
  have hi2 : (m.map enc).length = m.length := by simp
  have e2 : (l ++ m).map enc = l.map enc ++ m.map enc := by simp
  have hb : (l.length + m.length) * by_ ≤ 140737488355328 := Nat.le_trans (Nat.mul_le_mul (Nat.le_refl _) hby) (by omega)
  unfold aappend
  simp only [hr]
  rw [hg, e2]
  by_cases h0 : l.length = 0
  · have e3 : FRs sz l.length = .front 0 0 := by simp [FRs, h0]
    rw [e3]
    simp only [hi, hi2, hs]
    by_cases h1 : m.length = 0
    · obtain rfl := List.eq_nil_of_length_eq_zero h1
      obtain rfl := List.eq_nil_of_length_eq_zero h0
      simp [FRs]
    · have e1 : FRs sz (l.length + m.length) = .front m.length sz := by simp [FRs, h1, h0]
      rw [h0, Nat.zero_add] at hb
      rw [e1, if_pos ⟨h0, .inr ⟨trivial, trivial⟩, by rw [Nat.zero_add]; exact hb, by omega⟩, if_neg (by omega)]
      simp
  · have e3 : FRs sz l.length = .front l.length sz := by simp [FRs, h0]
    have e1 : FRs sz (l.length + m.length) = .front (l.length + m.length) sz := by simp [FRs, h0]
    rw [e3, e1]
    simp only [hi, hi2, hs]
    by_cases h1 : m.length = 0
    · obtain rfl := List.eq_nil_of_length_eq_zero h1
      rw [if_pos ⟨trivial, .inl trivial, hb, by omega⟩, if_pos (by simp)]
      simp
    · rw [if_pos ⟨trivial, .inl trivial, hb, by omega⟩, if_neg (by omega)]

def HW2 (p : IR) (l : List Blk) (E : Heap) : Heap := .cells p.cells :: .cells [.int .i64 0, .slice [] (.own 2), .slice [] (.own 3), .int .i64 0, .int .i64 0] :: .front 0 0 :: .front 0 0 :: FRs 5 l.length :: E
theorem HW2_KBn {p : IR} {l : List Blk} : KBn 5 (HW2 p l []) :=
  KBn_cells HB_CBn (KBn_cells (CBn_int (CBn_own (by omega) (CBn_own (by omega) (by simp)))) (KBn_front (KBn_front FRs_ok)))
theorem HW2_append {p : IR} {l : List Blk} {c : Blk} {C : Heap} (hl : l.length ≤ 2000000) {t : Hk.Tok} :
    aappend 5 56 (HW2 p l C) (.slice (l.map Blk.cells) (.own 4)) (.slice [c.cells] t) = some (.slice ((l ++ [c]).map Blk.cells) (.own 4), HW2 p (l ++ [c]) C) := by
  have := FRs_append (enc := Blk.cells) (sz := 5) (by_ := 56) (by omega) (h := [.cells p.cells, .cells [.int .i64 0, .slice [] (.own 2), .slice [] (.own 3), .int .i64 0, .int .i64 0], .front 0 0, .front 0 0]) (C := C) (l := l) (z := c) hl (t := t) rfl (by omega)
  have e : HW2 p (l ++ [c]) C = [.cells p.cells, .cells [.int .i64 0, .slice [] (.own 2), .slice [] (.own 3), .int .i64 0, .int .i64 0], .front 0 0, .front 0 0] ++ FRs 5 (l.length + 1) :: C := by simp [HW2]
  rw [e]
  exact this
end Go.Proofs.YtkeoalhglkfbkaaDoor

/-
  The document's 'without': its rounds. No conditions.
-/
namespace Go.Proofs.YtkeoalhglkfbkaaDoor
open Go Hk Go.Proofs.Wd

/-- A block without an operation. -/
def cutB (b : Blk) (k : Nat) : Blk := ⟨b.ops.take k ++ b.ops.drop (k + 1), b.term⟩
set_option maxHeartbeats 1000000 in
theorem m82_step {p : IR} {l : List Blk} {b : Blk} {i i0 k : Nat} (hb : p.blocks[i]? = some b) (hi : i ≤ 2000000) (hl : l.length ≤ 2000000) (hk : i = i0 → k < b.ops.length) (hbl : b.ops.length ≤ 2000000) :
    m82_l0 KK 5 ([.int .i64 (i0 : Int), .int .i64 (k : Int), .ptr 0 0, .ptr 1 0, .slice (l.map Blk.cells) (.own 4), .int .i64 (i : Int)], HW2 p l []) =
    some (.normal, [.int .i64 (i0 : Int), .int .i64 (k : Int), .ptr 0 0, .ptr 1 0, .slice ((l ++ [if i = i0 then cutB b k else b]).map Blk.cells) (.own 4), .int .i64 ((i + 1 : Nat) : Int)], HW2 p (l ++ [if i = i0 then cutB b k else b]) []) := by
  have hib := (List.getElem?_eq_some_iff.1 hb).1
  have hii : (i : Int) < (p.blocks.length : Int) := by omega
  have w1 : IntKind.i64.wrap ((i : Int) + 1) = ((i + 1 : Nat) : Int) := by rw [wrap64 (by omega) (by omega), Int.natCast_add]; rfl
  generalize ((i + 1 : Nat) : Int) = i1 at *
  have ag2 : afieldAt 2 (.ptr 0 0) = some (.ptr 0 2) := rfl
  have lb : ∀ E, aload false 1 (HW2 p l E) (.ptr 0 2) = some (.slice (p.blocks.map Blk.cells) .no) := by intro E; simp [HW2, IR.cells]
  have lenB : alenSl (.slice (p.blocks.map Blk.cells) .no) = some (.int .i64 (p.blocks.length : Int)) := by simp
  have ixb : aindexSl 5 (.slice (p.blocks.map Blk.cells) .no) (.int .i64 (i : Int)) = some (.pptr b.cells) := by rw [aindexSl_map, hb]; rfl
  have lbb : ∀ H, aload true 5 H (.pptr b.cells) = some (.agg b.cells) := by intro H; simp [Blk.cells]
  have an : anew 5 (HW2 p l []) (.agg [.slice [] .nil, .int .i64 0, .int .i64 0, .int .i64 0, .int .i64 0]) = some (.ptr 5 0, HW2 p l [.cells [.slice [] (.own 6), .int .i64 0, .int .i64 0, .int .i64 0, .int .i64 0], .front 0 0]) := by simp [HW2]
  have st : astore 5 (HW2 p l [.cells [.slice [] (.own 6), .int .i64 0, .int .i64 0, .int .i64 0, .int .i64 0], .front 0 0]) (.ptr 5 0) (.agg b.cells) = some (HW2 p l [.cells b.cells, .front 0 0]) := by
    simp [HW2, Blk.cells, keep1, AVal.isNil]
  have ag0 : afieldAt 0 (.ptr 5 0) = some (.ptr 5 0) := rfl
  have bsl : ∀ (c : Blk) (t : Hk.Tok) (E : Heap) (n : Nat), (HW2 p l E).length = n → abuildSlice 1 5 [.slice [] .nil, .int .i64 0, .int .i64 0, .int .i64 0, .int .i64 0] [(0, .agg (.slice (c.ops.map Op.cells) t :: c.term.cells))] (HW2 p l E) = some (.slice [c.cells] (.own n), HW2 p l (E ++ [.front 1 5])) := by
    intro c t E n hn
    subst hn
    cases t <;> simp [abuildSlice, abuildRow, pureRow, AVal.pure1, rowsOf, HW2, Blk.cells, Term.cells]
  have tr : ∀ (l' : List Blk) (C : Heap), trunc 5 (HW2 p l' C) = some (HW2 p l' []) := fun l' C => trunc_app (h := HW2 p l' []) (C := C) HW2_KBn
  by_cases he : i = i0
  · subst he
    have hk' := hk rfl
    rw [if_pos rfl]
    have la : HW2 p l [.cells b.cells, .front 0 0] ++ [.front 0 0] = HW2 p l [.cells b.cells, .front 0 0, .front 0 0] := rfl
    have ll : (HW2 p l [.cells b.cells, .front 0 0]).length = 7 := rfl
    have lo : ∀ F, aload false 1 (HW2 p l [.cells b.cells, .front 0 0, F]) (.ptr 5 0) = some (.slice (b.ops.map Op.cells) .no) := by intro F; simp [HW2, Blk.cells]
    have w2 : IntKind.i64.wrap ((k : Int) + 1) = ((k + 1 : Nat) : Int) := by rw [wrap64 (by omega) (by omega), Int.natCast_add]; rfl
    have s1 : asliceSl 6 (.slice (b.ops.map Op.cells) .no) none (some (.int .i64 (k : Int))) = some (.slice ((b.ops.take k).map Op.cells) .no) := by
      simp [asliceSl, abound, Nat.le_of_lt hk', List.map_take]
      exact fun x _ => rfl
    have s2 : asliceSl 6 (.slice (b.ops.map Op.cells) .no) (some (.int .i64 ((k + 1 : Nat) : Int))) none = some (.slice ((b.ops.drop (k + 1)).map Op.cells) .no) := by
      have hle : k + 1 ≤ b.ops.length := hk'
      have ha : abound (some (.int .i64 ((k + 1 : Nat) : Int))) 0 = some (k + 1) := by simp only [abound]; rw [if_pos (by omega)]; simp
      simp only [asliceSl, ha, abound_none]
      simp [hle, List.map_drop]
      exact ⟨fun x _ => rfl, List.take_of_length_le (by simp)⟩
    have p1 := FRs_appends (enc := Op.cells) (sz := 6) (by_ := 48) (by omega) (h := HW2 p l [.cells b.cells, .front 0 0]) (C := []) (l := []) (m := b.ops.take k) (by simp) (by rw [List.length_take]; omega) (t := .no) (fun _ => rfl) (by omega)
    have p2 := FRs_appends (enc := Op.cells) (sz := 6) (by_ := 48) (by omega) (h := HW2 p l [.cells b.cells, .front 0 0]) (C := []) (l := b.ops.take k) (m := b.ops.drop (k + 1)) (by rw [List.length_take]; omega) (by rw [List.length_drop]; omega) (t := .no) (fun _ => rfl) (by omega)
    rw [ll] at p1 p2
    simp only [List.map_nil, List.length_nil, Nat.zero_add, List.nil_append] at p1
    have hf : ∀ n, HW2 p l [.cells b.cells, .front 0 0] ++ [FRs 6 n] = HW2 p l [.cells b.cells, .front 0 0, FRs 6 n] := fun n => rfl
    rw [hf, hf] at p1 p2
    obtain ⟨X, hX⟩ : ∃ X, X = b.ops.take k ++ b.ops.drop (k + 1) := ⟨_, rfl⟩
    have ec : cutB b k = ⟨X, b.term⟩ := by rw [hX]; rfl
    rw [ec]
    rw [← hX] at p2
    have sp : ∀ n, astore 1 (HW2 p l [.cells b.cells, .front 0 0, FRs 6 n]) (.ptr 5 0) (.slice (X.map Op.cells) (.own 7)) = some (HW2 p l [.cells (.slice (X.map Op.cells) (.own 7) :: b.term.cells), .front 0 0, FRs 6 n]) := by
      intro n
      cases X <;> simp [HW2, Blk.cells, Term.cells, keep1, AVal.isNil]
    have l1 : ∀ n, aload true 5 (HW2 p l [.cells (.slice (X.map Op.cells) (.own 7) :: b.term.cells), .front 0 0, FRs 6 n]) (.ptr 5 0) = some (.agg (.slice (X.map Op.cells) (.own 7) :: b.term.cells)) := by
      intro n; simp [HW2, Term.cells]
    have bs := bsl ⟨X, b.term⟩ (.own 7) [.cells (.slice (X.map Op.cells) (.own 7) :: b.term.cells), .front 0 0, FRs 6 ((b.ops.take k).length + (b.ops.drop (k + 1)).length)] 8 rfl
    have ap := HW2_append (p := p) (l := l) (c := ⟨X, b.term⟩) (C := [.cells (.slice (X.map Op.cells) (.own 7) :: b.term.cells), .front 0 0, FRs 6 ((b.ops.take k).length + (b.ops.drop (k + 1)).length), .front 1 5]) hl (t := .own 8)
    have trE := tr (l ++ [⟨X, b.term⟩]) [.cells (.slice (X.map Op.cells) (.own 7) :: b.term.cells), .front 0 0, FRs 6 ((b.ops.take k).length + (b.ops.drop (k + 1)).length), .front 1 5]
    have sp1 := sp ((b.ops.take k).length + (b.ops.drop (k + 1)).length)
    have l11 := l1 ((b.ops.take k).length + (b.ops.drop (k + 1)).length)
    have lo0 := lo (.front 0 0)
    have lo1 := lo (FRs 6 (b.ops.take k).length)
    have lb0 := lb []
    have hF0 : (FRs 6 0) = .front 0 0 := rfl
    rw [hF0] at p1
    simp only [List.cons_append, List.nil_append] at bs
    obtain ⟨LM, hLM⟩ : ∃ LM, LM = (l ++ [(⟨X, b.term⟩ : Blk)]).map Blk.cells := ⟨_, rfl⟩
    rw [← hLM] at ap ⊢
    generalize ((k + 1 : Nat) : Int) = k1 at *
    generalize l.map Blk.cells = LL at *
    generalize X.map Op.cells = XM at *
    generalize (b.ops.take k).map Op.cells = TM at *
    generalize (b.ops.drop (k + 1)).map Op.cells = DM at *
    generalize (b.ops.take k).length = n1 at *
    generalize (b.ops.drop (k + 1)).length = n2 at *
    generalize HW2 p l [] = X0 at *
    generalize HW2 p (l ++ [(⟨X, b.term⟩ : Blk)]) [] = X9 at *
    generalize HW2 p l [.cells [.slice [] (.own 6), .int .i64 0, .int .i64 0, .int .i64 0, .int .i64 0], .front 0 0] = X1 at *
    generalize HW2 p l [.cells b.cells, .front 0 0, .front 0 0] = X3 at *
    generalize HW2 p l [.cells b.cells, .front 0 0, FRs 6 n1] = X4 at *
    generalize HW2 p l [.cells b.cells, .front 0 0, FRs 6 (n1 + n2)] = X5 at *
    generalize HW2 p l [.cells b.cells, .front 0 0] = X2 at *
    unfold m82_l0
    simp -implicitDefEqProofs [-aload_ptr, -aload_ptrT, -aload_pptr, -aload_pptr1, -astore_ptr, -anew, ag2, lb0, lenB, hii, ixb, lbb, an, st, la, ll, ag0, lo0, s1, p1, lo1, w2, s2, p2, sp1, l11, bs, ap, w1, trE, endR, san1_ptr]
  · rw [if_neg he]
    have hei : ¬ ((i : Int) = (i0 : Int)) := by omega
    have l1 : aload true 5 (HW2 p l [.cells b.cells, .front 0 0]) (.ptr 5 0) = some (.agg b.cells) := by simp [HW2, Blk.cells]
    have bs := bsl b .no [.cells b.cells, .front 0 0] 7 rfl
    have ec : (.slice (b.ops.map Op.cells) .no :: b.term.cells) = b.cells := rfl
    rw [ec] at bs
    have ap := HW2_append (p := p) (l := l) (c := b) (C := [.cells b.cells, .front 0 0, .front 1 5]) hl (t := .own 7)
    have trE := tr (l ++ [b]) [.cells b.cells, .front 0 0, .front 1 5]
    have bs' : abuildSlice 1 5 [.slice [] .nil, .int .i64 0, .int .i64 0, .int .i64 0, .int .i64 0] [(0, .agg b.cells)] (HW2 p l [.cells b.cells, .front 0 0]) = some (.slice [b.cells] (.own 7), HW2 p l [.cells b.cells, .front 0 0, .front 1 5]) := bs
    have lb0 := lb []
    obtain ⟨LM, hLM⟩ : ∃ LM, LM = (l ++ [b]).map Blk.cells := ⟨_, rfl⟩
    rw [← hLM] at ap ⊢
    generalize l.map Blk.cells = LL at *
    generalize HW2 p l [] = X0 at *
    generalize HW2 p (l ++ [b]) [] = X9 at *
    generalize HW2 p l [.cells [.slice [] (.own 6), .int .i64 0, .int .i64 0, .int .i64 0, .int .i64 0], .front 0 0] = X1 at *
    generalize HW2 p l [.cells b.cells, .front 0 0] = X2 at *
    generalize HW2 p l [.cells b.cells, .front 0 0, .front 1 5] = X3 at *
    generalize HW2 p (l ++ [b]) [.cells b.cells, .front 0 0, .front 1 5] = X4 at *
    unfold m82_l0
    simp -implicitDefEqProofs [-aload_ptr, -aload_ptrT, -aload_pptr, -aload_pptr1, -astore_ptr, -anew, ag2, lb0, lenB, hii, ixb, lbb, an, st, hei, l1, bs', ap, w1, trE, endR, san1_ptr]
end Go.Proofs.YtkeoalhglkfbkaaDoor

/-
  The document's 'without', whole. No conditions.
-/
namespace Go.Proofs.YtkeoalhglkfbkaaDoor
open Go Hk Go.Proofs.Wd

theorem m82_loop {p : IR} {bs' : List Blk} {i0 k : Nat} (hn : p.blocks.length ≤ 1048576) (hbl : ∀ b ∈ p.blocks, b.ops.length ≤ 2000000) (hk : ∀ b, p.blocks[i0]? = some b → k < b.ops.length)
    (hbs : bs'.length = p.blocks.length) (hget : ∀ (i : Nat) (b : Blk), p.blocks[i]? = some b → bs'[i]? = some (if i = i0 then cutB b k else b)) : ∀ (d i : Nat), p.blocks.length = i + d →
    lpW (m82_l0 KK 5) ([.int .i64 (i0 : Int), .int .i64 (k : Int), .ptr 0 0, .ptr 1 0, .slice ((bs'.take i).map Blk.cells) (.own 4), .int .i64 (i : Int)], HW2 p (bs'.take i) []) =
    some (.exit 0, [.int .i64 (i0 : Int), .int .i64 (k : Int), .ptr 0 0, .ptr 1 0, .slice (bs'.map Blk.cells) (.own 4), .int .i64 (p.blocks.length : Int)], HW2 p bs' []) := by
  intro d
  induction d with
  | zero =>
    intro i hi
    obtain rfl : i = p.blocks.length := by omega
    rw [← hbs, List.take_length, hbs]
    refine lp_exit ?_
    have ag2 : afieldAt 2 (.ptr 0 0) = some (.ptr 0 2) := rfl
    have lb : aload false 1 (HW2 p bs' []) (.ptr 0 2) = some (.slice (p.blocks.map Blk.cells) .no) := by simp [HW2, IR.cells]
    have lenB : alenSl (.slice (p.blocks.map Blk.cells) .no) = some (.int .i64 (p.blocks.length : Int)) := by simp
    have tr : trunc 5 (HW2 p bs' []) = some (HW2 p bs' []) := trunc_app0 (h := HW2 p bs' []) HW2_KBn
    generalize HW2 p bs' [] = X at *
    generalize bs'.map Blk.cells = LL at *
    unfold m82_l0
    simp -implicitDefEqProofs [-aload_ptr, ag2, lb, lenB, endR, tr, san1_ptr]
  | succ d ih =>
    intro i hi
    have hib : i < p.blocks.length := by omega
    obtain ⟨b, hb⟩ : ∃ b, p.blocks[i]? = some b := ⟨_, List.getElem?_eq_getElem hib⟩
    have hg := hget i b hb
    have st := m82_step (p := p) (l := bs'.take i) (b := b) (i := i) (i0 := i0) (k := k) hb (by omega) (by rw [List.length_take]; omega) (fun e => hk b (e ▸ hb)) (hbl b (List.mem_of_getElem? hb))
    have et : bs'.take i ++ [if i = i0 then cutB b k else b] = bs'.take (i + 1) := by
      rw [List.take_succ_eq_append_getElem (by omega), (List.getElem?_eq_some_iff.1 hg).2]
    rw [et] at st
    rw [lp_go st]
    exact ih (i + 1) (by omega)
theorem c82 {p : IR} {i k : Nat} {b : Blk} (hn : p.blocks.length ≤ 1048576) (hbl : ∀ b ∈ p.blocks, b.ops.length ≤ 2000000) (hb : p.blocks[i]? = some b) (hk : k < b.ops.length) (h : Heap) :
    KK 82 [.agg p.cells, .int .i64 (i : Int), .int .i64 (k : Int)] h = some (.ret (.agg (wB p (p.blocks.set i (cutB b k))).cells), h) := by
  refine callP_pure rfl rfl (evW_by (m82_eq _ _ _ _ _) ?_)
  have g := m82_loop (p := p) (bs' := p.blocks.set i (cutB b k)) (i0 := i) (k := k) hn hbl (fun b' hb' => by rw [hb] at hb'; cases hb'; exact hk) (by simp) (fun j b' hj => by
    rw [List.getElem?_set]
    have hil := (List.getElem?_eq_some_iff.1 hb).1
    by_cases hij : i = j
    · subst hij
      rw [hb] at hj; cases hj
      simp [hil]
    · rw [if_neg hij, if_neg (fun e => hij e.symm), hj]) p.blocks.length 0 (by omega)
  have e0 : ((0 : Nat) : Int) = 0 := rfl
  rw [e0, List.take_zero] at g
  generalize p.blocks.set i (cutB b k) = q at *
  have a0 : anew 5 [] (.agg p.cells) = some (.ptr 0 0, [.cells p.cells]) := by simp [IR.cells]
  have a1 : anew 5 [.cells p.cells] (.agg [.int .i64 0, .slice [] .nil, .slice [] .nil, .int .i64 0, .int .i64 0]) = some (.ptr 1 0, [.cells p.cells, .cells [.int .i64 0, .slice [] (.own 2), .slice [] (.own 3), .int .i64 0, .int .i64 0], .front 0 0, .front 0 0]) := by simp
  have eH : [.cells p.cells, .cells [.int .i64 0, .slice [] (.own 2), .slice [] (.own 3), .int .i64 0, .int .i64 0], .front 0 0, .front 0 0, .front 0 0] = HW2 p [] [] := rfl
  have ag2 : afieldAt 2 (.ptr 0 0) = some (.ptr 0 2) := rfl
  have fin : ∃ H1 H2 v, astore 1 (HW2 p q []) (.ptr 0 2) (.slice (q.map Blk.cells) (.own 4)) = some H1 ∧ aload true 5 H1 (.ptr 0 0) = some v ∧ astore 5 H1 (.ptr 1 0) v = some H2 ∧
      (aload true 5 H2 (.ptr 1 0)).bind (fun t => finR 0 t H2) = some (.ret (.agg (wB p q).cells), []) := by
    cases hq : q with
    | nil => exact ⟨_, _, _, by simp [HW2, IR.cells, keep1, AVal.isNil]; rfl, rfl, by simp [keep1, AVal.isNil]; rfl, rfl⟩
    | cons x r => exact ⟨_, _, _, by simp [HW2, IR.cells, keep1, AVal.isNil]; rfl, rfl, by simp [keep1, AVal.isNil]; rfl, rfl⟩
  obtain ⟨H1, H2, v, f1, f2, f3, f4⟩ := fin
  have l5 : (HW2 p [] []).length = 5 := rfl
  simp only [List.map_nil] at g
  generalize hX : HW2 p [] [] = X0 at *
  generalize HW2 p q [] = X1 at *
  generalize q.map Blk.cells = QM at *
  unfold m82
  simp -implicitDefEqProofs [-aload_ptr, -aload_ptrT, -astore_ptr, -anew, a0, a1, eH, hX, ag2, l5, g, f1, f2, f3, f4]
end Go.Proofs.YtkeoalhglkfbkaaDoor

/-
  The document's 'Dead': its inner loop. No conditions.
-/
namespace Go.Proofs.YtkeoalhglkfbkaaDoor
open Go Hk Go.Proofs.Wd

def H41 (p : IR) (bs : List Blk) (E : Heap) : Heap := .cells (wB p bs).cells :: .cells [.int .i64 0, .slice [] (.own 2), .slice [] (.own 3), .int .i64 0, .int .i64 0] :: .front 0 0 :: .front 0 0 :: E
theorem H41_KBn {p : IR} {bs : List Blk} : KBn 4 (H41 p bs []) := KBn_cells HB_CBn (KBn_cells (CBn_int (CBn_own (by omega) (CBn_own (by omega) (by simp)))) (KBn_front (KBn_front KBn_nil)))
theorem cut_step {bs : List Blk} {i k : Nat} {b : Blk} {o : Op} (hb : bs[i]? = some b) (ho : b.ops[k]? = some o) (hp : pureS o = true) (hd : ¬ trOps (b.ops.drop (k + 1)) b.term (behindS bs b.term) o.dst) : Step bs (bs.set i (cutB b k)) := by
  have hk := (List.getElem?_eq_some_iff.1 ho).1
  refine ⟨i, b, b.ops.take k, o, b.ops.drop (k + 1), hb, ?_, hp, hd, rfl⟩
  rw [← (List.getElem?_eq_some_iff.1 ho).2, ← List.drop_eq_getElem_cons hk, List.take_append_drop]
theorem m41_step {p : IR} {bs : List Blk} {i k : Nat} {b : Blk} {o : Op} {found : Bool} (h0 : checkS (wB p bs) = 0) (hb : bs[i]? = some b) (ho : b.ops[k]? = some o) :
    ∃ bs' found', m41_l0 KK 4 ([.ptr 0 0, .ptr 1 0, .int .i64 0, .bool found, .int .i64 (i : Int), .int .i64 (k : Int)], H41 p bs []) = some (.normal, [.ptr 0 0, .ptr 1 0, .int .i64 0, .bool found', .int .i64 (i : Int), .int .i64 ((k : Int) - 1)], H41 p bs' []) ∧
      ((Step bs bs' ∧ bs' = bs.set i (cutB b k) ∧ found' = true) ∨ (bs' = bs ∧ found' = found ∧ ¬ (pureS o = true ∧ ¬ trOps (b.ops.drop (k + 1)) b.term (behindS bs b.term) o.dst))) := by
  obtain ⟨hp, hl⟩ := opsOk_of h0
  have hk := (List.getElem?_eq_some_iff.1 ho).1
  have hkb := hp.len b (List.mem_of_getElem? hb)
  obtain ⟨r, hr, g81⟩ := c81 (p := wB p bs) hp hl (i := i) (k := k) hb ho
  have g82 := c82 (p := wB p bs) (i := i) (k := k) hp.nb (fun b hb => by have := hp.len b hb; omega) hb hk
  have e82 : wB (wB p bs) ((wB p bs).blocks.set i (cutB b k)) = wB p (bs.set i (cutB b k)) := rfl
  rw [e82] at g82
  have l0 : aload true 5 (H41 p bs []) (.ptr 0 0) = some (.agg (wB p bs).cells) := by simp [H41, IR.cells]
  have u0 : (AVal.agg (wB p bs).cells).untok = .agg (wB p bs).cells := rfl
  have st : ∀ q, astore 5 (H41 p bs []) (.ptr 0 0) (.agg (wB p q).cells) = some (H41 p q []) := by intro q; simp [H41, IR.cells, keep1, AVal.isNil]
  have w1 : IntKind.i64.wrap ((k : Int) - 1) = (k : Int) - 1 := by rw [wrap64 (by omega) (by omega)]
  have hge : (0 : Int) ≤ (k : Int) := by omega
  have tr : ∀ q, trunc 4 (H41 p q []) = some (H41 p q []) := fun q => trunc_app0 (h := H41 p q []) H41_KBn
  have st1 := st (bs.set i (cutB b k))
  have tr1 := tr bs
  have tr2 := tr (bs.set i (cutB b k))
  generalize hA : AVal.agg (wB p bs).cells = AG at *
  cases r with
  | true =>
    have hd := hr.1 rfl
    refine ⟨bs.set i (cutB b k), true, ?_, .inl ⟨cut_step hb ho hd.1 hd.2, rfl, rfl⟩⟩
    generalize bs.set i (cutB b k) = q at *
    generalize H41 p bs [] = X0 at *
    generalize H41 p q [] = X1 at *
    unfold m41_l0
    simp -implicitDefEqProofs [-aload_ptr, -aload_ptrT, -astore_ptr, l0, u0, g81, g82, st1, w1, hge, tr2, endR, san1_ptr]
  | false =>
    refine ⟨bs, found, ?_, .inr ⟨rfl, rfl, fun h => by have := hr.2 h; cases this⟩⟩
    generalize H41 p bs [] = X0 at *
    unfold m41_l0
    simp -implicitDefEqProofs [-aload_ptr, -aload_ptrT, -astore_ptr, l0, u0, g81, w1, hge, tr1, endR, san1_ptr]
end Go.Proofs.YtkeoalhglkfbkaaDoor

/-
  The document's 'Dead': a block gone through. No conditions.
-/
namespace Go.Proofs.YtkeoalhglkfbkaaDoor
open Go Hk Go.Proofs.Wd

theorem step_nOps {bs bs' : List Blk} (h : Step bs bs') : nOps bs' < nOps bs := by
  have hs := step_subB h
  obtain ⟨i, b, pre, o, post, hb, ho, hp, hd, rfl⟩ := h
  have hi := (List.getElem?_eq_some_iff.1 hb).1
  exact nOps_lt hs ⟨i, b, ⟨pre ++ post, b.term⟩, hb, by simp [hi], by simp [ho]⟩
theorem star_nOps {bs bs' : List Blk} (h : Star bs bs') : nOps bs' ≤ nOps bs := by
  induction h with
  | refl => exact Nat.le_refl _
  | head s _ ih => have := step_nOps s; omega
/-- Operation k of block i is dead. -/
def DeadAt (bs : List Blk) (i k : Nat) : Prop := ∃ b o, bs[i]? = some b ∧ b.ops[k]? = some o ∧ pureS o = true ∧ ¬ trOps (b.ops.drop (k + 1)) b.term (behindS bs b.term) o.dst
theorem m41_loop0 {p : IR} {i : Nat} (hi : i ≤ 1048576) : ∀ (k : Nat) (bs : List Blk) (b : Blk) (found : Bool), checkS (wB p bs) = 0 → bs[i]? = some b → k ≤ b.ops.length →
    ∃ bs' found', lpW (m41_l0 KK 4) ([.ptr 0 0, .ptr 1 0, .int .i64 0, .bool found, .int .i64 (i : Int), .int .i64 ((k : Int) - 1)], H41 p bs []) = some (.exit 4, [.ptr 0 0, .ptr 1 0, .int .i64 0, .bool found', .int .i64 (i : Int), .int .i64 (-1)], H41 p bs' []) ∧
      Star bs bs' ∧ ((bs' = bs ∧ found' = found ∧ ∀ j, j < k → ¬ DeadAt bs i j) ∨ (found' = true ∧ (found = true ∨ nOps bs' < nOps bs))) := by
  intro k
  induction k with
  | zero =>
    intro bs b found h0 hb _
    refine ⟨bs, found, lp_exit ?_, .refl _, .inl ⟨rfl, rfl, fun j hj => by omega⟩⟩
    have e0 : ((0 : Nat) : Int) - 1 = -1 := rfl
    rw [e0]
    have tr : trunc 4 (H41 p bs []) = some (H41 p bs []) := trunc_app0 (h := H41 p bs []) H41_KBn
    generalize H41 p bs [] = X at *
    unfold m41_l0
    simp -implicitDefEqProofs [tr, endR, san1_ptr]
  | succ k ih =>
    intro bs b found h0 hb hk
    have e1 : ((k + 1 : Nat) : Int) - 1 = (k : Int) := by omega
    rw [e1]
    obtain ⟨o, ho⟩ : ∃ o, b.ops[k]? = some o := ⟨_, List.getElem?_eq_getElem (by omega)⟩
    obtain ⟨bs1, f1, g, h⟩ := m41_step (found := found) h0 hb ho
    rw [lp_go g]
    rcases h with ⟨s, e, rfl⟩ | ⟨rfl, rfl, hd⟩
    · have hil := (List.getElem?_eq_some_iff.1 hb).1
      obtain ⟨bs', f', g', s', h'⟩ := ih bs1 (cutB b k) true (checkS_sub (p := wB p bs) (step_subB s) h0) (by rw [e]; simp [hil]) (by simp [cutB]; omega)
      refine ⟨bs', f', g', .head s s', .inr ?_⟩
      have n1 := step_nOps s
      have n2 := star_nOps s'
      rcases h' with ⟨_, h2, _⟩ | h2
      · exact ⟨h2, .inr (by omega)⟩
      · exact ⟨h2.1, .inr (by omega)⟩
    · obtain ⟨bs', f', g', s', h'⟩ := ih bs1 b f1 h0 hb (by omega)
      refine ⟨bs', f', g', s', ?_⟩
      rcases h' with ⟨h1, h2, h3⟩ | h2
      · refine .inl ⟨h1, h2, fun j hj => ?_⟩
        by_cases hjk : j = k
        · subst hjk
          rintro ⟨b', o', q1, q2, q3, q4⟩
          rw [hb] at q1; cases q1
          rw [ho] at q2; cases q2
          exact hd ⟨q3, q4⟩
        · exact h3 j (by omega)
      · exact .inr h2
end Go.Proofs.YtkeoalhglkfbkaaDoor

/-
  The document's 'Dead': all blocks gone through. No conditions.
-/
namespace Go.Proofs.YtkeoalhglkfbkaaDoor
open Go Hk Go.Proofs.Wd

theorem m41_loop1 {p : IR} : ∀ (i : Nat) (bs : List Blk) (found : Bool), checkS (wB p bs) = 0 → i ≤ bs.length →
    ∃ bs' found', lpW (m41_l1 KK 4) ([.ptr 0 0, .ptr 1 0, .int .i64 0, .bool found, .int .i64 ((i : Int) - 1)], H41 p bs []) = some (.exit 2, [.ptr 0 0, .ptr 1 0, .int .i64 0, .bool found', .int .i64 (-1)], H41 p bs' []) ∧
      Star bs bs' ∧ ((bs' = bs ∧ found' = found ∧ ∀ j k, j < i → ¬ DeadAt bs j k) ∨ (found' = true ∧ (found = true ∨ nOps bs' < nOps bs))) := by
  intro i
  induction i with
  | zero =>
    intro bs found h0 _
    refine ⟨bs, found, lp_exit ?_, .refl _, .inl ⟨rfl, rfl, fun j k hj => by omega⟩⟩
    have e0 : ((0 : Nat) : Int) - 1 = -1 := rfl
    rw [e0]
    have tr : trunc 4 (H41 p bs []) = some (H41 p bs []) := trunc_app0 (h := H41 p bs []) H41_KBn
    generalize H41 p bs [] = X at *
    unfold m41_l1
    simp -implicitDefEqProofs [tr, endR, san1_ptr]
  | succ i ih =>
    intro bs found h0 hi
    have e1 : ((i + 1 : Nat) : Int) - 1 = (i : Int) := by omega
    rw [e1]
    have hp := (opsOk_of h0).1
    have hnb : bs.length ≤ 1048576 := hp.nb
    obtain ⟨b, hb⟩ : ∃ b, bs[i]? = some b := ⟨_, List.getElem?_eq_getElem (by omega)⟩
    have hbl : b.ops.length ≤ 1048576 := hp.len b (List.mem_of_getElem? hb)
    obtain ⟨bs1, f1, g, s1, h1⟩ := m41_loop0 (p := p) (i := i) (by omega) b.ops.length bs b found h0 hb (Nat.le_refl _)
    have ag2 : afieldAt 2 (.ptr 0 0) = some (.ptr 0 2) := rfl
    have lb : aload false 1 (H41 p bs []) (.ptr 0 2) = some (.slice (bs.map Blk.cells) .no) := by simp [H41, IR.cells, wB]
    have ixb : aindexSl 5 (.slice (bs.map Blk.cells) .no) (.int .i64 (i : Int)) = some (.pptr b.cells) := by rw [aindexSl_map, hb]; rfl
    have agb : afieldAt 0 (.pptr b.cells) = some (.pptr b.cells) := by simp [afieldAt]
    have lo : ∀ H, aload false 1 H (.pptr b.cells) = some (.slice (b.ops.map Op.cells) .no) := by intro H; simp [Blk.cells]
    have lenO : alenSl (.slice (b.ops.map Op.cells) .no) = some (.int .i64 (b.ops.length : Int)) := by simp
    have w0 : IntKind.i64.wrap ((b.ops.length : Int) - 1) = (b.ops.length : Int) - 1 := by rw [wrap64 (by omega) (by omega)]
    have w1 : IntKind.i64.wrap ((i : Int) - 1) = (i : Int) - 1 := by rw [wrap64 (by omega) (by omega)]
    have hge : (0 : Int) ≤ (i : Int) := by omega
    have hl4 : (H41 p bs []).length = 4 := rfl
    have tr : trunc 4 (H41 p bs1 []) = some (H41 p bs1 []) := trunc_app0 (h := H41 p bs1 []) H41_KBn
    have gg : m41_l1 KK 4 ([.ptr 0 0, .ptr 1 0, .int .i64 0, .bool found, .int .i64 (i : Int)], H41 p bs []) = some (.normal, [.ptr 0 0, .ptr 1 0, .int .i64 0, .bool f1, .int .i64 ((i : Int) - 1)], H41 p bs1 []) := by
      generalize H41 p bs [] = X0 at *
      generalize H41 p bs1 [] = X1 at *
      unfold m41_l1
      simp -implicitDefEqProofs [-aload_ptr, -aload_pptr1, ag2, lb, ixb, agb, lo, lenO, w0, w1, hge, hl4, g, tr, endR, san1_ptr]
    rw [lp_go gg]
    have hsub := star_subB s1
    obtain ⟨bs', f', g', s', h'⟩ := ih bs1 f1 (checkS_sub (p := wB p bs) hsub h0) (by rw [← hsub.1]; omega)
    refine ⟨bs', f', g', s1.trans s', ?_⟩
    rcases h' with ⟨q1, q2, q3⟩ | q2
    · rcases h1 with ⟨r1, r2, r3⟩ | r2
      · subst r1
        refine .inl ⟨q1, q2.trans r2, fun j k hj => ?_⟩
        by_cases hji : j = i
        · subst hji
          intro hd
          have hd2 := hd
          obtain ⟨b', o', t1, t2, _⟩ := hd
          have hk := (List.getElem?_eq_some_iff.1 t2).1
          rw [hb] at t1; cases t1
          exact r3 k hk hd2
        · exact q3 j k (by omega)
      · subst q1
        exact .inr ⟨q2.trans r2.1, r2.2⟩
    · have n2 := star_nOps s'
      refine .inr ⟨q2.1, ?_⟩
      rcases h1 with ⟨r1, r2, r3⟩ | r2
      · subst r1
        rw [r2] at q2
        exact q2.2
      · rcases r2.2 with r | r
        · exact .inl r
        · exact .inr (by omega)
end Go.Proofs.YtkeoalhglkfbkaaDoor

/-
  The document's 'Dead': what it answers. No conditions.
-/
namespace Go.Proofs.YtkeoalhglkfbkaaDoor
open Go Hk Go.Proofs.Wd

theorem norm_of_noDead {bs : List Blk} (h : ∀ j k, j < bs.length → ¬ DeadAt bs j k) : Norm bs := by
  rintro q ⟨i, b, pre, o, post, hb, ho, hp, hd, _⟩
  refine h i pre.length (List.getElem?_eq_some_iff.1 hb).1 ⟨b, o, hb, by simp [ho], hp, ?_⟩
  have e : b.ops.drop (pre.length + 1) = post := by rw [ho]; simp
  rw [e]; exact hd
theorem m41_round {p : IR} {bs : List Blk} (h0 : checkS (wB p bs) = 0) : ∃ bs' found', m41_l2 KK 4 ([.ptr 0 0, .ptr 1 0, .int .i64 0, .bool true], H41 p bs []) = some (.normal, [.ptr 0 0, .ptr 1 0, .int .i64 0, .bool found'], H41 p bs' []) ∧
      Star bs bs' ∧ ((bs' = bs ∧ found' = false ∧ Norm bs) ∨ (found' = true ∧ nOps bs' < nOps bs)) := by
  have hp := (opsOk_of h0).1
  have hnb : bs.length ≤ 1048576 := hp.nb
  obtain ⟨bs', f', g, s, h⟩ := m41_loop1 (p := p) bs.length bs false h0 (Nat.le_refl _)
  refine ⟨bs', f', ?_, s, ?_⟩
  · have ag2 : afieldAt 2 (.ptr 0 0) = some (.ptr 0 2) := rfl
    have lb : aload false 1 (H41 p bs []) (.ptr 0 2) = some (.slice (bs.map Blk.cells) .no) := by simp [H41, IR.cells, wB]
    have lenB : alenSl (.slice (bs.map Blk.cells) .no) = some (.int .i64 (bs.length : Int)) := by simp
    have w0 : IntKind.i64.wrap ((bs.length : Int) - 1) = (bs.length : Int) - 1 := by rw [wrap64 (by omega) (by omega)]
    have hl4 : (H41 p bs []).length = 4 := rfl
    have tr : trunc 4 (H41 p bs' []) = some (H41 p bs' []) := trunc_app0 (h := H41 p bs' []) H41_KBn
    generalize H41 p bs [] = X0 at *
    generalize H41 p bs' [] = X1 at *
    unfold m41_l2
    simp -implicitDefEqProofs [-aload_ptr, ag2, lb, lenB, w0, hl4, g, tr, endR, san1_ptr]
  · rcases h with ⟨h1, h2, h3⟩ | ⟨h1, h2⟩
    · exact .inl ⟨h1, h2, norm_of_noDead h3⟩
    · rcases h2 with h2 | h2
      · cases h2
      · exact .inr ⟨h1, h2⟩
theorem m41_loop2 {p : IR} : ∀ (N : Nat) (bs : List Blk), nOps bs < N → checkS (wB p bs) = 0 →
    ∃ q, Star bs q ∧ Norm q ∧ lpW (m41_l2 KK 4) ([.ptr 0 0, .ptr 1 0, .int .i64 0, .bool true], H41 p bs []) = some (.exit 0, [.ptr 0 0, .ptr 1 0, .int .i64 0, .bool false], H41 p q []) := by
  intro N
  induction N with
  | zero => intro bs h _; omega
  | succ N ih =>
    intro bs hN h0
    obtain ⟨bs', f', g, s, h⟩ := m41_round h0
    rw [lp_go g]
    rcases h with ⟨rfl, rfl, hn⟩ | ⟨rfl, hlt⟩
    · refine ⟨bs', .refl _, hn, lp_exit ?_⟩
      have tr : trunc 4 (H41 p bs' []) = some (H41 p bs' []) := trunc_app0 (h := H41 p bs' []) H41_KBn
      generalize H41 p bs' [] = X1 at *
      unfold m41_l2
      simp -implicitDefEqProofs [tr, endR, san1_ptr]
    · obtain ⟨q, s1, n1, g1⟩ := ih bs' (by omega) (checkS_sub (p := wB p bs) (star_subB s) h0)
      exact ⟨q, s.trans s1, n1, g1⟩

/-- 'Dead'. -/
theorem c41 (p : IR) : (checkS p ≠ 0 ∧ ∀ h, KK 41 [.agg p.cells] h = some (.ret (.tuple [.agg (IR.cells ⟨0, [], [], 0, 0⟩), .int .i64 (checkS p)]), h)) ∨
    (checkS p = 0 ∧ ∃ q, Star p.blocks q ∧ Norm q ∧ ∀ h, KK 41 [.agg p.cells] h = some (.ret (.tuple [.agg (wB p q).cells, .int .i64 0]), h)) := by
  have a0 : anew 5 [] (.agg p.cells) = some (.ptr 0 0, [.cells p.cells]) := by simp [IR.cells]
  have a1 : anew 5 [.cells p.cells] (.agg [.int .i64 0, .slice [] .nil, .slice [] .nil, .int .i64 0, .int .i64 0]) = some (.ptr 1 0, H41 p p.blocks []) := by simp [H41]; rfl
  have l0 : aload true 5 (H41 p p.blocks []) (.ptr 0 0) = some (.agg p.cells) := by simp [H41, IR.cells, wB]
  have u0 : (AVal.agg p.cells).untok = .agg p.cells := rfl
  have g64 := c64 p
  have hl4 : (H41 p p.blocks []).length = 4 := rfl
  by_cases h0 : checkS p = 0
  · refine .inr ⟨h0, ?_⟩
    obtain ⟨q, s1, n1, g⟩ := m41_loop2 (p := p) (nOps p.blocks + 1) p.blocks (Nat.lt_succ_self _) h0
    refine ⟨q, s1, n1, fun h => callP_pure rfl rfl (evW_by (m41_eq _ _ _) ?_)⟩
    rw [h0] at g64
    have fin : ∃ H2 v, aload true 5 (H41 p q []) (.ptr 0 0) = some v ∧ astore 5 (H41 p q []) (.ptr 1 0) v = some H2 ∧
      (aload true 5 H2 (.ptr 1 0)).bind (fun t => finR 0 (.tuple [t, .int .i64 0]) H2) = some (.ret (.tuple [.agg (wB p q).cells, .int .i64 0]), []) := by
      refine ⟨.cells (wB p q).cells :: .cells (wB p q).cells :: .front 0 0 :: .front 0 0 :: [], .agg (wB p q).cells, rfl, by simp [H41, IR.cells, keep1, AVal.isNil, wB], rfl⟩
    obtain ⟨H2, v, f1, f2, f3⟩ := fin
    generalize H41 p p.blocks [] = X0 at *
    generalize H41 p q [] = X1 at *
    unfold m41
    simp -implicitDefEqProofs [-aload_ptr, -aload_ptrT, -astore_ptr, -anew, -abuild, a0, a1, l0, u0, g64, hl4, g, f1, f2, f3]
  · refine .inl ⟨h0, fun h => callP_pure rfl rfl (evW_by (m41_eq _ _ _) ?_)⟩
    have bz : abuild [.int .i64 0, .slice [] .nil, .slice [] .nil, .int .i64 0, .int .i64 0] [(0, 1), (1, 1), (2, 1), (3, 1), (4, 1)] [] = some (.agg [.int .i64 0, .slice [] .nil, .slice [] .nil, .int .i64 0, .int .i64 0]) := rfl
    have st : astore 5 (H41 p p.blocks []) (.ptr 1 0) (.agg [.int .i64 0, .slice [] .nil, .slice [] .nil, .int .i64 0, .int .i64 0]) = some (H41 p p.blocks []) := by simp [H41, keep1, AVal.isNil, isFresh]
    have f1 : (aload true 5 (H41 p p.blocks []) (.ptr 1 0)).bind (fun t => finR 0 (.tuple [t, .int .i64 (checkS p)]) (H41 p p.blocks [])) =
        some (.ret (.tuple [.agg (IR.cells ⟨0, [], [], 0, 0⟩), .int .i64 (checkS p)]), []) := rfl
    generalize H41 p p.blocks [] = X0 at *
    unfold m41
    simp -implicitDefEqProofs [-aload_ptr, -aload_ptrT, -astore_ptr, -anew, -abuild, a0, a1, l0, u0, g64, h0, bz, st, f1]
end Go.Proofs.YtkeoalhglkfbkaaDoor

/-
  Few operations; 'Same' of a program with itself. No conditions.
-/
namespace Go.Proofs.YtkeoalhglkfbkaaDoor
open Go Hk Go.Proofs.Wd

theorem m38_loop {p : IR} : ∀ (d i : Nat) (n : Int), i ≤ n → n ≤ 701 → 701 - n.toNat < d → ∃ (n' : Int) (i' : Int),
    lpW (m38_l0 KK 1) ([.ptr 0 0, .bool false, .int .i64 n, .int .i64 (i : Int)], [.cells p.cells]) = some (.exit 0, [.ptr 0 0, .bool false, .int .i64 n', .int .i64 i'], [.cells p.cells]) := by
  intro d
  have htr : trunc 1 [.cells p.cells] = some [.cells p.cells] := by simp [trunc, IR.cells]
  have ag : afieldAt 2 (.ptr 0 0) = some (.ptr 0 2) := rfl
  have l1 : aload false 1 [.cells p.cells] (.ptr 0 2) = some (.slice (p.blocks.map Blk.cells) .no) := by simp [IR.cells]
  have lenB : alenSl (.slice (p.blocks.map Blk.cells) .no) = some (.int .i64 (p.blocks.length : Int)) := by simp
  induction d with
  | zero => intro i n _ _ h; omega
  | succ d ih =>
    intro i n hi hn hd
    by_cases h1 : i < p.blocks.length
    · by_cases h2 : n ≤ 200
      · have hb := List.getElem?_eq_getElem h1
        generalize p.blocks[i] = b at hb
        obtain ⟨n', i', hr⟩ := ih (i + 1) (n + 1 + min (b.ops.length : Int) 500) (by omega) (by omega) (by omega)
        refine ⟨n', i', ?_⟩
        rw [← hr]
        refine lp_go ?_
        have hl : (i : Int) < (p.blocks.length : Int) := by omega
        have ix : aindexSl 5 (.slice (p.blocks.map Blk.cells) .no) (.int .i64 (i : Int)) = some (.pptr b.cells) := by simp [hb, Blk.cells]
        have ag1 : afieldAt 0 (.pptr b.cells) = some (.pptr b.cells) := by simp [afieldAt]
        have l2 : aload false 1 [.cells p.cells] (.pptr b.cells) = some (.slice (b.ops.map Op.cells) .no) := by simp [Blk.cells]
        have lenO : alenSl (.slice (b.ops.map Op.cells) .no) = some (.int .i64 (b.ops.length : Int)) := by simp
        have mn : amin2 (.int .i64 (b.ops.length : Int)) (.int .i64 500) = some (.int .i64 (min (b.ops.length : Int) 500)) := by
          simp [amin2]
          try (split <;> omega)
        have w0 : IntKind.i64.wrap (n + 1) = n + 1 := wrap64 (by omega) (by omega)
        have w1 : IntKind.i64.wrap (n + 1 + min (b.ops.length : Int) 500) = n + 1 + min (b.ops.length : Int) 500 := wrap64 (by omega) (by omega)
        have w2 : IntKind.i64.wrap ((i : Int) + 1) = ((i + 1 : Nat) : Int) := by rw [wrap64 (by omega) (by omega), Int.natCast_add]; rfl
        generalize ((i + 1 : Nat) : Int) = i1 at *
        unfold m38_l0
        simp -implicitDefEqProofs [-aload_ptr, endR, htr, ag, l1, lenB, hl, h2, ix, ag1, l2, lenO, mn, w0, w1, w2, san1_ptr]
      · refine ⟨n, i, lp_exit ?_⟩
        have hl : (i : Int) < (p.blocks.length : Int) := by omega
        unfold m38_l0
        simp -implicitDefEqProofs [-aload_ptr, endR, htr, ag, l1, lenB, hl, h2, san1_ptr]
    · refine ⟨n, i, lp_exit ?_⟩
      have hl : ¬ (i : Int) < (p.blocks.length : Int) := by omega
      unfold m38_l0
      simp -implicitDefEqProofs [-aload_ptr, endR, htr, ag, l1, lenB, hl, san1_ptr]
theorem c38 (p : IR) : ∃ b : Bool, ∀ h, KK 38 [.agg p.cells] h = some (.ret (.bool b), h) := by
  obtain ⟨n, i, g⟩ := m38_loop (p := p) 900 0 0 (by omega) (by omega) (by omega)
  have e0 : ((0 : Nat) : Int) = 0 := rfl
  rw [e0] at g
  refine ⟨decide (n ≤ 200), fun h => callP_pure rfl rfl (evW_by (m38_eq _ _ _) ?_)⟩
  have an : anew 5 [] (.agg p.cells) = some (.ptr 0 0, [.cells p.cells]) := by simp [IR.cells]
  by_cases h2 : n ≤ 200 <;> simp -implicitDefEqProofs [m38, -aload_ptr, -anew, an, g, h2, finR_zero]

def H42 (p : IR) (E : Heap) : Heap := .cells p.cells :: .cells p.cells :: E
theorem H42_KBn {p : IR} : KBn 2 (H42 p []) := KBn_cells HB_CBn (KBn_cells HB_CBn KBn_nil)
section
variable {p : IR}
theorem H42_tr {E : Heap} : trunc 2 (H42 p E) = some (H42 p []) := trunc_app (h := H42 p []) (C := E) H42_KBn
theorem m42_loop0 (hn : p.arrays.length ≤ 2000000) : ∀ (d i : Nat), p.arrays.length = i + d →
    lpW (m42_l0 KK 2) ([.ptr 0 0, .ptr 1 0, .bool false, .int .i64 (i : Int)], H42 p []) = some (.exit 0, [.ptr 0 0, .ptr 1 0, .bool false, .int .i64 (p.arrays.length : Int)], H42 p []) := by
  have ag0 : afieldAt 1 (.ptr 0 0) = some (.ptr 0 1) := rfl
  have ag1 : afieldAt 1 (.ptr 1 0) = some (.ptr 1 1) := rfl
  have l0 : aload false 1 (H42 p []) (.ptr 0 1) = some (.slice (p.arrays.map Arr.cells) .no) := by simp [H42, IR.cells]
  have l1 : aload false 1 (H42 p []) (.ptr 1 1) = some (.slice (p.arrays.map Arr.cells) .no) := by simp [H42, IR.cells]
  have len : alenSl (.slice (p.arrays.map Arr.cells) .no) = some (.int .i64 (p.arrays.length : Int)) := by simp
  have tr := H42_tr (p := p) (E := [])
  intro d
  induction d with
  | zero =>
    intro i hi
    obtain rfl : i = p.arrays.length := by omega
    refine lp_exit ?_
    generalize H42 p [] = X at *
    unfold m42_l0
    simp -implicitDefEqProofs [-aload_ptr, ag0, l0, len, tr, endR, san1_ptr]
  | succ d ih =>
    intro i hi
    rw [← ih (i + 1) (by omega)]
    refine lp_go ?_
    have hil : i < p.arrays.length := by omega
    have hii : (i : Int) < (p.arrays.length : Int) := by omega
    obtain ⟨x, hx⟩ : ∃ x, p.arrays[i]? = some x := ⟨_, List.getElem?_eq_getElem hil⟩
    have ix : aindexSl 4 (.slice (p.arrays.map Arr.cells) .no) (.int .i64 (i : Int)) = some (.pptr x.cells) := by rw [aindexSl_map, hx]; rfl
    have lx : ∀ H, aload true 4 H (.pptr x.cells) = some (.agg x.cells) := by intro H; simp [Arr.cells]
    have eq : aeqAgg [.i, .i, .i, .i] (.agg x.cells) (.agg x.cells) = some true := by simp [aeqAgg, aeqAll, aeqK, Arr.cells]
    have w1 : IntKind.i64.wrap ((i : Int) + 1) = ((i + 1 : Nat) : Int) := by rw [wrap64 (by omega) (by omega), Int.natCast_add]; rfl
    generalize ((i + 1 : Nat) : Int) = i1 at *
    generalize H42 p [] = X at *
    unfold m42_l0
    simp -implicitDefEqProofs [-aload_ptr, -aload_pptr, ag0, ag1, l0, l1, len, hii, ix, lx, eq, w1, tr, endR, san1_ptr]
theorem HB_CBnB {n : Nat} {b : Blk} : CBn n b.cells := CBn_slice (CBn_int (CBn_int (CBn_int (CBn_int CBn_nil))))
theorem H42_KBn2 {b c : Blk} : KBn 4 (H42 p [.cells b.cells, .cells c.cells]) := KBn_cells HB_CBn (KBn_cells HB_CBn (KBn_cells HB_CBnB (KBn_cells HB_CBnB KBn_nil)))
theorem m42_loop1 {b : Blk} {i0 : Int} (hn : b.ops.length ≤ 2000000) : ∀ (d i : Nat), b.ops.length = i + d →
    lpW (m42_l1 KK 4) ([.ptr 0 0, .ptr 1 0, .bool false, .int .i64 i0, .ptr 2 0, .ptr 3 0, .int .i64 (i : Int)], H42 p [.cells b.cells, .cells b.cells]) = some (.exit 4, [.ptr 0 0, .ptr 1 0, .bool false, .int .i64 i0, .ptr 2 0, .ptr 3 0, .int .i64 (b.ops.length : Int)], H42 p [.cells b.cells, .cells b.cells]) := by
  have ag0 : afieldAt 0 (.ptr 2 0) = some (.ptr 2 0) := rfl
  have ag1 : afieldAt 0 (.ptr 3 0) = some (.ptr 3 0) := rfl
  have l0 : aload false 1 (H42 p [.cells b.cells, .cells b.cells]) (.ptr 2 0) = some (.slice (b.ops.map Op.cells) .no) := by simp [H42, Blk.cells]
  have l1 : aload false 1 (H42 p [.cells b.cells, .cells b.cells]) (.ptr 3 0) = some (.slice (b.ops.map Op.cells) .no) := by simp [H42, Blk.cells]
  have len : alenSl (.slice (b.ops.map Op.cells) .no) = some (.int .i64 (b.ops.length : Int)) := by simp
  have tr : trunc 4 (H42 p [.cells b.cells, .cells b.cells]) = some (H42 p [.cells b.cells, .cells b.cells]) := trunc_app0 (h := H42 p [.cells b.cells, .cells b.cells]) H42_KBn2
  intro d
  induction d with
  | zero =>
    intro i hi
    obtain rfl : i = b.ops.length := by omega
    refine lp_exit ?_
    generalize H42 p [.cells b.cells, .cells b.cells] = X at *
    unfold m42_l1
    simp -implicitDefEqProofs [-aload_ptr, ag0, l0, len, tr, endR, san1_ptr]
  | succ d ih =>
    intro i hi
    rw [← ih (i + 1) (by omega)]
    refine lp_go ?_
    have hil : i < b.ops.length := by omega
    have hii : (i : Int) < (b.ops.length : Int) := by omega
    obtain ⟨x, hx⟩ : ∃ x, b.ops[i]? = some x := ⟨_, List.getElem?_eq_getElem hil⟩
    have ix : aindexSl 6 (.slice (b.ops.map Op.cells) .no) (.int .i64 (i : Int)) = some (.pptr x.cells) := by rw [aindexSl_map, hx]; rfl
    have lx : ∀ H, aload true 6 H (.pptr x.cells) = some (.agg x.cells) := by intro H; simp [Op.cells]
    have eq : aeqAgg [.i, .i, .i, .i, .i, .i] (.agg x.cells) (.agg x.cells) = some true := by simp [aeqAgg, aeqAll, aeqK, Op.cells]
    have w1 : IntKind.i64.wrap ((i : Int) + 1) = ((i + 1 : Nat) : Int) := by rw [wrap64 (by omega) (by omega), Int.natCast_add]; rfl
    generalize ((i + 1 : Nat) : Int) = i1 at *
    generalize H42 p [.cells b.cells, .cells b.cells] = X at *
    unfold m42_l1
    simp -implicitDefEqProofs [-aload_ptr, -aload_pptr, ag0, ag1, l0, l1, len, hii, ix, lx, eq, w1, tr, endR, san1_ptr]
theorem m42_round {b : Blk} {i : Nat} (hb : p.blocks[i]? = some b) (hi : i ≤ 2000000) (hn : b.ops.length ≤ 2000000) :
    m42_l2 KK 2 ([.ptr 0 0, .ptr 1 0, .bool false, .int .i64 (i : Int)], H42 p []) = some (.normal, [.ptr 0 0, .ptr 1 0, .bool false, .int .i64 ((i + 1 : Nat) : Int)], H42 p []) := by
  have hib := (List.getElem?_eq_some_iff.1 hb).1
  have hii : (i : Int) < (p.blocks.length : Int) := by omega
  have w1 : IntKind.i64.wrap ((i : Int) + 1) = ((i + 1 : Nat) : Int) := by rw [wrap64 (by omega) (by omega), Int.natCast_add]; rfl
  have g := m42_loop1 (p := p) (i0 := (i : Int)) hn b.ops.length 0 (by omega)
  have e0 : ((0 : Nat) : Int) = 0 := rfl
  rw [e0] at g
  have la : H42 p [] ++ [.free, .free] = H42 p [.free, .free] := rfl
  have ll : (H42 p []).length = 2 := rfl
  have ag0 : afieldAt 2 (.ptr 0 0) = some (.ptr 0 2) := rfl
  have ag1 : afieldAt 2 (.ptr 1 0) = some (.ptr 1 2) := rfl
  have l0 : ∀ E, aload false 1 (H42 p E) (.ptr 0 2) = some (.slice (p.blocks.map Blk.cells) .no) := by intro E; simp [H42, IR.cells]
  have l1 : ∀ E, aload false 1 (H42 p E) (.ptr 1 2) = some (.slice (p.blocks.map Blk.cells) .no) := by intro E; simp [H42, IR.cells]
  have len : alenSl (.slice (p.blocks.map Blk.cells) .no) = some (.int .i64 (p.blocks.length : Int)) := by simp
  have ixb : aindexSl 5 (.slice (p.blocks.map Blk.cells) .no) (.int .i64 (i : Int)) = some (.pptr b.cells) := by rw [aindexSl_map, hb]; rfl
  have lbb : ∀ H, aload true 5 H (.pptr b.cells) = some (.agg b.cells) := by intro H; simp [Blk.cells]
  have n0 : anewAt (2 + 0) 5 (H42 p [.free, .free]) (.agg [.slice [] .nil, .int .i64 0, .int .i64 0, .int .i64 0, .int .i64 0]) = some (.ptr 2 0, H42 p [.cells [.slice [] .nil, .int .i64 0, .int .i64 0, .int .i64 0, .int .i64 0], .free]) := by rfl
  have n1 : anewAt (2 + 1) 5 (H42 p [.cells [.slice [] .nil, .int .i64 0, .int .i64 0, .int .i64 0, .int .i64 0], .free]) (.agg [.slice [] .nil, .int .i64 0, .int .i64 0, .int .i64 0, .int .i64 0]) = some (.ptr 3 0, H42 p [.cells [.slice [] .nil, .int .i64 0, .int .i64 0, .int .i64 0, .int .i64 0], .cells [.slice [] .nil, .int .i64 0, .int .i64 0, .int .i64 0, .int .i64 0]]) := by rfl
  have lk : lockIds [0, 1] [.ptr 1 2, .pptr b.cells] = [1] := rfl
  have hd : hide [1] (H42 p [.cells [.slice [] .nil, .int .i64 0, .int .i64 0, .int .i64 0, .int .i64 0], .cells [.slice [] .nil, .int .i64 0, .int .i64 0, .int .i64 0, .int .i64 0]]) = [.cells p.cells, .gone, .cells [.slice [] .nil, .int .i64 0, .int .i64 0, .int .i64 0, .int .i64 0], .cells [.slice [] .nil, .int .i64 0, .int .i64 0, .int .i64 0, .int .i64 0]] := rfl
  have s0 : astore 5 [.cells p.cells, .gone, .cells [.slice [] .nil, .int .i64 0, .int .i64 0, .int .i64 0, .int .i64 0], .cells [.slice [] .nil, .int .i64 0, .int .i64 0, .int .i64 0, .int .i64 0]] (.ptr 2 0) (.agg b.cells) = some [.cells p.cells, .gone, .cells b.cells, .cells [.slice [] .nil, .int .i64 0, .int .i64 0, .int .i64 0, .int .i64 0]] := by simp [Blk.cells]
  have uh : unhide [1] (H42 p [.cells [.slice [] .nil, .int .i64 0, .int .i64 0, .int .i64 0, .int .i64 0], .cells [.slice [] .nil, .int .i64 0, .int .i64 0, .int .i64 0, .int .i64 0]]) [.cells p.cells, .gone, .cells b.cells, .cells [.slice [] .nil, .int .i64 0, .int .i64 0, .int .i64 0, .int .i64 0]] = H42 p [.cells b.cells, .cells [.slice [] .nil, .int .i64 0, .int .i64 0, .int .i64 0, .int .i64 0]] := rfl
  have s1 : astore 5 (H42 p [.cells b.cells, .cells [.slice [] .nil, .int .i64 0, .int .i64 0, .int .i64 0, .int .i64 0]]) (.ptr 3 0) (.agg b.cells) = some (H42 p [.cells b.cells, .cells b.cells]) := by simp [H42, Blk.cells]
  have at0 : afieldAt 1 (.ptr 2 0) = some (.ptr 2 1) := rfl
  have at1 : afieldAt 1 (.ptr 3 0) = some (.ptr 3 1) := rfl
  have lt0 : aload true 4 (H42 p [.cells b.cells, .cells b.cells]) (.ptr 2 1) = some (.agg b.term.cells) := by simp [H42, Blk.cells, Term.cells]
  have lt1 : aload true 4 (H42 p [.cells b.cells, .cells b.cells]) (.ptr 3 1) = some (.agg b.term.cells) := by simp [H42, Blk.cells, Term.cells]
  have eq : aeqAgg [.i, .i, .i, .i] (.agg b.term.cells) (.agg b.term.cells) = some true := by simp [aeqAgg, aeqAll, aeqK, Term.cells]
  have a20 : afieldAt 0 (.ptr 2 0) = some (.ptr 2 0) := rfl
  have a30 : afieldAt 0 (.ptr 3 0) = some (.ptr 3 0) := rfl
  have lo0 : aload false 1 (H42 p [.cells b.cells, .cells b.cells]) (.ptr 2 0) = some (.slice (b.ops.map Op.cells) .no) := by simp [H42, Blk.cells]
  have lo1 : aload false 1 (H42 p [.cells b.cells, .cells b.cells]) (.ptr 3 0) = some (.slice (b.ops.map Op.cells) .no) := by simp [H42, Blk.cells]
  have lenO : alenSl (.slice (b.ops.map Op.cells) .no) = some (.int .i64 (b.ops.length : Int)) := by simp
  have l4 : (H42 p [.cells b.cells, .cells b.cells]).length = 4 := rfl
  have tr := H42_tr (p := p) (E := [.cells b.cells, .cells b.cells])
  generalize ((i + 1 : Nat) : Int) = i1 at *
  have l00 := l0 [.free, .free]
  have l10 := l1 [.free, .free]
  have l0n := l0 []
  generalize H42 p [] = X at *
  generalize H42 p [.free, .free] = X1 at *
  generalize H42 p [.cells [.slice [] .nil, .int .i64 0, .int .i64 0, .int .i64 0, .int .i64 0], .free] = X2 at *
  generalize H42 p [.cells [.slice [] .nil, .int .i64 0, .int .i64 0, .int .i64 0, .int .i64 0], .cells [.slice [] .nil, .int .i64 0, .int .i64 0, .int .i64 0, .int .i64 0]] = X3 at *
  generalize H42 p [.cells b.cells, .cells [.slice [] .nil, .int .i64 0, .int .i64 0, .int .i64 0, .int .i64 0]] = X4 at *
  generalize H42 p [.cells b.cells, .cells b.cells] = X5 at *
  unfold m42_l2
  simp -implicitDefEqProofs [-aload_ptr, -aload_ptrT, -aload_pptr, -astore_ptr, la, ll, ag0, ag1, l0n, l00, l10, len, hii, ixb, lbb, n0, n1, lk, hd, s0, uh, s1, at0, at1, lt0, lt1, eq, a20, a30, lo0, lo1, lenO, l4, g, tr, w1, endR, san1_ptr]
theorem m42_loop2 (hn : p.blocks.length ≤ 2000000) (ho : ∀ b ∈ p.blocks, b.ops.length ≤ 2000000) : ∀ (d i : Nat), p.blocks.length = i + d →
    lpW (m42_l2 KK 2) ([.ptr 0 0, .ptr 1 0, .bool false, .int .i64 (i : Int)], H42 p []) = some (.exit 2, [.ptr 0 0, .ptr 1 0, .bool false, .int .i64 (p.blocks.length : Int)], H42 p []) := by
  intro d
  induction d with
  | zero =>
    intro i hi
    obtain rfl : i = p.blocks.length := by omega
    refine lp_exit ?_
    have ag0 : afieldAt 2 (.ptr 0 0) = some (.ptr 0 2) := rfl
    have l0 : aload false 1 (H42 p []) (.ptr 0 2) = some (.slice (p.blocks.map Blk.cells) .no) := by simp [H42, IR.cells]
    have len : alenSl (.slice (p.blocks.map Blk.cells) .no) = some (.int .i64 (p.blocks.length : Int)) := by simp
    have tr := H42_tr (p := p) (E := [])
    generalize H42 p [] = X at *
    unfold m42_l2
    simp -implicitDefEqProofs [-aload_ptr, ag0, l0, len, tr, endR, san1_ptr]
  | succ d ih =>
    intro i hi
    rw [← ih (i + 1) (by omega)]
    obtain ⟨b, hb⟩ : ∃ b, p.blocks[i]? = some b := ⟨_, List.getElem?_eq_getElem (by omega)⟩
    exact lp_go (m42_round hb (by omega) (ho b (List.mem_of_getElem? hb)))
/-- 'Same' of a program with itself. -/
theorem c42 (ha : p.arrays.length ≤ 2000000) (hn : p.blocks.length ≤ 2000000) (ho : ∀ b ∈ p.blocks, b.ops.length ≤ 2000000) (h : Heap) : KK 42 [.agg p.cells, .agg p.cells] h = some (.ret (.bool true), h) := by
  refine callP_pure rfl rfl (evW_by (m42_eq _ _ _ _) ?_)
  have g0 := m42_loop0 (p := p) ha p.arrays.length 0 (by omega)
  have g2 := m42_loop2 (p := p) hn ho p.blocks.length 0 (by omega)
  have e0 : ((0 : Nat) : Int) = 0 := rfl
  rw [e0] at g0 g2
  have a0 : anew 5 [] (.agg p.cells) = some (.ptr 0 0, [.cells p.cells]) := by simp [IR.cells]
  have a1 : anew 5 [.cells p.cells] (.agg p.cells) = some (.ptr 1 0, H42 p []) := by simp [IR.cells, H42]
  have ag : ∀ k i, afieldAt k (.ptr i 0) = some (.ptr i k) := by intro k i; simp [afieldAt]
  have t0 : ∀ i, i < 2 → aload false 1 (H42 p []) (.ptr i 0) = some (.int .i64 p.temps) := by intro i hi; match i, hi with | 0, _ => simp [H42, IR.cells] | 1, _ => simp [H42, IR.cells]
  have t1 : ∀ i, i < 2 → aload false 1 (H42 p []) (.ptr i 1) = some (.slice (p.arrays.map Arr.cells) .no) := by intro i hi; match i, hi with | 0, _ => simp [H42, IR.cells] | 1, _ => simp [H42, IR.cells]
  have t2 : ∀ i, i < 2 → aload false 1 (H42 p []) (.ptr i 2) = some (.slice (p.blocks.map Blk.cells) .no) := by intro i hi; match i, hi with | 0, _ => simp [H42, IR.cells] | 1, _ => simp [H42, IR.cells]
  have t3 : ∀ i, i < 2 → aload false 1 (H42 p []) (.ptr i 3) = some (.int .i64 p.inn) := by intro i hi; match i, hi with | 0, _ => simp [H42, IR.cells] | 1, _ => simp [H42, IR.cells]
  have t4 : ∀ i, i < 2 → aload false 1 (H42 p []) (.ptr i 4) = some (.int .i64 p.out) := by intro i hi; match i, hi with | 0, _ => simp [H42, IR.cells] | 1, _ => simp [H42, IR.cells]
  have ll : (H42 p []).length = 2 := rfl
  generalize H42 p [] = X at *
  unfold m42
  simp -implicitDefEqProofs [-aload_ptr, -anew, -afieldAt_ptr, a0, a1, ag, t0, t1, t2, t3, t4, ll, g0, g2, finR_zero]
end
end Go.Proofs.YtkeoalhglkfbkaaDoor

/-
  'lives' of layer 22 answers true. No conditions.
-/
namespace Go.Proofs.YtkeoalhglkfbkaaDoor
open Go Hk Go.Proofs.Wd

def o39a : Op := ⟨1, 0, 0, 0, 0, 1⟩
def o39b : Op := ⟨10, 1, 0, 0, 0, 0⟩
def o39c : Op := ⟨10, 0, 1, 0, 0, 0⟩
def t39 : Term := ⟨3, 0, 0, 0⟩
def p39 : IR := ⟨2, [], [⟨[o39a, o39b, o39c], t39⟩], 0, 0⟩
theorem star39 : Star p39.blocks [⟨[], t39⟩] := by
  have hb : ∀ bs t, ¬ behindS bs t39 t := by
    intro bs t ⟨j, hj, _⟩
    simp [leadsS, t39] at hj
  have key : ∀ pre o, pureS o = true → Step [⟨pre ++ [o], t39⟩] [⟨pre, t39⟩] := by
    intro pre o ho
    refine ⟨0, ⟨pre ++ [o], t39⟩, pre, o, [], rfl, rfl, ho, ?_, by simp⟩
    intro h
    rcases h with ⟨h1, _⟩ | h
    · simp [t39] at h1
    · exact hb _ _ h
  exact .head (key [o39a, o39b] o39c (by decide)) (.head (key [o39a] o39b (by decide)) (.head (key [] o39a (by decide)) (.refl _)))
theorem norm39 : Norm [⟨[], t39⟩] := by
  rintro q ⟨i, b, pre, o, post, hb, ho, _⟩
  match i with
  | 0 => simp at hb; subst hb; simp at ho
  | i + 1 => simp at hb
theorem c39 (h : Heap) : KK 39 [] h = some (.ret (.bool true), h) := by
  refine callP_pure rfl rfl (evW_by (m39_eq _ _) ?_)
  have h0 : checkS p39 = 0 := by
    decide
  rcases c40 p39 with ⟨h1, _⟩ | ⟨_, q, hs, hn, g40⟩
  · exact absurd h0 h1
  · obtain rfl := norm_unique hs hn star39 norm39
    simp only [p39, o39a, o39b, o39c, t39, IR.cells, Blk.cells, Op.cells, wB, List.map_cons, List.map_nil] at g40
    simp -implicitDefEqProofs [m39, abuildSlice, abuildRow, pureRow, AVal.pure1, rowsOf, g40, aextract, aindexSl, finR_zero]
end Go.Proofs.YtkeoalhglkfbkaaDoor

/-
  'DeadNone', plainly: no operation that is left is dead; what is left is found in its order. No conditions.
-/
namespace Go.Proofs.YtkeoalhglkfbkaaDoor
open Go Hk Go.Proofs.Wd

theorem sub_match {o : Op} {r l : List Op} (h : Sub (o :: r) (o :: l)) : Sub r l := by
  cases h with
  | keep h => exact h
  | skip hp h => exact h.trans (.skip hp (.refl _))
theorem sub_miss {o : Op} {r l : List Op} (h : Sub (o :: r) l) (hn : l.head? ≠ some o) : pureS o = true ∧ Sub r l := by
  cases h with
  | keep h => simp at hn
  | skip hp h => exact ⟨hp, h⟩
theorem sub_nil {l : List Op} (h : Sub [] l) : l = [] := by cases h; rfl
theorem pure_nomem {o : Op} (h : pureS o = true) : o.kind ≠ 18 ∧ o.kind ≠ 19 := by
  unfold pureS at h
  simp only [Bool.and_eq_true, decide_eq_true_eq] at h
  exact h.1
theorem opS_nodst {p : IR} {o : Op} (h : opS p o = true) (hd : (formS o.kind).dst = false) : o.kind = 19 := by
  unfold opS at h
  simp only [Bool.and_eq_true] at h
  have h1 := h.1
  revert hd h1
  unfold formS
  (repeat' split) <;> simp <;> omega
theorem norm_wanted {p : IR} {q : List Blk} (h0 : checkS (wB p q) = 0) (hn : Norm q) {i k : Nat} {b : Blk} {o : Op} (hb : q[i]? = some b) (ho : b.ops[k]? = some o) :
    o.kind = 18 ∨ o.kind = 19 ∨ o.dst ∈ sortI (wantL (b.ops.drop (k + 1)) (endL b (liveOut (wB p q) i))) := by
  have hp := (opsOk_of h0).1
  have hb' : (wB p q).blocks[i]? = some b := hb
  have hbm : b ∈ (wB p q).blocks := List.mem_of_getElem? hb
  have hom : o ∈ b.ops := List.mem_of_getElem? ho
  have hk := (List.getElem?_eq_some_iff.1 ho).1
  obtain ⟨_, _, _, _, hbk⟩ := checkS_zero h0
  have hos := (hbk b hbm).1 o hom
  by_cases hpu : pureS o = true
  · refine .inr (.inr ?_)
    have hd : (formS o.kind).dst = true := by unfold pureS at hpu; simp only [Bool.and_eq_true] at hpu; exact hpu.2
    have hr := hp.made b hbm o hom hd
    have ht : trOps (b.ops.drop (k + 1)) b.term (behindS q b.term) o.dst := by
      refine Classical.byContradiction fun hx => hn (q.set i ⟨b.ops.take k ++ b.ops.drop (k + 1), b.term⟩) ⟨i, b, b.ops.take k, o, b.ops.drop (k + 1), hb, ?_, hpu, hx, rfl⟩
      rw [← (List.getElem?_eq_some_iff.1 ho).2, ← List.drop_eq_getElem_cons hk, List.take_append_drop]
    have hm : o.dst ∈ wantL (b.ops.drop (k + 1)) (endL b (liveOut (wB p q) i)) := by
      rw [wantL_mem, trOps_fate, liveOut_mem hb']
      rcases (trOps_fate _ _ _ _).1 ht with h1 | ⟨h1, h2⟩
      · exact .inl h1
      · exact .inr ⟨h1, hr.1, hr.2, h2⟩
    unfold sortI
    simp only [List.mem_mergeSort]
    exact hm
  · by_cases hd : (formS o.kind).dst = true
    · by_cases h18 : o.kind = 18
      · exact .inl h18
      · by_cases h19 : o.kind = 19
        · exact .inr (.inl h19)
        · exact absurd (by simp [pureS, hd, h18, h19]) hpu
    · exact .inr (.inl (opS_nodst hos (by simpa using hd)))
theorem eqOp (x y : Op) : aeqAgg [.i, .i, .i, .i, .i, .i] (.agg x.cells) (.agg y.cells) = some (decide (x = y)) := by
  obtain ⟨a, b, c, d, e, f⟩ := x
  obtain ⟨a', b', c', d', e', f'⟩ := y
  simp [aeqAgg, aeqAll, aeqK, Op.cells]
  rw [Bool.eq_iff_iff]
  simp
theorem eqTerm (x : Term) : aeqAgg [.i, .i, .i, .i] (.agg x.cells) (.agg x.cells) = some true := by simp [aeqAgg, aeqAll, aeqK, Term.cells]
end Go.Proofs.YtkeoalhglkfbkaaDoor

/-
  'DeadNone': its loops. No conditions.
-/
namespace Go.Proofs.YtkeoalhglkfbkaaDoor
open Go Hk Go.Proofs.Wd

def H13 (p : IR) (q : List Blk) (E : Heap) : Heap := .cells p.cells :: .cells (wB p q).cells :: .front 0 0 :: .front 0 0 :: E
theorem H13_KBn {p : IR} {q : List Blk} : KBn 4 (H13 p q []) := KBn_cells HB_CBn (KBn_cells HB_CBn (KBn_front (KBn_front KBn_nil)))
theorem H13_KBn6 {p : IR} {q : List Blk} {b : Blk} : KBn 6 (H13 p q [.cells b.cells, .front 0 0]) := KBn_cells HB_CBn (KBn_cells HB_CBn (KBn_front (KBn_front (KBn_cells HB_CBnB (KBn_front KBn_nil)))))
section
variable {p : IR} {q : List Blk} {b : Blk} {outs lst : List (List Int)} {i : Nat}
theorem H13_tr6 {E : Heap} : trunc 6 (H13 p q (.cells b.cells :: .front 0 0 :: E)) = some (H13 p q [.cells b.cells, .front 0 0]) := trunc_app (h := H13 p q [.cells b.cells, .front 0 0]) (C := E) H13_KBn6
theorem san_lists {m : Nat} {h : Heap} {z : List (List Int)} : AVal.san m h (listsA z) = listsA z := rfl

theorem m13_loop0 {c : Blk} (hc : p.blocks[i]? = some c) (hcl : c.ops.length ≤ 1048576) (hbl : b.ops.length ≤ 1048576) : ∀ (d k at_ : Nat), c.ops.length = k + d → at_ ≤ b.ops.length → Sub (c.ops.drop k) (b.ops.drop at_) →
    lpW (m13_l0 KK 6) ([.ptr 0 0, .bool false, .ptr 1 0, listsA outs, .int .i64 (i : Int), .ptr 4 0, listsA lst, .int .i64 (at_ : Int), .int .i64 (k : Int)], H13 p q [.cells b.cells, .front 0 0]) =
    some (.exit 2, [.ptr 0 0, .bool false, .ptr 1 0, listsA outs, .int .i64 (i : Int), .ptr 4 0, listsA lst, .int .i64 (b.ops.length : Int), .int .i64 (c.ops.length : Int)], H13 p q [.cells b.cells, .front 0 0]) := by
  have ag2 : afieldAt 2 (.ptr 0 0) = some (.ptr 0 2) := rfl
  have lb : ∀ E, aload false 1 (H13 p q E) (.ptr 0 2) = some (.slice (p.blocks.map Blk.cells) .no) := by intro E; simp [H13, IR.cells]
  have ixb : aindexSl 5 (.slice (p.blocks.map Blk.cells) .no) (.int .i64 (i : Int)) = some (.pptr c.cells) := by rw [aindexSl_map, hc]; rfl
  have agb : afieldAt 0 (.pptr c.cells) = some (.pptr c.cells) := by simp [afieldAt]
  have lo : ∀ H, aload false 1 H (.pptr c.cells) = some (.slice (c.ops.map Op.cells) .no) := by intro H; simp [Blk.cells]
  have lenO : alenSl (.slice (c.ops.map Op.cells) .no) = some (.int .i64 (c.ops.length : Int)) := by simp
  have tr0 := H13_tr6 (p := p) (q := q) (b := b) (E := [])
  intro d
  induction d with
  | zero =>
    intro k at_ hk hat hs
    obtain rfl : k = c.ops.length := by omega
    rw [List.drop_length] at hs
    have h1 := sub_nil hs
    have : at_ = b.ops.length := by have := congrArg List.length h1; simp at this; omega
    subst this
    refine lp_exit ?_
    have lb0 := lb [.cells b.cells, .front 0 0]
    generalize H13 p q [.cells b.cells, .front 0 0] = X at *
    unfold m13_l0
    simp -implicitDefEqProofs [-aload_ptr, -aload_pptr1, ag2, lb0, ixb, agb, lo, lenO, tr0, endR, san1_ptr, san_lists]
  | succ d ih =>
    intro k at_ hk hat hs
    have hkl : k < c.ops.length := by omega
    have hki : (k : Int) < (c.ops.length : Int) := by omega
    obtain ⟨o, ho⟩ : ∃ o, c.ops[k]? = some o := ⟨_, List.getElem?_eq_getElem hkl⟩
    have hdr : c.ops.drop k = o :: c.ops.drop (k + 1) := by rw [List.drop_eq_getElem_cons hkl, (List.getElem?_eq_some_iff.1 ho).2]
    rw [hdr] at hs
    have ixo : aindexSl 6 (.slice (c.ops.map Op.cells) .no) (.int .i64 (k : Int)) = some (.pptr o.cells) := by rw [aindexSl_map, ho]; rfl
    have lop : ∀ x : Op, ∀ H, aload true 6 H (.pptr x.cells) = some (.agg x.cells) := by intro x H; simp [Op.cells]
    have an : anew 6 (H13 p q [.cells b.cells, .front 0 0]) (.agg [.int .i64 0, .int .i64 0, .int .i64 0, .int .i64 0, .int .i64 0, .int .i64 0]) = some (.ptr 6 0, H13 p q [.cells b.cells, .front 0 0, .cells [.int .i64 0, .int .i64 0, .int .i64 0, .int .i64 0, .int .i64 0, .int .i64 0]]) := by simp [H13]
    have st : astore 6 (H13 p q [.cells b.cells, .front 0 0, .cells [.int .i64 0, .int .i64 0, .int .i64 0, .int .i64 0, .int .i64 0, .int .i64 0]]) (.ptr 6 0) (.agg o.cells) = some (H13 p q [.cells b.cells, .front 0 0, .cells o.cells]) := by simp [H13, Op.cells]
    have a4 : afieldAt 0 (.ptr 4 0) = some (.ptr 4 0) := rfl
    have a6 : afieldAt 0 (.ptr 6 0) = some (.ptr 6 0) := rfl
    have l4 : ∀ E, aload false 1 (H13 p q (.cells b.cells :: E)) (.ptr 4 0) = some (.slice (b.ops.map Op.cells) .no) := by intro E; simp [H13, Blk.cells]
    have l6 : aload true 6 (H13 p q [.cells b.cells, .front 0 0, .cells o.cells]) (.ptr 6 0) = some (.agg o.cells) := by simp [H13, Op.cells]
    have lk : aload false 1 (H13 p q [.cells b.cells, .front 0 0, .cells o.cells]) (.ptr 6 0) = some (.int .i64 o.kind) := by simp [H13, Op.cells]
    have lenB : alenSl (.slice (b.ops.map Op.cells) .no) = some (.int .i64 (b.ops.length : Int)) := by simp
    have w1 : IntKind.i64.wrap ((k : Int) + 1) = ((k + 1 : Nat) : Int) := by rw [wrap64 (by omega) (by omega), Int.natCast_add]; rfl
    have tr1 := H13_tr6 (p := p) (q := q) (b := b) (E := [.cells o.cells])
    have lb0 := lb [.cells b.cells, .front 0 0]
    have l40 := l4 [.front 0 0, .cells o.cells]
    by_cases hlt : at_ < b.ops.length
    · have hlti : (at_ : Int) < (b.ops.length : Int) := by omega
      obtain ⟨u, hu⟩ : ∃ u, b.ops[at_]? = some u := ⟨_, List.getElem?_eq_getElem hlt⟩
      have hdb : b.ops.drop at_ = u :: b.ops.drop (at_ + 1) := by rw [List.drop_eq_getElem_cons hlt, (List.getElem?_eq_some_iff.1 hu).2]
      have ixu : aindexSl 6 (.slice (b.ops.map Op.cells) .no) (.int .i64 (at_ : Int)) = some (.pptr u.cells) := by rw [aindexSl_map, hu]; rfl
      have eq := eqOp u o
      have w2 : IntKind.i64.wrap ((at_ : Int) + 1) = ((at_ + 1 : Nat) : Int) := by rw [wrap64 (by omega) (by omega), Int.natCast_add]; rfl
      rw [hdb] at hs
      by_cases huo : u = o
      · subst huo
        have hs2 := sub_match hs
        rw [← ih (k + 1) (at_ + 1) (by omega) (by omega) hs2]
        refine lp_go ?_
        generalize ((k + 1 : Nat) : Int) = k1 at *
        generalize ((at_ + 1 : Nat) : Int) = a1 at *
        generalize H13 p q [.cells b.cells, .front 0 0] = X at *
        generalize H13 p q [.cells b.cells, .front 0 0, .cells u.cells] = X1 at *
        unfold m13_l0
        simp -implicitDefEqProofs [-aload_ptr, -aload_ptrT, -aload_pptr, -aload_pptr1, -astore_ptr, -anew, ag2, lb0, ixb, agb, lo, lenO, hki, ixo, lop, an, st, a4, l40, lenB, hlti, ixu, l6, eq, w1, w2, tr1, endR, san1_ptr, san_lists]
      · obtain ⟨hpu, hs2⟩ := sub_miss hs (by simpa using huo)
        obtain ⟨n18, n19⟩ := pure_nomem hpu
        rw [← hdb] at hs2
        rw [← ih (k + 1) at_ (by omega) hat hs2]
        refine lp_go ?_
        simp only [huo, decide_false] at eq
        generalize ((k + 1 : Nat) : Int) = k1 at *
        generalize H13 p q [.cells b.cells, .front 0 0] = X at *
        generalize H13 p q [.cells b.cells, .front 0 0, .cells o.cells] = X1 at *
        unfold m13_l0
        simp -implicitDefEqProofs [-aload_ptr, -aload_ptrT, -aload_pptr, -aload_pptr1, -astore_ptr, -anew, ag2, lb0, ixb, agb, lo, lenO, hki, ixo, lop, an, st, a4, a6, lk, n18, n19, l40, lenB, hlti, ixu, l6, eq, w1, tr1, endR, san1_ptr, san_lists]
    · have hlti : ¬ (at_ : Int) < (b.ops.length : Int) := by omega
      have hdb : b.ops.drop at_ = [] := List.drop_eq_nil_of_le (by omega)
      obtain ⟨hpu, hs2⟩ := sub_miss hs (by rw [hdb]; simp)
      obtain ⟨n18, n19⟩ := pure_nomem hpu
      rw [← ih (k + 1) at_ (by omega) hat hs2]
      refine lp_go ?_
      generalize ((k + 1 : Nat) : Int) = k1 at *
      generalize H13 p q [.cells b.cells, .front 0 0] = X at *
      generalize H13 p q [.cells b.cells, .front 0 0, .cells o.cells] = X1 at *
      unfold m13_l0
      simp -implicitDefEqProofs [-aload_ptr, -aload_ptrT, -aload_pptr, -aload_pptr1, -astore_ptr, -anew, ag2, lb0, ixb, agb, lo, lenO, hki, ixo, lop, an, st, a4, a6, lk, n18, n19, l40, lenB, hlti, l6, w1, tr1, endR, san1_ptr, san_lists]

theorem m13_loop1 {o : Op} {k : Nat} {row : List Int} (ho : b.ops[k]? = some o) (hbl : b.ops.length ≤ 1048576) (hrow : lst[k + 1]? = some row) (hrl : row.length ≤ 2000000) : ∀ (d n : Nat) (w : Bool), row.length = n + d →
    lpW (m13_l1 KK 6) ([.ptr 0 0, .bool false, .ptr 1 0, listsA outs, .int .i64 (i : Int), .ptr 4 0, listsA lst, .int .i64 (k : Int), .bool w, .int .i64 (n : Int)], H13 p q [.cells b.cells, .front 0 0]) =
    some (.exit 6, [.ptr 0 0, .bool false, .ptr 1 0, listsA outs, .int .i64 (i : Int), .ptr 4 0, listsA lst, .int .i64 (k : Int), .bool (w || decide (o.dst ∈ row.drop n)), .int .i64 (row.length : Int)], H13 p q [.cells b.cells, .front 0 0]) := by
  have hkl := (List.getElem?_eq_some_iff.1 ho).1
  have w1 : IntKind.i64.wrap ((k : Int) + 1) = ((k + 1 : Nat) : Int) := by rw [wrap64 (by omega) (by omega), Int.natCast_add]; rfl
  have ixl : aindexSl 1 (listsA lst) (.int .i64 ((k + 1 : Nat) : Int)) = some (.pptr [.slice (ints row) .no]) := by
    unfold listsA; rw [aindexSl_map, hrow]; rfl
  have lz : ∀ h z, aload false 1 h (.pptr [.slice (ints z) .no]) = some (.slice (ints z) .no) := by intro h z; simp
  have lenR : alenSl (.slice (ints row) .no) = some (.int .i64 (row.length : Int)) := by simp [ints]
  have tr0 := H13_tr6 (p := p) (q := q) (b := b) (E := [])
  have a4 : afieldAt 0 (.ptr 4 0) = some (.ptr 4 0) := rfl
  have l4 : aload false 1 (H13 p q [.cells b.cells, .front 0 0]) (.ptr 4 0) = some (.slice (b.ops.map Op.cells) .no) := by simp [H13, Blk.cells]
  have ixo : aindexSl 6 (.slice (b.ops.map Op.cells) .no) (.int .i64 (k : Int)) = some (.pptr o.cells) := by rw [aindexSl_map, ho]; rfl
  have ao : afieldAt 1 (.pptr o.cells) = some (.pptr (o.cells.drop 1)) := rfl
  have ld : ∀ h, aload false 1 h (.pptr o.cells.tail) = some (.int .i64 o.dst) := by intro h; simp [Op.cells]
  generalize ((k + 1 : Nat) : Int) = k1 at *
  generalize H13 p q [.cells b.cells, .front 0 0] = X at *
  intro d
  induction d with
  | zero =>
    intro n w hn
    obtain rfl : n = row.length := by omega
    rw [List.drop_length]
    refine lp_exit ?_
    unfold m13_l1
    simp -implicitDefEqProofs [-aload_ptr, -aload_pptr1, w1, ixl, lz, lenR, tr0, endR, san1_ptr, san_lists]
  | succ d ih =>
    intro n w hn
    have hnl : n < row.length := by omega
    have hni : (n : Int) < (row.length : Int) := by omega
    obtain ⟨x, hx⟩ : ∃ x, row[n]? = some x := ⟨_, List.getElem?_eq_getElem hnl⟩
    have hdr : row.drop n = x :: row.drop (n + 1) := by rw [List.drop_eq_getElem_cons hnl, (List.getElem?_eq_some_iff.1 hx).2]
    have ixx : aindexSl 1 (.slice (ints row) .no) (.int .i64 (n : Int)) = some (.pptr [.int .i64 x]) := by unfold ints; rw [aindexSl_map, hx]; rfl
    have lx : ∀ h z, aload false 1 h (.pptr [.int .i64 z]) = some (.int .i64 z) := by intro h z; simp
    have w2 : IntKind.i64.wrap ((n : Int) + 1) = ((n + 1 : Nat) : Int) := by rw [wrap64 (by omega) (by omega), Int.natCast_add]; rfl
    have e : (w || decide (o.dst ∈ row.drop n)) = ((w || decide (x = o.dst)) || decide (o.dst ∈ row.drop (n + 1))) := by
      rw [hdr]
      by_cases h1 : x = o.dst
      · subst h1; simp
      · have : ¬ o.dst = x := fun e => h1 e.symm
        simp [h1, this]
    rw [e, ← ih (n + 1) (w || decide (x = o.dst)) (by omega)]
    refine lp_go ?_
    generalize ((n + 1 : Nat) : Int) = n1 at *
    unfold m13_l1
    cases w <;> simp -implicitDefEqProofs [-aload_ptr, -aload_pptr1, w1, ixl, lz, lenR, hni, a4, l4, ixo, ao, ld, ixx, lx, w2, tr0, endR, san1_ptr, san_lists]

theorem m13_loop2 (hbl : b.ops.length ≤ 1048576) (hl : ∀ k, k < b.ops.length → ∃ row, lst[k + 1]? = some row ∧ row.length ≤ 2000000 ∧ ∀ o, b.ops[k]? = some o → o.kind = 18 ∨ o.kind = 19 ∨ o.dst ∈ row) : ∀ (d k : Nat), b.ops.length = k + d →
    lpW (m13_l2 KK 6) ([.ptr 0 0, .bool false, .ptr 1 0, listsA outs, .int .i64 (i : Int), .ptr 4 0, listsA lst, .int .i64 (k : Int)], H13 p q [.cells b.cells, .front 0 0]) =
    some (.exit 4, [.ptr 0 0, .bool false, .ptr 1 0, listsA outs, .int .i64 (i : Int), .ptr 4 0, listsA lst, .int .i64 (b.ops.length : Int)], H13 p q [.cells b.cells, .front 0 0]) := by
  have tr0 := H13_tr6 (p := p) (q := q) (b := b) (E := [])
  have a4 : afieldAt 0 (.ptr 4 0) = some (.ptr 4 0) := rfl
  have l4 : aload false 1 (H13 p q [.cells b.cells, .front 0 0]) (.ptr 4 0) = some (.slice (b.ops.map Op.cells) .no) := by simp [H13, Blk.cells]
  have lenB : alenSl (.slice (b.ops.map Op.cells) .no) = some (.int .i64 (b.ops.length : Int)) := by simp
  have hl6 : (H13 p q [.cells b.cells, .front 0 0]).length = 6 := rfl
  intro d
  induction d with
  | zero =>
    intro k hk
    obtain rfl : k = b.ops.length := by omega
    refine lp_exit ?_
    generalize H13 p q [.cells b.cells, .front 0 0] = X at *
    unfold m13_l2
    simp -implicitDefEqProofs [-aload_ptr, a4, l4, lenB, tr0, endR, san1_ptr, san_lists]
  | succ d ih =>
    intro k hk
    rw [← ih (k + 1) (by omega)]
    refine lp_go ?_
    have hkl : k < b.ops.length := by omega
    have hki : (k : Int) < (b.ops.length : Int) := by omega
    obtain ⟨o, ho⟩ : ∃ o, b.ops[k]? = some o := ⟨_, List.getElem?_eq_getElem hkl⟩
    obtain ⟨row, hrow, hrl, hw⟩ := hl k hkl
    have hw := hw o ho
    have g := fun w => m13_loop1 (p := p) (q := q) (outs := outs) (i := i) ho hbl hrow hrl row.length 0 w (by omega)
    have e0 : ((0 : Nat) : Int) = 0 := rfl
    simp only [e0, List.drop_zero] at g
    have ixo : aindexSl 6 (.slice (b.ops.map Op.cells) .no) (.int .i64 (k : Int)) = some (.pptr o.cells) := by rw [aindexSl_map, ho]; rfl
    have ao : afieldAt 0 (.pptr o.cells) = some (.pptr o.cells) := by simp [afieldAt]
    have lk : ∀ h, aload false 1 h (.pptr o.cells) = some (.int .i64 o.kind) := by intro h; simp [Op.cells]
    have w1 : IntKind.i64.wrap ((k : Int) + 1) = ((k + 1 : Nat) : Int) := by rw [wrap64 (by omega) (by omega), Int.natCast_add]; rfl
    generalize ((k + 1 : Nat) : Int) = k1 at *
    generalize H13 p q [.cells b.cells, .front 0 0] = X at *
    by_cases h18 : o.kind = 18
    · unfold m13_l2
      simp -implicitDefEqProofs [-aload_ptr, -aload_pptr1, a4, l4, lenB, hl6, hki, ixo, ao, lk, h18, g, w1, tr0, endR, san1_ptr, san_lists]
    · by_cases h19 : o.kind = 19
      · unfold m13_l2
        simp -implicitDefEqProofs [-aload_ptr, -aload_pptr1, a4, l4, lenB, hl6, hki, ixo, ao, lk, h19, g, w1, tr0, endR, san1_ptr, san_lists]
      · have hm : o.dst ∈ row := by
          rcases hw with h | h | h
          · exact absurd h h18
          · exact absurd h h19
          · exact h
        unfold m13_l2
        simp -implicitDefEqProofs [-aload_ptr, -aload_pptr1, a4, l4, lenB, hl6, hki, ixo, ao, lk, h18, h19, g, hm, w1, tr0, endR, san1_ptr, san_lists]
end
end Go.Proofs.YtkeoalhglkfbkaaDoor

/-
  'DeadNone', 'DeadTells': the evaluator's runs. No conditions.
-/
namespace Go.Proofs.YtkeoalhglkfbkaaDoor
open Go Hk Go.Proofs.Wd

section
variable {p : IR} {q : List Blk} {outs : List (List Int)} {i : Nat}
theorem H13_tr {E : Heap} : trunc 4 (H13 p q E) = some (H13 p q []) := trunc_app (h := H13 p q []) (C := E) H13_KBn
theorem m13_round {b c : Blk} {zo : List Int} {lst : List (List Int)} (hc : p.blocks[i]? = some c) (hb : q[i]? = some b) (ho : outs[i]? = some zo) (hi : i ≤ 1048576) (hct : c.term = b.term) (hs : Sub c.ops b.ops) (hcl : c.ops.length ≤ 1048576)
    (h31 : ∀ h, KK 31 [.agg b.cells, .slice (ints zo) .no] h = some (.ret (listsA lst), h)) (hll : lst.length = b.ops.length + 1)
    (hl : ∀ k, k < b.ops.length → ∃ row, lst[k + 1]? = some row ∧ row.length ≤ 2000000 ∧ ∀ o, b.ops[k]? = some o → o.kind = 18 ∨ o.kind = 19 ∨ o.dst ∈ row) :
    m13_l3 KK 4 ([.ptr 0 0, .bool false, .ptr 1 0, listsA outs, .int .i64 (i : Int)], H13 p q []) = some (.normal, [.ptr 0 0, .bool false, .ptr 1 0, listsA outs, .int .i64 ((i + 1 : Nat) : Int)], H13 p q []) := by
  have hib := (List.getElem?_eq_some_iff.1 hc).1
  have hii : (i : Int) < (p.blocks.length : Int) := by omega
  have hbl : b.ops.length ≤ 1048576 := Nat.le_trans hs.len hcl
  have w1 : IntKind.i64.wrap ((i : Int) + 1) = ((i + 1 : Nat) : Int) := by rw [wrap64 (by omega) (by omega), Int.natCast_add]; rfl
  have w2 : IntKind.i64.wrap ((b.ops.length : Int) + 1) = ((lst.length : Nat) : Int) := by rw [wrap64 (by omega) (by omega), hll, Int.natCast_add]; rfl
  have g0 := m13_loop0 (p := p) (q := q) (outs := outs) (lst := lst) hc hcl hbl c.ops.length 0 0 (by omega) (by omega) hs
  have g2 := m13_loop2 (p := p) (q := q) (outs := outs) (i := i) hbl hl b.ops.length 0 (by omega)
  have e0 : ((0 : Nat) : Int) = 0 := rfl
  rw [e0] at g0 g2
  have ag2 : afieldAt 2 (.ptr 0 0) = some (.ptr 0 2) := rfl
  have ag12 : afieldAt 2 (.ptr 1 0) = some (.ptr 1 2) := rfl
  have lb : ∀ E, aload false 1 (H13 p q E) (.ptr 0 2) = some (.slice (p.blocks.map Blk.cells) .no) := by intro E; simp [H13, IR.cells]
  have lq : ∀ E, aload false 1 (H13 p q E) (.ptr 1 2) = some (.slice (q.map Blk.cells) .no) := by intro E; simp [H13, IR.cells, wB]
  have lenB : alenSl (.slice (p.blocks.map Blk.cells) .no) = some (.int .i64 (p.blocks.length : Int)) := by simp
  have ixc : aindexSl 5 (.slice (p.blocks.map Blk.cells) .no) (.int .i64 (i : Int)) = some (.pptr c.cells) := by rw [aindexSl_map, hc]; rfl
  have ixb : aindexSl 5 (.slice (q.map Blk.cells) .no) (.int .i64 (i : Int)) = some (.pptr b.cells) := by rw [aindexSl_map, hb]; rfl
  have lbb : ∀ H, aload true 5 H (.pptr b.cells) = some (.agg b.cells) := by intro H; simp [Blk.cells]
  obtain ⟨Z, hZ⟩ : ∃ Z : List AVal, Z = [.slice [] (.own 5), .int .i64 0, .int .i64 0, .int .i64 0, .int .i64 0] := ⟨_, rfl⟩
  have an : anew 5 (H13 p q []) (.agg [.slice [] .nil, .int .i64 0, .int .i64 0, .int .i64 0, .int .i64 0]) = some (.ptr 4 0, H13 p q [.cells Z, .front 0 0]) := by subst hZ; simp [H13]
  have st : astore 5 (H13 p q [.cells Z, .front 0 0]) (.ptr 4 0) (.agg b.cells) = some (H13 p q [.cells b.cells, .front 0 0]) := by subst hZ; simp [H13, Blk.cells]
  have l4 : aload true 5 (H13 p q [.cells b.cells, .front 0 0]) (.ptr 4 0) = some (.agg b.cells) := by simp [H13, Blk.cells]
  have ub : (AVal.agg b.cells).untok = .agg b.cells := rfl
  have uz : ∀ z t, AVal.untok (.slice (ints z) t) = .slice (ints z) .no := fun z t => rfl
  have ixo : aindexSl 1 (listsA outs) (.int .i64 (i : Int)) = some (.pptr [.slice (ints zo) .no]) := by unfold listsA; rw [aindexSl_map, ho]; rfl
  have lz : ∀ h z, aload false 1 h (.pptr [.slice (ints z) .no]) = some (.slice (ints z) .no) := by intro h z; simp
  have at4 : afieldAt 1 (.ptr 4 0) = some (.ptr 4 1) := rfl
  have lt4 : aload true 4 (H13 p q [.cells b.cells, .front 0 0]) (.ptr 4 1) = some (.agg b.term.cells) := by simp [H13, Blk.cells, Term.cells]
  have agt : afieldAt 1 (.pptr c.cells) = some (.pptr c.term.cells) := by simp [afieldAt, Blk.cells, Term.cells]
  have lt : ∀ h, aload true 4 h (.pptr c.term.cells) = some (.agg b.term.cells) := by intro h; rw [hct]; simp [Term.cells]
  have eq := eqTerm b.term
  have lenL : alenSl (listsA lst) = some (.int .i64 (lst.length : Int)) := by simp [listsA]
  have a40 : afieldAt 0 (.ptr 4 0) = some (.ptr 4 0) := rfl
  have lo4 : aload false 1 (H13 p q [.cells b.cells, .front 0 0]) (.ptr 4 0) = some (.slice (b.ops.map Op.cells) .no) := by simp [H13, Blk.cells]
  have lenO : alenSl (.slice (b.ops.map Op.cells) .no) = some (.int .i64 (b.ops.length : Int)) := by simp
  have hl6 : (H13 p q [.cells b.cells, .front 0 0]).length = 6 := rfl
  have tr := H13_tr (p := p) (q := q) (E := [.cells b.cells, .front 0 0])
  have lb0 := lb []
  have lb1 := lb [.cells b.cells, .front 0 0]
  have lq0 := lq []
  generalize ((i + 1 : Nat) : Int) = i1 at *
  generalize ((lst.length : Nat) : Int) = ll at *
  generalize H13 p q [] = X at *
  generalize H13 p q [.cells Z, .front 0 0] = X1 at *
  generalize H13 p q [.cells b.cells, .front 0 0] = X2 at *
  unfold m13_l3
  simp -implicitDefEqProofs [-aload_ptr, -aload_ptrT, -aload_pptr, -aload_pptr1, -astore_ptr, -anew, ag2, ag12, lb0, lb1, lq0, lenB, hii, ixc, ixb, lbb, an, st, l4, ub, uz, ixo, lz, h31, at4, lt4, agt, lt, eq, lenL, a40, lo4, lenO, w2, hl6, g0, g2, w1, tr, endR, san1_ptr, san_lists]
theorem m13_loop3 (h0 : checkS p = 0) (hs : Star p.blocks q) (hn : Norm q) : ∀ (d i : Nat), p.blocks.length = i + d →
    lpW (m13_l3 KK 4) ([.ptr 0 0, .bool false, .ptr 1 0, listsA (liveO (wB p q)), .int .i64 (i : Int)], H13 p q []) = some (.exit 0, [.ptr 0 0, .bool false, .ptr 1 0, listsA (liveO (wB p q)), .int .i64 (p.blocks.length : Int)], H13 p q []) := by
  have hsb := star_subB hs
  have h1 : checkS (wB p q) = 0 := checkS_sub hsb h0
  have hp := (opsOk_of h0).1
  have hq := (opsOk_of h1).1
  have hnb := hp.nb
  have eO : liveO (wB p q) = (List.range q.length).map (liveOut (wB p q)) := if_pos h1
  have hti := hq.temps
  intro d
  induction d with
  | zero =>
    intro i hi
    obtain rfl : i = p.blocks.length := by omega
    refine lp_exit ?_
    have ag2 : afieldAt 2 (.ptr 0 0) = some (.ptr 0 2) := rfl
    have lb : aload false 1 (H13 p q []) (.ptr 0 2) = some (.slice (p.blocks.map Blk.cells) .no) := by simp [H13, IR.cells]
    have lenB : alenSl (.slice (p.blocks.map Blk.cells) .no) = some (.int .i64 (p.blocks.length : Int)) := by simp
    have tr := H13_tr (p := p) (q := q) (E := [])
    generalize H13 p q [] = X at *
    unfold m13_l3
    simp -implicitDefEqProofs [-aload_ptr, ag2, lb, lenB, tr, endR, san1_ptr, san_lists]
  | succ d ih =>
    intro i hi
    rw [← ih (i + 1) (by omega)]
    have hib : i < p.blocks.length := by omega
    have hiq : i < q.length := by rw [← hsb.1]; exact hib
    obtain ⟨c, hc⟩ : ∃ c, p.blocks[i]? = some c := ⟨_, List.getElem?_eq_getElem hib⟩
    obtain ⟨b, hb⟩ : ∃ b, q[i]? = some b := ⟨_, List.getElem?_eq_getElem hiq⟩
    have hb' : (wB p q).blocks[i]? = some b := hb
    obtain ⟨s1, s2⟩ := hsb.2 i c b hc hb
    have ho : (liveO (wB p q))[i]? = some (liveOut (wB p q) i) := by rw [eO, List.getElem?_map, List.getElem?_range hiq]; rfl
    refine lp_go (m13_round hc hb ho (by omega) s1 s2 (hp.len c (List.mem_of_getElem? hc)) (c31_live hq hb') (by simp [pointsS]) fun k hk => ?_)
    refine ⟨sortI (wantL (b.ops.drop (k + 1)) (endL b (liveOut (wB p q) i))), ?_, ?_, fun o ho => norm_wanted h1 hn hb ho⟩
    · unfold pointsS
      rw [List.getElem?_map, List.getElem?_range (by omega)]; rfl
    · have := nodup_len (wantL_nodup (ops := b.ops.drop (k + 1)) (endL_nodup (b := b) (out := liveOut (wB p q) i))) (fun t ht => wantL_bound hq hb' ht) hti
      rw [show (sortI (wantL (b.ops.drop (k + 1)) (endL b (liveOut (wB p q) i)))).length = (wantL (b.ops.drop (k + 1)) (endL b (liveOut (wB p q) i))).length from (List.mergeSort_perm _ _).length_eq]
      omega
end

/-- The law DeadNone. -/
theorem c13 (p : IR) (h : Heap) : KK 13 [.agg p.cells] h = some (.ret (.bool true), h) := by
  refine callP_pure rfl rfl (evW_by (m13_eq _ _ _) ?_)
  have a0 : anew 5 [] (.agg p.cells) = some (.ptr 0 0, [.cells p.cells]) := by simp [IR.cells]
  have l0 : ∀ E, aload true 5 (.cells p.cells :: E) (.ptr 0 0) = some (.agg p.cells) := by intro E; simp [IR.cells]
  have u0 : (AVal.agg p.cells).untok = .agg p.cells := rfl
  obtain ⟨b, g38⟩ := c38 p
  have g39 := c39
  have l00 := l0 []
  cases b with
  | false => simp -implicitDefEqProofs [m13, -aload_ptr, -aload_ptrT, -anew, a0, l00, u0, g38, g39, finR_zero]
  | true =>
    have a1 : anew 5 [.cells p.cells] (.agg [.int .i64 0, .slice [] .nil, .slice [] .nil, .int .i64 0, .int .i64 0]) = some (.ptr 1 0, [.cells p.cells, .cells [.int .i64 0, .slice [] (.own 2), .slice [] (.own 3), .int .i64 0, .int .i64 0], .front 0 0, .front 0 0]) := by simp
    rcases c40 p with ⟨h0, g40⟩ | ⟨h0, q, hs, hn, g40⟩
    · have g30 := c30 p
      have st : astore 5 [.cells p.cells, .cells [.int .i64 0, .slice [] (.own 2), .slice [] (.own 3), .int .i64 0, .int .i64 0], .front 0 0, .front 0 0] (.ptr 1 0) (.agg (IR.cells ⟨0, [], [], 0, 0⟩)) = some [.cells p.cells, .cells (IR.cells ⟨0, [], [], 0, 0⟩), .front 0 0, .front 0 0] := by simp [IR.cells]
      have l01 := l0 [.cells (IR.cells ⟨0, [], [], 0, 0⟩), .front 0 0, .front 0 0]
      generalize ([.cells p.cells, .cells [.int .i64 0, .slice [] (.own 2), .slice [] (.own 3), .int .i64 0, .int .i64 0], .front 0 0, .front 0 0] : Heap) = X1 at *
      generalize ([.cells p.cells, .cells (IR.cells ⟨0, [], [], 0, 0⟩), .front 0 0, .front 0 0] : Heap) = X2 at *
      generalize checkS p = e at *
      simp -implicitDefEqProofs [m13, -aload_ptr, -aload_ptrT, -astore_ptr, -anew, a0, a1, l00, l01, u0, g38, g39, g40, g30, st, h0, aextract, finR_zero]
    · have hsb := star_subB hs
      have h1 : checkS (wB p q) = 0 := checkS_sub hsb h0
      have g27 := c27 (wB p q)
      rw [h1] at g27
      have st : astore 5 [.cells p.cells, .cells [.int .i64 0, .slice [] (.own 2), .slice [] (.own 3), .int .i64 0, .int .i64 0], .front 0 0, .front 0 0] (.ptr 1 0) (.agg (wB p q).cells) = some (H13 p q []) := by simp [IR.cells, H13]
      have l1 : aload true 5 (H13 p q []) (.ptr 1 0) = some (.agg (wB p q).cells) := by simp [H13, IR.cells]
      have u1 : (AVal.agg (wB p q).cells).untok = .agg (wB p q).cells := rfl
      have ag2 : afieldAt 2 (.ptr 0 0) = some (.ptr 0 2) := rfl
      have ag12 : afieldAt 2 (.ptr 1 0) = some (.ptr 1 2) := rfl
      have lb : aload false 1 (H13 p q []) (.ptr 0 2) = some (.slice (p.blocks.map Blk.cells) .no) := by simp [H13, IR.cells]
      have lq : aload false 1 (H13 p q []) (.ptr 1 2) = some (.slice (q.map Blk.cells) .no) := by simp [H13, IR.cells, wB]
      have lenB : alenSl (.slice (p.blocks.map Blk.cells) .no) = some (.int .i64 (p.blocks.length : Int)) := by simp
      have lenQ : alenSl (.slice (q.map Blk.cells) .no) = some (.int .i64 (p.blocks.length : Int)) := by simp [hsb.1]
      have eO : liveO (wB p q) = (List.range q.length).map (liveOut (wB p q)) := if_pos h1
      have lo : alenSl (listsA (liveO (wB p q))) = some (.int .i64 (p.blocks.length : Int)) := by simp [listsA, eO, hsb.1]
      have gl := m13_loop3 h0 hs hn p.blocks.length 0 (by omega)
      have e0 : ((0 : Nat) : Int) = 0 := rfl
      rw [e0] at gl
      have ll : (H13 p q []).length = 4 := rfl
      generalize ([.cells p.cells, .cells [.int .i64 0, .slice [] (.own 2), .slice [] (.own 3), .int .i64 0, .int .i64 0], .front 0 0, .front 0 0] : Heap) = X1 at *
      generalize liveI (wB p q) = ins at *
      generalize liveO (wB p q) = outs at *
      generalize (wB p q).cells = qc at *
      generalize H13 p q [] = X2 at *
      simp -implicitDefEqProofs [m13, -aload_ptr, -aload_ptrT, -astore_ptr, -anew, a0, a1, l00, u0, u1, g38, g39, g40, st, l1, g27, ag2, ag12, lb, lq, lenB, lenQ, lo, gl, ll, aextract, finR_zero]

/-- The law DeadTells. -/
theorem c12 (p : IR) (h : Heap) : KK 12 [.agg p.cells] h = some (.ret (.bool true), h) := by
  refine callP_pure rfl rfl (evW_by (m12_eq _ _ _) ?_)
  have a0 : anew 5 [] (.agg p.cells) = some (.ptr 0 0, [.cells p.cells]) := by simp [IR.cells]
  have l0 : ∀ E, aload true 5 (.cells p.cells :: E) (.ptr 0 0) = some (.agg p.cells) := by intro E; simp [IR.cells]
  have u0 : (AVal.agg p.cells).untok = .agg p.cells := rfl
  obtain ⟨b, g38⟩ := c38 p
  have g39 := c39
  have l00 := l0 []
  cases b with
  | false => simp -implicitDefEqProofs [m12, -aload_ptr, -aload_ptrT, -anew, a0, l00, u0, g38, g39, finR_zero]
  | true =>
    have key : ∀ (r : IR) (e : Int), (∀ h, KK 40 [.agg p.cells] h = some (.ret (.tuple [.agg r.cells, .int .i64 e]), h)) → (∀ h, KK 41 [.agg p.cells] h = some (.ret (.tuple [.agg r.cells, .int .i64 e]), h)) →
        (∀ h, KK 42 [.agg r.cells, .agg r.cells] h = some (.ret (.bool true), h)) → m12 (callP ann (evW Tryd.prog ann)) (.agg p.cells) [] = some (.ret (.bool true), []) := by
      intro r e g40 g41 g42
      have a1 : anew 5 [.cells p.cells] (.agg [.int .i64 0, .slice [] .nil, .slice [] .nil, .int .i64 0, .int .i64 0]) = some (.ptr 1 0, [.cells p.cells, .cells [.int .i64 0, .slice [] (.own 2), .slice [] (.own 3), .int .i64 0, .int .i64 0], .front 0 0, .front 0 0]) := by simp
      have s1 : astore 5 [.cells p.cells, .cells [.int .i64 0, .slice [] (.own 2), .slice [] (.own 3), .int .i64 0, .int .i64 0], .front 0 0, .front 0 0] (.ptr 1 0) (.agg r.cells) = some [.cells p.cells, .cells r.cells, .front 0 0, .front 0 0] := by simp [IR.cells]
      have l01 := l0 [.cells r.cells, .front 0 0, .front 0 0]
      have a2 : anew 5 [.cells p.cells, .cells r.cells, .front 0 0, .front 0 0] (.agg [.int .i64 0, .slice [] .nil, .slice [] .nil, .int .i64 0, .int .i64 0]) = some (.ptr 4 0, [.cells p.cells, .cells r.cells, .front 0 0, .front 0 0, .cells [.int .i64 0, .slice [] (.own 5), .slice [] (.own 6), .int .i64 0, .int .i64 0], .front 0 0, .front 0 0]) := by simp
      have s2 : astore 5 [.cells p.cells, .cells r.cells, .front 0 0, .front 0 0, .cells [.int .i64 0, .slice [] (.own 5), .slice [] (.own 6), .int .i64 0, .int .i64 0], .front 0 0, .front 0 0] (.ptr 4 0) (.agg r.cells) = some [.cells p.cells, .cells r.cells, .front 0 0, .front 0 0, .cells r.cells, .front 0 0, .front 0 0] := by simp [IR.cells]
      have l1 : aload true 5 [.cells p.cells, .cells r.cells, .front 0 0, .front 0 0, .cells r.cells, .front 0 0, .front 0 0] (.ptr 1 0) = some (.agg r.cells) := by simp [IR.cells]
      have l4 : aload true 5 [.cells p.cells, .cells r.cells, .front 0 0, .front 0 0, .cells r.cells, .front 0 0, .front 0 0] (.ptr 4 0) = some (.agg r.cells) := by simp [IR.cells]
      have ur : (AVal.agg r.cells).untok = .agg r.cells := rfl
      generalize r.cells = rc at *
      generalize ([.cells p.cells, .cells [.int .i64 0, .slice [] (.own 2), .slice [] (.own 3), .int .i64 0, .int .i64 0], .front 0 0, .front 0 0] : Heap) = X1 at *
      generalize ([.cells p.cells, .cells rc, .front 0 0, .front 0 0] : Heap) = X2 at *
      generalize ([.cells p.cells, .cells rc, .front 0 0, .front 0 0, .cells [.int .i64 0, .slice [] (.own 5), .slice [] (.own 6), .int .i64 0, .int .i64 0], .front 0 0, .front 0 0] : Heap) = X3 at *
      generalize ([.cells p.cells, .cells rc, .front 0 0, .front 0 0, .cells rc, .front 0 0, .front 0 0] : Heap) = X4 at *
      simp -implicitDefEqProofs [m12, -aload_ptr, -aload_ptrT, -astore_ptr, -anew, a0, a1, a2, l00, l01, u0, ur, g38, g39, g40, g41, g42, s1, s2, l1, l4, aextract, finR_zero]
    rcases c40 p with ⟨h0, g40⟩ | ⟨h0, q, hs, hn, g40⟩
    · rcases c41 p with ⟨_, g41⟩ | ⟨h0', _⟩
      · exact key _ _ g40 g41 (c42 (by simp) (by simp) (by simp))
      · exact absurd h0' h0
    · rcases c41 p with ⟨h0', _⟩ | ⟨_, q', hs', hn', g41⟩
      · exact absurd h0 h0'
      · obtain rfl := norm_unique hs hn hs' hn'
        have hq := (opsOk_of (checkS_sub (star_subB hs) h0)).1
        obtain ⟨l00, _, _⟩ := checkS_zero h0
        have hal := l00.a1
        exact key _ _ g40 g41 (c42 (by show p.arrays.length ≤ _; omega) (by have := hq.nb; show q.length ≤ _; have : q.length ≤ 1048576 := this; omega) (fun b hb => by have := hq.len b hb; omega))
end Go.Proofs.YtkeoalhglkfbkaaDoor

/-
  DeadTells and DeadNone, as their rows want them. No conditions.
-/
namespace Go.Proofs.YtkeoalhglkfbkaaDoor
open Go Hk
theorem law12 (p : IR) : evW Tryd.prog ann 12 [.agg p.cells] [] = some (.ret (.bool true), []) := of_KK rfl (c12 p [])
theorem law13 (p : IR) : evW Tryd.prog ann 13 [.agg p.cells] [] = some (.ret (.bool true), []) := of_KK rfl (c13 p [])
end Go.Proofs.YtkeoalhglkfbkaaDoor
