/-
  The texts RX.O, RX.Q, RX.R, RX.S, RX.P, one behind another. No conditions.
-/
import Derived.Test.YtkeoalhglkfbkaaDoorRx1
set_option linter.unusedVariables false
set_option linter.unusedSimpArgs false
set_option linter.unusedSectionVars false
/-
  The document's parser: statements, by the evaluator. No conditions.
-/
namespace Go.Proofs.YtkeoalhglkfbkaaDoor
open Go Hk

theorem Step.back {L : List Token} {α : Type} {x : PM α} {a d e p a1 e1 p1 : Nat} {v : α} (s : Step L x a d e p v a1 e1 p1) (h : e1 = 0) : e = 0 := by
  by_cases h0 : e = 0
  · exact h0
  · have := (s.bad h0).2.1; omega

/-- What 'stmt' has. -/
def oS (A B : List ABlk) (i : Nat) : AVal := .slice [] (.own (HN A B + i))
def sT (A B : List ABlk) (k pos num : Int) (nm : List UInt8) (e1 e2 e3 : Int) (s7 s8 s9 : AVal) (f : Bool) (x : ABlk) : List ABlk := [.cells [.int .i64 0, .int .i64 0, .int .i64 0, .str [], .int .i64 0, .int .i64 0, .int .i64 0, .slice [] (.own (HN A B + 1)), .slice [] (.own (HN A B + 2)), .slice [] (.own (HN A B + 3)), .bool false], .front 0 0, .front 0 0, .front 0 0,
  .cells [.int .i64 k, .int .i64 pos, .int .i64 num, .str nm, .int .i64 e1, .int .i64 e2, .int .i64 e3, s7, s8, s9, .bool f], x, .front 0 0, .front 0 0]
def sG (A B : List ABlk) : List ABlk := [.cells [.int .i64 0, .int .i64 0, .int .i64 0, .str [], .int .i64 0, .int .i64 0, .int .i64 0, .slice [] (.own (HN A B + 1)), .slice [] (.own (HN A B + 2)), .slice [] (.own (HN A B + 3)), .bool false], .front 0 0, .front 0 0, .front 0 0, .gone, .front 0 0, .front 0 0, .front 0 0]

section
variable {L : List Token} (hL : L.length ≤ 131072) (hK : TokOk L) (hW : WordOk L)
include hL hK hW

/-- A statement, in brief: its answer. -/
def SO (L : List Token) (A B : List ABlk) (a d e p : Nat) (y : PM XS) : Prop := ∃ v a' e' p', KK 187 [.ptr A.length 0] (RQ A L a d e p B) = some (.ret (sEnc v), RQ A L a' d e' p' B) ∧ Step L y a d e p v a' e' p'

omit hK hW in
theorem s151 {A B : List ABlk} {a d e p : Nat} (ha : a < L.length) (hB : KB A B) (hp : e = 0 → p = 0) (w : List UInt8) (hw : w ≠ []) (b : Bool) (hb : see e (tk L a) w = b) :
    KK 151 [.ptr A.length 0, .str w] (RQ A L a d e p (B ++ sT A B 0 ((tk L a).pos : Int) 0 [] 0 0 0 (oS A B 5) (oS A B 6) (oS A B 7) false (.front 0 0))) =
      some (.ret (.bool b), RQ A L (if b = true then a + 1 else a) d e p (B ++ sT A B 0 ((tk L a).pos : Int) 0 [] 0 0 0 (oS A B 5) (oS A B 6) (oS A B 7) false (.front 0 0))) := by
  rw [← hb]
  exact q151 (L := L) hL (w := w) hw ha (hB.app (by simp [sT, oS])) hp

/-- A value in a statement. -/
theorem s_let {n : Nat} {bl : PM (List XS)} {A B : List ABlk} {a d e p : Nat} (ha : a < L.length) (hd : n + d = 65) (he : e = 0 → 1 ≤ n) (hB : KB A B) (hp : e = 0 → p = 0) (c1 : see e (tk L a) [108, 101, 116] = true) : SO L A B a d e p (pStmt L bl n) := by
  have h1 := s151 hL (d := d) ha hB hp _ (by decide) _ c1
  obtain ⟨_, _, ha1⟩ := see_lt hL hK ha c1
  obtain ⟨nm, a1, e1, p1, g1, s1⟩ := q148 hL hK (k := 1) (by decide) A (B ++ sT A B 1 ((tk L a).pos : Int) 0 [] 0 0 0 (oS A B 5) (oS A B 6) (oS A B 7) false (.front 0 0)) (a + 1) d e p ha1 trivial (hB.app (by simp [sT, oS])) hp
  have hp1 := s1.zero hp
  have hC : KB A (B ++ sT A B 1 ((tk L a).pos : Int) 0 nm.text 0 0 0 (oS A B 5) (oS A B 6) (oS A B 7) false (.front 0 0)) := hB.app (by simp [sT, oS])
  obtain ⟨u, a2, e2, p2, g2, s2⟩ := q147 hL hK (w := [61]) (by decide) A _ a1 d e1 p1 s1.lt trivial hC hp1
  have hp2 := s2.zero hp1
  obtain ⟨l, a3, e3, p3, g3, s3⟩ := q232 hL hK hW n A _ a2 d e2 p2 s2.lt hd (fun h => he (s1.back (s2.back h))) hC hp2
  refine ⟨.mk 1 (tk L a).pos 0 nm.text ⟨0, 0, 0⟩ l [] [] false, a3, e3, p3, evW_by (m187_eq _ _ _) ?_, ?_⟩
  · simp only [sT, oS, Token.cells, tEnc, uEnc, lEnc, Int.cast_ofNat_Int, if_true] at h1 g1 g2 g3
    simp -implicitDefEqProofs [m187, ha, hB, h1, g1, g2, g3, XS.cells, XS.rows]
  · unfold pStmt
    refine Step.here (Step.maybe hL hK ?_)
    simp only [c1, if_true]
    exact s1.bind ((g_kind hK (by omega)).dep ha1) (s2.bind ((g_take hK).dep s1.lt) (s3.bind ((g_end hK n).dep s2.lt) (Step.pure s3.lt)))

theorem s_var {n : Nat} {bl : PM (List XS)} {A B : List ABlk} {a d e p : Nat} (ha : a < L.length) (hd : n + d = 65) (he : e = 0 → 1 ≤ n) (hB : KB A B) (hp : e = 0 → p = 0) (c1 : see e (tk L a) [108, 101, 116] = false) (c2 : see e (tk L a) [118, 97, 114] = true) : SO L A B a d e p (pStmt L bl n) := by
  have h1 := s151 hL (d := d) ha hB hp _ (by decide) _ c1
  have h2 := s151 hL (d := d) ha hB hp _ (by decide) _ c2
  obtain ⟨_, _, ha1⟩ := see_lt hL hK ha c2
  have hC0 : KB A (B ++ sT A B 2 ((tk L a).pos : Int) 0 [] 0 0 0 (oS A B 5) (oS A B 6) (oS A B 7) false (.front 0 0)) := hB.app (by simp [sT, oS])
  obtain ⟨lb, a0, e0, p0, g0, s0⟩ := q152 hL hK A _ (a + 1) d e p ha1 trivial hC0 hp
  have hp0 := s0.zero hp
  obtain ⟨nm, a1, e1, p1, g1, s1⟩ := q148 hL hK (k := 1) (by decide) A _ a0 d e0 p0 s0.lt trivial hC0 hp0
  have hp1 := s1.zero hp0
  have hC : KB A (B ++ sT A B 2 ((tk L a).pos : Int) 0 nm.text 0 0 0 (oS A B 5) (oS A B 6) (oS A B 7) false (.front 0 0)) := hB.app (by simp [sT, oS])
  obtain ⟨u, a2, e2, p2, g2, s2⟩ := q147 hL hK (w := [58]) (by decide) A _ a1 d e1 p1 s1.lt trivial hC hp1
  have hp2 := s2.zero hp1
  obtain ⟨ty, a3, e3, p3, g3, s3⟩ := q153 hL hK lb A _ a2 d e2 p2 s2.lt trivial hC hp2
  have hp3 := s3.zero hp2
  have hC2 : KB A (B ++ sT A B 2 ((tk L a).pos : Int) 0 nm.text (ty.elem : Int) (ty.len : Int) (ty.label : Int) (oS A B 5) (oS A B 6) (oS A B 7) false (.front 0 0)) := hB.app (by simp [sT, oS])
  obtain ⟨u', a4, e4, p4, g4, s4⟩ := q147 hL hK (w := [59]) (by decide) A _ a3 d e3 p3 s3.lt trivial hC2 hp3
  refine ⟨.mk 2 (tk L a).pos 0 nm.text ty [] [] [] false, a4, e4, p4, evW_by (m187_eq _ _ _) ?_, ?_⟩
  · simp only [sT, oS, Token.cells, tEnc, uEnc, lEnc, nEnc, tyEnc, Ty.cells, Int.cast_ofNat_Int, if_true, if_false, Bool.false_eq_true] at h1 h2 g0 g1 g2 g3 g4
    simp -implicitDefEqProofs [m187, ha, hB, h1, h2, g0, g1, g2, g3, g4, XS.cells, XS.rows]
  · unfold pStmt
    refine Step.here (Step.maybe hL hK ?_)
    simp only [c1, if_false, Bool.false_eq_true]
    refine Step.maybe hL hK ?_
    simp only [c2, if_true]
    exact s0.bind ((g_label hK).dep ha1) (s1.bind ((g_kind hK (by omega)).dep s0.lt) (s2.bind ((g_take hK).dep s1.lt) (s3.bind ((g_kinds hK).dep s2.lt) (s4.bind ((g_take hK).dep s3.lt) (Step.pure s4.lt)))))

theorem s_if {n : Nat} {bl : PM (List XS)} (hb : RCE L n 154 [] bkEnc bl) (hgb : PGood L 1 (fun d => d) bl) {A B : List ABlk} {a d e p : Nat} (ha : a < L.length) (hd : n + d = 65) (he : e = 0 → 1 ≤ n) (hB : KB A B) (hp : e = 0 → p = 0) (c1 : see e (tk L a) [108, 101, 116] = false) (c2 : see e (tk L a) [118, 97, 114] = false) (c3 : see e (tk L a) [105, 102] = true) : SO L A B a d e p (pStmt L bl n) := by
  have h1 := s151 hL (d := d) ha hB hp _ (by decide) _ c1
  have h2 := s151 hL (d := d) ha hB hp _ (by decide) _ c2
  have h3 := s151 hL (d := d) ha hB hp _ (by decide) _ c3
  obtain ⟨_, _, ha1⟩ := see_lt hL hK ha c3
  obtain ⟨x, a1, e1, p1, g1, s1⟩ := qEx hL hK hW n A (B ++ sG A B) (a + 1) d e p ha1 hd he (hB.app (by simp [sG])) hp
  have hp1 := s1.zero hp
  obtain ⟨b, a2, e2, p2, g2, s2⟩ := hb A (B ++ (sT A B 5 ((tk L a).pos : Int) 0 [] 0 0 0 (.slice [x.cells] (.own (HN A B + 5))) (oS A B 6) (oS A B 7) false (.front 1 5) ++ [.front 1 5])) a1 d e1 p1 s1.lt hd (fun h => he (s1.back h)) (hB.app (by simp [sT, oS])) hp1
  have hp2 := s2.zero hp1
  have hC : ∀ f, KB A (B ++ (sT A B 5 ((tk L a).pos : Int) 0 [] 0 0 0 (.slice [x.cells] (.own (HN A B + 5))) (.slice (b.map XS.cells) .no) (oS A B 7) f (.front 1 5) ++ [.front 1 5])) := fun f => hB.app (by simp [sT, oS])
  have h4 := q151 (L := L) hL (d := d) (w := [101, 108, 115, 101]) (by decide) s2.lt (hC false) hp2
  have stp : ∀ {v a' e' p'}, Step L (do if ← pMaybe L [101, 108, 115, 101] then (do let e ← bl; return .mk 5 (tk L a).pos 0 [] ⟨0, 0, 0⟩ [x] b e true) else return .mk 5 (tk L a).pos 0 [] ⟨0, 0, 0⟩ [x] b [] false : PM XS) a2 d e2 p2 v a' e' p' → Step L (pStmt L bl n) a d e p v a' e' p' := by
    intro v a' e' p' s
    unfold pStmt
    refine Step.here (Step.maybe hL hK ?_)
    simp only [c1, if_false, Bool.false_eq_true]
    refine Step.maybe hL hK ?_
    simp only [c2, if_false, Bool.false_eq_true]
    refine Step.maybe hL hK ?_
    simp only [c3, if_true]
    exact s1.bind ((g_ex hK n).dep ha1) (s2.bind (hgb.dep s1.lt) s)
  cases c4 : see e2 (tk L a2) [101, 108, 115, 101]
  · refine ⟨.mk 5 (tk L a).pos 0 [] ⟨0, 0, 0⟩ [x] b [] false, a2, e2, p2, evW_by (m187_eq _ _ _) ?_, stp ?_⟩
    · simp only [c4, sT, sG, oS, xEnc, bkEnc, List.cons_append, List.nil_append, Int.cast_ofNat_Int, if_true, if_false, Bool.false_eq_true] at h1 h2 h3 g1 g2 h4
      simp -implicitDefEqProofs [m187, ha, hB, h1, h2, h3, g1, g2, h4, RQ_push0, XS.cells, XS.rows, XS.rows_eq]
    · refine Step.maybe hL hK ?_
      simp only [c4, if_false, Bool.false_eq_true]
      exact Step.pure s2.lt
  · obtain ⟨he2, _, ha3⟩ := see_lt hL hK s2.lt c4
    obtain ⟨b2, a3, e3, p3, g3, s3⟩ := hb A _ (a2 + 1) d e2 p2 ha3 hd (fun h => he (s1.back (s2.back h))) (hC true) hp2
    refine ⟨.mk 5 (tk L a).pos 0 [] ⟨0, 0, 0⟩ [x] b b2 true, a3, e3, p3, evW_by (m187_eq _ _ _) ?_, stp ?_⟩
    · simp only [c4, sT, sG, oS, xEnc, bkEnc, List.cons_append, List.nil_append, Int.cast_ofNat_Int, if_true, if_false, Bool.false_eq_true] at h1 h2 h3 g1 g2 h4 g3
      simp -implicitDefEqProofs [m187, ha, hB, h1, h2, h3, g1, g2, h4, g3, RQ_push0, XS.cells, XS.rows, XS.rows_eq]
    · refine Step.maybe hL hK ?_
      simp only [c4, if_true]
      exact s3.bind (hgb.dep ha3) (Step.pure s3.lt)

theorem s_for {n : Nat} {bl : PM (List XS)} (hb : RCE L n 154 [] bkEnc bl) (hgb : PGood L 1 (fun d => d) bl) {A B : List ABlk} {a d e p : Nat} (ha : a < L.length) (hd : n + d = 65) (he : e = 0 → 1 ≤ n) (hB : KB A B) (hp : e = 0 → p = 0) (c1 : see e (tk L a) [108, 101, 116] = false) (c2 : see e (tk L a) [118, 97, 114] = false) (c3 : see e (tk L a) [105, 102] = false) (c4 : see e (tk L a) [102, 111, 114] = true) : SO L A B a d e p (pStmt L bl n) := by
  have h1 := s151 hL (d := d) ha hB hp _ (by decide) _ c1
  have h2 := s151 hL (d := d) ha hB hp _ (by decide) _ c2
  have h3 := s151 hL (d := d) ha hB hp _ (by decide) _ c3
  have h4 := s151 hL (d := d) ha hB hp _ (by decide) _ c4
  obtain ⟨_, _, ha1⟩ := see_lt hL hK ha c4
  obtain ⟨nm, a1, e1, p1, g1, s1⟩ := q148 hL hK (k := 1) (by decide) A (B ++ sT A B 6 ((tk L a).pos : Int) 0 [] 0 0 0 (oS A B 5) (oS A B 6) (oS A B 7) false (.front 0 0)) (a + 1) d e p ha1 trivial (hB.app (by simp [sT, oS])) hp
  have hp1 := s1.zero hp
  obtain ⟨u, a2, e2, p2, g2, s2⟩ := q147 hL hK (w := [60]) (by decide) A (B ++ sT A B 6 ((tk L a).pos : Int) 0 nm.text 0 0 0 (oS A B 5) (oS A B 6) (oS A B 7) false (.front 0 0)) a1 d e1 p1 s1.lt trivial (hB.app (by simp [sT, oS])) hp1
  have hp2 := s2.zero hp1
  obtain ⟨x, a3, e3, p3, g3, s3⟩ := qEx hL hK hW n A (B ++ sG A B) a2 d e2 p2 s2.lt hd (fun h => he (s1.back (s2.back h))) (hB.app (by simp [sG])) hp2
  have hp3 := s3.zero hp2
  have hC : ∀ m : Int, KB A (B ++ (sT A B 6 ((tk L a).pos : Int) m nm.text 0 0 0 (.slice [x.cells] (.own (HN A B + 5))) (oS A B 6) (oS A B 7) false (.front 1 5) ++ [.front 1 5])) := fun m => hB.app (by simp [sT, oS])
  obtain ⟨u', a4, e4, p4, g4, s4⟩ := q147 hL hK (w := [109, 97, 120]) (by decide) A _ a3 d e3 p3 s3.lt trivial (hC 0) hp3
  have hp4 := s4.zero hp3
  obtain ⟨m, a5, e5, p5, g5, s5⟩ := q148 hL hK (k := 2) (by decide) A _ a4 d e4 p4 s4.lt trivial (hC 0) hp4
  have hp5 := s5.zero hp4
  obtain ⟨b, a6, e6, p6, g6, s6⟩ := hb A _ a5 d e5 p5 s5.lt hd (fun h => he (s1.back (s2.back (s3.back (s4.back (s5.back h)))))) (hC m.num) hp5
  refine ⟨.mk 6 (tk L a).pos m.num nm.text ⟨0, 0, 0⟩ [x] b [] false, a6, e6, p6, evW_by (m187_eq _ _ _) ?_, ?_⟩
  · simp only [sT, sG, oS, Token.cells, tEnc, uEnc, xEnc, bkEnc, List.cons_append, List.nil_append, Int.cast_ofNat_Int, if_true, if_false, Bool.false_eq_true] at h1 h2 h3 h4 g1 g2 g3 g4 g5 g6
    simp -implicitDefEqProofs [m187, ha, hB, h1, h2, h3, h4, g1, g2, g3, g4, g5, g6, RQ_push0, XS.cells, XS.rows, XS.rows_eq]
  · unfold pStmt
    refine Step.here (Step.maybe hL hK ?_)
    simp only [c1, if_false, Bool.false_eq_true]
    refine Step.maybe hL hK ?_
    simp only [c2, if_false, Bool.false_eq_true]
    refine Step.maybe hL hK ?_
    simp only [c3, if_false, Bool.false_eq_true]
    refine Step.maybe hL hK ?_
    simp only [c4, if_true]
    exact s1.bind ((g_kind hK (by omega)).dep ha1) (s2.bind ((g_take hK).dep s1.lt) (s3.bind ((g_ex hK n).dep s2.lt) (s4.bind ((g_take hK).dep s3.lt) (s5.bind ((g_kind hK (by omega)).dep s4.lt) (s6.bind (hgb.dep s5.lt) (Step.pure s6.lt))))))

theorem s_ret {n : Nat} {bl : PM (List XS)} {A B : List ABlk} {a d e p : Nat} (ha : a < L.length) (hd : n + d = 65) (he : e = 0 → 1 ≤ n) (hB : KB A B) (hp : e = 0 → p = 0) (c1 : see e (tk L a) [108, 101, 116] = false) (c2 : see e (tk L a) [118, 97, 114] = false) (c3 : see e (tk L a) [105, 102] = false) (c4 : see e (tk L a) [102, 111, 114] = false) (c5 : see e (tk L a) [114, 101, 116, 117, 114, 110] = true) : SO L A B a d e p (pStmt L bl n) := by
  have h1 := s151 hL (d := d) ha hB hp _ (by decide) _ c1
  have h2 := s151 hL (d := d) ha hB hp _ (by decide) _ c2
  have h3 := s151 hL (d := d) ha hB hp _ (by decide) _ c3
  have h4 := s151 hL (d := d) ha hB hp _ (by decide) _ c4
  have h5 := s151 hL (d := d) ha hB hp _ (by decide) _ c5
  obtain ⟨_, _, ha1⟩ := see_lt hL hK ha c5
  obtain ⟨l, a1, e1, p1, g1, s1⟩ := q232 hL hK hW n A (B ++ sT A B 8 ((tk L a).pos : Int) 0 [] 0 0 0 (oS A B 5) (oS A B 6) (oS A B 7) false (.front 0 0)) (a + 1) d e p ha1 hd he (hB.app (by simp [sT, oS])) hp
  refine ⟨.mk 8 (tk L a).pos 0 [] ⟨0, 0, 0⟩ l [] [] false, a1, e1, p1, evW_by (m187_eq _ _ _) ?_, ?_⟩
  · simp only [sT, oS, lEnc, Int.cast_ofNat_Int, if_true, if_false, Bool.false_eq_true] at h1 h2 h3 h4 h5 g1
    simp -implicitDefEqProofs [m187, ha, hB, h1, h2, h3, h4, h5, g1, XS.cells, XS.rows]
  · unfold pStmt
    refine Step.here (Step.maybe hL hK ?_)
    simp only [c1, if_false, Bool.false_eq_true]
    refine Step.maybe hL hK ?_
    simp only [c2, if_false, Bool.false_eq_true]
    refine Step.maybe hL hK ?_
    simp only [c3, if_false, Bool.false_eq_true]
    refine Step.maybe hL hK ?_
    simp only [c4, if_false, Bool.false_eq_true]
    refine Step.maybe hL hK ?_
    simp only [c5, if_true]
    exact s1.bind ((g_end hK n).dep ha1) (Step.pure s1.lt)

theorem s_nam {n : Nat} {bl : PM (List XS)} {A B : List ABlk} {a d e p : Nat} (ha : a < L.length) (hd : n + d = 65) (he : e = 0 → 1 ≤ n) (hB : KB A B) (hp : e = 0 → p = 0) (c1 : see e (tk L a) [108, 101, 116] = false) (c2 : see e (tk L a) [118, 97, 114] = false) (c3 : see e (tk L a) [105, 102] = false) (c4 : see e (tk L a) [102, 111, 114] = false) (c5 : see e (tk L a) [114, 101, 116, 117, 114, 110] = false) : SO L A B a d e p (pStmt L bl n) := by
  have h1 := s151 hL (d := d) ha hB hp _ (by decide) _ c1
  have h2 := s151 hL (d := d) ha hB hp _ (by decide) _ c2
  have h3 := s151 hL (d := d) ha hB hp _ (by decide) _ c3
  have h4 := s151 hL (d := d) ha hB hp _ (by decide) _ c4
  have h5 := s151 hL (d := d) ha hB hp _ (by decide) _ c5
  obtain ⟨k, nm, l, t, x, a1, e1, p1, g1, ht, s1⟩ := q234 hL hK hW (pos := (tk L a).pos) ha hd he hB hp
  refine ⟨.mk k (tk L a).pos 0 nm ⟨0, 0, 0⟩ l [] [] false, a1, e1, p1, evW_by (m187_eq _ _ _) ?_, ?_⟩
  · simp only [sT, oS, sD, sA, Int.cast_ofNat_Int, if_false, Bool.false_eq_true] at h1 h2 h3 h4 h5 g1
    rcases ht with ⟨rfl, rfl⟩ | ⟨rfl, rfl⟩ <;>
      simp -implicitDefEqProofs [m187, ha, hB, h1, h2, h3, h4, h5, g1, XS.cells, XS.rows]
  · unfold pStmt
    refine Step.here (Step.maybe hL hK ?_)
    simp only [c1, if_false, Bool.false_eq_true]
    refine Step.maybe hL hK ?_
    simp only [c2, if_false, Bool.false_eq_true]
    refine Step.maybe hL hK ?_
    simp only [c3, if_false, Bool.false_eq_true]
    refine Step.maybe hL hK ?_
    simp only [c4, if_false, Bool.false_eq_true]
    refine Step.maybe hL hK ?_
    simp only [c5, if_false, Bool.false_eq_true]
    exact s1

/-- A statement. -/
theorem q187 {n : Nat} {bl : PM (List XS)} (hb : RCE L n 154 [] bkEnc bl) (hgb : PGood L 1 (fun d => d) bl) : RCE L n 187 [] sEnc (pStmt L bl n) := by
  intro A B a d e p ha hd he hB hp
  cases c1 : see e (tk L a) [108, 101, 116]
  · cases c2 : see e (tk L a) [118, 97, 114]
    · cases c3 : see e (tk L a) [105, 102]
      · cases c4 : see e (tk L a) [102, 111, 114]
        · cases c5 : see e (tk L a) [114, 101, 116, 117, 114, 110]
          · exact s_nam hL hK hW ha hd he hB hp c1 c2 c3 c4 c5
          · exact s_ret hL hK hW ha hd he hB hp c1 c2 c3 c4 c5
        · exact s_for hL hK hW hb hgb ha hd he hB hp c1 c2 c3 c4
      · exact s_if hL hK hW hb hgb ha hd he hB hp c1 c2 c3
    · exact s_var hL hK hW ha hd he hB hp c1 c2
  · exact s_let hL hK hW ha hd he hB hp c1
end
end Go.Proofs.YtkeoalhglkfbkaaDoor

/-
  The document's parser: blocks, by the evaluator. No conditions.
-/
namespace Go.Proofs.YtkeoalhglkfbkaaDoor
open Go Hk

theorem xs_build {x : XS} {h : Heap} : abuildSlice 1 11 [.int .i64 0, .int .i64 0, .int .i64 0, .str [], .int .i64 0, .int .i64 0, .int .i64 0, .slice [] .nil, .slice [] .nil, .slice [] .nil, .bool false] [(0, .agg x.cells)] h = some (.slice [x.cells] (.own h.length), h ++ [.front 1 11]) :=
  abuildSlice1 (XS.row.len x) rfl (XS.row.pure x) (XS.row.ok x)

section
variable {L : List Token} (hL : L.length ≤ 131072) (hK : TokOk L) (hW : WordOk L)
include hL hK

omit hL hK in
theorem bl_trunc {A B C : List ABlk} {a d e p x y : Nat} (hB : KB A B) : trunc (HN A B + 2) (RQ A L a d e p (B ++ (.front 0 0 :: .front x y :: C))) = some (RQ A L a d e p (B ++ [.front 0 0, .front x y])) := by
  have := RQ_truncK (L := L) (a := a) (d := d) (er := e) (p := p) (A := A) (B := B) (C := .front 0 0 :: .front x y :: C) (k := 2) (by simpa using hB.app (C := [.front 0 0, .front x y]) (by simp)) (by simp)
  simpa using this

omit hL hK in
theorem m154_bad {A B : List ABlk} {a d e p : Nat} {l : List XS} (hB : KB A B) (he : e ≠ 0) :
    lpW (m154_l0 KK (HN A B + 2)) ([.ptr A.length 0, .slice [] (.own (HN A B)), .slice (l.map XS.cells) (.own (HN A B + 1))], RQ A L a d e p (B ++ [.front 0 0, .front l.length (fsz l.length 11)])) =
      some (.exit 0, [.ptr A.length 0, .slice [] (.own (HN A B)), .slice (l.map XS.cells) (.own (HN A B + 1))], RQ A L a d e p (B ++ [.front 0 0, .front l.length (fsz l.length 11)])) := by
  have he' : ¬ (e : Int) = 0 := by omega
  have hsp : ∀ h, AVal.san1 (HN A B + 2) h (.ptr A.length 0) = .ptr A.length 0 := fun h => san1_ptr (by simp [HN]; omega)
  have ht := bl_trunc (L := L) (C := []) (a := a) (d := d) (e := e) (p := p) (x := l.length) (y := fsz l.length 11) hB
  rw [lpW_step]
  simp -implicitDefEqProofs [m154_l0, he, he', endR, ht, hsp]

theorem m154_loop {n d : Nat} {st : PM XS} (hs : RCE L n 187 [] sEnc st) (hg : PGood L 1 (fun d => d) st) {A B : List ABlk} (hB : KB A B) (hd : n + d = 65) :
    ∀ (f : Nat) (l : List XS) (a e p : Nat), a < L.length → (e = 0 → L.length < a + f) → (e = 0 → p = 0) → (e = 0 → 1 ≤ n) → (e = 0 → l.length ≤ a) →
    ∃ l' a' e' p', Step L (pStmts L st f l) a d e p l' a' e' p' ∧
      lpW (m154_l0 KK (HN A B + 2)) ([.ptr A.length 0, .slice [] (.own (HN A B)), .slice (l.map XS.cells) (.own (HN A B + 1))], RQ A L a d e p (B ++ [.front 0 0, .front l.length (fsz l.length 11)])) =
        some (.exit 0, [.ptr A.length 0, .slice [] (.own (HN A B)), .slice (l'.map XS.cells) (.own (HN A B + 1))], RQ A L a' d e' p' (B ++ [.front 0 0, .front l'.length (fsz l'.length 11)])) := by
  intro f
  have hsp : ∀ h, AVal.san1 (HN A B + 2) h (.ptr A.length 0) = .ptr A.length 0 := fun h => san1_ptr (by simp [HN]; omega)
  induction f with
  | zero =>
    intro l a e p ha hf hp h1 hl
    have he : e ≠ 0 := fun h => by have := hf h; omega
    exact ⟨l, a, e, p, Step.stay ha he, m154_bad hB he⟩
  | succ f ih =>
    intro l a e p ha hf hp h1 hl
    by_cases he : e ≠ 0
    · exact ⟨l, a, e, p, Step.stay ha he, m154_bad hB he⟩
    have he : e = 0 := by omega
    subst he
    have := hp rfl
    subst this
    have hfl := hf rfl
    have hll := hl rfl
    have hKB : KB A (B ++ [.front 0 0, .front l.length (fsz l.length 11)]) := hB.app (by simp)
    have h149 := q149 (L := L) (d := d) (w := [125]) (by decide) ha hKB hp
    cases h3 : see 0 (tk L a) [125]
    · rw [h3] at h149
      obtain ⟨v, a2, e2, p2, g1, s1⟩ := hs A _ a d 0 0 ha hd h1 hKB (fun _ => rfl)
      have hp2 := s1.zero (fun _ => rfl)
      have adv : e2 = 0 → a + 1 ≤ a2 := fun h => by
        subst h
        obtain ⟨d', hd'⟩ := s1.went
        exact (hg _ _ _ _ _ hd' ha).1
      obtain ⟨l', a', e', p', s2, g2⟩ := ih (l ++ [v]) a2 e2 p2 s1.lt (fun h => by have := adv h; omega) hp2 (fun _ => h1 rfl) (fun h => by have := adv h; simp; omega)
      refine ⟨l', a', e', p', ?_, ?_⟩
      · rw [pStmts]
        refine Step.sees hL hK ?_
        simp only [h3, Bool.false_eq_true, if_false]
        exact s1.bind (hg.dep ha) s2
      · have b2 := fun t => RQ_app1 (A := A) (B := B) (L := L) (a := a2) (d := d) (er := e2) (p := p2) (C := [.front 0 0, .front l.length (fsz l.length 11), .front 1 11]) (k := 1) (rows := l.map XS.cells) (new := [v.cells]) (sz := 11) (by_ := 144) (sz' := fsz l.length 11) (t := t) (by simp) (by rw [List.length_map]; exact fsz_or _ _) (by simp) (by simp) (by simp; omega) (by simp; omega)
        simp only [List.length_map, List.length_singleton, List.set_cons_succ, List.set_cons_zero] at b2
        have ht := fun C => bl_trunc (L := L) (C := C) (a := a2) (d := d) (e := e2) (p := p2) (x := l.length + 1) (y := 11) hB
        rw [lpW_step, ← g2]
        simp only [sEnc, List.map_append, List.map_cons, List.map_nil, List.length_append, List.length_cons, List.length_nil, Nat.zero_add, fsz_succ] at g1 ⊢
        simp -implicitDefEqProofs [m154_l0, h149, g1, xs_build, b2, endR, ht, hsp]
    · rw [h3] at h149
      refine ⟨l, a, 0, 0, ?_, ?_⟩
      · rw [pStmts]
        refine Step.sees hL hK ?_
        simp only [h3, if_true]
        exact Step.pure ha
      · have ht := bl_trunc (L := L) (C := []) (a := a) (d := d) (e := 0) (p := 0) (x := l.length) (y := fsz l.length 11) hB
        rw [lpW_step]
        simp -implicitDefEqProofs [m154_l0, h149, endR, ht, hsp]

omit hK in
theorem r154b : RBad L (fun d => d ≤ 65) 154 [] (fun d => d) (bkEnc []) := by
  intro A B a d e p ha hd hB he
  have hKB : KB A (B ++ [.front 0 0, .front 0 0]) := hB.app (by simp)
  have hd' : d ≤ 65 := hd
  have g1 := r186b hL (w := [123]) A _ a d e p ha (by show d ≤ 1000; omega) hKB he
  have g2 := m154_bad (L := L) (a := a) (d := d + 1) (p := p) (l := []) hB he
  have g3 := r188b hL (w := [125]) A _ a (d + 1) e p ha (by show 1 ≤ d + 1 ∧ d + 1 ≤ 1000; omega) hKB he
  refine evW_by (m154_eq _ _ _) ?_
  simp only [List.map_nil, List.length_nil, fsz_zero, Nat.add_sub_cancel] at g2 g3
  simp -implicitDefEqProofs [m154, hB, g1, g2, g3]

theorem q154s {n : Nat} (hs : RCE L n 187 [] sEnc (pStmt L (pBlock L n) n)) : RCE L (n + 1) 154 [] bkEnc (pBlock L (n + 1)) := by
  intro A B a d e p ha hd he hB hp
  have hg := g_stmt hK (g_block hK n) n
  have hKB : KB A (B ++ [.front 0 0, .front 0 0]) := hB.app (by simp)
  obtain ⟨u, a1, e1, p1, g1, s1⟩ := q186 hL hK (w := [123]) (by decide) A _ a d e p ha (by show d ≤ 64; omega) hKB hp
  have hp1 := s1.zero hp
  have hn1 : e1 = 0 → 1 ≤ n := fun h => by subst h; have := (open_lt s1 hp).1; omega
  obtain ⟨l, a2, e2, p2, s2, g2⟩ := m154_loop hL hK hs hg hB (show n + (d + 1) = 65 by omega) 131073 [] a1 e1 p1 s1.lt (fun _ => by omega) hp1 hn1 (fun _ => by simp)
  have hp2 := s2.zero hp1
  have hKB2 : KB A (B ++ [.front 0 0, .front l.length (fsz l.length 11)]) := hB.app (by simp)
  obtain ⟨u', a3, e3, p3, g3, s3⟩ := q188 hL hK (w := [125]) (by decide) A _ a2 (d + 1) e2 p2 s2.lt (by show 1 ≤ d + 1 ∧ d + 1 ≤ 1000; omega) hKB2 hp2
  refine ⟨l, a3, e3, p3, evW_by (m154_eq _ _ _) ?_, ?_⟩
  · simp only [uEnc, List.map_nil, List.length_nil, fsz_zero, Nat.add_sub_cancel] at g1 g2 g3
    simp -implicitDefEqProofs [m154, hB, g1, g2, g3]
  · unfold pBlock
    exact s1.bind ((g_open hK).dep ha) (s2.bind ((g_stmts hg _ _).dep s1.lt) (s3.bind ((g_shut hK).dep s2.lt) (Step.pure s3.lt)))

include hW
/-- All blocks. -/
theorem q154 : ∀ n, RCE L n 154 [] bkEnc (pBlock L n)
  | 0 => fun A B a d e p ha hn he hB hp => by
    have h0 : e ≠ 0 := fun h => absurd (he h) (by omega)
    exact ⟨[], a, e, p, r154b hL A B a d e p ha (by show d ≤ 65; omega) hB h0, Step.stay ha h0⟩
  | n + 1 => q154s hL hK (q187 hL hK hW (q154 n) (g_block hK n))
end
end Go.Proofs.YtkeoalhglkfbkaaDoor

/-
  The document's parser: functions, by the evaluator. No conditions.
-/
namespace Go.Proofs.YtkeoalhglkfbkaaDoor
open Go Hk

theorem xp_build {x : XP} {h : Heap} : abuildSlice 1 6 [.int .i64 0, .str [], .int .i64 0, .int .i64 0, .int .i64 0, .bool false] [(0, .agg x.cells)] h = some (.slice [x.cells] (.own h.length), h ++ [.front 1 6]) :=
  abuildSlice1 (XP.row.len x) rfl (XP.row.pure x) (XP.row.ok x)

/-- What 'function' has. -/
def fT (A B : List ABlk) (pos : Int) (nm : List UInt8) (s2 : AVal) (has : Bool) (e1 e2 e3 : Int) (s7 : AVal) (x : ABlk) (E : List ABlk) : List ABlk :=
  .cells [.int .i64 0, .str [], .slice [] (.own (HN A B + 1)), .bool false, .int .i64 0, .int .i64 0, .int .i64 0, .slice [] (.own (HN A B + 2))] :: .front 0 0 :: .front 0 0 ::
  .cells [.int .i64 pos, .str nm, s2, .bool has, .int .i64 e1, .int .i64 e2, .int .i64 e3, s7] :: x :: .front 0 0 :: E
def fG (A B : List ABlk) (x : ABlk) (E : List ABlk) : List ABlk :=
  .cells [.int .i64 0, .str [], .slice [] (.own (HN A B + 1)), .bool false, .int .i64 0, .int .i64 0, .int .i64 0, .slice [] (.own (HN A B + 2))] :: .front 0 0 :: .front 0 0 ::
  .gone :: x :: .front 0 0 :: E

section
variable {A B C : List ABlk} {L : List Token} {a d er p k : Nat} {x y : XP} {t : Tok}
theorem RQ_pushP (l : List XP) (hc : C[k]? = some (.front l.length (fsz l.length 6))) (hl : l.length ≤ 200000) :
    aappend 6 56 (RQ A L a d er p (B ++ C)) (.slice (l.map XP.cells) (.own (HN A B + k))) (.slice [x.cells] t) = some (.slice ((l ++ [x]).map XP.cells) (.own (HN A B + k)), RQ A L a d er p (B ++ C.set k (.front (l.length + 1) 6))) := by
  have := RQ_app1 (A := A) (B := B) (L := L) (a := a) (d := d) (er := er) (p := p) (C := C) (k := k) (rows := l.map XP.cells) (new := [x.cells]) (sz := 6) (by_ := 56) (sz' := fsz l.length 6) (t := t)
    (by rw [List.length_map]; exact hc) (by rw [List.length_map]; exact fsz_or _ _) (by simpa using XP.row.len x) (by simp) (by simp; omega) (by simp; omega)
  simpa using this
theorem RQ_pushP0 (hc : C[k]? = some (.front 0 0)) : aappend 6 56 (RQ A L a d er p (B ++ C)) (.slice [] (.own (HN A B + k))) (.slice [x.cells] t) = some (.slice [x.cells] (.own (HN A B + k)), RQ A L a d er p (B ++ C.set k (.front 1 6))) := by
  have := RQ_pushP (A := A) (B := B) (L := L) (a := a) (d := d) (er := er) (p := p) (C := C) (k := k) (x := x) (t := t) [] (by simpa [fsz] using hc) (by simp)
  simpa using this
end

section
variable {L : List Token} (hL : L.length ≤ 131072) (hK : TokOk L) (hW : WordOk L)
include hL hK

def fP (A B : List ABlk) (nm : Token) (l : List XP) (E : List ABlk) : List ABlk := fT A B nm.pos nm.text (.slice (l.map XP.cells) (.own (HN A B + 4))) false 0 0 0 (.slice [] (.own (HN A B + 5))) (.front l.length (fsz l.length 6)) (.cells nm.cells :: E)

omit hL hK in
theorem fP_KB {A B E : List ABlk} {nm : Token} {l : List XP} (hB : KB A B) (hE : KBn (HN A B + (E.length + 7)) E) : KB A (B ++ fP A B nm l E) := hB.app (by simp [fP, fT, hE])
omit hL hK in
theorem fP_trunc {A B C : List ABlk} {nm : Token} {l : List XP} {a d e p : Nat} (hB : KB A B) : trunc (HN A B + 8) (RQ A L a d e p (B ++ fP A B nm l (.front 1 6 :: C))) = some (RQ A L a d e p (B ++ fP A B nm l [.front 1 6])) := by
  have := RQ_truncK (L := L) (a := a) (d := d) (er := e) (p := p) (A := A) (B := B) (C := fP A B nm l (.front 1 6 :: C)) (k := 8) (by simpa [fP, fT] using fP_KB (E := [.front 1 6]) (nm := nm) (l := l) hB (by simp)) (by simp [fP, fT])
  simpa [fP, fT] using this

theorem m78_loop {d : Nat} {A B : List ABlk} {nm : Token} (hB : KB A B) :
    ∀ (f : Nat) (l : List XP) (a e p : Nat), a < L.length → (e = 0 → L.length < a + f) → (e = 0 → p = 0) → (e = 0 → l.length ≤ a) →
    ∃ l' a' e' p', Step L (pRest L (pParam L) f l) a d e p l' a' e' p' ∧
      lpW (m78_l0 KK (HN A B + 8)) ([.ptr A.length 0, .ptr (HN A B) 0, .ptr (HN A B + 3) 0], RQ A L a d e p (B ++ fP A B nm l [.front 1 6])) =
        some (.exit 0, [.ptr A.length 0, .ptr (HN A B) 0, .ptr (HN A B + 3) 0], RQ A L a' d e' p' (B ++ fP A B nm l' [.front 1 6])) := by
  intro f
  have q1 : ∀ h, AVal.san1 (HN A B + 8) h (.ptr A.length 0) = .ptr A.length 0 := fun h => san1_ptr (by simp [HN]; omega)
  have q2 : ∀ h, AVal.san1 (HN A B + 8) h (.ptr (HN A B) 0) = .ptr (HN A B) 0 := fun h => san1_ptr (by omega)
  have q3 : ∀ h, AVal.san1 (HN A B + 8) h (.ptr (HN A B + 3) 0) = .ptr (HN A B + 3) 0 := fun h => san1_ptr (by omega)
  have hKB : ∀ l, KB A (B ++ fP A B nm l [.front 1 6]) := fun l => fP_KB hB (by simp)
  have stop : ∀ (f : Nat) (l : List XP) (a e p : Nat), a < L.length → (e = 0 → p = 0) → see e (tk L a) [44] = false →
      ∃ l' a' e' p', Step L (pRest L (pParam L) f l) a d e p l' a' e' p' ∧
      lpW (m78_l0 KK (HN A B + 8)) ([.ptr A.length 0, .ptr (HN A B) 0, .ptr (HN A B + 3) 0], RQ A L a d e p (B ++ fP A B nm l [.front 1 6])) =
        some (.exit 0, [.ptr A.length 0, .ptr (HN A B) 0, .ptr (HN A B + 3) 0], RQ A L a' d e' p' (B ++ fP A B nm l' [.front 1 6])) := by
    intro f l a e p ha hp hs
    have h151 := q151 (L := L) hL (d := d) (w := [44]) (by decide) ha (hKB l) hp
    simp only [hs, Bool.false_eq_true, if_false] at h151
    refine ⟨l, a, e, p, ?_, ?_⟩
    · unfold pRest
      refine Step.maybe hL hK ?_
      simp only [hs, Bool.false_eq_true, if_false]
      exact Step.pure ha
    · have ht := fP_trunc (L := L) (C := []) (nm := nm) (l := l) (a := a) (d := d) (e := e) (p := p) hB
      rw [lpW_step]
      simp -implicitDefEqProofs [m78_l0, h151, endR, ht, q1, q2, q3]
  induction f with
  | zero =>
    intro l a e p ha hf hp hl
    have he : e ≠ 0 := fun h => by have := hf h; omega
    exact stop 0 l a e p ha hp (by simp [see, he])
  | succ f ih =>
    intro l a e p ha hf hp hl
    cases hs : see e (tk L a) [44]
    · exact stop (f + 1) l a e p ha hp hs
    · obtain ⟨he, hs2, ha1⟩ := see_lt hL hK ha hs
      subst he
      have := hp rfl
      subst this
      have hfl := hf rfl
      have hll := hl rfl
      have h151 := q151 (L := L) hL (d := d) (w := [44]) (by decide) ha (hKB l) hp
      simp only [hs, if_true] at h151
      have hC : KB A (B ++ fG A B (.front l.length (fsz l.length 6)) [.cells nm.cells, .front 1 6]) := hB.app (by simp [fG])
      obtain ⟨v, a2, e2, p2, g1, s1⟩ := q150 hL hK A _ (a + 1) d 0 0 ha1 trivial hC (fun _ => rfl)
      have hp2 := s1.zero (fun _ => rfl)
      have hg := g_param hK
      have adv : e2 = 0 → a + 1 + 1 ≤ a2 := fun h => by
        subst h
        obtain ⟨d', hd'⟩ := s1.went
        exact (hg _ _ _ _ _ hd' ha1).1
      obtain ⟨l', a', e', p', s2, g2⟩ := ih (l ++ [v]) a2 e2 p2 s1.lt (fun h => by have := adv h; omega) hp2 (fun h => by have := adv h; simp; omega)
      refine ⟨l', a', e', p', ?_, ?_⟩
      · unfold pRest
        refine Step.maybe hL hK ?_
        simp only [hs, if_true]
        rw [more_rest]
        exact s1.bind (hg.dep ha1) s2
      · have ht := fP_trunc (L := L) (C := [.front 1 6]) (nm := nm) (l := l ++ [v]) (a := a2) (d := d) (e := e2) (p := p2) hB
        have hpush := fun (t : Tok) (C : List ABlk) hc => RQ_pushP (A := A) (B := B) (C := C) (L := L) (a := a2) (d := d) (er := e2) (p := p2) (k := 4) (x := v) (t := t) l hc (by omega)
        rw [lpW_step, ← g2]
        simp only [fP, fT, fG, List.cons_append, List.nil_append, List.map_append, List.map_cons, List.map_nil, Token.cells, List.length_append, List.length_cons, List.length_nil, Nat.zero_add, fsz_succ] at h151 g1 ht ⊢
        simp -implicitDefEqProofs [m78_l0, h151, g1, hB, xp_build, hpush, endR, ht, q1, q2, q3]

include hW

/-- A function's end: what it answers, and its body. -/
theorem f_tail {A B E : List ABlk} {nm : Token} {ps : List XP} {a e p : Nat} (ha : a < L.length) (hB : KB A B) (hE : KBn (HN A B + (E.length + 7)) E) (hp : e = 0 → p = 0) :
    ∃ (ty : Ty) (b : List XS) (a' e' p' : Nat), Step L (do if ← pMaybe L [58] then (do let l ← pLabel L; let ty ← pScalar L l; let b ← pBlock L 65; return ⟨nm.pos, nm.text, ps, true, ty, b⟩) else (do let b ← pBlock L 65; return ⟨nm.pos, nm.text, ps, false, ⟨0, 0, 0⟩, b⟩) : PM XF) a 0 e p ⟨nm.pos, nm.text, ps, see e (tk L a) [58], ty, b⟩ a' e' p' ∧
      KK 151 [.ptr A.length 0, .str [58]] (RQ A L a 0 e p (B ++ fP A B nm ps E)) = some (.ret (.bool (see e (tk L a) [58])), RQ A L (if see e (tk L a) [58] = true then a + 1 else a) 0 e p (B ++ fP A B nm ps E)) ∧
      (see e (tk L a) [58] = true → ∃ l a1 e1 p1 a2 e2 p2, 
        KK 152 [.ptr A.length 0] (RQ A L (a + 1) 0 e p (B ++ fT A B nm.pos nm.text (.slice (ps.map XP.cells) (.own (HN A B + 4))) true 0 0 0 (.slice [] (.own (HN A B + 5))) (.front ps.length (fsz ps.length 6)) (.cells nm.cells :: E))) =
          some (.ret (.int .i64 (l : Nat)), RQ A L a1 0 e1 p1 (B ++ fT A B nm.pos nm.text (.slice (ps.map XP.cells) (.own (HN A B + 4))) true 0 0 0 (.slice [] (.own (HN A B + 5))) (.front ps.length (fsz ps.length 6)) (.cells nm.cells :: E))) ∧
        KK 153 [.ptr A.length 0, .bool true, .int .i64 (l : Nat)] (RQ A L a1 0 e1 p1 (B ++ fT A B nm.pos nm.text (.slice (ps.map XP.cells) (.own (HN A B + 4))) true 0 0 0 (.slice [] (.own (HN A B + 5))) (.front ps.length (fsz ps.length 6)) (.cells nm.cells :: E))) =
          some (.ret (.agg ty.cells), RQ A L a2 0 e2 p2 (B ++ fT A B nm.pos nm.text (.slice (ps.map XP.cells) (.own (HN A B + 4))) true 0 0 0 (.slice [] (.own (HN A B + 5))) (.front ps.length (fsz ps.length 6)) (.cells nm.cells :: E))) ∧
        KK 154 [.ptr A.length 0] (RQ A L a2 0 e2 p2 (B ++ fT A B nm.pos nm.text (.slice (ps.map XP.cells) (.own (HN A B + 4))) true ty.elem ty.len ty.label (.slice [] (.own (HN A B + 5))) (.front ps.length (fsz ps.length 6)) (.cells nm.cells :: E))) =
          some (.ret (bkEnc b), RQ A L a' 0 e' p' (B ++ fT A B nm.pos nm.text (.slice (ps.map XP.cells) (.own (HN A B + 4))) true ty.elem ty.len ty.label (.slice [] (.own (HN A B + 5))) (.front ps.length (fsz ps.length 6)) (.cells nm.cells :: E)))) ∧
      (see e (tk L a) [58] = false → ty = ⟨0, 0, 0⟩ ∧ KK 154 [.ptr A.length 0] (RQ A L a 0 e p (B ++ fP A B nm ps E)) = some (.ret (bkEnc b), RQ A L a' 0 e' p' (B ++ fP A B nm ps E))) := by
  have hKB : KB A (B ++ fP A B nm ps E) := fP_KB hB hE
  have h151 := q151 (L := L) hL (d := 0) (w := [58]) (by decide) ha hKB hp
  have hT : ∀ x y z : Int, KB A (B ++ fT A B nm.pos nm.text (.slice (ps.map XP.cells) (.own (HN A B + 4))) true x y z (.slice [] (.own (HN A B + 5))) (.front ps.length (fsz ps.length 6)) (.cells nm.cells :: E)) := fun x y z => hB.app (by simp [fT, hE])
  have hgb := g_block hK 65
  cases hs : see e (tk L a) [58]
  · rw [hs] at h151
    obtain ⟨b, a', e', p', g1, s1⟩ := q154 hL hK hW 65 A _ a 0 e p ha rfl (fun _ => by omega) hKB hp
    refine ⟨⟨0, 0, 0⟩, b, a', e', p', ?_, h151, (fun h => by cases h), fun _ => ⟨rfl, g1⟩⟩
    refine Step.maybe hL hK ?_
    simp only [hs, Bool.false_eq_true, if_false]
    exact s1.bind (hgb.dep ha) (Step.pure s1.lt)
  · rw [hs] at h151
    obtain ⟨_, _, ha1⟩ := see_lt hL hK ha hs
    obtain ⟨l, a1, e1, p1, g1, s1⟩ := q152 hL hK A _ (a + 1) 0 e p ha1 trivial (hT 0 0 0) hp
    have hp1 := s1.zero hp
    obtain ⟨ty, a2, e2, p2, g2, s2⟩ := q153s hL hK l A _ a1 0 e1 p1 s1.lt trivial (hT 0 0 0) hp1
    have hp2 := s2.zero hp1
    obtain ⟨b, a', e', p', g3, s3⟩ := q154 hL hK hW 65 A _ a2 0 e2 p2 s2.lt rfl (fun _ => by omega) (hT ty.elem ty.len ty.label) hp2
    refine ⟨ty, b, a', e', p', ?_, h151, (fun _ => ⟨l, a1, e1, p1, a2, e2, p2, g1, g2, g3⟩), fun h => by cases h⟩
    refine Step.maybe hL hK ?_
    simp only [hs, if_true]
    exact s1.bind ((g_label hK).dep ha1) (s2.bind ((g_scalar hK).dep s1.lt) (s3.bind (hgb.dep s2.lt) (Step.pure s3.lt)))

set_option maxHeartbeats 1000000 in
/-- A function. -/
theorem q78 {A B : List ABlk} {a e p : Nat} (ha : a < L.length) (hB : KB A B) (hp : e = 0 → p = 0) : ∃ v a' e' p', KK 78 [.ptr A.length 0] (RQ A L a 0 e p B) = some (.ret (fEnc v), RQ A L a' 0 e' p' B) ∧ Step L (pFunc L) a 0 e p v a' e' p' := by
  have hT : ∀ (x y z pos : Int) nm E, KBn (HN A B + (E.length + 6)) E → KB A (B ++ fT A B pos nm (.slice [] (.own (HN A B + 4))) false x y z (.slice [] (.own (HN A B + 5))) (.front 0 0) E) := fun x y z pos nm E hE => hB.app (by simp [fT, hE])
  obtain ⟨u, a1, e1, p1, g1, s1⟩ := q147 hL hK (w := [102, 110]) (by decide) A _ a 0 e p ha trivial (hT 0 0 0 0 [] [] (by simp)) hp
  have hp1 := s1.zero hp
  obtain ⟨nm, a2, e2, p2, g2, s2⟩ := q148 hL hK (k := 1) (by decide) A _ a1 0 e1 p1 s1.lt trivial (hT 0 0 0 0 [] [] (by simp)) hp1
  have hp2 := s2.zero hp1
  have hKB : ∀ l, KB A (B ++ fP A B nm l []) := fun l => fP_KB hB (by simp)
  have hKB1 : ∀ l, KB A (B ++ fP A B nm l [.front 1 6]) := fun l => fP_KB hB (by simp)
  obtain ⟨u3, a3, e3, p3, g3, s3⟩ := q147 hL hK (w := [40]) (by decide) A _ a2 0 e2 p2 s2.lt trivial (hKB []) hp2
  have hp3 := s3.zero hp2
  have h149 := q149 (L := L) (d := 0) (w := [41]) (by decide) s3.lt (hKB []) hp3
  have hg := g_param hK
  have stp : ∀ {ps a4 e4 p4 u5 a5 e5 p5 v a' e' p'}, Step L (pList L [41] (pParam L)) a3 0 e3 p3 ps a4 e4 p4 → Step L (pTake L [41]) a4 0 e4 p4 u5 a5 e5 p5 →
      Step L (do if ← pMaybe L [58] then (do let l ← pLabel L; let ty ← pScalar L l; let b ← pBlock L 65; return ⟨nm.pos, nm.text, ps, true, ty, b⟩) else (do let b ← pBlock L 65; return ⟨nm.pos, nm.text, ps, false, ⟨0, 0, 0⟩, b⟩) : PM XF) a5 0 e5 p5 v a' e' p' → Step L (pFunc L) a 0 e p v a' e' p' := by
    intro ps a4 e4 p4 u5 a5 e5 p5 v a' e' p' s4 s5 s6
    unfold pFunc
    exact s1.bind ((g_take hK).dep ha) (s2.bind ((g_kind hK (by omega)).dep s1.lt) (s3.bind ((g_take hK).dep s2.lt) (s4.bind ((g_list hK hg).dep s3.lt) (s5.bind ((g_take hK).dep s4.lt) s6))))
  cases hs : see e3 (tk L a3) [41]
  · have hC : KB A (B ++ fG A B (.front 0 0) [.cells nm.cells]) := hB.app (by simp [fG])
    obtain ⟨v, a4, e4, p4, g4, s4⟩ := q150 hL hK A _ a3 0 e3 p3 s3.lt trivial hC hp3
    have hp4 := s4.zero hp3
    have adv : e4 = 0 → a3 + 1 ≤ a4 := fun h => by
      have he3 := s4.back h
      subst he3; subst h
      have := hp3 rfl
      subst this
      obtain ⟨d', hd'⟩ := s4.went
      exact (hg _ _ _ _ _ hd' s3.lt).1
    obtain ⟨ps, a5, e5, p5, s5, g5⟩ := m78_loop (d := 0) (nm := nm) hL hK hB 131072 [v] a4 e4 p4 s4.lt (fun _ => by omega) hp4 (fun h => by have := adv h; simp; omega)
    have hp5 := s5.zero hp4
    obtain ⟨u6, a6, e6, p6, g6, s6⟩ := q147 hL hK (w := [41]) (by decide) A _ a5 0 e5 p5 s5.lt trivial (hKB1 ps) hp5
    have hp6 := s6.zero hp5
    obtain ⟨ty, b, a', e', p', s7, g7, g8, g9⟩ := f_tail hL hK hW (nm := nm) (ps := ps) (E := [.front 1 6]) s6.lt hB (by simp) hp6
    refine ⟨_, a', e', p', evW_by (m78_eq _ _ _) ?_, stp (ps := ps) (a4 := a5) (e4 := e5) (p4 := p5) ?_ s6 s7⟩
    · cases hs2 : see e6 (tk L a6) [58]
      · obtain ⟨rfl, g10⟩ := g9 hs2
        simp only [hs, hs2, fP, fT, fG, List.cons_append, List.nil_append, List.map_cons, List.map_nil, List.length_cons, List.length_nil, Nat.zero_add, fsz_succ, fsz_zero, Token.cells, tEnc, uEnc, bkEnc, Int.cast_ofNat_Int, if_false, Bool.false_eq_true] at g1 g2 g3 h149 g4 g5 g6 g7 g10
        simp -implicitDefEqProofs [m78, hB, g1, g2, g3, h149, g4, xp_build, RQ_pushP0, g5, g6, g7, g10, XF.cells]
      · obtain ⟨l, b1, f1, r1, b2, f2, r2, k1, k2, k3⟩ := g8 hs2
        simp only [hs, hs2, fP, fT, fG, List.cons_append, List.nil_append, List.map_cons, List.map_nil, List.length_cons, List.length_nil, Nat.zero_add, fsz_succ, fsz_zero, Token.cells, Ty.cells, tEnc, uEnc, bkEnc, Int.cast_ofNat_Int, if_true] at g1 g2 g3 h149 g4 g5 g6 g7 k1 k2 k3
        simp -implicitDefEqProofs [m78, hB, g1, g2, g3, h149, g4, xp_build, RQ_pushP0, g5, g6, g7, k1, k2, k3, XF.cells]
    · unfold pList
      refine Step.sees hL hK ?_
      simp only [hs, Bool.false_eq_true, if_false]
      show Step L (pMore L (pParam L) (131072 + 1) []) a3 0 e3 p3 ps a5 e5 p5
      rw [more_rest]
      exact s4.bind (hg.dep s3.lt) s5
  · obtain ⟨u6, a6, e6, p6, g6, s6⟩ := q147 hL hK (w := [41]) (by decide) A _ a3 0 e3 p3 s3.lt trivial (hKB []) hp3
    have hp6 := s6.zero hp3
    obtain ⟨ty, b, a', e', p', s7, g7, g8, g9⟩ := f_tail hL hK hW (nm := nm) (ps := []) (E := []) s6.lt hB (by simp) hp6
    refine ⟨_, a', e', p', evW_by (m78_eq _ _ _) ?_, stp (ps := []) (a4 := a3) (e4 := e3) (p4 := p3) ?_ s6 s7⟩
    · cases hs2 : see e6 (tk L a6) [58]
      · obtain ⟨rfl, g10⟩ := g9 hs2
        simp only [hs, hs2, fP, fT, fG, List.map_nil, List.length_nil, fsz_zero, Token.cells, tEnc, uEnc, bkEnc, Int.cast_ofNat_Int, if_false, Bool.false_eq_true] at g1 g2 g3 h149 g6 g7 g10
        simp -implicitDefEqProofs [m78, hB, g1, g2, g3, h149, g6, g7, g10, XF.cells]
      · obtain ⟨l, b1, f1, r1, b2, f2, r2, k1, k2, k3⟩ := g8 hs2
        simp only [hs, hs2, fP, fT, fG, List.map_nil, List.length_nil, fsz_zero, Token.cells, Ty.cells, tEnc, uEnc, bkEnc, Int.cast_ofNat_Int, if_true] at g1 g2 g3 h149 g6 g7 k1 k2 k3
        simp -implicitDefEqProofs [m78, hB, g1, g2, g3, h149, g6, g7, k1, k2, k3, XF.cells]
    · unfold pList
      refine Step.sees hL hK ?_
      simp only [hs, if_true]
      exact Step.pure s3.lt
end
end Go.Proofs.YtkeoalhglkfbkaaDoor

/-
  The document's parser, whole: by the evaluator. No conditions.
-/
namespace Go.Proofs.YtkeoalhglkfbkaaDoor
open Go Hk

theorem oneS_word {l : List UInt8} {at_ n : Nat} {t : Token} (h : oneS l at_ = some (t, n)) (hk : t.kind = 3) : t.text ∈ wordsT := by
  cases l with
  | nil => simp [oneS] at h
  | cons b r =>
    simp only [oneS] at h
    split at h
    · split at h
      · cases h
      · simp only [Option.some.injEq, Prod.mk.injEq] at h
        obtain ⟨rfl, _⟩ := h
        simp only at hk ⊢
        split at hk
        · assumption
        · cases hk
    · split at h
      · split at h
        · cases h
        · simp only [Option.some.injEq, Prod.mk.injEq] at h
          obtain ⟨rfl, _⟩ := h
          cases hk
      · split at h
        · cases h
        · simp only [Option.some.injEq, Prod.mk.injEq] at h
          obtain ⟨rfl, _⟩ := h
          cases hk
theorem word_level : ∀ w ∈ wordsT, levelOf w = none := by decide
theorem wordOk_of {s : List UInt8} {l : List Token} {n : Nat} (h : ∀ x ∈ l, Fact s x) : WordOk (l ++ [⟨0, n, 0, []⟩]) := by
  intro a hk
  by_cases ha : a < l.length
  · have e : tk (l ++ [(⟨0, n, 0, []⟩ : Token)]) a = tk l a := by simp [tk, List.getElem?_append_left ha]
    rw [e] at hk ⊢
    have hf := (h _ (tk_mem ha)).2.1.2.2.2.2 [] 0
    exact word_level _ (oneS_word (t := moved (tk l a) 0) hf hk)
  · have e : (tk (l ++ [(⟨0, n, 0, []⟩ : Token)]) a).kind = 0 := by
      unfold tk
      rw [List.getElem?_append_right (by omega)]
      cases h2 : a - l.length with
      | zero => rfl
      | succ i => rfl
    omega

theorem xf_ok (x : XF) : (∀ c, c ∈ x.cells → c.cellOk = true) = True := eq_true (by simpa using XF.row.ok x)
theorem xf_keepTok (x : XF) {h : Heap} {os : List AVal} : keepTok h os x.cells = x.cells := keepTok_none (by simp [XF.cells, AVal.isNil])
theorem xf_take (x : XF) : x.cells.take 8 = x.cells := rfl

def pA (e0 p0 : Nat) : List ABlk := [.cells [.slice [] (.own 1)], .front 0 0, .cells [.int .i64 0, .int .i64 0], .cells [.int .i64 (e0 : Int), .int .i64 (p0 : Int)]]
def pB (l : List XF) : List ABlk := [.cells [.slice (l.map XF.cells) (.own 6)], .front l.length (fsz l.length 8)]

section
variable {L : List Token} (hL : L.length ≤ 131072) (hK : TokOk L) (hW : WordOk L)
include hL hK hW

omit hL hK hW in
theorem pA_KB {e0 p0 : Nat} {l : List XF} : KB (pA e0 p0) (pB l) := ⟨fun n hn => by simp [HN, pA, pB] at hn ⊢; omega, fun n hn => by simp [HN, pA, pB] at hn ⊢; omega⟩
omit hL hK hW in
theorem pA_trunc {e0 p0 d e p : Int} {rows rows' : List (List AVal)} {n sz : Nat} {C : List ABlk} {a : Int} : trunc 7 (.cells [.slice [] (.own 1)] :: .front 0 0 :: .cells [.int .i64 0, .int .i64 0] :: .cells [.int .i64 e0, .int .i64 p0] :: .cells [.slice rows' .no, .int .i64 a, .int .i64 d, .int .i64 e, .int .i64 p] :: .cells [.slice rows (.own 6)] :: .front n sz :: C) =
    some [.cells [.slice [] (.own 1)], .front 0 0, .cells [.int .i64 0, .int .i64 0], .cells [.int .i64 e0, .int .i64 p0], .cells [.slice rows' .no, .int .i64 a, .int .i64 d, .int .i64 e, .int .i64 p], .cells [.slice rows (.own 6)], .front n sz] := by
  simp [trunc]

theorem m34_loop (e0 p0 : Nat) : ∀ (f : Nat) (l : List XF) (a e p : Nat), a < L.length → (e = 0 → L.length < a + f) → (e = 0 → p = 0) → (e = 0 → l.length ≤ a) →
    ∃ l' a' e' p', Step L (pFuncs L f l) a 0 e p l' a' e' p' ∧
      lpW (m34_l0 KK 7) ([.ptr 0 0, .ptr 2 0, .ptr 4 0, .ptr 5 0], RQ (pA e0 p0) L a 0 e p (pB l)) = some (.exit 0, [.ptr 0 0, .ptr 2 0, .ptr 4 0, .ptr 5 0], RQ (pA e0 p0) L a' 0 e' p' (pB l')) := by
  intro f
  have htr := fun d e p rows rows' n sz C a => pA_trunc (e0 := (e0 : Int)) (p0 := (p0 : Int)) (d := d) (e := e) (p := p) (rows := rows) (rows' := rows') (n := n) (sz := sz) (C := C) (a := a)
  have q0 : ∀ h, AVal.san1 7 h (.ptr 0 0) = .ptr 0 0 := fun h => san1_ptr (by omega)
  have q2 : ∀ h, AVal.san1 7 h (.ptr 2 0) = .ptr 2 0 := fun h => san1_ptr (by omega)
  have q4 : ∀ h, AVal.san1 7 h (.ptr 4 0) = .ptr 4 0 := fun h => san1_ptr (by omega)
  have q5 : ∀ h, AVal.san1 7 h (.ptr 5 0) = .ptr 5 0 := fun h => san1_ptr (by omega)
  have bad : ∀ (l : List XF) (a e p : Nat), e ≠ 0 → lpW (m34_l0 KK 7) ([.ptr 0 0, .ptr 2 0, .ptr 4 0, .ptr 5 0], RQ (pA e0 p0) L a 0 e p (pB l)) = some (.exit 0, [.ptr 0 0, .ptr 2 0, .ptr 4 0, .ptr 5 0], RQ (pA e0 p0) L a 0 e p (pB l)) := by
    intro l a e p he
    have he' : ¬ (e : Int) = 0 := by omega
    rw [lpW_step]
    simp -implicitDefEqProofs [m34_l0, RQ, RB, pA, pB, he, he', endR, htr, q0, q2, q4, q5]
  induction f with
  | zero =>
    intro l a e p ha hf hp hl
    have he : e ≠ 0 := fun h => by have := hf h; omega
    exact ⟨l, a, e, p, Step.stay ha he, bad l a e p he⟩
  | succ f ih =>
    intro l a e p ha hf hp hl
    by_cases he : e ≠ 0
    · exact ⟨l, a, e, p, Step.stay ha he, bad l a e p he⟩
    have he : e = 0 := by omega
    subst he
    have := hp rfl
    subst this
    have hfl := hf rfl
    have hll := hl rfl
    by_cases hk : (tk L a).kind = 0
    · refine ⟨l, a, 0, 0, ?_, ?_⟩
      · rw [pFuncs]
        refine Step.here ?_
        rw [if_pos hk]
        exact Step.pure ha
      · rw [lpW_step]
        simp -implicitDefEqProofs [m34_l0, RQ, RB, pA, pB, ha, hk, endR, htr, q0, q2, q4, q5]
    · have hk' : ¬ ((tk L a).kind : Int) = 0 := by omega
      have hg := g_func hK
      obtain ⟨v, a2, e2, p2, g1, s1⟩ := q78 hL hK hW (A := pA e0 p0) (B := pB l) (e := 0) (p := 0) ha pA_KB (fun _ => rfl)
      have hp2 := s1.zero (fun _ => rfl)
      have adv : e2 = 0 → a + 1 ≤ a2 := fun h => by
        subst h
        obtain ⟨d', hd'⟩ := s1.went
        exact (hg _ _ _ _ _ hd' ha).1
      obtain ⟨l', a', e', p', s2, g2⟩ := ih (l ++ [v]) a2 e2 p2 s1.lt (fun h => by have := adv h; omega) hp2 (fun h => by have := adv h; simp; omega)
      refine ⟨l', a', e', p', ?_, ?_⟩
      · rw [pFuncs]
        refine Step.here ?_
        rw [if_neg hk]
        exact s1.bind (hg.dep ha) s2
      · have b2 : ∀ (x0 x1 x2 x3 x4 x5 : ABlk) (u : List ABlk) (t : Tok), aappend 8 104 (x0 :: x1 :: x2 :: x3 :: x4 :: x5 :: .front l.length (fsz l.length 8) :: u) (.slice (l.map XF.cells) (.own 6)) (.slice [v.cells] t) =
            some (.slice (l.map XF.cells ++ [v.cells]) (.own 6), x0 :: x1 :: x2 :: x3 :: x4 :: x5 :: .front (l.length + 1) 8 :: u) := by
          intro x0 x1 x2 x3 x4 x5 u t
          have hb1 : (l.length + 1) * 104 ≤ 140737488355328 := by omega
          have hb2 : l.length + 1 ≤ 140737488355328 := by omega
          have hf : fsz l.length 8 = 8 ∨ l = [] ∧ fsz l.length 8 = 0 := by
            rcases fsz_or l.length 8 with h | h
            · exact .inl h
            · exact .inr ⟨List.length_eq_zero_iff.1 h.1, h.2⟩
          simp [aappend, arowsS, hb1, hb2]
          exact fun h => hf.resolve_left h
        rw [lpW_step, ← g2]
        simp only [RQ, RB, pA, pB, fEnc, List.cons_append, List.nil_append, List.length_cons, List.length_nil, List.map_append, List.map_cons, List.map_nil, List.length_append, Nat.zero_add, Nat.reduceAdd, fsz_succ, Int.cast_ofNat_Int] at g1 ⊢
        simp -implicitDefEqProofs [m34_l0, ha, hk, hk', g1, b2, xf_ok, xf_keepTok, xf_take, endR, htr, q0, q2, q4, q5]
end

theorem c34 (s : List UInt8) (h : Heap) : KK 34 [.str s] h = some (.ret (.tuple [.agg [.slice ((parseS s).1.map XF.cells) .no], .agg [.int .i64 ((parseS s).2.1 : Int), .int .i64 ((parseS s).2.2 : Int)]]), h) := by
  refine callP_pure rfl rfl (evW_by (m34_eq _ _ _) ?_)
  have h21 := c21 s
  unfold parseS
  by_cases he : (lexS s).2.1 = 0
  · have he' : (((lexS s).2.1 : Nat) : Int) = 0 := by omega
    obtain ⟨l0, hl0, hf0, _⟩ := lexS_ok he
    have hlen := lexS_len s
    have hL : (lexS s).1.length ≤ 131072 := by omega
    have hK : TokOk (lexS s).1 := by rw [hl0]; exact tokOk_of
    have hW : WordOk (lexS s).1 := by rw [hl0]; exact wordOk_of hf0
    have h0 : 0 < (lexS s).1.length := by rw [hl0]; simp
    rw [if_pos he]
    obtain ⟨l', a', e', p', s1, h1⟩ := m34_loop hL hK hW 0 (lexS s).2.2 131073 [] 0 0 0 h0 (fun _ => by omega) (fun _ => rfl) (fun _ => by simp)
    have h2 := s1.ok rfl rfl
    simp only [RQ, RB, pA, pB, List.map_nil, List.length_nil, fsz_zero, List.cons_append, List.nil_append, Int.cast_ofNat_Int] at h1
    simp -implicitDefEqProofs [m34, h21, he, h1]
    unfold Agree at h2
    cases q : pFuncs (lexS s).1 131073 [] 0 0 with
    | ok l a d =>
      rw [q] at h2
      obtain ⟨rfl, rfl, rfl, rfl⟩ := h2
      simp -implicitDefEqProofs [finR_zero]
    | bad e p a d =>
      rw [q] at h2
      obtain ⟨rfl, rfl, h3⟩ := h2
      have h3' : ¬ (e' : Int) = 0 := by omega
      simp -implicitDefEqProofs [h3, h3', finR_zero]
  · have he' : ¬ (((lexS s).2.1 : Nat) : Int) = 0 := by omega
    rw [if_neg he]
    simp -implicitDefEqProofs [m34, h21, he, he', finR_zero]
end Go.Proofs.YtkeoalhglkfbkaaDoor

/-
  The law SyntaxParses, by the evaluator. No conditions.
-/
namespace Go.Proofs.YtkeoalhglkfbkaaDoor
open Go Hk

theorem self_same {s : List UInt8} {F : List XF} {p : Nat} (h1 : parseS s = (F, 0, p)) : AllR (SimF ((0 : Nat) : Int)) F F ∧ F.length ≤ 70000 := by
  obtain ⟨l, e1, e2, a1, d1, e3⟩ := parse_ok h1
  have n1 := lexS_len s
  have p1 := lexS_pos s
  rw [e1] at n1 p1
  simp only [List.length_append, List.length_cons, List.length_nil] at n1
  have hs : s.length ≤ 65536 := by
    by_cases h : 65536 < s.length
    · have : (lexS s).2.1 = 8 ∨ (lexS s).2.1 ≠ 0 := by
        right
        unfold lexS
        rw [if_pos h]
        simp
      rw [e1] at this
      simp at this
    · omega
  have k1 : TokOk (l ++ [(⟨0, s.length, 0, []⟩ : Token)]) := tokOk_of
  have hz : ∀ i, i < l.length → (tk (l ++ [(⟨0, s.length, 0, []⟩ : Token)]) i).kind ≠ 0 := by
    intro i hi
    have : tk (l ++ [(⟨0, s.length, 0, []⟩ : Token)]) i = tk l i := by simp [tk, List.getElem?_append_left hi]
    rw [this]; exact e2 _ (tk_mem hi)
  obtain ⟨hd2, i, i1, i2, i3⟩ := funcs_ahead k1 (N := l.length) (by simp) hz (fun i hi => rfl) _ _ _ _ _ _ _ (Nat.zero_le _) e3
  simp only [List.length_nil, Nat.zero_add] at i1 i2
  obtain ⟨_, V', u1, F', u2, u3⟩ := s_funcs (far_self k1 fun x hx => by have := p1 x hx; omega) [] 131073 [] [] rfl 0 (by simp) 0 F a1 d1 e3
  simp only [List.append_nil, List.nil_append, Nat.add_zero, Nat.zero_add] at u1 u2
  rw [e3] at u1
  cases u1
  subst u2
  exact ⟨u3, by omega⟩

def hS (F : List XF) : Heap := [.cells [.slice (F.map XF.cells) .no], .cells [.slice (F.map XF.cells) .no]]
theorem m35_loop (F : List XF) (hF : F.length ≤ 70000) (h1 : ∀ (i : Nat) (h : i < F.length), SimF 0 F[i] F[i]) : ∀ (n i : Nat), F.length < i + n → i ≤ F.length →
    lpW (m35_l0 KK 2) ([.ptr 0 0, .ptr 1 0, .bool false, .int .i64 0, .int .i64 (i : Int)], hS F) = some (.exit 0, [.ptr 0 0, .ptr 1 0, .bool false, .int .i64 0, .int .i64 (F.length : Int)], hS F) := by
  have htr : trunc 2 (hS F) = some (hS F) := by simp [hS, trunc]
  have hsp0 : ∀ h, AVal.san1 2 h (.ptr 0 0) = .ptr 0 0 := fun h => san1_ptr (by omega)
  have hsp1 : ∀ h, AVal.san1 2 h (.ptr 1 0) = .ptr 1 0 := fun h => san1_ptr (by omega)
  have hx : ∀ x : XF, List.take 8 (List.map AVal.untok1 x.cells) = x.cells := fun _ => rfl
  simp only [hS] at htr ⊢
  intro n
  induction n with
  | zero => intro i a1 a2; omega
  | succ n ih =>
    intro i a1 a2
    rw [lpW_step]
    by_cases hi : i < F.length
    · have w1 := wrapS (a := i) (by omega)
      have hn := ih (i + 1) (by omega) hi
      simp only [Int.natCast_add, Int.cast_ofNat_Int] at hn
      have hc := c37 _ _ _ (h1 i hi)
      simp -implicitDefEqProofs [m35_l0, hi, hc, hx, endR, htr, hsp0, hsp1, w1, hn]
    · have he : i = F.length := by omega
      subst he
      simp -implicitDefEqProofs [m35_l0, endR, htr, hsp0, hsp1]

theorem c35 (F : List XF) (hF : F.length ≤ 70000) (h1 : ∀ (i : Nat) (h : i < F.length), SimF 0 F[i] F[i]) (h : Heap) : KK 35 [.agg [.slice (F.map XF.cells) .no], .agg [.slice (F.map XF.cells) .no], .bool true] h = some (.ret (.bool true), h) := by
  refine callP_pure rfl rfl (evW_by (m35_eq _ _ _ _ _) ?_)
  have hl := m35_loop F hF h1 (F.length + 1) 0 (by omega) (Nat.zero_le _)
  simp only [hS, Int.cast_ofNat_Int] at hl
  simp -implicitDefEqProofs [m35, hl, finR_zero]

/-- SyntaxParses: the law's function answers true. -/
theorem c8 (s : List UInt8) : evW Tryd.prog ann 8 [.str s] [] = some (.ret (.bool true), []) := by
  refine evW_by (m8_eq _ _ _) ?_
  have h33 := c33 s
  have h34 := c34 s
  have h36 := c36
  obtain ⟨F, e, p, hp⟩ : ∃ F e p, parseS s = (F, e, p) := ⟨_, _, _, rfl⟩
  have herr := parse_err s
  rw [hp] at h33 h34 herr
  by_cases he : e = 0
  · subst he
    obtain ⟨h1, h2⟩ := self_same hp
    have h35 := c35 F h2 (fun i hi => h1.get i hi hi)
    simp only [Int.cast_ofNat_Int] at h33 h34
    simp -implicitDefEqProofs [m8, h33, h34, h35, h36, finR_zero]
  · have hF : F = [] := herr he
    subst hF
    have h35 := c35 [] (by simp) (fun i hi => by simp at hi)
    simp only [List.map_nil] at h35
    simp -implicitDefEqProofs [m8, h33, h34, h35, h36, finR_zero]
end Go.Proofs.YtkeoalhglkfbkaaDoor
