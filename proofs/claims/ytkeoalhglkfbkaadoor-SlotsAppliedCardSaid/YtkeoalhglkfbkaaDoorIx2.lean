/-
  The texts IX.E, IX.F, IX.G, IX.G2, IX.J1, IX.J2, IX.J3, IX.J4, IX.L1, IX.L2, IX.K1, IX.K2, IX.K3, IX.K4, IX.K5, IX.K6, IX.K7, IX.K8, IX.K9, IX.K10, IX.K11, one behind another. No conditions.
-/
import Derived.Test.YtkeoalhglkfbkaaDoorIx1
import Derived.WalkKit
set_option linter.unusedVariables false
set_option linter.unusedSimpArgs false
set_option linter.unusedSectionVars false
set_option linter.all false
/-
  The checker's method on operations. No conditions.
-/
namespace Go.Proofs.YtkeoalhglkfbkaaDoor
open Go Hk

section
variable {p : IR} (hp : Lim p) {A B : List ABlk} {e : Int} (hB : KB A B)

def oB (o : Op) (d a b c : Int) : List ABlk := [.cells o.cells, .cells (formS o.kind).cells, .cells [.int .i64 o.kind, .int .i64 d, .int .i64 a, .int .i64 b, .int .i64 c, .int .i64 o.imm]]
def oS (A B : List ABlk) (u : List Int) (v : Bool) (i : Int) : List AVal := [.ptr A.length 0, .ptr (HN A B) 0, .bool v, .ptr (HN A B + 1) 0, .ptr (HN A B + 2) 0, .slice (u.map fun z => [.int .i64 z]) .no, .int .i64 (u.length : Int), .int .i64 i]

theorem oB_KB {o : Op} {d a b c : Int} (hB : KB A B) : KB A (B ++ oB o d a b c) := hB.app (by simp [oB, Op.cells, Form.cells])
theorem oB_trunc {o : Op} {d a b c : Int} (hB : KB A B) : trunc (HN A B + 3) (OQ A (ck p e) (B ++ oB o d a b c)) = some (OQ A (ck p e) (B ++ oB o d a b c)) := by
  have := OQ_truncK (X := ck p e) (A := A) (B := B) (C := oB o d a b c) (k := 3) (by simpa [oB] using oB_KB (o := o) (d := d) (a := a) (b := b) (c := c) hB) ck_ok (by simp [oB])
  simpa [oB] using this

include hp hB
theorem m70_step {o : Op} {u : List Int} {t d a b c : Int} {i : Nat} (hi : i < 3) (ht : u[i]? = some t) (hu : u.length ≤ 3) :
    m70_l0 KK (HN A B + 3) (oS A B u false (i : Int), OQ A (ck p e) (B ++ oB o d a b c)) = if between t 0 (p.temps - 1) = true then
      some (.normal, oS A B u false ((i : Int) + 1), OQ A (ck p e) (B ++ oB o d (if i = 0 then t else a) (if i = 1 then t else b) (if i = 2 then t else c)))
      else some (.ret, oS A B u false (i : Int), OQ A (ck p e) (B ++ oB o d a b c)) := by
  have h135 := c135 (e := e) hp (oB_KB (o := o) (d := d) (a := a) (b := b) (c := c) hB) t
  have htr := fun d a b c => oB_trunc (p := p) (e := e) (o := o) (d := d) (a := a) (b := b) (c := c) hB
  have hlt : i < u.length := (List.getElem?_eq_some_iff.1 ht).1
  have hlt' : (i : Int) < u.length := by omega
  have hti : u[i] = t := (List.getElem?_eq_some_iff.1 ht).2
  have q0 : ∀ h, AVal.san1 (HN A B + 3) h (.ptr A.length 0) = .ptr A.length 0 := fun h => san1_ptr A_lt
  have q1 : ∀ h, AVal.san1 (HN A B + 3) h (.ptr (HN A B) 0) = .ptr (HN A B) 0 := fun h => san1_ptr (by omega)
  have q2 : ∀ h, AVal.san1 (HN A B + 3) h (.ptr (HN A B + 1) 0) = .ptr (HN A B + 1) 0 := fun h => san1_ptr (by omega)
  have q3 : ∀ h, AVal.san1 (HN A B + 3) h (.ptr (HN A B + 2) 0) = .ptr (HN A B + 2) 0 := fun h => san1_ptr (by omega)
  simp only [oB, oS] at h135 htr ⊢
  cases hb : between t 0 (p.temps - 1)
  · simp -implicitDefEqProofs [m70_l0, hlt, hlt', ht, hti, h135, hb, endR, htr, q0, q1, q2, q3]
  · rcases (show i = 0 ∨ i = 1 ∨ i = 2 by omega) with rfl | rfl | rfl <;>
      have hl0 : (0 : Int) < u.length := by omega
    all_goals simp only [Int.cast_ofNat_Int] at hlt'
    all_goals
      simp -implicitDefEqProofs [m70_l0, hlt, hlt', ht, hti, h135, hb, aindexSl_lit, endR, htr, q0, q1, q2, q3, wrap64]

omit hp in
theorem m70_end {o : Op} {u : List Int} {d a b c : Int} {n : Nat} (hn : u.length = n) :
    m70_l0 KK (HN A B + 3) (oS A B u false (n : Int), OQ A (ck p e) (B ++ oB o d a b c)) = some (.exit 0, oS A B u false (n : Int), OQ A (ck p e) (B ++ oB o d a b c)) := by
  subst hn
  have htr := fun d a b c => oB_trunc (p := p) (e := e) (o := o) (d := d) (a := a) (b := b) (c := c) hB
  have q0 : ∀ h, AVal.san1 (HN A B + 3) h (.ptr A.length 0) = .ptr A.length 0 := fun h => san1_ptr A_lt
  have q1 : ∀ h, AVal.san1 (HN A B + 3) h (.ptr (HN A B) 0) = .ptr (HN A B) 0 := fun h => san1_ptr (by omega)
  have q2 : ∀ h, AVal.san1 (HN A B + 3) h (.ptr (HN A B + 1) 0) = .ptr (HN A B + 1) 0 := fun h => san1_ptr (by omega)
  have q3 : ∀ h, AVal.san1 (HN A B + 3) h (.ptr (HN A B + 2) 0) = .ptr (HN A B + 2) 0 := fun h => san1_ptr (by omega)
  simp only [oB, oS] at htr ⊢
  simp -implicitDefEqProofs [m70_l0, endR, htr, q0, q1, q2, q3]

/-- The loop over the temps that are read. -/
theorem m70_loop {o : Op} {d : Int} {s : Nat} (hs : s ≤ 3) {u : List Int} (hu : u = [o.a, o.b, o.c].take s) :
    (u.all (fun t => between t 0 (p.temps - 1)) = true → lpW (m70_l0 KK (HN A B + 3)) (oS A B u false 0, OQ A (ck p e) (B ++ oB o d 0 0 0)) =
      some (.exit 0, oS A B u false (s : Int), OQ A (ck p e) (B ++ oB o d (if 1 ≤ s then o.a else 0) (if 2 ≤ s then o.b else 0) (if 3 ≤ s then o.c else 0)))) ∧
    (u.all (fun t => between t 0 (p.temps - 1)) = false → ∃ (i : Nat) (x y z : Int), lpW (m70_l0 KK (HN A B + 3)) (oS A B u false 0, OQ A (ck p e) (B ++ oB o d 0 0 0)) =
      some (.ret, oS A B u false (i : Int), OQ A (ck p e) (B ++ oB o d x y z))) := by
  have hl : u.length = s := by subst hu; simp; omega
  have hu3 : u.length ≤ 3 := by omega
  -- rounds
  have st : ∀ (i : Nat) (t a b c : Int), i < 3 → u[i]? = some t → between t 0 (p.temps - 1) = true → lpW (m70_l0 KK (HN A B + 3)) (oS A B u false (i : Int), OQ A (ck p e) (B ++ oB o d a b c)) =
      lpW (m70_l0 KK (HN A B + 3)) (oS A B u false ((i + 1 : Nat) : Int), OQ A (ck p e) (B ++ oB o d (if i = 0 then t else a) (if i = 1 then t else b) (if i = 2 then t else c))) := by
    intro i t a b c hi ht hb
    rw [lpW_step, m70_step hp hB hi ht hu3, if_pos hb]; rfl
  have no : ∀ (i : Nat) (t a b c : Int), i < 3 → u[i]? = some t → between t 0 (p.temps - 1) = false → lpW (m70_l0 KK (HN A B + 3)) (oS A B u false (i : Int), OQ A (ck p e) (B ++ oB o d a b c)) =
      some (.ret, oS A B u false (i : Int), OQ A (ck p e) (B ++ oB o d a b c)) := by
    intro i t a b c hi ht hb
    rw [lpW_step, m70_step hp hB hi ht hu3, if_neg (by rw [hb]; decide)]; rfl
  have en : ∀ a b c : Int, lpW (m70_l0 KK (HN A B + 3)) (oS A B u false (s : Int), OQ A (ck p e) (B ++ oB o d a b c)) = some (.exit 0, oS A B u false (s : Int), OQ A (ck p e) (B ++ oB o d a b c)) := by
    intro a b c
    rw [lpW_step, m70_end hB hl]; rfl
  rcases (show s = 0 ∨ s = 1 ∨ s = 2 ∨ s = 3 by omega) with rfl | rfl | rfl | rfl
  · exact ⟨fun _ => en _ _ _, fun h => by subst hu; cases h⟩
  · have u0 : u[0]? = some o.a := by subst hu; rfl
    cases h0 : between o.a 0 (p.temps - 1)
    · exact ⟨fun h => by subst hu; simp [h0] at h, fun _ => ⟨0, 0, 0, 0, no 0 o.a 0 0 0 (by omega) u0 h0⟩⟩
    · exact ⟨fun _ => (st 0 o.a 0 0 0 (by omega) u0 h0).trans (en _ _ _), fun h => by subst hu; simp [h0] at h⟩
  · have u0 : u[0]? = some o.a := by subst hu; rfl
    have u1 : u[1]? = some o.b := by subst hu; rfl
    cases h0 : between o.a 0 (p.temps - 1)
    · exact ⟨fun h => by subst hu; simp [h0] at h, fun _ => ⟨0, 0, 0, 0, no 0 o.a 0 0 0 (by omega) u0 h0⟩⟩
    cases h1 : between o.b 0 (p.temps - 1)
    · exact ⟨fun h => by subst hu; simp [h0, h1] at h, fun _ => ⟨1, o.a, 0, 0, (st 0 o.a 0 0 0 (by omega) u0 h0).trans (no 1 o.b _ _ _ (by omega) u1 h1)⟩⟩
    · exact ⟨fun _ => (st 0 o.a 0 0 0 (by omega) u0 h0).trans ((st 1 o.b _ _ _ (by omega) u1 h1).trans (en _ _ _)), fun h => by subst hu; simp [h0, h1] at h⟩
  · have u0 : u[0]? = some o.a := by subst hu; rfl
    have u1 : u[1]? = some o.b := by subst hu; rfl
    have u2 : u[2]? = some o.c := by subst hu; rfl
    cases h0 : between o.a 0 (p.temps - 1)
    · exact ⟨fun h => by subst hu; simp [h0] at h, fun _ => ⟨0, 0, 0, 0, no 0 o.a 0 0 0 (by omega) u0 h0⟩⟩
    cases h1 : between o.b 0 (p.temps - 1)
    · exact ⟨fun h => by subst hu; simp [h0, h1] at h, fun _ => ⟨1, o.a, 0, 0, (st 0 o.a 0 0 0 (by omega) u0 h0).trans (no 1 o.b _ _ _ (by omega) u1 h1)⟩⟩
    cases h2 : between o.c 0 (p.temps - 1)
    · exact ⟨fun h => by subst hu; simp [h0, h1, h2] at h, fun _ => ⟨2, o.a, o.b, 0, (st 0 o.a 0 0 0 (by omega) u0 h0).trans ((st 1 o.b _ _ _ (by omega) u1 h1).trans (no 2 o.c _ _ _ (by omega) u2 h2))⟩⟩
    · exact ⟨fun _ => (st 0 o.a 0 0 0 (by omega) u0 h0).trans ((st 1 o.b _ _ _ (by omega) u1 h1).trans ((st 2 o.c _ _ _ (by omega) u2 h2).trans (en _ _ _))), fun h => by subst hu; simp [h0, h1, h2] at h⟩
end
end Go.Proofs.YtkeoalhglkfbkaaDoor

/-
  The checker's method on operations, whole. No conditions.
-/
namespace Go.Proofs.YtkeoalhglkfbkaaDoor
open Go Hk

def arrK (p : IR) (i : Int) : Int := match p.arrays[i.toNat]? with
  | some x => x.kind
  | none => 0
/-- May an operation of memory be? -/
def memS (p : IR) (o : Op) : Bool := if o.kind = 18 ∨ o.kind = 19 then decide (o.imm < (p.arrays.length : Int)) && (decide (o.kind = 18) || !decide (arrK p o.imm = 1)) else true
/-- May an operation be? -/
def opS (p : IR) (o : Op) : Bool :=
  (formS o.kind).ok && (between o.imm 0 (formS o.kind).most && ((usesS o).all (fun t => between t 0 (p.temps - 1)) &&
    (decide ((if (formS o.kind).dst = true then o.dst else 0) = o.dst ∧ (if 1 ≤ (formS o.kind).src then o.a else 0) = o.a ∧ (if 2 ≤ (formS o.kind).src then o.b else 0) = o.b ∧ (if 3 ≤ (formS o.kind).src then o.c else 0) = o.c) &&
      ((!(formS o.kind).dst || between o.dst 0 (p.temps - 1)) && memS p o))))

theorem form_src (k : Int) : (formS k).src ≤ 3 := by
  unfold formS; (repeat' split) <;> simp
theorem imm_most {k i : Int} (h : between i 0 (formS k).most = true) : 0 ≤ i := by
  simp only [between, Bool.and_eq_true, decide_eq_true_eq] at h; exact h.1

section
variable {p : IR} (hp : Lim p) {A B : List ABlk} {e : Int} (hB : KB A B)
include hp hB

set_option maxHeartbeats 4000000 in
theorem c70 (o : Op) : KK 70 [.ptr A.length 0, .agg o.cells] (OQ A (ck p e) B) = some (.ret (.bool (opS p o)), OQ A (ck p e) B) := by
  refine evW_by (m70_eq _ _ _ _) ?_
  have hX := ck_ok (p := p) (e := e)
  have h134 := c134 o.kind
  have h74 := c74 o
  have hsrc := form_src o.kind
  have hall := fun d => m70_loop (e := e) hp hB (o := o) (d := d) hsrc (u := usesS o) rfl
  have him : between o.imm 0 (formS o.kind).most = true → 0 ≤ o.imm := fun h => imm_most h
  have hul : ((usesS o).length : Int) = ((formS o.kind).src : Int) := by
    have : (usesS o).length = (formS o.kind).src := by unfold usesS; simp; omega
    omega
  have hKB := fun d a b c => oB_KB (o := o) (d := d) (a := a) (b := b) (c := c) hB
  have h135 := fun d a b c => c135 (e := e) hp (hKB d a b c) o.dst
  unfold opS
  unfold oB at hall h135
  generalize hu : usesS o = u at *
  generalize hf : formS o.kind = f at *
  obtain ⟨fd, fs, fm, fo⟩ := f
  simp only [Form.cells] at h134 hall h135
  cases fo
  · simp only [Op.cells] at h134 ⊢
    simp -implicitDefEqProofs [m70, hB, hX, h134]
  cases hb : between o.imm 0 fm
  · simp only [Op.cells] at h134 ⊢
    simp -implicitDefEqProofs [m70, hB, hX, h134, c68, hb]
  have hi0 := him hb
  obtain ⟨d, hd⟩ : ∃ d, d = if fd = true then o.dst else 0 := ⟨_, rfl⟩
  obtain ⟨hall1, hall2⟩ := hall d
  cases hal : u.all (fun t => between t 0 (p.temps - 1))
  · obtain ⟨i, x, y, z, g⟩ := hall2 hal
    simp only [oS, Op.cells, hul] at g h74 h134 ⊢
    cases fd <;> simp only [if_true, if_false, Bool.false_eq_true] at hd <;> subst hd <;>
      simp -implicitDefEqProofs [m70, hB, hX, h134, c68, hb, h74, hul, g]
  · have g := hall1 hal
    have hbd : ∀ x y : Int, (x == y) = decide (x = y) := fun x y => by by_cases h : x = y <;> simp [h]
    obtain ⟨ra, hra⟩ : ∃ x, x = if 1 ≤ fs then o.a else 0 := ⟨_, rfl⟩
    obtain ⟨rb, hrb⟩ : ∃ x, x = if 2 ≤ fs then o.b else 0 := ⟨_, rfl⟩
    obtain ⟨rc, hrc⟩ : ∃ x, x = if 3 ≤ fs then o.c else 0 := ⟨_, rfl⟩
    have h135 := h135 d ra rb rc
    simp only [← hra, ← hrb, ← hrc, ← hd] at g ⊢
    have hall : decide (d = o.dst ∧ ra = o.a ∧ rb = o.b ∧ rc = o.c) = (d == o.dst && (ra == o.a && (rb == o.b && rc == o.c))) := by
      simp only [hbd, Bool.decide_and]
    rw [hall]
    obtain ⟨ok, od, oa, ob, oc, oi⟩ := o
    simp only [oS, Op.cells, hul] at g h74 h134 h135 hd hi0 hb ⊢
    obtain ⟨n, rfl⟩ := Int.eq_ofNat_of_zero_le hi0
    cases hq : (d == od && (ra == oa && (rb == ob && rc == oc)))
    · cases fd <;> simp only [if_true, if_false, Bool.false_eq_true] at hd <;> subst hd <;> (try simp only [beq_self_eq_true, Bool.true_and] at hq) <;>
        simp -implicitDefEqProofs [m70, hB, hX, h134, c68, hb, h74, hul, g, hq, aeqAgg, aeqAll, aeqK]
    · have hlt : A.length < HN A B + 3 := A_lt
      simp only [ck] at hX g h135 ⊢
      by_cases hk : ok = 18
      · subst hk
        cases fd <;> simp only [if_true, if_false, Bool.false_eq_true] at hd <;> subst hd <;> (try simp only [beq_self_eq_true, Bool.true_and] at hq)
        · by_cases hl : n < p.arrays.length
          · have hx : p.arrays[n]? = some p.arrays[n] := List.getElem?_eq_getElem hl
            have hl' : (n : Int) < p.arrays.length := by omega
            simp -implicitDefEqProofs [m70, hB, hX, h134, c68, hb, h74, hul, g, hq, aeqAgg, aeqAll, aeqK, memS, hl, hl', hx, Arr.cells, arrK]
          · have hl' : ¬ (n : Int) < p.arrays.length := by omega
            simp -implicitDefEqProofs [m70, hB, hX, h134, c68, hb, h74, hul, g, hq, aeqAgg, aeqAll, aeqK, memS, hl, hl']
        · cases ht : between d 0 (p.temps - 1) <;> rw [ht] at h135
          · simp -implicitDefEqProofs [m70, hB, hX, h134, c68, hb, h74, hul, g, hq, aeqAgg, aeqAll, aeqK, memS, h135, ht]
          · by_cases hl : n < p.arrays.length
            · have hx : p.arrays[n]? = some p.arrays[n] := List.getElem?_eq_getElem hl
              have hl' : (n : Int) < p.arrays.length := by omega
              simp -implicitDefEqProofs [m70, hB, hX, h134, c68, hb, h74, hul, g, hq, aeqAgg, aeqAll, aeqK, memS, h135, ht, hl, hl', hx, Arr.cells, arrK]
            · have hl' : ¬ (n : Int) < p.arrays.length := by omega
              simp -implicitDefEqProofs [m70, hB, hX, h134, c68, hb, h74, hul, g, hq, aeqAgg, aeqAll, aeqK, memS, h135, ht, hl, hl']
      · by_cases hk2 : ok = 19
        · have hk := hk2
          clear hk2
          subst hk
          cases fd <;> simp only [if_true, if_false, Bool.false_eq_true] at hd <;> subst hd <;> (try simp only [beq_self_eq_true, Bool.true_and] at hq)
          · by_cases hl : n < p.arrays.length
            · have hx : p.arrays[n]? = some p.arrays[n] := List.getElem?_eq_getElem hl
              have hl' : (n : Int) < p.arrays.length := by omega
              simp -implicitDefEqProofs [m70, hB, hX, h134, c68, hb, h74, hul, g, hq, aeqAgg, aeqAll, aeqK, memS, hl, hl', hx, Arr.cells, arrK]
            · have hl' : ¬ (n : Int) < p.arrays.length := by omega
              simp -implicitDefEqProofs [m70, hB, hX, h134, c68, hb, h74, hul, g, hq, aeqAgg, aeqAll, aeqK, memS, hl, hl']
          · cases ht : between d 0 (p.temps - 1) <;> rw [ht] at h135
            · simp -implicitDefEqProofs [m70, hB, hX, h134, c68, hb, h74, hul, g, hq, aeqAgg, aeqAll, aeqK, memS, h135, ht]
            · by_cases hl : n < p.arrays.length
              · have hx : p.arrays[n]? = some p.arrays[n] := List.getElem?_eq_getElem hl
                have hl' : (n : Int) < p.arrays.length := by omega
                simp -implicitDefEqProofs [m70, hB, hX, h134, c68, hb, h74, hul, g, hq, aeqAgg, aeqAll, aeqK, memS, h135, ht, hl, hl', hx, Arr.cells, arrK]
              · have hl' : ¬ (n : Int) < p.arrays.length := by omega
                simp -implicitDefEqProofs [m70, hB, hX, h134, c68, hb, h74, hul, g, hq, aeqAgg, aeqAll, aeqK, memS, h135, ht, hl, hl']
        · cases fd <;> simp only [if_true, if_false, Bool.false_eq_true] at hd <;> subst hd <;> (try simp only [beq_self_eq_true, Bool.true_and] at hq)
          · simp -implicitDefEqProofs [m70, hB, hX, h134, c68, hb, h74, hul, g, hq, aeqAgg, aeqAll, aeqK, memS, hk, hk2]
          · cases ht : between d 0 (p.temps - 1) <;> rw [ht] at h135 <;>
            simp -implicitDefEqProofs [m70, hB, hX, h134, c68, hb, h74, hul, g, hq, aeqAgg, aeqAll, aeqK, memS, hk, hk2, h135, ht]
end
end Go.Proofs.YtkeoalhglkfbkaaDoor

/-
  Which programs of blocks may be: 'Check' as a plain function. No conditions.
-/
namespace Go.Proofs.YtkeoalhglkfbkaaDoor
open Go Hk

/-- May all arrays be? -/
def arrsS (inn out : Int) : Int → List Arr → Bool
  | _, [] => true
  | e, x :: r => (arrS inn out e x).1 && arrsS inn out (arrS inn out e x).2 r
theorem arrS_nn {inn out e : Int} {x : Arr} (he : 0 ≤ e) : 0 ≤ (arrS inn out e x).2 := by
  unfold arrS
  split
  · rename_i hs
    have hm := shaped_mul hs
    (repeat' split) <;> first
      | exact he
      | (rename_i h; simp only [between, Bool.and_eq_true, decide_eq_true_eq] at h; simp only [upS]; omega)
  · exact he
def blkS (p : IR) (b : Blk) : Bool := b.ops.all (opS p) && termS (p := p) b.term
/-- 'Check'. -/
def checkS (p : IR) : Int :=
  if limitedS p = false then 18
  else if between p.inn 0 65536 = true ∧ between p.out 0 65536 = true ∧ p.inn.tmod 4 = 0 ∧ p.out.tmod 4 = 0 ∧ 0 ≤ p.temps ∧ p.blocks ≠ [] then (if arrsS p.inn p.out 0 p.arrays && p.blocks.all (blkS p) then 0 else 2) else 2

section
variable {p : IR} (hp : Lim p) {A B : List ABlk} {q : Nat} (hq : q < A.length) (hB : KB A B)
include hp hq hB

theorem m30_loop0 : ∀ (n i : Nat) (e : Int), p.arrays.length < i + n → i ≤ p.arrays.length → 0 ≤ e →
    ∃ (ex : Ex) (r e' : Int) (j : Int), lpW (m30_l0 KK (HN A B)) ([.ptr q 0, .int .i64 0, .ptr A.length 0, .slice (p.arrays.map Arr.cells) .no, .int .i64 (p.arrays.length : Int), .int .i64 (i : Int)], OQ A (ck p e) B) =
      some (ex, [.ptr q 0, .int .i64 r, .ptr A.length 0, .slice (p.arrays.map Arr.cells) .no, .int .i64 (p.arrays.length : Int), .int .i64 j], OQ A (ck p e') B) ∧
      ((ex = .ret ∧ r = 2 ∧ arrsS p.inn p.out e (p.arrays.drop i) = false) ∨ (ex = .exit 0 ∧ r = 0 ∧ arrsS p.inn p.out e (p.arrays.drop i) = true)) := by
  have hX := fun e => ck_ok (p := p) (e := e)
  have q0 : ∀ h, AVal.san1 (HN A B) h (.ptr q 0) = .ptr q 0 := fun h => san1_ptr (by have := A_lt0 (A := A) (B := B); omega)
  have q1 : ∀ h, AVal.san1 (HN A B) h (.ptr A.length 0) = .ptr A.length 0 := fun h => san1_ptr A_lt0
  have ha1 := hp.a1
  intro n
  induction n with
  | zero => intro i e a1 a2; omega
  | succ n ih =>
    intro i e a1 a2 he
    rw [lpW_step]
    by_cases hi : i < p.arrays.length
    · have hi' : (i : Int) < p.arrays.length := by omega
      have hx : p.arrays[i]? = some p.arrays[i] := List.getElem?_eq_getElem hi
      have w1 := wrapS (a := i) (by omega)
      rw [List.drop_eq_getElem_cons hi]
      generalize p.arrays[i] = y at *
      have hC : KB A (B ++ [.cells y.cells]) := hB.app (by simp [Arr.cells])
      have h69 := c69 (e := e) hp hC y he
      have htr := fun e => OQ_trunc (X := ck p e) (A := A) (B := B) (C := [.cells y.cells]) hB ck_ok
      simp only [arrsS]
      cases hs : (arrS p.inn p.out e y).1
      · refine ⟨.ret, 2, (arrS p.inn p.out e y).2, i, ?_, .inl ⟨rfl, rfl, rfl⟩⟩
        rw [hs] at h69
        simp only [Arr.cells] at h69 htr hx ⊢
        simp -implicitDefEqProofs [m30_l0, hi', hx, h69, endR, htr, q0, q1, Arr.cells]
      · obtain ⟨ex, r, e', j, g1, g2⟩ := ih (i + 1) (arrS p.inn p.out e y).2 (by omega) hi (arrS_nn he)
        refine ⟨ex, r, e', j, ?_, g2⟩
        rw [hs] at h69
        simp only [Int.natCast_add, Int.cast_ofNat_Int] at g1
        rw [← g1]
        simp only [Arr.cells] at h69 htr hx ⊢
        simp -implicitDefEqProofs [m30_l0, hi', hx, h69, endR, htr, q0, q1, w1, Arr.cells]
    · have hi' : ¬ (i : Int) < p.arrays.length := by omega
      have htr := OQ_trunc0 (X := ck p e) (A := A) (B := B) hB ck_ok
      rw [List.drop_eq_nil_of_le (by omega)]
      refine ⟨.exit 0, 0, e, i, ?_, .inr ⟨rfl, rfl, rfl⟩⟩
      simp -implicitDefEqProofs [m30_l0, hi', endR, htr, q0, q1]

theorem m30_loop1 (e : Int) (b : Blk) (hb : b.ops.length ≤ 1048576) (k kk : Int) : ∀ (n i : Nat), b.ops.length < i + n → i ≤ b.ops.length →
    ∃ (ex : Ex) (r : Int) (j : Int), lpW (m30_l1 KK (HN A B + 2)) ([.int .i64 0, .ptr A.length 0, .ptr (HN A B) 0, .slice (p.blocks.map Blk.cells) .no, .int .i64 kk, .int .i64 k, .slice (b.ops.map Op.cells) .no, .int .i64 (b.ops.length : Int), .int .i64 (i : Int)], OQ A (ck p e) (B ++ [.cells b.cells, .front 0 0])) =
      some (ex, [.int .i64 r, .ptr A.length 0, .ptr (HN A B) 0, .slice (p.blocks.map Blk.cells) .no, .int .i64 kk, .int .i64 k, .slice (b.ops.map Op.cells) .no, .int .i64 (b.ops.length : Int), .int .i64 j], OQ A (ck p e) (B ++ [.cells b.cells, .front 0 0])) ∧
      ((ex = .ret ∧ r = 2 ∧ (b.ops.drop i).all (opS p) = false) ∨ (ex = .exit 4 ∧ r = 0 ∧ (b.ops.drop i).all (opS p) = true)) := by
  have hX := ck_ok (p := p) (e := e)
  have hB2 : KB A (B ++ [.cells b.cells, .front 0 0]) := hB.app (by simp [Blk.cells])
  have q1 : ∀ h, AVal.san1 (HN A B + 2) h (.ptr A.length 0) = .ptr A.length 0 := fun h => san1_ptr A_lt
  have q2 : ∀ h, AVal.san1 (HN A B + 2) h (.ptr (HN A B) 0) = .ptr (HN A B) 0 := fun h => san1_ptr (by omega)
  have hn2 : HN A (B ++ [.cells b.cells, .front 0 0]) = HN A B + 2 := by simp
  intro n
  induction n with
  | zero => intro i a1 a2; omega
  | succ n ih =>
    intro i a1 a2
    rw [lpW_step]
    by_cases hi : i < b.ops.length
    · have hi' : (i : Int) < b.ops.length := by omega
      have hx : b.ops[i]? = some b.ops[i] := List.getElem?_eq_getElem hi
      have w1 := wrapS (a := i) (by omega)
      rw [List.drop_eq_getElem_cons hi]
      generalize b.ops[i] = y at *
      have hC : KB A ((B ++ [.cells b.cells, .front 0 0]) ++ [.cells y.cells]) := hB2.app (by simp [Op.cells])
      have h70 := c70 (e := e) hp hC y
      have htr := OQ_trunc (X := ck p e) (A := A) (B := B ++ [.cells b.cells, .front 0 0]) (C := [.cells y.cells]) hB2 ck_ok
      rw [hn2] at htr
      simp only [List.append_assoc, List.cons_append, List.nil_append] at h70 htr
      simp only [List.all_cons]
      cases hs : opS p y
      · refine ⟨.ret, 2, i, ?_, .inl ⟨rfl, rfl, rfl⟩⟩
        rw [hs] at h70
        simp only [Op.cells] at h70 htr hx ⊢
        simp -implicitDefEqProofs [m30_l1, hi', hx, h70, endR, htr, q1, q2, Op.cells]
      · obtain ⟨ex, r, j, g1, g2⟩ := ih (i + 1) (by omega) hi
        refine ⟨ex, r, j, ?_, by simpa using g2⟩
        rw [hs] at h70
        simp only [Int.natCast_add, Int.cast_ofNat_Int] at g1
        rw [← g1]
        simp only [Op.cells] at h70 htr hx ⊢
        simp -implicitDefEqProofs [m30_l1, hi', hx, h70, endR, htr, q1, q2, w1, Op.cells]
    · have hi' : ¬ (i : Int) < b.ops.length := by omega
      have htr := OQ_trunc0 (X := ck p e) (A := A) (B := B ++ [.cells b.cells, .front 0 0]) hB2 ck_ok
      rw [hn2] at htr
      rw [List.drop_eq_nil_of_le (by omega)]
      refine ⟨.exit 4, 0, i, ?_, .inr ⟨rfl, rfl, rfl⟩⟩
      simp -implicitDefEqProofs [m30_l1, hi', endR, htr, q1, q2]

theorem m30_loop2 (e : Int) (hops : ∀ b ∈ p.blocks, b.ops.length ≤ 1048576) : ∀ (n i : Nat), p.blocks.length < i + n → i ≤ p.blocks.length →
    ∃ (ex : Ex) (r : Int) (j : Int), lpW (m30_l2 KK (HN A B)) ([.int .i64 0, .ptr A.length 0, .slice (p.blocks.map Blk.cells) .no, .int .i64 (p.blocks.length : Int), .int .i64 (i : Int)], OQ A (ck p e) B) =
      some (ex, [.int .i64 r, .ptr A.length 0, .slice (p.blocks.map Blk.cells) .no, .int .i64 (p.blocks.length : Int), .int .i64 j], OQ A (ck p e) B) ∧
      ((ex = .ret ∧ r = 2 ∧ (p.blocks.drop i).all (blkS p) = false) ∨ (ex = .exit 2 ∧ r = 0 ∧ (p.blocks.drop i).all (blkS p) = true)) := by
  have hX := ck_ok (p := p) (e := e)
  have q1 : ∀ h, AVal.san1 (HN A B) h (.ptr A.length 0) = .ptr A.length 0 := fun h => san1_ptr A_lt0
  have hb1 := hp.b1
  intro n
  induction n with
  | zero => intro i a1 a2; omega
  | succ n ih =>
    intro i a1 a2
    rw [lpW_step]
    by_cases hi : i < p.blocks.length
    · have hi' : (i : Int) < p.blocks.length := by omega
      have hx : p.blocks[i]? = some p.blocks[i] := List.getElem?_eq_getElem hi
      have hm := hops p.blocks[i] (List.getElem_mem hi)
      have w1 := wrapS (a := i) (by omega)
      rw [List.drop_eq_getElem_cons hi]
      generalize p.blocks[i] = y at *
      have hB2 : KB A (B ++ [.cells y.cells, .front 0 0]) := hB.app (by simp [Blk.cells])
      have h71 := c71 (e := e) hp hB2 y.term
      have htr := OQ_trunc (X := ck p e) (A := A) (B := B) (C := [.cells y.cells, .front 0 0]) hB ck_ok
      obtain ⟨ex, r, j, g1, g2⟩ := m30_loop1 hp hq hB e y hm (i : Int) (p.blocks.length : Int) (y.ops.length + 1) 0 (by omega) (Nat.zero_le _)
      simp only [List.drop_zero, Int.cast_ofNat_Int] at g1 g2
      simp only [List.all_cons, blkS]
      rcases g2 with ⟨rfl, rfl, g2⟩ | ⟨rfl, rfl, g2⟩
      · refine ⟨.ret, 2, i, ?_, .inl ⟨rfl, rfl, by rw [g2]; rfl⟩⟩
        simp only [Blk.cells, Term.cells] at h71 htr hx g1 ⊢
        simp -implicitDefEqProofs [m30_l2, hi', hx, g1, h71, endR, htr, q1, Blk.cells]
      · rw [g2]
        cases ht : termS (p := p) y.term
        · refine ⟨.ret, 2, i, ?_, .inl ⟨rfl, rfl, rfl⟩⟩
          rw [ht] at h71
          simp only [Blk.cells, Term.cells] at h71 htr hx g1 ⊢
          simp -implicitDefEqProofs [m30_l2, hi', hx, g1, h71, endR, htr, q1, Blk.cells]
        · obtain ⟨ex, r, j, g3, g4⟩ := ih (i + 1) (by omega) hi
          refine ⟨ex, r, j, ?_, by simpa [blkS] using g4⟩
          rw [ht] at h71
          simp only [Int.natCast_add, Int.cast_ofNat_Int] at g3
          rw [← g3]
          simp only [Blk.cells, Term.cells] at h71 htr hx g1 ⊢
          simp -implicitDefEqProofs [m30_l2, hi', hx, g1, h71, endR, htr, q1, w1, Blk.cells]
    · have hi' : ¬ (i : Int) < p.blocks.length := by omega
      have htr := OQ_trunc0 (X := ck p e) (A := A) (B := B) hB ck_ok
      rw [List.drop_eq_nil_of_le (by omega)]
      refine ⟨.exit 2, 0, i, ?_, .inr ⟨rfl, rfl, rfl⟩⟩
      simp -implicitDefEqProofs [m30_l2, hi', endR, htr, q1]
end
end Go.Proofs.YtkeoalhglkfbkaaDoor

/-
  'Check' answers what the plain function says. No conditions.
-/
namespace Go.Proofs.YtkeoalhglkfbkaaDoor
open Go Hk

theorem opsS_mem {l : List Blk} {b : Blk} (h : b ∈ l) : (b.ops.length : Int) ≤ opsS l := by
  induction l with
  | nil => cases h
  | cons x r ih =>
    have := opsS_nn r
    rcases List.mem_cons.1 h with rfl | h
    · simp only [opsS]; omega
    · have := ih h; simp only [opsS]; omega

structure Lim0 (p : IR) : Prop where
  t1 : p.temps ≤ 1048576
  a1 : (p.arrays.length : Int) ≤ 1048576
  b1 : (p.blocks.length : Int) ≤ 1048576
  o1 : opsS p.blocks ≤ 1048576
  r1 : max p.out 0 + railsS p.arrays ≤ 65536
theorem limited_iff {p : IR} : limitedS p = true ↔ Lim0 p := by
  simp only [limitedS, Bool.and_eq_true, decide_eq_true_eq]
  exact ⟨fun ⟨⟨⟨⟨a, b⟩, c⟩, d⟩, e⟩ => ⟨a, b, c, d, e⟩, fun h => ⟨⟨⟨⟨h.t1, h.a1⟩, h.b1⟩, h.o1⟩, h.r1⟩⟩

set_option maxHeartbeats 1000000 in
theorem c30 (p : IR) (h : Heap) : KK 30 [.agg p.cells] h = some (.ret (.int .i64 (checkS p)), h) := by
  refine callP_pure rfl rfl (evW_by (m30_eq _ _ _) ?_)
  have h67 := c67 p
  unfold checkS
  cases hl : limitedS p
  · rw [hl] at h67
    simp only [IR.cells] at h67 ⊢
    simp [m30, h67, finR_zero]
  rw [hl] at h67
  obtain ⟨l1, l2, l3, l4, l5⟩ := limited_iff.1 hl
  cases c1 : between p.inn 0 65536
  · simp only [IR.cells] at h67 ⊢
    simp [m30, h67, c68, c1, finR_zero]
  cases c2 : between p.out 0 65536
  · simp only [IR.cells] at h67 ⊢
    simp [m30, h67, c68, c1, c2, finR_zero]
  by_cases c3 : p.inn.tmod 4 = 0
  case neg =>
    simp only [IR.cells] at h67 ⊢
    simp [m30, h67, c68, c1, c2, c3, abin_rem, finR_zero]
  by_cases c4 : p.out.tmod 4 = 0
  case neg =>
    simp only [IR.cells] at h67 ⊢
    simp [m30, h67, c68, c1, c2, c3, c4, abin_rem, finR_zero]
  by_cases c5 : 0 ≤ p.temps
  case neg =>
    have c5' : p.temps < 0 := by omega
    simp only [IR.cells] at h67 ⊢
    simp [m30, h67, c68, c1, c2, c3, c4, c5, c5', abin_rem, finR_zero]
  by_cases c6 : p.blocks = []
  · have c5' : ¬ p.temps < 0 := by omega
    simp only [IR.cells] at h67 ⊢
    rw [c6] at h67
    simp only [List.map_nil] at h67
    simp [m30, h67, c68, c1, c2, c3, c4, c5, c5', c6, abin_rem, finR_zero]
  have c5' : ¬ p.temps < 0 := by omega
  have c6' : ¬ (p.blocks.length : Int) = 0 := by
    have : p.blocks.length ≠ 0 := fun e => c6 (List.eq_nil_of_length_eq_zero e)
    omega
  have hp : Lim p := by
    simp only [between, Bool.and_eq_true, decide_eq_true_eq] at c1 c2
    exact ⟨c5, l1, l2, l3, c1.1, c1.2, c2.1, c2.2⟩
  have hB : KB [ABlk.cells p.cells] [] := ⟨fun n hn => by simp [IR.cells], fun n hn => by simp⟩
  have hq : 0 < [ABlk.cells p.cells].length := by simp
  obtain ⟨ex, r, e', j, g1, g2⟩ := m30_loop0 hp hq hB (p.arrays.length + 1) 0 0 (by omega) (Nat.zero_le _) (by omega)
  obtain ⟨ex2, r2, j2, g3, g4⟩ := m30_loop2 hp hq hB e' (fun b hb => by have := opsS_mem hb; omega) (p.blocks.length + 1) 0 (by omega) (Nat.zero_le _)
  simp only [List.drop_zero, Int.cast_ofNat_Int, OQ, HN, List.length_cons, List.length_nil, List.cons_append, List.nil_append, ck, IR.cells, Nat.zero_add, Nat.add_zero, Nat.reduceAdd] at g1 g2 g3 g4
  rcases g2 with ⟨rfl, rfl, g2⟩ | ⟨rfl, rfl, g2⟩
  · simp only [IR.cells] at h67 ⊢
    simp [m30, h67, c68, c1, c2, c3, c4, c5, c5', c6, c6', abin_rem, finR_zero, g1, g2]
  · rcases g4 with ⟨rfl, rfl, g4⟩ | ⟨rfl, rfl, g4⟩
    · simp only [IR.cells] at h67 ⊢
      simp [m30, h67, c68, c1, c2, c3, c4, c5, c5', c6, c6', abin_rem, finR_zero, g1, g2, g3, g4]
    · simp only [IR.cells] at h67 ⊢
      simp [m30, h67, c68, c1, c2, c3, c4, c5, c5', c6, c6', abin_rem, finR_zero, g1, g2, g3, g4]
end Go.Proofs.YtkeoalhglkfbkaaDoor

/-
  The document's functions on operations and arrays: letters, fields, room. No conditions.
-/
namespace Go.Proofs.YtkeoalhglkfbkaaDoor
open Go Hk

def lettersT : List (List UInt8) := [[], [100,110], [100,97], [100,97,98], [100,97,98], [100,97,98], [100,97,98], [100,97,98], [100,97,98], [100,97,98], [100,97], [100,97,115], [100,97,115], [100,97,115], [100,97,98], [100,97,98], [100,97,98], [100,97,98,99], [100,97,114], [97,98,114]]
def lettersS (k : Int) : List UInt8 := if 1 ≤ k ∧ k ≤ 19 then lettersT.getD k.toNat [] else []
theorem kinds19 {k : Int} (h : 1 ≤ k ∧ k ≤ 19) : k = 1 ∨ k = 2 ∨ k = 3 ∨ k = 4 ∨ k = 5 ∨ k = 6 ∨ k = 7 ∨ k = 8 ∨ k = 9 ∨ k = 10 ∨ k = 11 ∨ k = 12 ∨ k = 13 ∨ k = 14 ∨ k = 15 ∨ k = 16 ∨ k = 17 ∨ k = 18 ∨ k = 19 := by omega
theorem c163 (k : Int) (h : Heap) : KK 163 [.int .i64 k] h = some (.ret (.str (lettersS k)), h) := by
  refine callP_pure rfl rfl (evW_by (m163_eq _ _ _) ?_)
  by_cases hk : 1 ≤ k ∧ k ≤ 19
  · rcases kinds19 hk with rfl | rfl | rfl | rfl | rfl | rfl | rfl | rfl | rfl | rfl | rfl | rfl | rfl | rfl | rfl | rfl | rfl | rfl | rfl <;> kernel_rfl
  · have e : lettersS k = [] := if_neg hk
    rw [e]
    by_cases h1 : k < 1
    · simp [m163, h1, finR_zero]
    · have h2 : 19 < k := by omega
      simp [m163, h1, h2, finR_zero]

theorem m164_loop (s : List UInt8) (hs : s.length ≤ 1000) (c : UInt8) : ∀ (n i : Nat), s.length < i + n → i ≤ s.length →
    ∃ (ex : Ex) (r : Bool) (j : Int), lpW (m164_l0 KK 0) ([.str s, .int .u8 (c.toNat : Int), .bool false, .int .i64 (i : Int)], []) = some (ex, [.str s, .int .u8 (c.toNat : Int), .bool r, .int .i64 j], []) ∧
      ((ex = .ret ∧ r = true ∧ c ∈ s.drop i) ∨ (ex = .exit 0 ∧ ¬ c ∈ s.drop i)) := by
  intro n
  induction n with
  | zero => intro i a1 a2; omega
  | succ n ih =>
    intro i a1 a2
    rw [lpW_step]
    by_cases hi : i < s.length
    · have hi' : (i : Int) < s.length := by omega
      have hx : s[i]? = some s[i] := List.getElem?_eq_getElem hi
      have w1 := wrapS (a := i) (by omega)
      rw [List.drop_eq_getElem_cons hi]
      generalize s[i] = y at *
      by_cases hc : y = c
      · subst hc
        refine ⟨.ret, true, i, ?_, .inl ⟨rfl, rfl, by simp⟩⟩
        simp [m164_l0, hi', hx, endR_zero]
      · have hc' : ¬ (y.toNat : Int) = c.toNat := fun e => hc (UInt8.toNat_inj.1 (by omega))
        obtain ⟨ex, r, j, g1, g2⟩ := ih (i + 1) (by omega) hi
        refine ⟨ex, r, j, ?_, ?_⟩
        · simp only [Int.natCast_add, Int.cast_ofNat_Int] at g1
          rw [← g1]
          simp [m164_l0, hi', hx, endR_zero, hc', w1]
        · have : ∀ l : List UInt8, c ∈ y :: l ↔ c ∈ l := fun l => by
            rw [List.mem_cons]; exact ⟨fun h => h.elim (fun e => absurd e.symm hc) id, .inr⟩
          simpa only [this] using g2
    · have hi' : ¬ (i : Int) < s.length := by omega
      rw [List.drop_eq_nil_of_le (by omega)]
      refine ⟨.exit 0, false, i, ?_, .inr ⟨rfl, by simp⟩⟩
      simp [m164_l0, hi', endR_zero]
theorem c164 (s : List UInt8) (hs : s.length ≤ 1000) (c : UInt8) (h : Heap) : KK 164 [.str s, .int .u8 (c.toNat : Int)] h = some (.ret (.bool (decide (c ∈ s))), h) := by
  refine callP_pure rfl rfl (evW_by (m164_eq _ _ _ _) ?_)
  obtain ⟨ex, r, j, g1, g2⟩ := m164_loop s hs c (s.length + 1) 0 (by omega) (Nat.zero_le _)
  simp only [List.drop_zero, Int.cast_ofNat_Int] at g1 g2
  rcases g2 with ⟨rfl, rfl, g2⟩ | ⟨rfl, g2⟩
  · simp [m164, g1, g2, finR_zero]
  · simp [m164, g1, g2, finR_zero]
theorem letters_len (k : Int) : (lettersS k).length ≤ 1000 := by
  unfold lettersS
  split
  · rename_i h
    rcases kinds19 h with rfl | rfl | rfl | rfl | rfl | rfl | rfl | rfl | rfl | rfl | rfl | rfl | rfl | rfl | rfl | rfl | rfl | rfl | rfl <;> decide
  · decide

/-- What the letters say. -/
theorem letters_form (k : Int) : decide ((100 : UInt8) ∈ lettersS k) = (formS k).dst ∧ decide ((97 : UInt8) ∈ lettersS k) = decide (1 ≤ (formS k).src) ∧ decide ((98 : UInt8) ∈ lettersS k) = decide (2 ≤ (formS k).src) ∧
    decide ((99 : UInt8) ∈ lettersS k) = decide (3 ≤ (formS k).src) ∧ decide (lettersS k = []) = !(formS k).ok ∧ decide ((110 : UInt8) ∈ lettersS k) = decide (k = 1) ∧ decide ((115 : UInt8) ∈ lettersS k) = decide (11 ≤ k ∧ k ≤ 13) ∧ decide ((114 : UInt8) ∈ lettersS k) = decide (k = 18 ∨ k = 19) := by
  by_cases h : 1 ≤ k ∧ k ≤ 19
  · rcases kinds19 h with rfl | rfl | rfl | rfl | rfl | rfl | rfl | rfl | rfl | rfl | rfl | rfl | rfl | rfl | rfl | rfl | rfl | rfl | rfl <;> decide
  · have e : lettersS k = [] := if_neg h
    have e2 : formS k = ⟨false, 0, 0, false⟩ := by
      unfold formS
      rw [if_neg (by omega), if_neg (by omega), if_neg (by omega), if_neg (by omega), if_neg (by omega), if_neg (by omega), if_neg (by omega)]
    rw [e, e2]
    have h1 : ¬ k = 1 := by omega
    have h2 : ¬ (11 ≤ k ∧ k ≤ 13) := by omega
    have h3 : ¬ (k = 18 ∨ k = 19) := by omega
    simp [h1, h2, h3]
theorem c164k (k : Int) (c : UInt8) (z : Int) (hz : z = (c.toNat : Int)) (h : Heap) : KK 164 [.str (lettersS k), .int .u8 z] h = some (.ret (.bool (decide (c ∈ lettersS k))), h) := by
  subst hz; exact c164 _ (letters_len k) c h
section
variable (k : Int) (h : Heap)
theorem hasD : KK 164 [.str (lettersS k), .int .u8 100] h = some (.ret (.bool (formS k).dst), h) := by have g := c164k k 100 100 rfl h; rwa [(letters_form k).1] at g
theorem hasA : KK 164 [.str (lettersS k), .int .u8 97] h = some (.ret (.bool (decide (1 ≤ (formS k).src))), h) := by have g := c164k k 97 97 rfl h; rwa [(letters_form k).2.1] at g
theorem hasB : KK 164 [.str (lettersS k), .int .u8 98] h = some (.ret (.bool (decide (2 ≤ (formS k).src))), h) := by have g := c164k k 98 98 rfl h; rwa [(letters_form k).2.2.1] at g
theorem hasC : KK 164 [.str (lettersS k), .int .u8 99] h = some (.ret (.bool (decide (3 ≤ (formS k).src))), h) := by have g := c164k k 99 99 rfl h; rwa [(letters_form k).2.2.2.1] at g
theorem hasN : KK 164 [.str (lettersS k), .int .u8 110] h = some (.ret (.bool (decide (k = 1))), h) := by have g := c164k k 110 110 rfl h; rwa [(letters_form k).2.2.2.2.2.1] at g
theorem hasS : KK 164 [.str (lettersS k), .int .u8 115] h = some (.ret (.bool (decide (11 ≤ k ∧ k ≤ 13))), h) := by have g := c164k k 115 115 rfl h; rwa [(letters_form k).2.2.2.2.2.2.1] at g
theorem hasR : KK 164 [.str (lettersS k), .int .u8 114] h = some (.ret (.bool (decide (k = 18 ∨ k = 19))), h) := by have g := c164k k 114 114 rfl h; rwa [(letters_form k).2.2.2.2.2.2.2] at g
end

/-- A field: a temp, if it is there, else 0. -/
def fieldS (p : IR) (there : Bool) (t : Int) : Bool := if there then decide (0 ≤ t) && decide (t < p.temps) else decide (t = 0)
theorem c176 (p : IR) (there : Bool) (t : Int) (h : Heap) : KK 176 [.agg p.cells, .bool there, .int .i64 t] h = some (.ret (.bool (fieldS p there t)), h) := by
  refine callP_pure rfl rfl (evW_by (m176_eq _ _ _ _ _) ?_)
  cases there
  · simp [m176, IR.cells, fieldS, finR_zero]
  · by_cases h1 : 0 ≤ t <;> by_cases h2 : t < p.temps <;> simp [m176, IR.cells, fieldS, finR_zero, h1, h2]

/-- An array's room. -/
def roomS (x : Arr) : Int := if shapedS x = true then upS (x.elem * x.len) else 0
theorem m175_loop (z : Int) (mm : Nat) (hp : Heap) (ht : trunc mm hp = some hp) : ∀ (n : Nat) (v : Int), 0 ≤ v → v ≤ 100000 → v.toNat % 4 + n = 4 ∨ (n = 0 ∧ v.toNat % 4 = 0) → lpW (m175_l0 KK mm) ([.int .i64 z, .int .i64 v], hp) = some (.exit 0, [.int .i64 z, .int .i64 (upS v)], hp) := by
  have fin : ∀ v : Int, 0 ≤ v → v.toNat % 4 = 0 → lpW (m175_l0 KK mm) ([.int .i64 z, .int .i64 v], hp) = some (.exit 0, [.int .i64 z, .int .i64 (upS v)], hp) := by
    intro v h0 h1
    rw [lpW_step]
    have hm : v.tmod 4 = 0 := by rw [Int.tmod_eq_emod_of_nonneg h0]; omega
    have hu : upS v = v := by unfold upS; omega
    simp [m175_l0, endR, ht, abin_rem, hm, hu]
  intro n
  induction n with
  | zero => intro v h0 h1 h2; exact fin v h0 (by omega)
  | succ n ih =>
    intro v h0 h1 h2
    by_cases h3 : v.toNat % 4 = 0
    · exact fin v h0 h3
    · rw [lpW_step]
      have hm : ¬ v.tmod 4 = 0 := by rw [Int.tmod_eq_emod_of_nonneg h0]; omega
      have w1 : IntKind.i64.wrap (v + 1) = v + 1 := by rw [wrap64] <;> omega
      have hu : upS (v + 1) = upS v := by unfold upS; omega
      have g := fin
      by_cases h4 : (v + 1).toNat % 4 = 0
      · have g := fin (v + 1) (by omega) h4
        rw [hu] at g
        rw [← g]
        simp [m175_l0, endR, ht, abin_rem, hm, w1]
      · have hle : v + 1 ≤ 100000 := by omega
        have g := ih (v + 1) (by omega) hle (by omega)
        rw [hu] at g
        rw [← g]
        simp [m175_l0, endR, ht, abin_rem, hm, w1]
theorem c175 (x : Arr) (h : Heap) : KK 175 [.agg x.cells] h = some (.ret (.int .i64 (roomS x)), h) := by
  refine callP_pure rfl rfl (evW_by (m175_eq _ _ _) ?_)
  cases hs : shapedS x
  · have e : roomS x = 0 := by simp [roomS, hs]
    rw [e]
    by_cases h1 : x.elem = 1 ∨ x.elem = 4
    · have h2 : x.len < 1 ∨ 16384 < x.len := by
        simp only [shapedS, Bool.and_eq_false_iff, Bool.or_eq_false_iff, decide_eq_false_iff_not] at hs
        omega
      by_cases h3 : x.len < 1
      · rcases h1 with h1 | h1 <;> simp [m175, Arr.cells, h1, h3, finR_zero]
      · have h4 : 16384 < x.len := by omega
        rcases h1 with h1 | h1 <;> simp [m175, Arr.cells, h1, h3, h4, finR_zero]
    · have h2 : ¬ x.elem = 1 := by omega
      have h3 : ¬ x.elem = 4 := by omega
      simp [m175, Arr.cells, h2, h3, finR_zero]
  · have hm := shaped_mul hs
    have e : roomS x = upS (x.elem * x.len) := by simp [roomS, hs]
    rw [e]
    have w1 : IntKind.i64.wrap (x.elem * x.len) = x.elem * x.len := by rw [wrap64] <;> omega
    have g := m175_loop 0 1 [.cells x.cells] (by simp [trunc, Arr.cells]) (4 - (x.elem * x.len).toNat % 4) (x.elem * x.len) (by omega) (by omega) (by omega)
    simp only [shapedS, Bool.and_eq_true, Bool.or_eq_true, decide_eq_true_eq] at hs
    obtain ⟨h1, h2, h3⟩ := hs
    have h4 : ¬ x.len < 1 := by omega
    have h5 : ¬ 16384 < x.len := by omega
    simp only [Arr.cells] at g
    rcases h1 with h1 | h1 <;> rw [h1] at g w1 ⊢ <;> (try simp only [Int.one_mul] at g w1 ⊢) <;> simp [m175, Arr.cells, h1, h4, h5, finR_zero, w1, g]
end Go.Proofs.YtkeoalhglkfbkaaDoor

/-
  The document's 'op' and 'term'. No conditions.
-/
namespace Go.Proofs.YtkeoalhglkfbkaaDoor
open Go Hk

def immR (p : IR) (o : Op) : Bool :=
  if o.kind = 1 then decide (o.imm ≤ 4294967295) else if 11 ≤ o.kind ∧ o.kind ≤ 13 then decide (o.imm < 32)
  else if o.kind = 18 ∨ o.kind = 19 then decide (o.imm < (p.arrays.length : Int)) && (decide (o.kind = 18) || !decide (arrK p o.imm = 1)) else decide (o.imm = 0)
def opR (p : IR) (o : Op) : Bool :=
  (formS o.kind).ok && (fieldS p (formS o.kind).dst o.dst && (fieldS p (decide (1 ≤ (formS o.kind).src)) o.a && (fieldS p (decide (2 ≤ (formS o.kind).src)) o.b && (fieldS p (decide (3 ≤ (formS o.kind).src)) o.c && (decide (0 ≤ o.imm) && immR p o)))))

theorem form_bad {k : Int} (h : ¬ (1 ≤ k ∧ k ≤ 19)) : formS k = ⟨false, 0, 0, false⟩ := by
  unfold formS
  rw [if_neg (by omega), if_neg (by omega), if_neg (by omega), if_neg (by omega), if_neg (by omega), if_neg (by omega), if_neg (by omega)]

set_option maxHeartbeats 4000000 in
theorem opR_eq {p : IR} (ha : (p.arrays.length : Int) ≤ 1048576) (o : Op) : opR p o = opS p o := by
  obtain ⟨k, d, a, b, c, i⟩ := o
  by_cases hk : 1 ≤ k ∧ k ≤ 19
  · rw [Bool.eq_iff_iff]
    rcases kinds19 hk with rfl | rfl | rfl | rfl | rfl | rfl | rfl | rfl | rfl | rfl | rfl | rfl | rfl | rfl | rfl | rfl | rfl | rfl | rfl <;>
      (simp [opR, opS, formS, fieldS, immR, memS, usesS, between]; try omega)
  · simp [opR, opS, form_bad hk]

theorem c101 (o : Op) (h : Heap) : KK 101 [.agg o.cells] h = some (.ret (.bool (formS o.kind).dst), h) := by
  refine callP_pure rfl rfl (evW_by (m101_eq _ _ _) ?_)
  simp [m101, Op.cells, c163, hasD, finR_zero]

set_option maxHeartbeats 4000000 in
theorem c128 {p : IR} (ha : (p.arrays.length : Int) ≤ 1048576) (o : Op) (h : Heap) : KK 128 [.agg p.cells, .agg o.cells] h = some (.ret (.bool (opS p o)), h) := by
  rw [← opR_eq ha]
  refine callP_pure rfl rfl (evW_by (m128_eq _ _ _ _) ?_)
  have hl := (letters_form o.kind).2.2.2.2.1
  have f := fun b t => c176 p b t
  obtain ⟨k, d, a, b, c, i⟩ := o
  unfold opR
  simp only [Op.cells, IR.cells] at f hl ⊢
  cases ho : (formS k).ok
  · rw [ho] at hl
    have hl : lettersS k = [] := by simpa using hl
    have g := c163 k
    rw [hl] at g
    simp [m128, g, finR_zero]
  rw [ho] at hl
  have hl : ¬ lettersS k = [] := by simpa using hl
  cases h1 : fieldS p (formS k).dst d
  · simp [m128, c163, hasD, hl, f, h1, finR_zero]
  cases h2 : fieldS p (decide (1 ≤ (formS k).src)) a
  · simp [m128, c163, hasD, hasA, hl, f, h1, h2, finR_zero]
  cases h3 : fieldS p (decide (2 ≤ (formS k).src)) b
  · simp [m128, c163, hasD, hasA, hasB, hl, f, h1, h2, h3, finR_zero]
  cases h4 : fieldS p (decide (3 ≤ (formS k).src)) c
  · simp [m128, c163, hasD, hasA, hasB, hasC, hl, f, h1, h2, h3, h4, finR_zero]
  by_cases h5 : 0 ≤ i
  case neg =>
    have h5' : i < 0 := by omega
    simp [m128, c163, hasD, hasA, hasB, hasC, hl, f, h1, h2, h3, h4, h5, h5', finR_zero]
  have h5' : ¬ i < 0 := by omega
  obtain ⟨n, rfl⟩ := Int.eq_ofNat_of_zero_le h5
  by_cases k1 : k = 1
  · subst k1
    simp [m128, c163, hasD, hasA, hasB, hasC, hasN, hl, f, h1, h2, h3, h4, h5', finR_zero, immR]
  by_cases k2 : 11 ≤ k ∧ k ≤ 13
  · simp [m128, c163, hasD, hasA, hasB, hasC, hasN, hasS, hl, f, h1, h2, h3, h4, h5', finR_zero, immR, k1, k2]
  by_cases k3 : k = 18 ∨ k = 19
  · by_cases hn : n < p.arrays.length
    · have hx : p.arrays[n]? = some p.arrays[n] := List.getElem?_eq_getElem hn
      have hn' : (n : Int) < p.arrays.length := by omega
      rcases k3 with rfl | rfl <;>
      simp [m128, c163, hasD, hasA, hasB, hasC, hasN, hasS, hasR, hl, f, h1, h2, h3, h4, h5', finR_zero, immR, hn, hn', hx, Arr.cells, arrK]
    · have hn' : ¬ (n : Int) < p.arrays.length := by omega
      rcases k3 with rfl | rfl <;>
      simp [m128, c163, hasD, hasA, hasB, hasC, hasN, hasS, hasR, hl, f, h1, h2, h3, h4, h5', finR_zero, immR, hn, hn', arrK]
  · have k3' : ¬ k = 18 ∧ ¬ k = 19 := by omega
    have hr := hasR k
    have hs := hasS k
    rw [show decide (k = 18 ∨ k = 19) = false by simp [k3']] at hr
    rw [show decide (11 ≤ k ∧ k ≤ 13) = false by simpa using fun h => by omega] at hs
    simp [m128, c163, hasD, hasA, hasB, hasC, hasN, hs, hr, hl, f, h1, h2, h3, h4, h5', finR_zero, immR, k1, k2, k3, k3']
end Go.Proofs.YtkeoalhglkfbkaaDoor

/-
  The document's 'term', 'arrays' and 'great'. No conditions.
-/
namespace Go.Proofs.YtkeoalhglkfbkaaDoor
open Go Hk

set_option maxHeartbeats 1000000 in
theorem c129 {p : IR} (t : Term) (h : Heap) : KK 129 [.agg p.cells, .agg t.cells] h = some (.ret (.bool (termS (p := p) t)), h) := by
  refine callP_pure rfl rfl (evW_by (m129_eq _ _ _ _) ?_)
  obtain ⟨k, a, y, n⟩ := t
  unfold termS between
  have e1 : ∀ z : Int, decide (z ≤ (p.blocks.length : Int) - 1) = decide (z < (p.blocks.length : Int)) := fun z => by congr 1; exact propext ⟨by omega, by omega⟩
  have e2 : ∀ z : Int, decide (z ≤ p.temps - 1) = decide (z < p.temps) := fun z => by congr 1; exact propext ⟨by omega, by omega⟩
  simp only [Term.cells, IR.cells, e1, e2]
  by_cases k1 : k = 1
  · subst k1
    by_cases ha : a = 0 <;> by_cases hn : n = 0 <;> by_cases h1 : -1 ≤ y <;> by_cases h2 : y < (p.blocks.length : Int) <;> simp [m129, ha, hn, h1, h2, finR_zero]
  by_cases k2 : k = 2
  · subst k2
    by_cases ha : 0 ≤ a
    case neg => simp [m129, ha, finR_zero]
    by_cases ha2 : a < p.temps
    case neg => simp [m129, ha, ha2, finR_zero]
    by_cases hy : -1 ≤ y
    case neg => simp [m129, ha, ha2, hy, finR_zero]
    by_cases hy2 : y < (p.blocks.length : Int)
    case neg => simp [m129, ha, ha2, hy, hy2, finR_zero]
    by_cases hn : -1 ≤ n <;> by_cases hn2 : n < (p.blocks.length : Int) <;> simp [m129, ha, ha2, hy, hy2, hn, hn2, finR_zero]
  · by_cases k3 : k = 3
    · subst k3
      by_cases ha : a = 0 <;> by_cases hy : y = 0 <;> by_cases hn : n = 0 <;> simp [m129, ha, hy, hn, finR_zero]
    · simp [m129, k1, k2, k3, finR_zero]

theorem room_eq {x : Arr} (h : shapedS x = true) : roomS x = upS (x.elem * x.len) ∧ 1 ≤ roomS x ∧ roomS x ≤ 65536 := by
  have hm := shaped_mul h
  have e : roomS x = upS (x.elem * x.len) := by simp [roomS, h]
  rw [e]; unfold upS; omega
/-- One array, as the document looks at it. -/
def arrR (inn out e : Int) (x : Arr) : Bool × Int :=
  if roomS x = 0 ∨ x.off < 0 ∨ ¬ x.off.tmod 4 = 0 ∨ 65536 < x.off then (false, e)
  else if x.kind = 0 ∧ x.off = 0 then (true, e)
  else if x.kind = 1 ∧ x.off + x.elem * x.len ≤ inn then (true, e)
  else if x.kind = 2 ∧ x.off + x.elem * x.len ≤ out ∧ e ≤ x.off then (true, x.off + roomS x)
  else (false, e)
theorem arrR_eq {inn out e : Int} (hi : inn ≤ 65536) (ho : out ≤ 65536) (he : 0 ≤ e) (x : Arr) : (arrR inn out e x).1 = (arrS inn out e x).1 ∧ ((arrS inn out e x).1 = true → (arrR inn out e x).2 = (arrS inn out e x).2) := by
  cases hs : shapedS x
  · have : roomS x = 0 := by simp [roomS, hs]
    simp [arrR, arrS, hs, this]
  · obtain ⟨r1, r2, r3⟩ := room_eq hs
    have hm := shaped_mul hs
    have hr0 : ¬ roomS x = 0 := by omega
    by_cases h1 : x.off < 0 ∨ ¬ x.off.tmod 4 = 0 ∨ 65536 < x.off
    · have e1 : arrR inn out e x = (false, e) := by unfold arrR; rw [if_pos (.inr h1)]
      rw [e1]
      have e2 : (arrS inn out e x).1 = false := by
        unfold arrS between
        rw [if_pos hs]
        split
        · simp only [decide_eq_false_iff_not]
          rintro h0; rw [h0] at h1; simp at h1
        · split
          · simp only [Bool.and_eq_false_iff, decide_eq_false_iff_not]; omega
          · split
            · split
              · rename_i h2
                simp only [Bool.and_eq_true, decide_eq_true_eq] at h2; omega
              · rfl
            · rfl
      rw [e2]; simp
    · have h2 : ¬ (roomS x = 0 ∨ x.off < 0 ∨ ¬ x.off.tmod 4 = 0 ∨ 65536 < x.off) := by omega
      have t4 : x.off.tmod 4 = 0 := by omega
      have hu : upS (x.off + x.elem * x.len) = x.off + roomS x := by
        rw [r1]; unfold upS
        have : x.off % 4 = 0 := by rw [← Int.tmod_eq_emod_of_nonneg (by omega)]; exact t4
        omega
      unfold arrR arrS between
      rw [if_neg h2, if_pos hs]
      by_cases k0 : x.kind = 0
      · by_cases h3 : x.off = 0 <;> simp [k0, h3]
      by_cases k1 : x.kind = 1
      · by_cases h3 : x.off + x.elem * x.len ≤ inn
        · have h4 : x.off ≤ inn - x.elem * x.len := by omega
          have h5 : 0 ≤ x.off := by omega
          simp [k1, h3, h4, h5, t4]
        · have h4 : ¬ x.off ≤ inn - x.elem * x.len := by omega
          simp [k1, h3, h4]
      by_cases k2 : x.kind = 2
      · by_cases h3 : x.off + x.elem * x.len ≤ out
        · have h4 : x.off ≤ out - x.elem * x.len := by omega
          by_cases h5 : e ≤ x.off
          · simp [k2, h3, h4, h5, t4, hu]
          · simp [k2, h3, h4, h5]
        · have h4 : ¬ x.off ≤ out - x.elem * x.len := by omega
          simp [k2, h3, h4]
      · simp [k0, k1, k2]

section
variable {p : IR} (hp : Lim p)
include hp
set_option maxHeartbeats 4000000 in
theorem m127_loop : ∀ (n i : Nat) (e : Int), p.arrays.length < i + n → i ≤ p.arrays.length → 0 ≤ e → e ≤ 200000 →
    ∃ (ex : Ex) (r : Bool) (e' j : Int), lpW (m127_l0 KK 1) ([.ptr 0 0, .bool false, .int .i64 e, .int .i64 (i : Int)], [.cells p.cells]) = some (ex, [.ptr 0 0, .bool r, .int .i64 e', .int .i64 j], [.cells p.cells]) ∧
      ((ex = .ret ∧ r = false ∧ arrsS p.inn p.out e (p.arrays.drop i) = false) ∨ (ex = .exit 0 ∧ arrsS p.inn p.out e (p.arrays.drop i) = true)) := by
  have ha1 := hp.a1
  have htr : ∀ C, trunc 1 (.cells p.cells :: C) = some [.cells p.cells] := fun C => by simp [trunc, IR.cells]
  intro n
  induction n with
  | zero => intro i e a1 a2; omega
  | succ n ih =>
    intro i e a1 a2 he he2
    rw [lpW_step]
    by_cases hi : i < p.arrays.length
    · have hi' : (i : Int) < p.arrays.length := by omega
      have hx : p.arrays[i]? = some p.arrays[i] := List.getElem?_eq_getElem hi
      have w1 := wrapS (a := i) (by omega)
      rw [List.drop_eq_getElem_cons hi]
      generalize p.arrays[i] = y at *
      have g175 := c175 y
      obtain ⟨eq1, eq2⟩ := arrR_eq hp.i1 hp.o1 he y
      have i1 := hp.i1
      have o1 := hp.o1
      simp only [arrsS]
      rw [← eq1] at eq2 ⊢
      cases hs : (arrR p.inn p.out e y).1
      · refine ⟨.ret, false, e, i, ?_, .inl ⟨rfl, rfl, rfl⟩⟩
        unfold arrR at hs
        by_cases c1 : roomS y = 0
        · simp only [Arr.cells, IR.cells] at g175 htr hx ⊢
          simp [m127_l0, hi', hx, Arr.cells, g175, c1, endR, htr, san1_ptr]
        by_cases c2 : y.off < 0
        · simp only [Arr.cells, IR.cells] at g175 htr hx ⊢
          simp [m127_l0, hi', hx, Arr.cells, g175, c1, c2, endR, htr, san1_ptr]
        by_cases c3 : y.off.tmod 4 = 0
        case neg =>
          simp only [Arr.cells, IR.cells] at g175 htr hx ⊢
          simp [m127_l0, hi', hx, Arr.cells, g175, c1, c2, c3, abin_rem, endR, htr, san1_ptr]
        by_cases c4 : 65536 < y.off
        · simp only [Arr.cells, IR.cells] at g175 htr hx ⊢
          simp [m127_l0, hi', hx, Arr.cells, g175, c1, c2, c3, c4, abin_rem, endR, htr, san1_ptr]
        rw [if_neg (by omega)] at hs
        have hsh : shapedS y = true := by
          cases h : shapedS y
          · exact absurd (by simp [roomS, h]) c1
          · rfl
        have hm := shaped_mul hsh
        have w2 : IntKind.i64.wrap (y.elem * y.len) = y.elem * y.len := by rw [wrap64] <;> omega
        have w3 : IntKind.i64.wrap (y.off + y.elem * y.len) = y.off + y.elem * y.len := by rw [wrap64] <;> omega
        by_cases k0 : y.kind = 0
        · have c5 : ¬ y.off = 0 := fun h => by simp [k0, h] at hs
          simp only [Arr.cells, IR.cells] at g175 htr hx ⊢
          rw [k0] at g175
          simp [m127_l0, hi', hx, Arr.cells, g175, c1, c2, c3, c4, c5, k0, abin_rem, endR, htr, san1_ptr]
        by_cases k1 : y.kind = 1
        · have c5 : ¬ y.off + y.elem * y.len ≤ p.inn := fun h => by simp [k1, h] at hs
          simp only [Arr.cells, IR.cells] at g175 htr hx ⊢
          rw [k1] at g175
          simp [m127_l0, hi', hx, Arr.cells, g175, c1, c2, c3, c4, c5, k1, w2, w3, abin_rem, endR, htr, san1_ptr]
        by_cases k2 : y.kind = 2
        · by_cases c5 : y.off + y.elem * y.len ≤ p.out
          · have c6 : ¬ e ≤ y.off := fun h => by simp [k2, c5, h] at hs
            simp only [Arr.cells, IR.cells] at g175 htr hx ⊢
            rw [k2] at g175
            simp [m127_l0, hi', hx, Arr.cells, g175, c1, c2, c3, c4, c5, c6, k2, w2, w3, abin_rem, endR, htr, san1_ptr]
          · simp only [Arr.cells, IR.cells] at g175 htr hx ⊢
            rw [k2] at g175
            simp [m127_l0, hi', hx, Arr.cells, g175, c1, c2, c3, c4, c5, k2, w2, w3, abin_rem, endR, htr, san1_ptr]
        · simp only [Arr.cells, IR.cells] at g175 htr hx ⊢
          simp [m127_l0, hi', hx, Arr.cells, g175, c1, c2, c3, c4, k0, k1, k2, abin_rem, endR, htr, san1_ptr]
      · rw [eq1] at hs
        have eq2 := eq2 (by rw [eq1]; exact hs)
        simp only [Bool.true_and]
        rw [← eq1] at hs
        have hen : 0 ≤ (arrS p.inn p.out e y).2 := arrS_nn he
        rw [← eq2] at hen ⊢
        have hsh : ¬ roomS y = 0 ∧ ¬ y.off < 0 ∧ y.off.tmod 4 = 0 ∧ ¬ 65536 < y.off := by
          unfold arrR at hs
          split at hs
          · cases hs
          · omega
        obtain ⟨c1, c2, c3, c4⟩ := hsh
        have hsd : shapedS y = true := by
          cases h : shapedS y
          · exact absurd (by simp [roomS, h]) c1
          · rfl
        have hm := shaped_mul hsd
        obtain ⟨r1, r2, r3⟩ := room_eq hsd
        have w2 : IntKind.i64.wrap (y.elem * y.len) = y.elem * y.len := by rw [wrap64] <;> omega
        have w3 : IntKind.i64.wrap (y.off + y.elem * y.len) = y.off + y.elem * y.len := by rw [wrap64] <;> omega
        have w4 : IntKind.i64.wrap (y.off + roomS y) = y.off + roomS y := by rw [wrap64] <;> omega
        have hle : (arrR p.inn p.out e y).2 ≤ 200000 := by
          unfold arrR; (repeat' split) <;> simp only [] <;> omega
        obtain ⟨ex, r, e', j, g1, g2⟩ := ih (i + 1) (arrR p.inn p.out e y).2 (by omega) hi hen hle
        refine ⟨ex, r, e', j, ?_, g2⟩
        simp only [Int.natCast_add, Int.cast_ofNat_Int] at g1
        rw [← g1]
        unfold arrR at hs ⊢
        rw [if_neg (by omega)] at hs ⊢
        by_cases k0 : y.kind = 0
        · have c5 : y.off = 0 := by
            by_cases h : y.off = 0
            · exact h
            · simp [k0, h] at hs
          simp only [Arr.cells, IR.cells] at g175 htr hx ⊢
          rw [k0, c5] at g175
          rw [c5] at c3
          simp [m127_l0, hi', hx, Arr.cells, g175, c1, c5, k0, abin_rem, endR, htr, w1, san1_ptr]
        by_cases k1 : y.kind = 1
        · have c5 : y.off + y.elem * y.len ≤ p.inn := by
            by_cases h : y.off + y.elem * y.len ≤ p.inn
            · exact h
            · simp [k1, h] at hs
          simp only [Arr.cells, IR.cells] at g175 htr hx ⊢
          rw [k1] at g175
          simp [m127_l0, hi', hx, Arr.cells, g175, c1, c2, c3, c4, c5, k1, w1, w2, w3, abin_rem, endR, htr, san1_ptr]
        by_cases k2 : y.kind = 2
        · have c5 : y.off + y.elem * y.len ≤ p.out ∧ e ≤ y.off := by
            by_cases h : y.off + y.elem * y.len ≤ p.out ∧ e ≤ y.off
            · exact h
            · simp [k2, h] at hs
          simp only [Arr.cells, IR.cells] at g175 htr hx ⊢
          rw [k2] at g175
          simp [m127_l0, hi', hx, Arr.cells, g175, c1, c2, c3, c4, c5, k2, w1, w2, w3, w4, abin_rem, endR, htr, san1_ptr]
        · simp [k0, k1, k2] at hs
    · have hi' : ¬ (i : Int) < p.arrays.length := by omega
      rw [List.drop_eq_nil_of_le (by omega)]
      refine ⟨.exit 0, false, e, i, ?_, .inr ⟨rfl, rfl⟩⟩
      simp only [IR.cells] at htr ⊢
      simp [m127_l0, hi', endR, htr, san1_ptr]
theorem c127 (h : Heap) : KK 127 [.agg p.cells] h = some (.ret (.bool (arrsS p.inn p.out 0 p.arrays)), h) := by
  refine callP_pure rfl rfl (evW_by (m127_eq _ _ _) ?_)
  obtain ⟨ex, r, e', j, g1, g2⟩ := m127_loop hp (p.arrays.length + 1) 0 0 (by omega) (Nat.zero_le _) (by omega) (by omega)
  simp only [List.drop_zero, Int.cast_ofNat_Int, IR.cells] at g1 g2 ⊢
  rcases g2 with ⟨rfl, rfl, g2⟩ | ⟨rfl, g2⟩ <;> simp [m127, g1, g2, finR_zero]
end
end Go.Proofs.YtkeoalhglkfbkaaDoor

/-
  The document's 'great' and 'Check': the same plain function as the program's. No conditions.
-/
namespace Go.Proofs.YtkeoalhglkfbkaaDoor
open Go Hk

theorem rail_room (x : Arr) : railS x = if x.kind = 0 then roomS x else 0 := by
  unfold railS roomS
  by_cases h : x.kind = 0 <;> simp [h]

section
variable {p : IR} (ha : (p.arrays.length : Int) ≤ 1048576) (hb : (p.blocks.length : Int) ≤ 1048576)
include hb
theorem m126_loop0 (z : Int) : ∀ (n i : Nat) (acc : Int), p.blocks.length < i + n → i ≤ p.blocks.length → 0 ≤ acc → acc ≤ 3000000 →
    ∃ (acc' j : Int), lpW (m126_l0 KK 1) ([.ptr 0 0, .bool false, .int .i64 acc, .int .i64 z, .int .i64 (i : Int)], [.cells p.cells]) = some (.exit 0, [.ptr 0 0, .bool false, .int .i64 acc', .int .i64 z, .int .i64 j], [.cells p.cells]) ∧
      (1048576 < acc' ↔ 1048576 < acc + opsS (p.blocks.drop i)) := by
  have htr : ∀ C, trunc 1 (.cells p.cells :: C) = some [.cells p.cells] := fun C => by simp [trunc, IR.cells]
  intro n
  induction n with
  | zero => intro i acc a1 a2; omega
  | succ n ih =>
    intro i acc a1 a2 h0 h1
    rw [lpW_step]
    simp only [IR.cells] at htr ih ⊢
    by_cases hi : i < p.blocks.length
    · have hi' : (i : Int) < p.blocks.length := by omega
      have hx : p.blocks[i]? = some p.blocks[i] := List.getElem?_eq_getElem hi
      have w1 := wrapS (a := i) (by omega)
      rw [List.drop_eq_getElem_cons hi]
      generalize p.blocks[i] = y at *
      have hnn := opsS_nn (p.blocks.drop (i + 1))
      by_cases hg : acc ≤ 1048576
      · have w2 : IntKind.i64.wrap (acc + min (y.ops.length : Int) 1048577) = acc + min (y.ops.length : Int) 1048577 := by rw [wrap64] <;> omega
        obtain ⟨acc', j, g1, g2⟩ := ih (i + 1) (acc + min (y.ops.length : Int) 1048577) (by omega) hi (by omega) (by omega)
        refine ⟨acc', j, ?_, ?_⟩
        · simp only [Int.natCast_add, Int.cast_ofNat_Int] at g1
          rw [← g1]
          simp [m126_l0, hi', hx, Blk.cells, w1, w2, hg, endR, htr, san1_ptr]
        · rw [g2]; simp only [opsS]; omega
      · refine ⟨acc, i, ?_, by simp only [opsS]; omega⟩
        simp [m126_l0, hi', hg, endR, htr, san1_ptr]
    · have hi' : ¬ (i : Int) < p.blocks.length := by omega
      rw [List.drop_eq_nil_of_le (by omega)]
      refine ⟨acc, i, ?_, by simp only [opsS]; omega⟩
      simp [m126_l0, hi', endR, htr, san1_ptr]
omit hb
include ha
theorem m126_loop1 (z : Int) : ∀ (n i : Nat) (acc : Int), p.arrays.length < i + n → i ≤ p.arrays.length → 0 ≤ acc → acc ≤ 200000 →
    ∃ (acc' j : Int), lpW (m126_l1 KK 1) ([.ptr 0 0, .bool false, .int .i64 z, .int .i64 acc, .int .i64 (i : Int)], [.cells p.cells]) = some (.exit 2, [.ptr 0 0, .bool false, .int .i64 z, .int .i64 acc', .int .i64 j], [.cells p.cells]) ∧
      (65536 < acc' ↔ 65536 < acc + railsS (p.arrays.drop i)) := by
  have htr : ∀ C, trunc 1 (.cells p.cells :: C) = some [.cells p.cells] := fun C => by simp [trunc, IR.cells]
  intro n
  induction n with
  | zero => intro i acc a1 a2; omega
  | succ n ih =>
    intro i acc a1 a2 h0 h1
    rw [lpW_step]
    simp only [IR.cells] at htr ih ⊢
    by_cases hi : i < p.arrays.length
    · have hi' : (i : Int) < p.arrays.length := by omega
      have hx : p.arrays[i]? = some p.arrays[i] := List.getElem?_eq_getElem hi
      have w1 := wrapS (a := i) (by omega)
      rw [List.drop_eq_getElem_cons hi]
      generalize p.arrays[i] = y at *
      have hnn := railsS_nn (p.arrays.drop (i + 1))
      have hr := rail_le y
      have hrr := rail_room y
      have g175 := c175 y
      by_cases hg : acc ≤ 65536
      · obtain ⟨acc', j, g1, g2⟩ := ih (i + 1) (acc + railS y) (by omega) hi (by omega) (by omega)
        refine ⟨acc', j, ?_, ?_⟩
        · simp only [Int.natCast_add, Int.cast_ofNat_Int] at g1
          rw [← g1]
          simp only [Arr.cells] at g175
          by_cases hk : y.kind = 0
          · rw [if_pos hk] at hrr
            rw [hrr] at hr ⊢
            have w2 : IntKind.i64.wrap (acc + roomS y) = acc + roomS y := by rw [wrap64] <;> omega
            rw [hk] at g175
            simp [m126_l1, hi', hx, Arr.cells, w1, w2, hg, hk, g175, endR, htr, san1_ptr]
          · rw [if_neg hk] at hrr
            rw [hrr, Int.add_zero]
            simp [m126_l1, hi', hx, Arr.cells, w1, hg, hk, endR, htr, san1_ptr]
        · rw [g2]; simp only [railsS]; omega
      · refine ⟨acc, i, ?_, by simp only [railsS]; omega⟩
        simp [m126_l1, hi', hg, endR, htr, san1_ptr]
    · have hi' : ¬ (i : Int) < p.arrays.length := by omega
      rw [List.drop_eq_nil_of_le (by omega)]
      refine ⟨acc, i, ?_, by simp only [railsS]; omega⟩
      simp [m126_l1, hi', endR, htr, san1_ptr]
end
set_option maxHeartbeats 1000000 in
theorem c126 (p : IR) (h : Heap) : KK 126 [.agg p.cells] h = some (.ret (.bool (!limitedS p)), h) := by
  refine callP_pure rfl rfl (evW_by (m126_eq _ _ _) ?_)
  have key : ∀ b : Bool, (b = true ↔ ¬ Lim0 p) → b = !limitedS p := fun b hb => by
    have := limited_iff (p := p)
    cases b <;> cases hl : limitedS p <;> simp_all
  have hr0 := railsS_nn p.arrays
  by_cases h1 : 1048576 < p.temps
  · rw [← key true ⟨fun _ l => by have := l.t1; omega, fun _ => rfl⟩]
    simp [m126, IR.cells, h1, finR_zero]
  by_cases h2 : 1048576 < (p.arrays.length : Int)
  · rw [← key true ⟨fun _ l => by have := l.a1; omega, fun _ => rfl⟩]
    simp [m126, IR.cells, h1, h2, finR_zero]
  by_cases h3 : 1048576 < (p.blocks.length : Int)
  · rw [← key true ⟨fun _ l => by have := l.b1; omega, fun _ => rfl⟩]
    simp [m126, IR.cells, h1, h2, h3, finR_zero]
  by_cases h4 : 65536 < p.out
  · rw [← key true ⟨fun _ l => by have := l.r1; omega, fun _ => rfl⟩]
    simp [m126, IR.cells, h1, h2, h3, h4, finR_zero]
  obtain ⟨a1, j1, g1, g2⟩ := m126_loop0 (p := p) (by omega) (max 0 p.out) (p.blocks.length + 1) 0 0 (by omega) (Nat.zero_le _) (by omega) (by omega)
  obtain ⟨a2, j2, g3, g4⟩ := m126_loop1 (p := p) (by omega) a1 (p.arrays.length + 1) 0 (max 0 p.out) (by omega) (Nat.zero_le _) (by omega) (by omega)
  simp only [List.drop_zero, Int.cast_ofNat_Int, Int.zero_add] at g1 g2 g3 g4
  rw [← key (decide (1048576 < a1) || decide (65536 < a2)) (by
    rw [Bool.or_eq_true, decide_eq_true_eq, decide_eq_true_eq, g2, g4]
    have : max 0 p.out = max p.out 0 := by omega
    rw [this]
    exact ⟨fun hh l => by have := l.o1; have := l.r1; omega, fun hn => by
      by_cases c1 : 1048576 < opsS p.blocks
      · exact .inl c1
      · by_cases c2 : 65536 < max p.out 0 + railsS p.arrays
        · exact .inr c2
        · exact absurd ⟨by omega, by omega, by omega, by omega, by omega⟩ hn⟩)]
  simp only [IR.cells] at g1 g3 ⊢
  by_cases c1 : 1048576 < a1 <;> simp [m126, h1, h2, h3, h4, g1, g3, c1, finR_zero]

section
variable {p : IR} (hp : Lim p)
include hp
theorem m64_loop0 (k : Nat) (b : Blk) (hk : p.blocks[k]? = some b) (hb : b.ops.length ≤ 1048576) : ∀ (n i : Nat), b.ops.length < i + n → i ≤ b.ops.length →
    ∃ (ex : Ex) (r j : Int), lpW (m64_l0 KK 1) ([.ptr 0 0, .int .i64 0, .int .i64 (k : Int), .int .i64 (i : Int)], [.cells p.cells]) = some (ex, [.ptr 0 0, .int .i64 r, .int .i64 (k : Int), .int .i64 j], [.cells p.cells]) ∧
      ((ex = .ret ∧ r = 2 ∧ (b.ops.drop i).all (opS p) = false) ∨ (ex = .exit 2 ∧ r = 0 ∧ (b.ops.drop i).all (opS p) = true)) := by
  have htr : ∀ C, trunc 1 (.cells p.cells :: C) = some [.cells p.cells] := fun C => by simp [trunc, IR.cells]
  intro n
  induction n with
  | zero => intro i a1 a2; omega
  | succ n ih =>
    intro i a1 a2
    rw [lpW_step]
    by_cases hi : i < b.ops.length
    · have hi' : (i : Int) < b.ops.length := by omega
      have hx : b.ops[i]? = some b.ops[i] := List.getElem?_eq_getElem hi
      have w1 := wrapS (a := i) (by omega)
      rw [List.drop_eq_getElem_cons hi]
      generalize b.ops[i] = y at *
      have g128 := c128 hp.a1 y
      simp only [List.all_cons]
      cases hs : opS p y
      · refine ⟨.ret, 2, i, ?_, .inl ⟨rfl, rfl, rfl⟩⟩
        rw [hs] at g128
        simp only [Op.cells, IR.cells] at g128 htr hx ⊢
        simp [m64_l0, hi', hk, hx, Blk.cells, Op.cells, g128, endR, htr, san1_ptr]
      · obtain ⟨ex, r, j, g1, g2⟩ := ih (i + 1) (by omega) hi
        refine ⟨ex, r, j, ?_, by simpa using g2⟩
        simp only [Int.natCast_add, Int.cast_ofNat_Int] at g1
        rw [← g1]
        rw [hs] at g128
        simp only [Op.cells, IR.cells] at g128 htr hx ⊢
        simp [m64_l0, hi', hk, hx, Blk.cells, Op.cells, g128, endR, htr, w1, san1_ptr]
    · have hi' : ¬ (i : Int) < b.ops.length := by omega
      rw [List.drop_eq_nil_of_le (by omega)]
      refine ⟨.exit 2, 0, i, ?_, .inr ⟨rfl, rfl, rfl⟩⟩
      simp only [IR.cells] at htr ⊢
      simp [m64_l0, hi', hk, Blk.cells, endR, htr, san1_ptr]
theorem m64_loop1 (hops : ∀ b ∈ p.blocks, b.ops.length ≤ 1048576) : ∀ (n i : Nat), p.blocks.length < i + n → i ≤ p.blocks.length →
    ∃ (ex : Ex) (r j : Int), lpW (m64_l1 KK 1) ([.ptr 0 0, .int .i64 0, .int .i64 (i : Int)], [.cells p.cells]) = some (ex, [.ptr 0 0, .int .i64 r, .int .i64 j], [.cells p.cells]) ∧
      ((ex = .ret ∧ r = 2 ∧ (p.blocks.drop i).all (blkS p) = false) ∨ (ex = .exit 0 ∧ r = 0 ∧ (p.blocks.drop i).all (blkS p) = true)) := by
  have htr : ∀ C, trunc 1 (.cells p.cells :: C) = some [.cells p.cells] := fun C => by simp [trunc, IR.cells]
  have hb1 := hp.b1
  intro n
  induction n with
  | zero => intro i a1 a2; omega
  | succ n ih =>
    intro i a1 a2
    rw [lpW_step]
    by_cases hi : i < p.blocks.length
    · have hi' : (i : Int) < p.blocks.length := by omega
      have hx : p.blocks[i]? = some p.blocks[i] := List.getElem?_eq_getElem hi
      have hm := hops p.blocks[i] (List.getElem_mem hi)
      have w1 := wrapS (a := i) (by omega)
      rw [List.drop_eq_getElem_cons hi]
      generalize p.blocks[i] = y at *
      have g129 := c129 (p := p) y.term
      obtain ⟨ex, r, j, g1, g2⟩ := m64_loop0 hp i y hx hm (y.ops.length + 1) 0 (by omega) (Nat.zero_le _)
      simp only [List.drop_zero, Int.cast_ofNat_Int] at g1 g2
      simp only [List.all_cons, blkS]
      rcases g2 with ⟨rfl, rfl, g2⟩ | ⟨rfl, rfl, g2⟩
      · refine ⟨.ret, 2, i, ?_, .inl ⟨rfl, rfl, by rw [g2]; rfl⟩⟩
        simp only [Term.cells, IR.cells] at g129 htr hx g1 ⊢
        simp [m64_l1, hi', hx, g1, endR, htr, san1_ptr]
      · rw [g2]
        cases ht : termS (p := p) y.term
        · refine ⟨.ret, 2, i, ?_, .inl ⟨rfl, rfl, rfl⟩⟩
          rw [ht] at g129
          simp only [Term.cells, IR.cells] at g129 htr hx g1 ⊢
          simp [m64_l1, hi', hx, g1, Blk.cells, g129, endR, htr, san1_ptr]
        · obtain ⟨ex, r, j, g3, g4⟩ := ih (i + 1) (by omega) hi
          refine ⟨ex, r, j, ?_, by simpa [blkS] using g4⟩
          rw [ht] at g129
          simp only [Int.natCast_add, Int.cast_ofNat_Int] at g3
          rw [← g3]
          simp only [Term.cells, IR.cells] at g129 htr hx g1 ⊢
          simp [m64_l1, hi', hx, g1, Blk.cells, g129, endR, htr, w1, san1_ptr]
    · have hi' : ¬ (i : Int) < p.blocks.length := by omega
      rw [List.drop_eq_nil_of_le (by omega)]
      refine ⟨.exit 0, 0, i, ?_, .inr ⟨rfl, rfl, rfl⟩⟩
      simp only [IR.cells] at htr ⊢
      simp [m64_l1, hi', endR, htr, san1_ptr]
end

set_option maxHeartbeats 1000000 in
theorem c64 (p : IR) (h : Heap) : KK 64 [.agg p.cells] h = some (.ret (.int .i64 (checkS p)), h) := by
  refine callP_pure rfl rfl (evW_by (m64_eq _ _ _) ?_)
  have g126 := c126 p
  unfold checkS
  cases hl : limitedS p
  · rw [hl] at g126
    simp only [IR.cells] at g126 ⊢
    simp [m64, g126, finR_zero]
  rw [hl] at g126
  obtain ⟨l1, l2, l3, l4, l5⟩ := limited_iff.1 hl
  have hr0 := railsS_nn p.arrays
  have b1 : between p.inn 0 65536 = true ↔ ¬ p.inn < 0 ∧ ¬ 65536 < p.inn := by simp only [between, Bool.and_eq_true, decide_eq_true_eq]; omega
  have b2 : between p.out 0 65536 = true ↔ ¬ p.out < 0 := by simp only [between, Bool.and_eq_true, decide_eq_true_eq]; omega
  simp only [b1, b2]
  by_cases c1 : p.inn < 0
  · simp only [IR.cells] at g126 ⊢
    simp [m64, g126, c1, finR_zero]
  by_cases c2 : 65536 < p.inn
  · simp only [IR.cells] at g126 ⊢
    simp [m64, g126, c1, c2, finR_zero]
  by_cases c3 : p.inn.tmod 4 = 0
  case neg =>
    simp only [IR.cells] at g126 ⊢
    simp [m64, g126, c1, c2, c3, abin_rem, finR_zero]
  by_cases c4 : p.out < 0
  · simp only [IR.cells] at g126 ⊢
    simp [m64, g126, c1, c2, c3, c4, abin_rem, finR_zero]
  by_cases c5 : p.out.tmod 4 = 0
  case neg =>
    simp only [IR.cells] at g126 ⊢
    simp [m64, g126, c1, c2, c3, c4, c5, abin_rem, finR_zero]
  by_cases c6 : p.temps < 0
  · have c6' : ¬ 0 ≤ p.temps := by omega
    simp only [IR.cells] at g126 ⊢
    simp [m64, g126, c1, c2, c3, c4, c5, c6, c6', abin_rem, finR_zero]
  have c6' : 0 ≤ p.temps := by omega
  by_cases c7 : p.blocks = []
  · simp only [IR.cells] at g126 ⊢
    rw [c7] at g126
    simp only [List.map_nil] at g126
    simp [m64, g126, c1, c2, c3, c4, c5, c6, c6', c7, abin_rem, finR_zero]
  have c7' : ¬ (p.blocks.length : Int) = 0 := by
    have : p.blocks.length ≠ 0 := fun e => c7 (List.eq_nil_of_length_eq_zero e)
    omega
  have hp : Lim p := ⟨c6', l1, l2, l3, by omega, by omega, by omega, by omega⟩
  have g127 := c127 hp
  obtain ⟨ex, r, j, g1, g2⟩ := m64_loop1 hp (fun b hb => by have := opsS_mem hb; omega) (p.blocks.length + 1) 0 (by omega) (Nat.zero_le _)
  simp only [List.drop_zero, Int.cast_ofNat_Int] at g1 g2
  cases ha : arrsS p.inn p.out 0 p.arrays
  · rw [ha] at g127
    simp only [IR.cells] at g126 g127 ⊢
    simp [m64, g126, g127, c1, c2, c3, c4, c5, c6, c6', c7, c7', abin_rem, finR_zero]
  rw [ha] at g127
  simp only [IR.cells] at g126 g127 g1 ⊢
  rcases g2 with ⟨rfl, rfl, g2⟩ | ⟨rfl, rfl, g2⟩ <;>
    simp [m64, g126, g127, g1, g2, c1, c2, c3, c4, c5, c6, c6', c7, c7', abin_rem, finR_zero]
end Go.Proofs.YtkeoalhglkfbkaaDoor

/-
  Which temps are wanted, as plain laws: a way on from a block, the least sets that the blocks' equations allow. No conditions.
-/
namespace Go.Proofs.YtkeoalhglkfbkaaDoor
open Go Hk

/-- What is wanted ahead of an operation, of what is wanted behind it. -/
def trOp (o : Op) (S : Int → Prop) : Int → Prop := fun t => t ∈ usesS o ∨ (S t ∧ ¬((formS o.kind).dst = true ∧ o.dst = t))
/-- The same of a block's end. -/
def trEnd (x : Term) (S : Int → Prop) : Int → Prop := fun t => (x.kind = 2 ∧ x.a = t) ∨ S t
def trOps (l : List Op) (x : Term) (S : Int → Prop) : Int → Prop := l.foldr trOp (trEnd x S)
def trBlk (b : Blk) (S : Int → Prop) : Int → Prop := trOps b.ops b.term S

/-- The fate of a temp: 1 it is read first, 2 it is made first, 0 neither. -/
def fateS : List Op → Term → Int → Int
  | [], x, t => if x.kind = 2 ∧ x.a = t then 1 else 0
  | o :: r, x, t => if t ∈ usesS o then 1 else if (formS o.kind).dst = true ∧ o.dst = t then 2 else fateS r x t

theorem fateS_cases (l : List Op) (x : Term) (t : Int) : fateS l x t = 0 ∨ fateS l x t = 1 ∨ fateS l x t = 2 := by
  induction l with
  | nil => simp only [fateS]; split <;> simp
  | cons o r ih => simp only [fateS]; split; · simp
                   split; · simp
                   exact ih

theorem trOps_fate (l : List Op) (x : Term) (S : Int → Prop) (t : Int) : trOps l x S t ↔ fateS l x t = 1 ∨ (fateS l x t = 0 ∧ S t) := by
  induction l with
  | nil =>
    simp only [trOps, List.foldr_nil, trEnd, fateS]
    by_cases h : x.kind = 2 ∧ x.a = t <;> simp [h]
  | cons o r ih =>
    have e : trOps (o :: r) x S t ↔ t ∈ usesS o ∨ (trOps r x S t ∧ ¬((formS o.kind).dst = true ∧ o.dst = t)) := Iff.rfl
    rw [e, ih]
    simp only [fateS]
    by_cases h1 : t ∈ usesS o
    · simp [h1]
    · by_cases h2 : (formS o.kind).dst = true ∧ o.dst = t
      · simp [h1, h2]
      · simp [h1, h2]

/-- The blocks to which an end leads. -/
def leadsS (x : Term) : List Int := if x.kind = 1 then [x.yes].filter (fun k => decide (0 ≤ k)) else if x.kind = 2 then [x.yes, x.no].filter (fun k => decide (0 ≤ k)) else []

/-- There is a way on from the beginning of a block on which a temp is read first. -/
inductive Reach (bs : List Blk) (t : Int) : Nat → Prop
  | here {k : Nat} {b : Blk} (hb : bs[k]? = some b) (hf : fateS b.ops b.term t = 1) : Reach bs t k
  | step {k : Nat} {b : Blk} {j : Int} (hb : bs[k]? = some b) (hf : fateS b.ops b.term t = 0) (hj : j ∈ leadsS b.term) (hr : Reach bs t j.toNat) : Reach bs t k

/-- Wanted behind a block. -/
def Behind (bs : List Blk) (t : Int) (x : Term) : Prop := ∃ j ∈ leadsS x, Reach bs t j.toNat

theorem reach_iff {bs : List Blk} {t : Int} {k : Nat} {b : Blk} (hb : bs[k]? = some b) : Reach bs t k ↔ trBlk b (fun t => Behind bs t b.term) t := by
  unfold trBlk
  rw [trOps_fate]
  constructor
  · intro h
    cases h with
    | here hb' hf => rw [hb] at hb'; cases hb'; exact .inl hf
    | step hb' hf hj hr => rw [hb] at hb'; cases hb'; exact .inr ⟨hf, _, hj, hr⟩
  · rintro (h | ⟨h, j, hj, hr⟩)
    · exact .here hb h
    · exact .step hb h hj hr

theorem trOps_mono {l : List Op} {x : Term} {S T : Int → Prop} (h : ∀ t, S t → T t) {t : Int} (ht : trOps l x S t) : trOps l x T t := by
  rw [trOps_fate] at ht ⊢
  rcases ht with h1 | ⟨h1, h2⟩
  · exact .inl h1
  · exact .inr ⟨h1, h _ h2⟩

/-- What is put in is reached. -/
theorem live_sound {bs : List Blk} {W : Nat → Int → Prop} (hW : ∀ k t, W k t → Reach bs t k) {k : Nat} {b : Blk} (hb : bs[k]? = some b) {t : Int}
    (ht : trBlk b (fun t => ∃ j ∈ leadsS b.term, W j.toNat t) t) : Reach bs t k :=
  (reach_iff hb).2 (trOps_mono (fun t ⟨j, hj, hw⟩ => ⟨j, hj, hW _ _ hw⟩) ht)
/-- Sets that are as they should be have all that is reached. -/
theorem live_complete {bs : List Blk} {W : Nat → Int → Prop} (hfix : ∀ k b, bs[k]? = some b → ∀ t, trBlk b (fun t => ∃ j ∈ leadsS b.term, W j.toNat t) t → W k t) {t : Int} {k : Nat} (h : Reach bs t k) : W k t := by
  induction h with
  | here hb hf => exact hfix _ _ hb _ (by unfold trBlk; rw [trOps_fate]; exact .inl hf)
  | step hb hf hj hr ih => exact hfix _ _ hb _ (by unfold trBlk; rw [trOps_fate]; exact .inr ⟨hf, _, hj, ih⟩)

/-! ### The way that is looked for -/
structure WayInv (bs : List Blk) (t : Int) (src : List Int) (seen : List Bool) (todo : List Int) : Prop where
  len : seen.length = bs.length
  lt : ∀ k ∈ todo, 0 ≤ k ∧ k.toNat < bs.length
  srcOk : ∀ k ∈ src, seen[k.toNat]? = some true ∨ k ∈ todo
  seenOk : ∀ (k : Nat) (b : Blk), seen[k]? = some true → bs[k]? = some b → fateS b.ops b.term t ≠ 1 ∧ (fateS b.ops b.term t = 0 → ∀ j ∈ leadsS b.term, seen[j.toNat]? = some true ∨ j ∈ todo)
  back : ∀ k ∈ todo, Reach bs t k.toNat → ∃ f ∈ src, Reach bs t f.toNat

theorem WayInv.start {bs : List Blk} {t : Int} {src : List Int} (h : ∀ k ∈ src, 0 ≤ k ∧ k.toNat < bs.length) : WayInv bs t src (List.replicate bs.length false) src :=
  ⟨by simp, h, fun k hk => .inr hk, fun k b hs => by simp [List.getElem?_replicate] at hs, fun k hk hr => ⟨k, hk, hr⟩⟩
theorem WayInv.done {bs : List Blk} {t : Int} {src : List Int} {seen : List Bool} (h : WayInv bs t src seen []) : ¬ ∃ f ∈ src, Reach bs t f.toNat := by
  have key : ∀ k, Reach bs t k → seen[k]? = some true → False := by
    intro k hr
    induction hr with
    | here hb hf => intro hs; exact (h.seenOk _ _ hs hb).1 hf
    | step hb hf hj _ ih =>
      intro hs
      rcases (h.seenOk _ _ hs hb).2 hf _ hj with h1 | h1
      · exact ih h1
      · simp at h1
  rintro ⟨f, hf, hr⟩
  rcases h.srcOk f hf with h1 | h1
  · exact key _ hr h1
  · simp at h1
theorem WayInv.skip {bs : List Blk} {t k : Int} {src todo : List Int} {seen : List Bool} (h : WayInv bs t src seen (todo ++ [k])) (hk : seen[k.toNat]? = some true) (hnn : ∀ f ∈ src, 0 ≤ f) (hl : ∀ b ∈ bs, ∀ j ∈ leadsS b.term, 0 ≤ j) : WayInv bs t src seen todo := by
  have mem : ∀ j : Int, 0 ≤ j → j ∈ todo ++ [k] → seen[j.toNat]? = some true ∨ j ∈ todo := by
    intro j _ hj
    rcases List.mem_append.1 hj with h1 | h1
    · exact .inr h1
    · simp at h1; subst h1; exact .inl hk
  refine ⟨h.len, fun j hj => h.lt j (by simp [hj]), fun f hf => ?_, fun i b hs hb => ⟨(h.seenOk i b hs hb).1, fun h0 j hj => ?_⟩, fun j hj => h.back j (by simp [hj])⟩
  · rcases h.srcOk f hf with h1 | h1
    · exact .inl h1
    · exact mem f (hnn f hf) h1
  · rcases (h.seenOk i b hs hb).2 h0 j hj with h1 | h1
    · exact .inl h1
    · exact mem j (hl b (List.mem_of_getElem? hb) j hj) h1
theorem WayInv.push {bs : List Blk} {t k : Int} {src todo : List Int} {seen : List Bool} {b : Blk} {new : List Int} (h : WayInv bs t src seen (todo ++ [k])) (hb : bs[k.toNat]? = some b) (h1 : fateS b.ops b.term t ≠ 1)
    (hnew : new = if fateS b.ops b.term t = 0 then leadsS b.term else []) (hlt : ∀ j ∈ leadsS b.term, 0 ≤ j ∧ j.toNat < bs.length) : WayInv bs t src (seen.set k.toNat true) (todo ++ new) := by
  have hkl : k.toNat < seen.length := by rw [h.len]; exact (List.getElem?_eq_some_iff.1 hb).1
  have hk : (seen.set k.toNat true)[k.toNat]? = some true := by simp [hkl]
  have keep : ∀ i : Nat, seen[i]? = some true → (seen.set k.toNat true)[i]? = some true := by
    intro i hi
    rw [List.getElem?_set]
    split
    · rename_i he; subst he; simp [hkl]
    · exact hi
  have mem : ∀ j : Int, j ∈ todo ++ [k] → (seen.set k.toNat true)[j.toNat]? = some true ∨ j ∈ todo ++ new := by
    intro j hj
    rcases List.mem_append.1 hj with h1 | h1
    · exact .inr (by simp [h1])
    · simp at h1; subst h1; exact .inl hk
  refine ⟨by simp [h.len], fun j hj => ?_, fun f hf => ?_, fun i c hs hc => ?_, fun j hj hr => ?_⟩
  · rcases List.mem_append.1 hj with h2 | h2
    · exact h.lt j (by simp [h2])
    · rw [hnew] at h2
      split at h2
      · exact hlt j h2
      · simp at h2
  · rcases h.srcOk f hf with h2 | h2
    · exact .inl (keep _ h2)
    · exact mem f h2
  · by_cases hi : k.toNat = i
    · subst hi
      rw [hb] at hc; cases hc
      refine ⟨h1, fun h0 j hj => .inr ?_⟩
      rw [hnew, if_pos h0]; simp [hj]
    · rw [List.getElem?_set_ne hi] at hs
      obtain ⟨a1, a2⟩ := h.seenOk i c hs hc
      refine ⟨a1, fun h0 j hj => ?_⟩
      rcases a2 h0 j hj with h2 | h2
      · exact .inl (keep _ h2)
      · exact mem j h2
  · rcases List.mem_append.1 hj with h2 | h2
    · exact h.back j (by simp [h2]) hr
    · rw [hnew] at h2
      split at h2
      · rename_i h0
        exact h.back k (by simp) (.step hb h0 h2 hr)
      · simp at h2
theorem WayInv.hit {bs : List Blk} {t k : Int} {src todo : List Int} {seen : List Bool} {b : Blk} (h : WayInv bs t src seen (todo ++ [k])) (hb : bs[k.toNat]? = some b) (h1 : fateS b.ops b.term t = 1) : ∃ f ∈ src, Reach bs t f.toNat :=
  h.back k (by simp) (.here hb h1)
end Go.Proofs.YtkeoalhglkfbkaaDoor

/-
  Sets of temps as lists of words, a bit each: what a set holds, and what becomes of it. No conditions.
-/
namespace Go.Proofs.Wd

abbrev Wd := BitVec 64

theorem odd_part (n : Nat) (h : 0 < n) : ∃ k m, n = 2 ^ k * (2 * m + 1) := by
  induction n using Nat.strongRecOn with
  | _ n ih =>
    by_cases h1 : n % 2 = 1
    · exact ⟨0, n / 2, by omega⟩
    · obtain ⟨k, m, e⟩ := ih (n / 2) (by omega) (by omega)
      refine ⟨k + 1, m, ?_⟩
      rw [Nat.pow_succ, Nat.mul_comm (2 ^ k) 2, Nat.mul_assoc, ← e]; omega

/-- A word that is not 0: its lowest bit. -/
theorem lowest (w : Wd) (h : w ≠ 0#64) : ∃ k, k < 64 ∧ w.getLsbD k = true ∧ (∀ i, i < k → w.getLsbD i = false) ∧ (∀ i, (w - 1#64).getLsbD i = if i < k then true else if i = k then false else w.getLsbD i) := by
  have h0 : w.toNat ≠ 0 := fun e => h (BitVec.eq_of_toNat_eq (by simpa using e))
  obtain ⟨k, m, e⟩ := odd_part w.toNat (by omega)
  have hw := w.isLt
  have e1 : w.toNat = 2 ^ (k + 1) * m + 2 ^ k := by rw [e, Nat.pow_succ]; rw [Nat.mul_add, Nat.mul_one, Nat.mul_assoc]
  have hp : 0 < 2 ^ k := Nat.two_pow_pos k
  have e2 : (w - 1#64).toNat = 2 ^ (k + 1) * m + (2 ^ k - 1) := by
    rw [BitVec.toNat_sub]
    have : (1#64).toNat = 1 := rfl
    rw [this]
    have : 2 ^ 64 - 1 + w.toNat = (w.toNat - 1) + 2 ^ 64 := by omega
    rw [this, Nat.add_mod_right, Nat.mod_eq_of_lt (by omega), e1]
    omega
  have hpk : 2 ^ k < 2 ^ (k + 1) := Nat.pow_lt_pow_right (by omega) (by omega)
  have b1 : ∀ i, w.getLsbD i = if i < k + 1 then decide (k = i) else m.testBit (i - (k + 1)) := fun i => by
    rw [BitVec.getLsbD, e1, Nat.testBit_two_pow_mul_add m hpk, Nat.testBit_two_pow]
  have b2 : ∀ i, (w - 1#64).getLsbD i = if i < k + 1 then decide (i < k) else m.testBit (i - (k + 1)) := fun i => by
    rw [BitVec.getLsbD, e2, Nat.testBit_two_pow_mul_add m (by omega), Nat.testBit_two_pow_sub_one]
  have hk : k < 64 := by
    rcases Nat.lt_or_ge k 64 with h1 | h1
    · exact h1
    · have : 2 ^ 64 ≤ 2 ^ k := Nat.pow_le_pow_right (by omega) h1
      omega
  refine ⟨k, hk, by rw [b1]; simp, fun i hi => ?_, fun i => ?_⟩
  · rw [b1, if_pos (by omega)]; simp; omega
  · rw [b2, b1]
    by_cases h1 : i < k
    · rw [if_pos (by omega), if_pos h1]; simp [h1]
    · rw [if_neg h1]
      by_cases h2 : i = k
      · rw [if_pos (by omega), if_pos h2]; simp [h2]
      · rw [if_neg (by omega), if_neg h2, if_neg (by omega)]

/-- The lowest bit alone. -/
theorem low_and (w : Wd) {k : Nat} (hk : k < 64) (h1 : w.getLsbD k = true) (h2 : ∀ i, i < k → w.getLsbD i = false) (h3 : ∀ i, (w - 1#64).getLsbD i = if i < k then true else if i = k then false else w.getLsbD i) :
    w &&& -w = BitVec.twoPow 64 k := by
  have e : -w = ~~~(w - 1#64) := by
    rw [BitVec.neg_eq_not_add]
    apply BitVec.eq_of_toNat_eq
    rw [BitVec.toNat_add, BitVec.toNat_not, BitVec.toNat_not, BitVec.toNat_sub]
    have hw := w.isLt
    have : (1#64).toNat = 1 := rfl
    rw [this]
    omega
  apply BitVec.eq_of_getLsbD_eq
  intro i hi
  rw [BitVec.getLsbD_and, e, BitVec.getLsbD_not, h3, BitVec.getLsbD_twoPow]
  by_cases c1 : i < k
  · simp [c1, h2 i c1]; omega
  · by_cases c2 : i = k
    · subst c2; simp [h1, hi]
    · simp [c1, c2, hi]; omega

/-- A word without its lowest bit. -/
theorem low_clear (w : Wd) {k : Nat} (h2 : ∀ i, i < k → w.getLsbD i = false) (h3 : ∀ i, (w - 1#64).getLsbD i = if i < k then true else if i = k then false else w.getLsbD i) (i : Nat) :
    (w &&& (w - 1#64)).getLsbD i = (w.getLsbD i && !decide (i = k)) := by
  rw [BitVec.getLsbD_and, h3]
  by_cases c1 : i < k
  · simp [c1, h2 i c1]
  · by_cases c2 : i = k
    · subst c2; simp
    · simp [c1, c2]

theorem clear_lt (w : Wd) (h : w ≠ 0#64) : (w &&& (w - 1#64)).toNat < w.toNat := by
  have h0 : w.toNat ≠ 0 := fun e => h (BitVec.eq_of_toNat_eq (by simpa using e))
  have hw := w.isLt
  have e1 : (w - 1#64).toNat = w.toNat - 1 := by
    rw [BitVec.toNat_sub]
    have : (1#64).toNat = 1 := rfl
    rw [this]; omega
  rw [BitVec.toNat_and, e1]
  have := Nat.and_le_right (n := w.toNat) (m := w.toNat - 1)
  omega

/-- A word's bits. -/
def listW (w : Wd) : List Nat := (List.range 64).filter fun i => w.getLsbD i
theorem listW_zero : listW 0#64 = [] := by simp [listW]
theorem listW_cons (w : Wd) {k : Nat} (hk : k < 64) (h1 : w.getLsbD k = true) (h2 : ∀ i, i < k → w.getLsbD i = false) (h3 : ∀ i, (w - 1#64).getLsbD i = if i < k then true else if i = k then false else w.getLsbD i) :
    listW w = k :: listW (w &&& (w - 1#64)) := by
  have er : List.range 64 = List.range k ++ (k :: List.range' (k + 1) (63 - k)) := by
    have : k :: List.range' (k + 1) (63 - k) = List.range' k (63 - k + 1) := by rw [List.range'_succ]
    rw [this, List.range_eq_range', List.range_eq_range', show 63 - k + 1 = 64 - k by omega]
    have := List.range'_append_1 (s := 0) (m := k) (n := 64 - k)
    simp only [Nat.zero_add] at this
    rw [this]; congr 1; omega
  have lo : ∀ v : Wd, (∀ i, i < k → v.getLsbD i = false) → (List.range k).filter (fun i => v.getLsbD i) = [] := fun v hv => by
    rw [List.filter_eq_nil_iff]
    intro i hi
    rw [hv i (List.mem_range.1 hi)]; simp
  have hc := low_clear w h2 h3
  unfold listW
  rw [er, List.filter_append, List.filter_append, lo w h2, lo _ (fun i hi => by rw [hc, h2 i hi]; simp), List.nil_append, List.nil_append, List.filter_cons, List.filter_cons, if_pos h1, if_neg (by rw [hc]; simp)]
  congr 1
  apply List.filter_congr
  intro i hi
  have := List.mem_range'_1.1 hi
  rw [hc]
  have : ¬ i = k := by omega
  simp [this]

/-! ### Sets -/
def wget (ws : List Wd) (t : Nat) : Bool := (ws.getD (t / 64) 0#64).getLsbD (t % 64)
def padW (ws : List Wd) (n : Nat) : List Wd := ws ++ List.replicate (n - ws.length) 0#64
theorem padW_len (ws : List Wd) (n : Nat) : (padW ws n).length = max ws.length n := by simp [padW]; omega
theorem padW_getD (ws : List Wd) (n i : Nat) : (padW ws n).getD i 0#64 = ws.getD i 0#64 := by
  unfold padW
  rw [List.getD_eq_getElem?_getD, List.getD_eq_getElem?_getD]
  by_cases h : i < ws.length
  · rw [List.getElem?_append_left h]
  · rw [List.getElem?_append_right (by omega), List.getElem?_eq_none (l := ws) (by omega), List.getElem?_replicate]
    split <;> rfl
theorem padW_of_le {ws : List Wd} {n : Nat} (h : n ≤ ws.length) : padW ws n = ws := by simp [padW, Nat.sub_eq_zero_of_le h]
theorem padW_snoc {ws : List Wd} {n : Nat} (h : ws.length < n) : padW (ws ++ [0#64]) n = padW ws n := by
  unfold padW
  rw [List.length_append, List.length_singleton, List.append_assoc, List.singleton_append, ← List.replicate_succ]
  congr 2; omega

theorem getD_set (ws : List Wd) (i j : Nat) (x : Wd) (h : i < ws.length) : (ws.set i x).getD j 0#64 = if i = j then x else ws.getD j 0#64 := by
  rw [List.getD_eq_getElem?_getD, List.getD_eq_getElem?_getD, List.getElem?_set]
  split
  · rename_i e; subst e; simp [h]
  · rfl

def withW (ws : List Wd) (t : Nat) : List Wd := (padW ws (t / 64 + 1)).set (t / 64) ((padW ws (t / 64 + 1)).getD (t / 64) 0#64 ||| BitVec.twoPow 64 (t % 64))
theorem withW_len (ws : List Wd) (t : Nat) : (withW ws t).length = max ws.length (t / 64 + 1) := by simp [withW, padW_len]
theorem wget_with (ws : List Wd) (t u : Nat) : wget (withW ws t) u = (wget ws u || decide (u = t)) := by
  unfold wget withW
  rw [getD_set _ _ _ _ (by rw [padW_len]; omega)]
  by_cases h : t / 64 = u / 64
  · rw [if_pos h, padW_getD, h, BitVec.getLsbD_or, BitVec.getLsbD_twoPow]
    have : decide (t % 64 = u % 64) = decide (u = t) := by
      by_cases e : u = t
      · simp [e]
      · simp [e]; omega
    have h64 : t % 64 < 64 := Nat.mod_lt _ (by omega)
    simp only [this]
    have : decide (t % 64 < 64) = true := by simp [h64]
    simp [this]
  · rw [if_neg h, padW_getD]
    have : ¬ u = t := fun e => h (by rw [e])
    simp [this]

def withoutW (ws : List Wd) (t : Nat) : List Wd := if t / 64 < ws.length then ws.set (t / 64) (ws.getD (t / 64) 0#64 &&& ~~~ BitVec.twoPow 64 (t % 64)) else ws
theorem withoutW_len (ws : List Wd) (t : Nat) : (withoutW ws t).length = ws.length := by unfold withoutW; split <;> simp
theorem wget_without (ws : List Wd) (t u : Nat) : wget (withoutW ws t) u = (wget ws u && !decide (u = t)) := by
  unfold withoutW
  split
  · rename_i hlt
    unfold wget
    rw [getD_set _ _ _ _ hlt]
    have hu64 : u % 64 < 64 := Nat.mod_lt _ (by omega)
    by_cases h : t / 64 = u / 64
    · rw [if_pos h, h, BitVec.getLsbD_and, BitVec.getLsbD_not, BitVec.getLsbD_twoPow]
      have : decide (t % 64 = u % 64) = decide (u = t) := by
        by_cases e : u = t
        · simp [e]
        · simp [e]; omega
      simp only [this]
      have h64 : t % 64 < 64 := Nat.mod_lt _ (by omega)
      simp [hu64, h64]
    · rw [if_neg h]
      have : ¬ u = t := fun e => h (by rw [e])
      simp [this]
  · rename_i hlt
    by_cases h : u = t
    · subst h
      unfold wget
      rw [List.getD_eq_getElem?_getD, List.getElem?_eq_none (by omega)]
      simp
    · simp [h]

/-- One set joined to another one. -/
def orW (out s : List Wd) : List Wd := (padW out s.length).mapIdx fun i w => w ||| s.getD i 0#64
theorem orW_len (out s : List Wd) : (orW out s).length = max out.length s.length := by simp [orW, padW_len]
theorem orW_getD (out s : List Wd) (i : Nat) : (orW out s).getD i 0#64 = out.getD i 0#64 ||| s.getD i 0#64 := by
  unfold orW
  rw [List.getD_eq_getElem?_getD, List.getElem?_mapIdx]
  have := padW_getD out s.length i
  rw [List.getD_eq_getElem?_getD] at this
  cases h : (padW out s.length)[i]? with
  | some x => rw [h] at this; simp at this; simp [this]
  | none =>
    rw [h] at this
    have hl := List.getElem?_eq_none_iff.1 h
    rw [padW_len] at hl
    clear this
    rw [List.getD_eq_getElem?_getD, List.getD_eq_getElem?_getD, List.getElem?_eq_none (l := out) (by omega), List.getElem?_eq_none (l := s) (by omega)]
    simp
theorem wget_or (out s : List Wd) (t : Nat) : wget (orW out s) t = (wget out t || wget s t) := by unfold wget; rw [orW_getD, BitVec.getLsbD_or]

/-- What a set holds, in rising order. -/
def listS (ws : List Wd) : List Nat := (List.range (64 * ws.length)).filter (wget ws)
theorem wget_lt {ws : List Wd} {t : Nat} (h : wget ws t = true) : t < 64 * ws.length := by
  unfold wget at h
  by_cases hlt : t / 64 < ws.length
  · omega
  · rw [List.getD_eq_getElem?_getD, List.getElem?_eq_none (by omega)] at h; simp at h
theorem filter_range {p : Nat → Bool} : ∀ {n m : Nat}, n ≤ m → (∀ t, p t = true → t < n) → (List.range m).filter p = (List.range n).filter p := by
  intro n m hnm hp
  obtain ⟨d, rfl⟩ := Nat.exists_eq_add_of_le hnm
  rw [List.range_add, List.filter_append]
  have : (List.map (fun x => n + x) (List.range d)).filter p = [] := by
    rw [List.filter_eq_nil_iff]
    intro t ht
    obtain ⟨i, _, rfl⟩ := List.mem_map.1 ht
    intro h
    have := hp _ h
    omega
  rw [this, List.append_nil]
theorem listS_eq {ws : List Wd} {n : Nat} (h : ∀ t, wget ws t = true → t < n) : listS ws = (List.range n).filter (wget ws) := by
  unfold listS
  rcases Nat.le_total n (64 * ws.length) with h1 | h1
  · exact filter_range h1 h
  · exact (filter_range h1 fun t ht => wget_lt ht).symm
theorem mem_listS {ws : List Wd} {t : Nat} : t ∈ listS ws ↔ wget ws t = true := by
  unfold listS
  rw [List.mem_filter, List.mem_range]
  exact ⟨fun h => h.2, fun h => ⟨wget_lt h, h⟩⟩
theorem listS_inj {a b : List Wd} : listS a = listS b ↔ ∀ t, wget a t = wget b t := by
  constructor
  · intro h t
    have : t ∈ listS a ↔ t ∈ listS b := by rw [h]
    rw [mem_listS, mem_listS] at this
    cases ha : wget a t <;> cases hb : wget b t <;> simp_all
  · intro h
    have ha : listS a = (List.range (64 * max a.length b.length)).filter (wget a) := listS_eq fun t ht => by have := wget_lt ht; omega
    have hb : listS b = (List.range (64 * max a.length b.length)).filter (wget b) := listS_eq fun t ht => by have := wget_lt ht; omega
    rw [ha, hb]
    exact List.filter_congr fun t _ => h t
/-- The words one behind the other. -/
def listUpto (ws : List Wd) (n : Nat) : List Nat := (List.range n).flatMap fun i => (listW (ws.getD i 0#64)).map (64 * i + ·)
theorem listUpto_eq (ws : List Wd) : ∀ n, listUpto ws n = (List.range (64 * n)).filter (wget ws)
  | 0 => by simp [listUpto]
  | n + 1 => by
    have ih := listUpto_eq ws n
    unfold listUpto at ih ⊢
    rw [List.range_succ, List.flatMap_append, ih, Nat.mul_add, Nat.mul_one, List.range_add, List.filter_append]
    congr 1
    simp only [List.flatMap_cons, List.flatMap_nil, List.append_nil, listW, List.filter_map]
    congr 1
    apply List.filter_congr
    intro i hi
    have := List.mem_range.1 hi
    simp only [Function.comp, wget]
    rw [show (64 * n + i) / 64 = n by omega, show (64 * n + i) % 64 = i by omega]
theorem listS_upto (ws : List Wd) : listS ws = listUpto ws ws.length := (listUpto_eq ws _).symm
end Go.Proofs.Wd

/-
  Sets of temps in the evaluator: words, and a slice of words that is written into. No conditions.
-/
namespace Go.Proofs.YtkeoalhglkfbkaaDoor
open Go Hk Go.Proofs.Wd

def wc (w : Wd) : AVal := .int .u64 (w.toNat : Int)
theorem wrapU {n : Int} : IntKind.wrap .u64 n = n % 18446744073709551616 := by simp [IntKind.wrap, IntKind.signed, IntKind.bits]
theorem ofInt_wd (w : Wd) : BitVec.ofInt 64 (w.toNat : Int) = w := by
  apply BitVec.eq_of_toNat_eq
  rw [BitVec.toNat_ofInt]
  have := w.isLt
  omega
theorem wrap_wd (w : Wd) : IntKind.wrap .u64 (w.toNat : Int) = w.toNat := by
  rw [wrapU]; have := w.isLt; omega
theorem abin_or_wd (a b : Wd) : abin .or (wc a) (wc b) = some (wc (a ||| b)) := by
  show (some (AVal.int .u64 (IntKind.wrap .u64 ((BitVec.ofInt 64 (a.toNat : Int) ||| BitVec.ofInt 64 (b.toNat : Int)).toNat : Int))) : Option AVal) = _
  rw [ofInt_wd, ofInt_wd, wrap_wd]; rfl
theorem abin_and_wd (a b : Wd) : abin .and (wc a) (wc b) = some (wc (a &&& b)) := by
  show (some (AVal.int .u64 (IntKind.wrap .u64 ((BitVec.ofInt 64 (a.toNat : Int) &&& BitVec.ofInt 64 (b.toNat : Int)).toNat : Int))) : Option AVal) = _
  rw [ofInt_wd, ofInt_wd, wrap_wd]; rfl
theorem abin_andNot_wd (a b : Wd) : abin .andNot (wc a) (wc b) = some (wc (a &&& ~~~ b)) := by
  show (some (AVal.int .u64 (IntKind.wrap .u64 ((BitVec.ofInt 64 (a.toNat : Int) &&& ~~~ BitVec.ofInt 64 (b.toNat : Int)).toNat : Int))) : Option AVal) = _
  rw [ofInt_wd, ofInt_wd, wrap_wd]; rfl
theorem abin_shl_wd {s : Nat} (hs : s < 64) : abin .shl (.int .u64 1) (.int .i64 (s : Int)) = some (wc (BitVec.twoPow 64 s)) := by
  have h0 : ¬ (s : Int) < 0 := by omega
  simp only [abin, if_neg h0, wc, BitVec.toNat_twoPow, Int.toNat_natCast, Option.some.injEq, AVal.int.injEq, true_and]
  rw [wrapU]
  have : min s (IntKind.bits .u64) = s := by simp [IntKind.bits]; omega
  rw [this, Int.natCast_emod]
  simp
theorem abin_sub_wd (a : Wd) : abin .sub (wc a) (.int .u64 1) = some (wc (a - 1#64)) := by
  unfold wc
  rw [abin_sub, wrapU, BitVec.toNat_sub]
  have := a.isLt
  congr 2
  have e : (1#64).toNat = 1 := rfl
  rw [e]
  omega
theorem wc_zero (a : Wd) : abin .neq (wc a) (.int .u64 0) = some (.bool (!decide (a = 0#64))) := by
  unfold wc
  rw [abin_neq]
  congr 3
  rw [decide_eq_decide]
  have : ((a.toNat : Int) = 0) ↔ a = 0#64 := ⟨fun h => BitVec.eq_of_toNat_eq (by have : (0#64).toNat = 0 := rfl; omega), fun h => by subst h; rfl⟩
  exact this
theorem wc_eql (a : Wd) : abin .eql (wc a) (.int .u64 0) = some (.bool (decide (a = 0#64))) := by
  unfold wc
  rw [abin_eql]
  congr 2
  rw [decide_eq_decide]
  have : ((a.toNat : Int) = 0) ↔ a = 0#64 := ⟨fun h => BitVec.eq_of_toNat_eq (by have : (0#64).toNat = 0 := rfl; omega), fun h => by subst h; rfl⟩
  exact this
theorem aun_neg_wd (a : Wd) : aun .neg (wc a) = some (wc (-a)) := by
  unfold wc
  rw [aun_neg, wrapU, BitVec.toNat_neg]
  have := a.isLt
  congr 2
  omega
theorem wc_mul_wd (a : Wd) : abin .mul (wc a) (.int .u64 285870213051353865) = some (wc (a * 285870213051353865#64)) := by
  unfold wc
  rw [abin_mul, wrapU, BitVec.toNat_mul]
  have e : (285870213051353865#64).toNat = 285870213051353865 := rfl
  rw [e]
  congr 2
theorem wc_shr_wd (a : Wd) : abin .shr (wc a) (.int .u64 58) = some (.int .u64 ((a.toNat >>> 58 : Nat) : Int)) := by
  have h0 : ¬ (58 : Int) < 0 := by omega
  simp only [abin, wc, if_neg h0, Option.some.injEq, AVal.int.injEq, true_and]
  rw [Int.fdiv_eq_ediv_of_nonneg _ (by simp [IntKind.bits]), Nat.shiftRight_eq_div_pow]
  simp [IntKind.bits]

def bruT : List Nat := [0,1,56,2,57,49,28,3,61,58,42,50,38,29,17,4,62,47,59,36,45,43,51,22,53,39,33,30,24,18,12,5,63,55,48,27,60,41,37,16,46,35,44,21,52,32,23,11,54,26,40,15,34,20,31,10,25,14,19,9,13,8,7,6]
def bru (k : Nat) : Nat := 2 ^ k * 285870213051353865 % 18446744073709551616 / 288230376151711744
theorem bru_ok : (List.range 64).all (fun k => (bruT[bru k]? == some k) && decide (bru k < 64)) = true := by decide +kernel
theorem bru_eq {k : Nat} (hk : k < 64) : (BitVec.twoPow 64 k * 285870213051353865#64).toNat >>> 58 = bru k := by
  have e : (285870213051353865#64).toNat = 285870213051353865 := rfl
  have h2 : 2 ^ k % 2 ^ 64 = 2 ^ k := Nat.mod_eq_of_lt (Nat.pow_lt_pow_right (by omega) hk)
  rw [BitVec.toNat_mul, BitVec.toNat_twoPow, h2, e, Nat.shiftRight_eq_div_pow]
  rfl
theorem gBruijn_eq : gBruijn = bruT.map fun n => .int .u8 (n : Int) := by rfl
attribute [irreducible] bru
/-- The table of the library. -/
theorem bruijn {k : Nat} (hk : k < 64) : gBruijn[bru k]? = some (.int .u8 (k : Int)) ∧ bru k < 64 := by
  have h := List.all_eq_true.1 bru_ok k (List.mem_range.2 hk)
  rw [Bool.and_eq_true, beq_iff_eq, decide_eq_true_eq] at h
  rw [gBruijn_eq, List.getElem?_map, h.1]
  exact ⟨rfl, h.2⟩

theorem bru_load {k j : Nat} (b1 : gBruijn[j]? = some (.int .u8 (k : Int))) (b2 : j < 64) : ∃ p, aindexAt 64 1 (.pptr gBruijn) (.int .u64 (j : Int)) = some p ∧ aload false 1 [] p = some (.int .u8 (k : Int)) := by
  refine ⟨.pptr (gBruijn.drop (j * 1)), ?_, ?_⟩
  · have h1 : (0 : Int) ≤ (j : Int) ∧ (j : Int) < ((64 : Nat) : Int) := by omega
    simp only [aindexAt, if_pos h1, Int.toNat_natCast]
  · rw [aload_pptr1, List.getElem?_drop, Nat.mul_one, Nat.add_zero]; exact b1
theorem m125_low {a b c d p : AVal} {j k : Nat} (hk : k < 64) (f0 : abin .eql a (.int .u64 0) = some (.bool false)) (f1 : aun .neg a = some b) (f2 : abin .and a b = some c)
    (f3 : abin .mul c (.int .u64 285870213051353865) = some d) (f4 : abin .shr d (.int .u64 58) = some (.int .u64 (j : Int))) (e1 : aindexAt 64 1 (.pptr gBruijn) (.int .u64 (j : Int)) = some p) (e2 : aload false 1 [] p = some (.int .u8 (k : Int))) :
    m125 KK a [] = some (.ret (.int .i64 (k : Int)), []) := by
  have hw64 : IntKind.i64.wrap (k : Int) = k := by rw [wrap64] <;> omega
  simp [m125, f0, f1, f2, f3, f4, e1, e2, hw64, finR_zero]
theorem c125_pure {a : AVal} {k : Nat} (ha : [a].all (AVal.shut1 0) = true) (hm : m125 KK a [] = some (.ret (.int .i64 (k : Int)), [])) (h : Heap) : KK 125 [a] h = some (.ret (.int .i64 (k : Int)), h) :=
  callP_pure rfl ha (evW_by (m125_eq _ _ _) hm)
/-- The place of the lowest bit. -/
theorem c125 (w : Wd) {k : Nat} (hk : k < 64) (h1 : w.getLsbD k = true) (h2 : ∀ i, i < k → w.getLsbD i = false) (h3 : ∀ i, (w - 1#64).getLsbD i = if i < k then true else if i = k then false else w.getLsbD i) (h : Heap) :
    KK 125 [wc w] h = some (.ret (.int .i64 (k : Int)), h) := by
  have hw : w ≠ 0#64 := fun e => by subst e; simp at h1
  have hl := low_and w hk h1 h2 h3
  obtain ⟨b1, b2⟩ := bruijn hk
  have f0 : abin .eql (wc w) (.int .u64 0) = some (.bool false) := by rw [wc_eql, decide_eq_false hw]
  have f1 := aun_neg_wd w
  have f2 : abin .and (wc w) (wc (-w)) = some (wc (BitVec.twoPow 64 k)) := by rw [abin_and_wd, hl]
  have f3 := wc_mul_wd (BitVec.twoPow 64 k)
  have f4 : abin .shr (wc (BitVec.twoPow 64 k * 285870213051353865#64)) (.int .u64 58) = some (.int .u64 (bru k : Int)) := by rw [wc_shr_wd, bru_eq hk]
  have ha : [wc w].all (AVal.shut1 0) = true := rfl
  generalize bru k = j at *
  generalize wc (-w) = b at *
  generalize wc (BitVec.twoPow 64 k * 285870213051353865#64) = d at *
  generalize wc (BitVec.twoPow 64 k) = c at *
  generalize wc w = a at *
  obtain ⟨p, e1, e2⟩ := bru_load b1 b2
  exact c125_pure ha (m125_low hk f0 f1 f2 f3 f4 e1 e2) h

/-! ### A set: the slice, and its block -/
def VS (id : Nat) : List Wd → AVal
  | [] => .slice [] (.own id)
  | w :: r => .vslice id (r.length + 1) 0 (r.length + 1) 1
def XS : List Wd → ABlk
  | [] => .front 0 0
  | w :: r => .vec (r.length + 1) 1 ((w :: r).map wc)

section
variable {A B C : List ABlk} {ws : List Wd} {id m i : Nat} {h : Heap} {k : IntKind}
theorem VS_len : alenSl (VS id ws) = some (.int .i64 (ws.length : Int)) := by cases ws <;> rfl
theorem VS_san1 (hi : id < m) : AVal.san1 m h (VS id ws) = VS id ws := by
  cases ws with
  | nil => simp [VS, hi]
  | cons w r => exact san1_vslice hi
theorem VS_san (hi : id < m) : AVal.san m h (VS id ws) = VS id ws := by
  cases ws with
  | nil => simp [VS, hi]
  | cons w r => exact san_vslice hi
theorem XS_ok : XOk (XS ws) := by
  intro m h
  cases ws with
  | nil => rfl
  | cons w r =>
    have : sanCells m h ((w :: r).map wc) = some ((w :: r).map wc) := sanCells_ints fun c hc => by
      obtain ⟨x, _, rfl⟩ := List.mem_map.1 hc; exact ⟨_, _, rfl⟩
    show (sanCells m h ((w :: r).map wc)).map _ = _
    rw [this]; rfl
theorem VS_index (hi : i < ws.length) : aindexSl 1 (VS id ws) (.int k (i : Int)) = some (.vptr id ws.length i) := by
  cases ws with
  | nil => simp at hi
  | cons w r =>
    have : i < r.length + 1 := by simpa using hi
    simp [VS, this]
theorem OQ_get? {X : ABlk} : (OQ A X B)[A.length]? = some X := by
  unfold OQ; rw [List.getElem?_append_right (Nat.le_refl _), Nat.sub_self]; rfl
theorem getVec_XS (h0 : ws ≠ []) : getVec (OQ A (XS ws) B) A.length ws.length = some (1, ws.map wc) := by
  unfold getVec
  rw [OQ_get?]
  cases ws with
  | nil => exact absurd rfl h0
  | cons w r => simp [XS]
theorem VS_load (hi : i < ws.length) : aload false 1 (OQ A (XS ws) B) (.vptr A.length ws.length i) = some (wc (ws.getD i 0#64)) := by
  rw [aload_vptr, getVec_XS (by intro e; subst e; simp at hi)]
  simp [List.getD_eq_getElem?_getD, hi]
theorem VS_store (hi : i < ws.length) (w : Wd) : astore 1 (OQ A (XS ws) B) (.vptr A.length ws.length i) (wc w) = some (OQ A (XS (ws.set i w)) B) := by
  rw [astore_vptr, getVec_XS (by intro e; subst e; simp at hi)]
  have e1 : putCells (ws.map wc) i [wc w] = (ws.set i w).map wc := by
    unfold putCells
    rw [List.map_set, List.set_eq_take_append_cons_drop, if_pos (by simpa using hi)]
    simp
  have e2 : XS (ws.set i w) = .vec ws.length 1 ((ws.set i w).map wc) := by
    cases ws with
    | nil => simp at hi
    | cons x r => cases i <;> simp [XS]
  simp only [Option.bind_some]
  rw [if_pos ⟨rfl, by simp; omega, rfl⟩]
  show some (List.set _ _ (ABlk.vec ws.length 1 (putCells (ws.map wc) i [wc w]))) = _
  rw [e1, ← e2, OQ_put]
theorem VS_append (hl : ws.length ≤ 2000000) (w : Wd) {t : Hk.Tok} : aappendV 1 8 (OQ A (XS ws) B) (VS A.length ws) (.slice [[wc w]] t) = some (VS A.length (ws ++ [w]), OQ A (XS (ws ++ [w])) B) := by
  have hr : arowsS 1 (OQ A (XS ws) B) (.slice [[wc w]] t) = some [[wc w]] := by simp
  cases ws with
  | nil =>
    unfold aappendV
    simp only [VS, hr]
    rw [OQ_get?]
    simp [XS, VS, OQ_put]
  | cons x r =>
    have hg := getVec_XS (A := A) (B := B) (ws := x :: r) (by simp)
    unfold aappendV
    simp only [VS, hr]
    simp only [List.length_cons] at hg hl ⊢
    rw [hg]
    simp only [List.length_nil, Nat.zero_add]
    rw [if_pos ⟨trivial, trivial, by omega, by omega⟩, if_neg (by omega), if_neg (by omega)]
    simp [XS, VS, OQ_put, List.take_of_length_le]
end
end Go.Proofs.YtkeoalhglkfbkaaDoor

/-
  The methods of sets: with, without, list. No conditions.
-/
namespace Go.Proofs.YtkeoalhglkfbkaaDoor
open Go Hk Go.Proofs.Wd

theorem VS_eq {id : Nat} {a b : List Wd} (h : a.length = b.length) : VS id a = VS id b := by
  cases a <;> cases b <;> simp_all [VS]
theorem quo64 {t : Nat} (ht : t ≤ 2000000) : abin .quo (.int .i64 (t : Int)) (.int .i64 64) = some (.int .i64 ((t / 64 : Nat) : Int)) := by
  rw [abin_quo (by omega)]
  have : ((t : Int)).tdiv 64 = ((t / 64 : Nat) : Int) := by rw [Int.tdiv_eq_ediv_of_nonneg (by omega)]; omega
  rw [this, wrap64 (by omega) (by omega)]
theorem rem64 {t : Nat} : abin .rem (.int .i64 (t : Int)) (.int .i64 64) = some (.int .i64 ((t % 64 : Nat) : Int)) := by
  rw [abin_rem (by omega), Int.tmod_eq_emod_of_nonneg (by omega)]; rfl
theorem one_word {h : Heap} : abuildSlice 1 1 [.int .u64 0] [(0, .int .u64 0)] h = some (.slice [[wc 0#64]] (.own h.length), h ++ [.front 1 1]) := by rfl

section
variable {A B : List ABlk}

theorem m122_loop (hB : KB A B) {t n : Nat} (ht : t ≤ 2000000) (hn : n = t / 64 + 1) {v : AVal} (hv : ∀ h, v.san (HN A B) h = v) : ∀ (d : Nat) (ws : List Wd), n - ws.length = d →
    lpW (m122_l0 KK (HN A B)) ([VS A.length ws, .int .i64 (t : Int), v], OQ A (XS ws) B) = some (.exit 0, [VS A.length (padW ws n), .int .i64 (t : Int), v], OQ A (XS (padW ws n)) B) := by
  intro d
  induction d with
  | zero =>
    intro ws hd
    rw [lpW_step, padW_of_le (by omega)]
    have hc : ¬ ((ws.length : Int) ≤ ((t / 64 : Nat) : Int)) := by omega
    have q64 := quo64 ht
    clear hd
    generalize t / 64 = q at *
    have htr := OQ_trunc0 (X := XS ws) (A := A) (B := B) hB XS_ok
    have hs := fun h => VS_san (ws := ws) (m := HN A B) (h := h) A_lt0
    have step : m122_l0 KK (HN A B) ([VS A.length ws, .int .i64 (t : Int), v], OQ A (XS ws) B) = some (.exit 0, [VS A.length ws, .int .i64 (t : Int), v], OQ A (XS ws) B) := by
      unfold m122_l0
      simp only [List.getD_cons_zero, List.getD_cons_succ]
      rw [q64, VS_len]
      simp -implicitDefEqProofs [hc, endR, htr, hs, hv]
    rw [step]; rfl
  | succ d ih =>
    intro ws hd
    rw [lpW_step]
    have hc : ((ws.length : Int) ≤ ((t / 64 : Nat) : Int)) := by omega
    have htr := OQ_trunc (X := XS (ws ++ [0#64])) (A := A) (B := B) (C := [.front 1 1]) hB XS_ok
    have hs := fun h => VS_san (ws := ws ++ [0#64]) (m := HN A B) (h := h) A_lt0
    have g := ih (ws ++ [0#64]) (by simp; omega)
    rw [padW_snoc (by omega)] at g
    rw [← g]
    have ha := fun t => VS_append (A := A) (B := B ++ [.front 1 1]) (ws := ws) (by omega) 0#64 (t := t)
    have q64 := quo64 ht
    clear g ih
    have hl : ws.length ≤ 1000000 := by omega
    clear hd hn
    generalize t / 64 = q at *
    have step : m122_l0 KK (HN A B) ([VS A.length ws, .int .i64 (t : Int), v], OQ A (XS ws) B) = some (.normal, [VS A.length (ws ++ [0#64]), .int .i64 (t : Int), v], OQ A (XS (ws ++ [0#64])) B) := by
      unfold m122_l0
      simp only [List.getD_cons_zero, List.getD_cons_succ]
      rw [q64, VS_len]
      simp -implicitDefEqProofs [hc, endR, htr, hs, hv, one_word, ha]
    rw [step]; rfl

theorem c122 (hB : KB A B) {t : Nat} (ht : t ≤ 2000000) (ws : List Wd) : KK 122 [VS A.length ws, .int .i64 (t : Int)] (OQ A (XS ws) B) = some (.ret (VS A.length (withW ws t)), OQ A (XS (withW ws t)) (B ++ [.front 0 0])) := by
  refine evW_by (m122_eq _ _ _ _) ?_
  have hB2 : KB A (B ++ [.front 0 0]) := hB.app (by simp)
  have g := m122_loop hB2 ht rfl (v := .slice [] (.own (HN A B))) (fun h => by simp) _ ws rfl
  have hl : t / 64 < (padW ws (t / 64 + 1)).length := by rw [padW_len]; omega
  have h1 := fun k => VS_index (id := A.length) (k := k) hl
  have h2 := VS_load (A := A) (B := B ++ [.front 0 0]) hl
  have h3 := VS_store (A := A) (B := B ++ [.front 0 0]) hl
  have h4 := abin_shl_wd (s := t % 64) (Nat.mod_lt _ (by omega))
  simp only [HN_app, List.length_cons, List.length_nil, Nat.zero_add] at g
  unfold withW m122
  simp only [OQ_len, OQ_app, HN_app, List.length_cons, List.length_nil, Nat.zero_add]
  rw [g]
  simp only [Option.bind_some, thenDo_exit, inBlock_exit, BEq.rfl, beq_self_eq_true, cond_true, List.getD_cons_zero, List.getD_cons_succ]
  rw [quo64 ht, Option.bind_some, h1, Option.bind_some, h2, Option.bind_some, rem64, Option.bind_some, h4, Option.bind_some, abin_or_wd, Option.bind_some, Option.bind_some, h3]
  simp only [Option.bind_some, endF_ret, Option.some.injEq, Prod.mk.injEq, Res.ret.injEq, and_true, List.getD_cons_zero]
  exact VS_eq (by simp)

/-- Without a temp. -/
theorem c123 (hB : KB A B) {t : Nat} (ht : t ≤ 2000000) (ws : List Wd) : KK 123 [(VS A.length ws).untok, .int .i64 (t : Int)] (OQ A (XS ws) B) = some (.ret (.tuple []), OQ A (XS (withoutW ws t)) B) := by
  refine evW_by (m123_eq _ _ _ _) ?_
  have htr := fun ws => OQ_trunc0 (X := XS ws) (A := A) (B := B) hB XS_ok
  have hlen : alenSl (VS A.length ws).untok = some (.int .i64 (ws.length : Int)) := by cases ws <;> rfl
  unfold withoutW m123
  rw [quo64 ht, Option.bind_some, hlen]
  by_cases hl : t / 64 < ws.length
  · have hl' : ((t / 64 : Nat) : Int) < (ws.length : Int) := by omega
    have e : (VS A.length ws).untok = VS A.length ws := by cases ws with | nil => simp at hl | cons w r => rfl
    have h1 := fun k => VS_index (id := A.length) (k := k) hl
    have h2 := VS_load (A := A) (B := B) hl
    have h3 := VS_store (A := A) (B := B) hl
    have h4 := abin_shl_wd (s := t % 64) (Nat.mod_lt _ (by omega))
    rw [e, if_pos hl]
    simp only [Option.bind_some, abin_lss, decide_eq_true hl', acond_bool, cond_true]
    rw [h1, Option.bind_some, h2, Option.bind_some, rem64, Option.bind_some, h4, Option.bind_some, abin_andNot_wd, Option.bind_some, Option.bind_some, h3]
    simp -implicitDefEqProofs [finR, htr]
  · have hl' : ¬ ((t / 64 : Nat) : Int) < (ws.length : Int) := by omega
    rw [if_neg hl]
    simp only [Option.bind_some, abin_lss, decide_eq_false hl', acond_bool, cond_false]
    simp -implicitDefEqProofs [finR, htr]
end
end Go.Proofs.YtkeoalhglkfbkaaDoor

/-
  What a set holds, listed: 'list', 'same'. No conditions.
-/
namespace Go.Proofs.YtkeoalhglkfbkaaDoor
open Go Hk Go.Proofs.Wd

/-- A heap that is whole when what lies behind it is dropped. -/
abbrev TH (h : Heap) : Prop := KBn h.length h
theorem trunc_app {h C : Heap} (hK : TH h) : trunc h.length (h ++ C) = some h := by
  unfold trunc
  rw [List.take_left]
  exact hK _ _ (Nat.le_refl _)
theorem trunc_app0 {h : Heap} (hK : TH h) : trunc h.length h = some h := by
  have := trunc_app (C := []) hK
  rwa [List.append_nil] at this
theorem TH_app {h C : Heap} (hK : TH h) (hC : KBn (h.length + C.length) C) : TH (h ++ C) := by
  unfold TH
  rw [List.length_append]
  exact KBn_app (hK.mono (by omega)) hC
theorem OQ_TH {A B : List ABlk} {X : ABlk} (hB : KB A B) (hX : XOk X) : TH (OQ A X B) := by
  intro m h' hm
  rw [OQ_len] at hm
  refine sanBlks_app (hB.a m hm m h' (Nat.le_refl _)) ?_
  simp only [sanBlks, hX m h', hB.b m hm m h' (Nat.le_refl _)]

/-- A set that may be read, in a heap. -/
structure SetIn (h : Heap) (S : AVal) (ws : List Wd) : Prop where
  len : alenSl S = some (.int .i64 (ws.length : Int))
  at_ : ∀ i, i < ws.length → ∃ p, aindexSl 1 S (.int .i64 (i : Int)) = some p ∧ ∀ C, aload false 1 (h ++ C) p = some (wc (ws.getD i 0#64))
  san : ∀ m h', h.length ≤ m → S.san1 m h' = S
def PS (ws : List Wd) : AVal := .slice (ws.map fun w => [wc w]) .no
theorem setIn_PS {h : Heap} {ws : List Wd} : SetIn h (PS ws) ws := by
  refine ⟨by simp [PS], fun i hi => ⟨.pptr [wc (ws.getD i 0#64)], ?_, fun C => by simp⟩, fun m h' _ => rfl⟩
  rw [PS, aindexSl_map, List.getElem?_eq_getElem hi]
  simp [List.getD_eq_getElem?_getD, hi]
theorem setIn_VS {A B : List ABlk} {ws : List Wd} : SetIn (OQ A (XS ws) B) (VS A.length ws) ws := by
  refine ⟨VS_len, fun i hi => ⟨_, VS_index hi, fun C => ?_⟩, fun m h' hm => VS_san1 (by rw [OQ_len] at hm; have := A_lt0 (A := A) (B := B); omega)⟩
  rw [OQ_app]; exact VS_load hi
theorem SetIn.untok {h : Heap} {A B : List ABlk} {ws : List Wd} (e : h = OQ A (XS ws) B) : SetIn h (VS A.length ws).untok ws := by
  subst e
  cases ws with
  | nil => exact ⟨rfl, fun i hi => by simp at hi, fun _ _ _ => rfl⟩
  | cons w r => exact setIn_VS

/-- The block of a list that grows. -/
def FR (n : Nat) : ABlk := if n = 0 then .front 0 0 else .front n 1
theorem FR_ok {n k : Nat} : KBn k [FR n] := by
  unfold FR; split <;> exact KBn_front KBn_nil
def zs (l : List Nat) : List Int := l.map fun k : Nat => (k : Int)
theorem zs_len {l : List Nat} : (zs l).length = l.length := by simp [zs]
def ints (l : List Int) : List (List AVal) := l.map fun n => [.int .i64 n]
theorem FR_append {h C : Heap} {l : List Int} {z : Int} (hl : l.length ≤ 2000000) {t : Hk.Tok} :
    aappend 1 8 (h ++ FR l.length :: C) (.slice (ints l) (.own h.length)) (.slice [[.int .i64 z]] t) = some (.slice (ints (l ++ [z])) (.own h.length), h ++ FR (l.length + 1) :: C) := by
  have hr : ∀ H : Heap, arowsS 1 H (.slice [[.int .i64 z]] t) = some [[.int .i64 z]] := fun H => by simp
  have hg : ∀ x, (h ++ x :: C)[h.length]? = some x := fun x => by rw [List.getElem?_append_right (Nat.le_refl _), Nat.sub_self]; rfl
  have hs : ∀ x y, (h ++ x :: C).set h.length y = h ++ y :: C := fun x y => by rw [List.set_append_right _ _ (Nat.le_refl _), Nat.sub_self]; rfl
  have hi : (ints l).length = l.length := by simp [ints]
  have e1 : FR (l.length + 1) = .front (l.length + 1) 1 := by simp [FR]
  have e2 : ints (l ++ [z]) = ints l ++ [[.int .i64 z]] := by simp [ints]
  unfold aappend
  simp only [hr]
  rw [hg, e1, e2]
  by_cases h0 : l.length = 0
  · have e3 : FR l.length = .front 0 0 := by simp [FR, h0]
    rw [e3]
    simp only [hi, List.length_singleton, hs]
    rw [if_pos ⟨h0, .inr ⟨trivial, trivial⟩, by omega, by omega⟩, if_neg (by omega), h0]
  · have e3 : FR l.length = .front l.length 1 := by simp [FR, h0]
    rw [e3]
    simp only [hi, List.length_singleton, hs]
    rw [if_pos ⟨trivial, .inl trivial, by omega, by omega⟩, if_neg (by omega)]

section
variable {h : Heap} (hK : TH h) {S : AVal} {ws : List Wd} (hS : SetIn h S ws) (hw : ws.length ≤ 20000)
include hK hS hw

theorem m63_loop0 (i : Nat) (hi : i ≤ 20000) (c : Int) {v : AVal} (hv : ∀ h', v.san1 (h.length + 2) h' = v) (hv2 : ∀ h', v.san (h.length + 2) h' = v) : ∀ (n : Nat) (w : Wd) (l : List Int), w.toNat < n → l.length + (listW w).length ≤ 64 * i + 64 →
    lpW (m63_l0 KK (h.length + 2)) ([v, .slice (ints l) (.own (h.length + 1)), .int .i64 (i : Int), wc w, S, .int .i64 c, .int .i64 (i : Int)], h ++ [.front 0 0, FR l.length]) =
      some (.exit 2, [v, .slice (ints (l ++ (listW w).map fun k => ((64 * i + k : Nat) : Int))) (.own (h.length + 1)), .int .i64 (i : Int), wc 0#64, S, .int .i64 c, .int .i64 (i : Int)], h ++ [.front 0 0, FR (l ++ (listW w).map fun k => ((64 * i + k : Nat) : Int)).length]) := by
  have hSs : ∀ h', S.san (h.length + 2) h' = S := fun h' => by
    have h1 := hS.len
    cases S with
    | slice rows t => exact hS.san _ h' (by omega)
    | mslice a b c d => exact hS.san _ h' (by omega)
    | vslice a b c d e => exact hS.san _ h' (by omega)
    | _ => simp [alenSl] at h1
  have hT : ∀ n, TH (h ++ [.front 0 0, FR n]) := fun n => TH_app hK (KBn_front FR_ok)
  have htr : ∀ n C, trunc (h.length + 2) (h ++ .front 0 0 :: FR n :: C) = some (h ++ [.front 0 0, FR n]) := fun n C => by
    have := trunc_app (C := C) (hT n)
    simpa using this
  have hwc : ∀ w h', AVal.san (h.length + 2) h' (wc w) = wc w := fun w h' => rfl
  intro n
  induction n with
  | zero => intro w l a1; omega
  | succ n ih =>
    intro w l a1 a2
    rw [lpW_step]
    have f0 := wc_zero w
    by_cases h0 : w = 0#64
    · subst h0
      rw [listW_zero]
      have step : m63_l0 KK (h.length + 2) ([v, .slice (ints l) (.own (h.length + 1)), .int .i64 (i : Int), wc 0#64, S, .int .i64 c, .int .i64 (i : Int)], h ++ [.front 0 0, FR l.length]) =
          some (.exit 2, [v, .slice (ints l) (.own (h.length + 1)), .int .i64 (i : Int), wc 0#64, S, .int .i64 c, .int .i64 (i : Int)], h ++ [.front 0 0, FR l.length]) := by
        unfold m63_l0
        simp only [List.getD_cons_zero, List.getD_cons_succ]
        rw [f0]
        simp -implicitDefEqProofs [endR, htr, hv2, hSs, hwc]
      rw [step]; simp
    · obtain ⟨k, hk, h1, h2, h3⟩ := lowest w h0
      have hc := clear_lt w h0
      have hlw := listW_cons w hk h1 h2 h3
      have f1 := abin_sub_wd w
      have f2 := abin_and_wd w (w - 1#64)
      have f3 := fun h' => c125 w hk h1 h2 h3 h'
      have g := ih (w &&& (w - 1#64)) (l ++ [((64 * i + k : Nat) : Int)]) (by omega) (by rw [hlw] at a2; simp at a2 ⊢; omega)
      have hle : (listW w).length ≤ 64 := by unfold listW; exact Nat.le_trans (List.length_filter_le _ _) (by simp)
      have w1 : IntKind.i64.wrap (64 * (i : Int)) = 64 * (i : Int) := by rw [wrap64] <;> omega
      have w2 : IntKind.i64.wrap (64 * (i : Int) + (k : Int)) = ((64 * i + k : Nat) : Int) := by rw [wrap64] <;> omega
      have fa := fun C t => FR_append (h := h ++ [.front 0 0]) (C := C) (l := l) (z := ((64 * i + k : Nat) : Int)) (by omega) (t := t)
      simp only [List.length_append, List.length_cons, List.length_nil, Nat.zero_add, List.append_assoc, List.cons_append, List.nil_append] at fa
      have fb : ∀ (h' : Heap) (z : Int), abuildSlice 1 1 [.int .i64 0] [(0, .int .i64 z)] h' = some (.slice [[.int .i64 z]] (.own h'.length), h' ++ [.front 1 1]) := fun h' z => rfl
      rw [hlw]
      simp only [List.map_cons]
      have e : l ++ ((64 * i + k : Nat) : Int) :: (listW (w &&& (w - 1#64))).map (fun k => ((64 * i + k : Nat) : Int)) = (l ++ [((64 * i + k : Nat) : Int)]) ++ (listW (w &&& (w - 1#64))).map (fun k => ((64 * i + k : Nat) : Int)) := by simp
      rw [e, ← g]
      clear g ih a2 hlw e a1 hc h1 h2 h3 hle
      generalize (64 * i + k : Nat) = z at *
      generalize w - 1#64 = wm at *
      generalize w &&& wm = w' at *
      have f0' : abin .neq (wc w) (.int .u64 0) = some (.bool true) := by rw [f0, decide_eq_false h0]; rfl
      have fu : AVal.untok (wc w) = wc w := rfl
      have step : m63_l0 KK (h.length + 2) ([v, .slice (ints l) (.own (h.length + 1)), .int .i64 (i : Int), wc w, S, .int .i64 c, .int .i64 (i : Int)], h ++ [.front 0 0, FR l.length]) =
          some (.normal, [v, .slice (ints (l ++ [(z : Int)])) (.own (h.length + 1)), .int .i64 (i : Int), wc w', S, .int .i64 c, .int .i64 (i : Int)], h ++ [.front 0 0, FR (l.length + 1)]) := by
        clear f0
        have hw' := fun h' => hwc w' h'
        clear hwc
        generalize wc w = a at *
        generalize wc w' = a' at *
        generalize wc wm = am at *
        unfold m63_l0
        simp only [List.getD_cons_zero, List.getD_cons_succ]
        rw [f0']
        simp -implicitDefEqProofs [endR, htr, hv2, hSs, w1, w2, f1, f2, f3, fa, fb, fu, hw']
      rw [step]; simp

theorem m63_loop1 {v : AVal} (hv : ∀ h', v.san1 (h.length + 2) h' = v) (hv2 : ∀ h', v.san (h.length + 2) h' = v) : ∀ (n i : Nat), ws.length < i + n → i ≤ ws.length →
    ∃ j : Int, lpW (m63_l1 KK (h.length + 2)) ([v, .slice (ints (zs (listUpto ws i))) (.own (h.length + 1)), S, .int .i64 (ws.length : Int), .int .i64 (i : Int)], h ++ [.front 0 0, FR (listUpto ws i).length]) =
      some (.exit 0, [v, .slice (ints (zs (listUpto ws ws.length))) (.own (h.length + 1)), S, .int .i64 (ws.length : Int), .int .i64 j], h ++ [.front 0 0, FR (listUpto ws ws.length).length]) := by
  have hSs : ∀ h', S.san (h.length + 2) h' = S := fun h' => by
    have h1 := hS.len
    cases S with
    | slice rows t => exact hS.san _ h' (by omega)
    | mslice a b c d => exact hS.san _ h' (by omega)
    | vslice a b c d e => exact hS.san _ h' (by omega)
    | _ => simp [alenSl] at h1
  have hT : ∀ n, TH (h ++ [.front 0 0, FR n]) := fun n => TH_app hK (KBn_front FR_ok)
  have htr : ∀ n C, trunc (h.length + 2) (h ++ .front 0 0 :: FR n :: C) = some (h ++ [.front 0 0, FR n]) := fun n C => by
    have := trunc_app (C := C) (hT n)
    simpa using this
  have hlu : ∀ i, (listUpto ws i).length ≤ 64 * i := fun i => by
    rw [listUpto_eq]; exact Nat.le_trans (List.length_filter_le _ _) (by simp)
  intro n
  induction n with
  | zero => intro i a1 a2; omega
  | succ n ih =>
    intro i a1 a2
    rw [lpW_step]
    by_cases hi : i < ws.length
    · have hi' : (i : Int) < ws.length := by omega
      obtain ⟨p, e1, e2⟩ := hS.at_ i hi
      have w1 := wrapS (a := i) (by omega)
      have g0 := m63_loop0 hK hS hw i (by omega) (ws.length : Int) hv hv2 ((ws.getD i 0#64).toNat + 1) (ws.getD i 0#64) (zs (listUpto ws i)) (by omega) (by
        have h1 := hlu i
        have h2 : (listW (ws.getD i 0#64)).length ≤ 64 := by unfold listW; exact Nat.le_trans (List.length_filter_le _ _) (by simp)
        rw [zs_len]; omega)
      have eu : listUpto ws (i + 1) = listUpto ws i ++ (listW (ws.getD i 0#64)).map (64 * i + ·) := by
        unfold listUpto; rw [List.range_succ, List.flatMap_append]; simp
      have el : (zs (listUpto ws i)) ++ (listW (ws.getD i 0#64)).map (fun k => ((64 * i + k : Nat) : Int)) = zs (listUpto ws (i + 1)) := by
        rw [eu, zs, zs, List.map_append, List.map_map]; rfl
      rw [el] at g0
      simp only [zs_len] at g0
      obtain ⟨j, g1⟩ := ih (i + 1) (by omega) hi
      refine ⟨j, ?_⟩
      rw [← g1]
      simp only [Int.natCast_add, Int.cast_ofNat_Int]
      have e2' := e2 [.front 0 0, FR (listUpto ws i).length]
      clear g1 ih e2 eu el
      generalize wc (ws.getD i 0#64) = a at *
      have step : m63_l1 KK (h.length + 2) ([v, .slice (ints (zs (listUpto ws i))) (.own (h.length + 1)), S, .int .i64 (ws.length : Int), .int .i64 (i : Int)], h ++ [.front 0 0, FR (listUpto ws i).length]) =
          some (.normal, [v, .slice (ints (zs (listUpto ws (i + 1)))) (.own (h.length + 1)), S, .int .i64 (ws.length : Int), .int .i64 ((i : Int) + 1)], h ++ [.front 0 0, FR (listUpto ws (i + 1)).length]) := by
        unfold m63_l1
        simp -implicitDefEqProofs [hi', e1, e2', g0, endR, htr, hv2, hSs, w1]
      rw [step]; rfl
    · have hi' : ¬ (i : Int) < ws.length := by omega
      obtain rfl : i = ws.length := by omega
      refine ⟨(ws.length : Int), ?_⟩
      have step : m63_l1 KK (h.length + 2) ([v, .slice (ints (zs (listUpto ws ws.length))) (.own (h.length + 1)), S, .int .i64 (ws.length : Int), .int .i64 (ws.length : Int)], h ++ [.front 0 0, FR (listUpto ws ws.length).length]) =
          some (.exit 0, [v, .slice (ints (zs (listUpto ws ws.length))) (.own (h.length + 1)), S, .int .i64 (ws.length : Int), .int .i64 (ws.length : Int)], h ++ [.front 0 0, FR (listUpto ws ws.length).length]) := by
        unfold m63_l1
        simp -implicitDefEqProofs [endR, htr, hv2, hSs]
      rw [step]; rfl

theorem c63 : KK 63 [S] h = some (.ret (.slice (ints (zs (listS ws))) .no), h) := by
  refine evW_by (m63_eq _ _ _) ?_
  obtain ⟨j, g⟩ := m63_loop1 hK hS hw (v := .slice [] (.own h.length)) (fun h' => by simp) (fun h' => by simp) (ws.length + 1) 0 (by omega) (Nat.zero_le _)
  have e0 : listUpto ws 0 = [] := rfl
  rw [e0] at g
  have hl := hS.len
  have htr := fun C => trunc_app (C := C) hK
  rw [listS_upto]
  have e1 : FR ([] : List Nat).length = .front 0 0 := rfl
  have e2 : ints (zs []) = [] := rfl
  rw [e1, e2] at g
  simp only [Int.cast_ofNat_Int] at g
  unfold m63
  have hd : decide (h.length + 1 < h.length) = false := by simp
  simp -implicitDefEqProofs [hl, g, finR, htr, hd]
end

/-- Are lists of numbers the same? -/
theorem m124_loop (a b : List Int) (hab : a.length = b.length) (hl : a.length ≤ 2000000) : ∀ (n i : Nat), a.length < i + n → i ≤ a.length →
    ∃ (ex : Ex) (r : Bool) (j : Int), lpW (m124_l0 KK 0) ([.slice (ints a) .no, .slice (ints b) .no, .bool false, .int .i64 (a.length : Int), .int .i64 (i : Int)], []) = some (ex, [.slice (ints a) .no, .slice (ints b) .no, .bool r, .int .i64 (a.length : Int), .int .i64 j], []) ∧
      ((ex = .ret ∧ r = false ∧ a.drop i ≠ b.drop i) ∨ (ex = .exit 0 ∧ a.drop i = b.drop i)) := by
  intro n
  induction n with
  | zero => intro i a1 a2; omega
  | succ n ih =>
    intro i a1 a2
    rw [lpW_step]
    by_cases hi : i < a.length
    · have hi' : (i : Int) < a.length := by omega
      have hx : a[i]? = some a[i] := List.getElem?_eq_getElem hi
      have hib : i < b.length := by omega
      have hy : b[i]? = some b[i] := List.getElem?_eq_getElem hib
      have w1 := wrapS (a := i) (by omega)
      rw [List.drop_eq_getElem_cons hi, List.drop_eq_getElem_cons hib]
      generalize a[i] = x at *
      generalize b[i] = y at *
      by_cases he : x = y
      · obtain ⟨ex, r, j, g1, g2⟩ := ih (i + 1) (by omega) hi
        refine ⟨ex, r, j, ?_, ?_⟩
        · simp only [Int.natCast_add, Int.cast_ofNat_Int] at g1
          rw [← g1]
          simp [m124_l0, hi', hx, hy, ints, he, endR_zero, w1]
        · rw [he]; simpa using g2
      · refine ⟨.ret, false, i, ?_, .inl ⟨rfl, rfl, by simp [he]⟩⟩
        simp [m124_l0, hi', hx, hy, ints, he, endR_zero]
    · have hi' : ¬ (i : Int) < a.length := by omega
      rw [List.drop_eq_nil_of_le (by omega), List.drop_eq_nil_of_le (by omega)]
      refine ⟨.exit 0, false, i, ?_, .inr ⟨rfl, rfl⟩⟩
      simp [m124_l0, hi', endR_zero]
theorem c124 (a b : List Int) (hl : a.length ≤ 2000000) (h : Heap) : KK 124 [.slice (ints a) .no, .slice (ints b) .no] h = some (.ret (.bool (decide (a = b))), h) := by
  refine callP_pure rfl rfl (evW_by (m124_eq _ _ _ _) ?_)
  have e1 : alenSl (.slice (ints a) .no) = some (.int .i64 (a.length : Int)) := by simp [ints]
  have e2 : alenSl (.slice (ints b) .no) = some (.int .i64 (b.length : Int)) := by simp [ints]
  by_cases hab : a.length = b.length
  · obtain ⟨ex, r, j, g1, g2⟩ := m124_loop a b hab hl (a.length + 1) 0 (by omega) (Nat.zero_le _)
    simp only [List.drop_zero, Int.cast_ofNat_Int] at g1 g2
    rw [← hab] at e2
    unfold m124
    rcases g2 with ⟨rfl, rfl, g2⟩ | ⟨rfl, g2⟩
    · simp [e1, e2, g1, g2, finR_zero]
    · subst g2
      simp [e1, g1, finR_zero]
  · have hab' : ¬ ((a.length : Int) = (b.length : Int)) := by omega
    have hne : ¬ a = b := fun e => hab (by rw [e])
    unfold m124
    simp [e1, e2, hab, hab', hne, finR_zero]

theorem c62 {h : Heap} (hK : TH h) {S T : AVal} {a b : List Wd} (hS : SetIn h S.untok a) (hT : SetIn h T.untok b) (ha : a.length ≤ 20000) (hb : b.length ≤ 20000) :
    KK 62 [S, T] h = some (.ret (.bool (decide (listS a = listS b))), h) := by
  refine evW_by (m62_eq _ _ _ _) ?_
  have f1 := c63 hK hS ha
  have f2 := c63 hK hT hb
  have f3 := fun h' => c124 (zs (listS a)) (zs (listS b)) (by
    rw [zs_len, listS]; exact Nat.le_trans (List.length_filter_le _ _) (by simp; omega)) h'
  have e : decide (zs (listS a) = zs (listS b)) = decide (listS a = listS b) := by
    congr 1
    refine propext ⟨fun h => ?_, fun h => by rw [h]⟩
    exact (List.map_inj_right (fun x y hxy => Int.ofNat_inj.1 hxy)).1 h
  rw [e] at f3
  have htr := trunc_app0 hK
  simp -implicitDefEqProofs [m62, f1, f2, f3, finR, htr]
end Go.Proofs.YtkeoalhglkfbkaaDoor

/-
  Sets joined; what a block's end reads. No conditions.
-/
namespace Go.Proofs.YtkeoalhglkfbkaaDoor
open Go Hk Go.Proofs.Wd

def orFrom (out s : List Wd) : Nat → List Wd
  | 0 => padW out s.length
  | i + 1 => (orFrom out s i).set i ((orFrom out s i).getD i 0#64 ||| s.getD i 0#64)
theorem orFrom_len (out s : List Wd) : ∀ i, (orFrom out s i).length = max out.length s.length
  | 0 => padW_len _ _
  | i + 1 => by simp [orFrom, orFrom_len out s i]
theorem orFrom_getD (out s : List Wd) : ∀ i, i ≤ s.length → ∀ j, (orFrom out s i).getD j 0#64 = if j < i then out.getD j 0#64 ||| s.getD j 0#64 else out.getD j 0#64
  | 0, _, j => by rw [if_neg (by omega)]; exact padW_getD _ _ _
  | i + 1, hi, j => by
    have ih := orFrom_getD out s i (by omega)
    rw [orFrom, getD_set _ _ _ _ (by rw [orFrom_len]; omega), ih i, ih j, if_neg (Nat.lt_irrefl _)]
    by_cases h : i = j
    · subst h; rw [if_pos rfl, if_pos (by omega)]
    · rw [if_neg h]
      by_cases h2 : j < i
      · rw [if_pos h2, if_pos (by omega)]
      · rw [if_neg h2, if_neg (by omega)]
theorem ext_getD {a b : List Wd} (hl : a.length = b.length) (h : ∀ j, a.getD j 0#64 = b.getD j 0#64) : a = b := by
  apply List.ext_getElem hl
  intro i h1 h2
  have := h i
  simpa [List.getD_eq_getElem?_getD, h1, h2] using this
theorem orFrom_all (out s : List Wd) : orFrom out s s.length = orW out s := by
  refine ext_getD (by rw [orFrom_len, orW_len]) fun j => ?_
  rw [orFrom_getD _ _ _ (Nat.le_refl _), orW_getD]
  split
  · rfl
  · rename_i h
    have : s.getD j 0#64 = 0#64 := by rw [List.getD_eq_getElem?_getD, List.getElem?_eq_none (by omega)]; rfl
    rw [this]; simp
def joinW (L : List (List Wd)) : List Wd := L.foldl orW []
theorem wget_join (t : Nat) : ∀ (L : List (List Wd)) (out : List Wd), wget (L.foldl orW out) t = (wget out t || L.any (wget · t))
  | [], out => by simp
  | s :: r, out => by rw [List.foldl_cons, wget_join t r, wget_or, List.any_cons, Bool.or_assoc]
theorem join_len (n : Nat) : ∀ (L : List (List Wd)) (out : List Wd), out.length ≤ n → (∀ s ∈ L, s.length ≤ n) → (L.foldl orW out).length ≤ n
  | [], out, h, _ => h
  | s :: r, out, h, hl => by
    rw [List.foldl_cons]
    exact join_len n r _ (by rw [orW_len]; have := hl s (by simp); omega) fun x hx => hl x (by simp [hx])

section
variable {A B : List ABlk} (hB : KB A B)
include hB
theorem m59_loop0 {s : List Wd} (hs : s.length ≤ 20000) {v x c : AVal} {i : Int} (hv : ∀ h, v.san (HN A B) h = v) (hx : ∀ h, x.san (HN A B) h = x) (hc : ∀ h, c.san (HN A B) h = c) : ∀ (d : Nat) (ws : List Wd), s.length - ws.length = d →
    lpW (m59_l0 KK (HN A B)) ([v, VS A.length ws, PS s, x, c, .int .i64 i], OQ A (XS ws) B) = some (.exit 2, [v, VS A.length (padW ws s.length), PS s, x, c, .int .i64 i], OQ A (XS (padW ws s.length)) B) := by
  have hps : alenSl (PS s) = some (.int .i64 (s.length : Int)) := by simp [PS]
  have hpn : ∀ h, (PS s).san (HN A B) h = PS s := fun h => rfl
  intro d
  induction d with
  | zero =>
    intro ws hd
    rw [lpW_step, padW_of_le (by omega)]
    have hcc : ¬ ((ws.length : Int) < (s.length : Int)) := by omega
    have htr := OQ_trunc0 (X := XS ws) (A := A) (B := B) hB XS_ok
    have hsn := fun h => VS_san (ws := ws) (m := HN A B) (h := h) A_lt0
    have step : m59_l0 KK (HN A B) ([v, VS A.length ws, PS s, x, c, .int .i64 i], OQ A (XS ws) B) = some (.exit 2, [v, VS A.length ws, PS s, x, c, .int .i64 i], OQ A (XS ws) B) := by
      unfold m59_l0
      simp only [List.getD_cons_zero, List.getD_cons_succ]
      rw [VS_len, hps]
      simp -implicitDefEqProofs [hcc, endR, htr, hsn, hv, hx, hc, hpn]
    rw [step]; rfl
  | succ d ih =>
    intro ws hd
    rw [lpW_step]
    have hcc : ((ws.length : Int) < (s.length : Int)) := by omega
    have htr := OQ_trunc (X := XS (ws ++ [0#64])) (A := A) (B := B) (C := [.front 1 1]) hB XS_ok
    have hsn := fun h => VS_san (ws := ws ++ [0#64]) (m := HN A B) (h := h) A_lt0
    have g := ih (ws ++ [0#64]) (by simp; omega)
    rw [padW_snoc (by omega)] at g
    rw [← g]
    have ha := fun t => VS_append (A := A) (B := B ++ [.front 1 1]) (ws := ws) (by omega) 0#64 (t := t)
    clear g ih
    have step : m59_l0 KK (HN A B) ([v, VS A.length ws, PS s, x, c, .int .i64 i], OQ A (XS ws) B) = some (.normal, [v, VS A.length (ws ++ [0#64]), PS s, x, c, .int .i64 i], OQ A (XS (ws ++ [0#64])) B) := by
      unfold m59_l0
      simp only [List.getD_cons_zero, List.getD_cons_succ]
      rw [VS_len, hps]
      simp -implicitDefEqProofs [hcc, endR, htr, hsn, hv, hx, hc, hpn, one_word, ha]
    rw [step]; rfl

theorem m59_loop1 {s out : List Wd} (hs : s.length ≤ 20000) {v x c : AVal} {i : Int} (hv : ∀ h, v.san (HN A B) h = v) (hx : ∀ h, x.san (HN A B) h = x) (hc : ∀ h, c.san (HN A B) h = c) : ∀ (d j : Nat), s.length = j + d →
    lpW (m59_l1 KK (HN A B)) ([v, VS A.length (orFrom out s j), x, c, .int .i64 i, PS s, .int .i64 (s.length : Int), .int .i64 (j : Int)], OQ A (XS (orFrom out s j)) B) =
      some (.exit 4, [v, VS A.length (orW out s), x, c, .int .i64 i, PS s, .int .i64 (s.length : Int), .int .i64 (s.length : Int)], OQ A (XS (orW out s)) B) := by
  have hpn : ∀ h, (PS s).san (HN A B) h = PS s := fun h => rfl
  intro d
  induction d with
  | zero =>
    intro j hj
    obtain rfl : s.length = j := by omega
    rw [lpW_step, orFrom_all]
    have htr := OQ_trunc0 (X := XS (orW out s)) (A := A) (B := B) hB XS_ok
    have hsn := fun h => VS_san (ws := orW out s) (m := HN A B) (h := h) A_lt0
    have step : m59_l1 KK (HN A B) ([v, VS A.length (orW out s), x, c, .int .i64 i, PS s, .int .i64 (s.length : Int), .int .i64 (s.length : Int)], OQ A (XS (orW out s)) B) =
        some (.exit 4, [v, VS A.length (orW out s), x, c, .int .i64 i, PS s, .int .i64 (s.length : Int), .int .i64 (s.length : Int)], OQ A (XS (orW out s)) B) := by
      unfold m59_l1
      simp -implicitDefEqProofs [endR, htr, hsn, hv, hx, hc, hpn]
    rw [step]; rfl
  | succ d ih =>
    intro j hj
    rw [lpW_step]
    have hcc : ((j : Int) < (s.length : Int)) := by omega
    have hjl : j < (orFrom out s j).length := by rw [orFrom_len]; omega
    have w1 := wrapS (a := j) (by omega)
    have e1 := fun k => VS_index (id := A.length) (k := k) hjl
    have e2 := VS_load (A := A) (B := B) hjl
    have e3 := VS_store (A := A) (B := B) hjl
    have e4 : aindexSl 1 (PS s) (.int .i64 (j : Int)) = some (.pptr [wc (s.getD j 0#64)]) := by
      rw [PS, aindexSl_map, List.getElem?_eq_getElem (by omega)]
      simp [List.getD_eq_getElem?_getD, show j < s.length by omega]
    have e5 := abin_or_wd ((orFrom out s j).getD j 0#64) (s.getD j 0#64)
    have eV : VS A.length (orFrom out s j) = VS A.length (orFrom out s (j + 1)) := VS_eq (by rw [orFrom_len, orFrom_len])
    have htr := OQ_trunc0 (X := XS (orFrom out s (j + 1))) (A := A) (B := B) hB XS_ok
    have hsn := fun h => VS_san (ws := orFrom out s (j + 1)) (m := HN A B) (h := h) A_lt0
    have g := ih (j + 1) (by omega)
    rw [← g]
    clear g ih
    have e3' := e3 ((orFrom out s j).getD j 0#64 ||| s.getD j 0#64)
    have eo : (orFrom out s j).set j ((orFrom out s j).getD j 0#64 ||| s.getD j 0#64) = orFrom out s (j + 1) := rfl
    rw [eo] at e3'
    have w1' : IntKind.i64.wrap ((j : Int) + 1) = ((j + 1 : Nat) : Int) := by rw [w1]; simp
    have step : m59_l1 KK (HN A B) ([v, VS A.length (orFrom out s j), x, c, .int .i64 i, PS s, .int .i64 (s.length : Int), .int .i64 (j : Int)], OQ A (XS (orFrom out s j)) B) =
        some (.normal, [v, VS A.length (orFrom out s (j + 1)), x, c, .int .i64 i, PS s, .int .i64 (s.length : Int), .int .i64 ((j + 1 : Nat) : Int)], OQ A (XS (orFrom out s (j + 1))) B) := by
      rw [← eV] at hsn ⊢
      clear e3 eo
      generalize orFrom out s (j + 1) = o2 at *
      generalize wc ((orFrom out s j).getD j 0#64 ||| s.getD j 0#64) = a1 at *
      generalize wc ((orFrom out s j).getD j 0#64) = a2 at *
      generalize wc (s.getD j 0#64) = a3 at *
      generalize ((j + 1 : Nat) : Int) = j1 at *
      unfold m59_l1
      simp -implicitDefEqProofs [hcc, e1, e2, e3', e4, e5, endR, htr, hsn, hv, hx, hc, hpn, w1']
    rw [step]; rfl
end

section
variable {A : List ABlk} (hB : KB A [])
include hB
theorem m59_loop2 {L : List (List Wd)} (hL : L.length ≤ 2000000) (hl : ∀ s ∈ L, s.length ≤ 20000) {v : AVal} (hv : ∀ h, v.san (HN A []) h = v) : ∀ (d i : Nat) (out : List Wd), L.length = i + d →
    lpW (m59_l2 KK (HN A [])) ([v, VS A.length out, .slice (L.map fun s => [PS s]) .no, .int .i64 (L.length : Int), .int .i64 (i : Int)], OQ A (XS out) []) =
      some (.exit 0, [v, VS A.length ((L.drop i).foldl orW out), .slice (L.map fun s => [PS s]) .no, .int .i64 (L.length : Int), .int .i64 (L.length : Int)], OQ A (XS ((L.drop i).foldl orW out)) []) := by
  intro d
  induction d with
  | zero =>
    intro i out hi
    obtain rfl : L.length = i := by omega
    rw [lpW_step, List.drop_length]
    have htr := OQ_trunc0 (X := XS out) (A := A) hB XS_ok
    have hsn := fun h => VS_san (ws := out) (m := HN A []) (h := h) A_lt0
    have step : m59_l2 KK (HN A []) ([v, VS A.length out, .slice (L.map fun s => [PS s]) .no, .int .i64 (L.length : Int), .int .i64 (L.length : Int)], OQ A (XS out) []) =
        some (.exit 0, [v, VS A.length out, .slice (L.map fun s => [PS s]) .no, .int .i64 (L.length : Int), .int .i64 (L.length : Int)], OQ A (XS out) []) := by
      unfold m59_l2
      simp -implicitDefEqProofs [endR, htr, hsn, hv]
    rw [step]; rfl
  | succ d ih =>
    intro i out hi
    rw [lpW_step]
    have hil : i < L.length := by omega
    have hcc : ((i : Int) < (L.length : Int)) := by omega
    have hx : L[i]? = some L[i] := List.getElem?_eq_getElem hil
    have hsl := hl L[i] (List.getElem_mem hil)
    have w1 : IntKind.i64.wrap ((i : Int) + 1) = ((i + 1 : Nat) : Int) := by rw [wrapS (a := i) (by omega)]; simp
    rw [List.drop_eq_getElem_cons hil]
    generalize L[i] = s at *
    have hc : ∀ h, (AVal.int .i64 (L.length : Int)).san (HN A []) h = .int .i64 (L.length : Int) := fun h => rfl
    have hxx : ∀ h, (AVal.slice (L.map fun s => [PS s]) .no).san (HN A []) h = .slice (L.map fun s => [PS s]) .no := fun h => rfl
    have g0 := m59_loop0 hB hsl (i := (i : Int)) hv hxx hc _ out rfl
    have g1 := m59_loop1 hB hsl (out := out) (i := (i : Int)) hv hxx hc s.length 0 (by omega)
    have htr := OQ_trunc0 (X := XS (orW out s)) (A := A) hB XS_ok
    have hsn := fun h => VS_san (ws := orW out s) (m := HN A []) (h := h) A_lt0
    have hps : alenSl (PS s) = some (.int .i64 (s.length : Int)) := by simp [PS]
    have e4 : aindexSl 1 (.slice (L.map fun s => [PS s]) .no) (.int .i64 (i : Int)) = some (.pptr [PS s]) := by
      rw [aindexSl_map, hx]; rfl
    simp only [orFrom, Int.cast_ofNat_Int] at g1
    rw [List.foldl_cons, ← ih (i + 1) (orW out s) (by omega)]
    clear ih
    generalize ((i + 1 : Nat) : Int) = i1 at *
    have step : m59_l2 KK (HN A []) ([v, VS A.length out, .slice (L.map fun s => [PS s]) .no, .int .i64 (L.length : Int), .int .i64 (i : Int)], OQ A (XS out) []) =
        some (.normal, [v, VS A.length (orW out s), .slice (L.map fun s => [PS s]) .no, .int .i64 (L.length : Int), .int .i64 i1], OQ A (XS (orW out s)) []) := by
      generalize hR : AVal.slice (L.map fun s => [PS s]) .no = R at *
      unfold m59_l2
      simp -implicitDefEqProofs [hcc, e4, g0, hps, g1, endR, htr, hsn, hv, hxx, w1]
    rw [step]; rfl
end
/-- Sets joined. -/
theorem c59 {h : Heap} (hK : TH h) {L : List (List Wd)} (hL : L.length ≤ 2000000) (hl : ∀ s ∈ L, s.length ≤ 20000) :
    KK 59 [.slice (L.map fun s => [PS s]) .no] h = some (.ret (VS (h.length + 1) (joinW L)), OQ (h ++ [.front 0 0]) (XS (joinW L)) []) := by
  refine evW_by (m59_eq _ _ _) ?_
  have hB : KB (h ++ [.front 0 0]) [] := ⟨fun n hn => KBn_app (hK.mono (by simp [HN] at hn; omega)) (KBn_front KBn_nil), fun n hn => KBn_nil⟩
  have hH : HN (h ++ [.front 0 0]) [] = h.length + 2 := by simp [HN]
  have hA : (h ++ [ABlk.front 0 0]).length = h.length + 1 := by simp
  have g := m59_loop2 hB hL hl (v := .slice [] (.own h.length)) (fun h' => by rw [hH]; simp) L.length 0 [] (by omega)
  have e0 : OQ (h ++ [.front 0 0]) (XS []) [] = h ++ [.front 0 0, .front 0 0] := by simp [OQ, XS]
  have e1 : VS (h.length + 1) [] = .slice [] (.own (h.length + 1)) := rfl
  rw [hH, hA, e0, e1] at g
  simp only [List.drop_zero, Int.cast_ofNat_Int] at g
  unfold joinW
  generalize L.foldl orW [] = J at *
  unfold m59
  simp -implicitDefEqProofs [g]
end Go.Proofs.YtkeoalhglkfbkaaDoor

/-
  What is wanted ahead of operations and ends, as sets. No conditions.
-/
namespace Go.Proofs.YtkeoalhglkfbkaaDoor
open Go Hk Go.Proofs.Wd

def readsW (t : Term) (ws : List Wd) : List Wd := if t.kind = 2 ∧ 0 ≤ t.a then withW ws t.a.toNat else ws
def readsG (t : Term) : List ABlk := .cells t.cells :: .front 0 0 :: if t.kind = 2 ∧ 0 ≤ t.a then [.front 0 0] else []
def withL (ws : List Wd) (l : List Int) : List Wd := l.foldl (fun ws t => if 0 ≤ t then withW ws t.toNat else ws) ws
def aheadW (o : Op) (ws : List Wd) : List Wd := withL (if (formS o.kind).dst = true ∧ 0 ≤ o.dst then withoutW ws o.dst.toNat else ws) (usesS o)
def aheadG (o : Op) : List ABlk := [.cells o.cells, .front 0 0]

theorem wget_reads (t : Term) (ws : List Wd) (u : Nat) : wget (readsW t ws) u = true ↔ trEnd t (fun u => 0 ≤ u ∧ wget ws u.toNat = true) (u : Int) := by
  unfold readsW trEnd
  split
  · rename_i h
    obtain ⟨n, hn⟩ := Int.eq_ofNat_of_zero_le h.2
    rw [wget_with, Bool.or_eq_true, decide_eq_true_eq]
    simp only [Int.toNat_natCast]
    constructor
    · rintro (h1 | h1)
      · exact .inr ⟨by omega, h1⟩
      · exact .inl ⟨h.1, by omega⟩
    · rintro (⟨_, h1⟩ | ⟨_, h1⟩)
      · exact .inr (by omega)
      · exact .inl h1
  · rename_i h
    simp only [Int.toNat_natCast]
    constructor
    · exact fun h1 => .inr ⟨by omega, h1⟩
    · rintro (⟨h1, h2⟩ | ⟨_, h1⟩)
      · exact absurd ⟨h1, by omega⟩ h
      · exact h1
theorem wget_withL (u : Nat) : ∀ (l : List Int) (ws : List Wd), wget (withL ws l) u = true ↔ (u : Int) ∈ l ∨ wget ws u = true
  | [], ws => by simp [withL]
  | t :: r, ws => by
    have ih := wget_withL u r (if 0 ≤ t then withW ws t.toNat else ws)
    have e : withL ws (t :: r) = withL (if 0 ≤ t then withW ws t.toNat else ws) r := rfl
    rw [e, ih, List.mem_cons]
    split
    · rename_i h
      rw [wget_with, Bool.or_eq_true, decide_eq_true_eq]
      constructor
      · rintro (h1 | h1 | h1)
        · exact .inl (.inr h1)
        · exact .inr h1
        · exact .inl (.inl (by omega))
      · rintro ((h1 | h1) | h1)
        · exact .inr (.inr (by omega))
        · exact .inl h1
        · exact .inr (.inl h1)
    · rename_i h
      constructor
      · rintro (h1 | h1)
        · exact .inl (.inr h1)
        · exact .inr h1
      · rintro ((h1 | h1) | h1)
        · omega
        · exact .inl h1
        · exact .inr h1
theorem wget_ahead (o : Op) (ws : List Wd) (u : Nat) : wget (aheadW o ws) u = true ↔ trOp o (fun u => 0 ≤ u ∧ wget ws u.toNat = true) (u : Int) := by
  unfold aheadW trOp
  rw [wget_withL]
  refine or_congr Iff.rfl ?_
  split
  · rename_i h
    rw [wget_without, Bool.and_eq_true, Bool.not_eq_true', decide_eq_false_iff_not]
    simp only [Int.toNat_natCast, h.1, true_and]
    constructor
    · rintro ⟨h1, h2⟩; exact ⟨⟨by omega, h1⟩, by omega⟩
    · rintro ⟨⟨_, h1⟩, h2⟩; exact ⟨h1, by omega⟩
  · rename_i h
    simp only [Int.toNat_natCast]
    constructor
    · intro h1; exact ⟨⟨by omega, h1⟩, fun h2 => h ⟨h2.1, by omega⟩⟩
    · rintro ⟨⟨_, h1⟩, _⟩; exact h1
theorem withL_len {n : Nat} : ∀ (l : List Int) (ws : List Wd), (∀ t ∈ l, t < 64 * n) → ws.length ≤ n → (withL ws l).length ≤ n
  | [], ws, _, h => h
  | t :: r, ws, hl, h => by
    have e : withL ws (t :: r) = withL (if 0 ≤ t then withW ws t.toNat else ws) r := rfl
    rw [e]
    refine withL_len r _ (fun x hx => hl x (by simp [hx])) ?_
    split
    · have := hl t (by simp)
      rw [withW_len]; omega
    · exact h
theorem ahead_len {n : Nat} {o : Op} {ws : List Wd} (hu : ∀ t ∈ usesS o, t < 64 * n) (h : ws.length ≤ n) : (aheadW o ws).length ≤ n := by
  refine withL_len _ _ hu ?_
  split
  · rw [withoutW_len]; exact h
  · exact h
theorem reads_len {n : Nat} {t : Term} {ws : List Wd} (hu : t.kind = 2 → t.a < 64 * n) (h : ws.length ≤ n) : (readsW t ws).length ≤ n := by
  unfold readsW
  split
  · rename_i h1
    have := hu h1.1
    rw [withW_len]; omega
  · exact h

section
variable {A B : List ABlk} (hB : KB A B)
include hB
theorem c60 {t : Term} (ht : t.kind = 2 → t.a ≤ 2000000) (ws : List Wd) : KK 60 [.agg t.cells, VS A.length ws] (OQ A (XS ws) B) = some (.ret (VS A.length (readsW t ws)), OQ A (XS (readsW t ws)) (B ++ readsG t)) := by
  refine evW_by (m60_eq _ _ _ _) ?_
  have hB2 : KB A (B ++ [.cells t.cells, .front 0 0]) := hB.app (by simp [Term.cells])
  unfold readsW readsG
  by_cases k2 : t.kind = 2
  · by_cases h0 : 0 ≤ t.a
    · obtain ⟨n, hn⟩ := Int.eq_ofNat_of_zero_le h0
      have ht := ht k2
      have g := c122 hB2 (t := n) (by omega) ws
      rw [if_pos ⟨k2, h0⟩, if_pos ⟨k2, h0⟩, hn]
      simp only [Term.cells, List.append_assoc, List.cons_append, List.nil_append, Int.toNat_natCast] at g ⊢
      rw [hn, k2] at g
      simp -implicitDefEqProofs [m60, k2, hn, g]
    · rw [if_neg (by omega), if_neg (by omega)]
      simp only [Term.cells]
      simp -implicitDefEqProofs [m60, k2, h0]
  · rw [if_neg (by omega), if_neg (by omega)]
    simp only [Term.cells]
    simp -implicitDefEqProofs [m60, k2]

theorem m61_loop {u : List Int} (hu : ∀ t ∈ u, t ≤ 2000000) (hl : u.length ≤ 10) {v : AVal} (hv : ∀ h, v.san (HN A B) h = v) : ∀ (d i : Nat) (ws : List Wd), u.length = i + d →
    lpW (m61_l0 KK (HN A B)) ([VS A.length ws, v, .slice (u.map fun z => [.int .i64 z]) .no, .int .i64 (u.length : Int), .int .i64 (i : Int)], OQ A (XS ws) B) =
      some (.exit 0, [VS A.length (withL ws (u.drop i)), v, .slice (u.map fun z => [.int .i64 z]) .no, .int .i64 (u.length : Int), .int .i64 (u.length : Int)], OQ A (XS (withL ws (u.drop i))) B) := by
  intro d
  induction d with
  | zero =>
    intro i ws hi
    obtain rfl : u.length = i := by omega
    rw [lpW_step, List.drop_length]
    have htr := OQ_trunc0 (X := XS ws) (A := A) hB XS_ok
    have hsn := fun h => VS_san (ws := ws) (m := HN A B) (h := h) A_lt0
    have step : m61_l0 KK (HN A B) ([VS A.length ws, v, .slice (u.map fun z => [.int .i64 z]) .no, .int .i64 (u.length : Int), .int .i64 (u.length : Int)], OQ A (XS ws) B) =
        some (.exit 0, [VS A.length ws, v, .slice (u.map fun z => [.int .i64 z]) .no, .int .i64 (u.length : Int), .int .i64 (u.length : Int)], OQ A (XS ws) B) := by
      unfold m61_l0
      simp -implicitDefEqProofs [endR, htr, hsn, hv]
    rw [step]; rfl
  | succ d ih =>
    intro i ws hi
    rw [lpW_step]
    have hil : i < u.length := by omega
    have hcc : ((i : Int) < (u.length : Int)) := by omega
    have hx : u[i]? = some u[i] := List.getElem?_eq_getElem hil
    have hb := hu u[i] (List.getElem_mem hil)
    have w1 : IntKind.i64.wrap ((i : Int) + 1) = ((i + 1 : Nat) : Int) := by rw [wrapS (a := i) (by omega)]; simp
    rw [List.drop_eq_getElem_cons hil]
    generalize u[i] = t at *
    have e : withL ws (t :: u.drop (i + 1)) = withL (if 0 ≤ t then withW ws t.toNat else ws) (u.drop (i + 1)) := rfl
    rw [e, ← ih (i + 1) _ (by omega)]
    clear ih e
    generalize ((i + 1 : Nat) : Int) = i1 at *
    have step : m61_l0 KK (HN A B) ([VS A.length ws, v, .slice (u.map fun z => [.int .i64 z]) .no, .int .i64 (u.length : Int), .int .i64 (i : Int)], OQ A (XS ws) B) =
        some (.normal, [VS A.length (if 0 ≤ t then withW ws t.toNat else ws), v, .slice (u.map fun z => [.int .i64 z]) .no, .int .i64 (u.length : Int), .int .i64 i1], OQ A (XS (if 0 ≤ t then withW ws t.toNat else ws)) B) := by
      by_cases h0 : 0 ≤ t
      · obtain ⟨n, rfl⟩ := Int.eq_ofNat_of_zero_le h0
        have g := c122 hB (t := n) (by omega) ws
        have htr := OQ_trunc (X := XS (withW ws n)) (A := A) (C := [.front 0 0]) hB XS_ok
        have hsn := fun h => VS_san (ws := withW ws n) (m := HN A B) (h := h) A_lt0
        rw [if_pos h0]
        simp only [Int.toNat_natCast]
        generalize withW ws n = w' at *
        unfold m61_l0
        simp -implicitDefEqProofs [hcc, hx, g, endR, htr, hsn, hv, w1]
      · have htr := OQ_trunc0 (X := XS ws) (A := A) hB XS_ok
        have hsn := fun h => VS_san (ws := ws) (m := HN A B) (h := h) A_lt0
        rw [if_neg h0]
        unfold m61_l0
        simp -implicitDefEqProofs [hcc, hx, h0, endR, htr, hsn, hv, w1]
    rw [step]; rfl
end

theorem uses_len (o : Op) : (usesS o).length ≤ 3 := by unfold usesS; simp; omega
/-- What is wanted ahead of an operation. -/
theorem c61 {A B : List ABlk} (hB : KB A B) {o : Op} (hu : ∀ t ∈ usesS o, t ≤ 2000000) (hd : o.dst ≤ 2000000) (ws : List Wd) :
    KK 61 [.agg o.cells, VS A.length ws] (OQ A (XS ws) B) = some (.ret (VS A.length (aheadW o ws)), OQ A (XS (aheadW o ws)) (B ++ aheadG o)) := by
  refine evW_by (m61_eq _ _ _ _) ?_
  have hB2 : KB A (B ++ [.cells o.cells, .front 0 0]) := hB.app (by simp [Op.cells])
  have hH : HN A (B ++ [.cells o.cells, .front 0 0]) = HN A B + 2 := by simp
  have g73 := c73 o
  have g74 := c74 o
  have g := fun ws => m61_loop hB2 hu (by have := uses_len o; omega) (v := .slice [] (.own (HN A B + 1))) (fun h => by rw [hH]; simp) (usesS o).length 0 ws (by omega)
  rw [hH] at g
  simp only [List.drop_zero, Int.cast_ofNat_Int] at g
  unfold aheadW aheadG
  by_cases hc : (formS o.kind).dst = true ∧ 0 ≤ o.dst
  · obtain ⟨n, hn⟩ := Int.eq_ofNat_of_zero_le hc.2
    have g1 := c123 hB2 (t := n) (by omega) ws
    rw [if_pos hc, hn]
    rw [hc.1] at g73
    simp only [Int.toNat_natCast]
    have g2 := g (withoutW ws n)
    have ev : VS A.length (withoutW ws n) = VS A.length ws := VS_eq (withoutW_len _ _)
    rw [ev] at g2
    generalize withL (withoutW ws n) (usesS o) = w2 at *
    clear g
    simp only [Op.cells] at g73 g74 g1 g2 ⊢
    rw [hn] at g73 g74 g1 g2 ⊢
    simp -implicitDefEqProofs [m61, g73, g74, g1, g2]
  · rw [if_neg hc]
    have g2 := g ws
    clear g
    generalize withL ws (usesS o) = w2 at *
    cases hf : (formS o.kind).dst
    · rw [hf] at g73
      simp only [Op.cells] at g73 g74 g2 ⊢
      simp -implicitDefEqProofs [m61, g73, g74, g2]
    · have h0 : ¬ 0 ≤ o.dst := fun h => hc ⟨hf, h⟩
      rw [hf] at g73
      simp only [Op.cells] at g73 g74 g2 ⊢
      simp -implicitDefEqProofs [m61, g73, g74, g2, h0]
end Go.Proofs.YtkeoalhglkfbkaaDoor

/-
  The blocks to which an end leads. No conditions.
-/
namespace Go.Proofs.YtkeoalhglkfbkaaDoor
open Go Hk Go.Proofs.Wd

theorem c121 (k : Int) (h : Heap) : KK 121 [.int .i64 k] h = some (.ret (.bool (decide (k = -1))), h) := by
  refine callP_pure rfl rfl (evW_by (m121_eq _ _ _) ?_)
  simp [m121, finR_zero]
theorem e121 (k : Int) (h : Heap) : callE ann KK 121 (argsFor ann 121 [.int .i64 k]) h = some (.ret (.bool (decide (k = -1))), h) := c121 k h

theorem lp_go {F : List AVal × Heap → Option R} {s s' : List AVal × Heap} (h : F s = some (.normal, s')) : lpW F s = lpW F s' := by rw [lpW_step, h]; rfl
theorem lp_ret {F : List AVal × Heap → Option R} {s s' : List AVal × Heap} (h : F s = some (.ret, s')) : lpW F s = some (.ret, s') := by rw [lpW_step, h]; rfl
theorem lp_exit {F : List AVal × Heap → Option R} {s s' : List AVal × Heap} {i : Nat} (h : F s = some (.exit i, s')) : lpW F s = some (.exit i, s') := by rw [lpW_step, h]; rfl

def intc (z : Int) : AVal := .int .i64 z
def HL (t : Term) (l : List Int) (E : Heap) : Heap := .cells t.cells :: .front 0 0 :: .front 0 0 :: .vec l.length 1 (l.map intc) :: E
theorem HL_TH {t : Term} {l : List Int} : TH (HL t l [.front 0 0]) := by
  intro m h hm
  have : sanCells m h (l.map intc) = some (l.map intc) := sanCells_ints fun c hc => by
    obtain ⟨z, _, rfl⟩ := List.mem_map.1 hc; exact ⟨_, _, rfl⟩
  simp [HL, Term.cells, this]
theorem HL_TH0 {t : Term} {l : List Int} : TH (HL t l []) := by
  intro m h hm
  have : sanCells m h (l.map intc) = some (l.map intc) := sanCells_ints fun c hc => by
    obtain ⟨z, _, rfl⟩ := List.mem_map.1 hc; exact ⟨_, _, rfl⟩
  simp [HL, Term.cells, this]
section
variable {t : Term} {l : List Int} {E : Heap}
theorem HL_get {i : Nat} {z : Int} (hz : l[i]? = some z) : aload false 1 (HL t l E) (.vptr 3 l.length i) = some (.int .i64 z) := by
  rw [aload_vptr]
  have : getVec (HL t l E) 3 l.length = some (1, l.map intc) := by simp [HL]
  rw [this]
  simp [hz, intc]
theorem HL_set {i : Nat} (hi : i < l.length) (z : Int) : astore 1 (HL t l E) (.vptr 3 l.length i) (.int .i64 z) = some (HL t (l.set i z) E) := by
  rw [astore_vptr]
  have : getVec (HL t l E) 3 l.length = some (1, l.map intc) := by simp [HL]
  rw [this]
  have e1 : putCells (l.map intc) i [.int .i64 z] = (l.set i z).map intc := by
    unfold putCells
    rw [List.map_set, List.set_eq_take_append_cons_drop, if_pos (by simpa using hi)]
    simp [intc]
  simp only [Option.bind_some]
  rw [if_pos ⟨rfl, by simp; omega, rfl⟩]
  simp only [cells_int, e1]
  simp [HL]
def LV (l : List Int) : AVal := .vslice 3 l.length 0 l.length 1
theorem e174_step {i : Nat} {z : Int} (hz : l[i]? = some z) (hl : l.length ≤ 100) : m174_l0 KK 5 ([LV l, .func 121 [] [], .int .i64 0, .int .i64 (l.length : Int), .int .i64 (i : Int)], HL t l [.front 0 0]) =
    if z = -1 then some (.ret, [LV l, .func 121 [] [], .int .i64 (i : Int), .int .i64 (l.length : Int), .int .i64 (i : Int)], HL t l [.front 0 0])
    else some (.normal, [LV l, .func 121 [] [], .int .i64 0, .int .i64 (l.length : Int), .int .i64 ((i + 1 : Nat) : Int)], HL t l [.front 0 0]) := by
  have htr : trunc 5 (HL t l [.front 0 0]) = some (HL t l [.front 0 0]) := trunc_app0 HL_TH
  have hi : i < l.length := (List.getElem?_eq_some_iff.1 hz).1
  have hi' : (i : Int) < (l.length : Int) := by omega
  have w1 : IntKind.i64.wrap ((i : Int) + 1) = ((i + 1 : Nat) : Int) := by rw [wrap64 (by omega) (by omega), Int.natCast_add]; rfl
  have s2 : ∀ h', AVal.san 5 h' (LV l) = LV l := fun h' => rfl
  have s3 : ∀ h', AVal.san 5 h' (.func 121 [] []) = .func 121 [] [] := fun h' => rfl
  have g := HL_get (t := t) (E := [.front 0 0]) hz
  have ix : aindexSl 1 (LV l) (.int .i64 (i : Int)) = some (.vptr 3 l.length i) := by simp [LV, hi]
  generalize ((i + 1 : Nat) : Int) = i1 at *
  by_cases hc : z = -1
  · rw [if_pos hc]
    subst hc
    unfold m174_l0
    simp [-astore_vptr, -aload_vptr, acallee, e121, endR, htr, s2, s3, hi', g, ix]
  · rw [if_neg hc]
    unfold m174_l0
    simp [-astore_vptr, -aload_vptr, acallee, e121, endR, htr, s2, s3, hi', g, ix, hc, w1]
theorem e174_end {z : Int} : m174_l0 KK 5 ([LV l, .func 121 [] [], .int .i64 z, .int .i64 (l.length : Int), .int .i64 (l.length : Int)], HL t l [.front 0 0]) =
    some (.exit 0, [LV l, .func 121 [] [], .int .i64 z, .int .i64 (l.length : Int), .int .i64 (l.length : Int)], HL t l [.front 0 0]) := by
  have htr : trunc 5 (HL t l [.front 0 0]) = some (HL t l [.front 0 0]) := trunc_app0 HL_TH
  have s2 : ∀ h', AVal.san 5 h' (LV l) = LV l := fun h' => rfl
  have s3 : ∀ h', AVal.san 5 h' (.func 121 [] []) = .func 121 [] [] := fun h' => rfl
  unfold m174_l0
  simp [endR, htr, s2, s3]
theorem e120_step {i j : Nat} {z : Int} {v : AVal} (hv : ∀ h', v.san 5 h' = v) (hz : l[j]? = some z) (hij : i < j) (hl : l.length ≤ 100) : m120_l0 KK 5 ([LV l, .func 121 [] [], v, .int .i64 (i : Int), .int .i64 (j : Int)], HL t l [.front 0 0]) =
    if z = -1 then some (.normal, [LV l, .func 121 [] [], v, .int .i64 (i : Int), .int .i64 ((j + 1 : Nat) : Int)], HL t l [.front 0 0])
    else some (.normal, [LV (l.set i z), .func 121 [] [], v, .int .i64 ((i + 1 : Nat) : Int), .int .i64 ((j + 1 : Nat) : Int)], HL t (l.set i z) [.front 0 0]) := by
  have hj : j < l.length := (List.getElem?_eq_some_iff.1 hz).1
  have hj' : (j : Int) < (l.length : Int) := by omega
  have w1 : IntKind.i64.wrap ((i : Int) + 1) = ((i + 1 : Nat) : Int) := by rw [wrap64 (by omega) (by omega), Int.natCast_add]; rfl
  have w2 : IntKind.i64.wrap ((j : Int) + 1) = ((j + 1 : Nat) : Int) := by rw [wrap64 (by omega) (by omega), Int.natCast_add]; rfl
  have s2 : ∀ l h', AVal.san 5 h' (LV l) = LV l := fun l h' => rfl
  have s3 : ∀ h', AVal.san 5 h' (.func 121 [] []) = .func 121 [] [] := fun h' => rfl
  have g := HL_get (t := t) (E := [.front 0 0]) hz
  have st := HL_set (t := t) (E := [.front 0 0]) (l := l) (i := i) (by omega) z
  have ix : aindexSl 1 (LV l) (.int .i64 (j : Int)) = some (.vptr 3 l.length j) := by simp [LV, hj]
  have ix2 : aindexSl 1 (LV l) (.int .i64 (i : Int)) = some (.vptr 3 l.length i) := by simp [LV, show i < l.length by omega]
  have ll : alenSl (LV l) = some (.int .i64 (l.length : Int)) := rfl
  generalize ((i + 1 : Nat) : Int) = i1 at *
  generalize ((j + 1 : Nat) : Int) = j1 at *
  by_cases hc : z = -1
  · rw [if_pos hc]
    subst hc
    have htr : trunc 5 (HL t l [.front 0 0]) = some (HL t l [.front 0 0]) := trunc_app0 HL_TH
    unfold m120_l0
    simp [-astore_vptr, -aload_vptr, acallee, e121, endR, htr, s2, s3, hv, hj', g, ix, ll, w2]
  · rw [if_neg hc]
    have htr : trunc 5 (HL t (l.set i z) [.front 0 0]) = some (HL t (l.set i z) [.front 0 0]) := trunc_app0 HL_TH
    have el : LV (l.set i z) = LV l := by simp [LV]
    rw [el]
    generalize HL t (l.set i z) [.front 0 0] = Hn at *
    unfold m120_l0
    simp [-astore_vptr, -aload_vptr, acallee, e121, endR, htr, s2, s3, hv, hj', g, ix, ix2, ll, st, hc, w1, w2]
theorem e120_end {i : Int} {v : AVal} (hv : ∀ h', v.san 5 h' = v) : m120_l0 KK 5 ([LV l, .func 121 [] [], v, .int .i64 i, .int .i64 (l.length : Int)], HL t l [.front 0 0]) =
    some (.exit 0, [LV l, .func 121 [] [], v, .int .i64 i, .int .i64 (l.length : Int)], HL t l [.front 0 0]) := by
  have htr : trunc 5 (HL t l [.front 0 0]) = some (HL t l [.front 0 0]) := trunc_app0 HL_TH
  have s2 : ∀ h', AVal.san 5 h' (LV l) = LV l := fun h' => rfl
  have s3 : ∀ h', AVal.san 5 h' (.func 121 [] []) = .func 121 [] [] := fun h' => rfl
  have ll : alenSl (LV l) = some (.int .i64 (l.length : Int)) := rfl
  unfold m120_l0
  simp [endR, htr, s2, s3, hv, ll]
theorem c174_of {r : Int} {e : Ex} {w : Int} {v : Int} (hg : lpW (m174_l0 KK 5) ([LV l, .func 121 [] [], .int .i64 0, .int .i64 (l.length : Int), .int .i64 0], HL t l [.front 0 0]) =
      some (e, [LV l, .func 121 [] [], .int .i64 v, .int .i64 (l.length : Int), .int .i64 w], HL t l [.front 0 0])) (hr : (e = .ret ∧ r = v) ∨ (e = .exit 0 ∧ r = -1)) :
    KK 174 [LV l, .func 121 [] []] (HL t l [.front 0 0]) = some (.ret (.int .i64 r), HL t l [.front 0 0]) := by
  refine evW_by (m174_eq _ _ _ _) ?_
  have htr : trunc 5 (HL t l [.front 0 0]) = some (HL t l [.front 0 0]) := trunc_app0 HL_TH
  have ll : alenSl (LV l) = some (.int .i64 (l.length : Int)) := rfl
  have h5 : (HL t l [.front 0 0]).length = 5 := rfl
  rcases hr with ⟨rfl, rfl⟩ | ⟨rfl, rfl⟩ <;> simp [m174, ll, h5, hg, finR, htr]
/-- DeleteFunc, when nothing is found. -/
theorem c120_none (h174 : KK 174 [LV l, .func 121 [] []] (HL t l [.front 0 0]) = some (.ret (.int .i64 (-1)), HL t l [.front 0 0])) : KK 120 [LV l, .func 121 [] []] (HL t l []) = some (.ret (LV l), HL t l []) := by
  refine evW_by (m120_eq _ _ _ _) ?_
  have htr : trunc 4 (HL t l [.front 0 0]) = some (HL t l []) := trunc_app (C := [.front 0 0]) HL_TH0
  have h4 : (HL t l []).length = 4 := rfl
  have h5 : HL t l [] ++ [.front 0 0] = HL t l [.front 0 0] := rfl
  have s2 : ∀ h', AVal.san 4 h' (LV l) = LV l := fun h' => rfl
  have u2 : (LV l).untok = LV l := rfl
  have u3 : AVal.untok (.func 121 [] []) = .func 121 [] [] := rfl
  simp [m120, h4, h5, u2, u3, h174, finR, htr, s2]
theorem c120_some {l' : List Int} {i k : Nat} {w : Int} (h174 : KK 174 [LV l, .func 121 [] []] (HL t l [.front 0 0]) = some (.ret (.int .i64 (i : Int)), HL t l [.front 0 0])) (hi : i ≤ 100) (hl' : l'.length = l.length) (hk : k ≤ l.length)
    (hg : lpW (m120_l0 KK 5) ([LV l, .func 121 [] [], .slice [] (.own 4), .int .i64 (i : Int), .int .i64 ((i + 1 : Nat) : Int)], HL t l [.front 0 0]) = some (.exit 0, [LV l', .func 121 [] [], .slice [] (.own 4), .int .i64 (k : Int), .int .i64 w], HL t l' [.front 0 0])) :
    KK 120 [LV l, .func 121 [] []] (HL t l []) = some (.ret (.vslice 3 l.length 0 k 1), HL t (l'.take k ++ List.replicate (l.length - k) 0) []) := by
  refine evW_by (m120_eq _ _ _ _) ?_
  have h4 : (HL t l []).length = 4 := rfl
  have h5 : HL t l [] ++ [.front 0 0] = HL t l [.front 0 0] := rfl
  have h55 : (HL t l [.front 0 0]).length = 5 := rfl
  have u2 : (LV l).untok = LV l := rfl
  have u3 : AVal.untok (.func 121 [] []) = .func 121 [] [] := rfl
  have w1 : IntKind.i64.wrap ((i : Int) + 1) = ((i + 1 : Nat) : Int) := by rw [wrap64 (by omega) (by omega), Int.natCast_add]; rfl
  have a1 : abound (some (.int .i64 (k : Int))) 0 = some k := by simp [abound]
  have a2 : abound (some (.int .i64 (k : Int))) l.length = some k := by simp [abound]
  have sl2 : asliceSl 1 (LV l') none (some (.int .i64 (k : Int))) = some (.vslice 3 l.length 0 k 1) := by
    simp [asliceSl, LV, hl', a2, abound_none, hk]
  have hfin : ∃ S H, asliceSl 1 (LV l') (some (.int .i64 (k : Int))) none = some S ∧ aclear 1 [.int .i64 0] (HL t l' [.front 0 0]) S = some H ∧ H = HL t (l'.take k ++ List.replicate (l.length - k) 0) [.front 0 0] := by
    have hs : asliceSl 1 (LV l') (some (.int .i64 (k : Int))) none = if k = 0 ∨ k < l.length then some (.vslice 3 l.length k (l.length - k) 1) else some (.slice [] .no) := by
      unfold asliceSl LV
      simp only [a1, hl', abound_none]
      rw [if_pos ⟨hk, Nat.le_refl _, trivial⟩]
      simp only [Nat.mul_one, Nat.zero_add]
    have hfull : k = l.length → l'.take k ++ List.replicate (l.length - k) 0 = l' := fun hk2 => by rw [hk2, Nat.sub_self, ← hl', List.take_length]; simp
    by_cases hc : k = 0 ∨ k < l.length
    · rw [if_pos hc] at hs
      by_cases hn0 : l.length - k = 0
      · exact ⟨_, HL t l' [.front 0 0], hs, by unfold aclear; simp only [hn0, if_true], by rw [hfull (by omega)]⟩
      · refine ⟨_, _, hs, ?_, rfl⟩
        have gv : getVec (HL t l' [.front 0 0]) 3 l.length = some (1, l'.map intc) := by simp [HL, hl']
        unfold aclear
        simp only [hn0, if_false, gv]
        rw [if_pos ⟨trivial, rfl, rfl, by simp; omega⟩]
        have e1 : putCells (l'.map intc) k (List.replicate (l.length - k) [AVal.int .i64 0]).flatten = (l'.take k ++ List.replicate (l.length - k) 0).map intc := by
          have f : (List.replicate (l.length - k) [AVal.int .i64 0]).flatten = List.replicate (l.length - k) (intc 0) := by
            simp [intc]
          rw [f]
          simp only [putCells, List.length_replicate]
          have : k + (l.length - k) = l'.length := by omega
          rw [this, List.drop_eq_nil_of_le (by simp), List.append_nil, List.map_append, List.map_take, List.map_replicate]
        rw [e1]
        have e2 : (l'.take k ++ List.replicate (l.length - k) 0).length = l.length := by simp; omega
        simp only [HL, e2]
        rfl
    · rw [if_neg hc] at hs
      exact ⟨_, HL t l' [.front 0 0], hs, rfl, by rw [hfull (by omega)]⟩
  obtain ⟨S, H, f1, f2, f3⟩ := hfin
  have htr : trunc 4 H = some (HL t (l'.take k ++ List.replicate (l.length - k) 0) []) := by
    subst f3; exact trunc_app (C := [.front 0 0]) HL_TH0
  have s2 : ∀ h', AVal.san 4 h' (.vslice 3 l.length 0 k 1) = .vslice 3 l.length 0 k 1 := fun h' => rfl
  clear f3
  generalize ((i + 1 : Nat) : Int) = i1 at *
  simp [m120, h4, h5, h55, u2, u3, h174, w1, hg, f1, f2, sl2, finR, htr, s2]
end
section
variable {t : Term}
theorem c174_0 {id : Nat} {h : Heap} (hK : TH h) : KK 174 [.slice [] .no, .func 121 [] []] h = some (.ret (.int .i64 (-1)), h) := by
  refine evW_by (m174_eq _ _ _ _) ?_
  have htr := trunc_app0 hK
  have s3 : ∀ h', AVal.san h.length h' (.func 121 [] []) = .func 121 [] [] := fun h' => rfl
  have st : m174_l0 KK h.length ([.slice [] .no, .func 121 [] [], .int .i64 0, .int .i64 0, .int .i64 0], h) = some (.exit 0, ([.slice [] .no, .func 121 [] [], .int .i64 0, .int .i64 0, .int .i64 0], h)) := by
    unfold m174_l0
    simp [endR, htr, s3]
  have g := lp_exit st
  simp [m174, g, htr, finR]
theorem c120_0 {h : Heap} (hK : TH h) : KK 120 [.slice [] .no, .func 121 [] []] h = some (.ret (.slice [] .no), h) := by
  refine evW_by (m120_eq _ _ _ _) ?_
  have g := c174_0 (id := 0) (h := h ++ [.front 0 0]) (TH_app hK (KBn_front KBn_nil))
  have htr := fun C => trunc_app (C := C) hK
  have uf : AVal.untok (.func 121 [] []) = .func 121 [] [] := rfl
  simp [m120, g, uf, finR, htr]
end

def leadsP (t : Term) : List Int := if t.kind = 1 then [t.yes].filter (fun k => !decide (k = -1)) else if t.kind = 2 then [t.yes, t.no].filter (fun k => !decide (k = -1)) else []
theorem leads_eq {p : IR} {t : Term} (ht : termS (p := p) t = true) : leadsP t = leadsS t := by
  have e : ∀ k : Int, -1 ≤ k → (!decide (k = -1)) = decide (0 ≤ k) := fun k hk => by
    by_cases h : k = -1
    · simp [h]
    · have : 0 ≤ k := by omega
      simp [h, this]
  unfold leadsP leadsS
  unfold termS at ht
  by_cases k1 : t.kind = 1
  · rw [if_pos k1] at ht
    rw [if_pos k1, if_pos k1]
    simp only [between, Bool.and_eq_true, decide_eq_true_eq] at ht
    simp only [List.filter_cons, List.filter_nil, e _ ht.2.1]
  · rw [if_neg k1, if_neg k1]
    rw [if_neg k1] at ht
    by_cases k2 : t.kind = 2
    · rw [if_pos k2] at ht
      rw [if_pos k2, if_pos k2]
      simp only [between, Bool.and_eq_true, decide_eq_true_eq] at ht
      simp only [List.filter_cons, List.filter_nil, e _ ht.2.1.1, e _ ht.2.2.1]
    · rw [if_neg k2, if_neg k2]

/-- A list of one or two blocks, without those that are none. -/
theorem del_1 {t : Term} (y : Int) : ∃ l' : List Int, KK 120 [LV [y], .func 121 [] []] (HL t [y] []) = some (.ret (.vslice 3 1 0 ([y].filter fun k => !decide (k = -1)).length 1), HL t l' []) ∧ l'.length = 1 ∧ l'.take ([y].filter fun k => !decide (k = -1)).length = [y].filter fun k => !decide (k = -1) := by
  have s1 := e174_step (t := t) (l := [y]) (i := 0) (z := y) rfl (by simp)
  by_cases hy : y = -1
  · subst hy
    rw [if_pos rfl] at s1
    have g := c174_of (r := 0) (lp_ret s1) (.inl ⟨rfl, rfl⟩)
    have e := e120_end (t := t) (l := [-1]) (i := 0) (v := .slice [] (.own 4)) (fun h' => rfl)
    exact ⟨_, c120_some (i := 0) (k := 0) g (by omega) rfl (by simp) (lp_exit e), by simp, by simp⟩
  · rw [if_neg hy] at s1
    have g := c174_of (r := -1) ((lp_go s1).trans (lp_exit e174_end)) (.inr ⟨rfl, rfl⟩)
    have := c120_none g
    exact ⟨[y], by simpa [hy, LV] using this, rfl, by simp [hy]⟩
theorem del_2 {t : Term} (y n : Int) : ∃ l' : List Int, KK 120 [LV [y, n], .func 121 [] []] (HL t [y, n] []) = some (.ret (.vslice 3 2 0 ([y, n].filter fun k => !decide (k = -1)).length 1), HL t l' []) ∧ l'.length = 2 ∧ l'.take ([y, n].filter fun k => !decide (k = -1)).length = [y, n].filter fun k => !decide (k = -1) := by
  have s1 := e174_step (t := t) (l := [y, n]) (i := 0) (z := y) rfl (by simp)
  have s2 := e174_step (t := t) (l := [y, n]) (i := 1) (z := n) rfl (by simp)
  have hv : ∀ h', AVal.san 5 h' (.slice [] (.own 4)) = .slice [] (.own 4) := fun h' => rfl
  by_cases hy : y = -1
  · subst hy
    rw [if_pos rfl] at s1
    have g := c174_of (r := 0) (lp_ret s1) (.inl ⟨rfl, rfl⟩)
    have d1 := e120_step (t := t) (l := [-1, n]) (i := 0) (j := 1) (z := n) hv rfl (by omega) (by simp)
    by_cases hn : n = -1
    · subst hn
      rw [if_pos rfl] at d1
      have e := e120_end (t := t) (l := [-1, -1]) (i := 0) hv
      exact ⟨_, c120_some (i := 0) (k := 0) g (by omega) rfl (by simp) ((lp_go d1).trans (lp_exit e)), by simp, by simp⟩
    · rw [if_neg hn] at d1
      have e := e120_end (t := t) (l := [n, n]) (i := 1) hv
      have := c120_some (i := 0) (k := 1) (l' := [n, n]) g (by omega) rfl (by simp) ((lp_go d1).trans (lp_exit e))
      exact ⟨_, by simpa [hn] using this, by simp, by simp [hn]⟩
  · rw [if_neg hy] at s1
    by_cases hn : n = -1
    · subst hn
      rw [if_pos rfl] at s2
      have g := c174_of (r := 1) ((lp_go s1).trans (lp_ret s2)) (.inl ⟨rfl, rfl⟩)
      have e := e120_end (t := t) (l := [y, -1]) (i := 1) hv
      have := c120_some (i := 1) (k := 1) (l' := [y, -1]) g (by omega) rfl (by simp) (lp_exit e)
      exact ⟨_, by simpa [hy] using this, by simp, by simp [hy]⟩
    · rw [if_neg hn] at s2
      have g := c174_of (r := -1) ((lp_go s1).trans ((lp_go s2).trans (lp_exit e174_end))) (.inr ⟨rfl, rfl⟩)
      have := c120_none g
      exact ⟨[y, n], by simpa [hy, hn, LV] using this, rfl, by simp [hy, hn]⟩

theorem LV_fin {t : Term} {l : List Int} {k n : Nat} (hn : l.length = n) (hk : k ≤ n) : (AVal.vslice 3 n 0 k 1).san 0 (HL t l []) = .slice (ints (l.take k)) .no := by
  subst hn
  have hp : pureRow ((l.map intc).take k) = some ((l.map intc).take k) := pureRow_ints fun c hc => by
    obtain ⟨z, _, rfl⟩ := List.mem_map.1 (List.mem_of_mem_take hc); exact ⟨_, _, rfl⟩
  have hl : ((l.map intc).take k).length = k := by simp; omega
  have hr : rowsOf k 1 ((l.map intc).take k) = ints (l.take k) := by
    have := rowsOf_one (l := (l.map intc).take k)
    rw [hl] at this
    rw [this, ints, ← List.map_take, List.map_map]; rfl
  show AVal.san1 0 (HL t l []) (.vslice 3 l.length 0 k 1) = _
  unfold AVal.san1
  simp only [Nat.not_lt_zero, decide_false, cond_false, HL, List.getElem?_cons_succ, List.getElem?_cons_zero, List.drop_zero, Nat.mul_one, hp, hr, List.length_map, Nat.zero_add]
  simp [hk]

theorem c58 (t : Term) (h : Heap) : KK 58 [.agg t.cells] h = some (.ret (.slice (ints (leadsP t)) .no), h) := by
  refine callP_pure rfl rfl (evW_by (m58_eq _ _ _) ?_)
  have b1 : ∀ (z : Int) (h' : Heap), abuildSliceV 1 1 [.int .i64 0] [(0, .int .i64 z)] h' = some (.vslice h'.length 1 0 1 1, h' ++ [.vec 1 1 [.int .i64 z]]) := fun z h' => rfl
  have b2 : ∀ (y z : Int) (h' : Heap), abuildSliceV 2 1 [.int .i64 0] [(0, .int .i64 y), (1, .int .i64 z)] h' = some (.vslice h'.length 2 0 2 1, h' ++ [.vec 2 1 [.int .i64 y, .int .i64 z]]) := fun y z h' => rfl
  have uf : AVal.untok (.func 121 [] []) = .func 121 [] [] := rfl
  unfold leadsP
  by_cases k1 : t.kind = 1
  · obtain ⟨l', g, h1, h2⟩ := del_1 (t := t) t.yes
    have hf := LV_fin (t := t) (k := ([t.yes].filter fun k => !decide (k = -1)).length) h1 (by rw [← h1, ← h2, List.length_take]; omega)
    rw [h2] at hf
    rw [if_pos k1]
    simp only [HL, LV, List.length_cons, List.length_nil, Nat.zero_add, List.map_cons, List.map_nil, intc, Term.cells] at g hf ⊢
    rw [k1] at g hf
    generalize [t.yes].filter (fun k => !decide (k = -1)) = L at *
    generalize ABlk.vec l'.length 1 (l'.map intc) = X at *
    simp [m58, k1, b1, g, uf, finR_zero, hf]
  by_cases k2 : t.kind = 2
  · obtain ⟨l', g, h1, h2⟩ := del_2 (t := t) t.yes t.no
    have hf := LV_fin (t := t) (k := ([t.yes, t.no].filter fun k => !decide (k = -1)).length) h1 (by rw [← h1, ← h2, List.length_take]; omega)
    rw [h2] at hf
    rw [if_neg k1, if_pos k2]
    simp only [HL, LV, List.length_cons, List.length_nil, Nat.zero_add, Nat.reduceAdd, List.map_cons, List.map_nil, intc, Term.cells] at g hf ⊢
    rw [k2] at g hf
    generalize [t.yes, t.no].filter (fun k => !decide (k = -1)) = L at *
    generalize ABlk.vec l'.length 1 (l'.map intc) = X at *
    simp [m58, k2, b2, g, uf, finR_zero, hf]
  · have g0 := c120_0 (h := [.cells t.cells, .front 0 0, .front 0 0]) (KBn_cells (by simp [Term.cells]) (KBn_front (KBn_front KBn_nil)))
    rw [if_neg k1, if_neg k2]
    simp only [Term.cells] at g0 ⊢
    simp [m58, k1, k2, g0, uf, finR_zero, ints]
end Go.Proofs.YtkeoalhglkfbkaaDoor

/-
  A round of 'Live': one block. No conditions.
-/
namespace Go.Proofs.YtkeoalhglkfbkaaDoor
open Go Hk Go.Proofs.Wd

theorem CBn_of {n : Nat} : ∀ {cs : List AVal}, (∀ c ∈ cs, (∀ m h, n ≤ m → c.san1 m h = c) ∧ c.cellOk = true) → CBn n cs
  | [], _ => CBn_nil
  | c :: r, h => (CBn_any (h c (by simp)).1 (h c (by simp)).2).2 (CBn_of fun x hx => h x (by simp [hx]))

/-- A cell with a set in it. -/
abbrev Cl := Bool × List Wd
def cellA (c : Cl) : AVal := if c.1 then PS c.2 else .slice [] .nil
def setC (c : Cl) : List Wd := if c.1 then c.2 else []
theorem cellA_row (c : Cl) (h : Heap) : abuildSlice 1 1 [.slice [] .nil] [(0, cellA c)] h = some (.slice [[PS (setC c)]] (.own h.length), h ++ [.front 1 1]) := by
  obtain ⟨b, ws⟩ := c
  cases b <;> rfl
theorem cellA_in {h : Heap} (c : Cl) : SetIn h (cellA c).untok (setC c) := by
  obtain ⟨b, ws⟩ := c
  cases b
  · exact setIn_PS (ws := [])
  · exact setIn_PS
theorem cellA_ok (c : Cl) : (∀ m h, (cellA c).san1 m h = cellA c) ∧ (cellA c).cellOk = true := by
  obtain ⟨b, ws⟩ := c
  cases b <;> exact ⟨fun _ _ => rfl, rfl⟩

/-- A set that is written into no more. -/
def FZ (id : Nat) (ws : List Wd) : AVal := match ws with
  | [] => .slice [] (.own id)
  | _ => PS ws
def ZX (ws : List Wd) : ABlk := match ws with
  | [] => .front 0 0
  | _ => .gone
theorem afreeze_VS {A B : List ABlk} {ws : List Wd} : afreeze (OQ A (XS ws) B) (VS A.length ws) = some (FZ A.length ws, OQ A (ZX ws) B) := by
  cases ws with
  | nil => rfl
  | cons w r =>
    have g := getVec_XS (A := A) (B := B) (ws := w :: r) (by simp)
    have hp : pureRow (((w :: r).map wc).take (r.length + 1)) = some ((w :: r).map wc) := by
      rw [List.take_of_length_le (by simp)]
      exact pureRow_ints fun c hc => by obtain ⟨x, _, rfl⟩ := List.mem_map.1 hc; exact ⟨_, _, rfl⟩
    have hr : rowsOf (r.length + 1) 1 ((w :: r).map wc) = (w :: r).map fun w => [wc w] := by
      have := rowsOf_one (l := (w :: r).map wc)
      rw [List.length_map, List.length_cons] at this
      rw [this, List.map_map]; rfl
    unfold afreeze VS
    simp only [List.length_cons] at g
    simp only [g, List.drop_zero, Nat.mul_one, hp, hr, List.length_map, List.length_cons, Nat.zero_add, Nat.le_refl, if_true, OQ_put, Option.some.injEq, Prod.mk.injEq]
    exact ⟨rfl, rfl⟩
theorem FZ_row (id : Nat) (ws : List Wd) (h : Heap) : abuildSlice 1 1 [.slice [] .nil] [(0, FZ id ws)] h = some (.slice [[PS ws]] (.own h.length), h ++ [.front 1 1]) := by cases ws <;> rfl
theorem FZ_san1 {id m : Nat} {ws : List Wd} {h : Heap} (hm : id < m) : (FZ id ws).san1 m h = FZ id ws := by
  cases ws with
  | nil => simp [FZ, hm]
  | cons w r => rfl
theorem FZ_san1' {id m : Nat} {ws : List Wd} {h : Heap} (hm : m ≤ id) : (FZ id ws).san1 m h = PS ws := by
  cases ws with
  | nil => simp [FZ, show ¬ id < m by omega]; rfl
  | cons w r => rfl
theorem FZ_ok {id : Nat} {ws : List Wd} : (FZ id ws).cellOk = true := by cases ws <;> rfl
theorem FZ_cells {id : Nat} {ws : List Wd} : (FZ id ws).cells = [FZ id ws] := by cases ws <;> rfl
theorem FZ_keep {id : Nat} {ws : List Wd} {h : Heap} {o : AVal} : keep1 h o (FZ id ws) = FZ id ws := by
  cases ws with
  | nil => simp [FZ]
  | cons w r => simp [FZ, PS]

theorem aindexSl_mslice {id off len sz sz' : Nat} {k : IntKind} {i : Nat} : aindexSl sz (.mslice id off len sz') (.int k (i : Int)) = if i < len ∧ sz' = sz then some (.ptr id (off + i * sz)) else none := by
  simp [aindexSl]
theorem FR_app {h C : Heap} {rows : List (List AVal)} {v : AVal} {by_ : Nat} (hb : by_ ≤ 24) (hl : rows.length ≤ 2000000) {t : Hk.Tok} :
    aappend 1 by_ (h ++ FR rows.length :: C) (.slice rows (.own h.length)) (.slice [[v]] t) = some (.slice (rows ++ [[v]]) (.own h.length), h ++ FR (rows.length + 1) :: C) := by
  have hr : ∀ H : Heap, arowsS 1 H (.slice [[v]] t) = some [[v]] := fun H => by simp
  have hg : ∀ x, (h ++ x :: C)[h.length]? = some x := fun x => by rw [List.getElem?_append_right (Nat.le_refl _), Nat.sub_self]; rfl
  have hs : ∀ x y, (h ++ x :: C).set h.length y = h ++ y :: C := fun x y => by rw [List.set_append_right _ _ (Nat.le_refl _), Nat.sub_self]; rfl
  have e1 : FR (rows.length + 1) = .front (rows.length + 1) 1 := by simp [FR]
  have hm : (rows.length + 1) * by_ ≤ (rows.length + 1) * 24 := Nat.mul_le_mul_left _ hb
  unfold aappend
  simp only [hr]
  rw [hg, e1]
  by_cases h0 : rows.length = 0
  · have e3 : FR rows.length = .front 0 0 := by simp [FR, h0]
    rw [e3]
    simp only [List.length_singleton, hs]
    rw [if_pos ⟨h0, .inr ⟨trivial, trivial⟩, by rw [h0] at hm; omega, by omega⟩, if_neg (by omega), h0]
  · have e3 : FR rows.length = .front rows.length 1 := by simp [FR, h0]
    rw [e3]
    simp only [List.length_singleton, hs]
    rw [if_pos ⟨trivial, .inl trivial, by omega, by omega⟩, if_neg (by omega)]

/-! ### The heap of 'Live' -/
def HB (p : IR) (ic oc : List AVal) : Heap := [.cells p.cells, .front 0 0, .front 0 0, .cells ic, .cells oc]
theorem HB_CBn {p : IR} {n : Nat} : CBn n p.cells := by simp [IR.cells]
theorem cells_CBn {n : Nat} (l : List Cl) : CBn n (l.map cellA) := CBn_of fun c hc => by
  obtain ⟨x, _, rfl⟩ := List.mem_map.1 hc
  exact ⟨fun m h _ => (cellA_ok x).1 m h, (cellA_ok x).2⟩
theorem HB_KBn {p : IR} {ic oc : List AVal} {n : Nat} (h1 : CBn n ic) (h2 : CBn n oc) : KBn n (HB p ic oc) :=
  KBn_cells HB_CBn (KBn_front (KBn_front (KBn_cells h1 (KBn_cells h2 KBn_nil))))

def T1 : AVal := .slice [] (.own 1)
def T2 : AVal := .slice [] (.own 2)
section
variable {m : Nat} (hm : 5 ≤ m) {h : Heap} {n : Nat}
include hm
theorem sP : AVal.san m h (.ptr 0 0) = .ptr 0 0 := san_ptr_lt (by omega)
theorem sT1 : AVal.san m h T1 = T1 := by simp [T1, show 1 < m by omega]
theorem sT2 : AVal.san m h T2 = T2 := by simp [T2, show 2 < m by omega]
theorem sMI : AVal.san m h (.mslice 3 0 n 1) = .mslice 3 0 n 1 := by
  show AVal.san1 m h (.mslice 3 0 n 1) = _
  simp [AVal.san1, show 3 < m by omega]
theorem sMO : AVal.san m h (.mslice 4 0 n 1) = .mslice 4 0 n 1 := by
  show AVal.san1 m h (.mslice 4 0 n 1) = _
  simp [AVal.san1, show 4 < m by omega]
end

section
variable {p : IR} {ins : List Cl} {oc : List AVal} (hn : ins.length = p.blocks.length)
include hn
/-- What is wanted ahead of the blocks behind, gathered. -/
theorem m27_loop0 (ho : CBn 5 oc) {bb : Bool} {k : Int} (ld : List Int) (hld : ∀ j ∈ ld, 0 ≤ j ∧ j.toNat < ins.length) (hl : ld.length ≤ 10) : ∀ (d i : Nat) (L : List (List Wd)), ld.length = i + d → L.length = i →
    lpW (m27_l0 KK 6) ([.ptr 0 0, T1, T2, .int .i64 0, .mslice 3 0 p.blocks.length 1, .mslice 4 0 p.blocks.length 1, .bool bb, .int .i64 k, .slice (L.map fun s => [PS s]) (.own 5), .slice (ints ld) .no, .int .i64 (ld.length : Int), .int .i64 (i : Int)], HB p (ins.map cellA) oc ++ [FR L.length]) =
      some (.exit 4, [.ptr 0 0, T1, T2, .int .i64 0, .mslice 3 0 p.blocks.length 1, .mslice 4 0 p.blocks.length 1, .bool bb, .int .i64 k, .slice ((L ++ (ld.drop i).map fun j => setC (ins.getD j.toNat (false, []))).map fun s => [PS s]) (.own 5), .slice (ints ld) .no, .int .i64 (ld.length : Int), .int .i64 (ld.length : Int)],
        HB p (ins.map cellA) oc ++ [FR (L ++ (ld.drop i).map fun j => setC (ins.getD j.toNat (false, []))).length]) := by
  have hT : ∀ n, TH (HB p (ins.map cellA) oc ++ [FR n]) := fun n => KBn_app (HB_KBn (cells_CBn ins) (fun m h hm => ho m h (by simp [HB] at hm; omega))) FR_ok
  have htr : ∀ n C, trunc 6 (HB p (ins.map cellA) oc ++ FR n :: C) = some (HB p (ins.map cellA) oc ++ [FR n]) := fun n C => by
    have := trunc_app (C := C) (hT n)
    simpa [HB] using this
  have h5 : (HB p (ins.map cellA) oc).length = 5 := rfl
  have sOwn : ∀ h rows, AVal.san 6 h (.slice rows (.own 5)) = .slice rows (.own 5) := fun h rows => by simp
  have q0 := fun h => sP (m := 6) (h := h) (by omega)
  have q1 := fun h => sT1 (m := 6) (h := h) (by omega)
  have q2 := fun h => sT2 (m := 6) (h := h) (by omega)
  have q3 := fun h => sMI (m := 6) (h := h) (n := p.blocks.length) (by omega)
  have q4 := fun h => sMO (m := 6) (h := h) (n := p.blocks.length) (by omega)
  intro d
  induction d with
  | zero =>
    intro i L hd hL
    obtain rfl : ld.length = i := by omega
    rw [List.drop_length, List.map_nil, List.append_nil]
    refine lp_exit ?_
    unfold m27_l0
    simp -implicitDefEqProofs [endR, htr, q0, q1, q2, q3, q4, sOwn]
  | succ d ih =>
    intro i L hd hL
    have hil : i < ld.length := by omega
    have hil' : (i : Int) < (ld.length : Int) := by omega
    have hx : ld[i]? = some ld[i] := List.getElem?_eq_getElem hil
    have hj := hld ld[i] (List.getElem_mem hil)
    have w1 : IntKind.i64.wrap ((i : Int) + 1) = ((i + 1 : Nat) : Int) := by rw [wrap64 (by omega) (by omega), Int.natCast_add]; rfl
    rw [List.drop_eq_getElem_cons hil]
    generalize ld[i] = j at *
    obtain ⟨q, rfl⟩ := Int.eq_ofNat_of_zero_le hj.1
    have hq : q < ins.length := by simpa using hj.2
    have hqn : q < p.blocks.length := by omega
    have hc : ins[q]? = some ins[q] := List.getElem?_eq_getElem hq
    have hgd : ins.getD q (false, []) = ins[q] := by simp [List.getD_eq_getElem?_getD, hc]
    simp only [Int.toNat_natCast, List.map_cons, hgd]
    have ixl : aindexSl 1 (.slice (ints ld) .no) (.int .i64 (i : Int)) = some (.pptr [.int .i64 (q : Int)]) := by
      rw [ints, aindexSl_map, hx]; rfl
    have ixm : aindexSl 1 (.mslice 3 0 p.blocks.length 1) (.int .i64 (q : Int)) = some (.ptr 3 q) := by
      rw [aindexSl_mslice, if_pos ⟨hqn, rfl⟩]; simp
    have row := fun h => cellA_row ins[q] h
    have app := fun C t => FR_app (h := HB p (ins.map cellA) oc) (C := C) (rows := L.map fun s => [PS s]) (v := PS (setC ins[q])) (by_ := 24) (by omega) (by simp; omega) (t := t)
    rw [h5] at app
    simp only [List.length_map] at app
    have gb : ∀ C, (getBlk (HB p (ins.map cellA) oc ++ C) 3).bind (fun cs => cs[q]?) = some (cellA ins[q]) := fun C => by simp [HB, getBlk, hc]
    have g := ih (i + 1) (L ++ [setC ins[q]]) (by omega) (by simp; omega)
    have e : L ++ setC ins[q] :: (ld.drop (i + 1)).map (fun j => setC (ins.getD j.toNat (false, []))) = (L ++ [setC ins[q]]) ++ (ld.drop (i + 1)).map (fun j => setC (ins.getD j.toNat (false, []))) := by simp
    rw [e, ← g]
    clear g ih e
    refine lp_go ?_
    have em : (L ++ [setC ins[q]]).map (fun s => [PS s]) = L.map (fun s => [PS s]) ++ [[PS (setC ins[q])]] := by simp
    rw [em]
    have el : (L ++ [setC ins[q]]).length = L.length + 1 := by simp
    rw [el]
    generalize ((i + 1 : Nat) : Int) = i1 at *
    generalize L.map (fun s => [PS s]) = R at *
    generalize cellA ins[q] = ca at *
    unfold m27_l0
    simp -implicitDefEqProofs [hil', ixl, ixm, gb, row, app, w1, endR, htr, q0, q1, q2, q3, q4, sOwn]
end
end Go.Proofs.YtkeoalhglkfbkaaDoor

/-
  A round of 'Live': one block, whole. No conditions.
-/
namespace Go.Proofs.YtkeoalhglkfbkaaDoor
open Go Hk Go.Proofs.Wd

def opsW (l : List Op) (ws : List Wd) : List Wd := l.foldr aheadW ws
def blkW (b : Blk) (ws : List Wd) : List Wd := opsW b.ops (readsW b.term ws)
/-- Temps of a program that may be. -/
structure OpsOk (p : IR) : Prop where
  use : ∀ b ∈ p.blocks, ∀ o ∈ b.ops, ∀ t ∈ usesS o, 0 ≤ t ∧ t < p.temps
  dst : ∀ b ∈ p.blocks, ∀ o ∈ b.ops, o.dst ≤ 2000000
  made : ∀ b ∈ p.blocks, ∀ o ∈ b.ops, (formS o.kind).dst = true → 0 ≤ o.dst ∧ o.dst < p.temps
  term : ∀ b ∈ p.blocks, b.term.kind = 2 → 0 ≤ b.term.a ∧ b.term.a < p.temps
  lead : ∀ b ∈ p.blocks, ∀ j ∈ leadsP b.term, 0 ≤ j ∧ j.toNat < p.blocks.length
  temps : p.temps ≤ 1048576
  nb : p.blocks.length ≤ 1048576
  len : ∀ b ∈ p.blocks, b.ops.length ≤ 1048576

theorem leadsP_len (t : Term) : (leadsP t).length ≤ 10 := by
  unfold leadsP
  split
  · exact Nat.le_trans (List.length_filter_le _ _) (by simp)
  · split
    · exact Nat.le_trans (List.length_filter_le _ _) (by simp)
    · simp

section
variable {p : IR} (hp : OpsOk p)
include hp
theorem m27_loop1 {A B : List ABlk} (hB : KB A B) (hm : 5 ≤ HN A B) {bb : Bool} {k : Int} {b : Blk} (hb : b ∈ p.blocks) : ∀ (c : Nat) (ws : List Wd), c ≤ b.ops.length →
    lpW (m27_l1 KK (HN A B)) ([.ptr 0 0, T1, T2, .int .i64 0, .mslice 3 0 p.blocks.length 1, .mslice 4 0 p.blocks.length 1, .bool bb, .int .i64 k, VS A.length ws, .slice (b.ops.map Op.cells) .no, .int .i64 ((c : Int) - 1)], OQ A (XS ws) B) =
      some (.exit 6, [.ptr 0 0, T1, T2, .int .i64 0, .mslice 3 0 p.blocks.length 1, .mslice 4 0 p.blocks.length 1, .bool bb, .int .i64 k, VS A.length (opsW (b.ops.take c) ws), .slice (b.ops.map Op.cells) .no, .int .i64 (-1)], OQ A (XS (opsW (b.ops.take c) ws)) B) := by
  have q0 := fun h => sP (m := HN A B) (h := h) hm
  have q1 := fun h => sT1 (m := HN A B) (h := h) hm
  have q2 := fun h => sT2 (m := HN A B) (h := h) hm
  have q3 := fun h => sMI (m := HN A B) (h := h) (n := p.blocks.length) hm
  have q4 := fun h => sMO (m := HN A B) (h := h) (n := p.blocks.length) hm
  intro c
  induction c with
  | zero =>
    intro ws _
    have htr := OQ_trunc0 (X := XS ws) (A := A) (B := B) hB XS_ok
    have hsn := fun h => VS_san (ws := ws) (m := HN A B) (h := h) A_lt0
    refine lp_exit ?_
    simp only [List.take_zero, opsW, List.foldr_nil]
    unfold m27_l1
    simp -implicitDefEqProofs [endR, htr, hsn, q0, q1, q2, q3, q4]
  | succ c ih =>
    intro ws hc
    have hcl : c < b.ops.length := by omega
    have hx : b.ops[c]? = some b.ops[c] := List.getElem?_eq_getElem hcl
    have ho := List.getElem_mem hcl
    have e : opsW (b.ops.take (c + 1)) ws = opsW (b.ops.take c) (aheadW b.ops[c] ws) := by
      unfold opsW
      rw [List.take_succ_eq_append_getElem hcl, List.foldr_append]; rfl
    have hlen := hp.len b hb
    have g61 := c61 hB (o := b.ops[c]) (fun t ht => by have := hp.use b hb _ ho t ht; have := hp.temps; omega) (hp.dst b hb _ ho) ws
    have htr := OQ_trunc (X := XS (aheadW b.ops[c] ws)) (A := A) (B := B) (C := aheadG b.ops[c]) hB XS_ok
    have hsn := fun h => VS_san (ws := aheadW b.ops[c] ws) (m := HN A B) (h := h) A_lt0
    rw [e, ← ih _ (by omega)]
    generalize b.ops[c] = o at *
    have w0 : ((c + 1 : Nat) : Int) - 1 = (c : Int) := by omega
    have w1 : IntKind.i64.wrap ((c : Int) - 1) = (c : Int) - 1 := by rw [wrap64] <;> omega
    rw [w0]
    refine lp_go ?_
    have ix : (aindexSl 6 (.slice (b.ops.map Op.cells) .no) (.int .i64 (c : Int))).bind (fun t => aload true 6 (OQ A (XS ws) B) t) = some (.agg o.cells) := by
      rw [aindexSl_map, hx]; simp [Op.cells]
    obtain ⟨q, hq, hq2⟩ := Option.bind_eq_some_iff.1 ix
    generalize aheadW o ws = w' at *
    generalize AVal.agg o.cells = oc at *
    generalize aheadG o = og at *
    generalize VS A.length ws = V0 at *
    generalize OQ A (XS ws) B = H0 at *
    unfold m27_l1
    simp -implicitDefEqProofs [hq, hq2, g61, w1, endR, htr, hsn, q0, q1, q2, q3, q4]

/-- What is wanted behind a block, of what is wanted ahead of the blocks. -/
def outW (ins : List Cl) (b : Blk) : List Wd := joinW ((leadsP b.term).map fun j => setC (ins.getD j.toNat (false, [])))
def newW (ins : List Cl) (b : Blk) : List Wd := blkW b (joinW [outW ins b])

omit hp in
theorem set_get {α : Type} {l : List α} {i : Nat} (hi : i < l.length) (x : α) : (l.set i x)[i]? = some x := by simp [hi]

omit hp in
theorem san_set {m id : Nat} {h : Heap} {ws : List Wd} (hm : m ≤ id) : ∀ (l : List Cl) (k : Nat), k < l.length → sanCells m h ((l.map cellA).set k (FZ id ws)) = some ((l.set k (true, ws)).map cellA)
  | [], k, hk => by simp at hk
  | c :: r, 0, _ => by
    have e := cells_CBn (n := m) r m h (Nat.le_refl _)
    simp only [List.map_cons, List.set_cons_zero, sanCells_cons, FZ_san1' hm, e, Option.map_some]
    rfl
  | c :: r, k + 1, hk => by
    have ih := san_set (h := h) (ws := ws) hm r k (by simpa using hk)
    simp only [List.map_cons, List.set_cons_succ, sanCells_cons, (cellA_ok c).1 m h, (cellA_ok c).2, cond_true, ih, Option.map_some]

set_option maxHeartbeats 4000000 in
theorem m27_round {ins outs : List Cl} (hn : ins.length = p.blocks.length) (hno : outs.length = p.blocks.length) (hs : ∀ c ∈ ins, (setC c).length ≤ 20000) {bb : Bool} {k : Nat} {b : Blk} (hb : p.blocks[k]? = some b)
    (hw : (newW ins b).length ≤ 20000) :
    m27_l2 KK 5 ([.ptr 0 0, T1, T2, .int .i64 0, .mslice 3 0 p.blocks.length 1, .mslice 4 0 p.blocks.length 1, .bool bb, .int .i64 (k : Int)], HB p (ins.map cellA) (outs.map cellA)) =
      some (.normal, [.ptr 0 0, T1, T2, .int .i64 0, .mslice 3 0 p.blocks.length 1, .mslice 4 0 p.blocks.length 1, .bool (if listS (newW ins b) = listS (setC (ins.getD k (false, []))) then bb else true), .int .i64 ((k : Int) - 1)],
        HB p ((if listS (newW ins b) = listS (setC (ins.getD k (false, []))) then ins else ins.set k (true, newW ins b)).map cellA) ((outs.set k (true, outW ins b)).map cellA)) := by
  have hbm : b ∈ p.blocks := List.mem_of_getElem? hb
  have hkl : k < p.blocks.length := (List.getElem?_eq_some_iff.1 hb).1
  have hki : k < ins.length := by omega
  have hko : k < outs.length := by omega
  have hld := hp.lead b hbm
  have hnb := hp.nb
  have gl := m27_loop0 hn (cells_CBn outs) (bb := bb) (k := (k : Int)) (leadsP b.term) (fun j hj => by rw [hn]; exact hld j hj) (leadsP_len _) (leadsP b.term).length 0 [] (by simp) rfl
  simp only [List.nil_append, List.drop_zero, Int.cast_ofNat_Int] at gl
  have g58 := c58 b.term
  -- the first join
  have hLl : ∀ s ∈ (leadsP b.term).map (fun j => setC (ins.getD j.toNat (false, []))), s.length ≤ 20000 := fun s hs' => by
    obtain ⟨j, _, rfl⟩ := List.mem_map.1 hs'
    rw [List.getD_eq_getElem?_getD]
    cases hq : ins[j.toNat]? with
    | none => simp [setC]
    | some c => exact hs c (List.mem_of_getElem? hq)
  have hJl : (outW ins b).length ≤ 20000 := join_len 20000 _ [] (by simp) hLl
  have hTF : ∀ n, TH (HB p (ins.map cellA) (outs.map cellA) ++ [FR n]) := fun n => KBn_app (HB_KBn (cells_CBn ins) (cells_CBn outs)) FR_ok
  have g59 := c59 (hTF ((leadsP b.term).map (fun j => setC (ins.getD j.toNat (false, [])))).length) (L := (leadsP b.term).map fun j => setC (ins.getD j.toNat (false, []))) (by have := leadsP_len b.term; simp; omega) hLl
  have hout : joinW ((leadsP b.term).map fun j => setC (ins.getD j.toNat (false, []))) = outW ins b := rfl
  rw [hout] at g59
  generalize ((leadsP b.term).map (fun j => setC (ins.getD j.toNat (false, [])))) = L at *
  generalize hJ : outW ins b = J at *
  have gf := afreeze_VS (A := HB p (ins.map cellA) (outs.map cellA) ++ [FR L.length] ++ [.front 0 0]) (B := []) (ws := J)
  have l7 : (HB p (ins.map cellA) (outs.map cellA) ++ [FR L.length] ++ [ABlk.front 0 0]).length = 7 := rfl
  have l6 : (HB p (ins.map cellA) (outs.map cellA) ++ [FR L.length]).length = 6 := rfl
  rw [l7] at gf
  rw [l6] at g59
  -- the second join, with the program's block out of sight
  have hoc : CBn 9 ((outs.map cellA).set k (FZ 7 J)) := CBn_of fun c hc => by
    rcases List.mem_or_eq_of_mem_set hc with h1 | h1
    · obtain ⟨x, _, rfl⟩ := List.mem_map.1 h1
      exact ⟨fun m h _ => (cellA_ok x).1 m h, (cellA_ok x).2⟩
    · subst h1; exact ⟨fun m h hm => FZ_san1 (by omega), FZ_ok⟩
  have zx : ∀ n, KBn n [ZX J] := fun n => by cases J <;> simp [ZX]
  have hT2 : TH ([.gone, .front 0 0, .front 0 0, .cells (ins.map cellA), .cells ((outs.map cellA).set k (FZ 7 J)), FR L.length, .front 0 0, ZX J, .front 1 1] : Heap) := by
    have e : ([.gone, .front 0 0, .front 0 0, .cells (ins.map cellA), .cells ((outs.map cellA).set k (FZ 7 J)), FR L.length, .front 0 0, ZX J, .front 1 1] : Heap) =
        [.gone, .front 0 0, .front 0 0, .cells (ins.map cellA), .cells ((outs.map cellA).set k (FZ 7 J))] ++ ([FR L.length] ++ ([.front 0 0] ++ ([ZX J] ++ [.front 1 1]))) := rfl
    unfold TH
    rw [e]
    exact KBn_app (by simp only [KBn_gone_iff, KBn_front_iff, KBn_cells_iff]; exact ⟨cells_CBn _, hoc, KBn_nil⟩) (KBn_app FR_ok (KBn_app (KBn_front KBn_nil) (KBn_app (zx _) (KBn_front KBn_nil))))
  have g592 := c59 hT2 (L := [J]) (by simp) (fun s hs => by simp at hs; subst hs; exact hJl)
  have hJ2 : (joinW [J]).length ≤ 20000 := join_len 20000 _ [] (by simp) (fun s hs => by simp at hs; subst hs; exact hJl)
  -- what the end reads
  have hB0 : KB ([.cells p.cells, .front 0 0, .front 0 0, .cells (ins.map cellA), .cells ((outs.map cellA).set k (FZ 7 J)), FR L.length, .front 0 0, ZX J, .front 1 1, .front 0 0] : Heap) [] := by
    refine ⟨fun n hn' => ?_, fun n _ => KBn_nil⟩
    have h9 : 9 ≤ n := by simp [HN] at hn'; omega
    have e : ([.cells p.cells, .front 0 0, .front 0 0, .cells (ins.map cellA), .cells ((outs.map cellA).set k (FZ 7 J)), FR L.length, .front 0 0, ZX J, .front 1 1, .front 0 0] : Heap) =
        HB p (ins.map cellA) ((outs.map cellA).set k (FZ 7 J)) ++ ([FR L.length] ++ ([.front 0 0] ++ ([ZX J] ++ [.front 1 1, .front 0 0]))) := rfl
    rw [e]
    exact KBn_app (HB_KBn (cells_CBn _) (fun m h hm => hoc m h (by omega))) (KBn_app FR_ok (KBn_app (KBn_front KBn_nil) (KBn_app (zx _) (KBn_front (KBn_front KBn_nil)))))
  have g60 := c60 hB0 (t := b.term) (fun h => by have := hp.term b hbm h; have := hp.temps; omega) (joinW [J])
  have hBG : KB ([.cells p.cells, .front 0 0, .front 0 0, .cells (ins.map cellA), .cells ((outs.map cellA).set k (FZ 7 J)), FR L.length, .front 0 0, ZX J, .front 1 1, .front 0 0] : Heap) ([] ++ readsG b.term) :=
    hB0.app (by unfold readsG; split <;> simp [Term.cells])
  have gl1 := m27_loop1 hp hBG (by simp [HN]; omega) (bb := bb) (k := (k : Int)) hbm b.ops.length (readsW b.term (joinW [J])) (Nat.le_refl _)
  rw [List.take_length] at gl1
  have hnew : opsW b.ops (readsW b.term (joinW [J])) = newW ins b := by unfold newW blkW; rw [hJ]
  rw [hnew] at gl1
  generalize newW ins b = N at *
  generalize hA : ([.cells p.cells, .front 0 0, .front 0 0, .cells (ins.map cellA), .cells ((outs.map cellA).set k (FZ 7 J)), FR L.length, .front 0 0, ZX J, .front 1 1, .front 0 0] : Heap) = A at *
  have hAl : A.length = 10 := by rw [← hA]; rfl
  rw [hAl] at g60 gl1
  -- are they the same?
  have hTN : TH (OQ A (XS N) ([] ++ readsG b.term)) := OQ_TH hBG XS_ok
  have hc : ins[k]? = some ins[k] := List.getElem?_eq_getElem hki
  have hgd : ins.getD k (false, []) = ins[k] := by simp [List.getD_eq_getElem?_getD, hc]
  have hck := hs ins[k] (List.getElem_mem hki)
  have g62 := c62 hTN (S := (VS A.length N).untok) (T := (cellA ins[k]).untok) (by
    have := SetIn.untok (A := A) (B := [] ++ readsG b.term) (ws := N) rfl
    rwa [show (VS A.length N).untok.untok = (VS A.length N).untok from by cases N <;> rfl]) (by
    have := cellA_in (h := OQ A (XS N) ([] ++ readsG b.term)) ins[k]
    rwa [show (cellA ins[k]).untok.untok = (cellA ins[k]).untok from by rcases ins[k] with ⟨b, w⟩; cases b <;> rfl]) hw hck
  rw [hAl] at g62
  have gf2 := afreeze_VS (A := A) (B := [] ++ readsG b.term) (ws := N)
  rw [hAl] at gf2
  -- what the heaps hold
  have hlen3 : (OQ A (XS (readsW b.term (joinW [J]))) ([] ++ readsG b.term)).length = HN A ([] ++ readsG b.term) := OQ_len
  have hb3 : ∀ X B, getBlk (OQ A X B) 0 = some p.cells := fun X B => by rw [← hA]; rfl
  have hi4 : ∀ X B, getBlk (OQ A X B) 3 = some (ins.map cellA) := fun X B => by rw [← hA]; rfl
  have hcell : (ins.map cellA)[k]? = some (cellA ins[k]) := by rw [List.getElem?_map, hc]; rfl
  rw [hgd]
  generalize hcA : cellA ins[k] = ca at *
  -- the end of the round
  have hput : ∀ (l : List AVal) (v : AVal), k < l.length → putCells l k [v] = l.set k v := fun l v hl => by
    unfold putCells
    rw [List.set_eq_take_append_cons_drop, if_pos hl]; simp
  have tS : trunc 5 (OQ A (XS N) (readsG b.term)) = some (HB p (ins.map cellA) ((outs.set k (true, J)).map cellA)) := by
    have e1 := fun h => san_set (m := 5) (h := h) (id := 7) (ws := J) (by omega) outs k hko
    have e2 : ∀ h, sanCells 5 h (ins.map cellA) = some (ins.map cellA) := fun h => cells_CBn (n := 5) ins 5 h (Nat.le_refl _)
    have e3 : ∀ h, sanCells 5 h p.cells = some p.cells := fun h => HB_CBn (n := 5) 5 h (Nat.le_refl _)
    rw [← hA]
    simp [OQ, trunc, e1, e2, e3, HB]
  have tD : trunc 5 (List.set (OQ A (ZX N) (readsG b.term)) 3 (.cells ((ins.map cellA).set k (FZ 10 N)))) = some (HB p ((ins.set k (true, N)).map cellA) ((outs.set k (true, J)).map cellA)) := by
    have e1 := fun h => san_set (m := 5) (h := h) (id := 7) (ws := J) (by omega) outs k hko
    have e2 := fun h => san_set (m := 5) (h := h) (id := 10) (ws := N) (by omega) ins k hki
    have e3 : ∀ h, sanCells 5 h p.cells = some p.cells := fun h => HB_CBn (n := 5) 5 h (Nat.le_refl _)
    rw [← hA]
    simp [OQ, trunc, e1, e2, e3, HB]
  have stD : astore 1 (OQ A (ZX N) (readsG b.term)) (.ptr 3 k) (FZ 10 N) = some (List.set (OQ A (ZX N) (readsG b.term)) 3 (.cells ((ins.map cellA).set k (FZ 10 N)))) := by
    rw [astore_ptr, hi4, Option.bind_some, FZ_cells, if_pos ⟨rfl, by simp; omega, by simp [FZ_ok]⟩]
    have : (ins.map cellA).drop k = ca :: (ins.map cellA).drop (k + 1) := by
      have hk' : k < (ins.map cellA).length := by simpa using hki
      rw [List.drop_eq_getElem_cons hk']
      have := List.getElem?_eq_getElem hk'
      rw [hcell] at this; cases this; rfl
    rw [this, keepTok_cons, keepTok_nil2, FZ_keep, hput _ _ (by simpa using hki)]
  have ldA : ∀ X B, aload false 1 (OQ A X B) (.ptr 0 2) = some (.slice (p.blocks.map Blk.cells) .no) := fun X B => by rw [aload_ptr, hb3]; rfl
  have ldI : ∀ X B, aload false 1 (OQ A X B) (.ptr 3 k) = some ca := fun X B => by rw [aload_ptr, hi4]; exact hcell
  have ixo : aindexSl 1 (.mslice 4 0 p.blocks.length 1) (.int .i64 (k : Int)) = some (.ptr 4 k) := by rw [aindexSl_mslice, if_pos ⟨hkl, rfl⟩]; simp
  have ixi : aindexSl 1 (.mslice 3 0 p.blocks.length 1) (.int .i64 (k : Int)) = some (.ptr 3 k) := by rw [aindexSl_mslice, if_pos ⟨hkl, rfl⟩]; simp
  have bx : aindexSl 5 (.slice (p.blocks.map Blk.cells) .no) (.int .i64 (k : Int)) = some (.pptr [.slice (b.ops.map Op.cells) .no, .int .i64 b.term.kind, .int .i64 b.term.a, .int .i64 b.term.yes, .int .i64 b.term.no]) := by rw [aindexSl_map, hb]; rfl
  have ld0 : ∀ X, aload false 1 (.cells p.cells :: X) (.ptr 0 2) = some (.slice (p.blocks.map Blk.cells) .no) := fun X => rfl
  have hob := hp.len b hbm
  have w1 : IntKind.i64.wrap ((b.ops.length : Int) - 1) = (b.ops.length : Int) - 1 := by rw [wrap64] <;> omega
  have w2 : IntKind.i64.wrap ((k : Int) - 1) = (k : Int) - 1 := by rw [wrap64] <;> omega
  have q0 := fun h => sP (m := 5) (h := h) (by omega)
  have q1 := fun h => sT1 (m := 5) (h := h) (by omega)
  have q2 := fun h => sT2 (m := 5) (h := h) (by omega)
  have q3 := fun h => sMI (m := 5) (h := h) (n := p.blocks.length) (by omega)
  have q4 := fun h => sMO (m := 5) (h := h) (n := p.blocks.length) (by omega)
  -- the heaps, spelled
  have eA : ([.cells p.cells, .front 0 0, .front 0 0, .cells (ins.map cellA), .cells ((outs.map cellA).set k (FZ 7 J)), FR L.length, .front 0 0, ZX J, .front 1 1, .front 0 0, XS (joinW [J])] : Heap) = OQ A (XS (joinW [J])) [] := by rw [← hA]; rfl
  rw [← eA] at g60
  simp only [List.nil_append] at g60 gl1 g62 gf2
  have eF : FR ([] : List (List Wd)).length = .front 0 0 := rfl
  simp only [eF, List.map_nil, HB, OQ, List.cons_append, List.nil_append] at gl
  rw [show OQ (HB p (ins.map cellA) (outs.map cellA) ++ [FR L.length] ++ [.front 0 0]) (ZX J) [] = [.cells p.cells, .front 0 0, .front 0 0, .cells (ins.map cellA), .cells (outs.map cellA), FR L.length, .front 0 0, ZX J] from rfl,
    show OQ (HB p (ins.map cellA) (outs.map cellA) ++ [FR L.length] ++ [.front 0 0]) (XS J) [] = [.cells p.cells, .front 0 0, .front 0 0, .cells (ins.map cellA), .cells (outs.map cellA), FR L.length, .front 0 0, XS J] from rfl] at gf
  rw [show OQ (HB p (ins.map cellA) (outs.map cellA) ++ [FR L.length] ++ [.front 0 0]) (XS J) [] = [.cells p.cells, .front 0 0, .front 0 0, .cells (ins.map cellA), .cells (outs.map cellA), FR L.length, .front 0 0, XS J] from rfl,
    show HB p (ins.map cellA) (outs.map cellA) ++ [FR L.length] = [.cells p.cells, .front 0 0, .front 0 0, .cells (ins.map cellA), .cells (outs.map cellA), FR L.length] from rfl] at g59
  have stO : astore 1 ([.cells p.cells, .front 0 0, .front 0 0, .cells (ins.map cellA), .cells (outs.map cellA), FR L.length, .front 0 0, ZX J] : Heap) (.ptr 4 k) (FZ 7 J) = some [.cells p.cells, .front 0 0, .front 0 0, .cells (ins.map cellA), .cells ((outs.map cellA).set k (FZ 7 J)), FR L.length, .front 0 0, ZX J] := by
    rw [astore_ptr]
    have hk' : k < (outs.map cellA).length := by simpa using hko
    have hg4 : getBlk ([.cells p.cells, .front 0 0, .front 0 0, .cells (ins.map cellA), .cells (outs.map cellA), FR L.length, .front 0 0, ZX J] : Heap) 4 = some (outs.map cellA) := rfl
    rw [hg4, Option.bind_some, FZ_cells, if_pos ⟨rfl, by simp; omega, by simp [FZ_ok]⟩, List.drop_eq_getElem_cons hk', keepTok_cons, keepTok_nil2, FZ_keep, hput _ _ hk']
    rfl
  have ldO : aload false 1 ([.cells p.cells, .front 0 0, .front 0 0, .cells (ins.map cellA), .cells ((outs.map cellA).set k (FZ 7 J)), FR L.length, .front 0 0, ZX J] : Heap) (.ptr 4 k) = some (FZ 7 J) := by
    rw [aload_ptr]
    have hg4 : getBlk ([.cells p.cells, .front 0 0, .front 0 0, .cells (ins.map cellA), .cells ((outs.map cellA).set k (FZ 7 J)), FR L.length, .front 0 0, ZX J] : Heap) 4 = some ((outs.map cellA).set k (FZ 7 J)) := rfl
    rw [hg4, Option.bind_some]
    exact set_get (by simpa using hko) _
  rw [show OQ ([.gone, .front 0 0, .front 0 0, .cells (ins.map cellA), .cells ((outs.map cellA).set k (FZ 7 J)), FR L.length, .front 0 0, ZX J, .front 1 1] ++ [.front 0 0]) (XS (joinW [J])) [] =
      [.gone, .front 0 0, .front 0 0, .cells (ins.map cellA), .cells ((outs.map cellA).set k (FZ 7 J)), FR L.length, .front 0 0, ZX J, .front 1 1, .front 0 0, XS (joinW [J])] from rfl] at g592
  simp only [List.map_cons, List.map_nil, List.length_cons, List.length_nil, Nat.zero_add, Nat.reduceAdd] at g592
  have row := fun h => FZ_row 7 J h
  have hil : ∀ l : List Int, (ints l).length = l.length := fun l => by simp [ints]
  simp only [Nat.reduceAdd] at g59
  simp only [Term.cells] at g58 g60
  clear hb3 hi4 hput hlen3 hTN hBG hB0 hT2 zx hoc hTF hcell hgd hck hc hJl hJ2 hLl hA eA hld hnew hJ hout hs
  rw [show HB p (ins.map cellA) (outs.map cellA) = [.cells p.cells, .front 0 0, .front 0 0, .cells (ins.map cellA), .cells (outs.map cellA)] from rfl]
  by_cases hsame : listS N = listS (setC ins[k])
  · rw [if_pos hsame, if_pos hsame]
    rw [decide_eq_true hsame] at g62
    generalize HB p (ins.map cellA) ((outs.set k (true, J)).map cellA) = Hend at *
    unfold m27_l2
    simp -implicitDefEqProofs [-astore_ptr, -aload_ptr, hil, ld0, bx, g58, gl, g59, gf, ixo, stO, ldO, row, g592, g60, ldA, w1, gl1, ixi, ldI, g62, endR, tS, q0, q1, q2, q3, q4, w2]
  · rw [if_neg hsame, if_neg hsame]
    rw [decide_eq_false hsame] at g62
    generalize HB p ((ins.set k (true, N)).map cellA) ((outs.set k (true, J)).map cellA) = Hend at *
    unfold m27_l2
    simp -implicitDefEqProofs [-astore_ptr, -aload_ptr, hil, ld0, bx, g58, gl, g59, gf, ixo, stO, ldO, row, g592, g60, ldA, w1, gl1, ixi, ldI, g62, gf2, stD, endR, tD, q0, q1, q2, q3, q4, w2]
end
end Go.Proofs.YtkeoalhglkfbkaaDoor

/-
  The sets of all blocks, and what becomes of them: plain. No conditions.
-/
namespace Go.Proofs.YtkeoalhglkfbkaaDoor
open Go Hk Go.Proofs.Wd

/-- A block's set. -/
def Wk (ins : List Cl) (k : Nat) : List Wd := setC (ins.getD k (false, []))
theorem Wk_set {ins : List Cl} {k j : Nat} {w : List Wd} (hk : k < ins.length) : Wk (ins.set k (true, w)) j = if k = j then w else Wk ins j := by
  unfold Wk
  rw [List.getD_eq_getElem?_getD, List.getD_eq_getElem?_getD, List.getElem?_set]
  split
  · rename_i h; subst h; simp [hk, setC]
  · rfl
theorem wget_ops (l : List Op) (x : Term) (ws : List Wd) (u : Nat) : wget (opsW l (readsW x ws)) u = true ↔ trOps l x (fun t => 0 ≤ t ∧ wget ws t.toNat = true) (u : Int) := by
  induction l with
  | nil => exact wget_reads x ws u
  | cons o r ih =>
    have e : opsW (o :: r) (readsW x ws) = aheadW o (opsW r (readsW x ws)) := rfl
    rw [e, wget_ahead]
    show _ ↔ trOp o (trOps r x _) (u : Int)
    unfold trOp
    refine or_congr Iff.rfl (and_congr ?_ Iff.rfl)
    rw [← ih]
    simp only [Int.toNat_natCast]
    exact ⟨fun h => h.2, fun h => ⟨by omega, h⟩⟩
theorem wget_one (J : List Wd) (t : Nat) : wget (joinW [J]) t = wget J t := by
  unfold joinW; rw [wget_join]; simp [wget]
theorem wget_out (ins : List Cl) (b : Blk) (t : Nat) : wget (outW ins b) t = true ↔ ∃ j ∈ leadsP b.term, wget (Wk ins j.toNat) t = true := by
  unfold outW joinW
  rw [wget_join]
  have : wget [] t = false := by simp [wget]
  rw [this, Bool.false_or, List.any_eq_true]
  constructor
  · rintro ⟨s, hs, ht⟩
    obtain ⟨j, hj, rfl⟩ := List.mem_map.1 hs
    exact ⟨j, hj, ht⟩
  · rintro ⟨j, hj, ht⟩
    exact ⟨_, List.mem_map.2 ⟨j, hj, rfl⟩, ht⟩
/-- What the sets say of a block's end. -/
def SB (ins : List Cl) (x : Term) : Int → Prop := fun t => ∃ j ∈ leadsP x, 0 ≤ t ∧ wget (Wk ins j.toNat) t.toNat = true
theorem trOps_congr {l : List Op} {x : Term} {S T : Int → Prop} {t : Int} (h : S t ↔ T t) : trOps l x S t ↔ trOps l x T t := by
  rw [trOps_fate, trOps_fate, h]
theorem wget_new (ins : List Cl) (b : Blk) (u : Nat) : wget (newW ins b) u = true ↔ trBlk b (SB ins b.term) (u : Int) := by
  unfold newW blkW trBlk
  rw [wget_ops]
  refine trOps_congr ?_
  simp only [Int.toNat_natCast, wget_one, wget_out, SB]
  constructor
  · rintro ⟨h0, j, hj, ht⟩; exact ⟨j, hj, h0, ht⟩
  · rintro ⟨j, hj, h0, ht⟩; exact ⟨h0, j, hj, ht⟩

theorem fate_one {l : List Op} {x : Term} {t : Int} (h : fateS l x t = 1) : (∃ o ∈ l, t ∈ usesS o) ∨ (x.kind = 2 ∧ x.a = t) := by
  induction l with
  | nil =>
    simp only [fateS] at h
    split at h
    · rename_i h1; exact .inr h1
    · cases h
  | cons o r ih =>
    simp only [fateS] at h
    split at h
    · rename_i h1; exact .inl ⟨o, by simp, h1⟩
    · split at h
      · cases h
      · rcases ih h with ⟨o', h1, h2⟩ | h1
        · exact .inl ⟨o', by simp [h1], h2⟩
        · exact .inr h1

section
variable {p : IR} (hp : OpsOk p)
include hp
theorem fate_range {b : Blk} (hb : b ∈ p.blocks) {t : Int} (h : fateS b.ops b.term t = 1) : 0 ≤ t ∧ t < p.temps := by
  rcases fate_one h with ⟨o, ho, ht⟩ | ⟨h1, h2⟩
  · exact hp.use b hb o ho t ht
  · have := hp.term b hb h1; omega
theorem reach_range {t : Int} {k : Nat} (h : Reach p.blocks t k) : 0 ≤ t ∧ t < p.temps := by
  induction h with
  | here hb hf => exact fate_range hp (List.mem_of_getElem? hb) hf
  | step hb hf hj hr ih => exact ih
/-- The sets on the way. -/
structure SI (p : IR) (ins : List Cl) : Prop where
  len : ins.length = p.blocks.length
  sz : ∀ c ∈ ins, (setC c).length ≤ 20000
  sound : ∀ (k t : Nat), wget (Wk ins k) t = true → Reach p.blocks (t : Int) k
  pre : ∀ (k : Nat) (b : Blk), p.blocks[k]? = some b → ∀ t : Nat, wget (Wk ins k) t = true → trBlk b (SB ins b.term) (t : Int)

omit hp in
theorem Wk_sz {ins : List Cl} (hs : ∀ c ∈ ins, (setC c).length ≤ 20000) (k : Nat) : (Wk ins k).length ≤ 20000 := by
  unfold Wk
  rw [List.getD_eq_getElem?_getD]
  cases hq : ins[k]? with
  | none => simp [setC]
  | some c => exact hs c (List.mem_of_getElem? hq)
theorem new_sz {ins : List Cl} (hs : ∀ c ∈ ins, (setC c).length ≤ 20000) {b : Blk} (hb : b ∈ p.blocks) : (newW ins b).length ≤ 20000 := by
  have hJ : (outW ins b).length ≤ 20000 := join_len 20000 _ [] (by simp) fun s hs' => by
    obtain ⟨j, _, rfl⟩ := List.mem_map.1 hs'
    exact Wk_sz hs j.toNat
  have hJ2 : (joinW [outW ins b]).length ≤ 20000 := join_len 20000 _ [] (by simp) fun s hs' => by simp at hs'; subst hs'; exact hJ
  have hR : (readsW b.term (joinW [outW ins b])).length ≤ 20000 := reads_len (fun h => by have := hp.term b hb h; have := hp.temps; omega) hJ2
  have key : ∀ (l : List Op), (∀ o ∈ l, o ∈ b.ops) → (opsW l (readsW b.term (joinW [outW ins b]))).length ≤ 20000 := by
    intro l
    induction l with
    | nil => exact fun _ => hR
    | cons o r ih =>
      intro hl
      exact ahead_len (fun t ht => by have := hp.use b hb o (hl o (by simp)) t ht; have := hp.temps; omega) (ih fun x hx => hl x (by simp [hx]))
  exact key b.ops fun o h => h
end

/-- How much the sets hold. -/
def sizeS (ins : List Cl) : Nat := (ins.map fun c => (listS (setC c)).length).sum
theorem sizeS_set : ∀ (ins : List Cl) (k : Nat) (c : Cl), k < ins.length → sizeS (ins.set k c) + (listS (Wk ins k)).length = sizeS ins + (listS (setC c)).length
  | [], k, c, h => by simp at h
  | x :: r, 0, c, _ => by
    simp only [sizeS, List.set_cons_zero, List.map_cons, List.sum_cons]
    have : Wk (x :: r) 0 = setC x := rfl
    rw [this]; omega
  | x :: r, k + 1, c, h => by
    have ih := sizeS_set r k c (by simpa using h)
    simp only [sizeS, List.set_cons_succ, List.map_cons, List.sum_cons] at ih ⊢
    have : Wk (x :: r) (k + 1) = Wk r k := rfl
    rw [this]; omega
theorem listS_len {ws : List Wd} (h : ws.length ≤ 20000) : (listS ws).length ≤ 1280000 := by
  unfold listS
  exact Nat.le_trans (List.length_filter_le _ _) (by simp; omega)
theorem sizeS_le : ∀ (ins : List Cl), (∀ c ∈ ins, (setC c).length ≤ 20000) → sizeS ins ≤ ins.length * 1280000
  | [], _ => by simp [sizeS]
  | x :: r, h => by
    have ih := sizeS_le r fun c hc => h c (by simp [hc])
    have := listS_len (h x (by simp))
    simp only [sizeS, List.map_cons, List.sum_cons, List.length_cons] at ih ⊢
    omega
theorem listS_grow {a b : List Wd} (h : ∀ t, wget a t = true → wget b t = true) (hne : listS a ≠ listS b) : (listS a).length < (listS b).length := by
  have ha : listS a = (List.range (64 * max a.length b.length)).filter (wget a) := listS_eq fun t ht => by have := wget_lt ht; omega
  have hb : listS b = (List.range (64 * max a.length b.length)).filter (wget b) := listS_eq fun t ht => by have := wget_lt ht; omega
  have hsub : (listS a).Sublist (listS b) := by
    have e : listS a = (listS b).filter (wget a) := by
      rw [ha, hb, List.filter_filter]
      apply List.filter_congr
      intro t _
      cases hx : wget a t
      · simp
      · simp [h t hx]
    rw [e]; exact List.filter_sublist
  rcases Nat.lt_or_ge (listS a).length (listS b).length with h1 | h1
  · exact h1
  · exact absurd (hsub.eq_of_length (Nat.le_antisymm hsub.length_le h1)) hne

section
variable {p : IR} (hp : OpsOk p) (hl : ∀ b ∈ p.blocks, leadsP b.term = leadsS b.term)
include hp hl
theorem SI.start : SI p (List.replicate p.blocks.length (false, [])) := by
  have hW : ∀ k, Wk (List.replicate p.blocks.length (false, [])) k = [] := fun k => by
    unfold Wk
    rw [List.getD_eq_getElem?_getD, List.getElem?_replicate]
    split <;> rfl
  refine ⟨by simp, fun c hc => by rw [(List.mem_replicate.1 hc).2]; simp [setC], fun k t h => ?_, fun k b _ t h => ?_⟩ <;>
    (rw [hW] at h; simp [wget] at h)
theorem SI.new_sound {ins : List Cl} (h : SI p ins) {k : Nat} {b : Blk} (hb : p.blocks[k]? = some b) {t : Nat} (ht : wget (newW ins b) t = true) : Reach p.blocks (t : Int) k := by
  refine live_sound (W := fun j u => 0 ≤ u ∧ wget (Wk ins j) u.toNat = true) (fun j u hu => ?_) hb ?_
  · have := h.sound j u.toNat hu.2
    rwa [Int.toNat_of_nonneg hu.1] at this
  · rw [wget_new] at ht
    unfold SB at ht
    rw [hl b (List.mem_of_getElem? hb)] at ht
    exact ht
theorem SI.step {ins : List Cl} (h : SI p ins) {k : Nat} {b : Blk} (hb : p.blocks[k]? = some b) : SI p (ins.set k (true, newW ins b)) := by
  have hk : k < ins.length := by rw [h.len]; exact (List.getElem?_eq_some_iff.1 hb).1
  have hW := fun j => Wk_set (ins := ins) (j := j) (w := newW ins b) hk
  have mono : ∀ (j t : Nat), wget (Wk ins j) t = true → wget (Wk (ins.set k (true, newW ins b)) j) t = true := fun j t ht => by
    rw [hW]
    split
    · rename_i e; subst e
      rw [wget_new]; exact h.pre k b hb t ht
    · exact ht
  have smono : ∀ (x : Term) (t : Int), SB ins x t → SB (ins.set k (true, newW ins b)) x t := fun x t ⟨j, hj, h0, ht⟩ => ⟨j, hj, h0, mono _ _ ht⟩
  refine ⟨by simp [h.len], fun c hc => ?_, fun j t ht => ?_, fun j c hc t ht => ?_⟩
  · rcases List.mem_or_eq_of_mem_set hc with h1 | h1
    · exact h.sz c h1
    · subst h1; exact new_sz hp h.sz (List.mem_of_getElem? hb)
  · rw [hW] at ht
    split at ht
    · rename_i e; subst e; exact h.new_sound hp hl hb ht
    · exact h.sound j t ht
  · rw [hW] at ht
    split at ht
    · rename_i e; subst e
      rw [hb] at hc; cases hc
      rw [wget_new] at ht
      exact trOps_mono (smono _) ht
    · exact trOps_mono (smono _) (h.pre j c hc t ht)
/-- Nothing changes any more. -/
def Fin (p : IR) (ins outs : List Cl) : Prop := ∀ (k : Nat) (b : Blk), p.blocks[k]? = some b → outs.getD k (false, []) = (true, outW ins b) ∧ listS (newW ins b) = listS (Wk ins k)
theorem SI.complete {ins outs : List Cl} (h : SI p ins) (hf : Fin p ins outs) (k t : Nat) : wget (Wk ins k) t = true ↔ Reach p.blocks (t : Int) k := by
  refine ⟨h.sound k t, fun hr => ?_⟩
  have := live_complete (W := fun j u => 0 ≤ u ∧ wget (Wk ins j) u.toNat = true) (bs := p.blocks) (fun j b hb u hu => ?_) hr
  · simpa using this.2
  · have hr0 : 0 ≤ u := by
      unfold trBlk at hu
      rw [trOps_fate] at hu
      rcases hu with h1 | ⟨_, j', _, h2⟩
      · exact (fate_range hp (List.mem_of_getElem? hb) h1).1
      · exact h2.1
    obtain ⟨n, rfl⟩ := Int.eq_ofNat_of_zero_le hr0
    refine ⟨hr0, ?_⟩
    have h2 := (listS_inj.1 (hf j b hb).2) n
    simp only [Int.toNat_natCast]
    rw [← h2, wget_new]
    unfold SB
    rw [hl b (List.mem_of_getElem? hb)]
    exact hu
end
end Go.Proofs.YtkeoalhglkfbkaaDoor

/-
  'Live', whole: which temps are wanted. No conditions.
-/
namespace Go.Proofs.YtkeoalhglkfbkaaDoor
open Go Hk Go.Proofs.Wd

section
variable {p : IR} (hp : OpsOk p) (hl : ∀ b ∈ p.blocks, leadsP b.term = leadsS b.term)
include hp hl

def lvS (p : IR) (bb : Bool) : List AVal := [.ptr 0 0, T1, T2, .int .i64 0, .mslice 3 0 p.blocks.length 1, .mslice 4 0 p.blocks.length 1, .bool bb]

theorem m27_loop2 : ∀ (c : Nat) (ins outs : List Cl) (bb : Bool), c ≤ p.blocks.length → SI p ins → outs.length = p.blocks.length →
    ∃ (ins' outs' : List Cl) (bb' : Bool), lpW (m27_l2 KK 5) (lvS p bb ++ [.int .i64 ((c : Int) - 1)], HB p (ins.map cellA) (outs.map cellA)) = some (.exit 2, lvS p bb' ++ [.int .i64 (-1)], HB p (ins'.map cellA) (outs'.map cellA)) ∧
      SI p ins' ∧ outs'.length = p.blocks.length ∧ (bb = true → bb' = true) ∧ sizeS ins ≤ sizeS ins' ∧ (bb = false → bb' = true → sizeS ins < sizeS ins') ∧
      (bb' = false → ins' = ins ∧ (∀ (k : Nat), c ≤ k → outs'.getD k (false, []) = outs.getD k (false, [])) ∧
        ∀ (k : Nat) (b : Blk), k < c → p.blocks[k]? = some b → outs'.getD k (false, []) = (true, outW ins b) ∧ listS (newW ins b) = listS (Wk ins k)) := by
  have q0 := fun h => sP (m := 5) (h := h) (by omega)
  have q1 := fun h => sT1 (m := 5) (h := h) (by omega)
  have q2 := fun h => sT2 (m := 5) (h := h) (by omega)
  have q3 := fun h => sMI (m := 5) (h := h) (n := p.blocks.length) (by omega)
  have q4 := fun h => sMO (m := 5) (h := h) (n := p.blocks.length) (by omega)
  intro c
  induction c with
  | zero =>
    intro ins outs bb _ hI ho
    have htr : trunc 5 (HB p (ins.map cellA) (outs.map cellA)) = some (HB p (ins.map cellA) (outs.map cellA)) := trunc_app0 (HB_KBn (cells_CBn _) (cells_CBn _))
    refine ⟨ins, outs, bb, lp_exit ?_, hI, ho, id, Nat.le_refl _, (fun h1 h2 => absurd (h1.symm.trans h2) (by decide)), fun _ => ⟨rfl, fun _ _ => rfl, fun k b hk => by omega⟩⟩
    unfold m27_l2
    simp only [lvS]
    simp -implicitDefEqProofs [endR, htr, q0, q1, q2, q3, q4]
  | succ c ih =>
    intro ins outs bb hc hI ho
    have hcl : c < p.blocks.length := by omega
    have hb : p.blocks[c]? = some p.blocks[c] := List.getElem?_eq_getElem hcl
    have hbm := List.getElem_mem hcl
    generalize p.blocks[c] = b at *
    have hci : c < ins.length := by rw [hI.len]; exact hcl
    have hw := new_sz hp hI.sz hbm
    have g := m27_round hp hI.len ho hI.sz (bb := bb) hb hw
    have w0 : ((c + 1 : Nat) : Int) - 1 = (c : Int) := by omega
    have hWk : setC (ins.getD c (false, [])) = Wk ins c := rfl
    rw [hWk] at g
    rw [w0]
    by_cases hsame : listS (newW ins b) = listS (Wk ins c)
    · rw [if_pos hsame, if_pos hsame] at g
      obtain ⟨ins', outs', bb', g1, g2, g3, g4, g5, g6, g7⟩ := ih ins (outs.set c (true, outW ins b)) bb (by omega) hI (by simp [ho])
      refine ⟨ins', outs', bb', ?_, g2, g3, g4, g5, g6, fun hb' => ?_⟩
      · rw [← g1]; exact lp_go g
      · obtain ⟨k1, k2, k3⟩ := g7 hb'
        have hset : ∀ k, (outs.set c (true, outW ins b)).getD k (false, []) = if c = k then (true, outW ins b) else outs.getD k (false, []) := fun k => by
          rw [List.getD_eq_getElem?_getD, List.getD_eq_getElem?_getD, List.getElem?_set]
          split
          · rename_i e; subst e; simp [show c < outs.length by omega]
          · rfl
        refine ⟨k1, fun k hk => ?_, fun k b' hk hb2 => ?_⟩
        · rw [k2 k (by omega), hset, if_neg (by omega)]
        · by_cases hkc : k = c
          · subst hkc
            rw [hb] at hb2; cases hb2
            rw [k2 k (Nat.le_refl _), hset, if_pos rfl]
            exact ⟨rfl, hsame⟩
          · exact k3 k b' (by omega) hb2
    · rw [if_neg hsame, if_neg hsame] at g
      have hI2 := SI.step hp hl hI hb
      obtain ⟨ins', outs', bb', g1, g2, g3, g4, g5, g6, g7⟩ := ih (ins.set c (true, newW ins b)) (outs.set c (true, outW ins b)) true (by omega) hI2 (by simp [ho])
      have hgrow : sizeS ins < sizeS (ins.set c (true, newW ins b)) := by
        have h1 := sizeS_set ins c (true, newW ins b) hci
        have h2 := listS_grow (a := Wk ins c) (b := newW ins b) (fun t ht => by rw [wget_new]; exact hI.pre c b hb t ht) (fun e => hsame e.symm)
        have h3 : setC (true, newW ins b) = newW ins b := rfl
        rw [h3] at h1; omega
      have hb' := g4 rfl
      refine ⟨ins', outs', bb', ?_, g2, g3, fun _ => hb', by omega, fun _ _ => by omega, fun h => by rw [hb'] at h; cases h⟩
      rw [← g1]; exact lp_go g

theorem m27_loop3 (M : Nat) (hM : ∀ ins, SI p ins → sizeS ins ≤ M) : ∀ (n : Nat) (ins outs : List Cl) (bb : Bool), 2 * (M - sizeS ins) + (bif bb then 1 else 0) < n → SI p ins → outs.length = p.blocks.length → (bb = false → Fin p ins outs) →
    ∃ (ins' outs' : List Cl), lpW (m27_l3 KK 5) (lvS p bb, HB p (ins.map cellA) (outs.map cellA)) = some (.exit 0, lvS p false, HB p (ins'.map cellA) (outs'.map cellA)) ∧ SI p ins' ∧ outs'.length = p.blocks.length ∧ Fin p ins' outs' := by
  have q0 := fun h => sP (m := 5) (h := h) (by omega)
  have q1 := fun h => sT1 (m := 5) (h := h) (by omega)
  have q2 := fun h => sT2 (m := 5) (h := h) (by omega)
  have q3 := fun h => sMI (m := 5) (h := h) (n := p.blocks.length) (by omega)
  have q4 := fun h => sMO (m := 5) (h := h) (n := p.blocks.length) (by omega)
  have hnb := hp.nb
  intro n
  induction n with
  | zero => intro ins outs bb h; omega
  | succ n ih =>
    intro ins outs bb hn hI ho hf
    have htr : ∀ i o : List Cl, trunc 5 (HB p (i.map cellA) (o.map cellA)) = some (HB p (i.map cellA) (o.map cellA)) := fun i o => trunc_app0 (HB_KBn (cells_CBn _) (cells_CBn _))
    have h5 : ∀ i o : List Cl, (HB p (i.map cellA) (o.map cellA)).length = 5 := fun _ _ => rfl
    cases bb with
    | false =>
      refine ⟨ins, outs, lp_exit ?_, hI, ho, hf rfl⟩
      unfold m27_l3
      simp only [lvS]
      simp -implicitDefEqProofs [endR, htr, q0, q1, q2, q3, q4]
    | true =>
      obtain ⟨ins', outs', bb', g1, g2, g3, g4, g5, g6, g7⟩ := m27_loop2 hp hl p.blocks.length ins outs false (Nat.le_refl _) hI ho
      have hle := hM ins' g2
      obtain ⟨ins2, outs2, k1, k2, k3, k4⟩ := ih ins' outs' bb' (by
        cases bb' with
        | false => simp only [cond_true, cond_false] at hn ⊢; omega
        | true => have := g6 rfl rfl; simp only [cond_true] at hn ⊢; omega) g2 g3 (fun hb => by
          obtain ⟨e1, _, e3⟩ := g7 hb
          intro k b hb'
          rw [e1]
          exact e3 k b (List.getElem?_eq_some_iff.1 hb').1 hb')
      refine ⟨ins2, outs2, ?_, k2, k3, k4⟩
      rw [← k1]
      refine lp_go ?_
      have ldA : ∀ i o : List Cl, aload false 1 (HB p (i.map cellA) (o.map cellA)) (.ptr 0 2) = some (.slice (p.blocks.map Blk.cells) .no) := fun i o => rfl
      have w1 : IntKind.i64.wrap ((p.blocks.length : Int) - 1) = (p.blocks.length : Int) - 1 := by rw [wrap64] <;> omega
      simp only [lvS, List.cons_append, List.nil_append] at g1 ⊢
      unfold m27_l3
      simp -implicitDefEqProofs [-aload_ptr, ldA, h5, w1, g1, endR, htr, q0, q1, q2, q3, q4]
end
end Go.Proofs.YtkeoalhglkfbkaaDoor

/-
  'Live': what it answers. No conditions.
-/
namespace Go.Proofs.YtkeoalhglkfbkaaDoor
open Go Hk Go.Proofs.Wd

theorem checkS_zero {p : IR} (h : checkS p = 0) : Lim0 p ∧ Lim p ∧ p.blocks ≠ [] ∧ arrsS p.inn p.out 0 p.arrays = true ∧ ∀ b ∈ p.blocks, (∀ o ∈ b.ops, opS p o = true) ∧ termS (p := p) b.term = true := by
  unfold checkS at h
  cases hl : limitedS p
  · rw [hl, if_pos rfl] at h; exact absurd h (by decide)
  · rw [hl, if_neg (by decide)] at h
    have l := limited_iff.1 hl
    split at h
    · rename_i hc
      obtain ⟨c1, c2, c3, c4, c5, c6⟩ := hc
      simp only [between, Bool.and_eq_true, decide_eq_true_eq] at c1 c2
      split at h
      · rename_i h2
        simp only [Bool.and_eq_true, List.all_eq_true] at h2
        refine ⟨l, ⟨c5, l.t1, l.a1, l.b1, c1.1, c1.2, c2.1, c2.2⟩, c6, h2.1, fun b hb => ?_⟩
        have := h2.2 b hb
        simp only [blkS, Bool.and_eq_true, List.all_eq_true] at this
        exact this
      · exact absurd h (by decide)
    · exact absurd h (by decide)

theorem opsOk_of {p : IR} (h : checkS p = 0) : OpsOk p ∧ ∀ b ∈ p.blocks, leadsP b.term = leadsS b.term := by
  obtain ⟨l, lp, hne, _, hb⟩ := checkS_zero h
  have ht0 := lp.t0
  have ht1 := lp.t1
  have hu : ∀ b ∈ p.blocks, ∀ o ∈ b.ops, (∀ t ∈ usesS o, 0 ≤ t ∧ t < p.temps) ∧ o.dst ≤ 2000000 ∧ ((formS o.kind).dst = true → 0 ≤ o.dst ∧ o.dst < p.temps) := by
    intro b hbm o ho
    have h1 := (hb b hbm).1 o ho
    unfold opS at h1
    simp only [Bool.and_eq_true, List.all_eq_true, decide_eq_true_eq, Bool.or_eq_true, Bool.not_eq_true', between] at h1
    obtain ⟨_, _, h2, ⟨h3, _⟩, h4, _⟩ := h1
    refine ⟨fun t ht => by have := h2 t ht; omega, ?_, fun hd => ?_⟩
    · rcases h4 with h4 | h4
      · rw [h4] at h3; simp at h3; omega
      · omega
    · rcases h4 with h4 | h4
      · rw [hd] at h4; cases h4
      · omega
  have hlead : ∀ b ∈ p.blocks, ∀ j ∈ leadsP b.term, 0 ≤ j ∧ j.toNat < p.blocks.length := by
    intro b hbm j hj
    have h1 := (hb b hbm).2
    unfold termS at h1
    unfold leadsP at hj
    by_cases k1 : b.term.kind = 1
    · rw [if_pos k1] at h1 hj
      simp only [Bool.and_eq_true, decide_eq_true_eq, between] at h1
      have := List.mem_filter.1 hj
      simp at this
      omega
    · rw [if_neg k1] at h1 hj
      by_cases k2 : b.term.kind = 2
      · rw [if_pos k2] at h1 hj
        simp only [Bool.and_eq_true, decide_eq_true_eq, between] at h1
        have := List.mem_filter.1 hj
        simp at this
        omega
      · rw [if_neg k2] at hj; simp at hj
  refine ⟨⟨fun b hb o ho => (hu b hb o ho).1, fun b hb o ho => (hu b hb o ho).2.1, fun b hb o ho => (hu b hb o ho).2.2, fun b hbm k2 => ?_, hlead, ht1, by have := lp.b1; omega, fun b hb => by have := opsS_mem hb; have := l.o1; omega⟩, fun b hbm => leads_eq (hb b hbm).2⟩
  have h1 := (hb b hbm).2
  unfold termS at h1
  rw [if_neg (by omega), if_pos k2] at h1
  simp only [Bool.and_eq_true, decide_eq_true_eq, between] at h1
  omega

def slW (ws : List Wd) : AVal := .slice (ints (zs (listS ws))) .no
def rowsW (l : List Cl) (i : Nat) : List (List AVal) := (List.range i).map fun k => [slW (Wk l k)]
theorem rowsW_len {l : List Cl} {i : Nat} : (rowsW l i).length = i := by simp [rowsW]
theorem rowsW_succ {l : List Cl} {i : Nat} : rowsW l (i + 1) = rowsW l i ++ [[slW (Wk l i)]] := by simp [rowsW, List.range_succ]

section
variable {p : IR} (hp : OpsOk p) {ins outs : List Cl} (hi : ins.length = p.blocks.length) (ho : outs.length = p.blocks.length) (hsi : ∀ c ∈ ins, (setC c).length ≤ 20000) (hso : ∀ c ∈ outs, (setC c).length ≤ 20000)
include hp hi ho hsi hso
theorem m27_loop4 : ∀ (d i : Nat), p.blocks.length = i + d →
    lpW (m27_l4 KK 7) ([T1, T2, .int .i64 0, .mslice 3 0 p.blocks.length 1, .mslice 4 0 p.blocks.length 1, .slice (rowsW ins i) (.own 5), .slice (rowsW outs i) (.own 6), .int .i64 (p.blocks.length : Int), .int .i64 (i : Int)], HB p (ins.map cellA) (outs.map cellA) ++ [FR i, FR i]) =
      some (.exit 8, [T1, T2, .int .i64 0, .mslice 3 0 p.blocks.length 1, .mslice 4 0 p.blocks.length 1, .slice (rowsW ins p.blocks.length) (.own 5), .slice (rowsW outs p.blocks.length) (.own 6), .int .i64 (p.blocks.length : Int), .int .i64 (p.blocks.length : Int)],
        HB p (ins.map cellA) (outs.map cellA) ++ [FR p.blocks.length, FR p.blocks.length]) := by
  have q1 := fun h => sT1 (m := 7) (h := h) (by omega)
  have q2 := fun h => sT2 (m := 7) (h := h) (by omega)
  have q3 := fun h => sMI (m := 7) (h := h) (n := p.blocks.length) (by omega)
  have q4 := fun h => sMO (m := 7) (h := h) (n := p.blocks.length) (by omega)
  have q5 : ∀ h rows, AVal.san 7 h (.slice rows (.own 5)) = .slice rows (.own 5) := fun h rows => by simp
  have q6 : ∀ h rows, AVal.san 7 h (.slice rows (.own 6)) = .slice rows (.own 6) := fun h rows => by simp
  have hnb := hp.nb
  have hT : ∀ n k : Nat, TH (HB p (ins.map cellA) (outs.map cellA) ++ [FR n, FR k]) := fun n k => by
    have e : HB p (ins.map cellA) (outs.map cellA) ++ [FR n, FR k] = HB p (ins.map cellA) (outs.map cellA) ++ ([FR n] ++ [FR k]) := rfl
    unfold TH; rw [e]
    exact KBn_app (HB_KBn (cells_CBn _) (cells_CBn _)) (KBn_app FR_ok FR_ok)
  have htr : ∀ n k C, trunc 7 (.cells p.cells :: .front 0 0 :: .front 0 0 :: .cells (ins.map cellA) :: .cells (outs.map cellA) :: FR n :: FR k :: C) = some [.cells p.cells, .front 0 0, .front 0 0, .cells (ins.map cellA), .cells (outs.map cellA), FR n, FR k] := fun n k C => trunc_app (C := C) (hT n k)
  intro d
  induction d with
  | zero =>
    intro i hd
    obtain rfl : p.blocks.length = i := by omega
    refine lp_exit ?_
    simp only [HB, List.cons_append, List.nil_append]
    unfold m27_l4
    simp -implicitDefEqProofs [endR, htr, q1, q2, q3, q4, q5, q6]
  | succ d ih =>
    intro i hd
    have hil : i < p.blocks.length := by omega
    have hil' : (i : Int) < (p.blocks.length : Int) := by omega
    rw [← ih (i + 1) (by omega)]
    refine lp_go ?_
    have hci : ins[i]? = some ins[i] := List.getElem?_eq_getElem (by omega)
    have hco : outs[i]? = some outs[i] := List.getElem?_eq_getElem (by omega)
    have hWi : setC ins[i] = Wk ins i := by unfold Wk; rw [List.getD_eq_getElem?_getD, hci]; rfl
    have hWo : setC outs[i] = Wk outs i := by unfold Wk; rw [List.getD_eq_getElem?_getD, hco]; rfl
    have ixi : aindexSl 1 (.mslice 3 0 p.blocks.length 1) (.int .i64 (i : Int)) = some (.ptr 3 i) := by rw [aindexSl_mslice, if_pos ⟨hil, rfl⟩]; simp
    have ixo : aindexSl 1 (.mslice 4 0 p.blocks.length 1) (.int .i64 (i : Int)) = some (.ptr 4 i) := by rw [aindexSl_mslice, if_pos ⟨hil, rfl⟩]; simp
    have ldi : ∀ X Y Z W C, aload false 1 (X :: Y :: Z :: .cells (ins.map cellA) :: W :: C) (.ptr 3 i) = some (cellA ins[i]) := fun X Y Z W C => by
      rw [aload_ptr]
      have : getBlk (X :: Y :: Z :: .cells (ins.map cellA) :: W :: C) 3 = some (ins.map cellA) := rfl
      rw [this, Option.bind_some, List.getElem?_map, hci]; rfl
    have ldo : ∀ X Y Z W C, aload false 1 (X :: Y :: Z :: W :: .cells (outs.map cellA) :: C) (.ptr 4 i) = some (cellA outs[i]) := fun X Y Z W C => by
      rw [aload_ptr]
      have : getBlk (X :: Y :: Z :: W :: .cells (outs.map cellA) :: C) 4 = some (outs.map cellA) := rfl
      rw [this, Option.bind_some, List.getElem?_map, hco]; rfl
    have hTh : TH ([.cells p.cells, .front 0 0, .front 0 0, .cells (ins.map cellA), .gone, FR i, FR i] : Heap) := by
      have e : ([.cells p.cells, .front 0 0, .front 0 0, .cells (ins.map cellA), .gone, FR i, FR i] : Heap) = [.cells p.cells, .front 0 0, .front 0 0, .cells (ins.map cellA), .gone] ++ ([FR i] ++ [FR i]) := rfl
      unfold TH; rw [e]
      exact KBn_app (KBn_cells HB_CBn (KBn_front (KBn_front (KBn_cells (cells_CBn _) (KBn_gone_iff.2 KBn_nil))))) (KBn_app FR_ok FR_ok)
    have g1 := c63 hTh (cellA_in ins[i]) (hsi _ (List.getElem_mem _))
    rw [hWi] at g1
    have hT2 : TH ([.cells p.cells, .front 0 0, .front 0 0, .cells (ins.map cellA), .cells (outs.map cellA), FR (i + 1), FR i, .front 1 1] : Heap) := by
      have e : ([.cells p.cells, .front 0 0, .front 0 0, .cells (ins.map cellA), .cells (outs.map cellA), FR (i + 1), FR i, .front 1 1] : Heap) = HB p (ins.map cellA) (outs.map cellA) ++ ([FR (i + 1)] ++ ([FR i] ++ [.front 1 1])) := rfl
      unfold TH; rw [e]
      exact KBn_app (HB_KBn (cells_CBn _) (cells_CBn _)) (KBn_app FR_ok (KBn_app FR_ok (KBn_front KBn_nil)))
    have g2 := c63 hT2 (cellA_in outs[i]) (hso _ (List.getElem_mem _))
    rw [hWo] at g2
    have w1 : IntKind.i64.wrap ((i : Int) + 1) = ((i + 1 : Nat) : Int) := by rw [wrap64 (by omega) (by omega), Int.natCast_add]; rfl
    have row : ∀ (z : List Int) (h : Heap), abuildSlice 1 1 [.slice [] .nil] [(0, .slice (ints z) .no)] h = some (.slice [[.slice (ints z) .no]] (.own h.length), h ++ [.front 1 1]) := fun z h => rfl
    have a1 := fun t => FR_app (h := [.cells p.cells, .front 0 0, .front 0 0, .cells (ins.map cellA), .gone]) (C := [FR i, .front 1 1]) (rows := rowsW ins i) (v := .slice (ints (zs (listS (Wk ins i)))) .no) (by_ := 24) (by omega) (by rw [rowsW_len]; omega) (t := t)
    have a2 := fun t => FR_app (h := [.cells p.cells, .front 0 0, .front 0 0, .cells (ins.map cellA), .cells (outs.map cellA), FR (i + 1)]) (C := [.front 1 1, .front 1 1]) (rows := rowsW outs i) (v := .slice (ints (zs (listS (Wk outs i)))) .no) (by_ := 24) (by omega) (by rw [rowsW_len]; omega) (t := t)
    have r1 : rowsW ins i ++ [[.slice (ints (zs (listS (Wk ins i)))) .no]] = rowsW ins (i + 1) := rowsW_succ.symm
    have r2 : rowsW outs i ++ [[.slice (ints (zs (listS (Wk outs i)))) .no]] = rowsW outs (i + 1) := rowsW_succ.symm
    simp only [rowsW_len, r1, r2, List.length_cons, List.length_nil, Nat.zero_add, Nat.reduceAdd, List.cons_append, List.nil_append] at a1 a2
    simp only [HB, List.cons_append, List.nil_append]
    generalize ((i + 1 : Nat) : Int) = i1 at *
    generalize rowsW ins (i + 1) = R1 at *
    generalize rowsW outs (i + 1) = R2 at *
    generalize rowsW ins i = R3 at *
    generalize rowsW outs i = R4 at *
    generalize zs (listS (Wk ins i)) = z1 at *
    generalize zs (listS (Wk outs i)) = z2 at *
    generalize cellA ins[i] = c1 at *
    generalize cellA outs[i] = c2 at *
    unfold m27_l4
    simp -implicitDefEqProofs [-aload_ptr, hil', ixi, ixo, ldi, ldo, g1, g2, row, a1, a2, w1, endR, htr, q1, q2, q3, q4, q5, q6]
end

open Classical in
/-- The temps that are wanted ahead of a block. -/
noncomputable def liveIn (p : IR) (k : Nat) : List Int := zs ((List.range p.temps.toNat).filter fun t => decide (Reach p.blocks (t : Int) k))
open Classical in
/-- Those that are wanted behind it. -/
noncomputable def liveOut (p : IR) (k : Nat) : List Int := zs ((List.range p.temps.toNat).filter fun t => decide (∃ b, p.blocks[k]? = some b ∧ Behind p.blocks (t : Int) b.term))
noncomputable def liveI (p : IR) : List (List Int) := if checkS p = 0 then (List.range p.blocks.length).map (liveIn p) else []
noncomputable def liveO (p : IR) : List (List Int) := if checkS p = 0 then (List.range p.blocks.length).map (liveOut p) else []
def listsA (l : List (List Int)) : AVal := .slice (l.map fun z => [.slice (ints z) .no]) .no

theorem listS_reach {ws : List Wd} {n : Nat} {P : Nat → Prop} [DecidablePred P] (h : ∀ t, wget ws t = true ↔ P t) (hn : ∀ t, P t → t < n) : listS ws = (List.range n).filter fun t => decide (P t) := by
  rw [listS_eq fun t ht => hn t ((h t).1 ht)]
  apply List.filter_congr
  intro t _
  cases hx : wget ws t
  · have : ¬ P t := fun hp => by rw [(h t).2 hp] at hx; cases hx
    simp [this]
  · simp [(h t).1 hx]

theorem c27 (p : IR) (h : Heap) : KK 27 [.agg p.cells] h = some (.ret (.tuple [listsA (liveI p), listsA (liveO p), .int .i64 (checkS p)]), h) := by
  classical
  refine callP_pure rfl rfl (evW_by (m27_eq _ _ _) ?_)
  have g30 := c30 p
  by_cases h0 : checkS p = 0
  · obtain ⟨hp, hl⟩ := opsOk_of h0
    obtain ⟨_, lp, _⟩ := checkS_zero h0
    have hM : ∀ ins, SI p ins → sizeS ins ≤ p.blocks.length * 1280000 := fun ins hI => by have := sizeS_le ins hI.sz; rwa [hI.len] at this
    obtain ⟨ins, outs, g1, g2, g3, g4⟩ := m27_loop3 hp hl _ hM _ (List.replicate p.blocks.length (false, [])) (List.replicate p.blocks.length (false, [])) true (Nat.lt_succ_self _) (SI.start hp hl) (by simp) (fun h => by cases h)
    have hso : ∀ c ∈ outs, (setC c).length ≤ 20000 := fun c hc => by
      obtain ⟨k, hk⟩ := List.getElem?_of_mem hc
      have hkl : k < p.blocks.length := by rw [← g3]; exact (List.getElem?_eq_some_iff.1 hk).1
      have := (g4 k _ (List.getElem?_eq_getElem hkl)).1
      rw [List.getD_eq_getElem?_getD, hk] at this
      simp at this
      rw [this]
      exact join_len 20000 _ [] (by simp) fun s hs' => by
        obtain ⟨j, _, rfl⟩ := List.mem_map.1 hs'
        exact Wk_sz g2.sz j.toNat
    have g5 := m27_loop4 hp g2.len g3 g2.sz hso p.blocks.length 0 (by omega)
    have e1 : rowsW ins p.blocks.length = (liveI p).map fun z => [.slice (ints z) .no] := by
      unfold rowsW liveI
      rw [if_pos h0, List.map_map]
      apply List.map_congr_left
      intro k hk
      simp only [Function.comp, slW, liveIn]
      rw [listS_reach (n := p.temps.toNat) (P := fun t : Nat => Reach p.blocks (t : Int) k) (fun t => SI.complete hp hl g2 g4 k t) (fun t ht => by have := (reach_range hp ht).2; omega)]
    have e2 : rowsW outs p.blocks.length = (liveO p).map fun z => [.slice (ints z) .no] := by
      unfold rowsW liveO
      rw [if_pos h0, List.map_map]
      apply List.map_congr_left
      intro k hk
      have hkl := List.mem_range.1 hk
      have hb : p.blocks[k]? = some p.blocks[k] := List.getElem?_eq_getElem hkl
      have hbm := List.getElem_mem hkl
      have hw : Wk outs k = outW ins p.blocks[k] := by unfold Wk; rw [(g4 k _ hb).1]; rfl
      simp only [Function.comp, slW, liveOut]
      rw [hw, listS_reach (n := p.temps.toNat) (P := fun t : Nat => ∃ b, p.blocks[k]? = some b ∧ Behind p.blocks (t : Int) b.term) (fun t => ?_) (fun t ht => ?_)]
      · rw [wget_out]
        constructor
        · rintro ⟨j, hj, ht⟩
          rw [hl _ hbm] at hj
          exact ⟨_, hb, j, hj, (SI.complete hp hl g2 g4 _ _).1 ht⟩
        · rintro ⟨b, hb', j, hj, hr⟩
          rw [hb] at hb'; cases hb'
          rw [← hl _ hbm] at hj
          exact ⟨j, hj, (SI.complete hp hl g2 g4 _ _).2 hr⟩
      · obtain ⟨b, _, j, _, hr⟩ := ht
        have := (reach_range hp hr).2; omega
    rw [e1, e2] at g5
    have e0 : ∀ l : List Cl, rowsW l 0 = [] := fun l => rfl
    have eF : FR 0 = .front 0 0 := rfl
    have er : (List.replicate p.blocks.length (false, [])).map cellA = List.replicate p.blocks.length (.slice [] .nil) := by rw [List.map_replicate]; rfl
    simp only [e0, eF, Int.cast_ofNat_Int] at g5
    rw [er] at g1
    have mk : ∀ (h : Heap), amakeSlice 1 24 [.slice [] .nil] (.int .i64 (p.blocks.length : Int)) h = some (.mslice h.length 0 p.blocks.length 1, h ++ [.cells (List.replicate p.blocks.length (.slice [] .nil))]) := fun h => by
      have hnb := hp.nb
      simp only [amakeSlice]
      rw [if_pos ⟨by omega, by simp; omega, by omega⟩]
      simp
    rw [h0] at g30 ⊢
    have st : ∀ (r1 r2 : List (List AVal)) (h : Heap), AVal.untok (AVal.san 0 h (.tuple [.slice r1 (.own 5), .slice r2 (.own 6), .int .i64 0])) = .tuple [.slice r1 .no, .slice r2 .no, .int .i64 0] := fun _ _ _ => rfl
    unfold listsA
    generalize (liveI p).map (fun z => [AVal.slice (ints z) .no]) = R1 at *
    generalize (liveO p).map (fun z => [AVal.slice (ints z) .no]) = R2 at *
    generalize ins.map cellA = ci at *
    generalize outs.map cellA = co at *
    simp only [lvS, HB, T1, T2, List.cons_append, List.nil_append, IR.cells] at g1 g5 g30 ⊢
    generalize List.replicate p.blocks.length (AVal.slice [] .nil) = c0 at *
    simp -implicitDefEqProofs [m27, g30, mk, g1, g5, finR, st]
  · have e1 : liveI p = [] := if_neg h0
    have e2 : liveO p = [] := if_neg h0
    rw [e1, e2]
    generalize checkS p = e at *
    have st : ∀ (h : Heap), AVal.untok (AVal.san 0 h (.tuple [.slice [] (.own 3), .slice [] (.own 4), .int .i64 e])) = .tuple [.slice [] .no, .slice [] .no, .int .i64 e] := fun _ => rfl
    simp only [IR.cells] at g30 ⊢
    simp -implicitDefEqProofs [m27, g30, h0, finR, st, listsA]
end Go.Proofs.YtkeoalhglkfbkaaDoor
