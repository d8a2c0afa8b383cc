/-
  The texts IX.K8, IX.K9, IX.K10, IX.K11, IX.R1, IX.R2, IX.R3, IX.S1, IX.S2, IX.S3, IX.S4, IX.S5, IX.L44, IX.M8, IX.M9, IX.M10, IX.F43, one behind another. No conditions.
-/
import Derived.Test.YtkeoalhglkfbkaaDoorIx1
import Derived.KernelRfl
import Derived.Test.YtkeoalhglkfbkaaDoorIxu1
import Derived.Test.YtkeoalhglkfbkaaDoorIxa1
set_option linter.unusedVariables false
set_option linter.unusedSimpArgs false
set_option linter.unusedSectionVars false
set_option linter.all false

namespace Go.Proofs.YtkeoalhglkfbkaaDoor
open Go Hk Go.Proofs.Wd
def EI (l : List Op) (ws : List Wd) : List Wd := l.foldr vL ws
def Xc (b : lX) (ws : List Wd) : List Wd := EI b.ops (sM b.term ws)
structure wK (p : IR) : Prop where
 use : ∀ b ∈ p.blocks, ∀ o ∈ b.ops, ∀ t ∈ mW o, 0 ≤ t ∧ t < p.temps
 dst : ∀ b ∈ p.blocks, ∀ o ∈ b.ops, o.dst ≤ 2000000
 made : ∀ b ∈ p.blocks, ∀ o ∈ b.ops, (mM o.kind).dst = true → 0 ≤ o.dst ∧ o.dst < p.temps
 term : ∀ b ∈ p.blocks, b.term.kind = 2 → 0 ≤ b.term.a ∧ b.term.a < p.temps
 lead : ∀ b ∈ p.blocks, ∀ j ∈ pT b.term, 0 ≤ j ∧ j.toNat < p.blocks.length
 temps : p.temps ≤ 1048576
 nb : p.blocks.length ≤ 1048576
 len : ∀ b ∈ p.blocks, b.ops.length ≤ 1048576
theorem Ce (t : Term) : (pT t).length ≤ 10 := by
 unfold pT
 split
 ·exact Nat.le_trans (List.length_filter_le _ _) (by simp)
 ·split
  ·exact Nat.le_trans (List.length_filter_le _ _) (by simp)
  ·simp
section
variable {p : IR} (hp : wK p)
include hp
theorem OY {A B : List lW} (hB : KB A B) (hm : 5 ≤ HN A B) {bb : Bool} {k : Int} {b : lX} (hb : b ∈ p.blocks) : ∀ (c : Nat) (ws : List Wd), c ≤ b.ops.length →
  mJ (I9 KK (HN A B)) ([.ptr 0 0, T1, T2, .int .i64 0, .mslice 3 0 p.blocks.length 1, .mslice 4 0 p.blocks.length 1, .bool bb, .int .i64 k, VS A.length ws, .slice (b.ops.map Op.cells) .no, .int .i64 ((c : Int) - 1)], OQ A (XS ws) B) =
   some (.exit 6, [.ptr 0 0, T1, T2, .int .i64 0, .mslice 3 0 p.blocks.length 1, .mslice 4 0 p.blocks.length 1, .bool bb, .int .i64 k, VS A.length (EI (b.ops.take c) ws), .slice (b.ops.map Op.cells) .no, .int .i64 (-1)], OQ A (XS (EI (b.ops.take c) ws)) B) := by
 have q0 := fun h => sP (m := HN A B) (h := h) hm
 have q1 := fun h => Wi (m := HN A B) (h := h) hm
 have q2 := fun h => Wj (m := HN A B) (h := h) hm
 have q3 := fun h => sMI (m := HN A B) (h := h) (n := p.blocks.length) hm
 have q4 := fun h => sMO (m := HN A B) (h := h) (n := p.blocks.length) hm
 intro c
 induction c with
 | zero =>
  intro ws _
  have htr := pN (X := XS ws) (A := A) (B := B) hB wL
  have hsn := fun h => uM (ws := ws) (m := HN A B) (h := h) sI
  refine oJ ?_
  simp only [List.take_zero, EI, List.foldr_nil]
  unfold I9
  simp -implicitDefEqProofs [lC, htr, hsn, q0, q1, q2, q3, q4]
 | succ c ih =>
  intro ws hc
  have hcl : c < b.ops.length := by omega
  have hx : b.ops[c]? = some b.ops[c] := List.getElem?_eq_getElem hcl
  have ho := List.getElem_mem hcl
  have e : EI (b.ops.take (c + 1)) ws = EI (b.ops.take c) (vL b.ops[c] ws) := by
   unfold EI
   rw [List.take_succ_eq_append_getElem hcl, List.foldr_append]; rfl
  have hlen := hp.len b hb
  have g61 := c61 hB (o := b.ops[c]) (fun t ht => by have := hp.use b hb _ ho t ht; have := hp.temps; omega) (hp.dst b hb _ ho) ws
  have htr := sS (X := XS (vL b.ops[c] ws)) (A := A) (B := B) (C := IJ b.ops[c]) hB wL
  have hsn := fun h => uM (ws := vL b.ops[c] ws) (m := HN A B) (h := h) sI
  rw [e, ← ih _ (by omega)]
  generalize b.ops[c] = o at *
  have w0 : ((c + 1 : Nat) : Int) - 1 = (c : Int) := by omega
  have w1 : IntKind.i64.wrap ((c : Int) - 1) = (c : Int) - 1 := by rw [wrap64] <;> omega
  rw [w0]
  refine qT ?_
  have ix : (kY 6 (.slice (b.ops.map Op.cells) .no) (.int .i64 (c : Int))).bind (fun t => kV true 6 (OQ A (XS ws) B) t) = some (.agg o.cells) := by
   rw [lF, hx]; simp [Op.cells]
  obtain ⟨q, hq, hq2⟩ := Option.bind_eq_some_iff.1 ix
  generalize vL o ws = w' at *
  generalize kR.agg o.cells = oc at *
  generalize IJ o = og at *
  generalize VS A.length ws = V0 at *
  generalize OQ A (XS ws) B = H0 at *
  unfold I9
  simp -implicitDefEqProofs [hq, hq2, g61, w1, lC, htr, hsn, q0, q1, q2, q3, q4]
def Aq (ins : List Cl) (b : lX) : List Wd := sX ((pT b.term).map fun j => qV (ins.getD j.toNat (false, [])))
def wB (ins : List Cl) (b : lX) : List Wd := Xc b (sX [Aq ins b])
omit hp in
theorem UW {α : Type} {l : List α} {i : Nat} (hi : i < l.length) (x : α) : (l.set i x)[i]? = some x := by simp [hi]
omit hp in
theorem EZ {m id : Nat} {h : kT} {ws : List Wd} (hm : m ≤ id) : ∀ (l : List Cl) (k : Nat), k < l.length → mP m h ((l.map lT).set k (FZ id ws)) = some ((l.set k (true, ws)).map lT)
 | [], k, hk => by simp at hk
 | c :: r, 0, _ => by
  have e := o8 (n := m) r m h (Nat.le_refl _)
  simp only [List.map_cons, List.set_cons_zero, pB, P4 hm, e, Option.map_some]
  rfl
 | c :: r, k + 1, hk => by
  have ih := EZ (h := h) (ws := ws) hm r k (by simpa using hk)
  simp only [List.map_cons, List.set_cons_succ, pB, (yL c).1 m h, (yL c).2, cond_true, ih, Option.map_some]
set_option maxHeartbeats 4000000 in
theorem O2 {ins outs : List Cl} (hn : ins.length = p.blocks.length) (hno : outs.length = p.blocks.length) (hs : ∀ c ∈ ins, (qV c).length ≤ 20000) {bb : Bool} {k : Nat} {b : lX} (hb : p.blocks[k]? = some b)
  (hw : (wB ins b).length ≤ 20000) :
  DG KK 5 ([.ptr 0 0, T1, T2, .int .i64 0, .mslice 3 0 p.blocks.length 1, .mslice 4 0 p.blocks.length 1, .bool bb, .int .i64 (k : Int)], HB p (ins.map lT) (outs.map lT)) =
   some (.normal, [.ptr 0 0, T1, T2, .int .i64 0, .mslice 3 0 p.blocks.length 1, .mslice 4 0 p.blocks.length 1, .bool (if nN (wB ins b) = nN (qV (ins.getD k (false, []))) then bb else true), .int .i64 ((k : Int) - 1)],
    HB p ((if nN (wB ins b) = nN (qV (ins.getD k (false, []))) then ins else ins.set k (true, wB ins b)).map lT) ((outs.set k (true, Aq ins b)).map lT)) := by
 have hbm : b ∈ p.blocks := List.mem_of_getElem? hb
 have hkl : k < p.blocks.length := (List.getElem?_eq_some_iff.1 hb).1
 have hki : k < ins.length := by omega
 have hko : k < outs.length := by omega
 have hld := hp.lead b hbm
 have hnb := hp.nb
 have gl := OX hn (o8 outs) (bb := bb) (k := (k : Int)) (pT b.term) (fun j hj => by rw [hn]; exact hld j hj) (Ce _) (pT b.term).length 0 [] (by simp) rfl
 simp only [List.nil_append, List.drop_zero, Int.cast_ofNat_Int] at gl
 have g58 := c58 b.term
 have hLl : ∀ s ∈ (pT b.term).map (fun j => qV (ins.getD j.toNat (false, []))), s.length ≤ 20000 := fun s hs' => by
  obtain ⟨j, _, rfl⟩ := List.mem_map.1 hs'
  rw [List.getD_eq_getElem?_getD]
  cases hq : ins[j.toNat]? with
  | none => simp [qV]
  | some c => exact hs c (List.mem_of_getElem? hq)
 have hJl : (Aq ins b).length ≤ 20000 := yQ 20000 _ [] (by simp) hLl
 have hTF : ∀ n, TH (HB p (ins.map lT) (outs.map lT) ++ [FR n]) := fun n => oT (B3 (o8 ins) (o8 outs)) uD
 have g59 := c59 (hTF ((pT b.term).map (fun j => qV (ins.getD j.toNat (false, [])))).length) (L := (pT b.term).map fun j => qV (ins.getD j.toNat (false, []))) (by have := Ce b.term; simp; omega) hLl
 have hout : sX ((pT b.term).map fun j => qV (ins.getD j.toNat (false, []))) = Aq ins b := rfl
 rw [hout] at g59
 generalize ((pT b.term).map (fun j => qV (ins.getD j.toNat (false, [])))) = L at *
 generalize hJ : Aq ins b = J at *
 have gf := Ft (A := HB p (ins.map lT) (outs.map lT) ++ [FR L.length] ++ [.front 0 0]) (B := []) (ws := J)
 have l7 : (HB p (ins.map lT) (outs.map lT) ++ [FR L.length] ++ [lW.front 0 0]).length = 7 := rfl
 have l6 : (HB p (ins.map lT) (outs.map lT) ++ [FR L.length]).length = 6 := rfl
 rw [l7] at gf
 rw [l6] at g59
 have hoc : xD 9 ((outs.map lT).set k (FZ 7 J)) := Dn fun c hc => by
  rcases List.mem_or_eq_of_mem_set hc with h1 | h1
  ·obtain ⟨x, _, rfl⟩ := List.mem_map.1 h1
   exact ⟨fun m h _ => (yL x).1 m h, (yL x).2⟩
  ·subst h1; exact ⟨fun m h hm => Th (by omega), P3⟩
 have zx : ∀ n, Aw n [ZX J] := fun n => by cases J <;> simp [ZX]
 have hT2 : TH ([.gone, .front 0 0, .front 0 0, .cells (ins.map lT), .cells ((outs.map lT).set k (FZ 7 J)), FR L.length, .front 0 0, ZX J, .front 1 1] : kT) := by
  have e : ([.gone, .front 0 0, .front 0 0, .cells (ins.map lT), .cells ((outs.map lT).set k (FZ 7 J)), FR L.length, .front 0 0, ZX J, .front 1 1] : kT) =
    [.gone, .front 0 0, .front 0 0, .cells (ins.map lT), .cells ((outs.map lT).set k (FZ 7 J))] ++ ([FR L.length] ++ ([.front 0 0] ++ ([ZX J] ++ [.front 1 1]))) := rfl
  unfold TH
  rw [e]
  exact oT (by simp only [zF, BP, BO]; exact ⟨o8 _, hoc, oW⟩) (oT uD (oT (nW oW) (oT (zx _) (nW oW))))
 have g592 := c59 hT2 (L := [J]) (by simp) (fun s hs => by simp at hs; subst hs; exact hJl)
 have hJ2 : (sX [J]).length ≤ 20000 := yQ 20000 _ [] (by simp) (fun s hs => by simp at hs; subst hs; exact hJl)
 have hB0 : KB ([.cells p.cells, .front 0 0, .front 0 0, .cells (ins.map lT), .cells ((outs.map lT).set k (FZ 7 J)), FR L.length, .front 0 0, ZX J, .front 1 1, .front 0 0] : kT) [] := by
  refine ⟨fun n hn' => ?_, fun n _ => oW⟩
  have h9 : 9 ≤ n := by simp [HN] at hn'; omega
  have e : ([.cells p.cells, .front 0 0, .front 0 0, .cells (ins.map lT), .cells ((outs.map lT).set k (FZ 7 J)), FR L.length, .front 0 0, ZX J, .front 1 1, .front 0 0] : kT) =
    HB p (ins.map lT) ((outs.map lT).set k (FZ 7 J)) ++ ([FR L.length] ++ ([.front 0 0] ++ ([ZX J] ++ [.front 1 1, .front 0 0]))) := rfl
  rw [e]
  exact oT (B3 (o8 _) (fun m h hm => hoc m h (by omega))) (oT uD (oT (nW oW) (oT (zx _) (nW (nW oW)))))
 have g60 := c60 hB0 (t := b.term) (fun h => by have := hp.term b hbm h; have := hp.temps; omega) (sX [J])
 have hBG : KB ([.cells p.cells, .front 0 0, .front 0 0, .cells (ins.map lT), .cells ((outs.map lT).set k (FZ 7 J)), FR L.length, .front 0 0, ZX J, .front 1 1, .front 0 0] : kT) ([] ++ t_ b.term) :=
  hB0.app (by unfold t_; split <;> simp [Term.cells])
 have gl1 := OY hp hBG (by simp [HN]; omega) (bb := bb) (k := (k : Int)) hbm b.ops.length (sM b.term (sX [J])) (Nat.le_refl _)
 rw [List.take_length] at gl1
 have hnew : EI b.ops (sM b.term (sX [J])) = wB ins b := by unfold wB Xc; rw [hJ]
 rw [hnew] at gl1
 generalize wB ins b = N at *
 generalize hA : ([.cells p.cells, .front 0 0, .front 0 0, .cells (ins.map lT), .cells ((outs.map lT).set k (FZ 7 J)), FR L.length, .front 0 0, ZX J, .front 1 1, .front 0 0] : kT) = A at *
 have hAl : A.length = 10 := by rw [← hA]; rfl
 rw [hAl] at g60 gl1
 have hTN : TH (OQ A (XS N) ([] ++ t_ b.term)) := abN hBG wL
 have hc : ins[k]? = some ins[k] := List.getElem?_eq_getElem hki
 have hgd : ins.getD k (false, []) = ins[k] := by simp [List.getD_eq_getElem?_getD, hc]
 have hck := hs ins[k] (List.getElem_mem hki)
 have g62 := c62 hTN (S := (VS A.length N).k8) (T := (lT ins[k]).k8) (by
  have := BQ.k8 (A := A) (B := [] ++ t_ b.term) (ws := N) rfl
  rwa [show (VS A.length N).k8.k8 = (VS A.length N).k8 from by cases N <;> rfl]) (by
  have := FE (h := OQ A (XS N) ([] ++ t_ b.term)) ins[k]
  rwa [show (lT ins[k]).k8.k8 = (lT ins[k]).k8 from by rcases ins[k] with ⟨b, w⟩; cases b <;> rfl]) hw hck
 rw [hAl] at g62
 have gf2 := Ft (A := A) (B := [] ++ t_ b.term) (ws := N)
 rw [hAl] at gf2
 have hlen3 : (OQ A (XS (sM b.term (sX [J]))) ([] ++ t_ b.term)).length = HN A ([] ++ t_ b.term) := vK
 have hb3 : ∀ X B, nJ (OQ A X B) 0 = some p.cells := fun X B => by rw [← hA]; rfl
 have hi4 : ∀ X B, nJ (OQ A X B) 3 = some (ins.map lT) := fun X B => by rw [← hA]; rfl
 have hcell : (ins.map lT)[k]? = some (lT ins[k]) := by rw [List.getElem?_map, hc]; rfl
 rw [hgd]
 generalize hcA : lT ins[k] = ca at *
 have hput : ∀ (l : List kR) (v : kR), k < l.length → putCells l k [v] = l.set k v := fun l v hl => by
  unfold putCells
  rw [List.set_eq_take_append_cons_drop, if_pos hl]; simp
 have tS : mL 5 (OQ A (XS N) (t_ b.term)) = some (HB p (ins.map lT) ((outs.set k (true, J)).map lT)) := by
  have e1 := fun h => EZ (m := 5) (h := h) (id := 7) (ws := J) (by omega) outs k hko
  have e2 : ∀ h, mP 5 h (ins.map lT) = some (ins.map lT) := fun h => o8 (n := 5) ins 5 h (Nat.le_refl _)
  have e3 : ∀ h, mP 5 h p.cells = some p.cells := fun h => B2 (n := 5) 5 h (Nat.le_refl _)
  rw [← hA]
  simp [OQ, mL, e1, e2, e3, HB]
 have tD : mL 5 (List.set (OQ A (ZX N) (t_ b.term)) 3 (.cells ((ins.map lT).set k (FZ 10 N)))) = some (HB p ((ins.set k (true, N)).map lT) ((outs.set k (true, J)).map lT)) := by
  have e1 := fun h => EZ (m := 5) (h := h) (id := 7) (ws := J) (by omega) outs k hko
  have e2 := fun h => EZ (m := 5) (h := h) (id := 10) (ws := N) (by omega) ins k hki
  have e3 : ∀ h, mP 5 h p.cells = some p.cells := fun h => B2 (n := 5) 5 h (Nat.le_refl _)
  rw [← hA]
  simp [OQ, mL, e1, e2, e3, HB]
 have stD : lU 1 (OQ A (ZX N) (t_ b.term)) (.ptr 3 k) (FZ 10 N) = some (List.set (OQ A (ZX N) (t_ b.term)) 3 (.cells ((ins.map lT).set k (FZ 10 N)))) := by
  rw [oQ, hi4, Option.bind_some, Ka, if_pos ⟨rfl, by simp; omega, by simp [P3]⟩]
  have : (ins.map lT).drop k = ca :: (ins.map lT).drop (k + 1) := by
   have hk' : k < (ins.map lT).length := by simpa using hki
   rw [List.drop_eq_getElem_cons hk']
   have := List.getElem?_eq_getElem hk'
   rw [hcell] at this; cases this; rfl
  rw [this, v8, zO, NF, hput _ _ (by simpa using hki)]
 have ldA : ∀ X B, kV false 1 (OQ A X B) (.ptr 0 2) = some (.slice (p.blocks.map lX.cells) .no) := fun X B => by rw [mD, hb3]; rfl
 have ldI : ∀ X B, kV false 1 (OQ A X B) (.ptr 3 k) = some ca := fun X B => by rw [mD, hi4]; exact hcell
 have ixo : kY 1 (.mslice 4 0 p.blocks.length 1) (.int .i64 (k : Int)) = some (.ptr 4 k) := by rw [qJ, if_pos ⟨hkl, rfl⟩]; simp
 have ixi : kY 1 (.mslice 3 0 p.blocks.length 1) (.int .i64 (k : Int)) = some (.ptr 3 k) := by rw [qJ, if_pos ⟨hkl, rfl⟩]; simp
 have bx : kY 5 (.slice (p.blocks.map lX.cells) .no) (.int .i64 (k : Int)) = some (.pptr [.slice (b.ops.map Op.cells) .no, .int .i64 b.term.kind, .int .i64 b.term.a, .int .i64 b.term.yes, .int .i64 b.term.no]) := by rw [lF, hb]; rfl
 have ld0 : ∀ X, kV false 1 (.cells p.cells :: X) (.ptr 0 2) = some (.slice (p.blocks.map lX.cells) .no) := fun X => rfl
 have hob := hp.len b hbm
 have w1 : IntKind.i64.wrap ((b.ops.length : Int) - 1) = (b.ops.length : Int) - 1 := by rw [wrap64] <;> omega
 have w2 : IntKind.i64.wrap ((k : Int) - 1) = (k : Int) - 1 := by rw [wrap64] <;> omega
 have q0 := fun h => sP (m := 5) (h := h) (by omega)
 have q1 := fun h => Wi (m := 5) (h := h) (by omega)
 have q2 := fun h => Wj (m := 5) (h := h) (by omega)
 have q3 := fun h => sMI (m := 5) (h := h) (n := p.blocks.length) (by omega)
 have q4 := fun h => sMO (m := 5) (h := h) (n := p.blocks.length) (by omega)
 have eA : ([.cells p.cells, .front 0 0, .front 0 0, .cells (ins.map lT), .cells ((outs.map lT).set k (FZ 7 J)), FR L.length, .front 0 0, ZX J, .front 1 1, .front 0 0, XS (sX [J])] : kT) = OQ A (XS (sX [J])) [] := by rw [← hA]; rfl
 rw [← eA] at g60
 simp only [List.nil_append] at g60 gl1 g62 gf2
 have eF : FR ([] : List (List Wd)).length = .front 0 0 := rfl
 simp only [eF, List.map_nil, HB, OQ, List.cons_append, List.nil_append] at gl
 rw [show OQ (HB p (ins.map lT) (outs.map lT) ++ [FR L.length] ++ [.front 0 0]) (ZX J) [] = [.cells p.cells, .front 0 0, .front 0 0, .cells (ins.map lT), .cells (outs.map lT), FR L.length, .front 0 0, ZX J] from rfl,
  show OQ (HB p (ins.map lT) (outs.map lT) ++ [FR L.length] ++ [.front 0 0]) (XS J) [] = [.cells p.cells, .front 0 0, .front 0 0, .cells (ins.map lT), .cells (outs.map lT), FR L.length, .front 0 0, XS J] from rfl] at gf
 rw [show OQ (HB p (ins.map lT) (outs.map lT) ++ [FR L.length] ++ [.front 0 0]) (XS J) [] = [.cells p.cells, .front 0 0, .front 0 0, .cells (ins.map lT), .cells (outs.map lT), FR L.length, .front 0 0, XS J] from rfl,
  show HB p (ins.map lT) (outs.map lT) ++ [FR L.length] = [.cells p.cells, .front 0 0, .front 0 0, .cells (ins.map lT), .cells (outs.map lT), FR L.length] from rfl] at g59
 have stO : lU 1 ([.cells p.cells, .front 0 0, .front 0 0, .cells (ins.map lT), .cells (outs.map lT), FR L.length, .front 0 0, ZX J] : kT) (.ptr 4 k) (FZ 7 J) = some [.cells p.cells, .front 0 0, .front 0 0, .cells (ins.map lT), .cells ((outs.map lT).set k (FZ 7 J)), FR L.length, .front 0 0, ZX J] := by
  rw [oQ]
  have hk' : k < (outs.map lT).length := by simpa using hko
  have hg4 : nJ ([.cells p.cells, .front 0 0, .front 0 0, .cells (ins.map lT), .cells (outs.map lT), FR L.length, .front 0 0, ZX J] : kT) 4 = some (outs.map lT) := rfl
  rw [hg4, Option.bind_some, Ka, if_pos ⟨rfl, by simp; omega, by simp [P3]⟩, List.drop_eq_getElem_cons hk', v8, zO, NF, hput _ _ hk']
  rfl
 have ldO : kV false 1 ([.cells p.cells, .front 0 0, .front 0 0, .cells (ins.map lT), .cells ((outs.map lT).set k (FZ 7 J)), FR L.length, .front 0 0, ZX J] : kT) (.ptr 4 k) = some (FZ 7 J) := by
  rw [mD]
  have hg4 : nJ ([.cells p.cells, .front 0 0, .front 0 0, .cells (ins.map lT), .cells ((outs.map lT).set k (FZ 7 J)), FR L.length, .front 0 0, ZX J] : kT) 4 = some ((outs.map lT).set k (FZ 7 J)) := rfl
  rw [hg4, Option.bind_some]
  exact UW (by simpa using hko) _
 rw [show OQ ([.gone, .front 0 0, .front 0 0, .cells (ins.map lT), .cells ((outs.map lT).set k (FZ 7 J)), FR L.length, .front 0 0, ZX J, .front 1 1] ++ [.front 0 0]) (XS (sX [J])) [] =
   [.gone, .front 0 0, .front 0 0, .cells (ins.map lT), .cells ((outs.map lT).set k (FZ 7 J)), FR L.length, .front 0 0, ZX J, .front 1 1, .front 0 0, XS (sX [J])] from rfl] at g592
 simp only [List.map_cons, List.map_nil, List.length_cons, List.length_nil, Nat.zero_add, Nat.reduceAdd] at g592
 have row := fun h => WA 7 J h
 have hil : ∀ l : List Int, (ints l).length = l.length := fun l => by simp [ints]
 simp only [Nat.reduceAdd] at g59
 simp only [Term.cells] at g58 g60
 clear hb3 hi4 hput hlen3 hTN hBG hB0 hT2 zx hoc hTF hcell hgd hck hc hJl hJ2 hLl hA eA hld hnew hJ hout hs
 rw [show HB p (ins.map lT) (outs.map lT) = [.cells p.cells, .front 0 0, .front 0 0, .cells (ins.map lT), .cells (outs.map lT)] from rfl]
 by_cases hsame : nN N = nN (qV ins[k])
 ·rw [if_pos hsame, if_pos hsame]
  rw [decide_eq_true hsame] at g62
  generalize HB p (ins.map lT) ((outs.set k (true, J)).map lT) = Hend at *
  unfold DG
  simp -implicitDefEqProofs [-oQ, -mD, hil, ld0, bx, g58, gl, g59, gf, ixo, stO, ldO, row, g592, g60, ldA, w1, gl1, ixi, ldI, g62, lC, tS, q0, q1, q2, q3, q4, w2]
 ·rw [if_neg hsame, if_neg hsame]
  rw [decide_eq_false hsame] at g62
  generalize HB p ((ins.set k (true, N)).map lT) ((outs.set k (true, J)).map lT) = Hend at *
  unfold DG
  simp -implicitDefEqProofs [-oQ, -mD, hil, ld0, bx, g58, gl, g59, gf, ixo, stO, ldO, row, g592, g60, ldA, w1, gl1, ixi, ldI, g62, gf2, stD, lC, tD, q0, q1, q2, q3, q4, w2]
end
end Go.Proofs.YtkeoalhglkfbkaaDoor


namespace Go.Proofs.YtkeoalhglkfbkaaDoor
open Go Hk Go.Proofs.Wd
def Wk (ins : List Cl) (k : Nat) : List Wd := qV (ins.getD k (false, []))
theorem WK {ins : List Cl} {k j : Nat} {w : List Wd} (hk : k < ins.length) : Wk (ins.set k (true, w)) j = if k = j then w else Wk ins j := by
 unfold Wk
 rw [List.getD_eq_getElem?_getD, List.getD_eq_getElem?_getD, List.getElem?_set]
 split
 ·rename_i h; subst h; simp [hk, qV]
 ·rfl
theorem SL (l : List Op) (x : Term) (ws : List Wd) (u : Nat) : oV (EI l (sM x ws)) u = true ↔ zC l x (fun t => 0 ≤ t ∧ oV ws t.toNat = true) (u : Int) := by
 induction l with
 | nil => exact Ny x ws u
 | cons o r ih =>
  have e : EI (o :: r) (sM x ws) = vL o (EI r (sM x ws)) := rfl
  rw [e, Nx]
  show _ ↔ Sy o (zC r x _) (u : Int)
  unfold Sy
  refine or_congr Iff.rfl (and_congr ?_ Iff.rfl)
  rw [← ih]
  simp only [Int.toNat_natCast]
  exact ⟨fun h => h.2, fun h => ⟨by omega, h⟩⟩
theorem SK (J : List Wd) (t : Nat) : oV (sX [J]) t = oV J t := by
 unfold sX; rw [D3]; simp [oV]
theorem LC (ins : List Cl) (b : lX) (t : Nat) : oV (Aq ins b) t = true ↔ ∃ j ∈ pT b.term, oV (Wk ins j.toNat) t = true := by
 unfold Aq sX
 rw [D3]
 have : oV [] t = false := by simp [oV]
 rw [this, Bool.false_or, List.any_eq_true]
 constructor
 ·rintro ⟨s, hs, ht⟩
  obtain ⟨j, hj, rfl⟩ := List.mem_map.1 hs
  exact ⟨j, hj, ht⟩
 ·rintro ⟨j, hj, ht⟩
  exact ⟨_, List.mem_map.2 ⟨j, hj, rfl⟩, ht⟩
def SB (ins : List Cl) (x : Term) : Int → Prop := fun t => ∃ j ∈ pT x, 0 ≤ t ∧ oV (Wk ins j.toNat) t.toNat = true
theorem Ly {l : List Op} {x : Term} {S T : Int → Prop} {t : Int} (h : S t ↔ T t) : zC l x S t ↔ zC l x T t := by
 rw [rG, rG, h]
theorem Bb (ins : List Cl) (b : lX) (u : Nat) : oV (wB ins b) u = true ↔ A9 b (SB ins b.term) (u : Int) := by
 unfold wB Xc A9
 rw [SL]
 refine Ly ?_
 simp only [Int.toNat_natCast, SK, LC, SB]
 constructor
 ·rintro ⟨h0, j, hj, ht⟩; exact ⟨j, hj, h0, ht⟩
 ·rintro ⟨j, hj, h0, ht⟩; exact ⟨h0, j, hj, ht⟩
theorem QW {l : List Op} {x : Term} {t : Int} (h : qZ l x t = 1) : (∃ o ∈ l, t ∈ mW o) ∨ (x.kind = 2 ∧ x.a = t) := by
 induction l with
 | nil =>
  simp only [qZ] at h
  split at h
  ·rename_i h1; exact .inr h1
  ·cases h
 | cons o r ih =>
  simp only [qZ] at h
  split at h
  ·rename_i h1; exact .inl ⟨o, by simp, h1⟩
  ·split at h
   ·cases h
   ·rcases ih h with ⟨o', h1, h2⟩ | h1
    ·exact .inl ⟨o', by simp [h1], h2⟩
    ·exact .inr h1
section
variable {p : IR} (hp : wK p)
include hp
theorem FO {b : lX} (hb : b ∈ p.blocks) {t : Int} (h : qZ b.ops b.term t = 1) : 0 ≤ t ∧ t < p.temps := by
 rcases QW h with ⟨o, ho, ht⟩ | ⟨h1, h2⟩
 ·exact hp.use b hb o ho t ht
 ·have := hp.term b hb h1; omega
theorem Es {t : Int} {k : Nat} (h : Reach p.blocks t k) : 0 ≤ t ∧ t < p.temps := by
 induction h with
 | here hb hf => exact FO hp (List.mem_of_getElem? hb) hf
 | step hb hf hj hr ih => exact ih
structure SI (p : IR) (ins : List Cl) : Prop where
 len : ins.length = p.blocks.length
 sz : ∀ c ∈ ins, (qV c).length ≤ 20000
 sound : ∀ (k t : Nat), oV (Wk ins k) t = true → Reach p.blocks (t : Int) k
 pre : ∀ (k : Nat) (b : lX), p.blocks[k]? = some b → ∀ t : Nat, oV (Wk ins k) t = true → A9 b (SB ins b.term) (t : Int)
omit hp in
theorem U_ {ins : List Cl} (hs : ∀ c ∈ ins, (qV c).length ≤ 20000) (k : Nat) : (Wk ins k).length ≤ 20000 := by
 unfold Wk
 rw [List.getD_eq_getElem?_getD]
 cases hq : ins[k]? with
 | none => simp [qV]
 | some c => exact hs c (List.mem_of_getElem? hq)
theorem RJ {ins : List Cl} (hs : ∀ c ∈ ins, (qV c).length ≤ 20000) {b : lX} (hb : b ∈ p.blocks) : (wB ins b).length ≤ 20000 := by
 have hJ : (Aq ins b).length ≤ 20000 := yQ 20000 _ [] (by simp) fun s hs' => by
  obtain ⟨j, _, rfl⟩ := List.mem_map.1 hs'
  exact U_ hs j.toNat
 have hJ2 : (sX [Aq ins b]).length ≤ 20000 := yQ 20000 _ [] (by simp) fun s hs' => by simp at hs'; subst hs'; exact hJ
 have hR : (sM b.term (sX [Aq ins b])).length ≤ 20000 := Py (fun h => by have := hp.term b hb h; have := hp.temps; omega) hJ2
 have key : ∀ (l : List Op), (∀ o ∈ l, o ∈ b.ops) → (EI l (sM b.term (sX [Aq ins b]))).length ≤ 20000 := by
  intro l
  induction l with
  | nil => exact fun _ => hR
  | cons o r ih =>
   intro hl
   exact On (fun t ht => by have := hp.use b hb o (hl o (by simp)) t ht; have := hp.temps; omega) (ih fun x hx => hl x (by simp [hx]))
 exact key b.ops fun o h => h
end
def vU (ins : List Cl) : Nat := (ins.map fun c => (nN (qV c)).length).sum
theorem Ii : ∀ (ins : List Cl) (k : Nat) (c : Cl), k < ins.length → vU (ins.set k c) + (nN (Wk ins k)).length = vU ins + (nN (qV c)).length
 | [], k, c, h => by simp at h
 | x :: r, 0, c, _ => by
  simp only [vU, List.set_cons_zero, List.map_cons, List.sum_cons]
  have : Wk (x :: r) 0 = qV x := rfl
  rw [this]; omega
 | x :: r, k + 1, c, h => by
  have ih := Ii r k c (by simpa using h)
  simp only [vU, List.set_cons_succ, List.map_cons, List.sum_cons] at ih ⊢
  have : Wk (x :: r) (k + 1) = Wk r k := rfl
  rw [this]; omega
theorem OL {ws : List Wd} (h : ws.length ≤ 20000) : (nN ws).length ≤ 1280000 := by
 unfold nN
 exact Nat.le_trans (List.length_filter_le _ _) (by simp; omega)
theorem Lm : ∀ (ins : List Cl), (∀ c ∈ ins, (qV c).length ≤ 20000) → vU ins ≤ ins.length * 1280000
 | [], _ => by simp [vU]
 | x :: r, h => by
  have ih := Lm r fun c hc => h c (by simp [hc])
  have := OL (h x (by simp))
  simp only [vU, List.map_cons, List.sum_cons, List.length_cons] at ih ⊢
  omega
theorem Mp {a b : List Wd} (h : ∀ t, oV a t = true → oV b t = true) (hne : nN a ≠ nN b) : (nN a).length < (nN b).length := by
 have ha : nN a = (List.range (64 * max a.length b.length)).filter (oV a) := AK fun t ht => by have := BI ht; omega
 have hb : nN b = (List.range (64 * max a.length b.length)).filter (oV b) := AK fun t ht => by have := BI ht; omega
 have hsub : (nN a).Sublist (nN b) := by
  have e : nN a = (nN b).filter (oV a) := by
   rw [ha, hb, List.filter_filter]
   apply List.filter_congr
   intro t _
   cases hx : oV a t
   ·simp
   ·simp [h t hx]
  rw [e]; exact List.filter_sublist
 rcases Nat.lt_or_ge (nN a).length (nN b).length with h1 | h1
 ·exact h1
 ·exact absurd (hsub.eq_of_length (Nat.le_antisymm hsub.length_le h1)) hne
section
variable {p : IR} (hp : wK p) (hl : ∀ b ∈ p.blocks, pT b.term = oY b.term)
include hp hl
theorem SI.start : SI p (List.replicate p.blocks.length (false, [])) := by
 have hW : ∀ k, Wk (List.replicate p.blocks.length (false, [])) k = [] := fun k => by
  unfold Wk
  rw [List.getD_eq_getElem?_getD, List.getElem?_replicate]
  split <;> rfl
 refine ⟨by simp, fun c hc => by rw [(List.mem_replicate.1 hc).2]; simp [qV], fun k t h => ?_, fun k b _ t h => ?_⟩ <;>
  (rw [hW] at h; simp [oV] at h)
theorem SI.Ps {ins : List Cl} (h : SI p ins) {k : Nat} {b : lX} (hb : p.blocks[k]? = some b) {t : Nat} (ht : oV (wB ins b) t = true) : Reach p.blocks (t : Int) k := by
 refine Mt (W := fun j u => 0 ≤ u ∧ oV (Wk ins j) u.toNat = true) (fun j u hu => ?_) hb ?_
 ·have := h.sound j u.toNat hu.2
  rwa [Int.toNat_of_nonneg hu.1] at this
 ·rw [Bb] at ht
  unfold SB at ht
  rw [hl b (List.mem_of_getElem? hb)] at ht
  exact ht
theorem SI.step {ins : List Cl} (h : SI p ins) {k : Nat} {b : lX} (hb : p.blocks[k]? = some b) : SI p (ins.set k (true, wB ins b)) := by
 have hk : k < ins.length := by rw [h.len]; exact (List.getElem?_eq_some_iff.1 hb).1
 have hW := fun j => WK (ins := ins) (j := j) (w := wB ins b) hk
 have mono : ∀ (j t : Nat), oV (Wk ins j) t = true → oV (Wk (ins.set k (true, wB ins b)) j) t = true := fun j t ht => by
  rw [hW]
  split
  ·rename_i e; subst e
   rw [Bb]; exact h.pre k b hb t ht
  ·exact ht
 have smono : ∀ (x : Term) (t : Int), SB ins x t → SB (ins.set k (true, wB ins b)) x t := fun x t ⟨j, hj, h0, ht⟩ => ⟨j, hj, h0, mono _ _ ht⟩
 refine ⟨by simp [h.len], fun c hc => ?_, fun j t ht => ?_, fun j c hc t ht => ?_⟩
 ·rcases List.mem_or_eq_of_mem_set hc with h1 | h1
  ·exact h.sz c h1
  ·subst h1; exact RJ hp h.sz (List.mem_of_getElem? hb)
 ·rw [hW] at ht
  split at ht
  ·rename_i e; subst e; exact h.Ps hp hl hb ht
  ·exact h.sound j t ht
 ·rw [hW] at ht
  split at ht
  ·rename_i e; subst e
   rw [hb] at hc; cases hc
   rw [Bb] at ht
   exact Ad (smono _) ht
  ·exact Ad (smono _) (h.pre j c hc t ht)
def Fin (p : IR) (ins outs : List Cl) : Prop := ∀ (k : Nat) (b : lX), p.blocks[k]? = some b → outs.getD k (false, []) = (true, Aq ins b) ∧ nN (wB ins b) = nN (Wk ins k)
theorem SI.complete {ins outs : List Cl} (h : SI p ins) (hf : Fin p ins outs) (k t : Nat) : oV (Wk ins k) t = true ↔ Reach p.blocks (t : Int) k := by
 refine ⟨h.sound k t, fun hr => ?_⟩
 have := Hf (W := fun j u => 0 ≤ u ∧ oV (Wk ins j) u.toNat = true) (bs := p.blocks) (fun j b hb u hu => ?_) hr
 ·simpa using this.2
 ·have hr0 : 0 ≤ u := by
   unfold A9 at hu
   rw [rG] at hu
   rcases hu with h1 | ⟨_, j', _, h2⟩
   ·exact (FO hp (List.mem_of_getElem? hb) h1).1
   ·exact h2.1
  obtain ⟨n, rfl⟩ := Int.eq_ofNat_of_zero_le hr0
  refine ⟨hr0, ?_⟩
  have h2 := (OK.1 (hf j b hb).2) n
  simp only [Int.toNat_natCast]
  rw [← h2, Bb]
  unfold SB
  rw [hl b (List.mem_of_getElem? hb)]
  exact hu
end
end Go.Proofs.YtkeoalhglkfbkaaDoor


namespace Go.Proofs.YtkeoalhglkfbkaaDoor
open Go Hk Go.Proofs.Wd
section
variable {p : IR} (hp : wK p) (hl : ∀ b ∈ p.blocks, pT b.term = oY b.term)
include hp hl
def V4 (p : IR) (bb : Bool) : List kR := [.ptr 0 0, T1, T2, .int .i64 0, .mslice 3 0 p.blocks.length 1, .mslice 4 0 p.blocks.length 1, .bool bb]
theorem OZ : ∀ (c : Nat) (ins outs : List Cl) (bb : Bool), c ≤ p.blocks.length → SI p ins → outs.length = p.blocks.length →
  ∃ (ins' outs' : List Cl) (bb' : Bool), mJ (DG KK 5) (V4 p bb ++ [.int .i64 ((c : Int) - 1)], HB p (ins.map lT) (outs.map lT)) = some (.exit 2, V4 p bb' ++ [.int .i64 (-1)], HB p (ins'.map lT) (outs'.map lT)) ∧
   SI p ins' ∧ outs'.length = p.blocks.length ∧ (bb = true → bb' = true) ∧ vU ins ≤ vU ins' ∧ (bb = false → bb' = true → vU ins < vU ins') ∧
   (bb' = false → ins' = ins ∧ (∀ (k : Nat), c ≤ k → outs'.getD k (false, []) = outs.getD k (false, [])) ∧
    ∀ (k : Nat) (b : lX), k < c → p.blocks[k]? = some b → outs'.getD k (false, []) = (true, Aq ins b) ∧ nN (wB ins b) = nN (Wk ins k)) := by
 have q0 := fun h => sP (m := 5) (h := h) (by omega)
 have q1 := fun h => Wi (m := 5) (h := h) (by omega)
 have q2 := fun h => Wj (m := 5) (h := h) (by omega)
 have q3 := fun h => sMI (m := 5) (h := h) (n := p.blocks.length) (by omega)
 have q4 := fun h => sMO (m := 5) (h := h) (n := p.blocks.length) (by omega)
 intro c
 induction c with
 | zero =>
  intro ins outs bb _ hI ho
  have htr : mL 5 (HB p (ins.map lT) (outs.map lT)) = some (HB p (ins.map lT) (outs.map lT)) := pI (B3 (o8 _) (o8 _))
  refine ⟨ins, outs, bb, oJ ?_, hI, ho, id, Nat.le_refl _, (fun h1 h2 => absurd (h1.symm.trans h2) (by decide)), fun _ => ⟨rfl, fun _ _ => rfl, fun k b hk => by omega⟩⟩
  unfold DG
  simp only [V4]
  simp -implicitDefEqProofs [lC, htr, q0, q1, q2, q3, q4]
 | succ c ih =>
  intro ins outs bb hc hI ho
  have hcl : c < p.blocks.length := by omega
  have hb : p.blocks[c]? = some p.blocks[c] := List.getElem?_eq_getElem hcl
  have hbm := List.getElem_mem hcl
  generalize p.blocks[c] = b at *
  have hci : c < ins.length := by rw [hI.len]; exact hcl
  have hw := RJ hp hI.sz hbm
  have g := O2 hp hI.len ho hI.sz (bb := bb) hb hw
  have w0 : ((c + 1 : Nat) : Int) - 1 = (c : Int) := by omega
  have hWk : qV (ins.getD c (false, [])) = Wk ins c := rfl
  rw [hWk] at g
  rw [w0]
  by_cases hsame : nN (wB ins b) = nN (Wk ins c)
  ·rw [if_pos hsame, if_pos hsame] at g
   obtain ⟨ins', outs', bb', g1, g2, g3, g4, g5, g6, g7⟩ := ih ins (outs.set c (true, Aq ins b)) bb (by omega) hI (by simp [ho])
   refine ⟨ins', outs', bb', ?_, g2, g3, g4, g5, g6, fun hb' => ?_⟩
   ·rw [← g1]; exact qT g
   ·obtain ⟨k1, k2, k3⟩ := g7 hb'
    have hset : ∀ k, (outs.set c (true, Aq ins b)).getD k (false, []) = if c = k then (true, Aq ins b) else outs.getD k (false, []) := fun k => by
     rw [List.getD_eq_getElem?_getD, List.getD_eq_getElem?_getD, List.getElem?_set]
     split
     ·rename_i e; subst e; simp [show c < outs.length by omega]
     ·rfl
    refine ⟨k1, fun k hk => ?_, fun k b' hk hb2 => ?_⟩
    ·rw [k2 k (by omega), hset, if_neg (by omega)]
    ·by_cases hkc : k = c
     ·subst hkc
      rw [hb] at hb2; cases hb2
      rw [k2 k (Nat.le_refl _), hset, if_pos rfl]
      exact ⟨rfl, hsame⟩
     ·exact k3 k b' (by omega) hb2
  ·rw [if_neg hsame, if_neg hsame] at g
   have hI2 := SI.step hp hl hI hb
   obtain ⟨ins', outs', bb', g1, g2, g3, g4, g5, g6, g7⟩ := ih (ins.set c (true, wB ins b)) (outs.set c (true, Aq ins b)) true (by omega) hI2 (by simp [ho])
   have hgrow : vU ins < vU (ins.set c (true, wB ins b)) := by
    have h1 := Ii ins c (true, wB ins b) hci
    have h2 := Mp (a := Wk ins c) (b := wB ins b) (fun t ht => by rw [Bb]; exact hI.pre c b hb t ht) (fun e => hsame e.symm)
    have h3 : qV (true, wB ins b) = wB ins b := rfl
    rw [h3] at h1; omega
   have hb' := g4 rfl
   refine ⟨ins', outs', bb', ?_, g2, g3, fun _ => hb', by omega, fun _ _ => by omega, fun h => by rw [hb'] at h; cases h⟩
   rw [← g1]; exact qT g
theorem O0 (M : Nat) (hM : ∀ ins, SI p ins → vU ins ≤ M) : ∀ (n : Nat) (ins outs : List Cl) (bb : Bool), 2 * (M - vU ins) + (bif bb then 1 else 0) < n → SI p ins → outs.length = p.blocks.length → (bb = false → Fin p ins outs) →
  ∃ (ins' outs' : List Cl), mJ (I_ KK 5) (V4 p bb, HB p (ins.map lT) (outs.map lT)) = some (.exit 0, V4 p false, HB p (ins'.map lT) (outs'.map lT)) ∧ SI p ins' ∧ outs'.length = p.blocks.length ∧ Fin p ins' outs' := by
 have q0 := fun h => sP (m := 5) (h := h) (by omega)
 have q1 := fun h => Wi (m := 5) (h := h) (by omega)
 have q2 := fun h => Wj (m := 5) (h := h) (by omega)
 have q3 := fun h => sMI (m := 5) (h := h) (n := p.blocks.length) (by omega)
 have q4 := fun h => sMO (m := 5) (h := h) (n := p.blocks.length) (by omega)
 have hnb := hp.nb
 intro n
 induction n with
 | zero => intro ins outs bb h; omega
 | succ n ih =>
  intro ins outs bb hn hI ho hf
  have htr : ∀ i o : List Cl, mL 5 (HB p (i.map lT) (o.map lT)) = some (HB p (i.map lT) (o.map lT)) := fun i o => pI (B3 (o8 _) (o8 _))
  have h5 : ∀ i o : List Cl, (HB p (i.map lT) (o.map lT)).length = 5 := fun _ _ => rfl
  cases bb with
  | false =>
   refine ⟨ins, outs, oJ ?_, hI, ho, hf rfl⟩
   unfold I_
   simp only [V4]
   simp -implicitDefEqProofs [lC, htr, q0, q1, q2, q3, q4]
  | true =>
   obtain ⟨ins', outs', bb', g1, g2, g3, g4, g5, g6, g7⟩ := OZ hp hl p.blocks.length ins outs false (Nat.le_refl _) hI ho
   have hle := hM ins' g2
   obtain ⟨ins2, outs2, k1, k2, k3, k4⟩ := ih ins' outs' bb' (by
    cases bb' with
    | false => simp only [cond_true, cond_false] at hn ⊢; omega
    | true => have := g6 rfl rfl; simp only [cond_true] at hn ⊢; omega) g2 g3 (fun hb => by
     obtain ⟨e1, _, e3⟩ := g7 hb
     intro k b hb'
     rw [e1]
     exact e3 k b (List.getElem?_eq_some_iff.1 hb').1 hb')
   refine ⟨ins2, outs2, ?_, k2, k3, k4⟩
   rw [← k1]
   refine qT ?_
   have ldA : ∀ i o : List Cl, kV false 1 (HB p (i.map lT) (o.map lT)) (.ptr 0 2) = some (.slice (p.blocks.map lX.cells) .no) := fun i o => rfl
   have w1 : IntKind.i64.wrap ((p.blocks.length : Int) - 1) = (p.blocks.length : Int) - 1 := by rw [wrap64] <;> omega
   simp only [V4, List.cons_append, List.nil_append] at g1 ⊢
   unfold I_
   simp -implicitDefEqProofs [-mD, ldA, h5, w1, g1, lC, htr, q0, q1, q2, q3, q4]
end
end Go.Proofs.YtkeoalhglkfbkaaDoor


namespace Go.Proofs.YtkeoalhglkfbkaaDoor
open Go Hk Go.Proofs.Wd
theorem rZ {p : IR} (h : mZ p = 0) : WG p ∧ Qh p ∧ p.blocks ≠ [] ∧ AE p.inn p.out 0 p.arrays = true ∧ ∀ b ∈ p.blocks, (∀ o ∈ b.ops, M1 p o = true) ∧ Ak (p := p) b.term = true := by
 unfold mZ at h
 cases hl : oP p
 ·rw [hl, if_pos rfl] at h; exact absurd h (by decide)
 ·rw [hl, if_neg (by decide)] at h
  have l := xJ.1 hl
  split at h
  ·rename_i hc
   obtain ⟨c1, c2, c3, c4, c5, c6⟩ := hc
   simp only [mG, Bool.and_eq_true, decide_eq_true_eq] at c1 c2
   split at h
   ·rename_i h2
    simp only [Bool.and_eq_true, List.all_eq_true] at h2
    refine ⟨l, ⟨c5, l.t1, l.a1, l.b1, c1.1, c1.2, c2.1, c2.2⟩, c6, h2.1, fun b hb => ?_⟩
    have := h2.2 b hb
    simp only [G6, Bool.and_eq_true, List.all_eq_true] at this
    exact this
   ·exact absurd h (by decide)
  ·exact absurd h (by decide)
theorem tY {p : IR} (h : mZ p = 0) : wK p ∧ ∀ b ∈ p.blocks, pT b.term = oY b.term := by
 obtain ⟨l, lp, hne, _, hb⟩ := rZ h
 have ht0 := lp.t0
 have ht1 := lp.t1
 have hu : ∀ b ∈ p.blocks, ∀ o ∈ b.ops, (∀ t ∈ mW o, 0 ≤ t ∧ t < p.temps) ∧ o.dst ≤ 2000000 ∧ ((mM o.kind).dst = true → 0 ≤ o.dst ∧ o.dst < p.temps) := by
  intro b hbm o ho
  have h1 := (hb b hbm).1 o ho
  unfold M1 at h1
  simp only [Bool.and_eq_true, List.all_eq_true, decide_eq_true_eq, Bool.or_eq_true, Bool.not_eq_true', mG] at h1
  obtain ⟨_, _, h2, ⟨h3, _⟩, h4, _⟩ := h1
  refine ⟨fun t ht => by have := h2 t ht; omega, ?_, fun hd => ?_⟩
  ·rcases h4 with h4 | h4
   ·rw [h4] at h3; simp at h3; omega
   ·omega
  ·rcases h4 with h4 | h4
   ·rw [hd] at h4; cases h4
   ·omega
 have hlead : ∀ b ∈ p.blocks, ∀ j ∈ pT b.term, 0 ≤ j ∧ j.toNat < p.blocks.length := by
  intro b hbm j hj
  have h1 := (hb b hbm).2
  unfold Ak at h1
  unfold pT at hj
  by_cases k1 : b.term.kind = 1
  ·rw [if_pos k1] at h1 hj
   simp only [Bool.and_eq_true, decide_eq_true_eq, mG] at h1
   have := List.mem_filter.1 hj
   simp at this
   omega
  ·rw [if_neg k1] at h1 hj
   by_cases k2 : b.term.kind = 2
   ·rw [if_pos k2] at h1 hj
    simp only [Bool.and_eq_true, decide_eq_true_eq, mG] at h1
    have := List.mem_filter.1 hj
    simp at this
    omega
   ·rw [if_neg k2] at hj; simp at hj
 refine ⟨⟨fun b hb o ho => (hu b hb o ho).1, fun b hb o ho => (hu b hb o ho).2.1, fun b hb o ho => (hu b hb o ho).2.2, fun b hbm k2 => ?_, hlead, ht1, by have := lp.b1; omega, fun b hb => by have := Gg hb; have := l.o1; omega⟩, fun b hbm => Re (hb b hbm).2⟩
 have h1 := (hb b hbm).2
 unfold Ak at h1
 rw [if_neg (by omega), if_pos k2] at h1
 simp only [Bool.and_eq_true, decide_eq_true_eq, mG] at h1
 omega
def slW (ws : List Wd) : kR := .slice (ints (zs (nN ws))) .no
def rW (l : List Cl) (i : Nat) : List (List kR) := (List.range i).map fun k => [slW (Wk l k)]
theorem DT {l : List Cl} {i : Nat} : (rW l i).length = i := by simp [rW]
theorem Gw {l : List Cl} {i : Nat} : rW l (i + 1) = rW l i ++ [[slW (Wk l i)]] := by simp [rW, List.range_succ]
section
variable {p : IR} (hp : wK p) {ins outs : List Cl} (hi : ins.length = p.blocks.length) (ho : outs.length = p.blocks.length) (hsi : ∀ c ∈ ins, (qV c).length ≤ 20000) (hso : ∀ c ∈ outs, (qV c).length ≤ 20000)
include hp hi ho hsi hso
theorem O1 : ∀ (d i : Nat), p.blocks.length = i + d →
  mJ (Ja KK 7) ([T1, T2, .int .i64 0, .mslice 3 0 p.blocks.length 1, .mslice 4 0 p.blocks.length 1, .slice (rW ins i) (.own 5), .slice (rW outs i) (.own 6), .int .i64 (p.blocks.length : Int), .int .i64 (i : Int)], HB p (ins.map lT) (outs.map lT) ++ [FR i, FR i]) =
   some (.exit 8, [T1, T2, .int .i64 0, .mslice 3 0 p.blocks.length 1, .mslice 4 0 p.blocks.length 1, .slice (rW ins p.blocks.length) (.own 5), .slice (rW outs p.blocks.length) (.own 6), .int .i64 (p.blocks.length : Int), .int .i64 (p.blocks.length : Int)],
    HB p (ins.map lT) (outs.map lT) ++ [FR p.blocks.length, FR p.blocks.length]) := by
 have q1 := fun h => Wi (m := 7) (h := h) (by omega)
 have q2 := fun h => Wj (m := 7) (h := h) (by omega)
 have q3 := fun h => sMI (m := 7) (h := h) (n := p.blocks.length) (by omega)
 have q4 := fun h => sMO (m := 7) (h := h) (n := p.blocks.length) (by omega)
 have q5 : ∀ h rows, kR.oM 7 h (.slice rows (.own 5)) = .slice rows (.own 5) := fun h rows => by simp
 have q6 : ∀ h rows, kR.oM 7 h (.slice rows (.own 6)) = .slice rows (.own 6) := fun h rows => by simp
 have hnb := hp.nb
 have hT : ∀ n k : Nat, TH (HB p (ins.map lT) (outs.map lT) ++ [FR n, FR k]) := fun n k => by
  have e : HB p (ins.map lT) (outs.map lT) ++ [FR n, FR k] = HB p (ins.map lT) (outs.map lT) ++ ([FR n] ++ [FR k]) := rfl
  unfold TH; rw [e]
  exact oT (B3 (o8 _) (o8 _)) (oT uD uD)
 have htr : ∀ n k C, mL 7 (.cells p.cells :: .front 0 0 :: .front 0 0 :: .cells (ins.map lT) :: .cells (outs.map lT) :: FR n :: FR k :: C) = some [.cells p.cells, .front 0 0, .front 0 0, .cells (ins.map lT), .cells (outs.map lT), FR n, FR k] := fun n k C => pW (C := C) (hT n k)
 intro d
 induction d with
 | zero =>
  intro i hd
  obtain rfl : p.blocks.length = i := by omega
  refine oJ ?_
  simp only [HB, List.cons_append, List.nil_append]
  unfold Ja
  simp -implicitDefEqProofs [lC, htr, q1, q2, q3, q4, q5, q6]
 | succ d ih =>
  intro i hd
  have hil : i < p.blocks.length := by omega
  have hil' : (i : Int) < (p.blocks.length : Int) := by omega
  rw [← ih (i + 1) (by omega)]
  refine qT ?_
  have hci : ins[i]? = some ins[i] := List.getElem?_eq_getElem (by omega)
  have hco : outs[i]? = some outs[i] := List.getElem?_eq_getElem (by omega)
  have hWi : qV ins[i] = Wk ins i := by unfold Wk; rw [List.getD_eq_getElem?_getD, hci]; rfl
  have hWo : qV outs[i] = Wk outs i := by unfold Wk; rw [List.getD_eq_getElem?_getD, hco]; rfl
  have ixi : kY 1 (.mslice 3 0 p.blocks.length 1) (.int .i64 (i : Int)) = some (.ptr 3 i) := by rw [qJ, if_pos ⟨hil, rfl⟩]; simp
  have ixo : kY 1 (.mslice 4 0 p.blocks.length 1) (.int .i64 (i : Int)) = some (.ptr 4 i) := by rw [qJ, if_pos ⟨hil, rfl⟩]; simp
  have ldi : ∀ X Y Z W C, kV false 1 (X :: Y :: Z :: .cells (ins.map lT) :: W :: C) (.ptr 3 i) = some (lT ins[i]) := fun X Y Z W C => by
   rw [mD]
   have : nJ (X :: Y :: Z :: .cells (ins.map lT) :: W :: C) 3 = some (ins.map lT) := rfl
   rw [this, Option.bind_some, List.getElem?_map, hci]; rfl
  have ldo : ∀ X Y Z W C, kV false 1 (X :: Y :: Z :: W :: .cells (outs.map lT) :: C) (.ptr 4 i) = some (lT outs[i]) := fun X Y Z W C => by
   rw [mD]
   have : nJ (X :: Y :: Z :: W :: .cells (outs.map lT) :: C) 4 = some (outs.map lT) := rfl
   rw [this, Option.bind_some, List.getElem?_map, hco]; rfl
  have hTh : TH ([.cells p.cells, .front 0 0, .front 0 0, .cells (ins.map lT), .gone, FR i, FR i] : kT) := by
   have e : ([.cells p.cells, .front 0 0, .front 0 0, .cells (ins.map lT), .gone, FR i, FR i] : kT) = [.cells p.cells, .front 0 0, .front 0 0, .cells (ins.map lT), .gone] ++ ([FR i] ++ [FR i]) := rfl
   unfold TH; rw [e]
   exact oT (pM B2 (nW (nW (pM (o8 _) (zF.2 oW))))) (oT uD uD)
  have g1 := c63 hTh (FE ins[i]) (hsi _ (List.getElem_mem _))
  rw [hWi] at g1
  have hT2 : TH ([.cells p.cells, .front 0 0, .front 0 0, .cells (ins.map lT), .cells (outs.map lT), FR (i + 1), FR i, .front 1 1] : kT) := by
   have e : ([.cells p.cells, .front 0 0, .front 0 0, .cells (ins.map lT), .cells (outs.map lT), FR (i + 1), FR i, .front 1 1] : kT) = HB p (ins.map lT) (outs.map lT) ++ ([FR (i + 1)] ++ ([FR i] ++ [.front 1 1])) := rfl
   unfold TH; rw [e]
   exact oT (B3 (o8 _) (o8 _)) (oT uD (oT uD (nW oW)))
  have g2 := c63 hT2 (FE outs[i]) (hso _ (List.getElem_mem _))
  rw [hWo] at g2
  have w1 : IntKind.i64.wrap ((i : Int) + 1) = ((i + 1 : Nat) : Int) := by rw [wrap64 (by omega) (by omega), Int.natCast_add]; rfl
  have row : ∀ (z : List Int) (h : kT), lP 1 1 [.slice [] .nil] [(0, .slice (ints z) .no)] h = some (.slice [[.slice (ints z) .no]] (.own h.length), h ++ [.front 1 1]) := fun z h => rfl
  have a1 := fun t => E7 (h := [.cells p.cells, .front 0 0, .front 0 0, .cells (ins.map lT), .gone]) (C := [FR i, .front 1 1]) (rows := rW ins i) (v := .slice (ints (zs (nN (Wk ins i)))) .no) (by_ := 24) (by omega) (by rw [DT]; omega) (t := t)
  have a2 := fun t => E7 (h := [.cells p.cells, .front 0 0, .front 0 0, .cells (ins.map lT), .cells (outs.map lT), FR (i + 1)]) (C := [.front 1 1, .front 1 1]) (rows := rW outs i) (v := .slice (ints (zs (nN (Wk outs i)))) .no) (by_ := 24) (by omega) (by rw [DT]; omega) (t := t)
  have r1 : rW ins i ++ [[.slice (ints (zs (nN (Wk ins i)))) .no]] = rW ins (i + 1) := Gw.symm
  have r2 : rW outs i ++ [[.slice (ints (zs (nN (Wk outs i)))) .no]] = rW outs (i + 1) := Gw.symm
  simp only [DT, r1, r2, List.length_cons, List.length_nil, Nat.zero_add, Nat.reduceAdd, List.cons_append, List.nil_append] at a1 a2
  simp only [HB, List.cons_append, List.nil_append]
  generalize ((i + 1 : Nat) : Int) = i1 at *
  generalize rW ins (i + 1) = R1 at *
  generalize rW outs (i + 1) = R2 at *
  generalize rW ins i = R3 at *
  generalize rW outs i = R4 at *
  generalize zs (nN (Wk ins i)) = z1 at *
  generalize zs (nN (Wk outs i)) = z2 at *
  generalize lT ins[i] = c1 at *
  generalize lT outs[i] = c2 at *
  unfold Ja
  simp -implicitDefEqProofs [-mD, hil', ixi, ixo, ldi, ldo, g1, g2, row, a1, a2, w1, lC, htr, q1, q2, q3, q4, q5, q6]
end
open Classical in
noncomputable def sK (p : IR) (k : Nat) : List Int := zs ((List.range p.temps.toNat).filter fun t => decide (Reach p.blocks (t : Int) k))
open Classical in
noncomputable def pJ (p : IR) (k : Nat) : List Int := zs ((List.range p.temps.toNat).filter fun t => decide (∃ b, p.blocks[k]? = some b ∧ pS p.blocks (t : Int) b.term))
noncomputable def qF (p : IR) : List (List Int) := if mZ p = 0 then (List.range p.blocks.length).map (sK p) else []
noncomputable def qG (p : IR) : List (List Int) := if mZ p = 0 then (List.range p.blocks.length).map (pJ p) else []
def oF (l : List (List Int)) : kR := .slice (l.map fun z => [.slice (ints z) .no]) .no
theorem Ej {ws : List Wd} {n : Nat} {P : Nat → Prop} [DecidablePred P] (h : ∀ t, oV ws t = true ↔ P t) (hn : ∀ t, P t → t < n) : nN ws = (List.range n).filter fun t => decide (P t) := by
 rw [AK fun t ht => hn t ((h t).1 ht)]
 apply List.filter_congr
 intro t _
 cases hx : oV ws t
 ·have : ¬ P t := fun hp => by rw [(h t).2 hp] at hx; cases hx
  simp [this]
 ·simp [(h t).1 hx]
theorem c27 (p : IR) (h : kT) : KK 27 [.agg p.cells] h = some (.ret (.tuple [oF (qF p), oF (qG p), .int .i64 (mZ p)]), h) := by
 classical
 refine lZ rfl rfl (mN (X7 _ _ _) ?_)
 have g30 := c30 p
 by_cases h0 : mZ p = 0
 ·obtain ⟨hp, hl⟩ := tY h0
  obtain ⟨_, lp, _⟩ := rZ h0
  have hM : ∀ ins, SI p ins → vU ins ≤ p.blocks.length * 1280000 := fun ins hI => by have := Lm ins hI.sz; rwa [hI.len] at this
  obtain ⟨ins, outs, g1, g2, g3, g4⟩ := O0 hp hl _ hM _ (List.replicate p.blocks.length (false, [])) (List.replicate p.blocks.length (false, [])) true (Nat.lt_succ_self _) (SI.start hp hl) (by simp) (fun h => by cases h)
  have hso : ∀ c ∈ outs, (qV c).length ≤ 20000 := fun c hc => by
   obtain ⟨k, hk⟩ := List.getElem?_of_mem hc
   have hkl : k < p.blocks.length := by rw [← g3]; exact (List.getElem?_eq_some_iff.1 hk).1
   have := (g4 k _ (List.getElem?_eq_getElem hkl)).1
   rw [List.getD_eq_getElem?_getD, hk] at this
   simp at this
   rw [this]
   exact yQ 20000 _ [] (by simp) fun s hs' => by
    obtain ⟨j, _, rfl⟩ := List.mem_map.1 hs'
    exact U_ g2.sz j.toNat
  have g5 := O1 hp g2.len g3 g2.sz hso p.blocks.length 0 (by omega)
  have e1 : rW ins p.blocks.length = (qF p).map fun z => [.slice (ints z) .no] := by
   unfold rW qF
   rw [if_pos h0, List.map_map]
   apply List.map_congr_left
   intro k hk
   simp only [Function.comp, slW, sK]
   rw [Ej (n := p.temps.toNat) (P := fun t : Nat => Reach p.blocks (t : Int) k) (fun t => SI.complete hp hl g2 g4 k t) (fun t ht => by have := (Es hp ht).2; omega)]
  have e2 : rW outs p.blocks.length = (qG p).map fun z => [.slice (ints z) .no] := by
   unfold rW qG
   rw [if_pos h0, List.map_map]
   apply List.map_congr_left
   intro k hk
   have hkl := List.mem_range.1 hk
   have hb : p.blocks[k]? = some p.blocks[k] := List.getElem?_eq_getElem hkl
   have hbm := List.getElem_mem hkl
   have hw : Wk outs k = Aq ins p.blocks[k] := by unfold Wk; rw [(g4 k _ hb).1]; rfl
   simp only [Function.comp, slW, pJ]
   rw [hw, Ej (n := p.temps.toNat) (P := fun t : Nat => ∃ b, p.blocks[k]? = some b ∧ pS p.blocks (t : Int) b.term) (fun t => ?_) (fun t ht => ?_)]
   ·rw [LC]
    constructor
    ·rintro ⟨j, hj, ht⟩
     rw [hl _ hbm] at hj
     exact ⟨_, hb, j, hj, (SI.complete hp hl g2 g4 _ _).1 ht⟩
    ·rintro ⟨b, hb', j, hj, hr⟩
     rw [hb] at hb'; cases hb'
     rw [← hl _ hbm] at hj
     exact ⟨j, hj, (SI.complete hp hl g2 g4 _ _).2 hr⟩
   ·obtain ⟨b, _, j, _, hr⟩ := ht
    have := (Es hp hr).2; omega
  rw [e1, e2] at g5
  have e0 : ∀ l : List Cl, rW l 0 = [] := fun l => rfl
  have eF : FR 0 = .front 0 0 := rfl
  have er : (List.replicate p.blocks.length (false, [])).map lT = List.replicate p.blocks.length (.slice [] .nil) := by rw [List.map_replicate]; rfl
  simp only [e0, eF, Int.cast_ofNat_Int] at g5
  rw [er] at g1
  have mk : ∀ (h : kT), pD 1 24 [.slice [] .nil] (.int .i64 (p.blocks.length : Int)) h = some (.mslice h.length 0 p.blocks.length 1, h ++ [.cells (List.replicate p.blocks.length (.slice [] .nil))]) := fun h => by
   have hnb := hp.nb
   simp only [pD]
   rw [if_pos ⟨by omega, by simp; omega, by omega⟩]
   simp
  rw [h0] at g30 ⊢
  have st : ∀ (r1 r2 : List (List kR)) (h : kT), kR.k8 (kR.oM 0 h (.tuple [.slice r1 (.own 5), .slice r2 (.own 6), .int .i64 0])) = .tuple [.slice r1 .no, .slice r2 .no, .int .i64 0] := fun _ _ _ => rfl
  unfold oF
  generalize (qF p).map (fun z => [kR.slice (ints z) .no]) = R1 at *
  generalize (qG p).map (fun z => [kR.slice (ints z) .no]) = R2 at *
  generalize ins.map lT = ci at *
  generalize outs.map lT = co at *
  simp only [V4, HB, T1, T2, List.cons_append, List.nil_append, IR.cells] at g1 g5 g30 ⊢
  generalize List.replicate p.blocks.length (kR.slice [] .nil) = c0 at *
  simp -implicitDefEqProofs [m27, g30, mk, g1, g5, nE, st]
 ·have e1 : qF p = [] := if_neg h0
  have e2 : qG p = [] := if_neg h0
  rw [e1, e2]
  generalize mZ p = e at *
  have st : ∀ (h : kT), kR.k8 (kR.oM 0 h (.tuple [.slice [] (.own 3), .slice [] (.own 4), .int .i64 e])) = .tuple [.slice [] .no, .slice [] .no, .int .i64 e] := fun _ => rfl
  simp only [IR.cells] at g30 ⊢
  simp -implicitDefEqProofs [m27, g30, h0, nE, st, oF]
end Go.Proofs.YtkeoalhglkfbkaaDoor


namespace Go.Proofs.YtkeoalhglkfbkaaDoor
open Go Hk Go.Proofs.Wd
def VI (id : Nat) : List Int → kR
 | [] => .slice [] (.own id)
 | w :: r => .vslice id (r.length + 1) 0 (r.length + 1) 1
def XI : List Int → lW
 | [] => .front 0 0
 | w :: r => .vec (r.length + 1) 1 ((w :: r).map mR)
section
variable {A B C : List lW} {ws : List Int} {id m i : Nat} {h : kT} {k : IntKind}
theorem LN : lN (VI id ws) = some (.int .i64 (ws.length : Int)) := by cases ws <;> rfl
theorem WI (hi : id < m) : kR.oM m h (VI id ws) = VI id ws := by
 cases ws with
 | nil => simp [VI, hi]
 | cons w r => exact Ct hi
theorem abT : Tq (XI ws) := by
 intro m h
 cases ws with
 | nil => rfl
 | cons w r =>
  have : mP m h ((w :: r).map mR) = some ((w :: r).map mR) := u_ fun c hc => by
   obtain ⟨x, _, rfl⟩ := List.mem_map.1 hc; exact ⟨_, _, rfl⟩
  show (mP m h ((w :: r).map mR)).map _ = _
  rw [this]; rfl
theorem Qs (hi : i < ws.length) : kY 1 (VI id ws) (.int k (i : Int)) = some (.vptr id ws.length i) := by
 cases ws with
 | nil => simp at hi
 | cons w r =>
  have : i < r.length + 1 := by simpa using hi
  simp [VI, this]
theorem DD (h0 : ws ≠ []) : nA (OQ A (XI ws) B) A.length ws.length = some (1, ws.map mR) := by
 unfold nA
 rw [EM]
 cases ws with
 | nil => exact absurd rfl h0
 | cons w r => simp [XI]
theorem To (hi : i < ws.length) : kV false 1 (OQ A (XI ws) B) (.vptr A.length ws.length i) = some (mR (ws.getD i 0)) := by
 rw [lL, DD (by intro e; subst e; simp at hi)]
 simp [List.getD_eq_getElem?_getD, hi]
theorem Ol (hl : ws.length ≤ 2000000) (w : Int) {t : Hk.Tok} : mY 1 8 (OQ A (XI ws) B) (VI A.length ws) (.slice [[mR w]] t) = some (VI A.length (ws ++ [w]), OQ A (XI (ws ++ [w])) B) := by
 have hr : wS 1 (OQ A (XI ws) B) (.slice [[mR w]] t) = some [[mR w]] := by simp
 cases ws with
 | nil =>
  unfold mY
  simp only [VI, hr]
  rw [EM]
  simp [XI, VI, xX]
 | cons x r =>
  have hg := DD (A := A) (B := B) (ws := x :: r) (by simp)
  unfold mY
  simp only [VI, hr]
  simp only [List.length_cons] at hg hl ⊢
  rw [hg]
  simp only [List.length_nil, Nat.zero_add]
  rw [if_pos ⟨trivial, trivial, by omega, by omega⟩, if_neg (by omega), if_neg (by omega)]
  simp [XI, VI, xX, List.take_of_length_le]
end
theorem acE (o : Op) : EP Tryd.prog nC 100 [.agg o.cells] [] = some (.ret (VI 0 (mW o)), [XI (mW o)]) := by
 refine mN (Ug _ _ _) ?_
 have f0 : ∀ (z : Int) (h : kT), lP 1 1 [.int .i64 0] [(0, .int .i64 z)] h = some (.slice [[mR z]] (.own h.length), h ++ [.front 1 1]) := fun z h => rfl
 have gb : ∀ C, nJ (.cells o.cells :: C) 0 = some o.cells := fun C => rfl
 have ap : ∀ (l : List Int) (z : Int) (C : kT) (t : Hk.Tok), l.length ≤ 10 → mY 1 8 (.cells o.cells :: .front 0 0 :: XI l :: C) (VI 2 l) (.slice [[mR z]] t) = some (VI 2 (l ++ [z]), .cells o.cells :: .front 0 0 :: XI (l ++ [z]) :: C) := fun l z C t hl => by
  have g := Ol (A := [.cells o.cells, .front 0 0]) (B := C) (ws := l) (by omega) z (t := t)
  simpa [OQ] using g
 have a1 := fun z C t => ap [] z C t (by simp)
 have a2 := fun x z C t => ap [x] z C t (by simp)
 have a3 := fun x y z C t => ap [x, y] z C t (by simp)
 have x0 : XI [] = .front 0 0 := rfl
 have v0 : VI 2 [] = .slice [] (.own 2) := rfl
 have hs := FT o.kind
 have B_ := B_ o.kind
 have hA := Hd o.kind
 have hB := hasB o.kind
 have hC := KL o.kind
 have o0 : KH 0 (.slice [] (.own 2)) [.cells o.cells, .front 0 0, .front 0 0] = some (.ret (VI 0 []), [XI []]) := by kernel_rfl
 have o1 : ∀ x, KH 0 (VI 2 [x]) [.cells o.cells, .front 0 0, XI [x], .front 1 1] = some (.ret (VI 0 [x]), [XI [x]]) := fun x => by kernel_rfl
 have o2 : ∀ x y, KH 0 (VI 2 [x, y]) [.cells o.cells, .front 0 0, XI [x, y], .front 1 1, .front 1 1] = some (.ret (VI 0 [x, y]), [XI [x, y]]) := fun x y => by kernel_rfl
 have o3 : ∀ x y z, KH 0 (VI 2 [x, y, z]) [.cells o.cells, .front 0 0, XI [x, y, z], .front 1 1, .front 1 1, .front 1 1] = some (.ret (VI 0 [x, y, z]), [XI [x, y, z]]) := fun x y z => by kernel_rfl
 unfold mW
 simp only [x0, v0, List.nil_append, List.cons_append] at a1 a2 a3
 simp only [Op.cells] at gb a1 a2 a3 o0 o1 o2 o3 ⊢
 rcases (show (mM o.kind).src = 0 ∨ (mM o.kind).src = 1 ∨ (mM o.kind).src = 2 ∨ (mM o.kind).src = 3 by omega) with h0 | h0 | h0 | h0 <;>
  rw [h0] at hA hB hC ⊢ <;>
  simp -implicitDefEqProofs [adL, gb, B_, hA, hB, hC, f0, a1, a2, a3, x0, v0, o0, o1, o2, o3]
theorem JC {n : Nat} {cs : List kR} {h : kT} (h1 : cs.all (kR.HV fun j => decide (j < 1)) = true) (h2 : ∀ f, cs.map (kR.Ar f) = cs) : vF true h (.ret (.vslice 0 n 0 n 1), [.vec n 1 cs]) = some (.ret (.vslice h.length n 0 n 1), h ++ [.vec n 1 cs]) := by
 have e1 : (lW.vec n 1 cs).ok (fun j => decide (j < 1)) = true := h1
 have e2 : ∀ f, (lW.vec n 1 cs).vG f = .vec n 1 cs := fun f => by simp only [lW.vG, h2 f]
 have e3 : ([lW.vec n 1 cs] : kT).all (lW.ok fun j => decide (j < ([lW.vec n 1 cs] : kT).length)) = true := by
  rw [List.all_cons, List.all_nil, Bool.and_true]; exact e1
 have e4 : n_.ok (fun j => decide (j < ([lW.vec n 1 cs] : kT).length)) (.ret (.vslice 0 n 0 n 1)) = true := rfl
 simp only [vF, e3, e4, Bool.and_true, cond_true, List.map_cons, List.map_nil, e2]
 rfl
theorem acD (o : Op) (h : kT) : KK 100 [.agg o.cells] h = some (.ret (VI h.length (mW o)), h ++ [XI (mW o)]) := by
 have hp : nC.pure 100 = true := rfl
 have hs : [kR.agg o.cells].all (kR.rX 0) = true := rfl
 simp only [KK, mI, hp, hs, cond_true, acE, Option.bind_some]
 have ho : nC.out 100 = true := rfl
 rw [ho]
 generalize mW o = l
 cases l with
 | nil => rfl
 | cons x r => exact JC (by simp [mR, kR.HV, uI]) (by intro f; simp [mR, kR.Ar])
theorem Mw {A C : List lW} (hB : KB A C) {u : List Int} (hu : u.length ≤ 10) (t k : Int) : ∀ (d i : Nat), u.length = i + d →
  ∃ j : Int, mJ (C_ KK (HN A C)) ([.int .i64 t, .ptr 0 0, .int .i64 0, .int .i64 k, VI A.length u, .int .i64 (i : Int)], OQ A (XI u) C) =
   some (if t ∈ u.drop i then .ret else .exit 2, [.int .i64 t, .ptr 0 0, .int .i64 (if t ∈ u.drop i then 1 else 0), .int .i64 k, VI A.length u, .int .i64 j], OQ A (XI u) C) := by
 have htr := pN (X := XI u) (A := A) (B := C) hB abT
 have hsn := fun h => WI (ws := u) (m := HN A C) (h := h) sI
 have hsp : ∀ h, kR.oM (HN A C) h (.ptr 0 0) = .ptr 0 0 := fun h => z7 (by simp [HN]; omega)
 intro d
 induction d with
 | zero =>
  intro i hd
  obtain rfl : u.length = i := by omega
  refine ⟨(u.length : Int), ?_⟩
  rw [List.drop_length]
  refine oJ ?_
  unfold C_
  simp -implicitDefEqProofs [LN, lC, htr, hsn, hsp]
 | succ d ih =>
  intro i hd
  have hil : i < u.length := by omega
  have hil' : (i : Int) < (u.length : Int) := by omega
  have hx : u[i]? = some u[i] := List.getElem?_eq_getElem hil
  have w1 : IntKind.i64.wrap ((i : Int) + 1) = ((i + 1 : Nat) : Int) := by rw [wrap64 (by omega) (by omega), Int.natCast_add]; rfl
  have ix := fun k => Qs (id := A.length) (k := k) hil
  have ld := To (A := A) (B := C) hil
  have hgd : u.getD i 0 = u[i] := by simp [List.getD_eq_getElem?_getD, hx]
  rw [hgd] at ld
  rw [List.drop_eq_getElem_cons hil]
  generalize u[i] = z at *
  by_cases hz : z = t
  ·subst hz
   refine ⟨(i : Int), ?_⟩
   rw [if_pos (by simp), if_pos (by simp)]
   refine Ch ?_
   unfold C_
   simp -implicitDefEqProofs [-lL, LN, hil', ix, ld, mR, lC, htr, hsn, hsp]
  ·obtain ⟨j, g⟩ := ih (i + 1) (by omega)
   refine ⟨j, ?_⟩
   have hm : (t ∈ z :: u.drop (i + 1)) ↔ t ∈ u.drop (i + 1) := by
    rw [List.mem_cons]; exact ⟨fun h => h.elim (fun e => absurd e.symm hz) id, .inr⟩
   simp only [hm]
   rw [← g]
   refine qT ?_
   generalize ((i + 1 : Nat) : Int) = i1 at *
   unfold C_
   simp -implicitDefEqProofs [-lL, LN, hil', ix, ld, mR, hz, w1, lC, htr, hsn, hsp]
theorem OT {b : lX} (hb : b.ops.length ≤ 1048576) (t : Int) : ∀ (d i : Nat), b.ops.length = i + d →
  ∃ (e : Ex) (r j : Int), mJ (zS KK 1) ([.int .i64 t, .ptr 0 0, .int .i64 0, .int .i64 (i : Int)], [.cells b.cells]) = some (e, [.int .i64 t, .ptr 0 0, .int .i64 r, .int .i64 j], [.cells b.cells]) ∧
   ((e = .ret ∧ r = qZ (b.ops.drop i) b.term t) ∨ (e = .exit 0 ∧ qZ (b.ops.drop i) b.term t = qZ [] b.term t)) := by
 have htr : ∀ C, mL 1 (.cells b.cells :: C) = some [.cells b.cells] := fun C => pW (h := [.cells b.cells]) (C := C) (pM (by simp [lX.cells]) oW)
 have hsp : ∀ h, kR.oM 1 h (.ptr 0 0) = .ptr 0 0 := fun h => z7 (by omega)
 have ld : ∀ C, kV false 1 (.cells b.cells :: C) (.ptr 0 0) = some (.slice (b.ops.map Op.cells) .no) := fun C => rfl
 intro d
 induction d with
 | zero =>
  intro i hd
  obtain rfl : b.ops.length = i := by omega
  rw [List.drop_length]
  refine ⟨.exit 0, 0, (b.ops.length : Int), oJ ?_, .inr ⟨rfl, rfl⟩⟩
  unfold zS
  simp -implicitDefEqProofs [-mD, ld, lC, htr, hsp]
 | succ d ih =>
  intro i hd
  have hil : i < b.ops.length := by omega
  have hil' : (i : Int) < (b.ops.length : Int) := by omega
  have hx : b.ops[i]? = some b.ops[i] := List.getElem?_eq_getElem hil
  have w1 : IntKind.i64.wrap ((i : Int) + 1) = ((i + 1 : Nat) : Int) := by rw [wrap64 (by omega) (by omega), Int.natCast_add]; rfl
  rw [List.drop_eq_getElem_cons hil]
  generalize b.ops[i] = o at *
  have g100 := acD o [.cells b.cells]
  have g101 := Xk o
  have hB : KB [lW.cells b.cells] [] := ⟨fun n _ => pM (by simp [lX.cells]) oW, fun n _ => oW⟩
  obtain ⟨j0, gi⟩ := Mw hB (u := mW o) (by have := GO o; omega) t (i : Int) (mW o).length 0 (by omega)
  have eq : [lW.cells b.cells] ++ [XI (mW o)] = OQ [lW.cells b.cells] (XI (mW o)) [] := rfl
  rw [eq] at g100
  have hl3 : [lW.cells b.cells].length = 1 := rfl
  rw [hl3] at g100
  rw [hl3] at gi
  simp only [List.drop_zero, Int.cast_ofNat_Int] at gi
  have eld : kV false 1 (OQ [lW.cells b.cells] (XI (mW o)) []) (.ptr 0 0) = some (.slice (b.ops.map Op.cells) .no) := rfl
  have etr : mL 1 (OQ [lW.cells b.cells] (XI (mW o)) []) = some [.cells b.cells] := htr _
  have elen : (OQ [lW.cells b.cells] (XI (mW o)) []).length = HN [lW.cells b.cells] [] := vK
  have ixo : kY 6 (.slice (b.ops.map Op.cells) .no) (.int .i64 (i : Int)) = some (.pptr o.cells) := by rw [lF, hx]; rfl
  simp only [qZ]
  generalize hH3 : OQ [lW.cells b.cells] (XI (mW o)) [] = H3 at *
  generalize VI 1 (mW o) = V3 at *
  clear hH3 eq hB
  simp only [Op.cells] at ixo g100 g101
  by_cases hu : t ∈ mW o
  ·rw [if_pos hu, if_pos hu] at gi
   rw [if_pos hu]
   refine ⟨.ret, 1, (i : Int), Ch ?_, .inl ⟨rfl, rfl⟩⟩
   unfold zS
   simp -implicitDefEqProofs [-mD, -vK, ld, hil', ixo, g100, elen, gi, lC, etr, hsp]
  ·rw [if_neg hu, if_neg hu] at gi
   rw [if_neg hu]
   by_cases hd1 : (mM o.kind).dst = true ∧ o.dst = t
   ·rw [if_pos hd1]
    obtain ⟨d1, d2⟩ := hd1
    rw [d1] at g101
    rw [d2] at g100 g101 ixo
    refine ⟨.ret, 2, (i : Int), Ch ?_, .inl ⟨rfl, rfl⟩⟩
    unfold zS
    simp -implicitDefEqProofs [-mD, -vK, ld, hil', ixo, g100, elen, gi, eld, g101, d2, lC, etr, hsp]
   ·rw [if_neg hd1]
    obtain ⟨e, r, j, g1, g2⟩ := ih (i + 1) (by omega)
    refine ⟨e, r, j, ?_, g2⟩
    rw [← g1]
    refine qT ?_
    generalize ((i + 1 : Nat) : Int) = i1 at *
    cases hf : (mM o.kind).dst
    ·rw [hf] at g101
     unfold zS
     simp -implicitDefEqProofs [-mD, -vK, ld, hil', ixo, g100, elen, gi, eld, g101, w1, lC, etr, hsp]
    ·have d2 : ¬ o.dst = t := fun e => hd1 ⟨hf, e⟩
     rw [hf] at g101
     unfold zS
     simp -implicitDefEqProofs [-mD, -vK, ld, hil', ixo, g100, elen, gi, eld, g101, d2, w1, lC, etr, hsp]
theorem ag5 {b : lX} (hb : b.ops.length ≤ 1048576) (t : Int) (h : kT) : KK 158 [.agg b.cells, .int .i64 0, .int .i64 t] h = some (.ret (.int .i64 (qZ b.ops b.term t)), h) := by
 refine lZ rfl rfl (mN (UA _ _ _ _ _) ?_)
 obtain ⟨e, r, j, g1, g2⟩ := OT hb t b.ops.length 0 (by omega)
 simp only [List.drop_zero, Int.cast_ofNat_Int, lX.cells] at g1 g2 ⊢
 rcases g2 with ⟨rfl, rfl⟩ | ⟨rfl, g2⟩
 ·simp [Rm, g1, lH]
 ·rw [g2]
  simp only [qZ]
  by_cases k2 : b.term.kind = 2
  ·by_cases ha : b.term.a = t
   ·rw [k2, ha] at g1
    simp [Rm, g1, k2, ha, lH]
   ·rw [k2] at g1
    simp [Rm, g1, k2, ha, lH]
  ·simp [Rm, g1, k2, lH]
theorem acH (t : Term) (h : kT) : KK 131 [.agg t.cells] h = some (.ret (.slice (ints (oY t)) .no), h) := by
 refine lZ rfl rfl (mN (Uu _ _ _) ?_)
 have f0 : ∀ (z : Int) (h : kT), lP 1 1 [.int .i64 0] [(0, .int .i64 z)] h = some (.slice [[.int .i64 z]] (.own h.length), h ++ [.front 1 1]) := fun z h => rfl
 have a1 : ∀ X Y z C t, nQ 1 8 (X :: Y :: .front 0 0 :: C) (.slice [] (.own 2)) (.slice [[.int .i64 z]] t) = some (.slice [[.int .i64 z]] (.own 2), X :: Y :: .front 1 1 :: C) := fun X Y z C t => by
  have := yH (h := [X, Y]) (C := C) (l := []) (z := z) (by simp) (t := t)
  simpa [FR, ints] using this
 have a2 : ∀ X Y y z C t, nQ 1 8 (X :: Y :: .front 1 1 :: C) (.slice [[.int .i64 y]] (.own 2)) (.slice [[.int .i64 z]] t) = some (.slice [[.int .i64 y], [.int .i64 z]] (.own 2), X :: Y :: .front 2 1 :: C) := fun X Y y z C t => by
  have := yH (h := [X, Y]) (C := C) (l := [y]) (z := z) (by simp) (t := t)
  simpa [FR, ints] using this
 unfold oY
 simp only [Term.cells]
 by_cases k1 : t.kind = 1
 ·by_cases hy : 0 ≤ t.yes
  ·simp [Rl, k1, hy, f0, a1, lH, ints]
  ·simp [Rl, k1, hy, f0, a1, lH, ints]
 by_cases k2 : t.kind = 2
 ·by_cases hy : 0 ≤ t.yes <;> by_cases hn : 0 ≤ t.no <;> simp [Rl, k1, k2, hy, hn, f0, a1, a2, lH, ints]
 ·simp [Rl, k1, k2, lH, ints]
end Go.Proofs.YtkeoalhglkfbkaaDoor


namespace Go.Proofs.YtkeoalhglkfbkaaDoor
open Go Hk Go.Proofs.Wd
def HW (p : IR) (seen : List Bool) (l r : List Int) : kT := [.cells p.cells, .cells (seen.map kR.bool), .vec (l ++ r).length 1 ((l ++ r).map mR)]
def WV (l r : List Int) : kR := .vslice 2 (l ++ r).length 0 l.length 1
theorem Ou {n : Nat} (l : List Bool) : xD n (l.map kR.bool) := Dn fun c hc => by
 obtain ⟨x, _, rfl⟩ := List.mem_map.1 hc
 exact ⟨fun m h _ => rfl, rfl⟩
theorem Rb {n : Nat} (l : List Int) : xD n (l.map mR) := Dn fun c hc => by
 obtain ⟨x, _, rfl⟩ := List.mem_map.1 hc
 exact ⟨fun m h _ => rfl, rfl⟩
theorem EL {n tot sz : Nat} {cs : List kR} {C : List lW} (h1 : xD n cs) (h : Aw n C) : Aw n (.vec tot sz cs :: C) := fun m x hm => by simp [h m x hm, h1 m x hm]
theorem Qd {p : IR} {seen : List Bool} {l r : List Int} {n : Nat} : Aw n (HW p seen l r) := pM B2 (pM (Ou _) (EL (Rb _) oW))
theorem WJ {l r : List Int} : lN (WV l r) = some (.int .i64 (l.length : Int)) := rfl
theorem Fb {l r : List Int} {h : kT} : kR.oM 3 h (WV l r) = WV l r := rfl
theorem HO (l : List Int) : (ints l).flatten = l.map mR := by
 induction l with
 | nil => rfl
 | cons x r ih => simp only [ints, List.map_cons, List.flatten_cons, mR, List.cons_append, List.nil_append]; rw [← ih]; rfl
theorem Hw {p : IR} {seen : List Bool} {l r new : List Int} {C : kT} (hl : (l ++ r).length ≤ 4000000) (hn : new.length ≤ 4000000) {t : Hk.Tok} :
  ∃ r', (l ++ new ++ r').length ≤ max (l ++ r).length (l ++ new).length ∧ mY 1 8 (HW p seen l r ++ C) (WV l r) (.slice (ints new) t) = some (WV (l ++ new) r', HW p seen (l ++ new) r' ++ C) := by
 have hr : ∀ H : kT, wS 1 H (.slice (ints new) t) = some (ints new) := fun H => by simp [ints]
 have hil : (ints new).length = new.length := by simp [ints]
 have gv : nA (HW p seen l r ++ C) 2 (l ++ r).length = some (1, (l ++ r).map mR) := by simp [HW]
 simp only [List.length_append] at hl
 by_cases h0 : new.length = 0
 ·obtain rfl := List.eq_nil_of_length_eq_zero h0
  refine ⟨r, by simp, ?_⟩
  unfold mY WV
  simp only [hr, gv, hil]
  rw [if_pos ⟨trivial, trivial, by omega, by omega⟩, if_pos h0]
  simp
 ·by_cases h1 : l.length + new.length ≤ (l ++ r).length
  ·refine ⟨r.drop new.length, ?_, ?_⟩
   ·simp only [List.length_append, List.length_drop] at h1 ⊢; omega
   ·have hpc : putCells ((l ++ r).map mR) (l.length * 1) (ints new).flatten = (l ++ new ++ r.drop new.length).map mR := by
     rw [HO]
     unfold putCells
     simp only [List.map_append, Nat.mul_one, List.length_map]
     have e1 : (l.map mR ++ r.map mR).take l.length = l.map mR := by
      have := List.take_left (l₁ := l.map mR) (l₂ := r.map mR)
      rwa [List.length_map] at this
     have e2 : (l.map mR ++ r.map mR).drop (l.length + new.length) = (r.drop new.length).map mR := by
      have := List.drop_left (l₁ := l.map mR) (l₂ := r.map mR)
      rw [List.length_map] at this
      rw [← List.drop_drop, this, List.map_drop]
     rw [e1, e2]
    have htot : (l ++ new ++ r.drop new.length).length = (l ++ r).length := by
     simp only [List.length_append, List.length_drop] at h1 ⊢; omega
    have hln : (l ++ new).length = l.length + new.length := by simp
    unfold mY WV
    simp only [hr, gv, hil]
    rw [if_pos ⟨trivial, trivial, by omega, by omega⟩, if_neg h0, if_pos h1, hpc, htot, hln]
    simp [HW, htot]
    simp only [List.length_append, List.length_drop] at h1 ⊢
    omega
  ·refine ⟨[], by simp; omega, ?_⟩
   have hln : (l ++ new).length = l.length + new.length := by simp
   have hpc : ((l ++ r).map mR).take (l.length * 1) ++ (ints new).flatten = (l ++ new).map mR := by
    rw [HO, Nat.mul_one]
    simp only [List.map_append]
    have := List.take_left (l₁ := l.map mR) (l₂ := r.map mR)
    rw [List.length_map] at this
    rw [this]
   unfold mY WV
   simp only [hr, gv, hil]
   rw [if_pos ⟨trivial, trivial, by omega, by omega⟩, if_neg h0, if_neg h1, hpc]
   simp [HW]
def cf (l : List Bool) : Nat := (l.filter fun b => !b).length
theorem QM : ∀ {l : List Bool} {k : Nat}, l[k]? = some false → cf (l.set k true) + 1 = cf l
 | [], k, h => by simp at h
 | x :: r, 0, h => by simp at h; subst h; simp [cf]
 | x :: r, k + 1, h => by
  have ih := QM (l := r) (k := k) (by simpa using h)
  cases x <;> simp [cf] at ih ⊢ <;> omega
theorem acZ (l : List Bool) : cf l ≤ l.length := List.length_filter_le _ _
section
variable {p : IR} (hp : wK p) (hl : ∀ b ∈ p.blocks, pT b.term = oY b.term) (t : Int) {src : List Int} (hsrc : ∀ f ∈ src, 0 ≤ f)
include hp hl hsrc
theorem OS : ∀ (n : Nat) (seen : List Bool) (l r : List Int), 3 * cf seen + l.length < n → n ≤ 4000000 → (l ++ r).length ≤ 4000000 → tP p.blocks t src seen l →
  ∃ (e : Ex) (rb : Bool) (seen' : List Bool) (l' r' : List Int), mJ (zR KK 3) ([.int .i64 t, .ptr 0 0, .bool false, .mslice 1 0 p.blocks.length 1, WV l r], HW p seen l r) =
   some (e, [.int .i64 t, .ptr 0 0, .bool rb, .mslice 1 0 p.blocks.length 1, WV l' r'], HW p seen' l' r') ∧
   ((e = .ret ∧ rb = true ∧ ∃ f ∈ src, Reach p.blocks t f.toNat) ∨ (e = .exit 0 ∧ ¬ ∃ f ∈ src, Reach p.blocks t f.toNat)) := by
 have htr : ∀ seen l r C, mL 3 (HW p seen l r ++ C) = some (HW p seen l r) := fun seen l r C => pW (h := HW p seen l r) (C := C) Qd
 have htr0 : ∀ seen l r, mL 3 (HW p seen l r) = some (HW p seen l r) := fun seen l r => pI (h := HW p seen l r) Qd
 have hsp : ∀ h, kR.oM 3 h (.ptr 0 0) = .ptr 0 0 := fun h => z7 (by omega)
 have hsm : ∀ h, kR.oM 3 h (.mslice 1 0 p.blocks.length 1) = .mslice 1 0 p.blocks.length 1 := fun h => rfl
 have ldA : ∀ seen l r, kV false 1 (HW p seen l r) (.ptr 0 2) = some (.slice (p.blocks.map lX.cells) .no) := fun _ _ _ => rfl
 have hln : ∀ b ∈ p.blocks, ∀ j ∈ oY b.term, 0 ≤ j := fun b hb j hj => by rw [← hl b hb] at hj; exact (hp.lead b hb j hj).1
 intro n
 induction n with
 | zero => intro seen l r h; omega
 | succ n ih =>
  intro seen l r hn hn4 hlr hI
  rcases List.eq_nil_or_concat l with rfl | ⟨l0, k, rfl⟩
  ·refine ⟨.exit 0, false, seen, [], r, oJ ?_, .inr ⟨rfl, hI.done⟩⟩
   have hw0 : lN (WV [] r) = some (.int .i64 0) := rfl
   unfold zR
   simp -implicitDefEqProofs [-mD, hw0, lC, htr0, hsp, hsm, Fb]
  ·simp only [List.concat_eq_append] at hn hlr hI ⊢
   have I3 : (l0 ++ [k]) ++ r = l0 ++ (k :: r) := by simp
   have hH : ∀ s, HW p s (l0 ++ [k]) r = HW p s l0 (k :: r) := fun s => by unfold HW; rw [I3]
   have hk := hI.lt k (by simp)
   obtain ⟨q, hq⟩ := Int.eq_ofNat_of_zero_le hk.1
   have hqn : q < p.blocks.length := by have := hk.2; rw [hq] at this; simpa using this
   have hsl : q < seen.length := by rw [hI.len]; exact hqn
   have hb : p.blocks[q]? = some p.blocks[q] := List.getElem?_eq_getElem hqn
   have hbm := List.getElem_mem hqn
   have hx : seen[q]? = some seen[q] := List.getElem?_eq_getElem hsl
   have hlen : lN (WV (l0 ++ [k]) r) = some (.int .i64 ((l0.length + 1 : Nat) : Int)) := by simp [WJ]
   have hgt : (0 : Int) < ((l0.length + 1 : Nat) : Int) := by omega
   have hl0 : l0.length ≤ 4000000 := by simp only [List.length_append] at hlr; omega
   have w0 : IntKind.i64.wrap (((l0.length + 1 : Nat) : Int) - 1) = (l0.length : Int) := by rw [wrap64] <;> omega
   have ix : kY 1 (WV (l0 ++ [k]) r) (.int .i64 (l0.length : Int)) = some (.vptr 2 (l0 ++ (k :: r)).length l0.length) := by
    unfold WV; rw [I3, ED, if_pos ⟨by simp, rfl⟩]; simp
   have ldk : kV false 1 (HW p seen l0 (k :: r)) (.vptr 2 (l0 ++ (k :: r)).length l0.length) = some (.int .i64 (q : Int)) := by
    rw [lL]
    have : nA (HW p seen l0 (k :: r)) 2 (l0 ++ (k :: r)).length = some (1, (l0 ++ (k :: r)).map mR) := by simp [HW]
    rw [this]
    simp [mR, hq]
   have sl : nK 1 (WV (l0 ++ [k]) r) none (some (.int .i64 (l0.length : Int))) = some (WV l0 (k :: r)) := by
    have a2 : oX (some (.int .i64 (l0.length : Int))) (l0 ++ [k]).length = some l0.length := by simp [oX]
    unfold WV
    simp only [nK, Ay, a2, I3]
    rw [if_pos ⟨by omega, by simp, trivial⟩]
    simp
   have ixs : kY 1 (.mslice 1 0 p.blocks.length 1) (.int .i64 (q : Int)) = some (.ptr 1 q) := by rw [qJ, if_pos ⟨hqn, rfl⟩]; simp
   have lds : kV false 1 (HW p seen l0 (k :: r)) (.ptr 1 q) = some (.bool seen[q]) := by
    rw [mD]
    have : nJ (HW p seen l0 (k :: r)) 1 = some (seen.map kR.bool) := rfl
    rw [this, Option.bind_some, List.getElem?_map, hx]; rfl
   obtain ⟨pa, ix, ldk⟩ : ∃ pa, kY 1 (WV (l0 ++ [k]) r) (.int .i64 (l0.length : Int)) = some pa ∧ kV false 1 (HW p seen l0 (k :: r)) pa = some (.int .i64 (q : Int)) := ⟨_, ix, ldk⟩
   rw [hH]
   by_cases hsn : seen[q] = true
   ·rw [hsn] at lds hx
    have hI2 := hI.skip (by rw [hq]; simpa using hx) hsrc hln
    obtain ⟨e, rb, s', l', r', g1, g2⟩ := ih seen l0 (k :: r) (by simp only [List.length_append, List.length_singleton] at hn; omega) (by omega) (by rw [← I3]; exact hlr) hI2
    refine ⟨e, rb, s', l', r', ?_, g2⟩
    rw [← g1]
    refine qT ?_
    have htr1 := htr0 seen l0 (k :: r)
    generalize ((l0.length + 1 : Nat) : Int) = z1 at *
    generalize HW p seen l0 (k :: r) = Hh at *
    unfold zR
    simp -implicitDefEqProofs [-mD, -lL, hlen, hgt, w0, ix, ldk, sl, ixs, lds, lC, htr1, hsp, hsm, Fb]
   ·have hsf : seen[q] = false := by cases h : seen[q] <;> simp_all
    rw [hsf] at lds hx
    have hcf := QM hx
    have st : lU 1 (HW p seen l0 (k :: r)) (.ptr 1 q) (.bool true) = some (HW p (seen.set q true) l0 (k :: r)) := by
     rw [oQ]
     have : nJ (HW p seen l0 (k :: r)) 1 = some (seen.map kR.bool) := rfl
     have hq' : q < (seen.map kR.bool).length := by simpa using hsl
     rw [this, Option.bind_some, if_pos ⟨rfl, by simp; omega, rfl⟩, L3, List.drop_eq_getElem_cons hq', v8, zO, Mm]
     have : putCells (seen.map kR.bool) q [.bool true] = (seen.set q true).map kR.bool := by
      unfold putCells
      rw [List.map_set, List.set_eq_take_append_cons_drop, if_pos hq']
      simp
     rw [this]; rfl
    have bx : kY 5 (.slice (p.blocks.map lX.cells) .no) (.int .i64 (q : Int)) = some (.pptr (lX.cells p.blocks[q])) := by rw [lF, hb]; rfl
    have g158 := ag5 (b := p.blocks[q]) (hp.len _ hbm) t
    have g131 := acH (p.blocks[q]).term
    have hfc := KG (p.blocks[q]).ops (p.blocks[q]).term t
    have hlt : ∀ j ∈ oY (p.blocks[q]).term, 0 ≤ j ∧ j.toNat < p.blocks.length := fun j hj => by rw [← hl _ hbm] at hj; exact hp.lead _ hbm j hj
    have hbk : p.blocks[k.toNat]? = some p.blocks[q] := by rw [hq]; simpa using hb
    have hll : (oY (p.blocks[q]).term).length ≤ 2 := by
     unfold oY
     split
     ·exact Nat.le_trans (List.length_filter_le _ _) (by simp)
     ·split
      ·exact Nat.le_trans (List.length_filter_le _ _) (by simp)
      ·simp
    have hkq : k.toNat = q := by rw [hq]; simp
    have ldA1 := ldA (seen.set q true) l0 (k :: r)
    have htr1 := htr0 (seen.set q true) l0 (k :: r)
    simp only [List.length_append, List.length_singleton] at hn
    rcases hfc with hf | hf | hf
    ·-- neither read nor made: on
     have hI2 := hI.push hbk (by rw [hf]; decide) rfl hlt
     rw [hf, if_pos rfl, hkq] at hI2
     obtain ⟨r', hr1, hr2⟩ := Hw (p := p) (seen := seen.set q true) (l := l0) (r := k :: r) (new := oY (p.blocks[q]).term) (C := []) (by rw [← I3]; exact hlr) (by omega) (t := .no)
     rw [List.append_nil, List.append_nil] at hr2
     obtain ⟨e, rb, s', l', r'', g1, g2⟩ := ih (seen.set q true) (l0 ++ oY (p.blocks[q]).term) r' (by simp only [List.length_append]; omega) (by omega) (by
      rw [← I3] at hr1
      have : (l0 ++ oY (p.blocks[q]).term).length ≤ 4000000 := by simp only [List.length_append]; omega
      omega) hI2
     refine ⟨e, rb, s', l', r'', ?_, g2⟩
     rw [← g1]
     refine qT ?_
     have htr2 := htr0 (seen.set q true) (l0 ++ oY (p.blocks[q]).term) r'
     rw [hf] at g158
     simp only [lX.cells, Term.cells] at bx g158 g131
     generalize oY (p.blocks[q]).term = ld at *
     generalize ((l0.length + 1 : Nat) : Int) = z1 at *
     generalize HW p (seen.set q true) (l0 ++ ld) r' = H3 at *
     generalize HW p (seen.set q true) l0 (k :: r) = H2 at *
     generalize HW p seen l0 (k :: r) = H1 at *
     unfold zR
     simp -implicitDefEqProofs [-mD, -lL, -oQ, hlen, hgt, w0, ix, ldk, sl, ixs, lds, st, ldA1, bx, g158, g131, hr2, lC, htr2, hsp, hsm, Fb]
    ·-- read
     refine ⟨.ret, true, seen.set q true, l0, k :: r, Ch ?_, .inl ⟨rfl, rfl, hI.Am hbk hf⟩⟩
     rw [hf] at g158
     simp only [lX.cells, Term.cells] at bx g158 g131
     generalize ((l0.length + 1 : Nat) : Int) = z1 at *
     generalize HW p (seen.set q true) l0 (k :: r) = H2 at *
     generalize HW p seen l0 (k :: r) = H1 at *
     unfold zR
     simp -implicitDefEqProofs [-mD, -lL, -oQ, hlen, hgt, w0, ix, ldk, sl, ixs, lds, st, ldA1, bx, g158, lC, htr1, hsp, hsm, Fb]
    ·-- made
     have hI2 := hI.push hbk (by rw [hf]; decide) rfl hlt
     rw [hf, if_neg (by decide), hkq, List.append_nil] at hI2
     obtain ⟨e, rb, s', l', r'', g1, g2⟩ := ih (seen.set q true) l0 (k :: r) (by omega) (by omega) (by rw [← I3]; exact hlr) hI2
     refine ⟨e, rb, s', l', r'', ?_, g2⟩
     rw [← g1]
     refine qT ?_
     rw [hf] at g158
     simp only [lX.cells, Term.cells] at bx g158 g131
     generalize ((l0.length + 1 : Nat) : Int) = z1 at *
     generalize HW p (seen.set q true) l0 (k :: r) = H2 at *
     generalize HW p seen l0 (k :: r) = H1 at *
     unfold zR
     simp -implicitDefEqProofs [-mD, -lL, -oQ, hlen, hgt, w0, ix, ldk, sl, ixs, lds, st, ldA1, bx, g158, lC, htr1, hsp, hsm, Fb]
omit hsrc
open Classical in
theorem acG (hsrc : ∀ f ∈ src, 0 ≤ f ∧ f.toNat < p.blocks.length) (hsl : src.length ≤ 10) (h : kT) : KK 130 [.agg p.cells, .slice (ints src) .no, .int .i64 t] h = some (.ret (.bool (decide (∃ f ∈ src, Reach p.blocks t f.toNat))), h) := by
 refine lZ rfl rfl (mN (Ut _ _ _ _ _) ?_)
 have hnb := hp.nb
 have hcf := acZ (List.replicate p.blocks.length false)
 rw [List.length_replicate] at hcf
 have h0 : HW p (List.replicate p.blocks.length false) [] [] = [.cells p.cells, .cells (List.replicate p.blocks.length (.bool false)), .vec 0 1 []] := by simp [HW]
 obtain ⟨r', hr1, hr2⟩ := Hw (p := p) (seen := List.replicate p.blocks.length false) (l := []) (r := []) (new := src) (C := []) (by simp) (by omega) (t := .no)
 rw [List.append_nil, List.append_nil, h0] at hr2
 simp only [List.nil_append] at hr2 hr1
 obtain ⟨e, rb, s', l', r'', g1, g2⟩ := OS hp hl t (fun f hf => (hsrc f hf).1) 3200000 (List.replicate p.blocks.length false) src r' (by omega) (by omega) (by
  have : max ([] : List Int).length src.length ≤ 10 := by simp; omega
  simp only [List.length_nil] at hr1 this
  omega) (tP.start hsrc)
 have mk : ∀ (h : kT), pD 1 1 [.bool false] (.int .i64 (p.blocks.length : Int)) h = some (.mslice h.length 0 p.blocks.length 1, h ++ [.cells (List.replicate p.blocks.length (.bool false))]) := fun h => by
  simp only [pD]
  rw [if_pos ⟨by omega, by simp; omega, by omega⟩]
  simp
 have b0 : ∀ h : kT, pY 0 1 [.int .i64 0] [] h = some (.vslice h.length 0 0 0 1, h ++ [.vec 0 1 []]) := fun h => rfl
 have w0 : WV [] [] = .vslice 2 0 0 0 1 := rfl
 have l3 : (HW p (List.replicate p.blocks.length false) src r').length = 3 := rfl
 rw [w0] at hr2
 generalize HW p (List.replicate p.blocks.length false) src r' = H1 at *
 generalize HW p s' l' r'' = H2 at *
 generalize List.replicate p.blocks.length (kR.bool false) = c0 at *
 rcases g2 with ⟨rfl, rfl, g2⟩ | ⟨rfl, g2⟩
 ·rw [decide_eq_true g2]
  simp only [IR.cells] at hr2 ⊢
  simp -implicitDefEqProofs [XX, mk, b0, hr2, l3, g1, lH]
 ·rw [decide_eq_false g2]
  simp only [IR.cells] at hr2 ⊢
  simp -implicitDefEqProofs [XX, mk, b0, hr2, l3, g1, lH]
end
end Go.Proofs.YtkeoalhglkfbkaaDoor


namespace Go.Proofs.YtkeoalhglkfbkaaDoor
open Go Hk Go.Proofs.Wd
section
variable {p : IR} (hp : wK p) (hl : ∀ b ∈ p.blocks, pT b.term = oY b.term)
include hp hl
open Classical in
theorem c65 {k : Nat} (hk : k < p.blocks.length) (t : Int) (h : kT) : KK 65 [.agg p.cells, .int .i64 (k : Int), .int .i64 t] h = some (.ret (.bool (decide (Reach p.blocks t k))), h) := by
 refine lZ rfl rfl (mN (Yr _ _ _ _ _) ?_)
 have g := acG hp hl t (src := [(k : Int)]) (fun f hf => by simp at hf; subst hf; exact ⟨by omega, by simpa using hk⟩) (by simp)
 have f0 : ∀ (z : Int) (h : kT), lP 1 1 [.int .i64 0] [(0, .int .i64 z)] h = some (.slice (ints [z]) (.own h.length), h ++ [.front 1 1]) := fun z h => rfl
 have e : decide (∃ f ∈ [(k : Int)], Reach p.blocks t f.toNat) = decide (Reach p.blocks t k) := by
  congr 1; simp
 rw [e] at g
 simp only [IR.cells] at g ⊢
 simp [m65, f0, g, lH]
open Classical in
theorem c66 {k : Nat} {b : lX} (hb : p.blocks[k]? = some b) (t : Int) (h : kT) : KK 66 [.agg p.cells, .int .i64 (k : Int), .int .i64 t] h = some (.ret (.bool (decide (pS p.blocks t b.term))), h) := by
 refine lZ rfl rfl (mN (Ys _ _ _ _ _) ?_)
 have hbm := List.mem_of_getElem? hb
 have g := acG hp hl t (src := oY b.term) (fun f hf => by rw [← hl b hbm] at hf; exact hp.lead b hbm f hf) (by rw [← hl b hbm]; exact Ce _)
 have g131 := acH b.term
 have bx : kY 5 (.slice (p.blocks.map lX.cells) .no) (.int .i64 (k : Int)) = some (.pptr b.cells) := by rw [lF, hb]; rfl
 have e : decide (∃ f ∈ oY b.term, Reach p.blocks t f.toNat) = decide (pS p.blocks t b.term) := decide_eq_decide.2 Iff.rfl
 rw [e] at g
 simp only [IR.cells, lX.cells, Term.cells] at g g131 bx ⊢
 generalize oY b.term = ld at *
 simp -implicitDefEqProofs [m66, bx, g131, g, lH]
end
end Go.Proofs.YtkeoalhglkfbkaaDoor


namespace Go.Proofs.YtkeoalhglkfbkaaDoor
open Go Hk Go.Proofs.Wd
def em (L : List Int) : List (kR × kR) := L.map fun t => (.int .i64 t, .int .i64 1)
end Go.Proofs.YtkeoalhglkfbkaaDoor


namespace Go.Proofs.YtkeoalhglkfbkaaDoor
open Go Hk Go.Proofs.Wd
section
variable {b : lX} {L : List Int} {E : kT}
end
end Go.Proofs.YtkeoalhglkfbkaaDoor


namespace Go.Proofs.YtkeoalhglkfbkaaDoor
open Go Hk Go.Proofs.Wd
end Go.Proofs.YtkeoalhglkfbkaaDoor


namespace Go.Proofs.YtkeoalhglkfbkaaDoor
open Go Hk Go.Proofs.Wd
theorem yE {n : Nat} {f : Nat → Bool} : (zs ((List.range n).filter f)).length ≤ n := by
 rw [D6]
 exact Nat.le_trans (List.length_filter_le _ _) (by simp)
theorem DE (p : IR) : (∀ z ∈ qF p, z.length ≤ 2000000) ∧ (qF p).length ≤ 2000000 := by
 unfold qF
 split
 ·rename_i h
  have lp := (tY h).1
  have h1 := lp.temps
  have h2 := lp.nb
  refine ⟨fun z hz => ?_, by simp; omega⟩
  obtain ⟨k, _, rfl⟩ := List.mem_map.1 hz
  exact Nat.le_trans yE (by omega)
 ·simp
theorem DF (p : IR) : (∀ z ∈ qG p, z.length ≤ 2000000) ∧ (qG p).length ≤ 2000000 := by
 unfold qG
 split
 ·rename_i h
  have lp := (tY h).1
  have h1 := lp.temps
  have h2 := lp.nb
  refine ⟨fun z hz => ?_, by simp; omega⟩
  obtain ⟨k, _, rfl⟩ := List.mem_map.1 hz
  exact Nat.le_trans yE (by omega)
 ·simp
end Go.Proofs.YtkeoalhglkfbkaaDoor


namespace Go.Proofs.YtkeoalhglkfbkaaDoor
open Go Hk Go.Proofs.Wd
theorem SN {n : Nat} {P : Nat → Prop} [DecidablePred P] {t : Int} : t ∈ zs ((List.range n).filter fun t => decide (P t)) ↔ 0 ≤ t ∧ t.toNat < n ∧ P t.toNat := by
 unfold zs
 simp only [List.mem_map, List.mem_filter, List.mem_range, decide_eq_true_eq]
 constructor
 ·rintro ⟨a, ⟨h1, h2⟩, rfl⟩
  exact ⟨by omega, by simpa using h1, by simpa using h2⟩
 ·rintro ⟨h1, h2, h3⟩
  exact ⟨t.toNat, ⟨h2, h3⟩, by omega⟩
theorem zP {p : IR} {k : Nat} {t : Int} : t ∈ sK p k ↔ 0 ≤ t ∧ t < p.temps ∧ Reach p.blocks t k := by
 classical
 unfold sK
 rw [SN]
 constructor
 ·rintro ⟨h1, h2, h3⟩
  rw [show ((t.toNat : Nat) : Int) = t by omega] at h3
  exact ⟨h1, by omega, h3⟩
 ·rintro ⟨h1, h2, h3⟩
  rw [show ((t.toNat : Nat) : Int) = t by omega]
  exact ⟨h1, by omega, h3⟩
theorem r_ {p : IR} {k : Nat} {b : lX} (hb : p.blocks[k]? = some b) {t : Int} : t ∈ pJ p k ↔ 0 ≤ t ∧ t < p.temps ∧ pS p.blocks t b.term := by
 classical
 unfold pJ
 rw [SN]
 constructor
 ·rintro ⟨h1, h2, b', h3, h4⟩
  rw [hb] at h3; cases h3
  rw [show ((t.toNat : Nat) : Int) = t by omega] at h4
  exact ⟨h1, by omega, h4⟩
 ·rintro ⟨h1, h2, h3⟩
  refine ⟨h1, by omega, b, hb, ?_⟩
  rw [show ((t.toNat : Nat) : Int) = t by omega]
  exact h3
end Go.Proofs.YtkeoalhglkfbkaaDoor


namespace Go.Proofs.YtkeoalhglkfbkaaDoor
open Go Hk
theorem CH : L_ Tryd.prog nC (p_ 40) 16 44 [] [] = some (.ret (.bool true), []) := by kernel_rfl
theorem c44 (h : kT) : KK 44 [] h = some (.ret (.bool true), h) := lZ rfl rfl (NT 40 16 44 [] [] _ CH)
end Go.Proofs.YtkeoalhglkfbkaaDoor


namespace Go.Proofs.YtkeoalhglkfbkaaDoor
open Go Hk
noncomputable def Gc (K : k9) (m : Nat) (s : List kR × kT) : Option R :=
 (fun aC aD aE aF aG aA aH aB aI => (kU 0 aA).bind fun aM => (kV false 1 aI aM).bind fun aN => (lN aN).bind fun aO => (kZ .lss aB aO).bind fun aP => lG aP ((kU 0 aA).bind fun aQ => (kV false 1 aI aQ).bind fun aR => (kY 6 aR aB).bind fun aS => (kV true 6 aI aS).bind fun aT => k_ (K 159 [(kR.k8 aT), (kR.k8 aC)] aI) (fun aU aJ => lE (lP 1 1 [(.bool false)] [(0, aU)] aJ) fun aV aK => lE (mY 1 1 aK aF aV) fun aW aL => (kZ .add aB (.int .i64 1)).bind fun aX => lC m .normal [aC, aD, aE, aW, aG, aA, aH, aX] aL) (fun _ _ => none)) (lC m (.exit 2) [aC, aD, aE, aF, aG, aA, aH, aB] aI)) (List.getD s.1 0 .junk) (List.getD s.1 1 .junk) (List.getD s.1 2 .junk) (List.getD s.1 3 .junk) (List.getD s.1 4 .junk) (List.getD s.1 5 .junk) (List.getD s.1 6 .junk) (List.getD s.1 7 .junk) s.2
noncomputable def w8 (K : k9) (m : Nat) (s : List kR × kT) : Option R :=
 (fun aZ aM a6 aU aE aP => (kU 2 aM).bind fun bX => (kV false 1 aP bX).bind fun bY => (lN bY).bind fun t14 => (kZ .lss aE t14).bind fun bZ => lG bZ (((kU 2 aM).bind fun b6 => (kV false 1 aP b6).bind fun b7 => (kY 5 b7 aE).bind fun b_ => (kV true 5 aP b_).bind fun cA => lE (nG 5 aP (.agg [(.slice [] .nil), (.int .i64 0), (.int .i64 0), (.int .i64 0), (.int .i64 0)])) fun bO bS => (lU 5 bS bO cA).bind fun bG => (lN aU).bind fun cB => (mJ (Gc K (List.length bG)) ([aZ, aM, a6, aU, aE, bO, cB, (.int .i64 0)], bG)).bind fun aL => (fun aA aB aI aN aC aO a7 bP a8 => Ex.lY aL.1 none (fun bQ => Ex.inBlock 2 bQ ((kU 1 aO).bind fun cC => (kU 0 cC).bind fun cD => (kV false 1 a8 cD).bind fun cE => (kZ .eql cE (.int .i64 2)).bind fun aW => (kS true aW ((kU 1 aO).bind fun t64 => kW t64 a8) (kW (.tuple []) a8)).bind (kX (fun cF bH => (kS true aW ((kU 1 cF).bind fun cG => kW cG bH) (kW (.tuple []) bH)).bind (kX (fun cH bC => (kS true aW ((kV false 1 bC cH).bind fun cI => kW cI bC) (kW (.tuple []) bC)).bind (kX (fun cJ bI => (kS true aW (kW aA bI) (kW (.tuple []) bI)).bind (kX (fun t73 bJ => (kS true aW ((kZ .eql cJ t73).bind fun cK => kW cK bJ) (kW (.tuple []) bJ)).bind (kX (fun cL bD => (lV aW cL (.bool false)).bind fun aY => (kS false aY ((kV true 5 bD aB).bind fun cM => kW cM bD) (kW (.tuple []) bD)).bind (kX (fun cN bK => (kS false aY (kW aC bK) (kW (.tuple []) bK)).bind (kX (fun cO bL => (kS false aY (kW aA bL) (kW (.tuple []) bL)).bind (kX (fun cP bM => (kS false aY (k_ (K 66 [(kR.k8 cN), (kR.k8 cO), (kR.k8 cP)] bM) (fun cQ bT => kW cQ bT) yG) (kW (.tuple []) bM)).bind (kX (fun cR bU => (lV aY (.bool true) cR).bind fun cS => lE (lP 1 1 [(.bool false)] [(0, cS)] bU) fun cT bV => lE (mY 1 1 bV aN cT) fun bF bN => (kV true 5 bN aB).bind fun t95 => k_ (K 65 [(kR.k8 t95), (kR.k8 aC), (kR.k8 aA)] bN) (fun t96 a_ => (lG t96 ((kY 1 bF a7).bind fun t98 => (lU 1 a_ t98 (.bool true)).bind fun bW => lC (List.length a_) .normal [aA, aB, aI, bF, aC] bW) (lC (List.length a_) .normal [aA, aB, aI, bF, aC] a_)).bind fun Hg => (fun aQ aR aS aT aV bB => Ex.sO Hg.1 (lC (List.length aP) .normal [aQ, aR, aS, aT, aV] bB)) (List.getD Hg.2.1 0 .junk) (List.getD Hg.2.1 1 .junk) (List.getD Hg.2.1 2 .junk) (List.getD Hg.2.1 3 .junk) (List.getD Hg.2.1 4 .junk) Hg.2.2) (fun _ _ => none)) (fun _ _ => none))) (fun _ _ => none))) (fun _ _ => none))) (fun _ _ => none))) (fun _ _ => none))) (fun _ _ => none))) (fun _ _ => none))) (fun _ _ => none))) (fun _ _ => none))) (fun bR => lC (List.length aP) bR [aA, aB, aI, aN, aC] a8))) (List.getD aL.2.1 0 .junk) (List.getD aL.2.1 1 .junk) (List.getD aL.2.1 2 .junk) (List.getD aL.2.1 3 .junk) (List.getD aL.2.1 4 .junk) (List.getD aL.2.1 5 .junk) (List.getD aL.2.1 6 .junk) (List.getD aL.2.1 7 .junk) aL.2.2).bind fun aD => (fun aF aG aH aJ aK aX => Ex.inBlock 1 aD.1 ((kZ .add aK (.int .i64 1)).bind fun bE => lC m .normal [aF, aG, aH, aJ, bE] aX) (fun bA => lC m bA [aF, aG, aH, aJ, aK] aX)) (List.getD aD.2.1 0 .junk) (List.getD aD.2.1 1 .junk) (List.getD aD.2.1 2 .junk) (List.getD aD.2.1 3 .junk) (List.getD aD.2.1 4 .junk) aD.2.2) (lC m (.exit 0) [aZ, aM, a6, aU, aE] aP)) (List.getD s.1 0 .junk) (List.getD s.1 1 .junk) (List.getD s.1 2 .junk) (List.getD s.1 3 .junk) (List.getD s.1 4 .junk) s.2
noncomputable def m84 (K : k9) (a0 a1 : kR) (h0 : kT) : Option (n_ × kT) :=
 (lE (nG 5 h0 a0) fun t0 h1 => (fun (t3 : kR) (h2 : kT) => (fun (t5 : kR) (h4 : kT) => (mJ (w8 K (List.length h4)) ([a1, t0, t3, t5, (.int .i64 0)], h4)).bind fun aA => (fun aJ aK aC aE aL aF => Ex.lY aA.1 none (fun aG => Ex.inBlock 0 aG (some (.ret, [aE], aF)) (fun aH => some (aH, [aC], aF)))) (List.getD aA.2.1 0 .junk) (List.getD aA.2.1 1 .junk) (List.getD aA.2.1 2 .junk) (List.getD aA.2.1 3 .junk) (List.getD aA.2.1 4 .junk) aA.2.2) (.slice [] (.own (List.length h2))) (h2 ++ [.front 0 0])) (.slice [] (.own (List.length h1))) (h1 ++ [.front 0 0])).bind fun aB => (fun aD aI => Ex.nV aB.1 (nE (List.length h0) aD aI)) (List.getD aB.2.1 0 .junk) aB.2.2
theorem YB (K : k9) (a0 a1 : kR) (h0 : kT) : qQ Tryd.prog nC mJ K 84 [a0, a1] h0 = m84 (mI nC K) a0 a1 h0 := by kernel_rfl
noncomputable def Bs (K : k9) (m : Nat) (s : List kR × kT) : Option R :=
 (fun aC aD aE aA aB aF => (lN aA).bind fun aG => (kZ .lss aB aG).bind fun aH => lG aH ((kY 1 aA aB).bind fun aI => (kV false 1 aF aI).bind fun t14 => (kZ .eql t14 aC).bind fun aJ => lG aJ (lC m .ret [aC, aD, (.bool true), aA, aB] aF) ((kZ .add aB (.int .i64 1)).bind fun aK => lC m .normal [aC, aD, aE, aA, aK] aF)) (lC m (.exit 0) [aC, aD, aE, aA, aB] aF)) (List.getD s.1 0 .junk) (List.getD s.1 1 .junk) (List.getD s.1 2 .junk) (List.getD s.1 3 .junk) (List.getD s.1 4 .junk) s.2
noncomputable def Rn (K : k9) (a0 a1 : kR) (h0 : kT) : Option (n_ × kT) :=
 (lE (nG 6 h0 a0) fun t0 h1 => (kV true 6 h1 t0).bind fun t2 => k_ (K 100 [(kR.k8 t2)] h1) (fun t3 h4 => (mJ (Bs K (List.length h4)) ([a1, t0, (.bool false), t3, (.int .i64 0)], h4)).bind fun aB => (fun aC aA aD aL aM aF => Ex.lY aB.1 none (fun aN => Ex.inBlock 0 aN ((kV true 6 aF aA).bind fun aR => k_ (K 101 [(kR.k8 aR)] aF) (fun t27 aI => (kS true t27 ((kU 1 aA).bind fun aS => kW aS aI) (kW (.tuple []) aI)).bind (kX (fun t30 aG => (kS true t27 ((kV false 1 aG t30).bind fun aT => kW aT aG) (kW (.tuple []) aG)).bind (kX (fun aU aJ => (kS true t27 (kW aC aJ) (kW (.tuple []) aJ)).bind (kX (fun aV aK => (kS true t27 ((kZ .eql aU aV).bind fun aW => kW aW aK) (kW (.tuple []) aK)).bind (kX (fun aX aP => (lV t27 aX (.bool false)).bind fun aY => some (.ret, [aY], aP)) (fun _ _ => none))) (fun _ _ => none))) (fun _ _ => none))) (fun _ _ => none))) (fun _ _ => none)) (fun aO => some (aO, [aD], aF)))) (List.getD aB.2.1 0 .junk) (List.getD aB.2.1 1 .junk) (List.getD aB.2.1 2 .junk) (List.getD aB.2.1 3 .junk) (List.getD aB.2.1 4 .junk) aB.2.2) (fun _ _ => none)).bind fun aH => (fun aE aQ => Ex.nV aH.1 (nE (List.length h0) aE aQ)) (List.getD aH.2.1 0 .junk) aH.2.2
theorem UB (K : k9) (a0 a1 : kR) (h0 : kT) : qQ Tryd.prog nC mJ K 159 [a0, a1] h0 = Rn (mI nC K) a0 a1 h0 := by kernel_rfl
noncomputable def Ro (K : k9) (m : Nat) (s : List kR × kT) : Option R :=
 (fun aM aB aD aK aL aC aJ aA aR => (lN aB).bind fun cH => (kZ .lss aA cH).bind fun cI => lG cI (((kY 2 aB aA).bind fun cJ => (kU 0 cJ).bind fun cK => (kV false 1 aR cK).bind fun cL => (kZ .geq cL (.int .i64 0)).bind fun aE => (kS true aE (kW aB aR) (kW (.tuple []) aR)).bind (kX (fun cM bH => (kS true aE (kW aC bH) (kW (.tuple []) bH)).bind (kX (fun cN bI => (kS true aE ((kY 2 cM cN).bind fun cO => kW cO bI) (kW (.tuple []) bI)).bind (kX (fun cP bJ => (kS true aE ((kU 0 cP).bind fun cQ => kW cQ bJ) (kW (.tuple []) bJ)).bind (kX (fun cR bB => (kS true aE ((kV false 1 bB cR).bind fun cS => kW cS bB) (kW (.tuple []) bB)).bind (kX (fun cT bK => (kS true aE (kW aB bK) (kW (.tuple []) bK)).bind (kX (fun cU bL => (kS true aE (kW aA bL) (kW (.tuple []) bL)).bind (kX (fun cV bM => (kS true aE ((kY 2 cU cV).bind fun cW => kW cW bM) (kW (.tuple []) bM)).bind (kX (fun cX bN => (kS true aE ((kU 0 cX).bind fun cY => kW cY bN) (kW (.tuple []) bN)).bind (kX (fun cZ bC => (kS true aE ((kV false 1 bC cZ).bind fun c8 => kW c8 bC) (kW (.tuple []) bC)).bind (kX (fun c9 bO => (kS true aE ((kZ .geq cT c9).bind fun c_ => kW c_ bO) (kW (.tuple []) bO)).bind (kX (fun dA bP => (lV aE dA (.bool false)).bind fun aF => (kS true aF (kW aB bP) (kW (.tuple []) bP)).bind (kX (fun dB bQ => (kS true aF (kW aC bQ) (kW (.tuple []) bQ)).bind (kX (fun dC bR => (kS true aF ((kY 2 dB dC).bind fun dD => kW dD bR) (kW (.tuple []) bR)).bind (kX (fun dE bS => (kS true aF ((kU 0 dE).bind fun dF => kW dF bS) (kW (.tuple []) bS)).bind (kX (fun dG bD => (kS true aF ((kV false 1 bD dG).bind fun dH => kW dH bD) (kW (.tuple []) bD)).bind (kX (fun dI bT => (kS true aF (kW aB bT) (kW (.tuple []) bT)).bind (kX (fun dJ bU => (kS true aF (kW aA bU) (kW (.tuple []) bU)).bind (kX (fun dK bV => (kS true aF ((kY 2 dJ dK).bind fun dL => kW dL bV) (kW (.tuple []) bV)).bind (kX (fun dM bW => (kS true aF ((kU 1 dM).bind fun dN => kW dN bW) (kW (.tuple []) bW)).bind (kX (fun dO bE => (kS true aF ((kV false 1 bE dO).bind fun dP => kW dP bE) (kW (.tuple []) bE)).bind (kX (fun dQ bX => (kS true aF ((kZ .leq dI dQ).bind fun dR => kW dR bX) (kW (.tuple []) bX)).bind (kX (fun dS aS => (lV aF dS (.bool false)).bind fun dU => (lG dU ((kZ .add aJ (.int .i64 1)).bind fun cE => (kZ .neq aA aC).bind fun aI => (kS true aI (kW aD aS) (kW (.tuple []) aS)).bind (kX (fun dV bY => (kS true aI (kW aA bY) (kW (.tuple []) bY)).bind (kX (fun dW bZ => (kS true aI ((kY 1 dV dW).bind fun dX => kW dX bZ) (kW (.tuple []) bZ)).bind (kX (fun dY bF => (kS true aI ((kV false 1 bF dY).bind fun dZ => kW dZ bF) (kW (.tuple []) bF)).bind (kX (fun d_ b6 => (kS true aI (kW aD b6) (kW (.tuple []) b6)).bind (kX (fun eB b7 => (kS true aI (kW aC b7) (kW (.tuple []) b7)).bind (kX (fun eC b_ => (kS true aI ((kY 1 eB eC).bind fun eD => kW eD b_) (kW (.tuple []) b_)).bind (kX (fun eE bG => (kS true aI ((kV false 1 bG eE).bind fun eJ => kW eJ bG) (kW (.tuple []) bG)).bind (kX (fun eK cA => (kS true aI ((kZ .eql d_ eK).bind fun eM => kW eM cA) (kW (.tuple []) cA)).bind (kX (fun eN cB => (lV aI eN (.bool false)).bind fun eP => lG eP (lC (List.length aS) .ret [(.bool false), aB, aD, aK, aL, aC, cE, aA] cB) (lC (List.length aS) .normal [aM, aB, aD, aK, aL, aC, cE, aA] cB)) (fun _ _ => none))) (fun _ _ => none))) (fun _ _ => none))) (fun _ _ => none))) (fun _ _ => none))) (fun _ _ => none))) (fun _ _ => none))) (fun _ _ => none))) (fun _ _ => none))) (lC (List.length aS) .normal [aM, aB, aD, aK, aL, aC, aJ, aA] aS)).bind fun aG => (fun aT aV aX aZ a7 a_ aN aP cC => Ex.lY aG.1 (lC (List.length aR) .normal [aT, aV, aX, aZ, a7, a_, aN, aP] cC) (fun cF => lC (List.length aR) cF [aT, aV, aX, aZ, a7, a_, aN, aP] cC)) (List.getD aG.2.1 0 .junk) (List.getD aG.2.1 1 .junk) (List.getD aG.2.1 2 .junk) (List.getD aG.2.1 3 .junk) (List.getD aG.2.1 4 .junk) (List.getD aG.2.1 5 .junk) (List.getD aG.2.1 6 .junk) (List.getD aG.2.1 7 .junk) aG.2.2) (fun _ _ => none))) (fun _ _ => none))) (fun _ _ => none))) (fun _ _ => none))) (fun _ _ => none))) (fun _ _ => none))) (fun _ _ => none))) (fun _ _ => none))) (fun _ _ => none))) (fun _ _ => none))) (fun _ _ => none))) (fun _ _ => none))) (fun _ _ => none))) (fun _ _ => none))) (fun _ _ => none))) (fun _ _ => none))) (fun _ _ => none))) (fun _ _ => none))) (fun _ _ => none))) (fun _ _ => none))) (fun _ _ => none))) (fun _ _ => none))).bind fun aH => (fun aU aW aY a6 a8 bA aO aQ cD => Ex.inBlock 3 aH.1 ((kZ .add aQ (.int .i64 1)).bind fun eQ => lC m .normal [aU, aW, aY, a6, a8, bA, aO, eQ] cD) (fun cG => lC m cG [aU, aW, aY, a6, a8, bA, aO, aQ] cD)) (List.getD aH.2.1 0 .junk) (List.getD aH.2.1 1 .junk) (List.getD aH.2.1 2 .junk) (List.getD aH.2.1 3 .junk) (List.getD aH.2.1 4 .junk) (List.getD aH.2.1 5 .junk) (List.getD aH.2.1 6 .junk) (List.getD aH.2.1 7 .junk) aH.2.2) (lC m (.exit 2) [aM, aB, aD, aK, aL, aC, aJ, aA] aR)) (List.getD s.1 0 .junk) (List.getD s.1 1 .junk) (List.getD s.1 2 .junk) (List.getD s.1 3 .junk) (List.getD s.1 4 .junk) (List.getD s.1 5 .junk) (List.getD s.1 6 .junk) (List.getD s.1 7 .junk) s.2
noncomputable def Rp (K : k9) (m : Nat) (s : List kR × kT) : Option R :=
 (fun aZ aB aH aN aV aA aY => (lN aB).bind fun cR => (kZ .lss aA cR).bind fun cS => lG cS (((kY 2 aB aA).bind fun t73 => (kU 0 t73).bind fun t74 => (kV false 1 aY t74).bind fun cT => (kZ .geq cT (.int .i64 0)).bind fun cU => (kY 1 aH aA).bind fun cV => (kV false 1 aY cV).bind fun cW => (kZ .geq cW (.int .i64 0)).bind fun cX => (Fh .neq cU cX).bind fun aP => (kS false aP (kW aB aY) (kW (.tuple []) aY)).bind (kX (fun cY cL => (kS false aP (kW aA cL) (kW (.tuple []) cL)).bind (kX (fun t83 cM => (kS false aP ((kY 2 cY t83).bind fun cZ => kW cZ cM) (kW (.tuple []) cM)).bind (kX (fun c8 cN => (kS false aP ((kU 1 c8).bind fun c9 => kW c9 cN) (kW (.tuple []) cN)).bind (kX (fun c_ bS => (kS false aP ((kV false 1 bS c_).bind fun dA => kW dA bS) (kW (.tuple []) bS)).bind (kX (fun dB cO => (kS false aP (kW aB cO) (kW (.tuple []) cO)).bind (kX (fun dC cP => (kS false aP (kW aA cP) (kW (.tuple []) cP)).bind (kX (fun t96 cQ => (kS false aP ((kY 2 dC t96).bind fun t98 => kW t98 cQ) (kW (.tuple []) cQ)).bind (kX (fun t99 bF => (kS false aP ((kU 0 t99).bind fun t101 => kW t101 bF) (kW (.tuple []) bF)).bind (kX (fun bT a6 => (kS false aP ((kV false 1 a6 bT).bind fun bU => kW bU a6) (kW (.tuple []) a6)).bind (kX (fun bV bG => (kS false aP ((kZ .lss dB bV).bind fun bW => kW bW bG) (kW (.tuple []) bG)).bind (kX (fun bX bH => (lV aP (.bool true) bX).bind fun aI => (kS false aI (kW aH bH) (kW (.tuple []) bH)).bind (kX (fun bY bI => (kS false aI (kW aA bI) (kW (.tuple []) bI)).bind (kX (fun bZ bJ => (kS false aI ((kY 1 bY bZ).bind fun b6 => kW b6 bJ) (kW (.tuple []) bJ)).bind (kX (fun b7 a7 => (kS false aI ((kV false 1 a7 b7).bind fun b_ => kW b_ a7) (kW (.tuple []) a7)).bind (kX (fun cA bK => (kS false aI (kW aN bK) (kW (.tuple []) bK)).bind (kX (fun cB bL => (kS false aI ((kZ .geq cA cB).bind fun cC => kW cC bL) (kW (.tuple []) bL)).bind (kX (fun cD a8 => (lV aI (.bool true) cD).bind fun cE => lG cE (lC (List.length aY) .ret [(.bool false), aB, aH, aN, aV, aA] a8) ((mJ (Ro K (List.length a8)) ([aZ, aB, aH, aN, aV, aA, (.int .i64 0), (.int .i64 0)], a8)).bind fun aC => (fun aJ aD aK aL aM aE aX bN aO => Ex.lY aC.1 none (fun bO => Ex.inBlock 2 bO ((kY 2 aD aE).bind fun cF => (kU 0 cF).bind fun cG => (kV false 1 aO cG).bind fun cH => (kZ .geq cH (.int .i64 0)).bind fun cI => (lG cI ((Ah aM aX).bind fun cJ => lC (List.length aO) .normal [aJ, aD, aK, aL, cJ, aE] aO) (lC (List.length aO) .normal [aJ, aD, aK, aL, aM, aE] aO)).bind fun aF => (fun a_ bA bB bC bD bE bR => Ex.sO aF.1 (lC (List.length aY) .normal [a_, bA, bB, bC, bD, bE] bR)) (List.getD aF.2.1 0 .junk) (List.getD aF.2.1 1 .junk) (List.getD aF.2.1 2 .junk) (List.getD aF.2.1 3 .junk) (List.getD aF.2.1 4 .junk) (List.getD aF.2.1 5 .junk) aF.2.2) (fun bP => lC (List.length aY) bP [aJ, aD, aK, aL, aM, aE] aO))) (List.getD aC.2.1 0 .junk) (List.getD aC.2.1 1 .junk) (List.getD aC.2.1 2 .junk) (List.getD aC.2.1 3 .junk) (List.getD aC.2.1 4 .junk) (List.getD aC.2.1 5 .junk) (List.getD aC.2.1 6 .junk) (List.getD aC.2.1 7 .junk) aC.2.2)) (fun _ _ => none))) (fun _ _ => none))) (fun _ _ => none))) (fun _ _ => none))) (fun _ _ => none))) (fun _ _ => none))) (fun _ _ => none))) (fun _ _ => none))) (fun _ _ => none))) (fun _ _ => none))) (fun _ _ => none))) (fun _ _ => none))) (fun _ _ => none))) (fun _ _ => none))) (fun _ _ => none))) (fun _ _ => none))) (fun _ _ => none))).bind fun aG => (fun aQ aR aS aT aU aW bM => Ex.inBlock 1 aG.1 ((kZ .add aW (.int .i64 1)).bind fun cK => lC m .normal [aQ, aR, aS, aT, aU, cK] bM) (fun bQ => lC m bQ [aQ, aR, aS, aT, aU, aW] bM)) (List.getD aG.2.1 0 .junk) (List.getD aG.2.1 1 .junk) (List.getD aG.2.1 2 .junk) (List.getD aG.2.1 3 .junk) (List.getD aG.2.1 4 .junk) (List.getD aG.2.1 5 .junk) aG.2.2) (lC m (.exit 0) [aZ, aB, aH, aN, aV, aA] aY)) (List.getD s.1 0 .junk) (List.getD s.1 1 .junk) (List.getD s.1 2 .junk) (List.getD s.1 3 .junk) (List.getD s.1 4 .junk) (List.getD s.1 5 .junk) s.2
noncomputable def m15 (K : k9) (a0 : kR) (h0 : kT) : Option (n_ × kT) :=
 (lE (nG 5 h0 a0) fun t0 h1 => (kV true 5 h1 t0).bind fun t2 => k_ (K 43 [(kR.k8 t2)] h1) (fun t3 h4 => (yF .not t3).bind fun t5 => lG t5 (k_ (K 44 [] h4) (fun t6 h7 => some (.ret, [t6], h7)) (fun _ _ => none)) ((kV true 5 h4 t0).bind fun t8 => k_ (K 45 [(kR.k8 t8)] h4) (fun t9 a7 => (mF 0 t9).bind fun bG => (mF 1 t9).bind fun aT => (kV true 5 a7 t0).bind fun bN => k_ (K 47 [(kR.k8 bN)] a7) (fun t14 a8 => (mF 0 t14).bind fun bH => (mF 1 t14).bind fun bO => (mF 2 t14).bind fun bI => (kZ .neq aT (.int .i64 0)).bind fun aU => (kS false aU (kW bI a8) (kW (.tuple []) a8)).bind (kX (fun bP a_ => (kS false aU ((kZ .neq bP (.int .i64 0)).bind fun bQ => kW bQ a_) (kW (.tuple []) a_)).bind (kX (fun bR aI => (lV aU (.bool true) bR).bind fun bS => lG bS ((kZ .eql aT bI).bind fun aJ => (kS true aJ (kW aT aI) (kW (.tuple []) aI)).bind (kX (fun t27 aN => (kS true aJ ((kV true 5 aN t0).bind fun bT => kW bT aN) (kW (.tuple []) aN)).bind (kX (fun t30 bA => (kS true aJ (k_ (K 30 [(kR.k8 t30)] bA) (fun bU bK => kW bU bK) yG) (kW (.tuple []) bA)).bind (kX (fun bV bB => (kS true aJ ((kZ .eql t27 bV).bind fun bW => kW bW bB) (kW (.tuple []) bB)).bind (kX (fun bX bC => (lV aJ bX (.bool false)).bind fun bJ => (kS true bJ (k_ (K 44 [] bC) (fun bY bL => kW bY bL) yG) (kW (.tuple []) bC)).bind (kX (fun bZ bM => (lV bJ bZ (.bool false)).bind fun b6 => some (.ret, [b6], bM)) (fun _ _ => none))) (fun _ _ => none))) (fun _ _ => none))) (fun _ _ => none))) (fun _ _ => none))) ((lN bG).bind fun b7 => (kU 0 t0).bind fun b_ => (kV false 1 aI b_).bind fun cA => (kZ .neq b7 cA).bind fun aH => (kS false aH (kW bH aI) (kW (.tuple []) aI)).bind (kX (fun t49 bD => (kS false aH ((lN t49).bind fun cB => kW cB bD) (kW (.tuple []) bD)).bind (kX (fun cC bE => (kS false aH ((kU 0 t0).bind fun cD => kW cD bE) (kW (.tuple []) bE)).bind (kX (fun cE aR => (kS false aH ((kV false 1 aR cE).bind fun cF => kW cF aR) (kW (.tuple []) aR)).bind (kX (fun cG bF => (kS false aH ((kZ .neq cC cG).bind fun cH => kW cH bF) (kW (.tuple []) bF)).bind (kX (fun cI aS => (lV aH (.bool true) cI).bind fun cJ => lG cJ (some (.ret, [(.bool false)], aS)) ((mJ (Rp K (List.length aS)) ([(.bool false), bG, bH, bO, (.int .i64 0), (.int .i64 0)], aS)).bind fun aA => (fun aD aY aZ aF aG a6 aB => Ex.lY aA.1 none (fun aL => Ex.inBlock 0 aL ((kZ .eql aG aF).bind fun aK => (kS true aK (k_ (K 44 [] aB) (fun aV aO => kW aV aO) yG) (kW (.tuple []) aB)).bind (kX (fun aW aP => (lV aK aW (.bool false)).bind fun aX => some (.ret, [aX], aP)) (fun _ _ => none))) (fun aM => some (aM, [aD], aB)))) (List.getD aA.2.1 0 .junk) (List.getD aA.2.1 1 .junk) (List.getD aA.2.1 2 .junk) (List.getD aA.2.1 3 .junk) (List.getD aA.2.1 4 .junk) (List.getD aA.2.1 5 .junk) aA.2.2)) (fun _ _ => none))) (fun _ _ => none))) (fun _ _ => none))) (fun _ _ => none))) (fun _ _ => none)))) (fun _ _ => none))) (fun _ _ => none))) (fun _ _ => none)) (fun _ _ => none))) (fun _ _ => none)).bind fun aC => (fun aE aQ => Ex.nV aC.1 (nE (List.length h0) aE aQ)) (List.getD aC.2.1 0 .junk) aC.2.2
theorem X1 (K : k9) (a0 : kR) (h0 : kT) : qQ Tryd.prog nC mJ K 15 [a0] h0 = m15 (mI nC K) a0 h0 := by kernel_rfl
end Go.Proofs.YtkeoalhglkfbkaaDoor


namespace Go.Proofs.YtkeoalhglkfbkaaDoor
open Go Hk
noncomputable def Cj (K : k9) (m : Nat) (s : List kR × kT) : Option R :=
 (fun aD aE aF aG aH aC aB aA aK => (lN aC).bind fun bB => (kZ .lss aA bB).bind fun bC => lG bC ((kY 1 aC aA).bind fun bD => (kV false 1 aK bD).bind fun bE => (lG bE ((kU 1 aB).bind fun bF => (lU 1 aK bF aA).bind fun aL => (kU 0 aB).bind fun bG => (kV false 1 aL bG).bind fun bH => (kZ .lss bH (.int .i64 0)).bind fun bI => (lG bI ((kU 0 aB).bind fun bJ => (lU 1 aL bJ aA).bind fun a8 => lC (List.length aL) .normal [aD, aE, aF, aG, aH, aC, aB, aA] a8) (lC (List.length aL) .normal [aD, aE, aF, aG, aH, aC, aB, aA] aL)).bind fun aI => (fun aM aO aQ aS aU aW aY a6 a_ => Ex.sO aI.1 (lC (List.length aK) .normal [aM, aO, aQ, aS, aU, aW, aY, a6] a_)) (List.getD aI.2.1 0 .junk) (List.getD aI.2.1 1 .junk) (List.getD aI.2.1 2 .junk) (List.getD aI.2.1 3 .junk) (List.getD aI.2.1 4 .junk) (List.getD aI.2.1 5 .junk) (List.getD aI.2.1 6 .junk) (List.getD aI.2.1 7 .junk) aI.2.2) (lC (List.length aK) .normal [aD, aE, aF, aG, aH, aC, aB, aA] aK)).bind fun aJ => (fun aN aP aR aT aV aX aZ a7 bA => Ex.sO aJ.1 ((kZ .add a7 (.int .i64 1)).bind fun bK => lC m .normal [aN, aP, aR, aT, aV, aX, aZ, bK] bA)) (List.getD aJ.2.1 0 .junk) (List.getD aJ.2.1 1 .junk) (List.getD aJ.2.1 2 .junk) (List.getD aJ.2.1 3 .junk) (List.getD aJ.2.1 4 .junk) (List.getD aJ.2.1 5 .junk) (List.getD aJ.2.1 6 .junk) (List.getD aJ.2.1 7 .junk) aJ.2.2) (lC m (.exit 2) [aD, aE, aF, aG, aH, aC, aB, aA] aK)) (List.getD s.1 0 .junk) (List.getD s.1 1 .junk) (List.getD s.1 2 .junk) (List.getD s.1 3 .junk) (List.getD s.1 4 .junk) (List.getD s.1 5 .junk) (List.getD s.1 6 .junk) (List.getD s.1 7 .junk) s.2
noncomputable def DJ (K : k9) (m : Nat) (s : List kR × kT) : Option R :=
 (fun aA aF aI aL aB aR => (kU 0 aA).bind fun bC => (kV false 1 aR bC).bind fun bD => (kZ .lss aB bD).bind fun bE => lG bE (((kV true 5 aR aA).bind fun bF => k_ (K 84 [(kR.k8 bF), (kR.k8 aB)] aR) (fun bG a8 => (nO [(.int .i64 0), (.int .i64 0)] [(0, 1), (1, 1)] [(0, (.int .i64 (-1))), (1, (.int .i64 (-1)))]).bind fun bH => lE (nG 2 a8 (.agg [(.int .i64 0), (.int .i64 0)])) fun aW a_ => (lU 2 a_ aW bH).bind fun aU => (mJ (Cj K (List.length aU)) ([aA, aF, aI, aL, aB, bG, aW, (.int .i64 0)], aU)).bind fun aC => (fun aD aG aJ aM aO aX aS aY aT => Ex.lY aC.1 none (fun aZ => Ex.inBlock 2 aZ ((kV true 2 aT aS).bind fun bI => lE (lP 1 2 [(.int .i64 0), (.int .i64 0)] [(0, bI)] aT) fun bJ bA => lE (nQ 2 16 bA aM bJ) fun bK bB => lC (List.length aR) .normal [aD, aG, aJ, bK, aO] bB) (fun a6 => lC (List.length aR) a6 [aD, aG, aJ, aM, aO] aT))) (List.getD aC.2.1 0 .junk) (List.getD aC.2.1 1 .junk) (List.getD aC.2.1 2 .junk) (List.getD aC.2.1 3 .junk) (List.getD aC.2.1 4 .junk) (List.getD aC.2.1 5 .junk) (List.getD aC.2.1 6 .junk) (List.getD aC.2.1 7 .junk) aC.2.2) (fun _ _ => none)).bind fun aQ => (fun aE aH aK aN aP aV => Ex.inBlock 1 aQ.1 ((kZ .add aP (.int .i64 1)).bind fun bL => lC m .normal [aE, aH, aK, aN, bL] aV) (fun a7 => lC m a7 [aE, aH, aK, aN, aP] aV)) (List.getD aQ.2.1 0 .junk) (List.getD aQ.2.1 1 .junk) (List.getD aQ.2.1 2 .junk) (List.getD aQ.2.1 3 .junk) (List.getD aQ.2.1 4 .junk) aQ.2.2) (lC m (.exit 0) [aA, aF, aI, aL, aB] aR)) (List.getD s.1 0 .junk) (List.getD s.1 1 .junk) (List.getD s.1 2 .junk) (List.getD s.1 3 .junk) (List.getD s.1 4 .junk) s.2
noncomputable def m46 (K : k9) (a0 : kR) (h0 : kT) : Option (n_ × kT) :=
 (lE (nG 5 h0 a0) fun t0 h1 => (fun (t3 : kR) (h2 : kT) => (kV true 5 h2 t0).bind fun t4 => k_ (K 64 [(kR.k8 t4)] h2) (fun t5 h6 => (kZ .neq t5 (.int .i64 0)).bind fun t7 => lG t7 ((fun (t9 : kR) (h8 : kT) => some (.ret, [t9, t5], h8)) (.slice [] (.own (List.length h6))) (h6 ++ [.front 0 0])) ((fun (aO : kR) (aL : kT) => (mJ (DJ K (List.length aL)) ([t0, t3, (.int .i64 0), aO, (.int .i64 0)], aL)).bind fun aB => (fun aM aG aH aE aK aF => Ex.lY aB.1 none (fun aN => Ex.inBlock 0 aN (some (.ret, [aE, (.int .i64 0)], aF)) (fun aI => some (aI, [aG, aH], aF)))) (List.getD aB.2.1 0 .junk) (List.getD aB.2.1 1 .junk) (List.getD aB.2.1 2 .junk) (List.getD aB.2.1 3 .junk) (List.getD aB.2.1 4 .junk) aB.2.2) (.slice [] (.own (List.length h6))) (h6 ++ [.front 0 0]))) (fun _ _ => none)) (.slice [] (.own (List.length h1))) (h1 ++ [.front 0 0])).bind fun aA => (fun aC aD aJ => Ex.nV aA.1 (nE (List.length h0) (.tuple [aC, aD]) aJ)) (List.getD aA.2.1 0 .junk) (List.getD aA.2.1 1 .junk) aA.2.2
theorem Yh (K : k9) (a0 : kR) (h0 : kT) : qQ Tryd.prog nC mJ K 46 [a0] h0 = m46 (mI nC K) a0 h0 := by kernel_rfl
end Go.Proofs.YtkeoalhglkfbkaaDoor


namespace Go.Proofs.YtkeoalhglkfbkaaDoor
open Go Hk
noncomputable def F9 (K : k9) (m : Nat) (s : List kR × kT) : Option R :=
 (fun aA aD aC aB h6 => (kU 2 aA).bind fun t7 => (kV false 1 h6 t7).bind fun t8 => (lN t8).bind fun t9 => (kZ .lss aB t9).bind fun aF => (kS true aF (kW aC h6) (kW (.tuple []) h6)).bind (kX (fun aH aG => (kS true aF ((kZ .leq aH (.int .i64 200)).bind fun aI => kW aI aG) (kW (.tuple []) aG)).bind (kX (fun t14 aE => (lV aF t14 (.bool false)).bind fun aJ => lG aJ ((kZ .add aC (.int .i64 1)).bind fun aK => (kU 2 aA).bind fun aL => (kV false 1 aE aL).bind fun aM => (kY 5 aM aB).bind fun aN => (kU 0 aN).bind fun aO => (kV false 1 aE aO).bind fun aP => (lN aP).bind fun aQ => (wR aQ (.int .i64 500)).bind fun aR => (kZ .add aK aR).bind fun aS => (kZ .add aB (.int .i64 1)).bind fun aT => lC m .normal [aA, aD, aS, aT] aE) (lC m (.exit 0) [aA, aD, aC, aB] aE)) (fun _ _ => none))) (fun _ _ => none))) (List.getD s.1 0 .junk) (List.getD s.1 1 .junk) (List.getD s.1 2 .junk) (List.getD s.1 3 .junk) s.2
noncomputable def m43 (K : k9) (a0 : kR) (h0 : kT) : Option (n_ × kT) :=
 (lE (nG 5 h0 a0) fun t0 h1 => (mJ (F9 K (List.length h1)) ([t0, (.bool false), (.int .i64 0), (.int .i64 0)], h1)).bind fun Gq => (fun aA aB aD aJ aF => Ex.lY Gq.1 none (fun aK => Ex.inBlock 0 aK ((kZ .leq aD (.int .i64 200)).bind fun aE => (kS true aE ((kU 0 aA).bind fun aO => kW aO aF) (kW (.tuple []) aF)).bind (kX (fun aP aG => (kS true aE ((kV false 1 aG aP).bind fun aQ => kW aQ aG) (kW (.tuple []) aG)).bind (kX (fun aR aI => (kS true aE ((kZ .leq aR (.int .i64 60)).bind fun aS => kW aS aI) (kW (.tuple []) aI)).bind (kX (fun aT aM => (lV aE aT (.bool false)).bind fun aU => some (.ret, [aU], aM)) (fun _ _ => none))) (fun _ _ => none))) (fun _ _ => none))) (fun aL => some (aL, [aB], aF)))) (List.getD Gq.2.1 0 .junk) (List.getD Gq.2.1 1 .junk) (List.getD Gq.2.1 2 .junk) (List.getD Gq.2.1 3 .junk) Gq.2.2).bind fun aH => (fun aC aN => Ex.nV aH.1 (nE (List.length h0) aC aN)) (List.getD aH.2.1 0 .junk) aH.2.2
theorem Yf (K : k9) (a0 : kR) (h0 : kT) : qQ Tryd.prog nC mJ K 43 [a0] h0 = m43 (mI nC K) a0 h0 := by kernel_rfl
end Go.Proofs.YtkeoalhglkfbkaaDoor


namespace Go.Proofs.YtkeoalhglkfbkaaDoor
open Go Hk Go.Proofs.Wd
theorem Rt {p : IR} : ∀ (d i : Nat) (n : Int), i ≤ n → n ≤ 701 → 701 - n.toNat < d → ∃ (n' : Int) (i' : Int),
  mJ (F9 KK 1) ([.ptr 0 0, .bool false, .int .i64 n, .int .i64 (i : Int)], [.cells p.cells]) = some (.exit 0, [.ptr 0 0, .bool false, .int .i64 n', .int .i64 i'], [.cells p.cells]) := by
 intro d
 have htr : mL 1 [.cells p.cells] = some [.cells p.cells] := by simp [mL, IR.cells]
 have ag : kU 2 (.ptr 0 0) = some (.ptr 0 2) := rfl
 have l1 : kV false 1 [.cells p.cells] (.ptr 0 2) = some (.slice (p.blocks.map lX.cells) .no) := by simp [IR.cells]
 have lenB : lN (.slice (p.blocks.map lX.cells) .no) = some (.int .i64 (p.blocks.length : Int)) := by simp
 induction d with
 | zero => intro i n _ _ h; omega
 | succ d ih =>
  intro i n hi hn hd
  by_cases h1 : i < p.blocks.length
  ·by_cases h2 : n ≤ 200
   ·have hb := List.getElem?_eq_getElem h1
    generalize p.blocks[i] = b at hb
    obtain ⟨n', i', hr⟩ := ih (i + 1) (n + 1 + min (b.ops.length : Int) 500) (by omega) (by omega) (by omega)
    refine ⟨n', i', ?_⟩
    rw [← hr]
    refine qT ?_
    have hl : (i : Int) < (p.blocks.length : Int) := by omega
    have ix : kY 5 (.slice (p.blocks.map lX.cells) .no) (.int .i64 (i : Int)) = some (.pptr b.cells) := by simp [hb, lX.cells]
    have ag1 : kU 0 (.pptr b.cells) = some (.pptr b.cells) := by simp [kU]
    have l2 : kV false 1 [.cells p.cells] (.pptr b.cells) = some (.slice (b.ops.map Op.cells) .no) := by simp [lX.cells]
    have lenO : lN (.slice (b.ops.map Op.cells) .no) = some (.int .i64 (b.ops.length : Int)) := by simp
    have mn : wR (.int .i64 (b.ops.length : Int)) (.int .i64 500) = some (.int .i64 (min (b.ops.length : Int) 500)) := by
     simp [wR]
     try (split <;> omega)
    have w0 : IntKind.i64.wrap (n + 1) = n + 1 := wrap64 (by omega) (by omega)
    have w1 : IntKind.i64.wrap (n + 1 + min (b.ops.length : Int) 500) = n + 1 + min (b.ops.length : Int) 500 := wrap64 (by omega) (by omega)
    have w2 : IntKind.i64.wrap ((i : Int) + 1) = ((i + 1 : Nat) : Int) := by rw [wrap64 (by omega) (by omega), Int.natCast_add]; rfl
    generalize ((i + 1 : Nat) : Int) = i1 at *
    unfold F9
    simp -implicitDefEqProofs [-mD, lC, htr, ag, l1, lenB, hl, h2, ix, ag1, l2, lenO, mn, w0, w1, w2, l_]
   ·refine ⟨n, i, oJ ?_⟩
    have hl : (i : Int) < (p.blocks.length : Int) := by omega
    unfold F9
    simp -implicitDefEqProofs [-mD, lC, htr, ag, l1, lenB, hl, h2, l_]
  ·refine ⟨n, i, oJ ?_⟩
   have hl : ¬ (i : Int) < (p.blocks.length : Int) := by omega
   unfold F9
   simp -implicitDefEqProofs [-mD, lC, htr, ag, l1, lenB, hl, l_]
theorem c43 (p : IR) : ∃ b : Bool, (b = true → p.temps ≤ 60) ∧ ∀ h, KK 43 [.agg p.cells] h = some (.ret (.bool b), h) := by
 obtain ⟨n, i, g⟩ := Rt (p := p) 1000 0 0 (by omega) (by omega) (by omega)
 have e0 : ((0 : Nat) : Int) = 0 := rfl
 rw [e0] at g
 refine ⟨decide (n ≤ 200) && decide (p.temps ≤ 60), fun hb => by simp only [Bool.and_eq_true, decide_eq_true_eq] at hb; exact hb.2, fun h => lZ rfl rfl (mN (Yf _ _ _) ?_)⟩
 have an : nG 5 [] (.agg p.cells) = some (.ptr 0 0, [.cells p.cells]) := by simp [IR.cells]
 have ag : kU 0 (.ptr 0 0) = some (.ptr 0 0) := rfl
 have l1 : kV false 1 [.cells p.cells] (.ptr 0 0) = some (.int .i64 p.temps) := by simp [IR.cells]
 by_cases h2 : n ≤ 200
 ·by_cases h3 : p.temps ≤ 60 <;> simp -implicitDefEqProofs [m43, -mD, -nG, an, g, ag, l1, h2, h3, lH]
 ·simp -implicitDefEqProofs [m43, -mD, -nG, an, g, ag, l1, h2, lH]
end Go.Proofs.YtkeoalhglkfbkaaDoor
