/-
  The texts TY.C, TY.T1, TY.P1, TY.C2, TY.Q2, TY.Q3, TY.H7, TY.H8, TY.H9, TY.H10, TY.H11, TY.H12, TY.H13, TY.T3, TY.P5, TY.P6, TY.P7, TY.P8, TY.P9, TY.P10, TY.P11, TY.T4, TY.P12, TY.T5, TY.P13, TY.P14, TY.P15, TY.W15, one behind another. No conditions.
-/
import Derived.Test.YtkeoalhglkfbkaaDoorIx1
import Derived.Test.YtkeoalhglkfbkaaDoorIx2
import Derived.Test.YtkeoalhglkfbkaaDoorVt1
import Derived.Test.YtkeoalhglkfbkaaDoorTyh1
import Derived.Test.YtkeoalhglkfbkaaDoorIxu1
set_option linter.unusedVariables false
set_option linter.unusedSimpArgs false
set_option linter.unusedSectionVars false
set_option linter.all false

namespace Go.Proofs.YtkeoalhglkfbkaaDoor
open Go Hk
theorem Op.qW (x : Op) : x.cells = [.int .i64 x.kind, .int .i64 x.dst, .int .i64 x.a, .int .i64 x.b, .int .i64 x.c, .int .i64 x.imm] := (rfl)
theorem Term.qW (x : Term) : x.cells = [.int .i64 x.kind, .int .i64 x.a, .int .i64 x.yes, .int .i64 x.no] := (rfl)
theorem mK.qW (x : mK) : x.cells = [.int .i64 x.elem, .int .i64 x.len, .int .i64 x.kind, .int .i64 x.off] := (rfl)
theorem lX.qW (x : lX) : x.cells = [.slice (Rw Op.cells x.ops) .no, .int .i64 x.term.kind, .int .i64 x.term.a, .int .i64 x.term.yes, .int .i64 x.term.no] := (rfl)
attribute [simp] Op.qW Term.qW mK.qW lX.qW
structure Span where
 first : Int
 last : Int
 deriving DecidableEq
def Span.cells (x : Span) : List kR := [.int .i64 x.first, .int .i64 x.last]
theorem Span.qW (x : Span) : x.cells = [.int .i64 x.first, .int .i64 x.last] := (rfl)
attribute [simp] Span.qW
def t73 (o : Op) : Option Bool := some (mM o.kind).dst
theorem r73 (o : Op) (h : kT) : KK 73 [.agg [.int .i64 o.kind, .int .i64 o.dst, .int .i64 o.a, .int .i64 o.b, .int .i64 o.c, .int .i64 o.imm]] h = tm (t73 o) fun r => (.ret (.bool r), h) := c73 o h
def t74 (o : Op) : Option (List Int) := some (mW o)
theorem Ia (o : Op) (h : kT) : KK 74 [.agg [.int .i64 o.kind, .int .i64 o.dst, .int .i64 o.a, .int .i64 o.b, .int .i64 o.c, .int .i64 o.imm]] h = tm (t74 o) fun r => (.ret (.slice (Rw (ci .i64) r) .no), h) := c74 o h
def t30 (p : IR) : Option Int := some (mZ p)
theorem Na (p : IR) (h : kT) : KK 30 [.agg [.int .i64 p.temps, .slice (Rw mK.cells p.arrays) .no, .slice (Rw lX.cells p.blocks) .no, .int .i64 p.inn, .int .i64 p.out]] h = tm (t30 p) fun r => (.ret (.int .i64 r), h) := c30 p h
end Go.Proofs.YtkeoalhglkfbkaaDoor


namespace Go.Proofs.YtkeoalhglkfbkaaDoor
open Go Hk
noncomputable def V7 (mm : Nat) (aA : R) : Option (n_ × kT) :=
 (fun aB => Ex.nV aA.1 (nE mm (.tuple []) aB))  aA.2.2
theorem ZF (y0 : Int) (y1 : Int) (h : kT) (id tot j : Nat) (xs : List Span) : Oe 2 id h (some (Vc Span.cells 2 xs)) tot (j * 2) (.agg [(.int .i64 y0), (.int .i64 y1)]) = tb (s6 tot xs j) fun x => tm (Au tot xs j (⟨y0, y1⟩ : Span)) fun zs => h.set id (Vc Span.cells 2 zs) := SJ (enc := Span.cells) (⟨y0, y1⟩ : Span) (fun _ => rfl) (by decide) rfl rfl
noncomputable def MC (K : k9) (aI : kR) (aA : kR) (aB : kR) (aG : kR) (aF : kT) (aD : kR) (aE : kR) (aC : kR) : Option R :=
 lG aI ((nO [(.int .i64 0), (.int .i64 0)] [(0, 1), (1, 1)] [(0, aA), (1, aA)]).bind fun aJ => ix 2 aB aG fun aK => (lU 2 aF aK aJ).bind fun aH => lC (List.length aF) .normal [aB, aA, aG, aD, aE, aC] aH) (lC (List.length aF) .normal [aB, aA, aG, aD, aE, aC] aF)
noncomputable def CD (aE : Bool) (o1 : Int) (o0 : Nat) (aD : Int) (aA : (List Span)) : Option ((List Span)) :=
 tc aE (tb ((BM o0 aD)) fun aB => tb ((s6 o0 aA aB)) fun Nr => tb ((Au o0 aA aB (⟨o1, o1⟩ : Span))) fun aC => some aC) (some aA)
theorem Zd (w41 : Bool) (o1 : Int) (o0 : Nat) (u31 : Int) (w42 : (List Span)) (o2 : (List Int)) (w21 : Int) (w39 : Int) : (MC KK (.bool w41) (.int .i64 o1) (.vslice 0 o0 0 o0 2) (.int .i64 u31) ([Vc Span.cells 2 w42] : kT) (.slice (Rw (ci .i64) o2) .no) (.int .i64 w21) (.int .i64 w39)) = tm (CD w41 o1 o0 u31 w42) fun r => (.normal, [(.vslice 0 o0 0 o0 2), (.int .i64 o1), (.int .i64 u31), (.slice (Rw (ci .i64) o2) .no), (.int .i64 w21), (.int .i64 w39)], ([Vc Span.cells 2 r] : kT)) := by
 simp +contextual -implicitDefEqProofs (maxSteps := 2000000) [-lS, -lK, -lD, -lF, -lL, -lQ, -lJ, MC, CD, ZF]
theorem ZG (y0 : Int) (h : kT) (id tot j : Nat) (xs : List Span) : Oe 1 id h (some (Vc Span.cells 2 xs)) tot (j * 2) (.int .i64 y0) = tb (s6 tot xs j) fun x => tm (Au tot xs j (⟨y0, x.last⟩ : Span)) fun zs => h.set id (Vc Span.cells 2 zs) := Nv (enc := Span.cells) (sz := 2) (m := 1) (v := (.int .i64 y0)) (off := 0) (fun (x : Span) => (⟨y0, x.last⟩ : Span)) (fun _ => rfl) rfl (by decide) (by decide) rfl (fun _ => rfl)
theorem ZH (y0 : Int) (h : kT) (id tot j : Nat) (xs : List Span) : Oe 1 id h (some (Vc Span.cells 2 xs)) tot (j * 2 + 1) (.int .i64 y0) = tb (s6 tot xs j) fun x => tm (Au tot xs j (⟨x.first, y0⟩ : Span)) fun zs => h.set id (Vc Span.cells 2 zs) := Nv (enc := Span.cells) (sz := 2) (m := 1) (v := (.int .i64 y0)) (off := 1) (fun (x : Span) => (⟨x.first, y0⟩ : Span)) (fun _ => rfl) rfl (by decide) (by decide) rfl (fun _ => rfl)
noncomputable def Jo (K : k9) (m : Nat) (s : List kR × kT) : Option R :=
 (fun aD aH aF aG aA aL => bo .lss aA aG fun aQ => lG aQ (ix 1 aF aA fun t30 => ld false 1 aL t30 fun aN => ix 2 aD aN fun aR => fa 0 aR fun aS => ld false 1 aL aS fun aT => bo .lss aT (.int .i64 0) fun aU => (MC K aU aH aD aN aL aF aG aA).bind fun Hi => (fun aB aE aC aJ aK aI aM => Ex.sO Hi.1 (ix 2 aB aC fun aV => fa 0 aV fun aW => ld false 1 aM aW fun aX => (wR aX aE).bind fun aY => ix 2 aB aC fun aZ => fa 1 aZ fun a6 => ld false 1 aM a6 fun a7 => (Ah a7 aE).bind fun a8 => ix 2 aB aC fun a_ => fa 0 a_ fun bA => (lU 1 aM bA aY).bind fun aO => ix 2 aB aC fun bB => fa 1 bB fun bC => (lU 1 aO bC a8).bind fun aP => bo .add aI (.int .i64 1) fun bD => lC m .normal [aB, aE, aJ, aK, bD] aP)) (gd Hi.2.1 0) (gd Hi.2.1 1) (gd Hi.2.1 2) (gd Hi.2.1 3) (gd Hi.2.1 4) (gd Hi.2.1 5) Hi.2.2) (lC m (.exit 0) [aD, aH, aF, aG, aA] aL)) (gd s.1 0) (gd s.1 1) (gd s.1 2) (gd s.1 3) (gd s.1 4) s.2
noncomputable def A5 (o0 : Nat) (o1 : Int) (o2 : (List Int)) (aO : Int) (aA : Int × (List Span)) : Option (Ey × Int × (List Span)) :=
 tc (decide (aA.1 < aO)) (tb ((oO o2 aA.1)) fun aB => tb ((BM o0 aB)) fun aF => tb ((s6 o0 aA.2 aF)) fun aJ => tb (CD (decide (aJ.first < 0)) o1 o0 aB aA.2) fun Hi => tb ((BM o0 aB)) fun aG => tb ((s6 o0 Hi aG)) fun aK => tb ((BM o0 aB)) fun aH => tb ((s6 o0 Hi aH)) fun aL => tb ((BM o0 aB)) fun aC => tb ((s6 o0 Hi aC)) fun aM => tb ((Au o0 Hi aC (⟨(min aK.first o1), aM.last⟩ : Span))) fun aE => tb ((BM o0 aB)) fun aD => tb ((s6 o0 aE aD)) fun aN => tb ((Au o0 aE aD (⟨aN.first, (max aL.last o1)⟩ : Span))) fun aI => some (.n, ((IntKind.wrap .i64 (aA.1 + 1)), aI))) (some ((.x 0), (aA.1, aA.2)))
theorem W8 (o0 : Nat) (o1 : Int) (o2 : (List Int)) (w21 : Int) (s22 : Int × (List Span)) : Jo KK 1 ([(.vslice 0 o0 0 o0 2), (.int .i64 o1), (.slice (Rw (ci .i64) o2) .no), (.int .i64 w21), (.int .i64 s22.1)], ([Vc Span.cells 2 s22.2] : kT)) = tm (A5 o0 o1 o2 w21 s22) fun r => (r.1.ex, [(.vslice 0 o0 0 o0 2), (.int .i64 o1), (.slice (Rw (ci .i64) o2) .no), (.int .i64 w21), (.int .i64 r.2.1)], ([Vc Span.cells 2 r.2.2] : kT)) := by
 simp +contextual -implicitDefEqProofs (maxSteps := 2000000) [-lS, -lK, -lD, -lF, -lL, -lQ, -lJ, Jo, A5, Zd, ZG, ZH]
theorem Ze (o0 : Nat) (o1 : Int) (o2 : (List Int)) (w21 : Int) (i4 : Int) (i5 : (List Span)) : mJ (Jo KK 1) ([(.vslice 0 o0 0 o0 2), (.int .i64 o1), (.slice (Rw (ci .i64) o2) .no), (.int .i64 w21), (.int .i64 i4)], ([Vc Span.cells 2 i5] : kT)) = tm (v_ (A5 o0 o1 o2 w21) (i4, i5)) fun r => (r.1.ex, [(.vslice 0 o0 0 o0 2), (.int .i64 o1), (.slice (Rw (ci .i64) o2) .no), (.int .i64 w21), (.int .i64 r.2.1)], ([Vc Span.cells 2 r.2.2] : kT)) := by
 exact w6 (enc := fun s22 => ([(.vslice 0 o0 0 o0 2), (.int .i64 o1), (.slice (Rw (ci .i64) o2) .no), (.int .i64 w21), (.int .i64 s22.1)], ([Vc Span.cells 2 s22.2] : kT))) (fun s22 => W8 o0 o1 o2 w21 s22) (i4, i5)
noncomputable def m83 (K : k9) (a0 a1 a2 : kR) (h0 : kT) : Option (n_ × kT) :=
 (ln a2 fun aJ => (mJ (Jo K (List.length h0)) ([a0, a1, a2, aJ, (.int .i64 0)], h0)).bind fun aA => (fun aD aE aF aG aB aC => Ex.lY aA.1 none (fun aH => Ex.inBlock 0 aH (some (.normal, [], aC)) (fun aI => some (aI, [], aC)))) (gd aA.2.1 0) (gd aA.2.1 1) (gd aA.2.1 2) (gd aA.2.1 3) (gd aA.2.1 4) aA.2.2).bind (V7 (List.length h0))
theorem Gb (K : k9) (a0 a1 a2 : kR) (h0 : kT) : qQ Tryd.prog nC mJ K 83 [a0, a1, a2] h0 = m83 (mI nC K) a0 a1 a2 h0 := by kernel_rfl
noncomputable def t83 (o0 : Nat) (o1 : Int) (o2 : (List Int)) (o3 : (List Span)) : Option ((List Span)) :=
 tb (v_ (A5 o0 o1 o2 ((List.length o2 : Nat) : Int)) (0, o3)) fun aA => As aA.1 none fun aB => Bm 0 aB (some aA.2.2) fun aC => OD aC (some aA.2.2)
theorem b83 (o0 : Nat) (o1 : Int) (o2 : (List Int)) (o3 : (List Span)) : m83 KK (.vslice 0 o0 0 o0 2) (.int .i64 o1) (.slice (Rw (ci .i64) o2) .no) ([Vc Span.cells 2 o3] : kT) = tm (t83 o0 o1 o2 o3) fun r => (.ret (.tuple []), ([Vc Span.cells 2 r] : kT)) := by
 simp +contextual -implicitDefEqProofs (maxSteps := 2000000) [-lS, -lK, -lD, -lF, -lL, -lQ, -lJ, m83, t83, Ze, V7]
end Go.Proofs.YtkeoalhglkfbkaaDoor


namespace Go.Proofs.YtkeoalhglkfbkaaDoor
open Go Hk
theorem nZ {α : Type} {xs : List α} {i : Nat} : oO xs (i : Int) = xs[i]? := by simp [oO]
end Go.Proofs.YtkeoalhglkfbkaaDoor


namespace Go.Proofs.YtkeoalhglkfbkaaDoor
open Go Hk
noncomputable def t27 (p : IR) : Option (List (List Int) × List (List Int) × Int) := some (qF p, qG p, mZ p)
theorem Gq (p : IR) (h : kT) : KK 27 [.agg [.int .i64 p.temps, .slice (Rw mK.cells p.arrays) .no, .slice (Rw lX.cells p.blocks) .no, .int .i64 p.inn, .int .i64 p.out]] h = tm (t27 p) fun r => (.ret (.tuple [.slice (Rw (wV (ci .i64)) r.1) .no, .slice (Rw (wV (ci .i64)) r.2.1) .no, .int .i64 r.2.2]), h) := c27 p h
end Go.Proofs.YtkeoalhglkfbkaaDoor


namespace Hk.PS
variable {e : Nat → Int}
def tk (e : Nat → Int) (ps : List (Nat × Nat)) (s : Nat) (f : Int) : Bool := ps.any fun p => p.2 == s && decide (f ≤ e p.1)
theorem JU {ps : List (Nat × Nat)} {s : Nat} {f : Int} : tk e ps s f = true ↔ ∃ p ∈ ps, p.2 = s ∧ f ≤ e p.1 := by
 simp [tk]
theorem PR {ps bs : List (Nat × Nat)} {s : Nat} {f : Int} : tk e (ps ++ bs) s f = (tk e ps s f || tk e bs s f) := by simp [tk]
def NU (e : Nat → Int) (ps : List (Nat × Nat)) (f : Int) : Nat → Nat → Nat
 | 0, s => s
 | n + 1, s => if tk e ps s f then NU e ps f n (s + 1) else s
theorem DC {ps : List (Nat × Nat)} {f : Int} : ∀ {n s s' : Nat}, s ≤ s' → s' < NU e ps f n s → tk e ps s' f = true
 | 0, s, s', h1, h2 => by simp [NU] at h2; omega
 | n + 1, s, s', h1, h2 => by
  unfold NU at h2
  split at h2
  ·rename_i h
   by_cases es : s = s'
   ·subst es; exact h
   ·exact DC (n := n) (s := s + 1) (by omega) h2
  ·omega
theorem u7 {α : Type} {P : List α → Prop} (h0 : P []) (h1 : ∀ l x, P l → P (l ++ [x])) (l : List α) : P l := by
 have : ∀ r : List α, P r.reverse := by
  intro r
  induction r with
  | nil => exact h0
  | cons x r ih => rw [List.reverse_cons]; exact h1 _ _ ih
 have := this l.reverse
 rwa [List.reverse_reverse] at this
theorem Ao {n : Nat} {l : List Nat} (hd : l.Nodup) (hl : ∀ x ∈ l, x < n) : l.length ≤ n := by
 have : l ⊆ List.range n := fun x hx => List.mem_range.2 (hl x hx)
 have := List.Nodup.length_le_of_subset hd this
 simpa using this
theorem N_ (e : Nat → Int) (ps : List (Nat × Nat)) (f : Int) : ∃ s ≤ ps.length, tk e ps s f = false := by
 by_cases h : ∃ s ≤ ps.length, tk e ps s f = false
 ·exact h
 ·exfalso
  have h2 : List.range (ps.length + 1) ⊆ ps.map (·.2) := by
   intro s hs
   have hs := List.mem_range.1 hs
   cases ht : tk e ps s f with
   | false => exact absurd ⟨s, by omega, ht⟩ h
   | true =>
    obtain ⟨p, hp, h1, _⟩ := JU.1 ht
    exact List.mem_map.2 ⟨p, hp, h1⟩
  have := List.Nodup.length_le_of_subset List.nodup_range h2
  simp at this
  omega
def pH (e : Nat → Int) (ps : List (Nat × Nat)) (f : Int) : Nat := NU e ps f (ps.length + 1) 0
theorem Cu (ps : List (Nat × Nat)) (f : Int) : tk e ps (pH e ps f) f = false := by
 obtain ⟨s, h1, h2⟩ := N_ e ps f
 cases h : tk e ps (pH e ps f) f with
 | false => rfl
 | true =>
  have hle : pH e ps f ≤ s := by
   by_cases hc : pH e ps f ≤ s
   ·exact hc
   ·have := DC (e := e) (ps := ps) (f := f) (n := ps.length + 1) (s := 0) (Nat.zero_le s) (by unfold pH at hc; omega)
    rw [h2] at this; cases this
  have key : ∀ (n s0 : Nat), tk e ps (NU e ps f n s0) f = true → NU e ps f n s0 = s0 + n := by
   intro n
   induction n with
   | zero => intro s0 _; rfl
   | succ n ih =>
    intro s0 h
    unfold NU at h ⊢
    split
    ·rename_i hc
     rw [if_pos hc] at h
     rw [ih _ h]; omega
    ·rename_i hc
     rw [if_neg hc] at h
     exact absurd h hc
  have := key _ _ h
  unfold pH at hle
  omega
theorem xS {ps : List (Nat × Nat)} {f : Int} {s : Nat} (h : s < pH e ps f) : tk e ps s f = true := DC (Nat.zero_le _) h
theorem Ln {ps : List (Nat × Nat)} {f : Int} {t : Nat} (ht : tk e ps t f = false) (hb : ∀ s < t, tk e ps s f = true) : pH e ps f = t := by
 have h1 : ¬ pH e ps f < t := fun h => by have := hb _ h; rw [Cu] at this; cases this
 have h2 : ¬ t < pH e ps f := fun h => by have := xS h; rw [ht] at this; cases this
 omega
def gS (f e : Nat → Int) (ord : List Nat) : List (Nat × Nat) := ord.foldl (fun ps t => ps ++ [(t, pH e ps (f t))]) []
def nS (ps : List (Nat × Nat)) : Nat := ps.foldl (fun n p => max n (p.2 + 1)) 0
theorem yT {ps : List (Nat × Nat)} {p : Nat × Nat} : nS (ps ++ [p]) = max (nS ps) (p.2 + 1) := by simp [nS]
theorem Wb {ps : List (Nat × Nat)} : ∀ p ∈ ps, p.2 < nS ps := by
 induction ps using u7 with
 | h0 => intro p hp; cases hp
 | h1 ps q ih =>
  intro p hp
  rw [yT]
  rcases List.mem_append.1 hp with h | h
  ·have := ih p h; omega
  ·simp at h; subst h; omega
structure PI (e : Nat → Int) (ps : List (Nat × Nat)) (n : Nat) (F : List Int) (U : List (Int × Int)) (cur : Int) : Prop where
 perm : (F ++ U.map (·.1)).Perm ((List.range n).map Int.ofNat)
 taken : ∀ f, cur ≤ f → ∀ s : Nat, tk e ps s f = true ↔ ∃ x ∈ U, x.1 = (s : Int) ∧ f ≤ x.2
 num : n = nS ps
theorem PI.empty (cur : Int) : PI e [] 0 [] [] cur := ⟨by simp, fun f _ s => by simp [tk], rfl⟩
theorem PI.later {ps : List (Nat × Nat)} {n : Nat} {F : List Int} {U : List (Int × Int)} {cur cur' : Int} (h : PI e ps n F U cur) (hc : cur ≤ cur') : PI e ps n F U cur' :=
 ⟨h.perm, fun f hf => h.taken f (by omega), h.num⟩
theorem PI.free {ps : List (Nat × Nat)} {n : Nat} {F F' : List Int} {U U' : List (Int × Int)} {cur : Int} {x : Int × Int} (h : PI e ps n F U cur) (hU : (x :: U').Perm U) (hF : F'.Perm (x.1 :: F)) (hx : x.2 < cur) : PI e ps n F' U' cur := by
 refine ⟨?_, fun f hf s => ?_, h.num⟩
 ·refine List.Perm.trans ?_ h.perm
  have h1 : (F' ++ U'.map (·.1)).Perm (x.1 :: F ++ U'.map (·.1)) := List.Perm.append_right _ hF
  have h2 : (F ++ (x :: U').map (·.1)).Perm (F ++ U.map (·.1)) := List.Perm.append_left _ (hU.map _)
  refine List.Perm.trans h1 (List.Perm.trans ?_ h2)
  simp only [List.map_cons, List.cons_append]
  exact List.perm_middle.symm
 ·rw [h.taken f hf s]
  constructor
  ·rintro ⟨y, hy, h1, h2⟩
   rcases List.mem_cons.1 (hU.mem_iff.2 hy) with rfl | h3
   ·omega
   ·exact ⟨y, h3, h1, h2⟩
  ·rintro ⟨y, hy, h1, h2⟩
   exact ⟨y, hU.mem_iff.1 (List.mem_cons_of_mem _ hy), h1, h2⟩
theorem PI.least {ps : List (Nat × Nat)} {n : Nat} {F : List Int} {U : List (Int × Int)} {cur s : Int} (h : PI e ps n F U cur) (hU : ∀ x ∈ U, cur ≤ x.2) (hs : s ∈ F) (hm : ∀ y ∈ F, s ≤ y) : s = (pH e ps cur : Int) ∧ pH e ps cur < n := by
 have hmem : s ∈ (List.range n).map Int.ofNat := h.perm.mem_iff.1 (List.mem_append_left _ hs)
 obtain ⟨k, hk, rfl⟩ := List.mem_map.1 hmem
 have hk := List.mem_range.1 hk
 have hof : Int.ofNat k = (k : Int) := rfl
 rw [hof] at hs hm ⊢
 have hnd : (F ++ U.map (·.1)).Nodup := h.perm.nodup_iff.2 (by
  rw [List.nodup_iff_pairwise_ne, List.pairwise_map]
  refine (List.nodup_iff_pairwise_ne.1 (List.nodup_range (n := n))).imp ?_
  intro a b hab hc; exact hab (Int.ofNat.inj hc))
 have hdis := (List.nodup_append.1 hnd).2.2
 have e1 : pH e ps cur = k := by
  refine Ln ?_ fun s' hs' => ?_
  ·cases hb : tk e ps k cur with
   | false => rfl
   | true =>
    obtain ⟨x, hx, h1, h2⟩ := (h.taken cur (Int.le_refl _) k).1 hb
    exact absurd h1.symm (hdis _ hs _ (List.mem_map.2 ⟨x, hx, rfl⟩))
  ·rw [h.taken cur (Int.le_refl _) s']
   have hm' : (s' : Int) ∈ F ++ U.map (·.1) := h.perm.mem_iff.2 (List.mem_map.2 ⟨s', List.mem_range.2 (by omega), rfl⟩)
   rcases List.mem_append.1 hm' with h1 | h1
   ·have := hm _ h1; omega
   ·obtain ⟨x, hx, h2⟩ := List.mem_map.1 h1
    exact ⟨x, hx, h2, hU x hx⟩
 exact ⟨by rw [e1], by omega⟩
theorem PI.more {ps : List (Nat × Nat)} {n : Nat} {U : List (Int × Int)} {cur : Int} (h : PI e ps n [] U cur) (hU : ∀ x ∈ U, cur ≤ x.2) : pH e ps cur = n := by
 refine Ln ?_ fun s' hs' => ?_
 ·cases hb : tk e ps n cur with
  | false => rfl
  | true =>
   obtain ⟨x, hx, h1, h2⟩ := (h.taken cur (Int.le_refl _) n).1 hb
   have := h.perm.mem_iff.1 (List.mem_append_right _ (List.mem_map.2 ⟨x, hx, rfl⟩))
   rw [h1] at this
   obtain ⟨k, hk, e1⟩ := List.mem_map.1 this
   have := List.mem_range.1 hk
   have hof : Int.ofNat k = (k : Int) := rfl
   omega
 ·rw [h.taken cur (Int.le_refl _) s']
  have hm' : (s' : Int) ∈ ([] : List Int) ++ U.map (·.1) := h.perm.mem_iff.2 (List.mem_map.2 ⟨s', List.mem_range.2 (by omega), rfl⟩)
  rcases List.mem_append.1 hm' with h1 | h1
  ·cases h1
  ·obtain ⟨x, hx, h2⟩ := List.mem_map.1 h1
   exact ⟨x, hx, h2, hU x hx⟩
theorem PI.ahM {ps : List (Nat × Nat)} {n n' : Nat} {F F' : List Int} {U U' : List (Int × Int)} {cur : Int} {t : Nat} (h : PI e ps n F U cur)
  (hp : (F' ++ U'.map (·.1)).Perm ((List.range n').map Int.ofNat)) (hU : U'.Perm ((((pH e ps cur : Nat) : Int), e t) :: U)) (hn : n' = max n (pH e ps cur + 1)) (ht : cur ≤ e t) : PI e (ps ++ [(t, pH e ps cur)]) n' F' U' cur := by
 refine ⟨hp, fun f hf s => ?_, by rw [yT, ← h.num]; exact hn⟩
 rw [PR, Bool.or_eq_true, h.taken f hf s]
 constructor
 ·rintro (⟨x, hx, h1, h2⟩ | h1)
  ·exact ⟨x, hU.mem_iff.2 (List.mem_cons_of_mem _ hx), h1, h2⟩
  ·simp [tk] at h1
   exact ⟨_, hU.mem_iff.2 (List.mem_cons_self ..), by simp [h1.1], h1.2⟩
 ·rintro ⟨x, hx, h1, h2⟩
  rcases List.mem_cons.1 (hU.mem_iff.1 hx) with rfl | h3
  ·refine .inr ?_
   simp [tk]
   exact ⟨Int.ofNat.inj h1, h2⟩
  ·exact .inl ⟨x, h3, h1, h2⟩
end Hk.PS


namespace Hk.PS
variable {f e : Nat → Int}
theorem wG (ord : List Nat) (t : Nat) : gS f e (ord ++ [t]) = gS f e ord ++ [(t, pH e (gS f e ord) (f t))] := by simp [gS]
theorem wX (ord : List Nat) : (gS f e ord).map (·.1) = ord := by
 induction ord using u7 with
 | h0 => rfl
 | h1 l t ih => rw [wG, List.map_append, ih]; rfl
theorem KJ (ord : List Nat) : (gS f e ord).Pairwise fun p q => f q.1 ≤ e p.1 → p.2 ≠ q.2 := by
 induction ord using u7 with
 | h0 => exact List.Pairwise.nil
 | h1 l t ih =>
  rw [wG, List.pairwise_append]
  refine ⟨ih, List.pairwise_singleton _ _, fun p hp q hq hle => ?_⟩
  simp only [List.mem_singleton] at hq
  subst hq
  intro heq
  have := Cu (e := e) (gS f e l) (f t)
  rw [show tk e (gS f e l) (pH e (gS f e l) (f t)) (f t) = true from JU.2 ⟨p, hp, heq, hle⟩] at this
  cases this
def rY (f e : Nat → Int) (c : Int) (u : Nat) : Bool := decide (f u ≤ c) && decide (c ≤ e u)
theorem Me (ord : List Nat) (hs : ord.Pairwise fun a b => f a ≤ f b) (hfe : ∀ t ∈ ord, f t ≤ e t) : nS (gS f e ord) = 0 ∨ ∃ t ∈ ord, nS (gS f e ord) ≤ ord.countP (rY f e (f t)) := by
 induction ord using u7 with
 | h0 => exact .inl rfl
 | h1 l t ih =>
  rw [wG, yT]
  simp only
  rw [List.pairwise_append] at hs
  have hle : ∀ u ∈ l, f u ≤ f t := fun u hu => hs.2.2 u hu t (List.mem_singleton.2 rfl)
  have ih := ih hs.1 fun u hu => hfe u (List.mem_append_left _ hu)
  by_cases hm : pH e (gS f e l) (f t) + 1 ≤ nS (gS f e l)
  ·rw [Nat.max_eq_left hm]
   rcases ih with h0 | ⟨u, hu, h1⟩
   ·omega
   ·refine .inr ⟨u, List.mem_append_left _ hu, ?_⟩
    rw [List.countP_append]; omega
  ·rw [Nat.max_eq_right (by omega)]
   refine .inr ⟨t, by simp, ?_⟩
   have h1 : List.countP (rY f e (f t)) [t] = 1 := by
    simp [rY, hfe t (by simp)]
   rw [List.countP_append, h1]
   have key : List.range (pH e (gS f e l) (f t)) ⊆ ((gS f e l).filter fun p => rY f e (f t) p.1).map (·.2) := by
    intro s hs'
    obtain ⟨p, hp, h2, h3⟩ := JU.1 (xS (List.mem_range.1 hs'))
    refine List.mem_map.2 ⟨p, List.mem_filter.2 ⟨hp, ?_⟩, h2⟩
    have hpl : p.1 ∈ l := by rw [← wX (f := f) (e := e) l]; exact List.mem_map.2 ⟨p, hp, rfl⟩
    simp [rY, hle _ hpl, h3]
   have h2 := List.Nodup.length_le_of_subset List.nodup_range key
   rw [List.length_range, List.length_map, ← List.countP_eq_length_filter] at h2
   have h3 : (gS f e l).countP (fun p => rY f e (f t) p.1) = l.countP (rY f e (f t)) := by
    have e1 := List.countP_map (p := rY f e (f t)) (f := fun p : Nat × Nat => p.1) (l := gS f e l)
    rw [wX] at e1
    rw [e1]; rfl
   omega
theorem Mf (ord : List Nat) (hs : ord.Pairwise fun a b => f a ≤ f b) (hd : ord.Nodup) (hfe : ∀ t ∈ ord, f t ≤ e t) (t : Nat) : ord.countP (rY f e (f t)) ≤ nS (gS f e ord) := by
 have h3 : (gS f e ord).countP (fun p => rY f e (f t) p.1) = ord.countP (rY f e (f t)) := by
  have e1 := List.countP_map (p := rY f e (f t)) (f := fun p : Nat × Nat => p.1) (l := gS f e ord)
  rw [wX] at e1
  rw [e1]; rfl
 rw [← h3, List.countP_eq_length_filter]
 have hnd : (((gS f e ord).filter fun p => rY f e (f t) p.1).map (·.2)).Nodup := by
  rw [List.nodup_iff_pairwise_ne, List.pairwise_map]
  have hp2 : (gS f e ord).Pairwise fun p q => f p.1 ≤ f q.1 := by
   have := hs
   rw [← wX (f := f) (e := e) ord, List.pairwise_map] at this
   exact this
  have hboth := (KJ (f := f) (e := e) ord).and hp2
  refine ((List.pairwise_filter (p := fun p : Nat × Nat => rY f e (f t) p.1)).2 ?_)
  refine hboth.imp ?_
  intro p q hpq hp hq
  simp only [rY, Bool.and_eq_true, decide_eq_true_eq] at hp hq
  exact hpq.1 (by omega)
 have := Ao hnd (n := nS (gS f e ord)) (fun s hs' => by
  obtain ⟨p, hp, rfl⟩ := List.mem_map.1 hs'
  exact Wb p (List.mem_filter.1 hp).1)
 rw [List.length_map] at this
 exact this
theorem Dh (ps : List (Nat × Nat)) (c : Int) : pH e ps c ≤ ps.length := by
 obtain ⟨s, h1, h2⟩ := N_ e ps c
 by_cases h : pH e ps c ≤ s
 ·omega
 ·have := xS (e := e) (ps := ps) (f := c) (s := s) (by omega)
  rw [h2] at this; cases this
end Hk.PS


namespace Go.Proofs.YtkeoalhglkfbkaaDoor
open Go Hk
def qU (sp : List Span) (k : Nat) : List Int := ((List.range k).filter fun t => decide (0 ≤ ((sp[t]?).map (·.first)).getD (-1))).map Int.ofNat
def rV (n k : Nat) : List Int := List.replicate k (-1) ++ List.replicate (n - k) 0
theorem Pu {sp : List Span} {k : Nat} {s : Span} (h : sp[k]? = some s) : qU sp (k + 1) = if 0 ≤ s.first then qU sp k ++ [(k : Int)] else qU sp k := by
 unfold qU
 rw [List.range_succ, List.filter_append, List.map_append]
 by_cases hf : 0 ≤ s.first <;> simp [h, hf]
theorem Jz {sp : List Span} {k : Nat} : (qU sp k).length ≤ k := by
 unfold qU
 rw [List.length_map]
 have := List.length_filter_le (fun t => decide (0 ≤ ((sp[t]?).map (·.first)).getD (-1))) (List.range k)
 simpa using this
theorem M6 {n k : Nat} (h : k < n) : (rV n k).set k (-1) = rV n (k + 1) := by
 unfold rV
 have e : n - k = (n - (k + 1)) + 1 := by omega
 rw [List.set_append_right _ _ (by simp), List.length_replicate, Nat.sub_self, e, List.replicate_succ, List.set_cons_zero, List.replicate_succ', List.append_assoc]
 rfl
@[simp high] theorem agR {b0 b1 b2 b3 : lW} {R : Hk.kT} {O : List Int} {k : Nat} {v : Int} (hk : k < O.length) : lU 1 (b0 :: b1 :: b2 :: b3 :: .cells (O.map mR) :: R) (.ptr 4 k) (.int .i64 v) = some (b0 :: b1 :: b2 :: b3 :: .cells ((O.set k v).map mR) :: R) := by
 have hc : ∃ x, O[k]? = some x := ⟨_, List.getElem?_eq_getElem hk⟩
 have hd : ∃ y r, (O.map mR).drop k = y :: r ∧ sJ (b0 :: b1 :: b2 :: b3 :: .cells (O.map mR) :: R) y (.int .i64 v) = .int .i64 v := by
  rw [List.drop_eq_getElem_cons (by simpa using hk)]
  exact ⟨_, _, rfl, rfl⟩
 obtain ⟨y, r, hd, hk2⟩ := hd
 have e : pV (b0 :: b1 :: b2 :: b3 :: .cells (O.map mR) :: R) ((O.map mR).drop k) [.int .i64 v] = [.int .i64 v] := by
  rw [hd]; simp only [pV, hk2]
 have g : nJ (b0 :: b1 :: b2 :: b3 :: .cells (O.map mR) :: R) 4 = some (O.map mR) := rfl
 unfold lU
 simp only [g, kR.cells, e]
 rw [if_pos (by simp [kR.mC]; omega)]
 congr 1
 have : putCells (O.map mR) k [.int .i64 v] = (O.set k v).map mR := by
  unfold putCells
  rw [List.map_set, List.set_eq_take_append_cons_drop, if_pos (by simpa using hk)]
  simp [mR]
 rw [this]; rfl
@[simp high] theorem agN {b0 b1 b2 b3 : lW} {R : Hk.kT} {O : List Int} {k : Nat} (hk : k < O.length) : kV false 1 (b0 :: b1 :: b2 :: b3 :: .cells (O.map mR) :: R) (.ptr 4 k) = some (.int .i64 (rd O k)) := by
 have g : nJ (b0 :: b1 :: b2 :: b3 :: .cells (O.map mR) :: R) 4 = some (O.map mR) := rfl
 unfold kV
 simp only [g, apart, cond_false, List.getElem?_map, zY hk]
 rfl
theorem LP {id sz n : Nat} (h : n ≠ 0) : Vs id sz n = .vslice id n 0 n sz := if_neg h
theorem IB {α : Type} {enc : α → List kR} {sz : Nat} {xs : List α} (h : xs.length ≠ 0) : Vb enc sz xs = Vc enc sz xs := if_neg h
theorem I3 {H : Hk.kT} {id : Nat} {o : List Int} {k : Int} {T : Hk.Tok} (hb : H[id]? = some (Vb (ci .i64) 1 o)) (ho : o.length ≤ 1000000) :
  mY 1 8 H (Vs id 1 o.length) (.slice [[.int .i64 k]] T) = some (Vs id 1 (o ++ [k]).length, H.set id (Vb (ci .i64) 1 (o ++ [k]))) := by
 have h := Fe (enc := ci .i64) (sz := 1) (by_ := 8) (id := id) (h := H) (xs := o) (ys := [k]) (T := T) (fun _ => rfl) (by simp) hb
 have e : xB 8 o [k] = some (o ++ [k]) := by unfold xB; rw [if_pos (by simp; omega)]
 rw [e, vB] at h
 have n0 : (o ++ [k]).length ≠ 0 := by simp
 rw [LP n0, IB n0]
 exact h
@[simp] theorem aa9 {m : Nat} {h : Hk.kT} {o : List Int} : pA m h (Vb (ci .i64) 1 o) = some (Vb (ci .i64) 1 o) := by
 unfold Vb; split
 ·rfl
 ·exact y9 (fun x => by simp)
@[simp] theorem af7 {m n : Nat} {h : Hk.kT} (hm : 5 < m) : kR.oM m h (Vs 5 1 n) = Vs 5 1 n := by
 unfold Vs; split
 ·simp [kR.oM, kR.nM, hm]
 ·simp [kR.oM, kR.nM, hm]
@[simp] theorem Td {m : Nat} {h : Hk.kT} {O : List Int} : mP m h (O.map mR) = some (O.map mR) := by
 induction O with
 | nil => rfl
 | cons x r ih => simp only [List.map_cons, pB, ih]; rfl
@[simp] theorem aiM {m id off len sz : Nat} {h : Hk.kT} (hm : id < m) : kR.oM m h (.mslice id off len sz) = .mslice id off len sz := by simp [kR.oM, kR.nM, hm]
section
variable {p : List kR} {sp : List Span} {n k : Nat}
def Hu (p : List kR) (sp : List Span) (O o : List Int) : Hk.kT := [.cells p, .front 0 0, .cells [.slice (Rw Span.cells sp) .no], .front 0 0, .cells (O.map mR), Vb (ci .i64) 1 o]
theorem T9 (hp : ∀ m h, mP m h p = some p) (hn : sp.length = n) (hn2 : n ≤ 1000000) (hk : k < n) :
  AM KK 6 ([.slice [] (.own 1), .int .i64 0, .int .i64 0, .ptr 2 0, .mslice 4 0 n 1, Vs 5 1 (qU sp k).length, .slice (Rw Span.cells sp) .no, .int .i64 (n : Int), .int .i64 (k : Int)], Hu p sp (rV n k) (qU sp k)) =
   some (.normal, [.slice [] (.own 1), .int .i64 0, .int .i64 0, .ptr 2 0, .mslice 4 0 n 1, Vs 5 1 (qU sp (k + 1)).length, .slice (Rw Span.cells sp) .no, .int .i64 (n : Int), .int .i64 ((k + 1 : Nat) : Int)], Hu p sp (rV n (k + 1)) (qU sp (k + 1))) := by
 have hsk : sp[k]? = some sp[k] := List.getElem?_eq_getElem (by omega)
 have e1 : oO sp (k : Int) = some sp[k] := by simp [oO, hsk]
 have w1 : IntKind.i64.wrap ((k : Int) + 1) = ((k + 1 : Nat) : Int) := by rw [wrap64 (by omega) (by omega)]; omega
 have hol : k < (rV n k).length := by unfold rV; simp; omega
 have hset := M6 hk
 have hord := Pu hsk
 have hle := Jz (sp := sp) (k := k)
 have htap : xB 8 (qU sp k) [(k : Int)] = some (qU sp k ++ [(k : Int)]) := by
  unfold xB; rw [if_pos (by simp; omega)]
 have hix : kY 1 (.mslice 4 0 n 1) (.int .i64 (k : Int)) = some (.ptr 4 k) := by simp [kY, hk]
 generalize rV n k = O at *
 generalize qU sp k = o at *
 rw [hord]
 rw [← hset]
 have bx : ∀ (b0 b1 b2 b3 b4 b5 : lW) x y, lU 2 [b0, b1, b2, b3, b4, b5, .cells [.int .i64 0, .int .i64 0]] (.ptr 6 0) (.agg [.int .i64 x, .int .i64 y]) = some [b0, b1, b2, b3, b4, b5, .cells [.int .i64 x, .int .i64 y]] := fun _ _ _ _ _ _ _ _ => rfl
 by_cases hf : 0 ≤ sp[k].first
 ·have ha := fun H T h => I3 (H := H) (id := 5) (o := o) (k := (k : Int)) (T := T) h (by omega)
  simp [AM, Hu, e1, w1, hk, hol, hf, hp, hix, lP, oL, mU, kR.tK, rowsOf, ha, bx, -oQ, -List.map_set]
 ·simp [AM, Hu, e1, w1, hk, hol, hf, hp, hix, bx, -oQ, -List.map_set]
end
end Go.Proofs.YtkeoalhglkfbkaaDoor


namespace Go.Proofs.YtkeoalhglkfbkaaDoor
open Go Hk
def UH (id : Nat) (S : List pL) (n : Nat) : kR := if S = [] then .slice [] (.own id) else .vslice id S.length 0 n 2
def FH (id : Nat) (S : List Int) (n : Nat) : kR := if S = [] then .slice [] (.own id) else .vslice id S.length 0 n 1
section
variable {id m : Nat} {S : List Int} {U : List pL} {n : Nat} {h : Hk.kT}
theorem Qp : UC id U n = .cells [UH id U n, .func 90 [] []] := by unfold UC UH; split <;> rfl
theorem U9 : FC id S n = .cells [FH id S n, .func 89 [] []] := by unfold FC FH; split <;> rfl
theorem Qr (hn : n ≤ U.length) : lN (UH id U n) = some (.int .i64 (n : Int)) := by
 unfold UH; split
 ·rename_i h; subst h
  have : n = 0 := by simpa using hn
  subst this; rfl
 ·rfl
theorem Wy (hn : n ≤ S.length) : lN (FH id S n) = some (.int .i64 (n : Int)) := by
 unfold FH; split
 ·rename_i h; subst h
  have : n = 0 := by simpa using hn
  subst this; rfl
 ·rfl
theorem Qq (h0 : 0 < n) (hn : n ≤ U.length) : kY 2 (UH id U n) (.int .i64 0) = some (.vptr id U.length 0) := by
 have hne : U ≠ [] := by intro e; subst e; simp at hn; omega
 rw [UH, if_neg hne]
 simp only [kY]
 rw [if_pos ⟨by omega, by omega, trivial⟩]; rfl
theorem PB (hm : id < m) : pA m h (FC id S n) = some (FC id S n) := by
 rw [U9]; unfold FH; split <;> simp [hm, kR.mC]
theorem PC (hm : id < m) : pA m h (UC id U n) = some (UC id U n) := by
 rw [Qp]; unfold UH; split <;> simp [hm, kR.mC]
@[simp] theorem aa7 : pA m h (FV S) = some (FV S) := by
 unfold FV; split
 ·rfl
 ·exact y9 (fun x => by simp)
@[simp] theorem aa8 : pA m h (UV U) = some (UV U) := by
 unfold UV; split
 ·rfl
 ·exact y9 (fun x => by simp)
end
def HS (p : List kR) (sp : List Span) (O o : List Int) (SF : List Int) (nF : Nat) (SU : List pL) (nU : Nat) : Hk.kT :=
 [.cells p, .front 0 0, .cells [.slice (Rw Span.cells sp) .no], .front 0 0, .cells (O.map mR), Vb (ci .i64) 1 o, FC 7 SF nF, FV SF, UC 9 SU nU, UV SU]
theorem CI {p : List kR} (hp : ∀ m h, mP m h p = some p) {sp : List Span} {O o SF : List Int} {nF nU : Nat} {SU : List pL} : oA 10 (HS p sp O o SF nF SU nU) ((HS p sp O o SF nF SU nU).take 10) = some (HS p sp O o SF nF SU nU) := by
 have e : (HS p sp O o SF nF SU nU).take 10 = HS p sp O o SF nF SU nU := rfl
 rw [e]
 generalize hH : HS p sp O o SF nF SU nU = H
 conv => lhs; rw [← hH]
 rw [← hH]
 simp [HS, hp, PB, PC, -List.map_set]
section
variable {p : List kR} (hp : ∀ m h, mP m h p = some p) {sp : List Span} {O o SF : List Int} {nF nU N t k ns : Nat} {SU : List pL} {s : Span}
include hp
theorem NY (hs : sp[t]? = some s) (hU : nU ≤ SU.length) (h : nU = 0 ∨ 0 < nU ∧ ¬ (rt SU 0).last < s.first) :
  Ck KK 10 ([.slice [] (.own 1), .int .i64 0, .int .i64 0, .ptr 2 0, .mslice 4 0 N 1, .ptr 6 0, .ptr 8 0, .int .i64 (ns : Int), .int .i64 (t : Int), Vs 5 1 o.length, .int .i64 (o.length : Int), .int .i64 (k : Int)], HS p sp O o SF nF SU nU) =
   some (.exit 4, [.slice [] (.own 1), .int .i64 0, .int .i64 0, .ptr 2 0, .mslice 4 0 N 1, .ptr 6 0, .ptr 8 0, .int .i64 (ns : Int), .int .i64 (t : Int), Vs 5 1 o.length, .int .i64 (o.length : Int), .int .i64 (k : Int)], HS p sp O o SF nF SU nU) := by
 have hl := Qr (id := 9) hU
 have ht := CI hp (sp := sp) (O := O) (o := o) (SF := SF) (nF := nF) (SU := SU) (nU := nU)
 have l8 : kV false 1 (HS p sp O o SF nF SU nU) (.ptr 8 0) = some (UH 9 SU nU) := by simp [HS, Qp]
 have l2 : kV false 1 (HS p sp O o SF nF SU nU) (.ptr 2 0) = some (.slice (Rw Span.cells sp) .no) := by simp [HS]
 have hlen : (HS p sp O o SF nF SU nU).length = 10 := rfl
 have e1 : oO sp (t : Int) = some s := by simp [oO, hs]
 rcases h with h0 | ⟨h0, hlt⟩
 ·generalize HS p sp O o SF nF SU nU = H at *
  subst h0
  simp [Ck, l8, hl, ht]
 ·have hne : SU ≠ [] := by intro e; subst e; simp at hU; omega
  have hi := Qq (id := 9) h0 hU
  have ld : kV false 1 (HS p sp O o SF nF SU nU) (.vptr 9 SU.length 1) = some (.int .i64 (rt SU 0).last) := by
   have e9 : (HS p sp O o SF nF SU nU)[9]? = some (Vc pL.cells 2 SU) := by unfold HS UV; rw [if_neg hne]; rfl
   have := AD (enc := pL.cells) (sz := 2) (h := HS p sp O o SF nF SU nU) (id := 9) (xs := SU) (tot := SU.length) (j := 0) (off := 1) (fun _ => rfl) e9 (by omega)
   rw [Nat.zero_mul, Nat.zero_add, s6, if_pos rfl, A0 (List.length_pos_iff.2 hne)] at this
   exact this
  generalize HS p sp O o SF nF SU nU = H at *
  have hz : (0 : Int) < (nU : Int) := by omega
  simp [Ck, l8, l2, hl, ht, h0, hi, ld, e1, hlt, -mD, -sU]
theorem Ua (hs : sp[t]? = some s) (hU : nU + 1 ≤ SU.length) (hUl : SU.length ≤ 1000000) (hUh : PQ.kT pL.last (SU.take (nU + 1))) (hF : nF ≤ SF.length) (hFl : SF.length ≤ 1000000) (hFh : PQ.kT (fun x => x) (SF.take nF)) (h : (rt SU 0).last < s.first) :
  ∃ SF' SU', Ck KK 10 ([.slice [] (.own 1), .int .i64 0, .int .i64 0, .ptr 2 0, .mslice 4 0 N 1, .ptr 6 0, .ptr 8 0, .int .i64 (ns : Int), .int .i64 (t : Int), Vs 5 1 o.length, .int .i64 (o.length : Int), .int .i64 (k : Int)], HS p sp O o SF nF SU (nU + 1)) =
   some (.normal, [.slice [] (.own 1), .int .i64 0, .int .i64 0, .ptr 2 0, .mslice 4 0 N 1, .ptr 6 0, .ptr 8 0, .int .i64 (ns : Int), .int .i64 (t : Int), Vs 5 1 o.length, .int .i64 (o.length : Int), .int .i64 (k : Int)], HS p sp O o SF' (nF + 1) SU' nU) ∧
   SU'.length = SU.length ∧ PQ.kT pL.last (SU'.take nU) ∧ (rt SU 0 :: SU'.take nU).Perm (SU.take (nU + 1)) ∧
   nF + 1 ≤ SF'.length ∧ SF'.length ≤ max SF.length (nF + 1) ∧ PQ.kT (fun x => x) (SF'.take (nF + 1)) ∧ (SF'.take (nF + 1)).Perm ((rt SU 0).slot :: SF.take nF) := by
 obtain ⟨SU', k1, k2, k3, k4⟩ := c92 (b0 := .cells p) (b1 := .front 0 0) (b2 := .cells [.slice (Rw Span.cells sp) .no]) (b3 := .front 0 0) (b4 := .cells (O.map mR)) (b5 := Vb (ci .i64) 1 o) (b8 := FC 7 SF nF) (b9 := FV SF) hU hUl hUh
 obtain ⟨SF', j1, j2, j3, j4, j5⟩ := c91 (b0 := .cells p) (b1 := .front 0 0) (b2 := .cells [.slice (Rw Span.cells sp) .no]) (b3 := .front 0 0) (b4 := .cells (O.map mR)) (b5 := Vb (ci .i64) 1 o) (b8 := UC 9 SU' nU) (b9 := UV SU') (rt SU 0).slot hF hFl hFh
 refine ⟨SF', SU', ?_, k2, k3, k4, j2, j3, j4, j5⟩
 have hl := Qr (id := 9) hU
 have ht := CI hp (sp := sp) (O := O) (o := o) (SF := SF') (nF := nF + 1) (SU := SU') (nU := nU)
 have l8 : kV false 1 (HS p sp O o SF nF SU (nU + 1)) (.ptr 8 0) = some (UH 9 SU (nU + 1)) := by simp [HS, Qp]
 have l2 : kV false 1 (HS p sp O o SF nF SU (nU + 1)) (.ptr 2 0) = some (.slice (Rw Span.cells sp) .no) := by simp [HS]
 have e1 : oO sp (t : Int) = some s := by simp [oO, hs]
 have hne : SU ≠ [] := by intro e; subst e; simp at hU
 have hi := Qq (id := 9) (Nat.succ_pos nU) hU
 have ld : kV false 1 (HS p sp O o SF nF SU (nU + 1)) (.vptr 9 SU.length 1) = some (.int .i64 (rt SU 0).last) := by
  have e9 : (HS p sp O o SF nF SU (nU + 1))[9]? = some (Vc pL.cells 2 SU) := by unfold HS UV; rw [if_neg hne]; rfl
  have := AD (enc := pL.cells) (sz := 2) (h := HS p sp O o SF nF SU (nU + 1)) (id := 9) (xs := SU) (tot := SU.length) (j := 0) (off := 1) (fun _ => rfl) e9 (by omega)
  rw [Nat.zero_mul, Nat.zero_add, s6, if_pos rfl, A0 (List.length_pos_iff.2 hne)] at this
  exact this
 have k1 : KK 92 [.ptr 8 0] (HS p sp O o SF nF SU (nU + 1)) = some (.ret (.agg [.int .i64 (rt SU 0).slot, .int .i64 (rt SU 0).last]), HS p sp O o SF nF SU' nU) := k1
 have j1 : KK 91 [.ptr 6 0, .int .i64 (rt SU 0).slot] (HS p sp O o SF nF SU' nU) = some (.ret (.tuple []), HS p sp O o SF' (nF + 1) SU' nU) := j1
 generalize HS p sp O o SF nF SU (nU + 1) = H at *
 generalize HS p sp O o SF nF SU' nU = H1 at *
 generalize HS p sp O o SF' (nF + 1) SU' nU = H2 at *
 simp [Ck, l8, l2, hl, ht, hi, ld, e1, h, k1, j1, -mD, -sU]
end
end Go.Proofs.YtkeoalhglkfbkaaDoor


namespace Go.Proofs.YtkeoalhglkfbkaaDoor
open Go Hk
def pr (l : List pL) : List (Int × Int) := l.map fun x => (x.slot, x.last)
structure HG (N : Nat) (SF : List Int) (nF : Nat) (SU : List pL) (nU : Nat) : Prop where
 f1 : nF ≤ SF.length
 f2 : SF.length ≤ N
 f3 : PQ.kT (fun x => x) (SF.take nF)
 u1 : nU ≤ SU.length
 u2 : SU.length ≤ N
 u3 : PQ.kT pL.last (SU.take nU)
theorem Qm {e : Nat → Int} {ps : List (Nat × Nat)} {n : Nat} {F : List Int} {U : List (Int × Int)} {cur : Int} (h : PS.PI e ps n F U cur) : F.length + U.length = n := by
 have := h.perm.length_eq
 simpa using this
section
variable {p : List kR} (hp : ∀ m h, mP m h p = some p) {sp : List Span} {O o : List Int} {N t k ns : Nat} {s : Span} {e : Nat → Int} {ps : List (Nat × Nat)}
include hp
theorem T_ (hs : sp[t]? = some s) (hN : N ≤ 1000000) (hns : ns ≤ N) : ∀ (nU nF : Nat) (SF : List Int) (SU : List pL), HG N SF nF SU nU → PS.PI e ps ns (SF.take nF) (pr (SU.take nU)) s.first →
  ∃ SF' nF' SU' nU', mJ (Ck KK 10) ([.slice [] (.own 1), .int .i64 0, .int .i64 0, .ptr 2 0, .mslice 4 0 N 1, .ptr 6 0, .ptr 8 0, .int .i64 (ns : Int), .int .i64 (t : Int), Vs 5 1 o.length, .int .i64 (o.length : Int), .int .i64 (k : Int)], HS p sp O o SF nF SU nU) =
   some (.exit 4, [.slice [] (.own 1), .int .i64 0, .int .i64 0, .ptr 2 0, .mslice 4 0 N 1, .ptr 6 0, .ptr 8 0, .int .i64 (ns : Int), .int .i64 (t : Int), Vs 5 1 o.length, .int .i64 (o.length : Int), .int .i64 (k : Int)], HS p sp O o SF' nF' SU' nU') ∧
   HG N SF' nF' SU' nU' ∧ PS.PI e ps ns (SF'.take nF') (pr (SU'.take nU')) s.first ∧ ∀ x ∈ pr (SU'.take nU'), s.first ≤ x.2 := by
 intro nU
 induction nU with
 | zero =>
  intro nF SF SU hg hpi
  refine ⟨SF, nF, SU, 0, ?_, hg, hpi, by simp [pr]⟩
  rw [mE, NY hp hs hg.u1 (.inl rfl)]; rfl
 | succ nU ih =>
  intro nF SF SU hg hpi
  by_cases hlt : (rt SU 0).last < s.first
  ·obtain ⟨SF', SU', h1, h2, h3, h4, h5, h6, h7, h8⟩ := Ua hp (O := O) (o := o) (N := N) (k := k) (ns := ns) hs hg.u1 (by have := hg.u2; omega) hg.u3 hg.f1 (by have := hg.f2; omega) hg.f3 hlt
   have hc := Qm hpi
   simp only [pr, List.length_map, List.length_take] at hc
   have g1 := hg.f1
   have g2 := hg.u1
   have g3 := hg.f2
   have g4 := hg.u2
   have hpi' : PS.PI e ps ns (SF'.take (nF + 1)) (pr (SU'.take nU)) s.first := hpi.free (x := ((rt SU 0).slot, (rt SU 0).last)) (h4.map fun x : pL => (x.slot, x.last)) h8 hlt
   obtain ⟨SF2, nF2, SU2, nU2, r1, r2⟩ := ih (nF + 1) SF' SU' ⟨h5, by omega, h7, by omega, by omega, h3⟩ hpi'
   refine ⟨SF2, nF2, SU2, nU2, ?_, r2⟩
   rw [mE, h1]
   simp only [Option.bind_some, pC]
   exact r1
  ·refine ⟨SF, nF, SU, nU + 1, ?_, hg, hpi, fun x hx => ?_⟩
   ·rw [mE, NY hp hs hg.u1 (.inr ⟨by omega, hlt⟩)]; rfl
   ·obtain ⟨y, hy, rfl⟩ := List.mem_map.1 hx
    obtain ⟨j, hj⟩ := List.getElem?_of_mem hy
    have hjl : j < (SU.take (nU + 1)).length := (List.getElem?_eq_some_iff.1 hj).1
    have hmin := PQ.KM hg.u3 j hjl
    have hn := hg.u1
    rw [HR hn (by omega), PQ.NX hj] at hmin
    simp only
    omega
end
end Go.Proofs.YtkeoalhglkfbkaaDoor


namespace Go.Proofs.YtkeoalhglkfbkaaDoor
open Go Hk
theorem Wx {id : Nat} {S : List Int} {n : Nat} {C : Hk.kT} {c0 c1 c2 c3 c4 c5 : lW} : kV false 1 (c0 :: c1 :: c2 :: c3 :: c4 :: c5 :: FC id S n :: C) (.ptr 6 0) = some (FH id S n) := by simp [U9]
theorem Zs {S : List Int} {n : Nat} (hn : n ≤ S.length) (hh : PQ.kT (fun x => x) (S.take n)) : ∀ y ∈ S.take n, rd S 0 ≤ y := by
 intro y hy
 obtain ⟨j, hj⟩ := List.getElem?_of_mem hy
 have hjl : j < (S.take n).length := (List.getElem?_eq_some_iff.1 hj).1
 have hmin := PQ.KM hh j hjl
 have hjn : j < n := by rw [List.length_take] at hjl; omega
 rw [HQ hn (by omega), PQ.NX hj] at hmin
 exact hmin
theorem R5 {S : List Int} {n : Nat} (hn : n ≤ S.length) (h0 : 0 < n) : rd S 0 ∈ S.take n := by
 have : (S.take n)[0]? = some (rd S 0) := by rw [List.getElem?_take_of_lt h0, zY (by omega)]
 exact List.mem_of_getElem? this
structure L2 (N : Nat) (e : Nat → Int) (ps : List (Nat × Nat)) (ns : Nat) (SF : List Int) (nF : Nat) (SU : List pL) (nU : Nat) (cur : Int) : Prop where
 hg : HG N SF nF SU nU
 pi : PS.PI e ps ns (SF.take nF) (pr (SU.take nU)) cur
 b : ns ≤ N
section
variable {p : List kR} (hp : ∀ m h, mP m h p = some p) {sp : List Span} {O o : List Int} {N t k ns nF nU : Nat} {SF : List Int} {SU : List pL} {s : Span} {e : Nat → Int} {ps : List (Nat × Nat)} {cur : Int}
include hp
theorem Uc (hk : o[k]? = some (t : Int)) (hol : o.length ≤ 1000000) (hs : sp[t]? = some s) (hN : N ≤ 1000000) (ht : t < N) (hO : O.length = N) (hc : cur ≤ s.first) (hfl : s.first ≤ s.last) (he : e t = s.last) (hps : ps.length < N) (L : L2 N e ps ns SF nF SU nU cur) :
    ∃ (SF' : List Int) (nF' : Nat) (SU' : List pL) (nU' ns' : Nat), AO KK 10 ([.slice [] (.own 1), .int .i64 0, .int .i64 0, .ptr 2 0, .mslice 4 0 N 1, .ptr 6 0, .ptr 8 0, .int .i64 (ns : Int), Vs 5 1 o.length, .int .i64 (o.length : Int), .int .i64 (k : Int)], HS p sp O o SF nF SU nU) =
      some (.normal, [.slice [] (.own 1), .int .i64 0, .int .i64 0, .ptr 2 0, .mslice 4 0 N 1, .ptr 6 0, .ptr 8 0, .int .i64 (ns' : Int), Vs 5 1 o.length, .int .i64 (o.length : Int), .int .i64 ((k + 1 : Nat) : Int)], HS p sp (O.set t ((PS.pH e ps s.first : Nat) : Int)) o SF' nF' SU' nU') ∧
      L2 N e (ps ++ [(t, PS.pH e ps s.first)]) ns' SF' nF' SU' nU' s.first := by
  have hkl : k < o.length := (List.getElem?_eq_some_iff.1 hk).1
  have hnsN := L.b
  obtain ⟨SF1, nF1, SU1, nU1, e1, g1, p1, q1⟩ := T_ hp (O := O) (o := o) (k := k) hs hN hnsN nU nF SF SU L.hg (L.pi.later hc)
  have hsl := PS.Dh (e := e) ps s.first
  obtain ⟨SF2, nF2, ns2, f1, f2, f3, f4, f5, f6, fcode⟩ : ∃ (SF2 : List Int) (nF2 ns2 : Nat), nF2 + 1 ≤ SF2.length ∧ SF2.length ≤ N ∧ PQ.kT (fun x => x) (SF2.take (nF2 + 1)) ∧
      (SF2.take (nF2 + 1) ++ (pr (SU1.take nU1)).map (·.1)).Perm ((List.range ns2).map Int.ofNat) ∧ rd SF2 0 = ((PS.pH e ps s.first : Nat) : Int) ∧ ns2 = max ns (PS.pH e ps s.first + 1) ∧
      ((nF1 = 0 ∧ KK 91 [.ptr 6 0, .int .i64 (ns : Int)] (HS p sp O o SF1 nF1 SU1 nU1) = some (.ret (.tuple []), HS p sp O o SF2 (nF2 + 1) SU1 nU1) ∧ ns2 = ns + 1) ∨
       (0 < nF1 ∧ SF2 = SF1 ∧ nF2 + 1 = nF1 ∧ ns2 = ns)) := by
    have g11 := g1.f1
    have g12 := g1.f2
    rcases Nat.eq_zero_or_pos nF1 with h0 | h0
    · subst h0
      have hmore := PS.PI.more (by simpa using p1) q1
      obtain ⟨S', j1, j2, j3, j4, j5⟩ := c91 (b0 := .cells p) (b1 := .front 0 0) (b2 := .cells [.slice (Rw Span.cells sp) .no]) (b3 := .front 0 0) (b4 := .cells (O.map mR)) (b5 := Vb (ci .i64) 1 o) (b8 := UC 9 SU1 nU1) (b9 := UV SU1) (S := SF1) (n := 0) (ns : Int) (Nat.zero_le _) (by omega) g1.f3
      have hone : S'.take (0 + 1) = [(ns : Int)] := by
        simp only [List.take_zero] at j5
        exact List.perm_singleton.1 j5
      refine ⟨S', 0, ns + 1, j2, by omega, j4, ?_, ?_, by omega, .inl ⟨rfl, j1, rfl⟩⟩
      · have hp1 := p1.perm
        simp only [List.take_zero, List.nil_append] at hp1
        rw [hone, List.range_succ, List.map_append]
        exact (List.perm_append_comm (l₁ := [(ns : Int)])).trans (List.Perm.append_right _ hp1)
      · have := R5 (S := S') (n := 0 + 1) j2 (by omega)
        rw [hone] at this
        simp at this
        rw [this, hmore]
    · obtain ⟨m, rfl⟩ : ∃ m, nF1 = m + 1 := ⟨nF1 - 1, by omega⟩
      obtain ⟨h1, h2⟩ := p1.least (s := rd SF1 0) q1 (R5 g11 h0) (Zs g11 g1.f3)
      exact ⟨SF1, m, ns, g11, g12, g1.f3, p1.perm, h1, by omega, .inr ⟨h0, rfl, rfl, rfl⟩⟩
  generalize hslot : PS.pH e ps s.first = slot at *
  obtain ⟨SF3, t1, t2, t3, t4⟩ := c93 (b0 := .cells p) (b1 := .front 0 0) (b2 := .cells [.slice (Rw Span.cells sp) .no]) (b3 := .front 0 0) (b4 := .cells (O.map mR)) (b5 := Vb (ci .i64) 1 o) (b8 := UC 9 SU1 nU1) (b9 := UV SU1) f1 (by omega) f3
  have g13 := g1.u1
  have g14 := g1.u2
  obtain ⟨SU4, v1, v2, v3, v4, v5⟩ := c94 (b0 := .cells p) (b1 := .front 0 0) (b2 := .cells [.slice (Rw Span.cells sp) .no]) (b3 := .front 0 0) (b4 := .cells ((O.set t (slot : Int)).map mR)) (b5 := Vb (ci .i64) 1 o) (b8 := FC 7 SF3 nF2) (b9 := FV SF3) ⟨(slot : Int), s.last⟩ g13 (by omega) g1.u3
  have hcount : nU1 + 1 ≤ N := by
    have := f4.length_eq
    simp only [pr, List.length_append, List.length_map, List.length_take, List.length_range] at this
    omega
  refine ⟨SF3, nF2, SU4, nU1 + 1, ns2, ?_, ⟨⟨by omega, by omega, t3, v2, by omega, v4⟩, ?_, by omega⟩⟩
  · have t1 : KK 93 [.ptr 6 0] (HS p sp O o SF2 (nF2 + 1) SU1 nU1) = some (.ret (.int .i64 (slot : Int)), HS p sp O o SF3 nF2 SU1 nU1) := by rw [← f5]; exact t1
    have v1 : KK 94 [.ptr 8 0, .agg [.int .i64 (slot : Int), .int .i64 s.last]] (HS p sp (O.set t (slot : Int)) o SF3 nF2 SU1 nU1) = some (.ret (.tuple []), HS p sp (O.set t (slot : Int)) o SF3 nF2 SU4 (nU1 + 1)) := v1
    have ht := CI hp (sp := sp) (O := O.set t (slot : Int)) (o := o) (SF := SF3) (nF := nF2) (SU := SU4) (nU := nU1 + 1)
    have hlen : (HS p sp O o SF nF SU nU).length = 10 := rfl
    have hfl1 := Wy (id := 7) (n := nF1) (S := SF1) g1.f1
    have l6 : kV false 1 (HS p sp O o SF1 nF1 SU1 nU1) (.ptr 6 0) = some (FH 7 SF1 nF1) := Wx
    have lo : kV false 1 (HS p sp O o SF nF SU nU) (.vptr 5 o.length k) = some (.int .i64 (t : Int)) := by
      have ho : o.length ≠ 0 := by omega
      have e5 : (HS p sp O o SF nF SU nU)[5]? = some (Vc (ci .i64) 1 o) := by show some (Vb (ci .i64) 1 o) = _; rw [IB ho]
      have := AD (enc := ci .i64) (sz := 1) (h := HS p sp O o SF nF SU nU) (id := 5) (xs := o) (tot := o.length) (j := k) (off := 0) (fun _ => rfl) e5 (by omega)
      rw [Nat.mul_one, Nat.add_zero, s6, if_pos rfl, hk] at this
      exact this
    have hio : kY 1 (Vs 5 1 o.length) (.int .i64 (k : Int)) = some (.vptr 5 o.length k) := by
      rw [LP (by omega)]
      simp [kY, hkl]
    have Am : kY 1 (.mslice 4 0 N 1) (.int .i64 (t : Int)) = some (.ptr 4 t) := by simp [kY, ht]; omega
    have st : lU 1 (HS p sp O o SF3 nF2 SU1 nU1) (.ptr 4 t) (.int .i64 (slot : Int)) = some (HS p sp (O.set t (slot : Int)) o SF3 nF2 SU1 nU1) := agR (by omega)
    have ldt : kV false 1 (HS p sp (O.set t (slot : Int)) o SF3 nF2 SU1 nU1) (.ptr 4 t) = some (.int .i64 (slot : Int)) := by
      have h4 := agN (b0 := .cells p) (b1 := .front 0 0) (b2 := .cells [.slice (Rw Span.cells sp) .no]) (b3 := .front 0 0) (R := [Vb (ci .i64) 1 o, FC 7 SF3 nF2, FV SF3, UC 9 SU1 nU1, UV SU1]) (O := O.set t (slot : Int)) (k := t) (by simp; omega)
      have h5 : rd (O.set t (slot : Int)) t = (slot : Int) := by
        have := zY (S := O.set t (slot : Int)) (j := t) (by simp; omega)
        rw [List.getElem?_set_self (by omega)] at this
        exact (Option.some.inj this).symm
      rw [h5] at h4; exact h4
    have l2 : kV false 1 (HS p sp (O.set t (slot : Int)) o SF3 nF2 SU1 nU1) (.ptr 2 0) = some (.slice (Rw Span.cells sp) .no) := by simp [HS]
    have es : oO sp (t : Int) = some s := by simp [oO, hs]
    have w1 : IntKind.i64.wrap ((k : Int) + 1) = ((k + 1 : Nat) : Int) := by rw [wrap64 (by omega) (by omega)]; omega
    have w2 : IntKind.i64.wrap ((ns : Int) + 1) = ((ns + 1 : Nat) : Int) := by rw [wrap64 (by omega) (by omega)]; omega
    generalize HS p sp O o SF nF SU nU = H0 at *
    generalize HS p sp (O.set t (slot : Int)) o SF3 nF2 SU4 (nU1 + 1) = H5 at *
    generalize HS p sp (O.set t (slot : Int)) o SF3 nF2 SU1 nU1 = H4 at *
    generalize HS p sp O o SF3 nF2 SU1 nU1 = H3 at *
    rcases fcode with ⟨hn0, k1, hns2⟩ | ⟨hn0, hSF, hnF, hns2⟩
    · subst hns2
      subst hn0
      generalize HS p sp O o SF2 (nF2 + 1) SU1 nU1 = H2 at *
      generalize HS p sp O o SF1 0 SU1 nU1 = H1 at *
      simp [AO, hlen, hkl, hio, lo, e1, l6, hfl1, k1, t1, Am, st, ldt, l2, es, v1, ht, w1, w2, -mD, -sU, -oQ]
    · subst hns2
      subst hSF
      subst hnF
      generalize HS p sp O o SF2 (nF2 + 1) SU1 nU1 = H1 at *
      have hz : ¬ ((nF2 : Int) + 1 = 0) := by omega
      simp [hz, AO, hlen, hkl, hio, lo, e1, l6, hfl1, t1, Am, st, ldt, l2, es, v1, ht, w1, w2, -mD, -sU, -oQ]
  · have hpi := p1.ahM (t := t) (n' := ns2) (F' := SF3.take nF2) (U' := pr (SU4.take (nU1 + 1))) ?_ ?_ ?_ ?_
    · rw [hslot] at hpi; exact hpi
    · have h1 : (pr (SU4.take (nU1 + 1))).Perm (pr (⟨(slot : Int), s.last⟩ :: SU1.take nU1)) := v5.map _
      have h2 : ((SF3.take nF2) ++ (pr (SU4.take (nU1 + 1))).map (·.1)).Perm ((SF3.take nF2) ++ (slot : Int) :: (pr (SU1.take nU1)).map (·.1)) := List.Perm.append_left _ (h1.map _)
      refine h2.trans (List.perm_middle.trans ?_)
      rw [← f5]
      exact (List.Perm.append_right _ t4).trans f4
    · rw [hslot, he]; exact v5.map _
    · rw [hslot]; exact f6
    · rw [he]; exact hfl
end
end Go.Proofs.YtkeoalhglkfbkaaDoor


namespace Go.Proofs.YtkeoalhglkfbkaaDoor
open Go Hk
def fS (sp : List Span) (t : Nat) : Int := ((sp[t]?).map (·.first)).getD (-1)
def eS (sp : List Span) (t : Nat) : Int := ((sp[t]?).map (·.last)).getD (-1)
def He (sp : List Span) (x : Int) : Int := (vQ (Rw Span.cells sp) x).getD 0
theorem Li {sp : List Span} {t : Nat} (h : t < sp.length) : vQ (Rw Span.cells sp) (t : Int) = some (fS sp t) := by
 unfold vQ fS Rw
 rw [if_pos (by omega)]
 simp [List.getElem?_eq_getElem h]
theorem NV {sp : List Span} {t : Nat} (h : t < sp.length) : He sp (t : Int) = fS sp t := by unfold He; rw [Li h]; rfl
def rR (sp : List Span) : List Int := y_ (p6 (He sp)) (qU sp sp.length)
def nB (sp : List Span) : List Nat := (rR sp).map Int.toNat
theorem La {sp : List Span} {x : Int} : x ∈ qU sp sp.length ↔ ∃ t : Nat, x = (t : Int) ∧ t < sp.length ∧ 0 ≤ fS sp t := by
 unfold qU fS
 rw [List.mem_map]
 constructor
 ·rintro ⟨t, ht, rfl⟩
  rw [List.mem_filter, List.mem_range, decide_eq_true_eq] at ht
  exact ⟨t, rfl, ht.1, ht.2⟩
 ·rintro ⟨t, rfl, h1, h2⟩
  exact ⟨t, by rw [List.mem_filter, List.mem_range, decide_eq_true_eq]; exact ⟨h1, h2⟩, rfl⟩
theorem AT {sp : List Span} {x : Int} : x ∈ rR sp ↔ ∃ t : Nat, x = (t : Int) ∧ t < sp.length ∧ 0 ≤ fS sp t := by
 unfold rR; rw [sC.mem_iff, La]
theorem RS {sp : List Span} : (rR sp).length ≤ sp.length := by
 unfold rR; rw [sC.length_eq]; exact Jz
theorem N6 {sp : List Span} : rR sp = (nB sp).map Int.ofNat := by
 unfold nB
 rw [List.map_map]
 have : ∀ x ∈ rR sp, (Int.ofNat ∘ Int.toNat) x = x := by
  intro x hx
  obtain ⟨t, rfl, _⟩ := AT.1 hx
  rfl
 rw [List.map_congr_left this, List.map_id']
theorem q7 {sp : List Span} {t : Nat} : t ∈ nB sp ↔ t < sp.length ∧ 0 ≤ fS sp t := by
 unfold nB
 rw [List.mem_map]
 constructor
 ·rintro ⟨x, hx, rfl⟩
  obtain ⟨t, rfl, h1, h2⟩ := AT.1 hx
  exact ⟨h1, h2⟩
 ·rintro ⟨h1, h2⟩
  exact ⟨(t : Int), AT.2 ⟨t, rfl, h1, h2⟩, rfl⟩
theorem Lb {sp : List Span} : (nB sp).length ≤ sp.length := by unfold nB; rw [List.length_map]; exact RS
theorem xL {sp : List Span} : (nB sp).Pairwise fun a b => fS sp a < fS sp b ∨ fS sp a = fS sp b ∧ a ≤ b := by
 have h := Dj (key := He sp) (l := qU sp sp.length)
 have h2 : (rR sp).Pairwise fun a b => p6 (He sp) a b = true := h
 unfold nB
 rw [List.pairwise_map]
 refine List.Pairwise.imp_of_mem ?_ h2
 intro a b ha hb hab
 obtain ⟨t, rfl, ht, _⟩ := AT.1 ha
 obtain ⟨u, rfl, hu, _⟩ := AT.1 hb
 simp only [p6, Bool.or_eq_true, Bool.and_eq_true, decide_eq_true_eq, NV ht, NV hu] at hab
 simp only [Int.toNat_natCast]
 omega
theorem zU {sp : List Span} : (nB sp).Nodup := by
 have h : (qU sp sp.length).Nodup := by
  unfold qU
  rw [List.nodup_iff_pairwise_ne, List.pairwise_map]
  refine (List.nodup_iff_pairwise_ne.1 (List.Pairwise.filter _ (List.nodup_range (n := sp.length)))).imp ?_
  intro a b hab hc; exact hab (Int.ofNat.inj hc)
 have h2 : (rR sp).Nodup := (sC.nodup_iff).2 h
 rw [N6] at h2
 rw [List.nodup_iff_pairwise_ne, List.pairwise_map] at h2
 rw [List.nodup_iff_pairwise_ne]
 exact h2.imp fun h e => h (by rw [e])
def tO (n : Nat) (ps : List (Nat × Nat)) : List Int := ps.foldl (fun O q => O.set q.1 (q.2 : Int)) (List.replicate n (-1))
theorem sY {n : Nat} {ps : List (Nat × Nat)} : (tO n ps).length = n := by
 induction ps using PS.u7 with
 | h0 => simp [tO]
 | h1 l q ih => unfold tO at ih ⊢; rw [List.foldl_append]; simpa using ih
theorem AU {n : Nat} {ps : List (Nat × Nat)} {q : Nat × Nat} : tO n (ps ++ [q]) = (tO n ps).set q.1 (q.2 : Int) := by simp [tO]
section
variable {p : List kR} (hp : ∀ m h, mP m h p = some p) {sp : List Span} {n : Nat}
include hp
theorem T8 (hn : sp.length = n) (hn2 : n ≤ 1000000) : ∀ (d k : Nat), n = k + d →
  mJ (AM KK 6) ([.slice [] (.own 1), .int .i64 0, .int .i64 0, .ptr 2 0, .mslice 4 0 n 1, Vs 5 1 (qU sp k).length, .slice (Rw Span.cells sp) .no, .int .i64 (n : Int), .int .i64 (k : Int)], Hu p sp (rV n k) (qU sp k)) =
   some (.exit 0, [.slice [] (.own 1), .int .i64 0, .int .i64 0, .ptr 2 0, .mslice 4 0 n 1, Vs 5 1 (qU sp n).length, .slice (Rw Span.cells sp) .no, .int .i64 (n : Int), .int .i64 (n : Int)], Hu p sp (rV n n) (qU sp n)) := by
 intro d
 induction d with
 | zero =>
  intro k hk
  obtain rfl : k = n := by omega
  rw [mE]
  have : AM KK 6 ([.slice [] (.own 1), .int .i64 0, .int .i64 0, .ptr 2 0, .mslice 4 0 k 1, Vs 5 1 (qU sp k).length, .slice (Rw Span.cells sp) .no, .int .i64 (k : Int), .int .i64 (k : Int)], Hu p sp (rV k k) (qU sp k)) =
   some (.exit 0, [.slice [] (.own 1), .int .i64 0, .int .i64 0, .ptr 2 0, .mslice 4 0 k 1, Vs 5 1 (qU sp k).length, .slice (Rw Span.cells sp) .no, .int .i64 (k : Int), .int .i64 (k : Int)], Hu p sp (rV k k) (qU sp k)) := by
   simp [AM, Hu, hp, -List.map_set]
  rw [this]; rfl
 | succ d ih =>
  intro k hk
  rw [mE, T9 hp hn hn2 (by omega)]
  simp only [Option.bind_some, pC]
  exact ih (k + 1) (by omega)
end
end Go.Proofs.YtkeoalhglkfbkaaDoor


namespace Go.Proofs.YtkeoalhglkfbkaaDoor
open Go Hk
theorem NI (o : List Int) : (Rw (ci .i64) o).flatten = o.map mR := by
 induction o with
 | nil => rfl
 | cons y s ih => simp only [Rw, List.map_cons, List.flatten_cons] at ih ⊢; rw [ih]; rfl
theorem LY (o : List Int) : D9 (o.map mR) = some o := by
 induction o with
 | nil => rfl
 | cons y s ih => simp only [List.map_cons, mR, D9] at ih ⊢; rw [ih]; rfl
theorem c85 {p : List kR} {sp : List Span} {O : List Int} (hn : sp.length ≤ 1000000) :
  KK 85 [kR.k8 (Vs 5 1 (qU sp sp.length).length), kR.k8 (.func 86 [] [.ptr 2 0])] (Hu p sp O (qU sp sp.length)) = some (.ret (.tuple []), Hu p sp O (rR sp)) := by
 have e : KK 85 [kR.k8 (Vs 5 1 (qU sp sp.length).length), kR.k8 (.func 86 [] [.ptr 2 0])] (Hu p sp O (qU sp sp.length)) = Eu 86 [kR.k8 (Vs 5 1 (qU sp sp.length).length), .func 86 [] [.ptr 2 0]] (Hu p sp O (qU sp sp.length)) := by
  show EP Tryd.prog nC 85 _ _ = _
  rw [IU]; rfl
 rw [e]
 have hmem : ∀ x ∈ qU sp sp.length, ∃ t : Nat, x = (t : Int) ∧ t < sp.length := fun x hx => by
  obtain ⟨t, h1, h2, _⟩ := La.1 hx; exact ⟨t, h1, h2⟩
 have hle := Jz (sp := sp) (k := sp.length)
 have hord : rR sp = y_ (p6 (He sp)) (qU sp sp.length) := rfl
 rw [hord]
 generalize qU sp sp.length = o at *
 by_cases h0 : o.length = 0
 ·have : o = [] := List.eq_nil_of_length_eq_zero h0
  subst this
  rfl
 ·have hvs : kR.k8 (Vs 5 1 o.length) = .vslice 5 o.length 0 o.length 1 := by rw [LP h0]; rfl
  have hvb : Hu p sp O o = [.cells p, .front 0 0, .cells [.slice (Rw Span.cells sp) .no], .front 0 0, .cells (O.map mR), .vec o.length 1 (o.map mR)] := by
   unfold Hu; rw [IB h0, Vc, NI]
  have hall : ((Rw Span.cells sp).all fun r => r.length == 2) = true := by simp [Rw, Span.cells]
  have hkey : (o.all fun x => (vQ (Rw Span.cells sp) x).isSome) = true := by
   rw [List.all_eq_true]
   intro x hx
   obtain ⟨t, rfl, ht⟩ := hmem x hx
   rw [Li ht]; rfl
  have hsl : (y_ (p6 (He sp)) o).length = o.length := sC.length_eq
  rw [hvs, hvb]
  have htk : D9 ((o.map mR).take o.length) = some o := by rw [List.take_of_length_le (by simp), LY]
  have hg : nA [.cells p, .front 0 0, .cells [.slice (Rw Span.cells sp) .no], .front 0 0, .cells (O.map mR), .vec o.length 1 (o.map mR)] 5 o.length = some (1, o.map mR) := by simp [nA]
  have h2 : ([.cells p, .front 0 0, .cells [.slice (Rw Span.cells sp) .no], .front 0 0, .cells (O.map mR), .vec o.length 1 (o.map mR)] : Hk.kT)[2]? = some (.cells [.slice (Rw Span.cells sp) .no]) := rfl
  have hc0 : ([.slice (Rw Span.cells sp) .no] : List kR)[0]? = some (.slice (Rw Span.cells sp) .no) := rfl
  simp only [Eu, hg, h2, hc0, htk]
  rw [if_pos ⟨trivial, by omega, trivial, by omega, by simp, by omega, hall, hkey⟩]
  have hvb2 : Hu p sp O (y_ (p6 (He sp)) o) = [.cells p, .front 0 0, .cells [.slice (Rw Span.cells sp) .no], .front 0 0, .cells (O.map mR), .vec o.length 1 ((y_ (p6 (He sp)) o).map mR)] := by
   unfold Hu; rw [IB (by omega), Vc, NI, hsl]
  rw [hvb2]
  have hpc : putCells (o.map mR) 0 ((y_ (p6 fun x => (vQ (Rw Span.cells sp) x).getD 0) o).map (kR.int .i64)) = (y_ (p6 (He sp)) o).map mR := by
   unfold putCells
   rw [List.take_zero, List.nil_append, Nat.zero_add, List.drop_eq_nil_of_le (by rw [List.length_map, List.length_map]; have : (y_ (p6 fun x => (vQ (Rw Span.cells sp) x).getD 0) o).length = o.length := sC.length_eq; omega), List.append_nil]
   rfl
  rw [hpc]; rfl
section
variable {p : List kR} (hp : ∀ m h, mP m h p = some p) {sp : List Span} {n : Nat}
include hp
theorem Ub (hn : sp.length = n) (hn2 : n ≤ 1000000) (hfe : ∀ s ∈ sp, 0 ≤ s.first → s.first ≤ s.last) : ∀ (d k : Nat) (SF : List Int) (nF : Nat) (SU : List pL) (nU ns : Nat) (cur : Int), (nB sp).length = k + d →
  (∀ j, k ≤ j → (h : j < (nB sp).length) → cur ≤ fS sp (nB sp)[j]) → L2 n (eS sp) (PS.gS (fS sp) (eS sp) ((nB sp).take k)) ns SF nF SU nU cur →
  ∃ (SF' : List Int) (nF' : Nat) (SU' : List pL) (nU' : Nat), mJ (AO KK 10) ([.slice [] (.own 1), .int .i64 0, .int .i64 0, .ptr 2 0, .mslice 4 0 n 1, .ptr 6 0, .ptr 8 0, .int .i64 (ns : Int), Vs 5 1 (rR sp).length, .int .i64 ((rR sp).length : Int), .int .i64 (k : Int)], HS p sp (tO n (PS.gS (fS sp) (eS sp) ((nB sp).take k))) (rR sp) SF nF SU nU) =
   some (.exit 2, [.slice [] (.own 1), .int .i64 0, .int .i64 0, .ptr 2 0, .mslice 4 0 n 1, .ptr 6 0, .ptr 8 0, .int .i64 ((PS.nS (PS.gS (fS sp) (eS sp) (nB sp)) : Nat) : Int), Vs 5 1 (rR sp).length, .int .i64 ((rR sp).length : Int), .int .i64 ((nB sp).length : Int)], HS p sp (tO n (PS.gS (fS sp) (eS sp) (nB sp))) (rR sp) SF' nF' SU' nU') := by
 have hol : (rR sp).length = (nB sp).length := by unfold nB; simp
 intro d
 induction d with
 | zero =>
  intro k SF nF SU nU ns cur hk _ L
  have hk' : k = (nB sp).length := by omega
  rw [hk', List.take_length] at L ⊢
  refine ⟨SF, nF, SU, nU, ?_⟩
  have hns : ns = PS.nS (PS.gS (fS sp) (eS sp) (nB sp)) := L.pi.num
  rw [← hns, mE]
  have ht := CI hp (sp := sp) (O := tO n (PS.gS (fS sp) (eS sp) (nB sp))) (o := rR sp) (SF := SF) (nF := nF) (SU := SU) (nU := nU)
  generalize HS p sp (tO n (PS.gS (fS sp) (eS sp) (nB sp))) (rR sp) SF nF SU nU = H at *
  have : AO KK 10 ([.slice [] (.own 1), .int .i64 0, .int .i64 0, .ptr 2 0, .mslice 4 0 n 1, .ptr 6 0, .ptr 8 0, .int .i64 (ns : Int), Vs 5 1 (rR sp).length, .int .i64 ((rR sp).length : Int), .int .i64 ((nB sp).length : Int)], H) =
   some (.exit 2, [.slice [] (.own 1), .int .i64 0, .int .i64 0, .ptr 2 0, .mslice 4 0 n 1, .ptr 6 0, .ptr 8 0, .int .i64 (ns : Int), Vs 5 1 (rR sp).length, .int .i64 ((rR sp).length : Int), .int .i64 ((nB sp).length : Int)], H) := by
   simp [AO, hol, ht]
  rw [this]; rfl
 | succ d ih =>
  intro k SF nF SU nU ns cur hk hcur L
  have hkl : k < (nB sp).length := by omega
  obtain ⟨ht1, ht2⟩ := q7.1 (List.getElem_mem hkl)
  have hsp : sp[(nB sp)[k]]? = some sp[(nB sp)[k]] := List.getElem?_eq_getElem ht1
  have hf : fS sp (nB sp)[k] = sp[(nB sp)[k]].first := by unfold fS; rw [hsp]; rfl
  have he : eS sp (nB sp)[k] = sp[(nB sp)[k]].last := by unfold eS; rw [hsp]; rfl
  have hok : (rR sp)[k]? = some (((nB sp)[k] : Nat) : Int) := by
   rw [N6, List.getElem?_map, List.getElem?_eq_getElem hkl]; rfl
  have hlen : (PS.gS (fS sp) (eS sp) ((nB sp).take k)).length = k := by
   rw [← List.length_map (f := (·.1)), PS.wX, List.length_take]; omega
  have hsl := Lb (sp := sp)
  obtain ⟨SF', nF', SU', nU', ns', h1, h2⟩ := Uc hp (O := tO n (PS.gS (fS sp) (eS sp) ((nB sp).take k))) (o := rR sp) hok (by omega) hsp hn2 (by omega) sY (by have := hcur k (Nat.le_refl _) hkl; omega) (hfe _ (List.getElem_mem ht1) (by omega)) he (by omega) L
  have hstep : PS.gS (fS sp) (eS sp) ((nB sp).take (k + 1)) = PS.gS (fS sp) (eS sp) ((nB sp).take k) ++ [((nB sp)[k], PS.pH (eS sp) (PS.gS (fS sp) (eS sp) ((nB sp).take k)) sp[(nB sp)[k]].first)] := by
   rw [List.take_succ_eq_append_getElem hkl, PS.wG, hf]
  rw [← hstep] at h2
  obtain ⟨SF2, nF2, SU2, nU2, h3⟩ := ih (k + 1) SF' nF' SU' nU' ns' _ (by omega) (fun j hj hjl => by
   have := List.pairwise_iff_getElem.1 (xL (sp := sp)) k j hkl hjl (by omega)
   rw [← hf]
   omega) h2
  refine ⟨SF2, nF2, SU2, nU2, ?_⟩
  rw [mE, h1]
  simp only [Option.bind_some, pC]
  rw [hstep, AU] at h3
  exact h3
end
end Go.Proofs.YtkeoalhglkfbkaaDoor


namespace Go.Proofs.YtkeoalhglkfbkaaDoor
open Go Hk
def J6 (sp : List Span) : List (Nat × Nat) := PS.gS (fS sp) (eS sp) (nB sp)
def A3 (sp : List Span) : List Int := tO sp.length (J6 sp)
def EK (sp : List Span) : Int := ((PS.nS (J6 sp) : Nat) : Int)
theorem Pw {n : Nat} {f e : Nat → Int} : rV n n = tO n (PS.gS f e []) := by simp [rV, tO, PS.gS]
theorem JE (O : List Int) : mU (O.map mR) = some (O.map mR) := by
 induction O with
 | nil => rfl
 | cons x r ih => simp only [List.map_cons, mU, ih]; rfl
theorem Lj (O : List Int) : rowsOf O.length 1 (O.map mR) = Rw (ci .i64) O := by
 induction O with
 | nil => rfl
 | cons x r ih => simp only [List.length_cons, List.map_cons, rowsOf, List.take_succ_cons, List.take_zero, List.drop_succ_cons, List.drop_zero, ih]; rfl
theorem US {b0 b1 b2 b3 : lW} {R : Hk.kT} {O : List Int} {n : Nat} (hO : O.length = n) : kR.nM 0 (b0 :: b1 :: b2 :: b3 :: .cells (O.map mR) :: R) (.mslice 4 0 n 1) = .slice (Rw (ci .i64) O) .no := by
 subst hO
 have g : (b0 :: b1 :: b2 :: b3 :: .cells (O.map mR) :: R : Hk.kT)[4]? = some (.cells (O.map mR)) := rfl
 have ht : (((O.map mR).drop 0).take (O.length * 1)) = O.map mR := by rw [List.drop_zero, Nat.mul_one, List.take_of_length_le (by simp)]
 simp only [kR.nM, g, ht, JE]
 simp [Lj]
@[simp] theorem VU {f : Nat} {x y : List kR} : kR.oI (.func f x y) = false := (rfl)
@[simp] theorem L4 {f : Nat} {x y : List kR} : kR.cells (.func f x y) = [.func f x y] := (rfl)
theorem Lx {i f : Nat} : mV i [.slice [] .nil, .func f [] []] = ([.slice [] (.own i), .func f [] []], [.front 0 0]) := rfl
theorem c47 {p : IR} {sp : List Span} {n : Nat} (hn : sp.length = n) (hn2 : n ≤ 1000000) (hfe : ∀ s ∈ sp, 0 ≤ s.first → s.first ≤ s.last)
  (h45 : ∀ h, KK 45 [.agg [.int .i64 p.temps, .slice (Rw mK.cells p.arrays) .no, .slice (Rw lX.cells p.blocks) .no, .int .i64 p.inn, .int .i64 p.out]] h = some (.ret (.tuple [.slice (Rw Span.cells sp) .no, .int .i64 0]), h)) (h : Hk.kT) :
  KK 47 [.agg [.int .i64 p.temps, .slice (Rw mK.cells p.arrays) .no, .slice (Rw lX.cells p.blocks) .no, .int .i64 p.inn, .int .i64 p.out]] h =
   some (.ret (.tuple [.slice (Rw (ci .i64) (A3 sp)) .no, .int .i64 (EK sp), .int .i64 0]), h) := by
 refine lZ rfl rfl (mN (Ry _ _ _) ?_)
 have hp : ∀ m h, mP m h [.int .i64 p.temps, .slice (Rw mK.cells p.arrays) .no, .slice (Rw lX.cells p.blocks) .no, .int .i64 p.inn, .int .i64 p.out] = some [.int .i64 p.temps, .slice (Rw mK.cells p.arrays) .no, .slice (Rw lX.cells p.blocks) .no, .int .i64 p.inn, .int .i64 p.out] := fun m h => by simp
 have hl0 := T8 hp (sp := sp) (n := n) hn hn2 n 0 (by omega)
 have hs := c85 (p := [.int .i64 p.temps, .slice (Rw mK.cells p.arrays) .no, .slice (Rw lX.cells p.blocks) .no, .int .i64 p.inn, .int .i64 p.out]) (sp := sp) (O := rV n n) (by omega)
 obtain ⟨SF, nF, SU, nU, hl2⟩ := Ub hp hn hn2 hfe (nB sp).length 0 [] 0 [] 0 0 0 (by omega) (fun j _ hj => (q7.1 (List.getElem_mem hj)).2)
  ⟨⟨Nat.le_refl _, Nat.zero_le _, fun j _ hj => by simp at hj, Nat.le_refl _, Nat.zero_le _, fun j _ hj => by simp at hj⟩, PS.PI.empty 0, Nat.zero_le _⟩
 have hmk : ∀ H : Hk.kT, H.length = 4 → pD 1 8 [.int .i64 0] (.int .i64 (n : Int)) H = some (.mslice 4 0 n 1, H ++ [.cells ((rV n 0).map mR)]) := by
  intro H hH
  unfold pD
  simp only [Int.toNat_natCast]
  rw [if_pos ⟨by omega, by omega, by omega⟩, hH]
  have : (List.replicate n [kR.int .i64 0]).flatten = (rV n 0).map mR := by
   simp [rV, mR]
  rw [this]
 subst hn
 have hle : (qU sp sp.length).length = (rR sp).length := sC.length_eq.symm
 rw [hle] at hl0 hs
 have hl0' : mJ (AM KK 6) ([.slice [] (.own 1), .int .i64 0, .int .i64 0, .ptr 2 0, .mslice 4 0 sp.length 1, .slice [] (.own 5), .slice (Rw Span.cells sp) .no, .int .i64 (sp.length : Int), .int .i64 0], [.cells [.int .i64 p.temps, .slice (Rw mK.cells p.arrays) .no, .slice (Rw lX.cells p.blocks) .no, .int .i64 p.inn, .int .i64 p.out], .front 0 0, .cells [.slice (Rw Span.cells sp) .no], .front 0 0, .cells ((rV sp.length 0).map mR), .front 0 0]) = some (.exit 0, [.slice [] (.own 1), .int .i64 0, .int .i64 0, .ptr 2 0, .mslice 4 0 sp.length 1, Vs 5 1 (rR sp).length, .slice (Rw Span.cells sp) .no, .int .i64 (sp.length : Int), .int .i64 (sp.length : Int)], Hu [.int .i64 p.temps, .slice (Rw mK.cells p.arrays) .no, .slice (Rw lX.cells p.blocks) .no, .int .i64 p.inn, .int .i64 p.out] sp (rV sp.length sp.length) (qU sp sp.length)) := hl0
 have hl2' : mJ (AO KK 10) ([.slice [] (.own 1), .int .i64 0, .int .i64 0, .ptr 2 0, .mslice 4 0 sp.length 1, .ptr 6 0, .ptr 8 0, .int .i64 0, Vs 5 1 (rR sp).length, .int .i64 ((rR sp).length : Int), .int .i64 0],
  [.cells [.int .i64 p.temps, .slice (Rw mK.cells p.arrays) .no, .slice (Rw lX.cells p.blocks) .no, .int .i64 p.inn, .int .i64 p.out], .front 0 0, .cells [.slice (Rw Span.cells sp) .no], .front 0 0, .cells ((rV sp.length sp.length).map mR), Vb (ci .i64) 1 (rR sp), .cells [.slice [] (.own 7), .func 89 [] []], .front 0 0, .cells [.slice [] (.own 9), .func 90 [] []], .front 0 0]) =
  some (.exit 2, [.slice [] (.own 1), .int .i64 0, .int .i64 0, .ptr 2 0, .mslice 4 0 sp.length 1, .ptr 6 0, .ptr 8 0, .int .i64 (EK sp), Vs 5 1 (rR sp).length, .int .i64 ((rR sp).length : Int), .int .i64 ((nB sp).length : Int)], HS [.int .i64 p.temps, .slice (Rw mK.cells p.arrays) .no, .slice (Rw lX.cells p.blocks) .no, .int .i64 p.inn, .int .i64 p.out] sp (A3 sp) (rR sp) SF nF SU nU) := by
   rw [Pw (f := fS sp) (e := eS sp)]; exact hl2
 have hfin := fun b0 b1 b2 b3 R => US (b0 := b0) (b1 := b1) (b2 := b2) (b3 := b3) (R := R) (O := A3 sp) (n := sp.length) sY
 have hs' : KK 85 [kR.k8 (Vs 5 1 (rR sp).length), kR.k8 (.func 86 [] [.ptr 2 0])] (Hu [.int .i64 p.temps, .slice (Rw mK.cells p.arrays) .no, .slice (Rw lX.cells p.blocks) .no, .int .i64 p.inn, .int .i64 p.out] sp (rV sp.length sp.length) (qU sp sp.length)) = some (.ret (.tuple []), [.cells [.int .i64 p.temps, .slice (Rw mK.cells p.arrays) .no, .slice (Rw lX.cells p.blocks) .no, .int .i64 p.inn, .int .i64 p.out], .front 0 0, .cells [.slice (Rw Span.cells sp) .no], .front 0 0, .cells ((rV sp.length sp.length).map mR), Vb (ci .i64) 1 (rR sp)]) := hs
 clear hl0 hs hl2
 generalize Hu [.int .i64 p.temps, .slice (Rw mK.cells p.arrays) .no, .slice (Rw lX.cells p.blocks) .no, .int .i64 p.inn, .int .i64 p.out] sp (rV sp.length sp.length) (qU sp sp.length) = H0 at *
 simp [m47, h45, hmk, hl0', -List.map_set, hs', Fw, hl2', HS, Lx]
 simp only [kR.oM, List.map_cons, List.map_nil, hfin]
 rfl
end Go.Proofs.YtkeoalhglkfbkaaDoor


namespace Go.Proofs.YtkeoalhglkfbkaaDoor
open Go Hk
noncomputable def Ru (mm : Nat) (aA : R) : Option (n_ × kT) :=
 (fun aB aC aD => Ex.nV aA.1 (nE mm (.tuple [aB, aC]) aD)) (gd aA.2.1 0) (gd aA.2.1 1) aA.2.2
theorem YN (n : Int) (h : kT) : oK 2 16 [(.int .i64 0), (.int .i64 0)] (.int .i64 n) h = tm (Sx 16 ((⟨0, 0⟩ : Span) : Span) n) fun l => (.vslice h.length l.length 0 l.length 2, h ++ [Vc Span.cells 2 l]) := xY rfl
theorem ZB (y0 : Int) (y1 : Int) (h : kT) (id tot j : Nat) (xs : List Span) : Oe 2 id h (some (Vc Span.cells 2 xs)) tot (j * 2) (.agg [(.int .i64 y0), (.int .i64 y1)]) = tb (s6 tot xs j) fun x => tm (Au tot xs j (⟨y0, y1⟩ : Span)) fun zs => h.set id (Vc Span.cells 2 zs) := SJ (enc := Span.cells) (⟨y0, y1⟩ : Span) (fun _ => rfl) (by decide) rfl rfl
noncomputable def Ji (K : k9) (m : Nat) (s : List kR × kT) : Option R :=
 (fun aD aE aF aG aH aC aB aA aI => bo .lss aA aB fun aK => lG aK ((nO [(.int .i64 0), (.int .i64 0)] [(0, 1), (1, 1)] [(0, (.int .i64 (-1))), (1, (.int .i64 (-1)))]).bind fun aL => ix 2 aC aA fun aM => (lU 2 aI aM aL).bind fun aJ => bo .add aA (.int .i64 1) fun aN => lC m .normal [aD, aE, aF, aG, aH, aC, aB, aN] aJ) (lC m (.exit 0) [aD, aE, aF, aG, aH, aC, aB, aA] aI)) (gd s.1 0) (gd s.1 1) (gd s.1 2) (gd s.1 3) (gd s.1 4) (gd s.1 5) (gd s.1 6) (gd s.1 7) s.2
noncomputable def DY (aB : (List Span)) (aE : Int) (aA : Int × (List Span)) : Option (Ey × Int × (List Span)) :=
 tc (decide (aA.1 < aE)) (tb ((BM (List.length aB) aA.1)) fun aC => tb ((s6 (List.length aB) aA.2 aC)) fun aF => tb ((Au (List.length aB) aA.2 aC (⟨(-1), (-1)⟩ : Span))) fun aD => some (.n, ((IntKind.wrap .i64 (aA.1 + 1)), aD))) (some ((.x 0), (aA.1, aA.2)))
theorem W1 (w40 : (List (List Int))) (w41 : (List (List Int))) (l38 : (List Span)) (w44 : Int) (p0 : IR) (s45 : Int × (List Span)) : Ji KK 3 ([(.ptr 0 0), (.slice (Rw Span.cells []) (.own 1)), (.int .i64 0), (.slice (Rw (wV (ci .i64)) w40) .no), (.slice (Rw (wV (ci .i64)) w41) .no), (.vslice 2 (List.length l38) 0 (List.length l38) 2), (.int .i64 w44), (.int .i64 s45.1)], ([.cells [(.int .i64 p0.temps), (.slice (Rw mK.cells p0.arrays) .no), (.slice (Rw lX.cells p0.blocks) .no), (.int .i64 p0.inn), (.int .i64 p0.out)], .front 0 0, Vc Span.cells 2 s45.2] : kT)) = tm (DY l38 w44 s45) fun r => (r.1.ex, [(.ptr 0 0), (.slice (Rw Span.cells []) (.own 1)), (.int .i64 0), (.slice (Rw (wV (ci .i64)) w40) .no), (.slice (Rw (wV (ci .i64)) w41) .no), (.vslice 2 (List.length l38) 0 (List.length l38) 2), (.int .i64 w44), (.int .i64 r.2.1)], ([.cells [(.int .i64 p0.temps), (.slice (Rw mK.cells p0.arrays) .no), (.slice (Rw lX.cells p0.blocks) .no), (.int .i64 p0.inn), (.int .i64 p0.out)], .front 0 0, Vc Span.cells 2 r.2.2] : kT)) := by
 simp +contextual -implicitDefEqProofs (maxSteps := 2000000) [-lS, -lK, -lD, -lF, -lL, -lQ, -lJ, Ji, DY, ZB]
theorem Y5 (w40 : (List (List Int))) (w41 : (List (List Int))) (l38 : (List Span)) (w44 : Int) (p0 : IR) (i6 : Int) (i8 : (List Span)) : mJ (Ji KK 3) ([(.ptr 0 0), (.slice (Rw Span.cells []) (.own 1)), (.int .i64 0), (.slice (Rw (wV (ci .i64)) w40) .no), (.slice (Rw (wV (ci .i64)) w41) .no), (.vslice 2 (List.length l38) 0 (List.length l38) 2), (.int .i64 w44), (.int .i64 i6)], ([.cells [(.int .i64 p0.temps), (.slice (Rw mK.cells p0.arrays) .no), (.slice (Rw lX.cells p0.blocks) .no), (.int .i64 p0.inn), (.int .i64 p0.out)], .front 0 0, Vc Span.cells 2 i8] : kT)) = tm (v_ (DY l38 w44) (i6, i8)) fun r => (r.1.ex, [(.ptr 0 0), (.slice (Rw Span.cells []) (.own 1)), (.int .i64 0), (.slice (Rw (wV (ci .i64)) w40) .no), (.slice (Rw (wV (ci .i64)) w41) .no), (.vslice 2 (List.length l38) 0 (List.length l38) 2), (.int .i64 w44), (.int .i64 r.2.1)], ([.cells [(.int .i64 p0.temps), (.slice (Rw mK.cells p0.arrays) .no), (.slice (Rw lX.cells p0.blocks) .no), (.int .i64 p0.inn), (.int .i64 p0.out)], .front 0 0, Vc Span.cells 2 r.2.2] : kT)) := by
 exact w6 (enc := fun s45 => ([(.ptr 0 0), (.slice (Rw Span.cells []) (.own 1)), (.int .i64 0), (.slice (Rw (wV (ci .i64)) w40) .no), (.slice (Rw (wV (ci .i64)) w41) .no), (.vslice 2 (List.length l38) 0 (List.length l38) 2), (.int .i64 w44), (.int .i64 s45.1)], ([.cells [(.int .i64 p0.temps), (.slice (Rw mK.cells p0.arrays) .no), (.slice (Rw lX.cells p0.blocks) .no), (.int .i64 p0.inn), (.int .i64 p0.out)], .front 0 0, Vc Span.cells 2 s45.2] : kT))) (fun s45 => W1 w40 w41 l38 w44 p0 s45) (i6, i8)
theorem acL (l38 : (List Span)) (w96 : Int) (u107 : (List Int)) (p0 : IR) (w99 : (List Span)) (u101 : lX) : KK 83 [(.vslice 2 (List.length l38) 0 (List.length l38) 2), (.int .i64 w96), (.slice (Rw (ci .i64) u107) .no)] ([.cells [(.int .i64 p0.temps), (.slice (Rw mK.cells p0.arrays) .no), (.slice (Rw lX.cells p0.blocks) .no), (.int .i64 p0.inn), (.int .i64 p0.out)], .front 0 0, Vc Span.cells 2 w99, .cells [(.slice (Rw Op.cells u101.ops) .no), (.int .i64 u101.term.kind), (.int .i64 u101.term.a), (.int .i64 u101.term.yes), (.int .i64 u101.term.no)], .front 0 0] : kT) = tm (t83 (List.length l38) w96 u107 w99) fun r => (.ret (.tuple []), ([.cells [(.int .i64 p0.temps), (.slice (Rw mK.cells p0.arrays) .no), (.slice (Rw lX.cells p0.blocks) .no), (.int .i64 p0.inn), (.int .i64 p0.out)], .front 0 0, Vc Span.cells 2 r, .cells [(.slice (Rw Op.cells u101.ops) .no), (.int .i64 u101.term.kind), (.int .i64 u101.term.a), (.int .i64 u101.term.yes), (.int .i64 u101.term.no)], .front 0 0] : kT)) := by
 refine uJ (ids := [2]) rfl rfl ?_ ?_ rfl ?_ (Gb ..) (b83 (List.length l38) w96 u107 w99) fun r => ?_
 all_goals simp
theorem acM (l38 : (List Span)) (w145 : Int) (r142 : (List Int)) (p0 : IR) (w146 : (List Span)) (u101 : lX) (u134 : Op) : KK 83 [(.vslice 2 (List.length l38) 0 (List.length l38) 2), (.int .i64 w145), (.slice (Rw (ci .i64) r142) .no)] ([.cells [(.int .i64 p0.temps), (.slice (Rw mK.cells p0.arrays) .no), (.slice (Rw lX.cells p0.blocks) .no), (.int .i64 p0.inn), (.int .i64 p0.out)], .front 0 0, Vc Span.cells 2 w146, .cells [(.slice (Rw Op.cells u101.ops) .no), (.int .i64 u101.term.kind), (.int .i64 u101.term.a), (.int .i64 u101.term.yes), (.int .i64 u101.term.no)], .front 0 0, .cells [(.int .i64 u134.kind), (.int .i64 u134.dst), (.int .i64 u134.a), (.int .i64 u134.b), (.int .i64 u134.c), (.int .i64 u134.imm)]] : kT) = tm (t83 (List.length l38) w145 r142 w146) fun r => (.ret (.tuple []), ([.cells [(.int .i64 p0.temps), (.slice (Rw mK.cells p0.arrays) .no), (.slice (Rw lX.cells p0.blocks) .no), (.int .i64 p0.inn), (.int .i64 p0.out)], .front 0 0, Vc Span.cells 2 r, .cells [(.slice (Rw Op.cells u101.ops) .no), (.int .i64 u101.term.kind), (.int .i64 u101.term.a), (.int .i64 u101.term.yes), (.int .i64 u101.term.no)], .front 0 0, .cells [(.int .i64 u134.kind), (.int .i64 u134.dst), (.int .i64 u134.a), (.int .i64 u134.b), (.int .i64 u134.c), (.int .i64 u134.imm)]] : kT)) := by
 refine uJ (ids := [2]) rfl rfl ?_ ?_ rfl ?_ (Gb ..) (b83 (List.length l38) w145 r142 w146) fun r => ?_
 all_goals simp
theorem Xg (y0 : Int) (h : kT) : lP 1 1 [(.int .i64 0)] [(0, (.int .i64 y0))] h = some (.slice (Rw (ci .i64) [y0]) (.own h.length), h ++ [sD 1 1]) := by
 rfl
theorem acN (l38 : (List Span)) (w152 : Int) (w161 : (List Int)) (p0 : IR) (r147 : (List Span)) (u101 : lX) (u134 : Op) : KK 83 [(.vslice 2 (List.length l38) 0 (List.length l38) 2), (.int .i64 w152), (.slice (Rw (ci .i64) w161) .no)] ([.cells [(.int .i64 p0.temps), (.slice (Rw mK.cells p0.arrays) .no), (.slice (Rw lX.cells p0.blocks) .no), (.int .i64 p0.inn), (.int .i64 p0.out)], .front 0 0, Vc Span.cells 2 r147, .cells [(.slice (Rw Op.cells u101.ops) .no), (.int .i64 u101.term.kind), (.int .i64 u101.term.a), (.int .i64 u101.term.yes), (.int .i64 u101.term.no)], .front 0 0, .cells [(.int .i64 u134.kind), (.int .i64 u134.dst), (.int .i64 u134.a), (.int .i64 u134.b), (.int .i64 u134.c), (.int .i64 u134.imm)], sD 1 1] : kT) = tm (t83 (List.length l38) w152 w161 r147) fun r => (.ret (.tuple []), ([.cells [(.int .i64 p0.temps), (.slice (Rw mK.cells p0.arrays) .no), (.slice (Rw lX.cells p0.blocks) .no), (.int .i64 p0.inn), (.int .i64 p0.out)], .front 0 0, Vc Span.cells 2 r, .cells [(.slice (Rw Op.cells u101.ops) .no), (.int .i64 u101.term.kind), (.int .i64 u101.term.a), (.int .i64 u101.term.yes), (.int .i64 u101.term.no)], .front 0 0, .cells [(.int .i64 u134.kind), (.int .i64 u134.dst), (.int .i64 u134.a), (.int .i64 u134.b), (.int .i64 u134.c), (.int .i64 u134.imm)], sD 1 1] : kT)) := by
 refine uJ (ids := [2]) rfl rfl ?_ ?_ rfl ?_ (Gb ..) (b83 (List.length l38) w152 w161 r147) fun r => ?_
 all_goals simp
noncomputable def My (K : k9) (m : Nat) (aS : kR) (aR : kR) (aO : kT) (aA : kR) (aB : kR) (aK : kR) (aL : kR) (aM : kR) (aN : kR) (aC : kR) (aD : kR) (aE : kR) (aF : kR) (aG : kR) (aH : kR) (aI : kR) (aJ : kR) : Option R :=
 lG aS (fa 1 aR fun aT => ld false 1 aO aT fun aU => lE (lP 1 1 [(.int .i64 0)] [(0, aU)] aO) fun aV aP => ca (K 83 [(kR.k8 aA), (kR.k8 aB), (kR.k8 aV)] aP) fun aW aQ => lC m .normal [aK, aL, aM, aN, aA, aB, aC, aD, aE, aF, aG, aH, aI, aJ] aQ) (lC m .normal [aK, aL, aM, aN, aA, aB, aC, aD, aE, aF, aG, aH, aI, aJ] aO)
noncomputable def Cy (aB : Bool) (aA : (List Span)) (aD : Op) (aF : (List Span)) (aE : Int) : Option ((List Span)) :=
 tc aB (tb ((t83 (List.length aF) aE [aD.dst] aA)) fun aC => some aC) (some aA)
theorem Y4 (r151 : Bool) (p0 : IR) (r147 : (List Span)) (u101 : lX) (u134 : Op) (l38 : (List Span)) (w152 : Int) (w78 : (List (List Int))) (w79 : (List (List Int))) (w97 : Int) (w82 : Int) (w115 : Int) (w153 : Int) : (My KK 6 (.bool r151) (.ptr 5 0) ([.cells [(.int .i64 p0.temps), (.slice (Rw mK.cells p0.arrays) .no), (.slice (Rw lX.cells p0.blocks) .no), (.int .i64 p0.inn), (.int .i64 p0.out)], .front 0 0, Vc Span.cells 2 r147, .cells [(.slice (Rw Op.cells u101.ops) .no), (.int .i64 u101.term.kind), (.int .i64 u101.term.a), (.int .i64 u101.term.yes), (.int .i64 u101.term.no)], .front 0 0, .cells [(.int .i64 u134.kind), (.int .i64 u134.dst), (.int .i64 u134.a), (.int .i64 u134.b), (.int .i64 u134.c), (.int .i64 u134.imm)]] : kT) (.vslice 2 (List.length l38) 0 (List.length l38) 2) (.int .i64 w152) (.slice (Rw Span.cells []) (.own 1)) (.int .i64 0) (.slice (Rw (wV (ci .i64)) w78) .no) (.slice (Rw (wV (ci .i64)) w79) .no) (.int .i64 w97) (.ptr 3 0) (.slice (Rw lX.cells p0.blocks) .no) (.int .i64 w82) (.int .i64 w97) (.slice (Rw Op.cells u101.ops) .no) (.int .i64 w115) (.int .i64 w153)) = tm (Cy r151 r147 u134 l38 w152) fun r => (.normal, [(.slice (Rw Span.cells []) (.own 1)), (.int .i64 0), (.slice (Rw (wV (ci .i64)) w78) .no), (.slice (Rw (wV (ci .i64)) w79) .no), (.vslice 2 (List.length l38) 0 (List.length l38) 2), (.int .i64 w152), (.int .i64 w97), (.ptr 3 0), (.slice (Rw lX.cells p0.blocks) .no), (.int .i64 w82), (.int .i64 w97), (.slice (Rw Op.cells u101.ops) .no), (.int .i64 w115), (.int .i64 w153)], ([.cells [(.int .i64 p0.temps), (.slice (Rw mK.cells p0.arrays) .no), (.slice (Rw lX.cells p0.blocks) .no), (.int .i64 p0.inn), (.int .i64 p0.out)], .front 0 0, Vc Span.cells 2 r, .cells [(.slice (Rw Op.cells u101.ops) .no), (.int .i64 u101.term.kind), (.int .i64 u101.term.a), (.int .i64 u101.term.yes), (.int .i64 u101.term.no)], .front 0 0, .cells [(.int .i64 u134.kind), (.int .i64 u134.dst), (.int .i64 u134.a), (.int .i64 u134.b), (.int .i64 u134.c), (.int .i64 u134.imm)]] : kT)) := by
 simp +contextual -implicitDefEqProofs (maxSteps := 2000000) [-lS, -lK, -lD, -lF, -lL, -lQ, -lJ, My, Cy, Xg, acN]
noncomputable def Jj (K : k9) (m : Nat) (s : List kR × kT) : Option R :=
 (fun aL aM aN aO aE aF aG aH aI aJ aK aC aD aB aY => bo .lss aB aD fun bH => lG bH (ix 6 aC aB fun bI => ld true 6 aY bI fun bJ => lE (nG 6 aY (.agg [(.int .i64 0), (.int .i64 0), (.int .i64 0), (.int .i64 0), (.int .i64 0), (.int .i64 0)])) fun aP bE => (lU 6 bE aP bJ).bind fun bB => ld true 6 bB aP fun bK => ca (K 74 [(kR.k8 bK)] bB) fun bL bF => ca (K 83 [(kR.k8 aE), (kR.k8 aF), (kR.k8 bL)] bF) fun bQ bC => ld true 6 bC aP fun bM => ca (K 73 [(kR.k8 bM)] bC) fun bN bD => (My K (List.length bD) bN aP bD aE aF aL aM aN aO aG aH aI aJ aK aC aD aB).bind fun aA => (fun aZ a6 a7 a8 a_ bA aQ aR aS aT aU aV aW aX bG => Ex.sO aA.1 (bo .add bA (.int .i64 1) fun bO => bo .add aX (.int .i64 1) fun bP => lC m .normal [aZ, a6, a7, a8, a_, bO, aQ, aR, aS, aT, aU, aV, aW, bP] bG)) (gd aA.2.1 0) (gd aA.2.1 1) (gd aA.2.1 2) (gd aA.2.1 3) (gd aA.2.1 4) (gd aA.2.1 5) (gd aA.2.1 6) (gd aA.2.1 7) (gd aA.2.1 8) (gd aA.2.1 9) (gd aA.2.1 10) (gd aA.2.1 11) (gd aA.2.1 12) (gd aA.2.1 13) aA.2.2) (lC m (.exit 4) [aL, aM, aN, aO, aE, aF, aG, aH, aI, aJ, aK, aC, aD, aB] aY)) (gd s.1 0) (gd s.1 1) (gd s.1 2) (gd s.1 3) (gd s.1 4) (gd s.1 5) (gd s.1 6) (gd s.1 7) (gd s.1 8) (gd s.1 9) (gd s.1 10) (gd s.1 11) (gd s.1 12) (gd s.1 13) s.2
noncomputable def Cz (aI : (List Span)) (aG : lX) (aH : Int) (aA : Int × Int × (List Span)) : Option (Ey × Int × Int × (List Span)) :=
 tc (decide (aA.2.1 < aH)) (tb ((oO aG.ops aA.2.1)) fun aB => tb ((t74 aB)) fun aC => tb ((t83 (List.length aI) aA.1 aC aA.2.2)) fun aD => tb ((t73 aB)) fun aE => tb (Cy aE aD aB aI aA.1) fun aF => some (.n, ((IntKind.wrap .i64 (aA.1 + 1)), (IntKind.wrap .i64 (aA.2.1 + 1)), aF))) (some ((.x 4), (aA.1, aA.2.1, aA.2.2)))
theorem W3 (w78 : (List (List Int))) (w79 : (List (List Int))) (l38 : (List Span)) (w97 : Int) (p0 : IR) (w82 : Int) (u101 : lX) (w115 : Int) (s116 : Int × Int × (List Span)) : Jj KK 5 ([(.slice (Rw Span.cells []) (.own 1)), (.int .i64 0), (.slice (Rw (wV (ci .i64)) w78) .no), (.slice (Rw (wV (ci .i64)) w79) .no), (.vslice 2 (List.length l38) 0 (List.length l38) 2), (.int .i64 s116.1), (.int .i64 w97), (.ptr 3 0), (.slice (Rw lX.cells p0.blocks) .no), (.int .i64 w82), (.int .i64 w97), (.slice (Rw Op.cells u101.ops) .no), (.int .i64 w115), (.int .i64 s116.2.1)], ([.cells [(.int .i64 p0.temps), (.slice (Rw mK.cells p0.arrays) .no), (.slice (Rw lX.cells p0.blocks) .no), (.int .i64 p0.inn), (.int .i64 p0.out)], .front 0 0, Vc Span.cells 2 s116.2.2, .cells [(.slice (Rw Op.cells u101.ops) .no), (.int .i64 u101.term.kind), (.int .i64 u101.term.a), (.int .i64 u101.term.yes), (.int .i64 u101.term.no)], .front 0 0] : kT)) = tm (Cz l38 u101 w115 s116) fun r => (r.1.ex, [(.slice (Rw Span.cells []) (.own 1)), (.int .i64 0), (.slice (Rw (wV (ci .i64)) w78) .no), (.slice (Rw (wV (ci .i64)) w79) .no), (.vslice 2 (List.length l38) 0 (List.length l38) 2), (.int .i64 r.2.1), (.int .i64 w97), (.ptr 3 0), (.slice (Rw lX.cells p0.blocks) .no), (.int .i64 w82), (.int .i64 w97), (.slice (Rw Op.cells u101.ops) .no), (.int .i64 w115), (.int .i64 r.2.2.1)], ([.cells [(.int .i64 p0.temps), (.slice (Rw mK.cells p0.arrays) .no), (.slice (Rw lX.cells p0.blocks) .no), (.int .i64 p0.inn), (.int .i64 p0.out)], .front 0 0, Vc Span.cells 2 r.2.2.2, .cells [(.slice (Rw Op.cells u101.ops) .no), (.int .i64 u101.term.kind), (.int .i64 u101.term.a), (.int .i64 u101.term.yes), (.int .i64 u101.term.no)], .front 0 0] : kT)) := by
 simp +contextual -implicitDefEqProofs (maxSteps := 2000000) [-lS, -lK, -lD, -lF, -lL, -lQ, -lJ, Jj, Cz, Ia, acM, r73, Y4]
theorem Y6 (w78 : (List (List Int))) (w79 : (List (List Int))) (l38 : (List Span)) (w97 : Int) (p0 : IR) (w82 : Int) (u101 : lX) (w115 : Int) (i5 : Int) (i12 : Int) (i14 : (List Span)) : mJ (Jj KK 5) ([(.slice (Rw Span.cells []) (.own 1)), (.int .i64 0), (.slice (Rw (wV (ci .i64)) w78) .no), (.slice (Rw (wV (ci .i64)) w79) .no), (.vslice 2 (List.length l38) 0 (List.length l38) 2), (.int .i64 i5), (.int .i64 w97), (.ptr 3 0), (.slice (Rw lX.cells p0.blocks) .no), (.int .i64 w82), (.int .i64 w97), (.slice (Rw Op.cells u101.ops) .no), (.int .i64 w115), (.int .i64 i12)], ([.cells [(.int .i64 p0.temps), (.slice (Rw mK.cells p0.arrays) .no), (.slice (Rw lX.cells p0.blocks) .no), (.int .i64 p0.inn), (.int .i64 p0.out)], .front 0 0, Vc Span.cells 2 i14, .cells [(.slice (Rw Op.cells u101.ops) .no), (.int .i64 u101.term.kind), (.int .i64 u101.term.a), (.int .i64 u101.term.yes), (.int .i64 u101.term.no)], .front 0 0] : kT)) = tm (v_ (Cz l38 u101 w115) (i5, i12, i14)) fun r => (r.1.ex, [(.slice (Rw Span.cells []) (.own 1)), (.int .i64 0), (.slice (Rw (wV (ci .i64)) w78) .no), (.slice (Rw (wV (ci .i64)) w79) .no), (.vslice 2 (List.length l38) 0 (List.length l38) 2), (.int .i64 r.2.1), (.int .i64 w97), (.ptr 3 0), (.slice (Rw lX.cells p0.blocks) .no), (.int .i64 w82), (.int .i64 w97), (.slice (Rw Op.cells u101.ops) .no), (.int .i64 w115), (.int .i64 r.2.2.1)], ([.cells [(.int .i64 p0.temps), (.slice (Rw mK.cells p0.arrays) .no), (.slice (Rw lX.cells p0.blocks) .no), (.int .i64 p0.inn), (.int .i64 p0.out)], .front 0 0, Vc Span.cells 2 r.2.2.2, .cells [(.slice (Rw Op.cells u101.ops) .no), (.int .i64 u101.term.kind), (.int .i64 u101.term.a), (.int .i64 u101.term.yes), (.int .i64 u101.term.no)], .front 0 0] : kT)) := by
 exact w6 (enc := fun s116 => ([(.slice (Rw Span.cells []) (.own 1)), (.int .i64 0), (.slice (Rw (wV (ci .i64)) w78) .no), (.slice (Rw (wV (ci .i64)) w79) .no), (.vslice 2 (List.length l38) 0 (List.length l38) 2), (.int .i64 s116.1), (.int .i64 w97), (.ptr 3 0), (.slice (Rw lX.cells p0.blocks) .no), (.int .i64 w82), (.int .i64 w97), (.slice (Rw Op.cells u101.ops) .no), (.int .i64 w115), (.int .i64 s116.2.1)], ([.cells [(.int .i64 p0.temps), (.slice (Rw mK.cells p0.arrays) .no), (.slice (Rw lX.cells p0.blocks) .no), (.int .i64 p0.inn), (.int .i64 p0.out)], .front 0 0, Vc Span.cells 2 s116.2.2, .cells [(.slice (Rw Op.cells u101.ops) .no), (.int .i64 u101.term.kind), (.int .i64 u101.term.a), (.int .i64 u101.term.yes), (.int .i64 u101.term.no)], .front 0 0] : kT))) (fun s116 => W3 w78 w79 l38 w97 p0 w82 u101 w115 s116) (i5, i12, i14)
theorem TM (y0 : Int) (h : kT) : lP 1 1 [(.int .i64 0)] [(0, (.int .i64 y0))] h = some (.slice (Rw (ci .i64) [y0]) (.own h.length), h ++ [sD 1 1]) := by
 rfl
theorem Xq (l38 : (List Span)) (w203 : Int) (w215 : (List Int)) (p0 : IR) (w207 : (List Span)) (u101 : lX) : KK 83 [(.vslice 2 (List.length l38) 0 (List.length l38) 2), (.int .i64 w203), (.slice (Rw (ci .i64) w215) .no)] ([.cells [(.int .i64 p0.temps), (.slice (Rw mK.cells p0.arrays) .no), (.slice (Rw lX.cells p0.blocks) .no), (.int .i64 p0.inn), (.int .i64 p0.out)], .front 0 0, Vc Span.cells 2 w207, .cells [(.slice (Rw Op.cells u101.ops) .no), (.int .i64 u101.term.kind), (.int .i64 u101.term.a), (.int .i64 u101.term.yes), (.int .i64 u101.term.no)], .front 0 0, sD 1 1] : kT) = tm (t83 (List.length l38) w203 w215 w207) fun r => (.ret (.tuple []), ([.cells [(.int .i64 p0.temps), (.slice (Rw mK.cells p0.arrays) .no), (.slice (Rw lX.cells p0.blocks) .no), (.int .i64 p0.inn), (.int .i64 p0.out)], .front 0 0, Vc Span.cells 2 r, .cells [(.slice (Rw Op.cells u101.ops) .no), (.int .i64 u101.term.kind), (.int .i64 u101.term.a), (.int .i64 u101.term.yes), (.int .i64 u101.term.no)], .front 0 0, sD 1 1] : kT)) := by
 refine uJ (ids := [2]) rfl rfl ?_ ?_ rfl ?_ (Gb ..) (b83 (List.length l38) w203 w215 w207) fun r => ?_
 all_goals simp
noncomputable def Jh (K : k9) (m : Nat) (aO : kR) (aK : kR) (aL : kT) (aA : kR) (aB : kR) (aG : kR) (aH : kR) (aI : kR) (aJ : kR) (aC : kR) (aD : kR) (aE : kR) (aF : kR) : Option R :=
 lG aO (fa 1 aK fun aP => fa 1 aP fun aQ => ld false 1 aL aQ fun aR => lE (lP 1 1 [(.int .i64 0)] [(0, aR)] aL) fun aS aM => ca (K 83 [(kR.k8 aA), (kR.k8 aB), (kR.k8 aS)] aM) fun aT aN => lC m .normal [aG, aH, aI, aJ, aA, aB, aC, aD, aE, aF] aN) (lC m .normal [aG, aH, aI, aJ, aA, aB, aC, aD, aE, aF] aL)
noncomputable def BC (aE : Bool) (aA : (List Span)) (aC : lX) (aF : (List Span)) (aD : Int) : Option ((List Span)) :=
 tc aE (tb ((t83 (List.length aF) aD [aC.term.a] aA)) fun aB => some aB) (some aA)
theorem UO (w206 : Bool) (p0 : IR) (w207 : (List Span)) (u101 : lX) (l38 : (List Span)) (w203 : Int) (w78 : (List (List Int))) (w79 : (List (List Int))) (w97 : Int) (w82 : Int) : (Jh KK 5 (.bool w206) (.ptr 3 0) ([.cells [(.int .i64 p0.temps), (.slice (Rw mK.cells p0.arrays) .no), (.slice (Rw lX.cells p0.blocks) .no), (.int .i64 p0.inn), (.int .i64 p0.out)], .front 0 0, Vc Span.cells 2 w207, .cells [(.slice (Rw Op.cells u101.ops) .no), (.int .i64 u101.term.kind), (.int .i64 u101.term.a), (.int .i64 u101.term.yes), (.int .i64 u101.term.no)], .front 0 0] : kT) (.vslice 2 (List.length l38) 0 (List.length l38) 2) (.int .i64 w203) (.slice (Rw Span.cells []) (.own 1)) (.int .i64 0) (.slice (Rw (wV (ci .i64)) w78) .no) (.slice (Rw (wV (ci .i64)) w79) .no) (.int .i64 w97) (.slice (Rw lX.cells p0.blocks) .no) (.int .i64 w82) (.int .i64 w97)) = tm (BC w206 w207 u101 l38 w203) fun r => (.normal, [(.slice (Rw Span.cells []) (.own 1)), (.int .i64 0), (.slice (Rw (wV (ci .i64)) w78) .no), (.slice (Rw (wV (ci .i64)) w79) .no), (.vslice 2 (List.length l38) 0 (List.length l38) 2), (.int .i64 w203), (.int .i64 w97), (.slice (Rw lX.cells p0.blocks) .no), (.int .i64 w82), (.int .i64 w97)], ([.cells [(.int .i64 p0.temps), (.slice (Rw mK.cells p0.arrays) .no), (.slice (Rw lX.cells p0.blocks) .no), (.int .i64 p0.inn), (.int .i64 p0.out)], .front 0 0, Vc Span.cells 2 r, .cells [(.slice (Rw Op.cells u101.ops) .no), (.int .i64 u101.term.kind), (.int .i64 u101.term.a), (.int .i64 u101.term.yes), (.int .i64 u101.term.no)], .front 0 0] : kT)) := by
 simp +contextual -implicitDefEqProofs (maxSteps := 2000000) [-lS, -lK, -lD, -lF, -lL, -lQ, -lJ, Jh, BC, TM, Xq]
theorem Xr (l38 : (List Span)) (w234 : Int) (u230 : (List Int)) (p0 : IR) (r217 : (List Span)) (u101 : lX) : KK 83 [(.vslice 2 (List.length l38) 0 (List.length l38) 2), (.int .i64 w234), (.slice (Rw (ci .i64) u230) .no)] ([.cells [(.int .i64 p0.temps), (.slice (Rw mK.cells p0.arrays) .no), (.slice (Rw lX.cells p0.blocks) .no), (.int .i64 p0.inn), (.int .i64 p0.out)], .front 0 0, Vc Span.cells 2 r217, .cells [(.slice (Rw Op.cells u101.ops) .no), (.int .i64 u101.term.kind), (.int .i64 u101.term.a), (.int .i64 u101.term.yes), (.int .i64 u101.term.no)], .front 0 0] : kT) = tm (t83 (List.length l38) w234 u230 r217) fun r => (.ret (.tuple []), ([.cells [(.int .i64 p0.temps), (.slice (Rw mK.cells p0.arrays) .no), (.slice (Rw lX.cells p0.blocks) .no), (.int .i64 p0.inn), (.int .i64 p0.out)], .front 0 0, Vc Span.cells 2 r, .cells [(.slice (Rw Op.cells u101.ops) .no), (.int .i64 u101.term.kind), (.int .i64 u101.term.a), (.int .i64 u101.term.yes), (.int .i64 u101.term.no)], .front 0 0] : kT)) := by
 refine uJ (ids := [2]) rfl rfl ?_ ?_ rfl ?_ (Gb ..) (b83 (List.length l38) w234 u230 r217) fun r => ?_
 all_goals simp
noncomputable def Mx (K : k9) (m : Nat) (aI : kR) (aC : kR) (b7 : kT) (aX : kR) (aY : kR) (aZ : kR) (bF : kR) (bG : kR) (bH : kR) (a_ : kR) : Option R :=
 ix 5 aI aC fun t100 => ld true 5 b7 t100 fun bP => lE (nG 5 b7 (.agg [(.slice (Rw Op.cells []) .nil), (.int .i64 0), (.int .i64 0), (.int .i64 0), (.int .i64 0)])) fun a7 bN => (lU 5 bN a7 bP).bind fun bC => ix 1 aX aC fun bQ => ld false 1 bC bQ fun bR => ca (K 83 [(kR.k8 aY), (kR.k8 aZ), (kR.k8 bR)] bC) fun b_ a6 => fa 0 a7 fun bS => ld false 1 a6 bS fun bE => ln bE fun bT => (mJ (Jj K (List.length a6)) ([bF, bG, aX, bH, aY, aZ, aC, a7, aI, a_, aC, bE, bT, (.int .i64 0)], a6)).bind fun aA => (fun aH aJ aK aL aN aP aS aD aE aF aG bI bJ bK aR => Ex.lY aA.1 none (fun bL => Ex.inBlock 4 bL (fa 1 aD fun bU => fa 0 bU fun bV => ld false 1 aR bV fun bW => bo .eql bW (.int .i64 2) fun bX => (Jh K (List.length aR) bX aD aR aN aP aH aJ aK aL aS aE aF aG).bind fun aB => (fun a8 bA bB aM aO aQ aT aU aV aW bD => Ex.sO aB.1 (ix 1 aM aT fun bY => ld false 1 bD bY fun bZ => ca (K 83 [(kR.k8 aO), (kR.k8 aQ), (kR.k8 bZ)] bD) fun cA bO => bo .add aQ (.int .i64 1) fun b6 => lC m .normal [a8, bA, bB, aM, aO, b6, aU, aV, aW] bO)) (gd aB.2.1 0) (gd aB.2.1 1) (gd aB.2.1 2) (gd aB.2.1 3) (gd aB.2.1 4) (gd aB.2.1 5) (gd aB.2.1 6) (gd aB.2.1 7) (gd aB.2.1 8) (gd aB.2.1 9) aB.2.2) (fun bM => lC m bM [aH, aJ, aK, aL, aN, aP, aE, aF, aG] aR))) (gd aA.2.1 0) (gd aA.2.1 1) (gd aA.2.1 2) (gd aA.2.1 3) (gd aA.2.1 4) (gd aA.2.1 5) (gd aA.2.1 6) (gd aA.2.1 7) (gd aA.2.1 8) (gd aA.2.1 9) (gd aA.2.1 10) (gd aA.2.1 11) (gd aA.2.1 12) (gd aA.2.1 13) aA.2.2
noncomputable def GH (p0 : IR) (aK : Int) (aO : (List Span)) (aM : (List (List Int))) (aC : (List Span)) (aL : Int) (aN : (List (List Int))) : Option (Ey × Int × (List Span)) :=
 tb ((oO p0.blocks aK)) fun aB => tb ((oO aM aK)) fun aI => tb ((t83 (List.length aC) aL aI aO)) fun aF => tb (v_ (Cz aC aB ((List.length aB.ops : Nat) : Int)) (aL, 0, aF)) fun aA => As aA.1 none fun aD => Bm 4 aD (tb (BC (decide (aB.term.kind = 2)) aA.2.2.2 aB aC aA.2.1) fun aG => tb ((oO aN aK)) fun aJ => tb ((t83 (List.length aC) aA.2.1 aJ aG)) fun aH => some (.n, ((IntKind.wrap .i64 (aA.2.1 + 1)), aH))) fun aE => some (aE, (aA.2.1, aA.2.2.2))
theorem Y3 (p0 : IR) (w97 : Int) (w99 : (List Span)) (w78 : (List (List Int))) (l38 : (List Span)) (w96 : Int) (w79 : (List (List Int))) (w82 : Int) : (Mx KK 3 (.slice (Rw lX.cells p0.blocks) .no) (.int .i64 w97) ([.cells [(.int .i64 p0.temps), (.slice (Rw mK.cells p0.arrays) .no), (.slice (Rw lX.cells p0.blocks) .no), (.int .i64 p0.inn), (.int .i64 p0.out)], .front 0 0, Vc Span.cells 2 w99] : kT) (.slice (Rw (wV (ci .i64)) w78) .no) (.vslice 2 (List.length l38) 0 (List.length l38) 2) (.int .i64 w96) (.slice (Rw Span.cells []) (.own 1)) (.int .i64 0) (.slice (Rw (wV (ci .i64)) w79) .no) (.int .i64 w82)) = tm (GH p0 w97 w99 w78 l38 w96 w79) fun r => (r.1.ex, [(.slice (Rw Span.cells []) (.own 1)), (.int .i64 0), (.slice (Rw (wV (ci .i64)) w78) .no), (.slice (Rw (wV (ci .i64)) w79) .no), (.vslice 2 (List.length l38) 0 (List.length l38) 2), (.int .i64 r.2.1), (.slice (Rw lX.cells p0.blocks) .no), (.int .i64 w82), (.int .i64 w97)], ([.cells [(.int .i64 p0.temps), (.slice (Rw mK.cells p0.arrays) .no), (.slice (Rw lX.cells p0.blocks) .no), (.int .i64 p0.inn), (.int .i64 p0.out)], .front 0 0, Vc Span.cells 2 r.2.2] : kT)) := by
 simp +contextual -implicitDefEqProofs (maxSteps := 2000000) [-lS, -lK, -lD, -lF, -lL, -lQ, -lJ, Mx, GH, acL, Y6, UO, Xr]
noncomputable def ET (K : k9) (m : Nat) (s : List kR × kT) : Option R :=
 (fun aN aO aP aQ aR aS aH aB aC aV => bo .lss aC aB fun t95 => lG t95 ((Mx K (List.length aV) aH aC aV aP aR aS aN aO aQ aB).bind fun aA => (fun aG aI aJ aK aL aM aD aE aF aT => Ex.inBlock 3 aA.1 (bo .add aF (.int .i64 1) fun aW => lC m .normal [aG, aI, aJ, aK, aL, aM, aD, aE, aW] aT) (fun aU => lC m aU [aG, aI, aJ, aK, aL, aM, aD, aE, aF] aT)) (gd aA.2.1 0) (gd aA.2.1 1) (gd aA.2.1 2) (gd aA.2.1 3) (gd aA.2.1 4) (gd aA.2.1 5) (gd aA.2.1 6) (gd aA.2.1 7) (gd aA.2.1 8) aA.2.2) (lC m (.exit 2) [aN, aO, aP, aQ, aR, aS, aH, aB, aC] aV)) (gd s.1 0) (gd s.1 1) (gd s.1 2) (gd s.1 3) (gd s.1 4) (gd s.1 5) (gd s.1 6) (gd s.1 7) (gd s.1 8) s.2
noncomputable def BD (aE : (List (List Int))) (aF : (List (List Int))) (aD : (List Span)) (p0 : IR) (aG : Int) (aB : Int × Int × (List Span)) : Option (Ey × Int × Int × (List Span)) :=
 tc (decide (aB.2.1 < aG)) (tb (GH p0 aB.2.1 aB.2.2 aE aD aB.1 aF) fun aA => Bm 3 aA.1 (some (.n, (aA.2.1, (IntKind.wrap .i64 (aB.2.1 + 1)), aA.2.2))) fun aC => some (aC, (aA.2.1, aB.2.1, aA.2.2))) (some ((.x 2), (aB.1, aB.2.1, aB.2.2)))
theorem TJ (w78 : (List (List Int))) (w79 : (List (List Int))) (l38 : (List Span)) (p0 : IR) (w82 : Int) (s84 : Int × Int × (List Span)) : ET KK 3 ([(.slice (Rw Span.cells []) (.own 1)), (.int .i64 0), (.slice (Rw (wV (ci .i64)) w78) .no), (.slice (Rw (wV (ci .i64)) w79) .no), (.vslice 2 (List.length l38) 0 (List.length l38) 2), (.int .i64 s84.1), (.slice (Rw lX.cells p0.blocks) .no), (.int .i64 w82), (.int .i64 s84.2.1)], ([.cells [(.int .i64 p0.temps), (.slice (Rw mK.cells p0.arrays) .no), (.slice (Rw lX.cells p0.blocks) .no), (.int .i64 p0.inn), (.int .i64 p0.out)], .front 0 0, Vc Span.cells 2 s84.2.2] : kT)) = tm (BD w78 w79 l38 p0 w82 s84) fun r => (r.1.ex, [(.slice (Rw Span.cells []) (.own 1)), (.int .i64 0), (.slice (Rw (wV (ci .i64)) w78) .no), (.slice (Rw (wV (ci .i64)) w79) .no), (.vslice 2 (List.length l38) 0 (List.length l38) 2), (.int .i64 r.2.1), (.slice (Rw lX.cells p0.blocks) .no), (.int .i64 w82), (.int .i64 r.2.2.1)], ([.cells [(.int .i64 p0.temps), (.slice (Rw mK.cells p0.arrays) .no), (.slice (Rw lX.cells p0.blocks) .no), (.int .i64 p0.inn), (.int .i64 p0.out)], .front 0 0, Vc Span.cells 2 r.2.2.2] : kT)) := by
 simp +contextual -implicitDefEqProofs (maxSteps := 2000000) [-lS, -lK, -lD, -lF, -lL, -lQ, -lJ, ET, BD, Y3]
theorem UP (w78 : (List (List Int))) (w79 : (List (List Int))) (l38 : (List Span)) (p0 : IR) (w82 : Int) (i5 : Int) (i8 : Int) (i10 : (List Span)) : mJ (ET KK 3) ([(.slice (Rw Span.cells []) (.own 1)), (.int .i64 0), (.slice (Rw (wV (ci .i64)) w78) .no), (.slice (Rw (wV (ci .i64)) w79) .no), (.vslice 2 (List.length l38) 0 (List.length l38) 2), (.int .i64 i5), (.slice (Rw lX.cells p0.blocks) .no), (.int .i64 w82), (.int .i64 i8)], ([.cells [(.int .i64 p0.temps), (.slice (Rw mK.cells p0.arrays) .no), (.slice (Rw lX.cells p0.blocks) .no), (.int .i64 p0.inn), (.int .i64 p0.out)], .front 0 0, Vc Span.cells 2 i10] : kT)) = tm (v_ (BD w78 w79 l38 p0 w82) (i5, i8, i10)) fun r => (r.1.ex, [(.slice (Rw Span.cells []) (.own 1)), (.int .i64 0), (.slice (Rw (wV (ci .i64)) w78) .no), (.slice (Rw (wV (ci .i64)) w79) .no), (.vslice 2 (List.length l38) 0 (List.length l38) 2), (.int .i64 r.2.1), (.slice (Rw lX.cells p0.blocks) .no), (.int .i64 w82), (.int .i64 r.2.2.1)], ([.cells [(.int .i64 p0.temps), (.slice (Rw mK.cells p0.arrays) .no), (.slice (Rw lX.cells p0.blocks) .no), (.int .i64 p0.inn), (.int .i64 p0.out)], .front 0 0, Vc Span.cells 2 r.2.2.2] : kT)) := by
 exact w6 (enc := fun s84 => ([(.slice (Rw Span.cells []) (.own 1)), (.int .i64 0), (.slice (Rw (wV (ci .i64)) w78) .no), (.slice (Rw (wV (ci .i64)) w79) .no), (.vslice 2 (List.length l38) 0 (List.length l38) 2), (.int .i64 s84.1), (.slice (Rw lX.cells p0.blocks) .no), (.int .i64 w82), (.int .i64 s84.2.1)], ([.cells [(.int .i64 p0.temps), (.slice (Rw mK.cells p0.arrays) .no), (.slice (Rw lX.cells p0.blocks) .no), (.int .i64 p0.inn), (.int .i64 p0.out)], .front 0 0, Vc Span.cells 2 s84.2.2] : kT))) (fun s84 => TJ w78 w79 l38 p0 w82 s84) (i5, i8, i10)
noncomputable def m45 (K : k9) (a0 : kR) (h0 : kT) : Option (n_ × kT) :=
 (lE (nG 5 h0 a0) fun aT a6 => (fun (bE : kR) (a7 : kT) => ld true 5 a7 aT fun bF => ca (K 27 [(kR.k8 bF)] a7) fun aU aM => (mF 0 aU).bind fun bG => (mF 1 aU).bind fun bH => (mF 2 aU).bind fun t30 => bo .neq t30 (.int .i64 0) fun bI => lG bI ((fun (bJ : kR) (bD : kT) => some (.ret, [bJ, t30], bD)) (.slice (Rw Span.cells []) (.own (List.length aM))) (aM ++ [.front 0 0])) (fa 0 aT fun bK => ld false 1 aM bK fun bL => lE (oK 2 16 [(.int .i64 0), (.int .i64 0)] bL aM) fun a_ a8 => ln a_ fun bM => (mJ (Ji K (List.length a8)) ([aT, bE, (.int .i64 0), bG, bH, a_, bM, (.int .i64 0)], a8)).bind fun aB => (fun aI aC aD aJ aK aL aV aW aN => Ex.lY aB.1 none (fun bB => Ex.inBlock 0 bB (fa 2 aI fun bN => ld false 1 aN bN fun bA => ln bA fun bO => (mJ (ET K (List.length aN)) ([aC, aD, aJ, aK, aL, (.int .i64 0), bA, bO, (.int .i64 0)], aN)).bind fun aA => (fun aE aF aX aY aG aZ aO aP aQ aH => Ex.lY aA.1 none (fun aR => Ex.inBlock 2 aR (some (.ret, [aG, (.int .i64 0)], aH)) (fun aS => some (aS, [aE, aF], aH)))) (gd aA.2.1 0) (gd aA.2.1 1) (gd aA.2.1 2) (gd aA.2.1 3) (gd aA.2.1 4) (gd aA.2.1 5) (gd aA.2.1 6) (gd aA.2.1 7) (gd aA.2.1 8) aA.2.2) (fun bC => some (bC, [aC, aD], aN)))) (gd aB.2.1 0) (gd aB.2.1 1) (gd aB.2.1 2) (gd aB.2.1 3) (gd aB.2.1 4) (gd aB.2.1 5) (gd aB.2.1 6) (gd aB.2.1 7) aB.2.2)) (.slice (Rw Span.cells []) (.own (List.length a6))) (a6 ++ [.front 0 0])).bind (Ru (List.length h0))
theorem Yg (K : k9) (a0 : kR) (h0 : kT) : qQ Tryd.prog nC mJ K 45 [a0] h0 = m45 (mI nC K) a0 h0 := by kernel_rfl
end Go.Proofs.YtkeoalhglkfbkaaDoor


namespace Go.Proofs.YtkeoalhglkfbkaaDoor
open Go Hk
def Cc (s : Span) (a : Int) : Span := if s.first < 0 then ⟨a, a⟩ else ⟨min s.first a, max s.last a⟩
def BN (l : List Span) (a : Int) (t : Int) : List Span := match l[t.toNat]? with
 | some s => l.set t.toNat (Cc s a)
 | none => l
theorem U4 {l : List Span} {a t : Int} : (BN l a t).length = l.length := by unfold BN; split <;> simp
theorem LB {a : Int} : ∀ {ts : List Int} {l : List Span}, (ts.foldl (BN · a) l).length = l.length
 | [], _ => rfl
 | t :: ts, l => by rw [List.foldl_cons, LB, U4]
theorem Lt {l : List Span} {n : Nat} {a : Int} {ts : List Int} (hn : l.length = n) (ha : 0 ≤ a) (hl : ts.length ≤ 2000000) (ht : ∀ t ∈ ts, 0 ≤ t ∧ t.toNat < n) : t83 n a ts l = some (ts.foldl (BN · a) l) := by
 have key : ∀ (d i : Nat), ts.length = i + d → v_ (A5 n a ts ((ts.length : Nat) : Int)) ((i : Int), (ts.take i).foldl (BN · a) l) = some (.x 0, ((ts.length : Int), ts.foldl (BN · a) l)) := by
  intro d
  induction d with
  | zero =>
   intro i hi
   obtain rfl : i = ts.length := by omega
   rw [List.take_length]
   refine qX ?_ (by simp)
   simp [A5]
  | succ d ih =>
   intro i hi
   rw [← ih (i + 1) (by omega)]
   refine rD ?_
   have hil : i < ts.length := by omega
   have e1 : oO ts (i : Int) = some ts[i] := by rw [nZ, List.getElem?_eq_getElem hil]
   have w1 : IntKind.i64.wrap ((i : Int) + 1) = ((i + 1 : Nat) : Int) := by rw [wrap64 (by omega) (by omega), Int.natCast_add]; rfl
   have hii : (i : Int) < (ts.length : Int) := by omega
   obtain ⟨h0, h1⟩ := ht _ (List.getElem_mem hil)
   have hLl : ((ts.take i).foldl (BN · a) l).length = n := by rw [LB, hn]
   have hstep : (ts.take (i + 1)).foldl (BN · a) l = BN ((ts.take i).foldl (BN · a) l) a ts[i] := by
    rw [List.take_succ_eq_append_getElem hil, List.foldl_append]; rfl
   rw [hstep]
   generalize (ts.take i).foldl (BN · a) l = L at *
   generalize ts[i] = t at *
   have hin : BM n t = some t.toNat := by unfold BM; rw [if_pos ⟨h0, by omega⟩]
   have hg : ∀ (L : List Span), L.length = n → s6 n L t.toNat = L[t.toNat]? := fun L h => by unfold s6; rw [if_pos h]
   have hs : ∀ (L : List Span) (x : Span), L.length = n → Au n L t.toNat x = some (L.set t.toNat x) := fun L x h => by unfold Au; rw [if_pos ⟨h, by omega⟩]
   have hLt : L[t.toNat]? = some L[t.toNat] := List.getElem?_eq_getElem (by omega)
   have hU : BN L a t = L.set t.toNat (Cc L[t.toNat] a) := by unfold BN; rw [hLt]
   rw [hU]
   generalize L[t.toNat] = s at *
   have hset : ∀ x : Span, (L.set t.toNat x)[t.toNat]? = some x := fun x => List.getElem?_set_self (by omega)
   have hlen : ∀ x : Span, (L.set t.toNat x).length = n := fun x => by rw [List.length_set]; exact hLl
   by_cases hf : s.first < 0
   ·have hj : CD true a n t L = some (L.set t.toNat ⟨a, a⟩) := by simp [CD, hin, hg L hLl, hLt, hs L _ hLl]
    have hE : Cc s a = ⟨a, a⟩ := by unfold Cc; rw [if_pos hf]
    simp only [A5, e1, hii, decide_true, oN, mH, hin, hg L hLl, hLt, hf, hj, hg _ (hlen _), hset, hs _ _ (hlen _), List.set_set, w1, hE]
    simp
   ·have hj : CD false a n t L = some L := by simp [CD]
    have hE : Cc s a = ⟨min s.first a, max s.last a⟩ := by unfold Cc; rw [if_neg hf]
    simp only [A5, e1, hii, decide_true, oN, mH, hin, hg L hLl, hLt, hf, decide_false, hj, hs L _ hLl, hg _ (hlen _), hset, hs _ _ (hlen _), List.set_set, w1, hE]
 have := key ts.length 0 (by omega)
 have e0 : ((0 : Nat) : Int) = 0 := rfl
 rw [e0, List.take_zero, List.foldl_nil] at this
 simp [t83, this]
def q_ (m : List Bool) : Span := (m.foldl (fun (st : Nat × Span) b => (st.1 + 1, if b then Cc st.2 (st.1 : Int) else st.2)) (0, ⟨-1, -1⟩)).2
theorem PG (m : List Bool) (st : Nat × Span) : (m.foldl (fun (st : Nat × Span) b => (st.1 + 1, if b then Cc st.2 (st.1 : Int) else st.2)) st).1 = st.1 + m.length := by
 induction m generalizing st with
 | nil => rfl
 | cons b m ih => rw [List.foldl_cons, ih]; simp; omega
theorem tF (m : List Bool) (b : Bool) : q_ (m ++ [b]) = if b then Cc (q_ m) (m.length : Int) else q_ m := by
 unfold q_
 rw [List.foldl_append]
 have := PG m (0, ⟨-1, -1⟩)
 simp only [Nat.zero_add] at this
 simp only [List.foldl_cons, List.foldl_nil, this]
theorem Mb {s : Span} {a : Int} (ha : 0 ≤ a) : Cc (Cc s a) a = Cc s a := by
 unfold Cc
 by_cases h : s.first < 0
 ·simp only [h, if_true]
  rw [if_neg (by omega)]
  simp
 ·simp only [h, if_false]
  have : ¬ (min s.first a < 0) := by omega
  rw [if_neg this]
  congr 1 <;> omega
def LS (N : Nat) (F : Nat → List Bool) : List Span := (List.range N).map fun t => q_ (F t)
theorem uL {N : Nat} {F : Nat → List Bool} : (LS N F).length = N := by simp [LS]
theorem Kb {N : Nat} {F G : Nat → List Bool} (h : ∀ t, t < N → F t = G t) : LS N F = LS N G := by
 unfold LS
 refine List.map_congr_left fun t ht => ?_
 rw [h t (List.mem_range.1 ht)]
theorem WE {N a : Nat} {M : Nat → List Bool} {c : Nat → Bool} (hM : ∀ t, (M t).length = a) (u : Int) : BN (LS N fun t => M t ++ [c t]) (a : Int) u = LS N fun t => M t ++ [c t || decide (t = u.toNat)] := by
 apply List.ext_getElem?
 intro j
 unfold BN
 by_cases hu : u.toNat < N
 ·have e : (LS N fun t => M t ++ [c t])[u.toNat]? = some (q_ (M u.toNat ++ [c u.toNat])) := by
   unfold LS; rw [List.getElem?_map, List.getElem?_range hu]; rfl
  rw [e]
  simp only
  rw [List.getElem?_set]
  by_cases hj : u.toNat = j
  ·subst hj
   rw [if_pos rfl, if_pos (by rw [uL]; exact hu)]
   unfold LS
   rw [List.getElem?_map, List.getElem?_range hu]
   simp only [Option.map_some, decide_true, Bool.or_true]
   rw [tF, tF, hM]
   cases c u.toNat with
   | true => simp [Mb (Int.natCast_nonneg a)]
   | false => simp
  ·rw [if_neg hj]
   unfold LS
   rw [List.getElem?_map, List.getElem?_map]
   by_cases hjN : j < N
   ·rw [List.getElem?_range hjN]
    have : ¬ j = u.toNat := fun e => hj e.symm
    simp [this]
   ·have : (List.range N)[j]? = none := by simp; omega
    rw [this]; rfl
 ·have e : (LS N fun t => M t ++ [c t])[u.toNat]? = none := by
   rw [List.getElem?_eq_none_iff, uL]; omega
  rw [e]
  simp only
  unfold LS
  rw [List.getElem?_map, List.getElem?_map]
  by_cases hjN : j < N
  ·rw [List.getElem?_range hjN]
   have : ¬ j = u.toNat := by omega
   simp [this]
  ·have : (List.range N)[j]? = none := by simp; omega
   rw [this]; rfl
def vO (ts : List Int) (t : Nat) : Bool := ts.any fun u => decide (t = u.toNat)
theorem Bc {N a : Nat} {M : Nat → List Bool} (hM : ∀ t, (M t).length = a) : ∀ (ts : List Int) (c : Nat → Bool), ts.foldl (BN · (a : Int)) (LS N fun t => M t ++ [c t]) = LS N fun t => M t ++ [c t || vO ts t]
 | [], c => by simp [vO]
 | u :: ts, c => by
  rw [List.foldl_cons, WE hM, Bc hM ts]
  refine Kb fun t _ => ?_
  simp [vO, Bool.or_assoc]
end Go.Proofs.YtkeoalhglkfbkaaDoor


namespace Go.Proofs.YtkeoalhglkfbkaaDoor
open Go Hk
def ZI (o : Op) (t : Nat) : Bool := vO (mW o) t || ((mM o.kind).dst && decide (t = o.dst.toNat))
def tE (b : lX) (t : Nat) : Bool := decide (b.term.kind = 2) && decide (t = b.term.a.toNat)
def s_ (c : Bool) : List Bool → List Bool
 | [] => []
 | x :: r => (c || x) :: r
def mB (inn out : Bool) (b : lX) (t : Nat) : List Bool := s_ inn (b.ops.map (fun o => ZI o t) ++ [tE b t || out])
theorem BX (l : List Bool) : s_ false l = l := by cases l <;> simp [s_]
theorem K0 (c : Bool) (l : List Bool) : (s_ c l).length = l.length := by cases l <;> rfl
theorem YL {i o : Bool} {b : lX} {t : Nat} : (mB i o b t).length = b.ops.length + 1 := by simp [mB, K0]
open Classical in
noncomputable def Jt (p : IR) (k : Nat) (t : Nat) : List Bool := match p.blocks[k]? with
 | some b => mB (decide (Reach p.blocks (t : Int) k)) (decide (pS p.blocks (t : Int) b.term)) b t
 | none => []
noncomputable def sA (p : IR) (k : Nat) (t : Nat) : List Bool := (List.range k).flatMap fun i => Jt p i t
theorem DQ {p : IR} {k t : Nat} : sA p (k + 1) t = sA p k t ++ Jt p k t := by simp [sA, List.range_succ]
noncomputable def oR (p : IR) : List Span := LS p.temps.toNat (sA p p.blocks.length)
theorem Kc {N : Nat} {f : Nat → List Bool} : (LS N fun t => f t ++ [false]) = LS N f := by
 unfold LS; refine List.map_congr_left fun t _ => ?_; rw [tF]; rfl
section
variable {p : IR} (hp : wK p) {N : Nat} (hN : (N : Int) = p.temps)
include hp hN
theorem Sn {b : lX} (hb : b ∈ p.blocks) {l38 : List Span} (hl : l38.length = N) : ∀ (d k a : Nat) (D : Nat → List Bool) (c : Nat → Bool), b.ops.length = k + d → (∀ t, (D t).length = a) → a + d ≤ 4000000000000 →
  ∃ (D' : Nat → List Bool) (c' : Nat → Bool), v_ (Cz l38 b ((b.ops.length : Nat) : Int)) ((a : Int), (k : Int), LS N fun t => D t ++ [c t]) = some (.x 4, (((a + d : Nat) : Int), (b.ops.length : Int), LS N fun t => D' t ++ [c' t])) ∧
   (∀ t, (D' t).length = a + d) ∧ ∀ t e, D' t ++ [c' t || e] = D t ++ s_ (c t) ((b.ops.drop k).map (fun o => ZI o t) ++ [e]) := by
 intro d
 induction d with
 | zero =>
  intro k a D c hk hD ha
  obtain rfl : k = b.ops.length := by omega
  refine ⟨D, c, qX ?_ (by simp), hD, fun t e => by simp [s_]⟩
  simp [Cz]
 | succ d ih =>
  intro k a D c hk hD ha
  have hil : k < b.ops.length := by omega
  have hm := List.getElem_mem hil
  have h1 := hp.len b hb
  have hset : ∀ (f : Nat → List Bool), LS N f = LS N fun t => f t ++ [false] := fun f => by
   unfold LS; refine List.map_congr_left fun t _ => ?_; rw [tF]; rfl
  obtain ⟨D', c', e1, e2, e3⟩ := ih (k + 1) (a + 1) (fun t => D t ++ [c t || ZI b.ops[k] t]) (fun _ => false) (by omega) (fun t => by simp [hD]) (by omega)
  refine ⟨D', c', ?_, fun t => by rw [e2]; omega, fun t e => ?_⟩
  ·rw [show a + (d + 1) = a + 1 + d by omega, ← e1]
   refine rD ?_
   have ei : oO b.ops (k : Int) = some b.ops[k] := by rw [nZ, List.getElem?_eq_getElem hil]
   have hii : (k : Int) < (b.ops.length : Int) := by omega
   have w1 : IntKind.i64.wrap ((k : Int) + 1) = ((k + 1 : Nat) : Int) := by rw [wrap64 (by omega) (by omega), Int.natCast_add]; rfl
   have w2 : IntKind.i64.wrap ((a : Int) + 1) = ((a + 1 : Nat) : Int) := by rw [wrap64 (by omega) (by omega), Int.natCast_add]; rfl
   have hu := hp.use b hb _ hm
   have hd := hp.made b hb _ hm
   have hul : (mW b.ops[k]).length ≤ 2000000 := by
    unfold mW; rw [List.length_take]; simp; omega
   generalize b.ops[k] = o at *
   have h83 := Lt (l := LS N fun t => D t ++ [c t]) (n := N) (a := (a : Int)) (ts := mW o) uL (by omega) hul (fun t ht => by have := hu t ht; omega)
   rw [Bc hD] at h83
   simp only [Cz, hl, ei, hii, decide_true, oN, mH, t74, t73, h83, w1, w2]
   cases hdst : (mM o.kind).dst with
   | false =>
    have hj : Cy false (LS N fun t => D t ++ [c t || vO (mW o) t]) o l38 (a : Int) = some (LS N fun t => D t ++ [c t || vO (mW o) t]) := by simp [Cy]
    rw [hj, mH, hset (fun t => D t ++ [c t || vO (mW o) t])]
    simp only [ZI, hdst, Bool.false_and, Bool.or_false]
   | true =>
    have hd' := hd hdst
    have h83' := Lt (l := LS N fun t => D t ++ [c t || vO (mW o) t]) (n := N) (a := (a : Int)) (ts := [o.dst]) uL (by omega) (by simp) (fun t ht => by simp at ht; subst ht; omega)
    have h2 := Bc (N := N) hD [o.dst] (fun t => c t || vO (mW o) t)
    rw [h2] at h83'
    have hj : Cy true (LS N fun t => D t ++ [c t || vO (mW o) t]) o l38 (a : Int) = some (LS N fun t => D t ++ [(c t || vO (mW o) t) || vO [o.dst] t]) := by
     simp only [Cy, oN, hl, h83', mH]
    rw [hj, mH, hset (fun t => D t ++ [(c t || vO (mW o) t) || vO [o.dst] t])]
    simp only [ZI, hdst, Bool.true_and, vO, List.any_cons, List.any_nil, Bool.or_false, Bool.or_assoc]
  ·rw [e3, BX, List.drop_eq_getElem_cons hil, List.map_cons, List.cons_append, List.append_assoc]
   rfl
open Classical in
theorem TU {k : Nat} (hk : k < p.blocks.length) {t : Nat} (ht : t < N) : vO (sK p k) t = decide (Reach p.blocks (t : Int) k) := by
 rw [Bool.eq_iff_iff]
 unfold vO
 rw [List.any_eq_true, decide_eq_true_iff]
 constructor
 ·rintro ⟨u, hu, h⟩
  obtain ⟨h0, _, h2⟩ := zP.1 hu
  have : (t : Int) = u := by have := of_decide_eq_true h; omega
  rw [this]; exact h2
 ·intro h
  exact ⟨(t : Int), zP.2 ⟨by omega, by omega, h⟩, by simp⟩
open Classical in
theorem Q8 {k : Nat} {b : lX} (hb : p.blocks[k]? = some b) {t : Nat} (ht : t < N) : vO (pJ p k) t = decide (pS p.blocks (t : Int) b.term) := by
 rw [Bool.eq_iff_iff]
 unfold vO
 rw [List.any_eq_true, decide_eq_true_iff]
 constructor
 ·rintro ⟨u, hu, h⟩
  obtain ⟨h0, _, h2⟩ := (r_ hb).1 hu
  have : (t : Int) = u := by have := of_decide_eq_true h; omega
  rw [this]; exact h2
 ·intro h
  exact ⟨(t : Int), (r_ hb).2 ⟨by omega, by omega, h⟩, by simp⟩
theorem Sl {k a : Nat} {b : lX} (hb : p.blocks[k]? = some b) (h0 : mZ p = 0) {l38 : List Span} (hl : l38.length = N) {D : Nat → List Bool} (hD : ∀ t, (D t).length = a) (ha : a ≤ 2000000000000) :
  GH p (k : Int) (LS N fun t => D t ++ [false]) (qF p) l38 (a : Int) (qG p) = some (.n, (((a + (b.ops.length + 1) : Nat) : Int), LS N fun t => (D t ++ Jt p k t) ++ [false])) := by
 have hbm := List.mem_of_getElem? hb
 have hkl : k < p.blocks.length := (List.getElem?_eq_some_iff.1 hb).1
 have hlen := hp.len b hbm
 have eb : oO p.blocks (k : Int) = some b := by rw [nZ, hb]
 have ei : oO (qF p) (k : Int) = some (sK p k) := by
  rw [nZ, qF, if_pos h0, List.getElem?_map, List.getElem?_range hkl]; rfl
 have eo : oO (qG p) (k : Int) = some (pJ p k) := by
  rw [nZ, qG, if_pos h0, List.getElem?_map, List.getElem?_range hkl]; rfl
 have hin : ∀ t ∈ sK p k, 0 ≤ t ∧ t.toNat < N := fun t ht => by obtain ⟨h1, h2, _⟩ := zP.1 ht; omega
 have hout : ∀ t ∈ pJ p k, 0 ≤ t ∧ t.toNat < N := fun t ht => by obtain ⟨h1, h2, _⟩ := (r_ hb).1 ht; omega
 have hil : (sK p k).length ≤ 2000000 := (DE p).1 _ (List.mem_of_getElem? (by rw [← nZ]; exact ei))
 have hol : (pJ p k).length ≤ 2000000 := (DF p).1 _ (List.mem_of_getElem? (by rw [← nZ]; exact eo))
 have s1 := Lt (l := LS N fun t => D t ++ [false]) (n := N) (a := (a : Int)) (ts := sK p k) uL (by omega) hil hin
 rw [Bc hD] at s1
 obtain ⟨D', c', g1, g2, g3⟩ := Sn hp hN hbm hl b.ops.length 0 a D (fun t => false || vO (sK p k) t) (by omega) hD (by omega)
 have n0 : ((0 : Nat) : Int) = 0 := rfl
 rw [n0] at g1
 have s2 : ∃ c2 : Nat → Bool, BC (decide (b.term.kind = 2)) (LS N fun t => D' t ++ [c' t]) b l38 ((a + b.ops.length : Nat) : Int) = some (LS N fun t => D' t ++ [c2 t]) ∧ ∀ t, c2 t = (c' t || tE b t) := by
  by_cases hk2 : b.term.kind = 2
  ·have ht := hp.term b hbm hk2
   have s := Lt (l := LS N fun t => D' t ++ [c' t]) (n := N) (a := ((a + b.ops.length : Nat) : Int)) (ts := [b.term.a]) uL (by omega) (by simp) (fun t h => by simp at h; subst h; omega)
   rw [Bc g2] at s
   refine ⟨fun t => c' t || vO [b.term.a] t, ?_, fun t => by simp [tE, hk2, vO]⟩
   simp only [BC, hk2, decide_true, oN, hl, s, mH]
  ·refine ⟨c', ?_, fun t => by simp [tE, hk2]⟩
   simp only [BC, hk2, decide_false, qB]
 obtain ⟨c2, s2, hc2⟩ := s2
 have s3 := Lt (l := LS N fun t => D' t ++ [c2 t]) (n := N) (a := ((a + b.ops.length : Nat) : Int)) (ts := pJ p k) uL (by omega) hol hout
 rw [Bc g2] at s3
 have w1 : IntKind.i64.wrap (((a + b.ops.length : Nat) : Int) + 1) = ((a + (b.ops.length + 1) : Nat) : Int) := by rw [wrap64 (by omega) (by omega)]; omega
 unfold GH
 simp only [eb, ei, mH, hl, s1, g1, As, Bm, beq_self_eq_true, cond_true, s2, eo, s3, w1]
 have hfin : (LS N fun t => D' t ++ [c2 t || vO (pJ p k) t]) = LS N fun t => (D t ++ Jt p k t) ++ [false] := by
  rw [Kc]
  refine Kb fun t ht => ?_
  have := g3 t (tE b t || vO (pJ p k) t)
  rw [List.drop_zero] at this
  rw [hc2, Bool.or_assoc, this]
  unfold Jt
  rw [hb]
  simp only [mB, Bool.false_or, TU hp hN hkl ht, Q8 hp hN hb ht]
 rw [hfin]
omit hN in
theorem AP : ∀ (k t : Nat), k ≤ p.blocks.length → (sA p k t).length = ((p.blocks.take k).map fun b => b.ops.length + 1).sum ∧ ((p.blocks.take k).map fun b => b.ops.length + 1).sum ≤ k * 1048577
 | 0, t, _ => by simp [sA]
 | k + 1, t, hk => by
  have hkl : k < p.blocks.length := by omega
  obtain ⟨h1, h2⟩ := AP k t (by omega)
  have h3 := hp.len _ (List.getElem_mem hkl)
  rw [DQ, List.length_append, h1, List.take_succ_eq_append_getElem hkl, List.map_append, List.sum_append]
  have : (Jt p k t).length = p.blocks[k].ops.length + 1 := by unfold Jt; rw [List.getElem?_eq_getElem hkl]; exact YL
  rw [this]
  simp only [List.map_cons, List.map_nil, List.sum_cons, List.sum_nil]
  omega
theorem PN (h0 : mZ p = 0) {l38 : List Span} (hl : l38.length = N) : ∀ (d k : Nat), p.blocks.length = k + d →
  v_ (BD (qF p) (qG p) l38 p ((p.blocks.length : Nat) : Int)) (((((p.blocks.take k).map fun b => b.ops.length + 1).sum : Nat) : Int), (k : Int), LS N fun t => sA p k t ++ [false]) =
   some (.x 2, (((((p.blocks.take p.blocks.length).map fun b => b.ops.length + 1).sum : Nat) : Int), (p.blocks.length : Int), LS N fun t => sA p p.blocks.length t ++ [false])) := by
 intro d
 induction d with
 | zero =>
  intro k hk
  obtain rfl : k = p.blocks.length := by omega
  refine qX ?_ (by simp)
  simp [BD]
 | succ d ih =>
  intro k hk
  have hkl : k < p.blocks.length := by omega
  rw [← ih (k + 1) (by omega)]
  refine rD ?_
  have hnb := hp.nb
  have hle : ∀ t, (sA p k t).length = ((p.blocks.take k).map fun b => b.ops.length + 1).sum := fun t => (AP hp k t (by omega)).1
  have hle2 := (AP hp k 0 (by omega)).2
  have hb : p.blocks[k]? = some p.blocks[k] := List.getElem?_eq_getElem hkl
  have hs : ((p.blocks.take (k + 1)).map fun b => b.ops.length + 1).sum = ((p.blocks.take k).map fun b => b.ops.length + 1).sum + (p.blocks[k].ops.length + 1) := by
   rw [List.take_succ_eq_append_getElem hkl, List.map_append, List.sum_append]; simp
  have hg := Sl hp hN hb h0 hl hle (by have : k * 1048577 ≤ 1048576 * 1048577 := Nat.mul_le_mul_right _ (by omega); omega)
  have hii : (k : Int) < (p.blocks.length : Int) := by omega
  have w1 : IntKind.i64.wrap ((k : Int) + 1) = ((k + 1 : Nat) : Int) := by rw [wrap64 (by omega) (by omega), Int.natCast_add]; rfl
  simp only [BD, hii, decide_true, oN, hg, mH, Bm, w1, hs, DQ]
theorem Sm {l38 : List Span} (hl : l38.length = N) (hN2 : N ≤ 2000000) : ∀ (d k : Nat) (R : List Span), N = k + d → R.length = d →
  v_ (DY l38 ((l38.length : Nat) : Int)) ((k : Int), List.replicate k ⟨-1, -1⟩ ++ R) = some (.x 0, ((N : Int), List.replicate N ⟨-1, -1⟩)) := by
 intro d
 induction d with
 | zero =>
  intro k R hk hR
  obtain rfl : k = N := by omega
  have : R = [] := List.eq_nil_of_length_eq_zero hR
  subst this
  refine qX ?_ (by simp)
  simp [DY, hl]
 | succ d ih =>
  intro k R hk hR
  obtain ⟨x, R, rfl⟩ : ∃ x r, R = x :: r := by cases R with | nil => simp at hR | cons x r => exact ⟨x, r, rfl⟩
  rw [← ih (k + 1) R (by omega) (by simpa using hR)]
  refine rD ?_
  have hii : (k : Int) < (l38.length : Int) := by omega
  have w1 : IntKind.i64.wrap ((k : Int) + 1) = ((k + 1 : Nat) : Int) := by rw [wrap64 (by omega) (by omega), Int.natCast_add]; rfl
  have e1 : BM l38.length (k : Int) = some k := by unfold BM; rw [if_pos (by omega)]; rfl
  have hlen : (List.replicate k (⟨-1, -1⟩ : Span) ++ x :: R).length = l38.length := by simp at hR ⊢; omega
  have e2 : s6 l38.length (List.replicate k ⟨-1, -1⟩ ++ x :: R) k = some x := by
   unfold s6; rw [if_pos hlen, List.getElem?_append_right (by simp)]; simp
  have e3 : Au l38.length (List.replicate k ⟨-1, -1⟩ ++ x :: R) k ⟨-1, -1⟩ = some (List.replicate (k + 1) ⟨-1, -1⟩ ++ R) := by
   unfold Au
   rw [if_pos ⟨hlen, by rw [hlen]; omega⟩, List.set_append_right _ _ (by simp), List.length_replicate, Nat.sub_self, List.set_cons_zero, List.replicate_succ', List.append_assoc]
   rfl
  simp only [DY, hii, decide_true, oN, e1, mH, e2, e3, w1]
end
theorem Er : ∀ {a b x y : List kR}, mU a = some x → mU b = some y → mU (a ++ b) = some (x ++ y)
 | [], b, x, y, h1, h2 => by simp only [mU, Option.some.injEq] at h1; subst h1; exact h2
 | v :: a, b, x, y, h1, h2 => by
  simp only [mU] at h1
  split at h1
  ·rename_i u w e1 e2
   cases h1
   simp only [List.cons_append, mU, e1, Er e2 h2]
  ·cases h1
theorem Gl {α : Type} {enc : α → List kR} (hp : ∀ x, mU (enc x) = some (enc x)) : ∀ xs : List α, mU (Rw enc xs).flatten = some (Rw enc xs).flatten
 | [] => rfl
 | x :: r => by
  have e : (Rw enc (x :: r)).flatten = enc x ++ (Rw enc r).flatten := rfl
  rw [e]; exact Er (hp x) (Gl hp r)
theorem Ie {α : Type} {enc : α → List kR} {sz : Nat} (he : ∀ x, (enc x).length = sz) : ∀ xs : List α, rowsOf xs.length sz (Rw enc xs).flatten = Rw enc xs
 | [] => rfl
 | x :: r => by
  have e : (Rw enc (x :: r)).flatten = enc x ++ (Rw enc r).flatten := rfl
  rw [List.length_cons, rowsOf, e, ← he x, List.take_left, List.drop_left, he x, Ie he r]; rfl
theorem JP {α : Type} {enc : α → List kR} {sz id m : Nat} {h : kT} {xs : List α} (hm : ¬ id < m) (he : ∀ x, (enc x).length = sz) (hp : ∀ x, mU (enc x) = some (enc x)) (hb : h[id]? = some (Vc enc sz xs)) :
  kR.nM m h (.vslice id xs.length 0 xs.length sz) = .slice (Rw enc xs) .no := by
 have hl := vE he xs
 have ht : (((Rw enc xs).flatten.drop 0).take (xs.length * sz)) = (Rw enc xs).flatten := by rw [List.drop_zero, List.take_of_length_le (by rw [hl]; exact Nat.le_refl _)]
 have hd : decide (id < m) = false := decide_eq_false hm
 unfold kR.nM
 simp only [hd, cond_false, hb, Vc, ht, Gl hp, Ie he, hl, Nat.zero_add, Nat.le_refl, and_self, decide_true, cond_true]
theorem c45 (p : IR) (h : kT) : KK 45 [.agg [.int .i64 p.temps, .slice (Rw mK.cells p.arrays) .no, .slice (Rw lX.cells p.blocks) .no, .int .i64 p.inn, .int .i64 p.out]] h =
  some (.ret (.tuple [.slice (Rw Span.cells (if mZ p = 0 then oR p else [])) .no, .int .i64 (mZ p)]), h) := by
 refine lZ rfl rfl (mN (Yg _ _ _) ?_)
 by_cases h0 : mZ p = 0
 ·obtain ⟨hp, hl⟩ := tY h0
  obtain ⟨_, lp, _, _, _⟩ := rZ h0
  have ht0 := lp.t0
  have ht1 := lp.t1
  have hN : ((p.temps.toNat : Nat) : Int) = p.temps := by omega
  have hmk : Sx 16 (⟨0, 0⟩ : Span) p.temps = some (List.replicate p.temps.toNat ⟨0, 0⟩) := by
   unfold Sx; rw [if_pos ⟨by omega, by omega, by omega⟩]
  generalize hl38 : List.replicate p.temps.toNat (⟨0, 0⟩ : Span) = l38 at hmk
  have hlen : l38.length = p.temps.toNat := by rw [← hl38]; simp
  have l2 := Sm hp hN (l38 := l38) hlen (by omega) p.temps.toNat 0 l38 (by omega) hlen
  have l14 := PN hp hN h0 (l38 := l38) hlen p.blocks.length 0 (by omega)
  have n0 : ((0 : Nat) : Int) = 0 := rfl
  have hR : (LS p.temps.toNat fun t => sA p 0 t ++ [false]) = List.replicate p.temps.toNat ⟨-1, -1⟩ := by
   unfold LS sA
   rw [List.eq_replicate_iff]
   refine ⟨by simp, fun x hx => ?_⟩
   obtain ⟨t, _, rfl⟩ := List.mem_map.1 hx
   rfl
  rw [hR] at l14
  simp only [n0, List.replicate_zero, List.nil_append, List.take_zero, List.map_nil, List.sum_nil] at l2 l14
  rw [Kc] at l14
  have hs : (LS p.temps.toNat (sA p p.blocks.length)) = oR p := rfl
  rw [hs] at l14
  have hsl : (oR p).length = l38.length := by rw [hlen]; exact uL
  rw [if_pos h0]
  have hfz : ∀ (b0 b1 : lW) (R : kT), kR.nM 0 (b0 :: b1 :: Vc Span.cells 2 (oR p) :: R) (.vslice 2 l38.length 0 l38.length 2) = .slice (Rw Span.cells (oR p)) .no := by
   intro b0 b1 R
   rw [← hsl]
   exact JP (enc := Span.cells) (by omega) (fun _ => rfl) (fun _ => rfl) rfl
  simp -implicitDefEqProofs [-lS, -lK, -lD, -lF, -lL, -lQ, -lJ, m45, Gq, t27, h0, YN, hmk, Y5, UP, l2, l14, Ru]
  simp only [kR.oM, List.map_cons, List.map_nil, hfz]
  rfl
 ·rw [if_neg h0]
  simp -implicitDefEqProofs [-lS, -lK, -lD, -lF, -lL, -lQ, -lJ, m45, Gq, t27, h0, Ru]
end Go.Proofs.YtkeoalhglkfbkaaDoor


namespace Go.Proofs.YtkeoalhglkfbkaaDoor
open Go Hk
section
variable {p : IR} (hp : wK p) (hl : ∀ b ∈ p.blocks, pT b.term = oY b.term)
include hp hl
end
end Go.Proofs.YtkeoalhglkfbkaaDoor


namespace Go.Proofs.YtkeoalhglkfbkaaDoor
open Go Hk
theorem DU (m : List Bool) : (q_ m).first ≤ (q_ m).last ∧ (q_ m).last < m.length ∧ -1 ≤ (q_ m).first ∧ ((q_ m).first < 0 → (q_ m).last = -1) := by
 induction m using PS.u7 with
 | h0 => exact ⟨by decide, by decide, by decide, fun _ => rfl⟩
 | h1 l b ih =>
  obtain ⟨h1, h2, h3, h4⟩ := ih
  rw [tF]
  have hl : ((l ++ [b]).length : Int) = (l.length : Int) + 1 := by simp
  rw [hl]
  cases b with
  | false => simp only [Bool.false_eq_true, if_false]; exact ⟨h1, by omega, h3, h4⟩
  | true =>
   simp only [if_true]
   unfold Cc
   by_cases hf : (q_ l).first < 0
   ·rw [if_pos hf]; exact ⟨Int.le_refl _, by show (l.length : Int) < _; omega, by show (-1 : Int) ≤ (l.length : Int); omega, fun h => by have : (l.length : Int) < 0 := h; omega⟩
   ·rw [if_neg hf]
    refine ⟨?_, ?_, ?_, ?_⟩ <;> simp only <;> omega
section
variable {p : IR} {A : List Span} {M : List Bool} {t : Int}
end
section
variable {p : IR} (hp : wK p) (hl : ∀ b ∈ p.blocks, pT b.term = oY b.term) {N : Nat} (hN : (N : Int) = p.temps)
include hp hl hN
end
end Go.Proofs.YtkeoalhglkfbkaaDoor


namespace Go.Proofs.YtkeoalhglkfbkaaDoor
open Go Hk
theorem yW {n : Nat} {ps : List (Nat × Nat)} (hd : (ps.map (·.1)).Nodup) {t : Nat} (ht : t < n) : (∀ s, (t, s) ∈ ps → (tO n ps)[t]? = some (s : Int)) ∧ (t ∉ ps.map (·.1) → (tO n ps)[t]? = some (-1)) := by
 induction ps using PS.u7 with
 | h0 => exact ⟨fun s h => by simp at h, fun _ => by simp [tO, ht]⟩
 | h1 l q ih =>
  rw [List.map_append, List.nodup_append] at hd
  obtain ⟨hd1, _, hd3⟩ := hd
  obtain ⟨i1, i2⟩ := ih hd1
  have hq : q.1 ∉ l.map (·.1) := fun h => hd3 _ h q.1 (by simp) rfl
  rw [AU]
  refine ⟨fun s hs => ?_, fun hs => ?_⟩
  ·rw [List.getElem?_set]
   rcases List.mem_append.1 hs with h | h
   ·have hne : q.1 ≠ t := fun e => hq (e ▸ List.mem_map.2 ⟨_, h, rfl⟩)
    rw [if_neg hne]; exact i1 s h
   ·simp only [List.mem_singleton] at h
    subst h
    rw [if_pos rfl, if_pos (by rw [sY]; exact ht)]
  ·rw [List.getElem?_set]
   have hne : q.1 ≠ t := fun e => hs (by simp [e])
   rw [if_neg hne]
   exact i2 fun h => hs (by simp only [List.map_append, List.mem_append]; exact .inl h)
section
variable {sp : List Span} {N : Nat} (hN : sp.length = N) (hN2 : N ≤ 1000000)
include hN hN2
end
end Go.Proofs.YtkeoalhglkfbkaaDoor


namespace Go.Proofs.YtkeoalhglkfbkaaDoor
open Go Hk
section
variable {sp : List Span} {N : Nat} (hN : sp.length = N) (hN2 : N ≤ 1000000)
include hN hN2
end
end Go.Proofs.YtkeoalhglkfbkaaDoor


namespace Go.Proofs.YtkeoalhglkfbkaaDoor
open Go Hk
theorem TN {p : IR} (h0 : mZ p ≠ 0) (h : Hk.kT) :
  KK 47 [.agg [.int .i64 p.temps, .slice (Rw mK.cells p.arrays) .no, .slice (Rw lX.cells p.blocks) .no, .int .i64 p.inn, .int .i64 p.out]] h =
   some (.ret (.tuple [.slice (Rw (ci .i64) []) .no, .int .i64 0, .int .i64 (mZ p)]), h) := by
 refine lZ rfl rfl (mN (Ry _ _ _) ?_)
 have k45 := c45 p
 rw [if_neg h0] at k45
 simp [m47, k45, h0, Lx]
 rfl
end Go.Proofs.YtkeoalhglkfbkaaDoor


namespace Go.Proofs.YtkeoalhglkfbkaaDoor
open Go Hk
noncomputable def QX (p : IR) : Bool := Classical.choose (c43 p)
theorem I1 {p : IR} (h : QX p = true) : p.temps ≤ 60 := (Classical.choose_spec (c43 p)).1 h
noncomputable def Ob (p : IR) : Option Bool := some (QX p)
noncomputable def u45 (p : IR) : Option (List Span × Int) := some (if mZ p = 0 then oR p else [], mZ p)
noncomputable def Nr (p : IR) : Option (List Int × Int × Int) := some (if mZ p = 0 then A3 (oR p) else [], if mZ p = 0 then EK (oR p) else 0, mZ p)
theorem PH {p : IR} : ∀ s ∈ oR p, 0 ≤ s.first → s.first ≤ s.last := by
 intro s hs _
 unfold oR LS at hs
 obtain ⟨t, _, rfl⟩ := List.mem_map.1 hs
 exact (DU _).1
theorem q43 (p : IR) (h : kT) : KK 43 [.agg [.int .i64 p.temps, .slice (Rw mK.cells p.arrays) .no, .slice (Rw lX.cells p.blocks) .no, .int .i64 p.inn, .int .i64 p.out]] h = tm (Ob p) fun r => (.ret (.bool r), h) := (Classical.choose_spec (c43 p)).2 h
theorem q45 (p : IR) (h : kT) : KK 45 [.agg [.int .i64 p.temps, .slice (Rw mK.cells p.arrays) .no, .slice (Rw lX.cells p.blocks) .no, .int .i64 p.inn, .int .i64 p.out]] h = tm (u45 p) fun r => (.ret (.tuple [.slice (Rw Span.cells r.1) .no, .int .i64 r.2]), h) := c45 p h
theorem q47 (p : IR) (hf : p.temps ≤ 60) (h : kT) : KK 47 [.agg [.int .i64 p.temps, .slice (Rw mK.cells p.arrays) .no, .slice (Rw lX.cells p.blocks) .no, .int .i64 p.inn, .int .i64 p.out]] h = tm (Nr p) fun r => (.ret (.tuple [.slice (Rw (ci .i64) r.1) .no, .int .i64 r.2.1, .int .i64 r.2.2]), h) := by
 unfold Nr
 by_cases h0 : mZ p = 0
 ·rw [if_pos h0, if_pos h0]
  have hl : (oR p).length = p.temps.toNat := uL
  refine (c47 (p := p) (sp := oR p) rfl (by omega) PH (fun h => ?_) h).trans (by rw [h0]; rfl)
  have := c45 p h
  rw [if_pos h0, h0] at this
  exact this
 ·rw [if_neg h0, if_neg h0]; exact TN h0 h
noncomputable def AQ (mm : Nat) (aA : R) : Option (n_ × kT) :=
 (fun aB aC => Ex.nV aA.1 (nE mm aB aC)) (gd aA.2.1 0) aA.2.2
noncomputable def MT (K : k9) (m : Nat) (aH : kR) (aC : kR) (aD : kR) (aE : kR) (aA : kR) (aB : kR) (aG : kT) (aF : kR) : Option R :=
 lG aH (lC m .ret [(.bool false), aC, aD, aE, aA, aB] aG) (bo .add aB (.int .i64 1) fun aI => lC m .normal [aF, aC, aD, aE, aA, aI] aG)
noncomputable def Ju (K : k9) (m : Nat) (s : List kR × kT) : Option R :=
 (fun aH aD aE aF aC aA aG => ln aD fun aR => bo .lss aA aR fun aS => lG aS (ix 2 aD aA fun aT => ld true 2 aG aT fun aU => ix 2 aE aA fun aV => ld true 2 aG aV fun aW => (o_ [.i, .i] aU aW).bind fun aB => gS false (.bool (!aB)) (kW aF aG) aG fun aX aK => gS false (.bool (!aB)) (kW aA aK) aK fun aY aL => gS false (.bool (!aB)) (ix 1 aX aY fun aZ => kW aZ aL) aL fun a6 aI => gS false (.bool (!aB)) (ld false 1 aI a6 fun a7 => kW a7 aI) aI fun a8 aM => gS false (.bool (!aB)) (kW aC aM) aM fun a_ aN => gS false (.bool (!aB)) (kW aA aN) aN fun bA aO => gS false (.bool (!aB)) (ix 1 a_ bA fun bB => kW bB aO) aO fun bC aJ => gS false (.bool (!aB)) (ld false 1 aJ bC fun bD => kW bD aJ) aJ fun bE aP => gS false (.bool (!aB)) (bo .neq a8 bE fun bF => kW bF aP) aP fun bG aQ => (lV (.bool (!aB)) (.bool true) bG).bind fun bH => MT K m bH aD aE aF aC aA aQ aH) (lC m (.exit 0) [aH, aD, aE, aF, aC, aA] aG)) (gd s.1 0) (gd s.1 1) (gd s.1 2) (gd s.1 3) (gd s.1 4) (gd s.1 5) s.2
noncomputable def MS (K : k9) (aJ : kR) (aB : kT) (aO : kR) (aP : kR) (Nq : kR) (aQ : kR) : Option R :=
 lG aJ (some (.ret, [(.bool false)], aB)) ((mJ (Ju K (List.length aB)) ([(.bool false), aO, aP, Nq, aQ, (.int .i64 0)], aB)).bind fun aA => (fun aC aL aM aN aE aF aD => Ex.lY aA.1 none (fun aG => Ex.inBlock 0 aG (ca (K 44 [] aD) fun aK aI => some (.ret, [aK], aI)) (fun aH => some (aH, [aC], aD)))) (gd aA.2.1 0) (gd aA.2.1 1) (gd aA.2.1 2) (gd aA.2.1 3) (gd aA.2.1 4) (gd aA.2.1 5) aA.2.2)
noncomputable def MR (K : k9) (aA : kR) (Nr : kR) (aB : kT) (aN : kR) (aK : kR) (aL : kR) (Nq : kR) (aM : kR) : Option R :=
 gS false aA (kW Nr aB) aB fun aF aC => gS false aA (kW aN aC) aC fun aG aD => gS false aA (bo .neq aF aG fun aH => kW aH aD) aD fun aI aE => (lV aA (.bool true) aI).bind fun aJ => MS K aJ aE aK aL Nq aM
noncomputable def MQ (K : k9) (t96 : kR) (Te : kR) (aH : kT) (aM : kR) (Nr : kR) (aL : kR) (aI : kR) (aJ : kR) (Nq : kR) (aK : kR) : Option R :=
 gS false t96 (kW Te aH) aH fun t100 aA => gS false t96 (kW aM aA) aA fun aD aB => gS false t96 (bo .neq t100 aD fun aE => kW aE aB) aB fun aF aC => (lV t96 (.bool true) aF).bind fun aG => MR K aG Nr aC aL aI aJ Nq aK
noncomputable def MP (K : k9) (aA : kR) (aG : kR) (aB : kT) (aI : kR) (Te : kR) (aL : kR) (Nr : kR) (aK : kR) (aF : kR) (aH : kR) (Nq : kR) (aJ : kR) : Option R :=
 gS false aA (kW aG aB) aB fun aM aC => gS false aA (kW aI aC) aC fun aN aD => gS false aA (bo .neq aM aN fun aO => kW aO aD) aD fun aP aE => (lV aA (.bool true) aP).bind fun t96 => MQ K t96 Te aE aL Nr aK aF aH Nq aJ
noncomputable def n14 (K : k9) (a0 : kR) (h0 : kT) : Option (n_ × kT) :=
 (lE (nG 5 h0 a0) fun aB aE => ld true 5 aE aB fun aU => ca (K 43 [(kR.k8 aU)] aE) fun aV aC => (yF .not aV).bind fun aW => lG aW (ca (K 44 [] aC) fun t27 aS => some (.ret, [t27], aS)) (ld true 5 aC aB fun t30 => ca (K 45 [(kR.k8 t30)] aC) fun aN aF => (mF 0 aN).bind fun aO => (mF 1 aN).bind fun aX => ld true 5 aF aB fun aY => ca (K 46 [(kR.k8 aY)] aF) fun aP aG => (mF 0 aP).bind fun aQ => (mF 1 aP).bind fun aZ => ld true 5 aG aB fun a6 => ca (K 47 [(kR.k8 a6)] aG) fun Ob aH => (mF 0 Ob).bind fun Nq => (mF 1 Ob).bind fun Nr => (mF 2 Ob).bind fun Te => ld true 5 aH aB fun t49 => ca (K 48 [(kR.k8 t49)] aH) fun aD aI => (mF 0 aD).bind fun aR => (mF 1 aD).bind fun a7 => (mF 2 aD).bind fun a8 => ln aO fun a_ => ln aQ fun bA => bo .neq a_ bA fun aA => gS false aA (kW Nq aI) aI fun bB aJ => gS false aA (ln bB fun bC => kW bC aJ) aJ fun bD aK => gS false aA (kW aR aK) aK fun t64 aL => gS false aA (ln t64 fun bE => kW bE aL) aL fun bF aM => gS false aA (bo .neq bD bF fun bG => kW bG aM) aM fun bH aT => (lV aA (.bool true) bH).bind fun bI => MP K bI aX aT aZ Te a8 Nr a7 aO aQ Nq aR)).bind (AQ (List.length h0))
end Go.Proofs.YtkeoalhglkfbkaaDoor


namespace Go.Proofs.YtkeoalhglkfbkaaDoor
open Go Hk
theorem E0 {sp : List Span} : (A3 sp).length = sp.length := sY
end Go.Proofs.YtkeoalhglkfbkaaDoor


namespace Go.Proofs.YtkeoalhglkfbkaaDoor
open Go Hk
noncomputable def Jx (K : k9) (m : Nat) (aJ : kR) (aB : kR) (aC : kR) (aD : kR) (aE : kR) (aF : kR) (aI : kR) (aA : kR) (aH : kT) (aG : kR) : Option R :=
 lG aJ (lC m .ret [(.bool false), aB, aC, aD, aE, aF, aI, aA] aH) (lC m .normal [aG, aB, aC, aD, aE, aF, aI, aA] aH)
noncomputable def BA (aB : Bool) (aA : Int) : Option (Ey × Int) :=
 tc aB (some (.r, aA)) (some (.n, aA))
theorem UN (w311 : Bool) (w53 : (List Span)) (w55 : (List Int)) (w56 : Int) (w119 : Int) (w120 : Int) (w312 : Int) (w203 : Int) (p0 : IR) : (Jx KK 1 (.bool w311) (.slice (Rw Span.cells w53) .no) (.slice (Rw (ci .i64) w55) .no) (.int .i64 w56) (.int .i64 w119) (.int .i64 w120) (.int .i64 w312) (.int .i64 w203) ([.cells [(.int .i64 p0.temps), (.slice (Rw mK.cells p0.arrays) .no), (.slice (Rw lX.cells p0.blocks) .no), (.int .i64 p0.inn), (.int .i64 p0.out)]] : kT) (.bool false)) = tm (BA w311 w312) fun r => (r.1.ex, [(.bool false), (.slice (Rw Span.cells w53) .no), (.slice (Rw (ci .i64) w55) .no), (.int .i64 w56), (.int .i64 w119), (.int .i64 w120), (.int .i64 r.2), (.int .i64 w203)], ([.cells [(.int .i64 p0.temps), (.slice (Rw mK.cells p0.arrays) .no), (.slice (Rw lX.cells p0.blocks) .no), (.int .i64 p0.inn), (.int .i64 p0.out)]] : kT)) := by
 simp +contextual -implicitDefEqProofs (maxSteps := 2000000) [-lS, -lK, -lD, -lF, -lL, -lQ, -lJ, Jx, BA]
noncomputable def Jv (K : k9) (m : Nat) (aT : kR) (aE : kR) (aA : kR) (aD : kR) (aC : kR) (aJ : kT) (aG : kR) (aH : kR) (aI : kR) (aF : kR) : Option R :=
 lG aT (bo .add aE (.int .i64 1) fun aU => bo .neq aA aD fun aB => gS true aB (kW aC aJ) aJ fun aV aM => gS true aB (kW aA aM) aM fun aW aN => gS true aB (ix 1 aV aW fun aX => kW aX aN) aN fun aY aK => gS true aB (ld false 1 aK aY fun aZ => kW aZ aK) aK fun a6 aO => gS true aB (kW aC aO) aO fun a7 aP => gS true aB (kW aD aP) aP fun a8 aQ => gS true aB (ix 1 a7 a8 fun a_ => kW a_ aQ) aQ fun bA aL => gS true aB (ld false 1 aL bA fun bB => kW bB aL) aL fun bC aR => gS true aB (bo .eql a6 bC fun bD => kW bD aR) aR fun bE aS => (lV aB bE (.bool false)).bind fun bF => Jx K m bF aG aC aH aI aD aU aA aS aF) (lC m .normal [aF, aG, aC, aH, aI, aD, aE, aA] aJ)
noncomputable def xT (aF : Bool) (aA : Int) (aC : Int) (aB : Int) (aG : (List Int)) : Option (Ey × Int) :=
 tc aF (tc (!decide (aC = aB)) (tb ((oO aG aC)) fun aD => tb ((oO aG aB)) fun aE => BA (decide (aD = aE)) (IntKind.wrap .i64 (aA + 1))) (BA false (IntKind.wrap .i64 (aA + 1)))) (some (.n, aA))
theorem JH (w280 : Bool) (w202 : Int) (w203 : Int) (w120 : Int) (w55 : (List Int)) (p0 : IR) (w53 : (List Span)) (w56 : Int) (w119 : Int) : (Jv KK 1 (.bool w280) (.int .i64 w202) (.int .i64 w203) (.int .i64 w120) (.slice (Rw (ci .i64) w55) .no) ([.cells [(.int .i64 p0.temps), (.slice (Rw mK.cells p0.arrays) .no), (.slice (Rw lX.cells p0.blocks) .no), (.int .i64 p0.inn), (.int .i64 p0.out)]] : kT) (.slice (Rw Span.cells w53) .no) (.int .i64 w56) (.int .i64 w119) (.bool false)) = tm (xT w280 w202 w203 w120 w55) fun r => (r.1.ex, [(.bool false), (.slice (Rw Span.cells w53) .no), (.slice (Rw (ci .i64) w55) .no), (.int .i64 w56), (.int .i64 w119), (.int .i64 w120), (.int .i64 r.2), (.int .i64 w203)], ([.cells [(.int .i64 p0.temps), (.slice (Rw mK.cells p0.arrays) .no), (.slice (Rw lX.cells p0.blocks) .no), (.int .i64 p0.inn), (.int .i64 p0.out)]] : kT)) := by
 simp +contextual -implicitDefEqProofs (maxSteps := 2000000) [-lS, -lK, -lD, -lF, -lL, -lQ, -lJ, Jv, xT, UN]
noncomputable def MZ (K : k9) (m : Nat) (aR : kT) (aU : kR) (aJ : kR) (aK : kR) (aQ : kR) (aN : kR) (aM : kR) (aO : kR) (aP : kR) (aL : kR) : Option R :=
 (Jv K (List.length aR) aU aJ aK aQ aN aR aM aO aP aL).bind fun aA => (fun aD aE aF aG aH aI aB aC aS => Ex.lY aA.1 (lC m .normal [aD, aE, aF, aG, aH, aI, aB, aC] aS) (fun aT => lC m aT [aD, aE, aF, aG, aH, aI, aB, aC] aS)) (gd aA.2.1 0) (gd aA.2.1 1) (gd aA.2.1 2) (gd aA.2.1 3) (gd aA.2.1 4) (gd aA.2.1 5) (gd aA.2.1 6) (gd aA.2.1 7) aA.2.2
noncomputable def Ab (aF : Bool) (aD : Int) (aE : Int) (aC : Int) (aG : (List Int)) : Option (Ey × Int) :=
 tb (xT aF aD aE aC aG) fun aA => As aA.1 (some (.n, aA.2)) fun aB => some (aB, aA.2)
theorem RX (p0 : IR) (w280 : Bool) (w202 : Int) (w203 : Int) (w120 : Int) (w55 : (List Int)) (w53 : (List Span)) (w56 : Int) (w119 : Int) : (MZ KK 1 ([.cells [(.int .i64 p0.temps), (.slice (Rw mK.cells p0.arrays) .no), (.slice (Rw lX.cells p0.blocks) .no), (.int .i64 p0.inn), (.int .i64 p0.out)]] : kT) (.bool w280) (.int .i64 w202) (.int .i64 w203) (.int .i64 w120) (.slice (Rw (ci .i64) w55) .no) (.slice (Rw Span.cells w53) .no) (.int .i64 w56) (.int .i64 w119) (.bool false)) = tm (Ab w280 w202 w203 w120 w55) fun r => (r.1.ex, [(.bool false), (.slice (Rw Span.cells w53) .no), (.slice (Rw (ci .i64) w55) .no), (.int .i64 w56), (.int .i64 w119), (.int .i64 w120), (.int .i64 r.2), (.int .i64 w203)], ([.cells [(.int .i64 p0.temps), (.slice (Rw mK.cells p0.arrays) .no), (.slice (Rw lX.cells p0.blocks) .no), (.int .i64 p0.inn), (.int .i64 p0.out)]] : kT)) := by
 simp +contextual -implicitDefEqProofs (maxSteps := 2000000) [-lS, -lK, -lD, -lF, -lL, -lQ, -lJ, MZ, Ab, JH]
noncomputable def MY (K : k9) (m : Nat) (aA : kR) (aB : kR) (aL : kT) (aD : kR) (aC : kR) (aE : kR) (aI : kR) (aJ : kR) (aK : kR) (aH : kR) : Option R :=
 gS true aA (kW aB aL) aL fun aV aM => gS true aA (kW aD aM) aM fun aW aN => gS true aA (ix 2 aV aW fun aX => kW aX aN) aN fun aY aO => gS true aA (fa 0 aY fun aZ => kW aZ aO) aO fun a6 aF => gS true aA (ld false 1 aF a6 fun a7 => kW a7 aF) aF fun a8 aP => gS true aA (kW aB aP) aP fun a_ aQ => gS true aA (kW aC aQ) aQ fun bA aR => gS true aA (ix 2 a_ bA fun bB => kW bB aR) aR fun bC aS => gS true aA (fa 1 bC fun bD => kW bD aS) aS fun bE aG => gS true aA (ld false 1 aG bE fun bF => kW bF aG) aG fun bG aT => gS true aA (bo .leq a8 bG fun bH => kW bH aT) aT fun bI aU => (lV aA bI (.bool false)).bind fun bJ => MZ K m aU bJ aE aC aD aI aB aJ aK aH
noncomputable def Aa (aF : Bool) (aG : (List Span)) (aA : Int) (aB : Int) (aC : Int) (aH : (List Int)) : Option (Ey × Int) :=
 tc aF (tb ((oO aG aA)) fun aD => tb ((oO aG aB)) fun aE => Ab (decide (aD.first ≤ aE.last)) aC aB aA aH) (Ab false aC aB aA aH)
theorem Y2 (w245 : Bool) (w53 : (List Span)) (p0 : IR) (w120 : Int) (w203 : Int) (w202 : Int) (w55 : (List Int)) (w56 : Int) (w119 : Int) : (MY KK 1 (.bool w245) (.slice (Rw Span.cells w53) .no) ([.cells [(.int .i64 p0.temps), (.slice (Rw mK.cells p0.arrays) .no), (.slice (Rw lX.cells p0.blocks) .no), (.int .i64 p0.inn), (.int .i64 p0.out)]] : kT) (.int .i64 w120) (.int .i64 w203) (.int .i64 w202) (.slice (Rw (ci .i64) w55) .no) (.int .i64 w56) (.int .i64 w119) (.bool false)) = tm (Aa w245 w53 w120 w203 w202 w55) fun r => (r.1.ex, [(.bool false), (.slice (Rw Span.cells w53) .no), (.slice (Rw (ci .i64) w55) .no), (.int .i64 w56), (.int .i64 w119), (.int .i64 w120), (.int .i64 r.2), (.int .i64 w203)], ([.cells [(.int .i64 p0.temps), (.slice (Rw mK.cells p0.arrays) .no), (.slice (Rw lX.cells p0.blocks) .no), (.int .i64 p0.inn), (.int .i64 p0.out)]] : kT)) := by
 simp +contextual -implicitDefEqProofs (maxSteps := 2000000) [-lS, -lK, -lD, -lF, -lL, -lQ, -lJ, MY, Aa, JH, RX]
noncomputable def MV (K : k9) (m : Nat) (aC : kR) (aB : kR) (aF : kT) (aD : kR) (aE : kR) (aJ : kR) (aK : kR) (aL : kR) (aI : kR) : Option R :=
 ix 2 aC aB fun aV => fa 0 aV fun aW => ld false 1 aF aW fun aX => bo .geq aX (.int .i64 0) fun aA => gS true aA (kW aC aF) aF fun aY aM => gS true aA (kW aD aM) aM fun aZ aN => gS true aA (ix 2 aY aZ fun a6 => kW a6 aN) aN fun a7 aO => gS true aA (fa 0 a7 fun a8 => kW a8 aO) aO fun a_ aG => gS true aA (ld false 1 aG a_ fun bA => kW bA aG) aG fun bB aP => gS true aA (kW aC aP) aP fun bC aQ => gS true aA (kW aB aQ) aQ fun bD aR => gS true aA (ix 2 bC bD fun bE => kW bE aR) aR fun bF aS => gS true aA (fa 0 bF fun bG => kW bG aS) aS fun bH aH => gS true aA (ld false 1 aH bH fun bI => kW bI aH) aH fun bJ aT => gS true aA (bo .geq bB bJ fun bK => kW bK aT) aT fun bL aU => (lV aA bL (.bool false)).bind fun bM => MY K m bM aC aU aD aB aE aJ aK aL aI
noncomputable def GG (aD : (List Span)) (aA : Int) (aB : Int) (aC : Int) (aH : (List Int)) : Option (Ey × Int) :=
 tb ((oO aD aA)) fun aE => tc (decide (0 ≤ aE.first)) (tb ((oO aD aB)) fun aF => tb ((oO aD aA)) fun aG => Aa (decide (aG.first ≤ aF.first)) aD aB aA aC aH) (Aa false aD aB aA aC aH)
theorem Y0 (w53 : (List Span)) (w203 : Int) (p0 : IR) (w120 : Int) (w202 : Int) (w55 : (List Int)) (w56 : Int) (w119 : Int) : (MV KK 1 (.slice (Rw Span.cells w53) .no) (.int .i64 w203) ([.cells [(.int .i64 p0.temps), (.slice (Rw mK.cells p0.arrays) .no), (.slice (Rw lX.cells p0.blocks) .no), (.int .i64 p0.inn), (.int .i64 p0.out)]] : kT) (.int .i64 w120) (.int .i64 w202) (.slice (Rw (ci .i64) w55) .no) (.int .i64 w56) (.int .i64 w119) (.bool false)) = tm (GG w53 w203 w120 w202 w55) fun r => (r.1.ex, [(.bool false), (.slice (Rw Span.cells w53) .no), (.slice (Rw (ci .i64) w55) .no), (.int .i64 w56), (.int .i64 w119), (.int .i64 w120), (.int .i64 r.2), (.int .i64 w203)], ([.cells [(.int .i64 p0.temps), (.slice (Rw mK.cells p0.arrays) .no), (.slice (Rw lX.cells p0.blocks) .no), (.int .i64 p0.inn), (.int .i64 p0.out)]] : kT)) := by
 simp +contextual -implicitDefEqProofs (maxSteps := 2000000) [-lS, -lK, -lD, -lF, -lL, -lQ, -lJ, MV, GG, JH, RX, Y2]
noncomputable def Dd (K : k9) (m : Nat) (s : List kR × kT) : Option R :=
 (fun aG aC aJ aL aN aP aD aB aR => ln aC fun aU => bo .lss aB aU fun aV => lG aV ((MV K (List.length aR) aC aB aR aP aD aJ aL aN aG).bind fun aA => (fun aH aI aK aM aO aQ aE aF aS => Ex.inBlock 3 aA.1 (bo .add aF (.int .i64 1) fun aW => lC m .normal [aH, aI, aK, aM, aO, aQ, aE, aW] aS) (fun aT => lC m aT [aH, aI, aK, aM, aO, aQ, aE, aF] aS)) (gd aA.2.1 0) (gd aA.2.1 1) (gd aA.2.1 2) (gd aA.2.1 3) (gd aA.2.1 4) (gd aA.2.1 5) (gd aA.2.1 6) (gd aA.2.1 7) aA.2.2) (lC m (.exit 2) [aG, aC, aJ, aL, aN, aP, aD, aB] aR)) (gd s.1 0) (gd s.1 1) (gd s.1 2) (gd s.1 3) (gd s.1 4) (gd s.1 5) (gd s.1 6) (gd s.1 7) s.2
noncomputable def z_ (aE : (List Span)) (aF : (List Int)) (aD : Int) (aA : Int × Int) : Option (Ey × Int × Int) :=
 tc (decide (aA.2 < ((List.length aE : Nat) : Int))) (tb (GG aE aA.2 aD aA.1 aF) fun aB => Bm 3 aB.1 (some (.n, (aB.2, (IntKind.wrap .i64 (aA.2 + 1))))) fun aC => some (aC, (aB.2, aA.2))) (some ((.x 2), (aA.1, aA.2)))
theorem TG (w53 : (List Span)) (w55 : (List Int)) (w56 : Int) (w119 : Int) (w120 : Int) (p0 : IR) (s190 : Int × Int) : Dd KK 1 ([(.bool false), (.slice (Rw Span.cells w53) .no), (.slice (Rw (ci .i64) w55) .no), (.int .i64 w56), (.int .i64 w119), (.int .i64 w120), (.int .i64 s190.1), (.int .i64 s190.2)], ([.cells [(.int .i64 p0.temps), (.slice (Rw mK.cells p0.arrays) .no), (.slice (Rw lX.cells p0.blocks) .no), (.int .i64 p0.inn), (.int .i64 p0.out)]] : kT)) = tm (z_ w53 w55 w120 s190) fun r => (r.1.ex, [(.bool false), (.slice (Rw Span.cells w53) .no), (.slice (Rw (ci .i64) w55) .no), (.int .i64 w56), (.int .i64 w119), (.int .i64 w120), (.int .i64 r.2.1), (.int .i64 r.2.2)], ([.cells [(.int .i64 p0.temps), (.slice (Rw mK.cells p0.arrays) .no), (.slice (Rw lX.cells p0.blocks) .no), (.int .i64 p0.inn), (.int .i64 p0.out)]] : kT)) := by
 simp +contextual -implicitDefEqProofs (maxSteps := 2000000) [-lS, -lK, -lD, -lF, -lL, -lQ, -lJ, Dd, z_, Y0]
theorem JJ (w53 : (List Span)) (w55 : (List Int)) (w56 : Int) (w119 : Int) (w120 : Int) (p0 : IR) (i6 : Int) (i7 : Int) : mJ (Dd KK 1) ([(.bool false), (.slice (Rw Span.cells w53) .no), (.slice (Rw (ci .i64) w55) .no), (.int .i64 w56), (.int .i64 w119), (.int .i64 w120), (.int .i64 i6), (.int .i64 i7)], ([.cells [(.int .i64 p0.temps), (.slice (Rw mK.cells p0.arrays) .no), (.slice (Rw lX.cells p0.blocks) .no), (.int .i64 p0.inn), (.int .i64 p0.out)]] : kT)) = tm (v_ (z_ w53 w55 w120) (i6, i7)) fun r => (r.1.ex, [(.bool false), (.slice (Rw Span.cells w53) .no), (.slice (Rw (ci .i64) w55) .no), (.int .i64 w56), (.int .i64 w119), (.int .i64 w120), (.int .i64 r.2.1), (.int .i64 r.2.2)], ([.cells [(.int .i64 p0.temps), (.slice (Rw mK.cells p0.arrays) .no), (.slice (Rw lX.cells p0.blocks) .no), (.int .i64 p0.inn), (.int .i64 p0.out)]] : kT)) := by
 exact w6 (enc := fun s190 => ([(.bool false), (.slice (Rw Span.cells w53) .no), (.slice (Rw (ci .i64) w55) .no), (.int .i64 w56), (.int .i64 w119), (.int .i64 w120), (.int .i64 s190.1), (.int .i64 s190.2)], ([.cells [(.int .i64 p0.temps), (.slice (Rw mK.cells p0.arrays) .no), (.slice (Rw lX.cells p0.blocks) .no), (.int .i64 p0.inn), (.int .i64 p0.out)]] : kT))) (fun s190 => TG w53 w55 w56 w119 w120 p0 s190) (i6, i7)
noncomputable def Jw (K : k9) (m : Nat) (aI : kR) (aE : kR) (aG : kR) (aA : kR) (aB : kR) (aC : kR) (aD : kR) (aF : kR) (aH : kT) : Option R :=
 lG aI ((Ah aE aG).bind fun aJ => lC m .normal [aA, aB, aC, aD, aJ, aF] aH) (lC m .normal [aA, aB, aC, aD, aE, aF] aH)
noncomputable def E3 (aC : Bool) (aA : Int) (aB : Int) : Option (Int) :=
 tc aC (some (max aA aB)) (some aA)
theorem JI (w355 : Bool) (w119 : Int) (w353 : Int) (w53 : (List Span)) (w55 : (List Int)) (w56 : Int) (w120 : Int) (p0 : IR) : (Jw KK 1 (.bool w355) (.int .i64 w119) (.int .i64 w353) (.bool false) (.slice (Rw Span.cells w53) .no) (.slice (Rw (ci .i64) w55) .no) (.int .i64 w56) (.int .i64 w120) ([.cells [(.int .i64 p0.temps), (.slice (Rw mK.cells p0.arrays) .no), (.slice (Rw lX.cells p0.blocks) .no), (.int .i64 p0.inn), (.int .i64 p0.out)]] : kT)) = tm (E3 w355 w119 w353) fun r => (.normal, [(.bool false), (.slice (Rw Span.cells w53) .no), (.slice (Rw (ci .i64) w55) .no), (.int .i64 w56), (.int .i64 r), (.int .i64 w120)], ([.cells [(.int .i64 p0.temps), (.slice (Rw mK.cells p0.arrays) .no), (.slice (Rw lX.cells p0.blocks) .no), (.int .i64 p0.inn), (.int .i64 p0.out)]] : kT)) := by
 simp +contextual -implicitDefEqProofs (maxSteps := 2000000) [-lS, -lK, -lD, -lF, -lL, -lQ, -lJ, Jw, E3]
noncomputable def MX (K : k9) (m : Nat) (a7 : kR) (aF : kR) (aG : kR) (aI : kR) (aK : kR) (aM : kR) (aP : kT) (aQ : kR) : Option R :=
 lG a7 (lC m .ret [(.bool false), aF, aG, aI, aK, aM] aP) ((mJ (Dd K (List.length aP)) ([aQ, aF, aG, aI, aK, aM, (.int .i64 0), (.int .i64 0)], aP)).bind fun aA => (fun aE aC aH aJ aL aD aO aX aN => Ex.lY aA.1 none (fun aY => Ex.inBlock 2 aY (ix 2 aC aD fun a8 => fa 0 a8 fun a_ => ld false 1 aN a_ fun bA => bo .geq bA (.int .i64 0) fun bB => (Jw K (List.length aN) bB aL aO aE aC aH aJ aD aN).bind fun aB => (fun aR aS aT aU aV aW a6 => Ex.sO aB.1 (lC m .normal [aR, aS, aT, aU, aV, aW] a6)) (gd aB.2.1 0) (gd aB.2.1 1) (gd aB.2.1 2) (gd aB.2.1 3) (gd aB.2.1 4) (gd aB.2.1 5) aB.2.2) (fun aZ => lC m aZ [aE, aC, aH, aJ, aL, aD] aN))) (gd aA.2.1 0) (gd aA.2.1 1) (gd aA.2.1 2) (gd aA.2.1 3) (gd aA.2.1 4) (gd aA.2.1 5) (gd aA.2.1 6) (gd aA.2.1 7) aA.2.2)
noncomputable def DX (aH : Bool) (aI : (List Span)) (aJ : (List Int)) (aA : Int) (aC : Int) : Option (Ey × Int) :=
 tc aH (some (.r, aA)) (tb (v_ (z_ aI aJ aC) (0, 0)) fun aB => As aB.1 none fun aD => Bm 2 aD (tb ((oO aI aC)) fun aG => tb (E3 (decide (0 ≤ aG.first)) aA aB.2.1) fun aF => some (.n, aF)) fun aE => some (aE, aA))
theorem RW (w189 : Bool) (w53 : (List Span)) (w55 : (List Int)) (w56 : Int) (w119 : Int) (w120 : Int) (p0 : IR) : (MX KK 1 (.bool w189) (.slice (Rw Span.cells w53) .no) (.slice (Rw (ci .i64) w55) .no) (.int .i64 w56) (.int .i64 w119) (.int .i64 w120) ([.cells [(.int .i64 p0.temps), (.slice (Rw mK.cells p0.arrays) .no), (.slice (Rw lX.cells p0.blocks) .no), (.int .i64 p0.inn), (.int .i64 p0.out)]] : kT) (.bool false)) = tm (DX w189 w53 w55 w119 w120) fun r => (r.1.ex, [(.bool false), (.slice (Rw Span.cells w53) .no), (.slice (Rw (ci .i64) w55) .no), (.int .i64 w56), (.int .i64 r.2), (.int .i64 w120)], ([.cells [(.int .i64 p0.temps), (.slice (Rw mK.cells p0.arrays) .no), (.slice (Rw lX.cells p0.blocks) .no), (.int .i64 p0.inn), (.int .i64 p0.out)]] : kT)) := by
 simp +contextual -implicitDefEqProofs (maxSteps := 2000000) [-lS, -lK, -lD, -lF, -lL, -lQ, -lJ, MX, DX, JJ, JI]
noncomputable def MW (K : k9) (m : Nat) (aA : kR) (aB : kR) (aI : kT) (aD : kR) (aC : kR) (aG : kR) (aH : kR) (aF : kR) : Option R :=
 gS false aA (kW aB aI) aI fun aO aJ => gS false aA (kW aD aJ) aJ fun aP aK => gS false aA (ix 1 aO aP fun aQ => kW aQ aK) aK fun aR aE => gS false aA (ld false 1 aE aR fun aS => kW aS aE) aE fun aT aL => gS false aA (kW aC aL) aL fun aU aM => gS false aA (bo .geq aT aU fun aV => kW aV aM) aM fun aW aN => (lV aA (.bool true) aW).bind fun aX => MX K m aX aG aB aC aH aD aN aF
noncomputable def Cw (aD : Bool) (aE : (List Int)) (aA : Int) (aG : Int) (aF : (List Span)) (aB : Int) : Option (Ey × Int) :=
 tc aD (DX true aF aE aB aA) (tb ((oO aE aA)) fun aC => DX (decide (aG ≤ aC)) aF aE aB aA)
theorem Y1 (w167 : Bool) (w55 : (List Int)) (p0 : IR) (w120 : Int) (w56 : Int) (w53 : (List Span)) (w119 : Int) : (MW KK 1 (.bool w167) (.slice (Rw (ci .i64) w55) .no) ([.cells [(.int .i64 p0.temps), (.slice (Rw mK.cells p0.arrays) .no), (.slice (Rw lX.cells p0.blocks) .no), (.int .i64 p0.inn), (.int .i64 p0.out)]] : kT) (.int .i64 w120) (.int .i64 w56) (.slice (Rw Span.cells w53) .no) (.int .i64 w119) (.bool false)) = tm (Cw w167 w55 w120 w56 w53 w119) fun r => (r.1.ex, [(.bool false), (.slice (Rw Span.cells w53) .no), (.slice (Rw (ci .i64) w55) .no), (.int .i64 w56), (.int .i64 r.2), (.int .i64 w120)], ([.cells [(.int .i64 p0.temps), (.slice (Rw mK.cells p0.arrays) .no), (.slice (Rw lX.cells p0.blocks) .no), (.int .i64 p0.inn), (.int .i64 p0.out)]] : kT)) := by
 simp +contextual -implicitDefEqProofs (maxSteps := 2000000) [-lS, -lK, -lD, -lF, -lL, -lQ, -lJ, MW, Cw, JJ, JI, RW]
noncomputable def MU (K : k9) (m : Nat) (aC : kR) (aB : kR) (aE : kT) (aD : kR) (aI : kR) (aJ : kR) (aH : kR) : Option R :=
 ix 2 aC aB fun aT => fa 0 aT fun aU => ld false 1 aE aU fun aV => bo .geq aV (.int .i64 0) fun aW => ix 1 aD aB fun aX => ld false 1 aE aX fun aY => bo .geq aY (.int .i64 0) fun aZ => (Fh .neq aW aZ).bind fun aA => gS false aA (kW aC aE) aE fun a6 aK => gS false aA (kW aB aK) aK fun a7 aL => gS false aA (ix 2 a6 a7 fun a8 => kW a8 aL) aL fun a_ aM => gS false aA (fa 1 a_ fun bA => kW bA aM) aM fun bB aF => gS false aA (ld false 1 aF bB fun bC => kW bC aF) aF fun bD aN => gS false aA (kW aC aN) aN fun bE aO => gS false aA (kW aB aO) aO fun bF aP => gS false aA (ix 2 bE bF fun bG => kW bG aP) aP fun bH aQ => gS false aA (fa 0 bH fun bI => kW bI aQ) aQ fun bJ aG => gS false aA (ld false 1 aG bJ fun bK => kW bK aG) aG fun bL aR => gS false aA (bo .lss bD bL fun bM => kW bM aR) aR fun bN aS => (lV aA (.bool true) bN).bind fun bO => MW K m bO aD aS aB aI aC aJ aH
noncomputable def DW (aC : (List Span)) (aA : Int) (aH : (List Int)) (aI : Int) (aB : Int) : Option (Ey × Int) :=
 tb ((oO aC aA)) fun aD => tb ((oO aH aA)) fun aE => tc (!decide ((decide (0 ≤ aD.first)) = (decide (0 ≤ aE)))) (Cw true aH aA aI aC aB) (tb ((oO aC aA)) fun aF => tb ((oO aC aA)) fun aG => Cw (decide (aF.last < aG.first)) aH aA aI aC aB)
theorem YZ (w53 : (List Span)) (w120 : Int) (p0 : IR) (w55 : (List Int)) (w56 : Int) (w119 : Int) : (MU KK 1 (.slice (Rw Span.cells w53) .no) (.int .i64 w120) ([.cells [(.int .i64 p0.temps), (.slice (Rw mK.cells p0.arrays) .no), (.slice (Rw lX.cells p0.blocks) .no), (.int .i64 p0.inn), (.int .i64 p0.out)]] : kT) (.slice (Rw (ci .i64) w55) .no) (.int .i64 w56) (.int .i64 w119) (.bool false)) = tm (DW w53 w120 w55 w56 w119) fun r => (r.1.ex, [(.bool false), (.slice (Rw Span.cells w53) .no), (.slice (Rw (ci .i64) w55) .no), (.int .i64 w56), (.int .i64 r.2), (.int .i64 w120)], ([.cells [(.int .i64 p0.temps), (.slice (Rw mK.cells p0.arrays) .no), (.slice (Rw lX.cells p0.blocks) .no), (.int .i64 p0.inn), (.int .i64 p0.out)]] : kT)) := by
 simp +contextual -implicitDefEqProofs (maxSteps := 2000000) [-lS, -lK, -lD, -lF, -lL, -lQ, -lJ, MU, DW, JJ, JI, RW, Y1]
noncomputable def EV (K : k9) (m : Nat) (s : List kR × kT) : Option R :=
 (fun aD aB aG aI aK aC aN => ln aB fun aQ => bo .lss aC aQ fun aR => lG aR ((MU K (List.length aN) aB aC aN aG aI aK aD).bind fun aA => (fun aE aF aH aJ aL aM aO => Ex.inBlock 1 aA.1 (bo .add aM (.int .i64 1) fun aS => lC m .normal [aE, aF, aH, aJ, aL, aS] aO) (fun aP => lC m aP [aE, aF, aH, aJ, aL, aM] aO)) (gd aA.2.1 0) (gd aA.2.1 1) (gd aA.2.1 2) (gd aA.2.1 3) (gd aA.2.1 4) (gd aA.2.1 5) aA.2.2) (lC m (.exit 0) [aD, aB, aG, aI, aK, aC] aN)) (gd s.1 0) (gd s.1 1) (gd s.1 2) (gd s.1 3) (gd s.1 4) (gd s.1 5) s.2
noncomputable def Bz (aD : (List Span)) (aE : (List Int)) (aF : Int) (aA : Int × Int) : Option (Ey × Int × Int) :=
 tc (decide (aA.2 < ((List.length aD : Nat) : Int))) (tb (DW aD aA.2 aE aF aA.1) fun aB => Bm 1 aB.1 (some (.n, (aB.2, (IntKind.wrap .i64 (aA.2 + 1))))) fun aC => some (aC, (aB.2, aA.2))) (some ((.x 0), (aA.1, aA.2)))
theorem TI (w53 : (List Span)) (w55 : (List Int)) (w56 : Int) (p0 : IR) (s109 : Int × Int) : EV KK 1 ([(.bool false), (.slice (Rw Span.cells w53) .no), (.slice (Rw (ci .i64) w55) .no), (.int .i64 w56), (.int .i64 s109.1), (.int .i64 s109.2)], ([.cells [(.int .i64 p0.temps), (.slice (Rw mK.cells p0.arrays) .no), (.slice (Rw lX.cells p0.blocks) .no), (.int .i64 p0.inn), (.int .i64 p0.out)]] : kT)) = tm (Bz w53 w55 w56 s109) fun r => (r.1.ex, [(.bool false), (.slice (Rw Span.cells w53) .no), (.slice (Rw (ci .i64) w55) .no), (.int .i64 w56), (.int .i64 r.2.1), (.int .i64 r.2.2)], ([.cells [(.int .i64 p0.temps), (.slice (Rw mK.cells p0.arrays) .no), (.slice (Rw lX.cells p0.blocks) .no), (.int .i64 p0.inn), (.int .i64 p0.out)]] : kT)) := by
 simp +contextual -implicitDefEqProofs (maxSteps := 2000000) [-lS, -lK, -lD, -lF, -lL, -lQ, -lJ, EV, Bz, YZ]
theorem UM (w53 : (List Span)) (w55 : (List Int)) (w56 : Int) (p0 : IR) (i4 : Int) (i5 : Int) : mJ (EV KK 1) ([(.bool false), (.slice (Rw Span.cells w53) .no), (.slice (Rw (ci .i64) w55) .no), (.int .i64 w56), (.int .i64 i4), (.int .i64 i5)], ([.cells [(.int .i64 p0.temps), (.slice (Rw mK.cells p0.arrays) .no), (.slice (Rw lX.cells p0.blocks) .no), (.int .i64 p0.inn), (.int .i64 p0.out)]] : kT)) = tm (v_ (Bz w53 w55 w56) (i4, i5)) fun r => (r.1.ex, [(.bool false), (.slice (Rw Span.cells w53) .no), (.slice (Rw (ci .i64) w55) .no), (.int .i64 w56), (.int .i64 r.2.1), (.int .i64 r.2.2)], ([.cells [(.int .i64 p0.temps), (.slice (Rw mK.cells p0.arrays) .no), (.slice (Rw lX.cells p0.blocks) .no), (.int .i64 p0.inn), (.int .i64 p0.out)]] : kT)) := by
 exact w6 (enc := fun s109 => ([(.bool false), (.slice (Rw Span.cells w53) .no), (.slice (Rw (ci .i64) w55) .no), (.int .i64 w56), (.int .i64 s109.1), (.int .i64 s109.2)], ([.cells [(.int .i64 p0.temps), (.slice (Rw mK.cells p0.arrays) .no), (.slice (Rw lX.cells p0.blocks) .no), (.int .i64 p0.inn), (.int .i64 p0.out)]] : kT))) (fun s109 => TI w53 w55 w56 p0 s109) (i4, i5)
theorem Xy : EV = Rp := by kernel_rfl
end Go.Proofs.YtkeoalhglkfbkaaDoor


namespace Go.Proofs.YtkeoalhglkfbkaaDoor
open Go Hk
def uC (sp : List Span) (t j : Nat) : Bool := decide (0 ≤ fS sp j) && (decide (fS sp j ≤ fS sp t) && decide (fS sp t ≤ eS sp j))
section
variable {sp : List Span} (hfe : ∀ s ∈ sp, 0 ≤ s.first → s.first ≤ s.last)
include hfe
theorem QV {t : Nat} (ht : t < sp.length) (h0 : 0 ≤ fS sp t) : fS sp t ≤ eS sp t := by
 have e1 : fS sp t = sp[t].first := by unfold fS; rw [List.getElem?_eq_getElem ht]; rfl
 have e2 : eS sp t = sp[t].last := by unfold eS; rw [List.getElem?_eq_getElem ht]; rfl
 rw [e1] at h0 ⊢
 rw [e2]
 exact hfe _ (List.getElem_mem ht) h0
omit hfe in
theorem C0 : (J6 sp).map (·.1) = nB sp := PS.wX _
omit hfe in
theorem Bk : ((J6 sp).map (·.1)).Nodup := by rw [C0]; exact zU
theorem PE {i t : Nat} (hi : i < sp.length) (ht : t < sp.length) (hne : i ≠ t) (ha : uC sp t i = true) : (A3 sp)[i]? ≠ (A3 sp)[t]? := by
 unfold uC at ha
 simp only [Bool.and_eq_true, decide_eq_true_eq] at ha
 obtain ⟨a1, a2, a3⟩ := ha
 have mi : i ∈ (J6 sp).map (·.1) := by rw [C0]; exact q7.2 ⟨hi, a1⟩
 have mt : t ∈ (J6 sp).map (·.1) := by rw [C0]; exact q7.2 ⟨ht, by omega⟩
 obtain ⟨p, hp, hp1⟩ := List.mem_map.1 mi
 obtain ⟨q, hq, hq1⟩ := List.mem_map.1 mt
 have e1 : (A3 sp)[i]? = some (p.2 : Int) := (yW Bk hi).1 p.2 (by rw [← hp1]; exact hp)
 have e2 : (A3 sp)[t]? = some (q.2 : Int) := (yW Bk ht).1 q.2 (by rw [← hq1]; exact hq)
 rw [e1, e2]
 intro he
 have he : p.2 = q.2 := by have := Option.some.inj he; omega
 have hpw := PS.KJ (f := fS sp) (e := eS sp) (nB sp)
 rw [List.pairwise_iff_getElem] at hpw
 obtain ⟨a, ha, rfl⟩ := List.mem_iff_getElem.1 hp
 obtain ⟨b, hb, rfl⟩ := List.mem_iff_getElem.1 hq
 have hft := QV hfe ht (by omega)
 rcases Nat.lt_trichotomy a b with h | h | h
 ·exact hpw a b ha hb h (by show fS sp (J6 sp)[b].1 ≤ eS sp (J6 sp)[a].1; rw [hp1, hq1]; exact a3) he
 ·subst h; exact hne (hp1.symm.trans hq1)
 ·exact hpw b a hb ha h (by show fS sp (J6 sp)[a].1 ≤ eS sp (J6 sp)[b].1; rw [hp1, hq1]; omega) he.symm
omit hfe in
theorem UX {t : Nat} (ht : t < sp.length) : ∃ z, (A3 sp)[t]? = some z ∧ (0 ≤ z ↔ 0 ≤ fS sp t) ∧ z < EK sp ∨ (A3 sp)[t]? = some z ∧ z = -1 ∧ ¬ 0 ≤ fS sp t := by
 by_cases h0 : 0 ≤ fS sp t
 ·have mt : t ∈ (J6 sp).map (·.1) := by rw [C0]; exact q7.2 ⟨ht, h0⟩
  obtain ⟨q, hq, hq1⟩ := List.mem_map.1 mt
  have hlt := PS.Wb q hq
  refine ⟨(q.2 : Int), .inl ⟨(yW Bk ht).1 q.2 (by rw [← hq1]; exact hq), ⟨fun _ => h0, fun _ => by omega⟩, ?_⟩⟩
  unfold EK; omega
 ·refine ⟨-1, .inr ⟨(yW Bk ht).2 fun h => ?_, rfl, h0⟩⟩
  rw [C0] at h
  exact h0 (q7.1 h).2
omit hfe in
theorem R9 : 0 ≤ EK sp := by unfold EK; omega
omit hfe in
theorem Pv : (nB sp).Perm ((List.range sp.length).filter fun t => decide (0 ≤ fS sp t)) := by
 unfold nB rR
 refine (sC.map _).trans ?_
 have : (qU sp sp.length).map Int.toNat = (List.range sp.length).filter fun t => decide (0 ≤ fS sp t) := by
  unfold qU
  rw [List.map_map]
  have : (Int.toNat ∘ Int.ofNat) = id := by funext t; rfl
  rw [this, List.map_id]
  rfl
 rw [this]
omit hfe in
theorem Fx {t : Nat} : (List.range sp.length).countP (uC sp t) = (nB sp).countP (PS.rY (fS sp) (eS sp) (fS sp t)) := by
 rw [Pv.countP_eq, List.countP_filter]
 congr 1
 funext j
 unfold uC PS.rY
 rw [Bool.and_comm]
end
section
variable {sp : List Span} (hfe : ∀ s ∈ sp, 0 ≤ s.first → s.first ≤ s.last) (hN2 : sp.length ≤ 1000000)
include hfe hN2
omit hN2 in
theorem Sk {i t : Nat} (hi : i < sp.length) (ht : t < sp.length) {w : Int} (h0 : 0 ≤ w) (h1 : w ≤ 1000000) :
  GG sp (i : Int) (t : Int) w (A3 sp) = some (.n, w + if uC sp t i then 1 else 0) := by
 have e1 : oO sp (i : Int) = some sp[i] := by rw [nZ, List.getElem?_eq_getElem hi]
 have e2 : oO sp (t : Int) = some sp[t] := by rw [nZ, List.getElem?_eq_getElem ht]
 have f1 : sp[i].first = fS sp i := by unfold fS; rw [List.getElem?_eq_getElem hi]; rfl
 have f2 : sp[t].first = fS sp t := by unfold fS; rw [List.getElem?_eq_getElem ht]; rfl
 have f3 : sp[i].last = eS sp i := by unfold eS; rw [List.getElem?_eq_getElem hi]; rfl
 have li : i < (A3 sp).length := by rw [E0]; exact hi
 have lt : t < (A3 sp).length := by rw [E0]; exact ht
 have e3 : oO (A3 sp) (i : Int) = some (A3 sp)[i] := by rw [nZ, List.getElem?_eq_getElem li]
 have e4 : oO (A3 sp) (t : Int) = some (A3 sp)[t] := by rw [nZ, List.getElem?_eq_getElem lt]
 have w1 : IntKind.i64.wrap (w + 1) = w + 1 := wrap64 (by omega) (by omega)
 have hap := PE hfe hi ht
 unfold GG
 rw [e1, mH, f1]
 by_cases c1 : 0 ≤ fS sp i
 ·by_cases c2 : fS sp i ≤ fS sp t
  ·by_cases c3 : fS sp t ≤ eS sp i
   ·have ha : uC sp t i = true := by simp [uC, c1, c2, c3]
    by_cases Am : i = t
    ·subst Am
     simp [c1, e1, f1, f3, Aa, c3, Ab, xT, BA, w1, ha, As]
    ·have hs := hap Am ha
     rw [List.getElem?_eq_getElem li, List.getElem?_eq_getElem lt] at hs
     have hs : ¬ (A3 sp)[i] = (A3 sp)[t] := fun h => hs (by rw [h])
     have hit' : ¬ (i : Int) = (t : Int) := by omega
     simp [c1, e1, e2, e3, e4, f1, f2, f3, Aa, c2, c3, Ab, xT, BA, w1, ha, As, hit', hs]
   ·have ha : uC sp t i = false := by simp [uC, c3]
    simp [c1, e1, e2, f1, f2, f3, Aa, c2, c3, Ab, xT, ha, As]
  ·have ha : uC sp t i = false := by simp [uC, c2]
   simp [c1, e1, e2, f1, f2, f3, Aa, c2, Ab, xT, ha, As]
 ·have ha : uC sp t i = false := by simp [uC, c1]
  simp [c1, Aa, Ab, xT, ha, As]
theorem PL {t : Nat} (ht : t < sp.length) : ∀ (d i : Nat), sp.length = i + d →
  v_ (z_ sp (A3 sp) (t : Int)) ((((List.range i).countP (uC sp t) : Nat) : Int), (i : Int)) = some (.x 2, ((((List.range sp.length).countP (uC sp t) : Nat) : Int), ((sp.length : Nat) : Int))) := by
 intro d
 induction d with
 | zero =>
  intro i hi
  obtain rfl : i = sp.length := by omega
  exact qX (by simp [z_]) (by simp)
 | succ d ih =>
  intro i hi
  rw [← ih (i + 1) (by omega)]
  refine rD ?_
  have hii : (i : Int) < (sp.length : Int) := by omega
  have hc : (List.range i).countP (uC sp t) ≤ i := by have := List.countP_le_length (p := uC sp t) (l := List.range i); rwa [List.length_range] at this
  have w1 : IntKind.i64.wrap ((i : Int) + 1) = ((i + 1 : Nat) : Int) := by rw [wrap64 (by omega) (by omega), Int.natCast_add]; rfl
  have hb := Sk hfe (i := i) (t := t) (by omega) ht (w := (((List.range i).countP (uC sp t) : Nat) : Int)) (by omega) (by omega)
  have hs : (((List.range i).countP (uC sp t) : Nat) : Int) + (if uC sp t i then 1 else 0) = (((List.range (i + 1)).countP (uC sp t) : Nat) : Int) := by
   rw [List.range_succ, List.countP_append]
   cases h : uC sp t i <;> simp [h]
  rw [hs] at hb
  simp only [z_, hii, decide_true, oN, hb, mH, Bm, w1]
end
end Go.Proofs.YtkeoalhglkfbkaaDoor


namespace Go.Proofs.YtkeoalhglkfbkaaDoor
open Go Hk
section
variable {sp : List Span} (hfl : ∀ s ∈ sp, s.first ≤ s.last) (hN2 : sp.length ≤ 1000000)
include hfl hN2
theorem Sj {t : Nat} (ht : t < sp.length) (m : Int) :
  DW sp (t : Int) (A3 sp) (EK sp) m = some (.n, if 0 ≤ fS sp t then max m (((List.range sp.length).countP (uC sp t) : Nat) : Int) else m) := by
 have hfe : ∀ s ∈ sp, 0 ≤ s.first → s.first ≤ s.last := fun s hs _ => hfl s hs
 have e2 : oO sp (t : Int) = some sp[t] := by rw [nZ, List.getElem?_eq_getElem ht]
 have f2 : sp[t].first = fS sp t := by unfold fS; rw [List.getElem?_eq_getElem ht]; rfl
 have f3 : sp[t].last = eS sp t := by unfold eS; rw [List.getElem?_eq_getElem ht]; rfl
 have hel : ¬ eS sp t < fS sp t := by
  rw [← f2, ← f3]
  have := hfl _ (List.getElem_mem ht)
  omega
 have h12 := PL hfe hN2 ht sp.length 0 (by omega)
 have n0 : (((List.range 0).countP (uC sp t) : Nat) : Int) = 0 := rfl
 have n1 : ((0 : Nat) : Int) = 0 := rfl
 rw [n0, n1] at h12
 have h6 : DX false sp (A3 sp) m (t : Int) = some (.n, if 0 ≤ fS sp t then max m (((List.range sp.length).countP (uC sp t) : Nat) : Int) else m) := by
  unfold DX
  rw [h12]
  by_cases h0 : 0 ≤ fS sp t <;> simp [As, Bm, e2, f2, E3, h0]
 obtain ⟨z, hz⟩ := UX (sp := sp) ht
 rcases hz with ⟨h1, h2, h3⟩ | ⟨h1, h2, h3⟩
 ·have e3 : oO (A3 sp) (t : Int) = some z := by rw [nZ, h1]
  have h3' : ¬ EK sp ≤ z := by omega
  unfold DW
  rw [e2, mH, e3, mH, f2]
  by_cases h0 : 0 ≤ fS sp t
  ·have hz0 := h2.2 h0
   simp only [h0, hz0, decide_true, Bool.not_true, qB, mH, hel, decide_false, Cw, e3, h3', h6, f2, f3]
  ·have hz0 : ¬ 0 ≤ z := fun h => h0 (h2.1 h)
   simp only [h0, hz0, decide_true, decide_false, Bool.not_true, qB, mH, hel, Cw, e3, h3', h6, f2, f3]
 ·have e3 : oO (A3 sp) (t : Int) = some z := by rw [nZ, h1]
  have hn := R9 (sp := sp)
  have h3' : ¬ EK sp ≤ z := by omega
  have hz0 : ¬ 0 ≤ z := by omega
  unfold DW
  rw [e2, mH, e3, mH, f2]
  simp only [h3, hz0, decide_true, decide_false, Bool.not_true, qB, mH, hel, Cw, e3, h3', h6, f2, f3]
def YQ (sp : List Span) (m : Int) (i : Nat) : Prop := 0 ≤ m ∧ m ≤ EK sp ∧ ∀ t < i, 0 ≤ fS sp t → (((List.range sp.length).countP (uC sp t) : Nat) : Int) ≤ m
omit hN2 in
theorem RG {m : Int} (h : YQ sp m sp.length) : m = EK sp := by
 have hfe : ∀ s ∈ sp, 0 ≤ s.first → s.first ≤ s.last := fun s hs _ => hfl s hs
 obtain ⟨h0, h1, h2⟩ := h
 have hs : (nB sp).Pairwise fun a b => fS sp a ≤ fS sp b := xL.imp fun h => by omega
 have hfe' : ∀ t ∈ nB sp, fS sp t ≤ eS sp t := fun t ht => by
  obtain ⟨a, b⟩ := q7.1 ht
  exact QV hfe a b
 rcases PS.Me (f := fS sp) (e := eS sp) (nB sp) hs hfe' with h | ⟨t, ht, h⟩
 ·have : EK sp = 0 := by unfold EK J6; rw [h]; rfl
  omega
 ·obtain ⟨a, b⟩ := q7.1 ht
  have := h2 t a b
  rw [Fx] at this
  have : EK sp ≤ m := by unfold EK J6; omega
  omega
theorem PM : ∀ (d i : Nat) (m : Int), sp.length = i + d → YQ sp m i →
  v_ (Bz sp (A3 sp) (EK sp)) (m, (i : Int)) = some (.x 0, (EK sp, ((sp.length : Nat) : Int))) := by
 have hfe : ∀ s ∈ sp, 0 ≤ s.first → s.first ≤ s.last := fun s hs _ => hfl s hs
 intro d
 induction d with
 | zero =>
  intro i m hi hm
  obtain rfl : i = sp.length := by omega
  rw [RG hfl hm]
  exact qX (by simp [Bz]) (by simp)
 | succ d ih =>
  intro i m hi hm
  have hii : (i : Int) < (sp.length : Int) := by omega
  have w1 : IntKind.i64.wrap ((i : Int) + 1) = ((i + 1 : Nat) : Int) := by rw [wrap64 (by omega) (by omega), Int.natCast_add]; rfl
  have h4 := Sj hfl hN2 (t := i) (by omega) m
  have hs : (nB sp).Pairwise fun a b => fS sp a ≤ fS sp b := xL.imp fun h => by omega
  have hfe' : ∀ t ∈ nB sp, fS sp t ≤ eS sp t := fun t ht => by
   obtain ⟨a, b⟩ := q7.1 ht
   exact QV hfe a b
  have hmx : (((List.range sp.length).countP (uC sp i) : Nat) : Int) ≤ EK sp := by
   rw [Fx]
   have := PS.Mf (f := fS sp) (e := eS sp) (nB sp) hs zU hfe' i
   unfold EK J6; omega
  have hm' : YQ sp (if 0 ≤ fS sp i then max m (((List.range sp.length).countP (uC sp i) : Nat) : Int) else m) (i + 1) := by
   obtain ⟨h0, h1, h2⟩ := hm
   refine ⟨by split <;> omega, by split <;> omega, fun t ht h => ?_⟩
   by_cases he : t = i
   ·subst he; rw [if_pos h]; exact Int.le_max_right _ _
   ·have := h2 t (by omega) h
    split <;> omega
  rw [← ih (i + 1) _ (by omega) hm']
  refine rD ?_
  simp only [Bz, hii, decide_true, oN, h4, mH, Bm, w1]
end
end Go.Proofs.YtkeoalhglkfbkaaDoor


namespace Go.Proofs.YtkeoalhglkfbkaaDoor
open Go Hk
theorem PJ {p : IR} : ∀ s ∈ oR p, s.first ≤ s.last := by
 intro s hs
 unfold oR LS at hs
 obtain ⟨t, _, rfl⟩ := List.mem_map.1 hs
 exact (DU _).1
theorem c15 (p : IR) (h : kT) : KK 15 [.agg p.cells] h = some (.ret (.bool true), h) := by
 refine lZ rfl rfl (mN (X1 _ _ _) ?_)
 have hc : p.cells = [.int .i64 p.temps, .slice (Rw mK.cells p.arrays) .no, .slice (Rw lX.cells p.blocks) .no, .int .i64 p.inn, .int .i64 p.out] := rfl
 rw [hc]
 have k43 := q43 p
 unfold Ob at k43
 cases hb : QX p with
 | false =>
  simp -implicitDefEqProofs [-lS, -lK, -lD, -lF, -lL, -lQ, -lJ, m15, k43, hb, c44, lH]
 | true =>
  have hf := I1 hb
  have k45 := q45 p
  have k47 := q47 p hf
  unfold u45 at k45
  unfold Nr at k47
  by_cases h0 : mZ p = 0
  ·obtain ⟨_, lp, _, _, _⟩ := rZ h0
   have ht0 := lp.t0
   have hN : ((oR p).length : Int) = p.temps := by
    have : (oR p).length = p.temps.toNat := uL
    omega
   have hN' : ((A3 (oR p)).length : Int) = p.temps := by rw [E0]; exact hN
   have l14 := PM (sp := oR p) PJ (by omega) (oR p).length 0 0 (by omega) ⟨Int.le_refl _, R9, fun t ht => by omega⟩
   have n1 : ((0 : Nat) : Int) = 0 := rfl
   rw [n1] at l14
   rw [if_pos h0, if_pos h0, h0] at k47
   rw [if_pos h0, h0] at k45
   simp -implicitDefEqProofs [-lS, -lK, -lD, -lF, -lL, -lQ, -lJ, m15, ← Xy, k43, hb, k45, k47, c44, UM, l14, hN, hN', lH]
  ·rw [if_neg h0, if_neg h0] at k47
   rw [if_neg h0] at k45
   have k30 := Na p
   unfold t30 at k30
   simp -implicitDefEqProofs [-lS, -lK, -lD, -lF, -lL, -lQ, -lJ, m15, k43, hb, k45, k47, c44, h0, k30, lH]
end Go.Proofs.YtkeoalhglkfbkaaDoor


namespace Go.Proofs.YtkeoalhglkfbkaaDoor
open Go Hk
theorem adJ (p : IR) : EP Tryd.prog nC 15 [.agg p.cells] [] = some (.ret (.bool true), []) := Wc rfl (c15 p [])
end Go.Proofs.YtkeoalhglkfbkaaDoor
