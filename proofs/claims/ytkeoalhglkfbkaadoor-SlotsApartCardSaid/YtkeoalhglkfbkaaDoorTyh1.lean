/-
  The texts TY.Q1, TY.H1, TY.H2, TY.H3, TY.H4, TY.H5, TY.H6, one behind another. No conditions.
-/
import Derived.Test.YtkeoalhglkfbkaaDoorIxa1
import Derived.Test.YtkeoalhglkfbkaaDoorVt1
set_option linter.unusedVariables false
set_option linter.unusedSimpArgs false
set_option linter.unusedSectionVars false
set_option linter.all false

namespace Hk.PQ
variable {α : Type} {key : α → Int}
def kg (key : α → Int) (l : List α) (i : Nat) : Int := match l[i]? with
 | some a => key a
 | none => 0
theorem NX {l : List α} {i : Nat} {a : α} (h : l[i]? = some a) : kg key l i = key a := by unfold kg; rw [h]
def sw (l : List α) (i j : Nat) : List α := match l[i]?, l[j]? with
 | some a, some b => (l.set i b).set j a
 | _, _ => l
theorem Sg {l : List α} {i j : Nat} {a b : α} (hi : l[i]? = some a) (hj : l[j]? = some b) : sw l i j = (l.set i b).set j a := by unfold sw; rw [hi, hj]
theorem GA {l : List α} {i j : Nat} : (sw l i j).length = l.length := by
 unfold sw; split <;> simp
theorem E2 {l : List α} {i j : Nat} : (sw l i j).Perm l := by
 unfold sw
 split
 ·rename_i a b ha hb
  obtain ⟨h1, h2⟩ := List.getElem?_eq_some_iff.1 ha
  obtain ⟨h3, h4⟩ := List.getElem?_eq_some_iff.1 hb
  subst h2; subst h4
  exact List.set_set_perm h1 h3
 ·exact List.Perm.refl _
theorem VY {l : List α} {i j : Nat} (hi : i < l.length) (hj : j < l.length) (k : Nat) : kg key (sw l i j) k = if k = j then kg key l i else if k = i then kg key l j else kg key l k := by
 rw [Sg (List.getElem?_eq_getElem hi) (List.getElem?_eq_getElem hj)]
 unfold kg
 by_cases h1 : k = j
 ·subst h1
  rw [if_pos rfl, List.getElem?_set_self (by simpa using hj), List.getElem?_eq_getElem hi]
 ·rw [if_neg h1, List.getElem?_set_ne (fun e => h1 e.symm)]
  by_cases h2 : k = i
  ·subst h2
   rw [if_pos rfl, List.getElem?_set_self hi, List.getElem?_eq_getElem hj]
  ·rw [if_neg h2, List.getElem?_set_ne (fun e => h2 e.symm)]
def kT (key : α → Int) (l : List α) : Prop := ∀ j, 0 < j → j < l.length → kg key l ((j - 1) / 2) ≤ kg key l j
def SP (key : α → Int) (l : List α) (i : Nat) : Prop := i < l.length ∧ (∀ j, 0 < j → j < l.length → j ≠ i → kg key l ((j - 1) / 2) ≤ kg key l j) ∧
 ∀ j, 0 < j → j < l.length → (j - 1) / 2 = i → 0 < i → kg key l ((i - 1) / 2) ≤ kg key l j
def U8 (key : α → Int) (l : List α) (i : Nat) : Prop := (∀ j, 0 < j → j < l.length → (j - 1) / 2 ≠ i → kg key l ((j - 1) / 2) ≤ kg key l j) ∧
 (0 < i → ∀ j, 0 < j → j < l.length → (j - 1) / 2 = i → kg key l ((i - 1) / 2) ≤ kg key l j)
theorem Od {l : List α} {i : Nat} (h : SP key l i) (h0 : 0 < i) (hlt : kg key l i < kg key l ((i - 1) / 2)) : SP key (sw l i ((i - 1) / 2)) ((i - 1) / 2) := by
 obtain ⟨h1, h2, h3⟩ := h
 have hp : (i - 1) / 2 < i := by omega
 have hpl : (i - 1) / 2 < l.length := by omega
 have hk := VY (key := key) h1 hpl
 generalize hpe : (i - 1) / 2 = p at *
 refine ⟨by rw [GA]; exact hpl, fun j j0 jl jp => ?_, fun j j0 jl jp p0 => ?_⟩
 ·rw [GA] at jl
  rw [hk, hk]
  by_cases e1 : j = i
  ·subst e1
   rw [hpe, if_pos rfl, if_neg jp, if_pos rfl]; omega
  ·rw [if_neg jp, if_neg e1]
   by_cases e2 : (j - 1) / 2 = p
   ·rw [if_pos e2]
    have := h2 j j0 jl e1
    rw [e2] at this; omega
   ·rw [if_neg e2]
    by_cases e3 : (j - 1) / 2 = i
    ·rw [if_pos e3]
     exact h3 j j0 jl e3 h0
    ·rw [if_neg e3]
     exact h2 j j0 jl e1
 ·rw [GA] at jl
  rw [hk, hk]
  have a1 : (p - 1) / 2 ≠ p := by omega
  have a2 : (p - 1) / 2 ≠ i := by omega
  rw [if_neg a1, if_neg a2]
  have b1 := h2 p p0 hpl (by omega)
  have b2 : j ≠ p := by omega
  rw [if_neg b2]
  by_cases e1 : j = i
  ·rw [if_pos e1]; exact b1
  ·rw [if_neg e1]
   have := h2 j j0 jl e1
   rw [jp] at this; omega
theorem JW {l : List α} {i : Nat} (h : SP key l i) (hn : ¬ (0 < i ∧ kg key l i < kg key l ((i - 1) / 2))) : kT key l := by
 intro j j0 jl
 by_cases e : j = i
 ·subst e; omega
 ·exact h.2.1 j j0 jl e
theorem Oc {l : List α} {x : α} (h : kT key l) : SP key (l ++ [x]) l.length := by
 have hk : ∀ k, k < l.length → kg key (l ++ [x]) k = kg key l k := by
  intro k hk
  unfold kg
  rw [List.getElem?_append_left hk]
 refine ⟨by simp, fun j j0 jl jn => ?_, fun j j0 jl jp p0 => ?_⟩
 ·simp at jl
  rw [hk _ (by omega), hk _ (by omega)]
  exact h j j0 (by omega)
 ·simp at jl; omega
theorem NS {l : List α} {i k : Nat} (h : U8 key l i) (hil : i < l.length) (k0 : 0 < k) (kl : k < l.length) (kp : (k - 1) / 2 = i)
  (hm : ∀ j, 0 < j → j < l.length → (j - 1) / 2 = i → kg key l k ≤ kg key l j) (hlt : kg key l k < kg key l i) : U8 key (sw l i k) k := by
 obtain ⟨h1, h2⟩ := h
 have hk := VY (key := key) hil kl
 have hik : i < k := by omega
 refine ⟨fun j j0 jl jp => ?_, fun _ j j0 jl jp => ?_⟩
 ·rw [GA] at jl
  rw [hk, hk, if_neg jp]
  by_cases e1 : (j - 1) / 2 = i
  ·rw [if_pos e1]
   by_cases e2 : j = k
   ·rw [if_pos e2]; omega
   ·rw [if_neg e2, if_neg (by omega)]
    exact hm j j0 jl e1
  ·rw [if_neg e1]
   have e2 : j ≠ k := fun e => e1 (by rw [e]; exact kp)
   rw [if_neg e2]
   by_cases e3 : j = i
   ·rw [if_pos e3, e3]
    exact h2 (by omega) k k0 kl kp
   ·rw [if_neg e3]
    exact h1 j j0 jl e1
 ·rw [GA] at jl
  rw [hk, hk, kp, if_neg (by omega), if_pos rfl, if_neg (by omega), if_neg (by omega)]
  have := h1 j j0 jl (by omega)
  rw [jp] at this; exact this
theorem QP {l : List α} {i : Nat} (h : U8 key l i) (hm : ∀ j, 0 < j → j < l.length → (j - 1) / 2 = i → kg key l i ≤ kg key l j) : kT key l := by
 intro j j0 jl
 by_cases e : (j - 1) / 2 = i
 ·rw [e]; exact hm j j0 jl e
 ·exact h.1 j j0 jl e
theorem KM {l : List α} (h : kT key l) : ∀ i, i < l.length → kg key l 0 ≤ kg key l i := by
 intro i
 induction i using Nat.strongRecOn with
 | _ i ih =>
  intro hi
  by_cases e : i = 0
  ·subst e; exact Int.le_refl _
  ·have := ih ((i - 1) / 2) (by omega) (by omega)
   have := h i (by omega) hi
   omega
def pop (l : List α) : List α := match l with
 | [] => []
 | x :: r => (match (x :: r)[r.length]? with
  | some y => ((x :: r).set 0 y).take r.length
  | none => [])
theorem UL {l : List α} : (pop l).length = l.length - 1 := by
 cases l with
 | nil => rfl
 | cons x r =>
  unfold pop
  have : r.length < (x :: r).length := by simp
  simp only [List.getElem?_eq_getElem this]
  simp
theorem Le {x : α} {r : List α} : (x :: pop (x :: r)).Perm (x :: r) := by
 have hlt : r.length < (x :: r).length := by simp
 have e : pop (x :: r) = ((x :: r).set 0 (x :: r)[r.length]).take r.length := by
  unfold pop
  simp only [List.getElem?_eq_getElem hlt]
 rw [e]
 cases r with
 | nil => simp
 | cons y s =>
  refine List.Perm.cons x ?_
  simp only [List.set_cons_zero, List.length_cons, List.take_succ_cons, List.getElem_cons_succ]
  have h2 : (y :: s) = (y :: s).take s.length ++ [(y :: s)[s.length]] := by
   have h3 := List.take_append_getElem (l := y :: s) (i := s.length) (by simp)
   have h4 : (y :: s).take (s.length + 1) = y :: s := List.take_of_length_le (by simp)
   rw [h4] at h3
   exact h3.symm
  refine List.Perm.trans ?_ (List.Perm.of_eq h2.symm)
  exact (List.perm_append_comm (l₁ := [(y :: s)[s.length]]) (l₂ := (y :: s).take s.length))
theorem RT {l : List α} (h : kT key l) : U8 key (pop l) 0 := by
 cases l with
 | nil => exact ⟨fun j _ jl => by simp [pop] at jl, fun h0 => by omega⟩
 | cons x r =>
  have hlt : r.length < (x :: r).length := by simp
  have e : pop (x :: r) = ((x :: r).set 0 (x :: r)[r.length]).take r.length := by
   unfold pop
   simp only [List.getElem?_eq_getElem hlt]
  have hk : ∀ k, 0 < k → k < r.length → kg key (pop (x :: r)) k = kg key (x :: r) k := by
   intro k k0 kl
   unfold kg
   rw [e, List.getElem?_take_of_lt kl, List.getElem?_set_ne (by omega)]
  refine ⟨fun j j0 jl jp => ?_, fun h0 => by omega⟩
  rw [UL] at jl
  simp at jl
  rw [hk _ (by omega) (by omega), hk _ j0 jl]
  exact h j j0 (by simp; omega)
end Hk.PQ


namespace Go.Proofs.YtkeoalhglkfbkaaDoor
open Go Hk
theorem ES {F : List kR × kT → Option R} {σ : Type} (enc : σ → List kR × kT) (inv : σ → Prop) (μ : σ → Nat) (Post : σ → R → Prop)
  (h : ∀ s, inv s → (∃ s', F (enc s) = some (.normal, enc s') ∧ inv s' ∧ μ s' < μ s ∧ ∀ r, Post s' r → Post s r) ∨ (∃ r, F (enc s) = some r ∧ r.1 ≠ .normal ∧ Post s r)) :
  ∀ s, inv s → ∃ r, mJ F (enc s) = some r ∧ Post s r := by
 have key : ∀ n s, μ s = n → inv s → ∃ r, mJ F (enc s) = some r ∧ Post s r := by
  intro n
  induction n using Nat.strongRecOn with
  | _ n ih =>
   intro s hn hi
   rw [mE]
   rcases h s hi with ⟨s', e1, e2, e3, e4⟩ | ⟨r, e1, e2, e3⟩
   ·obtain ⟨r, h1, h2⟩ := ih (μ s') (by omega) s' rfl e2
    refine ⟨r, ?_, e4 r h2⟩
    rw [e1]
    simp only [Option.bind_some, pC]
    exact h1
   ·refine ⟨r, ?_, e3⟩
    rw [e1]
    obtain ⟨e, l⟩ := r
    cases e <;> first | exact absurd rfl e2 | rfl
 exact fun s hi => key (μ s) s rfl hi
@[simp] theorem Tr {f : Nat} {x y : List kR} : qC (.func f x y) = some (f, x, y) := (rfl)
@[simp] theorem Zv {f m : Nat} {h : Hk.kT} : kR.nM m h (.func f [] []) = .func f [] [] := (rfl)
@[simp] theorem Ky {f : Nat} {x y : List kR} : kR.mC (.func f x y) = true := (rfl)
def uB (C : Hk.kT) (S : List Int) (n : Nat) : Hk.kT := .cells [.vslice 1 S.length 0 n 1, .func 89 [] []] :: Vc (ci .i64) 1 S :: C
def rd (S : List Int) (j : Nat) : Int := S.getD j 0
theorem zY {S : List Int} {j : Nat} (h : j < S.length) : S[j]? = some (rd S j) := by unfold rd; rw [List.getD_eq_getElem?_getD, List.getElem?_eq_getElem h]; rfl
@[simp high] theorem ajV {c : lW} {C : Hk.kT} {S : List Int} {n j : Nat} {v : Int} (h : S.length = n) (hj : j < n) : lU 1 (c :: Vc (ci .i64) 1 S :: C) (.vptr 1 n j) (.int .i64 v) = some (c :: Vc (ci .i64) 1 (S.set j v) :: C) := by
 subst h
 have := B9 (enc := ci .i64) (sz := 1) (h := c :: Vc (ci .i64) 1 S :: C) (id := 1) (tot := S.length) (j := j) (xs := S) (v := .int .i64 v) v (fun _ => rfl) rfl (by omega) rfl rfl
 rw [Nat.mul_one] at this
 rw [this, s6, if_pos rfl, List.getElem?_eq_getElem hj, mH, Au, if_pos ⟨rfl, hj⟩]
 rfl
@[simp high] theorem ajU {c : lW} {C : Hk.kT} {S : List Int} {n j : Nat} (h : S.length = n) (hj : j < n) : kV false 1 (c :: Vc (ci .i64) 1 S :: C) (.vptr 1 n j) = some (.int .i64 (rd S j)) := by
 subst h
 rw [sU]
 have e : (c :: Vc (ci .i64) 1 S :: C : Hk.kT)[1]? = some (Vc (ci .i64) 1 S) := rfl
 rw [e, ZS (fun _ => rfl), s6, if_pos rfl, zY hj]
 rfl
def Still (C : Hk.kT) : Prop := ∀ m h, oA m h C = some C
section
variable {C : Hk.kT} (hC : Still C) {S : List Int} {n i : Nat}
include hC
theorem Hs {m : Nat} (hm : C.length + 2 = m) : mL m (uB C S n) = some (uB C S n) := by
 have h1 : (1 : Nat) < m := by omega
 have h2 : oA m (uB C S n) C = some C := hC _ _
 rw [E5, List.take_of_length_le (by simp [uB]; omega)]
 have e : uB C S n = .cells [.vslice 1 S.length 0 n 1, .func 89 [] []] :: Vc (ci .i64) 1 S :: C := rfl
 rw [e] at h2 ⊢
 simp [h1, h2]
theorem c89 (a b : Int) : KK 89 [.int .i64 a, .int .i64 b] (uB C S n) = some (.ret (.bool (decide (a < b))), uB C S n) := by
 refine mN (YC _ _ _ _) ?_
 have hl : (uB C S n).length = C.length + 2 := rfl
 have ht : mL (C.length + 2) (uB C S n) = some (uB C S n) := Hs hC rfl
 simp only [m89, Fj, Option.bind_some, List.getD_cons_zero, Ex.nV, nE, hl, ht, Option.map_some, kR.oM, kR.nM, kR.k8, kR.rS]
 rfl
theorem acX (a b : Int) : vT nC KK 89 (rT nC 89 [.int .i64 a, .int .i64 b]) (uB C S n) = some (.ret (.bool (decide (a < b))), uB C S n) := c89 hC a b
theorem SD (hn : n ≤ S.length) (hn2 : n ≤ 1048576) (hi : i < n) (h0 : 0 < i) :
  Cn KK (C.length + 2) ([.ptr 0 0, .int .i64 (i : Int)], uB C S n) = (if rd S i < rd S ((i - 1) / 2) then some (.normal, [.ptr 0 0, .int .i64 (((i - 1) / 2 : Nat) : Int)], uB C ((S.set i (rd S ((i - 1) / 2))).set ((i - 1) / 2) (rd S i)) n) else some (.exit 0, [.ptr 0 0, .int .i64 (i : Int)], uB C S n)) := by
 have w1 : IntKind.i64.wrap ((i : Int) - 1) = ((i - 1 : Nat) : Int) := by rw [wrap64 (by omega) (by omega)]; omega
 have q1 : PT .i64 ((i - 1 : Nat) : Int) 2 = some (((i - 1) / 2 : Nat) : Int) := by
  unfold PT
  rw [if_neg (by omega), Int.tdiv_eq_ediv_of_nonneg (by omega)]
  have : ((i - 1 : Nat) : Int) / 2 = (((i - 1) / 2 : Nat) : Int) := by omega
  rw [this, wrap64 (by omega) (by omega)]
 have hpn : (i - 1) / 2 < n := by omega
 have hil : i < S.length := by omega
 have hpl : (i - 1) / 2 < S.length := by omega
 generalize hp : (i - 1) / 2 = p at *
 have hc := fun n => acX hC (S := S) (n := n) (rd S i) (rd S p)
 have hC2 : ∀ m h, oA m h C = some C := hC
 simp only [uB] at hc
 by_cases hlt : rd S i < rd S p
 ·rw [if_pos hlt]
  simp [Cn, uB, w1, q1, h0, hi, hpn, hil, hpl, hc, hlt, hC2]
 ·rw [if_neg hlt]
  simp [Cn, uB, w1, q1, h0, hi, hpn, hil, hpl, hc, hlt, hC2]
theorem SE : Cn KK (C.length + 2) ([.ptr 0 0, .int .i64 0], uB C S n) = some (.exit 0, [.ptr 0 0, .int .i64 0], uB C S n) := by
 have hC2 : ∀ m h, oA m h C = some C := hC
 simp [Cn, uB, hC2]
end
theorem HQ {S : List Int} {n i : Nat} (hn : n ≤ S.length) (hi : i < n) : PQ.kg (fun x => x) (S.take n) i = rd S i := by
 have : (S.take n)[i]? = some (rd S i) := by rw [List.getElem?_take_of_lt hi, zY (by omega)]
 rw [PQ.NX this]
theorem E4 {S : List Int} {n i p : Nat} (hn : n ≤ S.length) (hi : i < n) (hp : p < n) : ((S.set i (rd S p)).set p (rd S i)).take n = PQ.sw (S.take n) i p := by
 have h1 : (S.take n)[i]? = some (rd S i) := by rw [List.getElem?_take_of_lt hi, zY (by omega)]
 have h2 : (S.take n)[p]? = some (rd S p) := by rw [List.getElem?_take_of_lt hp, zY (by omega)]
 rw [PQ.Sg h1 h2, List.take_set, List.take_set]
theorem up1 {C : Hk.kT} (hC : Still C) {S : List Int} {n i : Nat} (hn : n ≤ S.length) (hn2 : n ≤ 1048576) (h : PQ.SP (fun x => x) (S.take n) i) :
  ∃ r, mJ (Cn KK (C.length + 2)) ([.ptr 0 0, .int .i64 (i : Int)], uB C S n) = some r ∧
   ∃ (j : Nat) (S' : List Int), r = (.exit 0, [.ptr 0 0, .int .i64 (j : Int)], uB C S' n) ∧ S'.length = S.length ∧ PQ.kT (fun x => x) (S'.take n) ∧ (S'.take n).Perm (S.take n) := by
 refine ES (fun s : List Int × Nat => ([.ptr 0 0, .int .i64 (s.2 : Int)], uB C s.1 n)) (fun s => s.1.length = S.length ∧ PQ.SP (fun x => x) (s.1.take n) s.2 ∧ (s.1.take n).Perm (S.take n)) (fun s => s.2)
  (fun _ r => ∃ (j : Nat) (S' : List Int), r = (.exit 0, [.ptr 0 0, .int .i64 (j : Int)], uB C S' n) ∧ S'.length = S.length ∧ PQ.kT (fun x => x) (S'.take n) ∧ (S'.take n).Perm (S.take n)) ?_ (S, i) ⟨rfl, h, List.Perm.refl _⟩
 rintro ⟨T, j⟩ ⟨hl, hu, hp⟩
 simp only at hl hu hp ⊢
 have hj : j < n := by have := hu.1; rw [List.length_take] at this; omega
 rcases Nat.eq_zero_or_pos j with h0 | h0
 ·subst h0
  refine .inr ⟨_, SE hC, by simp, 0, T, rfl, hl, PQ.JW hu (by omega), hp⟩
 ·have hs := SD hC (S := T) (n := n) (i := j) (by omega) hn2 hj h0
  have hpn : (j - 1) / 2 < n := by omega
  by_cases hlt : rd T j < rd T ((j - 1) / 2)
  ·rw [if_pos hlt] at hs
   refine .inl ⟨(((T.set j (rd T ((j - 1) / 2))).set ((j - 1) / 2) (rd T j)), (j - 1) / 2), hs, ⟨by simp [hl], ?_, ?_⟩, by simp only; omega, fun r hr => hr⟩
   ·simp only
    rw [E4 (by omega) hj hpn]
    exact PQ.Od hu h0 (by rw [HQ (by omega) hj, HQ (by omega) hpn]; exact hlt)
   ·simp only
    rw [E4 (by omega) hj hpn]
    exact PQ.E2.trans hp
  ·rw [if_neg hlt] at hs
   exact .inr ⟨_, hs, by simp, j, T, rfl, hl, PQ.JW hu (by rw [HQ (by omega) hj, HQ (by omega) hpn]; omega), hp⟩
def ZW (S : List Int) (n : Nat) : Hk.kT := if S = [] then [.cells [.slice [] (.own 1), .func 89 [] []], .front 0 0] else uB [] S n
theorem Il : Still [] := fun _ _ => rfl
theorem Ls {i j : Nat} : Still [.front i j] := fun _ _ => rfl
theorem b91 {S : List Int} {n : Nat} (x : Int) (hn : n ≤ S.length) (hl : S.length ≤ 1000000) (hh : PQ.kT (fun x => x) (S.take n)) :
  ∃ S', m91 KK (.ptr 0 0) (.int .i64 x) (ZW S n) = some (.ret (.tuple []), uB [] S' (n + 1)) ∧ n + 1 ≤ S'.length ∧ S'.length ≤ max S.length (n + 1) ∧ PQ.kT (fun x => x) (S'.take (n + 1)) ∧ (S'.take (n + 1)).Perm (x :: S.take n) := by
 let T := S.take n ++ [x] ++ S.drop (n + 1)
 have hT : T = S.take n ++ [x] ++ S.drop (n + 1) := rfl
 have hTl : T.length = max S.length (n + 1) := by rw [hT]; simp; omega
 have hTt : T.take (n + 1) = S.take n ++ [x] := by
  rw [hT]
  have : (S.take n ++ [x]).length = n + 1 := by simp; omega
  rw [← this, List.take_left]
 have hup : PQ.SP (fun x => x) (T.take (n + 1)) n := by
  rw [hTt]
  have := PQ.Oc (key := fun x => x) (x := x) hh
  rwa [show (S.take n).length = n by simp; omega] at this
 obtain ⟨r, hr, j, S', rfl, h1, h2, h3⟩ := up1 (C := [.front 1 1]) Ls (by omega) (by omega) hup
 refine ⟨S', ?_, by omega, by omega, h2, h3.trans ?_⟩
 ·have hfin : mL 2 (uB [.front 1 1] S' (n + 1)) = some (uB [] S' (n + 1)) := by
   rw [E5]
   simp [uB]
  have hdn : T.drop (n + 1) = S.drop (n + 1) := by
   rw [hT]
   have : (S.take n ++ [x]).length = n + 1 := by simp; omega
   rw [← this, List.drop_left]
  by_cases h0 : S = []
  ·subst h0
   have hn0 : n = 0 := by simpa using hn
   subst hn0
   have hT1 : T = [x] := rfl
   rw [hT1] at hr
   have e1 : uB [.front 1 1] [x] 1 = [.cells [.vslice 1 1 0 1 1, .func 89 [] []], .vec 1 1 [.int .i64 x], .front 1 1] := rfl
   have wz : IntKind.i64.wrap 0 = 0 := by decide
   have n0 : ((0 : Nat) : Int) = 0 := rfl
   rw [Nat.zero_add, e1, n0] at hr
   simp only [uB, List.length_cons, List.length_nil, Nat.reduceAdd] at hr ⊢
   simp only [ZW, if_true]
   simp [m91, lP, oL, mU, kR.tK, rowsOf, mY, wz]
   simp [hr]
  ·simp only [ZW, h0, if_false]
   have ha := Fg (enc := ci .i64) (sz := 1) (by_ := 8) (h := uB [] S n ++ [.front 1 1]) (id := 1) (tot := S.length) (n := n) (xs := S) (ys := [x]) (T := .own 2) (fun _ => rfl) (by omega) rfl hn (by simp)
   have hva : tva 8 S.length n S [x] = some T := by
    unfold tva
    rw [if_pos ⟨rfl, hn, by simp; omega, by simp; omega⟩]
    rfl
   rw [hva, vB] at ha
   have eR : Rw (ci .i64) [x] = [[.int .i64 x]] := rfl
   have eH : (uB [] S n ++ [.front 1 1] : Hk.kT).set 1 (Vc (ci .i64) 1 T) = [.cells [.vslice 1 S.length 0 n 1, .func 89 [] []], Vc (ci .i64) 1 T, .front 1 1] := rfl
   have eH2 : (uB [] S n ++ [.front 1 1] : Hk.kT) = [.cells [.vslice 1 S.length 0 n 1, .func 89 [] []], Vc (ci .i64) 1 S, .front 1 1] := rfl
   rw [eH, eH2, eR] at ha
   have w1 : IntKind.i64.wrap (n : Int) = (n : Int) := by rw [wrap64 (by omega) (by omega)]
   simp only [uB, List.length_cons, List.length_nil, Nat.reduceAdd] at hr ha ⊢
   simp [m91, lP, oL, mU, kR.tK, rowsOf]
   rw [ha]
   simp [w1]
   simp [hr]
 ·rw [hTt]
  exact List.perm_append_comm
section
variable {S : List Int} {n i : Nat} {x : Int}
theorem L6 (hn : n ≤ S.length) (hn2 : S.length ≤ 1000000) (hi : i < n ∨ i = 0) :
    let k := if 2 * i + 2 < n ∧ rd S (2 * i + 2) < rd S (2 * i + 1) then 2 * i + 2 else 2 * i + 1
    x7 KK 2 ([.ptr 0 0, .int .i64 0, .int .i64 x, .int .i64 (n : Int), .int .i64 (i : Int)], uB [] S n) =
      (if n ≤ k ∨ ¬ rd S k < rd S i then some (.ret, [.ptr 0 0, .int .i64 x, .int .i64 x, .int .i64 (n : Int), .int .i64 (i : Int)], uB [] S n)
       else some (.normal, [.ptr 0 0, .int .i64 0, .int .i64 x, .int .i64 (n : Int), .int .i64 (k : Int)], uB [] ((S.set i (rd S k)).set k (rd S i)) n)) := by
  intro k
  have w1 : IntKind.i64.wrap (2 * (i : Int)) = ((2 * i : Nat) : Int) := by rw [wrap64 (by omega) (by omega)]; omega
  have w2 : IntKind.i64.wrap (((2 * i : Nat) : Int) + 1) = ((2 * i + 1 : Nat) : Int) := by rw [wrap64 (by omega) (by omega)]; omega
  have w3 : IntKind.i64.wrap (((2 * i + 1 : Nat) : Int) + 1) = ((2 * i + 2 : Nat) : Int) := by rw [wrap64 (by omega) (by omega)]; omega
  have hC2 : ∀ m h, oA m h [] = some [] := fun _ _ => rfl
  have hc := fun a b => acX Il (S := S) (n := n) a b
  simp only [uB] at hc
  have rest : ∀ k : Nat, k = 2 * i + 1 ∨ k = 2 * i + 2 ∧ k < n → True := fun _ _ => trivial
  have hkd : k = if 2 * i + 2 < n ∧ rd S (2 * i + 2) < rd S (2 * i + 1) then 2 * i + 2 else 2 * i + 1 := rfl
  clear_value k
  generalize h1 : 2 * i + 1 = k1 at *
  generalize h2 : 2 * i + 2 = k2 at *
  generalize h0 : 2 * i = k0 at *
  by_cases c1 : k2 < n
  · have hk2 : k2 < S.length := by omega
    have hk1 : k1 < n := by omega
    have hk1l : k1 < S.length := by omega
    have hil : i < n := by omega
    have hill : i < S.length := by omega
    by_cases c2 : rd S k2 < rd S k1
    · rw [if_pos ⟨c1, c2⟩] at hkd
      subst hkd
      have hnk : ¬ n ≤ k := by omega
      by_cases c3 : rd S k < rd S i
      · rw [if_neg (by intro h; rcases h with h | h; exact hnk h; exact h c3)]
        simp [x7, uB, w1, w2, w3, c1, c2, c3, hk2, hk1, hk1l, hil, hill, hc, hnk]
      · rw [if_pos (.inr c3)]
        simp [x7, uB, w1, w2, w3, c1, c2, c3, hk2, hk1, hk1l, hil, hill, hc, hnk]
    · rw [if_neg (fun h => c2 h.2)] at hkd
      subst hkd
      have hnk : ¬ n ≤ k := by omega
      by_cases c3 : rd S k < rd S i
      · rw [if_neg (by intro h; rcases h with h | h; exact hnk h; exact h c3)]
        simp [x7, uB, w1, w2, w3, c1, c2, c3, hk2, hk1, hk1l, hil, hill, hc, hnk]
      · rw [if_pos (.inr c3)]
        simp [x7, uB, w1, w2, w3, c1, c2, c3, hk2, hk1, hk1l, hil, hill, hc, hnk]
  · rw [if_neg (fun h => c1 h.1)] at hkd
    subst hkd
    by_cases c4 : n ≤ k
    · rw [if_pos (.inl c4)]
      simp [x7, uB, w1, w2, w3, c1, c4]
    · have hkl : k < S.length := by omega
      have hkn : k < n := by omega
      have hil : i < n := by omega
      have hill : i < S.length := by omega
      by_cases c3 : rd S k < rd S i
      · rw [if_neg (by intro h; rcases h with h | h; exact c4 h; exact h c3)]
        simp [x7, uB, w1, w2, w3, c1, c3, c4, hkl, hkn, hil, hill, hc]
      · rw [if_pos (.inr c3)]
        simp [x7, uB, w1, w2, w3, c1, c3, c4, hkl, hkn, hil, hill, hc]
end
end Go.Proofs.YtkeoalhglkfbkaaDoor


namespace Hk.PQ
theorem RU {α : Type} {l : List α} {y : α} (h0 : l ≠ []) (hy : l[l.length - 1]? = some y) : pop l = (l.set 0 y).take (l.length - 1) := by
 cases l with
 | nil => exact absurd rfl h0
 | cons x r =>
  simp only [List.length_cons, Nat.add_sub_cancel] at hy
  have e : pop (x :: r) = (match (x :: r)[r.length]? with
   | some y => ((x :: r).set 0 y).take r.length
   | none => []) := rfl
  rw [e, hy]
  rfl
end Hk.PQ
namespace Go.Proofs.YtkeoalhglkfbkaaDoor
open Go Hk
theorem ac3 {S : List Int} {n i : Nat} {x : Int} (hn : n ≤ S.length) (hn2 : S.length ≤ 1000000) (hi : i < n ∨ i = 0) (h : PQ.U8 (fun x => x) (S.take n) i) :
  ∃ r, mJ (x7 KK 2) ([.ptr 0 0, .int .i64 0, .int .i64 x, .int .i64 (n : Int), .int .i64 (i : Int)], uB [] S n) = some r ∧
   ∃ (j : Nat) (S' : List Int), r = (.ret, [.ptr 0 0, .int .i64 x, .int .i64 x, .int .i64 (n : Int), .int .i64 (j : Int)], uB [] S' n) ∧ S'.length = S.length ∧ PQ.kT (fun x => x) (S'.take n) ∧ (S'.take n).Perm (S.take n) := by
 refine ES (fun s : List Int × Nat => ([.ptr 0 0, .int .i64 0, .int .i64 x, .int .i64 (n : Int), .int .i64 (s.2 : Int)], uB [] s.1 n)) (fun s => s.1.length = S.length ∧ (s.2 < n ∨ s.2 = 0) ∧ PQ.U8 (fun x => x) (s.1.take n) s.2 ∧ (s.1.take n).Perm (S.take n)) (fun s => n - s.2)
  (fun _ r => ∃ (j : Nat) (S' : List Int), r = (.ret, [.ptr 0 0, .int .i64 x, .int .i64 x, .int .i64 (n : Int), .int .i64 (j : Int)], uB [] S' n) ∧ S'.length = S.length ∧ PQ.kT (fun x => x) (S'.take n) ∧ (S'.take n).Perm (S.take n)) ?_ (S, i) ⟨rfl, hi, h, List.Perm.refl _⟩
 rintro ⟨T, j⟩ ⟨hl, hj, hu, hp⟩
 simp only at hl hj hu hp ⊢
 have hs := L6 (S := T) (n := n) (i := j) (x := x) (by omega) (by omega) hj
 simp only at hs
 have hlt : (T.take n).length = n := by rw [List.length_take]; omega
 have hkg : ∀ m, m < n → PQ.kg (fun x => x) (T.take n) m = rd T m := fun m hm => HQ (by omega) hm
 generalize hk : (if 2 * j + 2 < n ∧ rd T (2 * j + 2) < rd T (2 * j + 1) then 2 * j + 2 else 2 * j + 1) = k at hs
 have hkmin : ∀ c, 0 < c → c < n → (c - 1) / 2 = j → k < n ∧ rd T k ≤ rd T c := by
  intro c c0 cn cj
  rcases (show c = 2 * j + 1 ∨ c = 2 * j + 2 by omega) with rfl | rfl
  ·rw [← hk]
   split
   ·rename_i hc; exact ⟨hc.1, by omega⟩
   ·exact ⟨cn, Int.le_refl _⟩
  ·rw [← hk]
   split
   ·exact ⟨cn, Int.le_refl _⟩
   ·rename_i hc
    exact ⟨by omega, by by_cases h2 : rd T (2 * j + 2) < rd T (2 * j + 1); exact absurd ⟨cn, h2⟩ hc; omega⟩
 have hkj : (k - 1) / 2 = j ∧ 0 < k ∧ j < k := by rw [← hk]; split <;> omega
 by_cases hc : n ≤ k ∨ ¬ rd T k < rd T j
 ·rw [if_pos hc] at hs
  refine .inr ⟨_, hs, by simp, j, T, rfl, hl, PQ.QP hu fun c c0 cl cj => ?_, hp⟩
  rw [hlt] at cl
  obtain ⟨h1, h2⟩ := hkmin c c0 cl cj
  rw [hkg _ (by omega), hkg _ cl]
  rcases hc with hc | hc <;> omega
 ·rw [if_neg hc] at hs
  have hkn : k < n := by omega
  have hrd : rd T k < rd T j := by
   by_cases h : rd T k < rd T j
   ·exact h
   ·exact absurd (.inr h) hc
  refine .inl ⟨((T.set j (rd T k)).set k (rd T j), k), hs, ⟨by simp [hl], .inl hkn, ?_, ?_⟩, by simp only; omega, fun r hr => hr⟩
  ·simp only
   rw [E4 (by omega) (by omega) hkn]
   refine PQ.NS hu (by rw [hlt]; omega) hkj.2.1 (by rw [hlt]; exact hkn) hkj.1 (fun c c0 cl cj => ?_) ?_
   ·rw [hlt] at cl
    rw [hkg _ hkn, hkg _ cl]; exact (hkmin c c0 cl cj).2
   ·rw [hkg _ hkn, hkg _ (by omega)]; exact hrd
  ·simp only
   rw [E4 (by omega) (by omega) hkn]
   exact PQ.E2.trans hp
theorem b93 {S : List Int} {n : Nat} (hn : n + 1 ≤ S.length) (hl : S.length ≤ 1000000) (hh : PQ.kT (fun x => x) (S.take (n + 1))) :
  ∃ S', m93 KK (.ptr 0 0) (uB [] S (n + 1)) = some (.ret (.int .i64 (rd S 0)), uB [] S' n) ∧ S'.length = S.length ∧ PQ.kT (fun x => x) (S'.take n) ∧ (rd S 0 :: S'.take n).Perm (S.take (n + 1)) := by
 have hpop : PQ.pop (S.take (n + 1)) = (S.set 0 (rd S n)).take n := by
  have e : (S.take (n + 1)).length = n + 1 := by rw [List.length_take]; omega
  rw [PQ.RU (y := rd S n) (by intro h; rw [h] at e; simp at e) (by rw [e, Nat.add_sub_cancel, List.getElem?_take_of_lt (by omega), zY (by omega)]), e, Nat.add_sub_cancel]
  rw [List.take_set, List.take_take, List.take_set]
  congr 1
  congr 1
  omega
 have hdn := PQ.RT hh
 rw [hpop] at hdn
 obtain ⟨r, hr, j, S', rfl, h1, h2, h3⟩ := ac3 (S := S.set 0 (rd S n)) (n := n) (i := 0) (x := rd S 0) (by simp; omega) (by simpa using hl) (.inr rfl) hdn
 refine ⟨S', ?_, by simpa using h1, h2, ?_⟩
 ·have hfin : mL 2 (uB [] S' n) = some (uB [] S' n) := Hs Il rfl
  have w1 : IntKind.i64.wrap (((n + 1 : Nat) : Int) - 1) = (n : Int) := by rw [wrap64 (by omega) (by omega)]; omega
  have n0 : ((0 : Nat) : Int) = 0 := rfl
  have h0l : 0 < S.length := by omega
  have hnl : n < S.length := by omega
  simp only [uB, n0, List.length_set] at hr hfin ⊢
  have w2 : IntKind.i64.wrap (n : Int) = (n : Int) := by rw [wrap64 (by omega) (by omega)]
  have t0 : BM (n + 1) 0 = some 0 := by unfold BM; rw [if_pos (by omega)]; rfl
  have hsl : nK 1 (.vslice 1 S.length 0 (n + 1) 1) none (some (.int .i64 (n : Int))) = some (.vslice 1 S.length 0 n 1) := by
   simp [nK, oX]
  simp [m93, w2, t0, h0l, hnl, hsl]
  simp [hr]
 ·have hne : ∃ y r, S.take (n + 1) = y :: r := by
   cases S with
   | nil => simp at hn
   | cons y r => exact ⟨y, r.take n, rfl⟩
  obtain ⟨y, r, hyr⟩ := hne
  have hy : y = rd S 0 := by
   have : (S.take (n + 1))[0]? = some y := by rw [hyr]; rfl
   rw [List.getElem?_take_of_lt (by omega), zY (by omega)] at this
   exact (Option.some.inj this).symm
  have := PQ.Le (x := y) (r := r)
  rw [← hyr, hpop, hy] at this
  exact (List.Perm.cons _ h3).trans this
end Go.Proofs.YtkeoalhglkfbkaaDoor


namespace Go.Proofs.YtkeoalhglkfbkaaDoor
open Go Hk
structure pL where
 slot : Int
 last : Int
def pL.cells (x : pL) : List kR := [.int .i64 x.slot, .int .i64 x.last]
theorem pL.qW (x : pL) : x.cells = [.int .i64 x.slot, .int .i64 x.last] := (rfl)
attribute [simp] pL.qW
def uE (C : Hk.kT) (S : List pL) (n : Nat) : Hk.kT := .cells [.vslice 1 S.length 0 n 2, .func 90 [] []] :: Vc pL.cells 2 S :: C
def rt (S : List pL) (j : Nat) : pL := S.getD j ⟨0, 0⟩
theorem A0 {S : List pL} {j : Nat} (h : j < S.length) : S[j]? = some (rt S j) := by unfold rt; rw [List.getD_eq_getElem?_getD, List.getElem?_eq_getElem h]; rfl
@[simp high] theorem agQ {c : lW} {C : Hk.kT} {S : List pL} {n j : Nat} {u v : Int} (h : S.length = n) (hj : j < n) : lU 2 (c :: Vc pL.cells 2 S :: C) (.vptr 1 n (j * 2)) (.agg [.int .i64 u, .int .i64 v]) = some (c :: Vc pL.cells 2 (S.set j ⟨u, v⟩) :: C) := by
 subst h
 have := B9 (enc := pL.cells) (sz := 2) (h := c :: Vc pL.cells 2 S :: C) (id := 1) (tot := S.length) (j := j) (xs := S) (v := .agg [.int .i64 u, .int .i64 v]) ⟨u, v⟩ (fun _ => rfl) rfl (by omega) rfl rfl
 rw [this, s6, if_pos rfl, List.getElem?_eq_getElem hj, mH, Au, if_pos ⟨rfl, hj⟩]
 rfl
@[simp high] theorem agM {c : lW} {C : Hk.kT} {S : List pL} {n j : Nat} (h : S.length = n) (hj : j < n) : kV true 2 (c :: Vc pL.cells 2 S :: C) (.vptr 1 n (j * 2)) = some (.agg [.int .i64 (rt S j).slot, .int .i64 (rt S j).last]) := by
 subst h
 rw [sU]
 have e : (c :: Vc pL.cells 2 S :: C : Hk.kT)[1]? = some (Vc pL.cells 2 S) := rfl
 rw [e, ZT (enc := pL.cells) (sz := 2) (fun _ => rfl) (by omega), s6, if_pos rfl, A0 hj]
 rfl
theorem ab3 {c : lW} {C : Hk.kT} {S : List pL} {n : Nat} {u v : Int} (h : S.length = n) (hj : 0 < n) : lU 2 (c :: Vc pL.cells 2 S :: C) (.vptr 1 n 0) (.agg [.int .i64 u, .int .i64 v]) = some (c :: Vc pL.cells 2 (S.set 0 ⟨u, v⟩) :: C) := by
 have := agQ (c := c) (C := C) (j := 0) (u := u) (v := v) h hj
 simpa using this
theorem abY {c : lW} {C : Hk.kT} {S : List pL} {n : Nat} (h : S.length = n) (hj : 0 < n) : kV true 2 (c :: Vc pL.cells 2 S :: C) (.vptr 1 n 0) = some (.agg [.int .i64 (rt S 0).slot, .int .i64 (rt S 0).last]) := by
 have := agM (c := c) (C := C) (j := 0) h hj
 simpa using this
section
variable {C : Hk.kT} (hC : Still C) {S : List pL} {n i : Nat}
include hC
theorem Ht {m : Nat} (hm : C.length + 2 = m) {D : Hk.kT} : mL m (uE (C ++ D) S n) = some (uE C S n) := by
 have h1 : (1 : Nat) < m := by omega
 have h2 : oA m (uE (C ++ D) S n) C = some C := hC _ _
 have e2 : (uE (C ++ D) S n).take m = uE C S n := by
  subst hm
  unfold uE
  simp
 rw [E5, e2]
 have e : ∀ C, uE C S n = .cells [.vslice 1 S.length 0 n 2, .func 90 [] []] :: Vc pL.cells 2 S :: C := fun _ => rfl
 simp only [e] at h2 ⊢
 simp [h1, h2]
theorem c90 (a b : pL) : KK 90 [.agg a.cells, .agg b.cells] (uE C S n) = some (.ret (.bool (decide (a.last < b.last))), uE C S n) := by
 refine mN (YD _ _ _ _) ?_
 have hl : (uE C S n).length = C.length + 2 := rfl
 have hf : nE (uE C S n).length (.bool (decide (a.last < b.last))) (uE C S n ++ [.cells a.cells, .cells b.cells]) = some (.ret (.bool (decide (a.last < b.last))), uE C S n) := by
  have ht := Ht hC (S := S) (n := n) (m := C.length + 2) rfl (D := [.cells a.cells, .cells b.cells])
  have e : uE C S n ++ [.cells a.cells, .cells b.cells] = uE (C ++ [.cells a.cells, .cells b.cells]) S n := rfl
  rw [nE, hl, e, ht]; rfl
 generalize uE C S n = H at *
 have g1 : ∀ x, (H ++ [x] : Hk.kT)[H.length]? = some x := fun x => by simp
 have g2 : ∀ x y, (H ++ [x, y] : Hk.kT)[H.length]? = some x := fun x y => by simp
 have g3 : ∀ x y, (H ++ [x, y] : Hk.kT)[H.length + 1]? = some y := fun x y => by rw [List.getElem?_append_right (by omega)]; simp
 simp [m90, kV, nJ, g1, g2, g3, List.append_assoc]
 simpa using hf
theorem acY (a b : pL) : vT nC KK 90 (rT nC 90 [.agg [.int .i64 a.slot, .int .i64 a.last], .agg [.int .i64 b.slot, .int .i64 b.last]]) (uE C S n) = some (.ret (.bool (decide (a.last < b.last))), uE C S n) := c90 hC a b
theorem SG (hn : n ≤ S.length) (hn2 : n ≤ 1048576) (hi : i < n) (h0 : 0 < i) :
  Co KK (C.length + 2) ([.ptr 0 0, .int .i64 (i : Int)], uE C S n) = (if (rt S i).last < (rt S ((i - 1) / 2)).last then some (.normal, [.ptr 0 0, .int .i64 (((i - 1) / 2 : Nat) : Int)], uE C ((S.set i (rt S ((i - 1) / 2))).set ((i - 1) / 2) (rt S i)) n) else some (.exit 0, [.ptr 0 0, .int .i64 (i : Int)], uE C S n)) := by
 have w1 : IntKind.i64.wrap ((i : Int) - 1) = ((i - 1 : Nat) : Int) := by rw [wrap64 (by omega) (by omega)]; omega
 have q1 : PT .i64 ((i - 1 : Nat) : Int) 2 = some (((i - 1) / 2 : Nat) : Int) := by
  unfold PT
  rw [if_neg (by omega), Int.tdiv_eq_ediv_of_nonneg (by omega)]
  have : ((i - 1 : Nat) : Int) / 2 = (((i - 1) / 2 : Nat) : Int) := by omega
  rw [this, wrap64 (by omega) (by omega)]
 have hpn : (i - 1) / 2 < n := by omega
 have hil : i < S.length := by omega
 have hpl : (i - 1) / 2 < S.length := by omega
 generalize hp : (i - 1) / 2 = p at *
 have hc := fun n => acY hC (S := S) (n := n) (rt S i) (rt S p)
 have hC2 : ∀ m h, oA m h C = some C := hC
 simp only [uE] at hc
 by_cases hlt : (rt S i).last < (rt S p).last
 ·rw [if_pos hlt]
  simp [Co, uE, w1, q1, h0, hi, hpn, hil, hpl, hc, hlt, hC2]
 ·rw [if_neg hlt]
  simp [Co, uE, w1, q1, h0, hi, hpn, hil, hpl, hc, hlt, hC2]
theorem SH : Co KK (C.length + 2) ([.ptr 0 0, .int .i64 0], uE C S n) = some (.exit 0, [.ptr 0 0, .int .i64 0], uE C S n) := by
 have hC2 : ∀ m h, oA m h C = some C := hC
 simp [Co, uE, hC2]
end
end Go.Proofs.YtkeoalhglkfbkaaDoor


namespace Go.Proofs.YtkeoalhglkfbkaaDoor
open Go Hk
theorem HR {S : List pL} {n i : Nat} (hn : n ≤ S.length) (hi : i < n) : PQ.kg pL.last (S.take n) i = (rt S i).last := by
 have : (S.take n)[i]? = some (rt S i) := by rw [List.getElem?_take_of_lt hi, A0 (by omega)]
 rw [PQ.NX this]
theorem Dk {S : List pL} {n i p : Nat} (hn : n ≤ S.length) (hi : i < n) (hp : p < n) : ((S.set i (rt S p)).set p (rt S i)).take n = PQ.sw (S.take n) i p := by
 have h1 : (S.take n)[i]? = some (rt S i) := by rw [List.getElem?_take_of_lt hi, A0 (by omega)]
 have h2 : (S.take n)[p]? = some (rt S p) := by rw [List.getElem?_take_of_lt hp, A0 (by omega)]
 rw [PQ.Sg h1 h2, List.take_set, List.take_set]
theorem up2 {C : Hk.kT} (hC : Still C) {S : List pL} {n i : Nat} (hn : n ≤ S.length) (hn2 : n ≤ 1048576) (h : PQ.SP pL.last (S.take n) i) :
  ∃ r, mJ (Co KK (C.length + 2)) ([.ptr 0 0, .int .i64 (i : Int)], uE C S n) = some r ∧
   ∃ (j : Nat) (S' : List pL), r = (.exit 0, [.ptr 0 0, .int .i64 (j : Int)], uE C S' n) ∧ S'.length = S.length ∧ PQ.kT pL.last (S'.take n) ∧ (S'.take n).Perm (S.take n) := by
 refine ES (fun s : List pL × Nat => ([.ptr 0 0, .int .i64 (s.2 : Int)], uE C s.1 n)) (fun s => s.1.length = S.length ∧ PQ.SP pL.last (s.1.take n) s.2 ∧ (s.1.take n).Perm (S.take n)) (fun s => s.2)
  (fun _ r => ∃ (j : Nat) (S' : List pL), r = (.exit 0, [.ptr 0 0, .int .i64 (j : Int)], uE C S' n) ∧ S'.length = S.length ∧ PQ.kT pL.last (S'.take n) ∧ (S'.take n).Perm (S.take n)) ?_ (S, i) ⟨rfl, h, List.Perm.refl _⟩
 rintro ⟨T, j⟩ ⟨hl, hu, hp⟩
 simp only at hl hu hp ⊢
 have hj : j < n := by have := hu.1; rw [List.length_take] at this; omega
 rcases Nat.eq_zero_or_pos j with h0 | h0
 ·subst h0
  refine .inr ⟨_, SH hC, by simp, 0, T, rfl, hl, PQ.JW hu (by omega), hp⟩
 ·have hs := SG hC (S := T) (n := n) (i := j) (by omega) hn2 hj h0
  have hpn : (j - 1) / 2 < n := by omega
  by_cases hlt : (rt T j).last < (rt T ((j - 1) / 2)).last
  ·rw [if_pos hlt] at hs
   refine .inl ⟨(((T.set j (rt T ((j - 1) / 2))).set ((j - 1) / 2) (rt T j)), (j - 1) / 2), hs, ⟨by simp [hl], ?_, ?_⟩, by simp only; omega, fun r hr => hr⟩
   ·simp only
    rw [Dk (by omega) hj hpn]
    exact PQ.Od hu h0 (by rw [HR (by omega) hj, HR (by omega) hpn]; exact hlt)
   ·simp only
    rw [Dk (by omega) hj hpn]
    exact PQ.E2.trans hp
  ·rw [if_neg hlt] at hs
   exact .inr ⟨_, hs, by simp, j, T, rfl, hl, PQ.JW hu (by rw [HR (by omega) hj, HR (by omega) hpn]; omega), hp⟩
def CT (z x : pL) : Hk.kT := [.cells z.cells, .cells x.cells]
theorem Se {z x : pL} : Still (CT z x) := fun m h => by simp [CT]
section
variable {S : List pL} {n i : Nat} {x : pL}
theorem L7 (hn : n ≤ S.length) (hn2 : S.length ≤ 1000000) (hi : i < n ∨ i = 0) :
    let k := if 2 * i + 2 < n ∧ (rt S (2 * i + 2)).last < (rt S (2 * i + 1)).last then 2 * i + 2 else 2 * i + 1
    x5 KK 4 ([.ptr 0 0, .ptr 2 0, .ptr 3 0, .int .i64 (n : Int), .int .i64 (i : Int)], uE (CT ⟨0, 0⟩ x) S n) =
      (if n ≤ k ∨ ¬ (rt S k).last < (rt S i).last then some (.ret, [.ptr 0 0, .ptr 2 0, .ptr 3 0, .int .i64 (n : Int), .int .i64 (i : Int)], uE (CT x x) S n)
       else some (.normal, [.ptr 0 0, .ptr 2 0, .ptr 3 0, .int .i64 (n : Int), .int .i64 (k : Int)], uE (CT ⟨0, 0⟩ x) ((S.set i (rt S k)).set k (rt S i)) n)) := by
  intro k
  have w1 : IntKind.i64.wrap (2 * (i : Int)) = ((2 * i : Nat) : Int) := by rw [wrap64 (by omega) (by omega)]; omega
  have w2 : IntKind.i64.wrap (((2 * i : Nat) : Int) + 1) = ((2 * i + 1 : Nat) : Int) := by rw [wrap64 (by omega) (by omega)]; omega
  have w3 : IntKind.i64.wrap (((2 * i + 1 : Nat) : Int) + 1) = ((2 * i + 2 : Nat) : Int) := by rw [wrap64 (by omega) (by omega)]; omega
  have hc := fun a b => acY (Se (z := ⟨0, 0⟩) (x := x)) (S := S) (n := n) a b
  simp only [uE, CT, pL.qW] at hc ⊢
  have rest : ∀ k : Nat, k = 2 * i + 1 ∨ k = 2 * i + 2 ∧ k < n → True := fun _ _ => trivial
  have hkd : k = if 2 * i + 2 < n ∧ (rt S (2 * i + 2)).last < (rt S (2 * i + 1)).last then 2 * i + 2 else 2 * i + 1 := rfl
  clear_value k
  generalize h1 : 2 * i + 1 = k1 at *
  generalize h2 : 2 * i + 2 = k2 at *
  generalize h0 : 2 * i = k0 at *
  by_cases c1 : k2 < n
  · have hk2 : k2 < S.length := by omega
    have hk1 : k1 < n := by omega
    have hk1l : k1 < S.length := by omega
    have hil : i < n := by omega
    have hill : i < S.length := by omega
    by_cases c2 : (rt S k2).last < (rt S k1).last
    · rw [if_pos ⟨c1, c2⟩] at hkd
      subst hkd
      have hnk : ¬ n ≤ k := by omega
      by_cases c3 : (rt S k).last < (rt S i).last
      · rw [if_neg (by intro h; rcases h with h | h; exact hnk h; exact h c3)]
        simp [x5, w1, w2, w3, c1, c2, c3, hk2, hk1, hk1l, hil, hill, hc, hnk]
      · rw [if_pos (.inr c3)]
        simp [x5, w1, w2, w3, c1, c2, c3, hk2, hk1, hk1l, hil, hill, hc, hnk]
    · rw [if_neg (fun h => c2 h.2)] at hkd
      subst hkd
      have hnk : ¬ n ≤ k := by omega
      by_cases c3 : (rt S k).last < (rt S i).last
      · rw [if_neg (by intro h; rcases h with h | h; exact hnk h; exact h c3)]
        simp [x5, w1, w2, w3, c1, c2, c3, hk2, hk1, hk1l, hil, hill, hc, hnk]
      · rw [if_pos (.inr c3)]
        simp [x5, w1, w2, w3, c1, c2, c3, hk2, hk1, hk1l, hil, hill, hc, hnk]
  · rw [if_neg (fun h => c1 h.1)] at hkd
    subst hkd
    by_cases c4 : n ≤ k
    · rw [if_pos (.inl c4)]
      simp [x5, w1, w2, w3, c1, c4]
    · have hkl : k < S.length := by omega
      have hkn : k < n := by omega
      have hil : i < n := by omega
      have hill : i < S.length := by omega
      by_cases c3 : (rt S k).last < (rt S i).last
      · rw [if_neg (by intro h; rcases h with h | h; exact c4 h; exact h c3)]
        simp [x5, w1, w2, w3, c1, c3, c4, hkl, hkn, hil, hill, hc]
      · rw [if_pos (.inr c3)]
        simp [x5, w1, w2, w3, c1, c3, c4, hkl, hkn, hil, hill, hc]
end
theorem ac4 {S : List pL} {n i : Nat} {x : pL} (hn : n ≤ S.length) (hn2 : S.length ≤ 1000000) (hi : i < n ∨ i = 0) (h : PQ.U8 pL.last (S.take n) i) :
  ∃ r, mJ (x5 KK 4) ([.ptr 0 0, .ptr 2 0, .ptr 3 0, .int .i64 (n : Int), .int .i64 (i : Int)], uE (CT ⟨0, 0⟩ x) S n) = some r ∧
   ∃ (j : Nat) (S' : List pL), r = (.ret, [.ptr 0 0, .ptr 2 0, .ptr 3 0, .int .i64 (n : Int), .int .i64 (j : Int)], uE (CT x x) S' n) ∧ S'.length = S.length ∧ PQ.kT pL.last (S'.take n) ∧ (S'.take n).Perm (S.take n) := by
 refine ES (fun s : List pL × Nat => ([.ptr 0 0, .ptr 2 0, .ptr 3 0, .int .i64 (n : Int), .int .i64 (s.2 : Int)], uE (CT ⟨0, 0⟩ x) s.1 n)) (fun s => s.1.length = S.length ∧ (s.2 < n ∨ s.2 = 0) ∧ PQ.U8 pL.last (s.1.take n) s.2 ∧ (s.1.take n).Perm (S.take n)) (fun s => n - s.2)
  (fun _ r => ∃ (j : Nat) (S' : List pL), r = (.ret, [.ptr 0 0, .ptr 2 0, .ptr 3 0, .int .i64 (n : Int), .int .i64 (j : Int)], uE (CT x x) S' n) ∧ S'.length = S.length ∧ PQ.kT pL.last (S'.take n) ∧ (S'.take n).Perm (S.take n)) ?_ (S, i) ⟨rfl, hi, h, List.Perm.refl _⟩
 rintro ⟨T, j⟩ ⟨hl, hj, hu, hp⟩
 simp only at hl hj hu hp ⊢
 have hs := L7 (S := T) (n := n) (i := j) (x := x) (by omega) (by omega) hj
 simp only at hs
 have hlt : (T.take n).length = n := by rw [List.length_take]; omega
 have hkg : ∀ m, m < n → PQ.kg pL.last (T.take n) m = (rt T m).last := fun m hm => HR (by omega) hm
 generalize hk : (if 2 * j + 2 < n ∧ (rt T (2 * j + 2)).last < (rt T (2 * j + 1)).last then 2 * j + 2 else 2 * j + 1) = k at hs
 have hkmin : ∀ c, 0 < c → c < n → (c - 1) / 2 = j → k < n ∧ (rt T k).last ≤ (rt T c).last := by
  intro c c0 cn cj
  rcases (show c = 2 * j + 1 ∨ c = 2 * j + 2 by omega) with rfl | rfl
  ·rw [← hk]
   split
   ·rename_i hc; exact ⟨hc.1, by omega⟩
   ·exact ⟨cn, Int.le_refl _⟩
  ·rw [← hk]
   split
   ·exact ⟨cn, Int.le_refl _⟩
   ·rename_i hc
    exact ⟨by omega, by by_cases h2 : (rt T (2 * j + 2)).last < (rt T (2 * j + 1)).last; exact absurd ⟨cn, h2⟩ hc; omega⟩
 have hkj : (k - 1) / 2 = j ∧ 0 < k ∧ j < k := by rw [← hk]; split <;> omega
 by_cases hc : n ≤ k ∨ ¬ (rt T k).last < (rt T j).last
 ·rw [if_pos hc] at hs
  refine .inr ⟨_, hs, by simp, j, T, rfl, hl, PQ.QP hu fun c c0 cl cj => ?_, hp⟩
  rw [hlt] at cl
  obtain ⟨h1, h2⟩ := hkmin c c0 cl cj
  rw [hkg _ (by omega), hkg _ cl]
  rcases hc with hc | hc <;> omega
 ·rw [if_neg hc] at hs
  have hkn : k < n := by omega
  have hrd : (rt T k).last < (rt T j).last := by
   by_cases h : (rt T k).last < (rt T j).last
   ·exact h
   ·exact absurd (.inr h) hc
  refine .inl ⟨((T.set j (rt T k)).set k (rt T j), k), hs, ⟨by simp [hl], .inl hkn, ?_, ?_⟩, by simp only; omega, fun r hr => hr⟩
  ·simp only
   rw [Dk (by omega) (by omega) hkn]
   refine PQ.NS hu (by rw [hlt]; omega) hkj.2.1 (by rw [hlt]; exact hkn) hkj.1 (fun c c0 cl cj => ?_) ?_
   ·rw [hlt] at cl
    rw [hkg _ hkn, hkg _ cl]; exact (hkmin c c0 cl cj).2
   ·rw [hkg _ hkn, hkg _ (by omega)]; exact hrd
  ·simp only
   rw [Dk (by omega) (by omega) hkn]
   exact PQ.E2.trans hp
end Go.Proofs.YtkeoalhglkfbkaaDoor


namespace Go.Proofs.YtkeoalhglkfbkaaDoor
open Go Hk
def ZY (S : List pL) (n : Nat) : Hk.kT := if S = [] then [.cells [.slice [] (.own 1), .func 90 [] []], .front 0 0] else uE [] S n
theorem Sd {x : pL} : Still [.cells x.cells, .front 1 2] := fun m h => by simp
theorem b94 {S : List pL} {n : Nat} (x : pL) (hn : n ≤ S.length) (hl : S.length ≤ 1000000) (hh : PQ.kT pL.last (S.take n)) :
  ∃ S', m94 KK (.ptr 0 0) (.agg x.cells) (ZY S n) = some (.ret (.tuple []), uE [] S' (n + 1)) ∧ n + 1 ≤ S'.length ∧ S'.length ≤ max S.length (n + 1) ∧ PQ.kT pL.last (S'.take (n + 1)) ∧ (S'.take (n + 1)).Perm (x :: S.take n) := by
 let T := S.take n ++ [x] ++ S.drop (n + 1)
 have hT : T = S.take n ++ [x] ++ S.drop (n + 1) := rfl
 have hTl : T.length = max S.length (n + 1) := by rw [hT]; simp; omega
 have hTt : T.take (n + 1) = S.take n ++ [x] := by
  rw [hT]
  have : (S.take n ++ [x]).length = n + 1 := by simp; omega
  rw [← this, List.take_left]
 have hup : PQ.SP pL.last (T.take (n + 1)) n := by
  rw [hTt]
  have := PQ.Oc (key := pL.last) (x := x) hh
  rwa [show (S.take n).length = n by simp; omega] at this
 obtain ⟨r, hr, j, S', rfl, h1, h2, h3⟩ := up2 (C := [.cells x.cells, .front 1 2]) Sd (by omega) (by omega) hup
 refine ⟨S', ?_, by omega, by omega, h2, h3.trans ?_⟩
 ·have hfin : mL 2 (uE [.cells x.cells, .front 1 2] S' (n + 1)) = some (uE [] S' (n + 1)) := by
   rw [E5]
   simp [uE]
  have hdn : T.drop (n + 1) = S.drop (n + 1) := by
   rw [hT]
   have : (S.take n ++ [x]).length = n + 1 := by simp; omega
   rw [← this, List.drop_left]
  by_cases h0 : S = []
  ·subst h0
   have hn0 : n = 0 := by simpa using hn
   subst hn0
   have hT1 : T = [x] := rfl
   rw [hT1] at hr
   have e1 : uE [.cells x.cells, .front 1 2] [x] 1 = [.cells [.vslice 1 1 0 1 2, .func 90 [] []], .vec 1 2 [.int .i64 x.slot, .int .i64 x.last], .cells [.int .i64 x.slot, .int .i64 x.last], .front 1 2] := rfl
   have wz : IntKind.i64.wrap 0 = 0 := by decide
   have n0 : ((0 : Nat) : Int) = 0 := rfl
   rw [Nat.zero_add, e1, n0] at hr
   simp only [uE, pL.qW, List.length_cons, List.length_nil, Nat.reduceAdd] at hr ⊢
   simp only [ZY, if_true]
   simp [m94, mS, wM, tN, nT, sW, qE, lP, oL, mU, kR.tK, rowsOf, mY, wz]
   simp [hr]
  ·simp only [ZY, h0, if_false]
   have ha := Fg (enc := pL.cells) (sz := 2) (by_ := 16) (h := uE [] S n ++ [.cells x.cells, .front 1 2]) (id := 1) (tot := S.length) (n := n) (xs := S) (ys := [x]) (T := .own 3) (fun _ => rfl) (by omega) rfl hn (by simp)
   have hva : tva 16 S.length n S [x] = some T := by
    unfold tva
    rw [if_pos ⟨rfl, hn, by simp; omega, by simp; omega⟩]
    rfl
   rw [hva, vB] at ha
   have eR : Rw pL.cells [x] = [[.int .i64 x.slot, .int .i64 x.last]] := rfl
   have eH : (uE [] S n ++ [.cells x.cells, .front 1 2] : Hk.kT).set 1 (Vc pL.cells 2 T) = [.cells [.vslice 1 S.length 0 n 2, .func 90 [] []], Vc pL.cells 2 T, .cells [.int .i64 x.slot, .int .i64 x.last], .front 1 2] := rfl
   have eH2 : (uE [] S n ++ [.cells x.cells, .front 1 2] : Hk.kT) = [.cells [.vslice 1 S.length 0 n 2, .func 90 [] []], Vc pL.cells 2 S, .cells [.int .i64 x.slot, .int .i64 x.last], .front 1 2] := rfl
   rw [eH, eH2, eR] at ha
   have w1 : IntKind.i64.wrap (n : Int) = (n : Int) := by rw [wrap64 (by omega) (by omega)]
   simp only [uE, pL.qW, List.length_cons, List.length_nil, Nat.reduceAdd] at hr ha ⊢
   simp [m94, mS, wM, tN, nT, sW, qE, lP, oL, mU, kR.tK, rowsOf]
   rw [ha]
   simp [w1]
   simp [hr]
 ·rw [hTt]
  exact List.perm_append_comm
theorem b92 {S : List pL} {n : Nat} (hn : n + 1 ≤ S.length) (hl : S.length ≤ 1000000) (hh : PQ.kT pL.last (S.take (n + 1))) :
  ∃ S', m92 KK (.ptr 0 0) (uE [] S (n + 1)) = some (.ret (.agg (rt S 0).cells), uE [] S' n) ∧ S'.length = S.length ∧ PQ.kT pL.last (S'.take n) ∧ (rt S 0 :: S'.take n).Perm (S.take (n + 1)) := by
 have hpop : PQ.pop (S.take (n + 1)) = (S.set 0 (rt S n)).take n := by
  have e : (S.take (n + 1)).length = n + 1 := by rw [List.length_take]; omega
  rw [PQ.RU (y := rt S n) (by intro h; rw [h] at e; simp at e) (by rw [e, Nat.add_sub_cancel, List.getElem?_take_of_lt (by omega), A0 (by omega)]), e, Nat.add_sub_cancel]
  rw [List.take_set, List.take_take, List.take_set]
  congr 1
  congr 1
  omega
 have hdn := PQ.RT hh
 rw [hpop] at hdn
 obtain ⟨r, hr, j, S', rfl, h1, h2, h3⟩ := ac4 (S := S.set 0 (rt S n)) (n := n) (i := 0) (x := rt S 0) (by simp; omega) (by simpa using hl) (.inr rfl) hdn
 refine ⟨S', ?_, by simpa using h1, h2, ?_⟩
 ·have hfin : mL 2 (uE (CT (rt S 0) (rt S 0)) S' n) = some (uE [] S' n) := Ht (C := []) (fun _ _ => rfl) rfl
  have w1 : IntKind.i64.wrap (((n + 1 : Nat) : Int) - 1) = (n : Int) := by rw [wrap64 (by omega) (by omega)]; omega
  have n0 : ((0 : Nat) : Int) = 0 := rfl
  have h0l : 0 < S.length := by omega
  have hnl : n < S.length := by omega
  simp only [uE, CT, pL.qW, n0, List.length_set] at hr hfin ⊢
  have w2 : IntKind.i64.wrap (n : Int) = (n : Int) := by rw [wrap64 (by omega) (by omega)]
  have t0 : BM (n + 1) 0 = some 0 := by unfold BM; rw [if_pos (by omega)]; rfl
  have hsl : nK 2 (.vslice 1 S.length 0 (n + 1) 2) none (some (.int .i64 (n : Int))) = some (.vslice 1 S.length 0 n 2) := by
   simp [nK, oX]
  have l0 : ∀ (c : lW) C, kV true 2 (c :: Vc pL.cells 2 S :: C) (.vptr 1 S.length 0) = some (.agg [.int .i64 (rt S 0).slot, .int .i64 (rt S 0).last]) := fun c C => abY rfl h0l
  have s0 : ∀ (c : lW) C u v, lU 2 (c :: Vc pL.cells 2 S :: C) (.vptr 1 S.length 0) (.agg [.int .i64 u, .int .i64 v]) = some (c :: Vc pL.cells 2 (S.set 0 ⟨u, v⟩) :: C) := fun c C u v => ab3 rfl h0l
  have eta : ∀ y : pL, (⟨y.slot, y.last⟩ : pL) = y := fun _ => rfl
  simp [m92, w2, t0, h0l, hnl, hsl, l0, s0, eta]
  simp [hr]
 ·have hne : ∃ y r, S.take (n + 1) = y :: r := by
   cases S with
   | nil => simp at hn
   | cons y r => exact ⟨y, r.take n, rfl⟩
  obtain ⟨y, r, hyr⟩ := hne
  have hy : y = rt S 0 := by
   have : (S.take (n + 1))[0]? = some y := by rw [hyr]; rfl
   rw [List.getElem?_take_of_lt (by omega), A0 (by omega)] at this
   exact (Option.some.inj this).symm
  have := PQ.Le (x := y) (r := r)
  rw [← hyr, hpop, hy] at this
  exact (List.Perm.cons _ h3).trans this
end Go.Proofs.YtkeoalhglkfbkaaDoor


namespace Go.Proofs.YtkeoalhglkfbkaaDoor
open Go Hk
def FC (id : Nat) (S : List Int) (n : Nat) : lW := if S = [] then .cells [.slice [] (.own id), .func 89 [] []] else .cells [.vslice id S.length 0 n 1, .func 89 [] []]
def FV (S : List Int) : lW := if S = [] then .front 0 0 else Vc (ci .i64) 1 S
def UC (id : Nat) (S : List pL) (n : Nat) : lW := if S = [] then .cells [.slice [] (.own id), .func 90 [] []] else .cells [.vslice id S.length 0 n 2, .func 90 [] []]
def UV (S : List pL) : lW := if S = [] then .front 0 0 else Vc pL.cells 2 S
theorem Qb (S : List Int) (n : Nat) : ZW S n = [FC 1 S n, FV S] := by unfold ZW FC FV; split <;> rfl
theorem Qc (S : List pL) (n : Nat) : ZY S n = [UC 1 S n, UV S] := by unfold ZY UC UV; split <;> rfl
theorem LG {S : List Int} {n : Nat} (h : S ≠ []) : uB [] S n = [FC 1 S n, FV S] := by rw [← Qb, ZW, if_neg h]
theorem LH {S : List pL} {n : Nat} (h : S ≠ []) : uE [] S n = [UC 1 S n, UV S] := by rw [← Qc, ZY, if_neg h]
section
variable {id : Nat} {S : List Int} {U : List pL} {n : Nat}
theorem NB : (FC id S n).refs = [id] := by unfold FC; split <;> rfl
theorem NK : (UC id U n).refs = [id] := by unfold UC; split <;> rfl
theorem ND : (FV S).refs = [] := by
 unfold FV; split
 ·rfl
 ·exact JL (fun _ => rfl)
theorem NM : (UV U).refs = [] := by
 unfold UV; split
 ·rfl
 ·exact JL (fun _ => rfl)
theorem NA {p : Nat → Bool} (h : p id = true) : (FC id S n).ok p = true := by unfold FC; split <;> simp [lW.ok, kR.HV, uI, h]
theorem NJ {p : Nat → Bool} (h : p id = true) : (UC id U n).ok p = true := by unfold UC; split <;> simp [lW.ok, kR.HV, uI, h]
theorem NC {p : Nat → Bool} : (FV S).ok p = true := by
 unfold FV; split
 ·rfl
 ·exact RN (fun _ => rfl)
theorem NL {p : Nat → Bool} : (UV U).ok p = true := by
 unfold UV; split
 ·rfl
 ·exact RN (fun _ => rfl)
theorem Iv {f : Nat → Nat} : (FC id S n).vG f = FC (f id) S n := by unfold FC; split <;> rfl
theorem Iz {f : Nat → Nat} : (UC id U n).vG f = UC (f id) U n := by unfold UC; split <;> rfl
theorem Iw {f : Nat → Nat} : (FV S).vG f = FV S := by
 unfold FV; split
 ·rfl
 ·exact Nd (fun _ => rfl)
theorem IA {f : Nat → Nat} : (UV U).vG f = UV U := by
 unfold UV; split
 ·rfl
 ·exact Nd (fun _ => rfl)
end
section
variable {b0 b1 b2 b3 b4 b5 b8 b9 : lW} {S : List Int} {U : List pL} {n : Nat}
theorem c91 (x : Int) (hn : n ≤ S.length) (hl : S.length ≤ 1000000) (hh : PQ.kT (fun x => x) (S.take n)) :
  ∃ S', KK 91 [.ptr 6 0, .int .i64 x] [b0, b1, b2, b3, b4, b5, FC 7 S n, FV S, b8, b9] = some (.ret (.tuple []), [b0, b1, b2, b3, b4, b5, FC 7 S' (n + 1), FV S', b8, b9]) ∧
   n + 1 ≤ S'.length ∧ S'.length ≤ max S.length (n + 1) ∧ PQ.kT (fun x => x) (S'.take (n + 1)) ∧ (S'.take (n + 1)).Perm (x :: S.take n) := by
 obtain ⟨S', h1, h2, h3⟩ := b91 x hn hl hh
 refine ⟨S', ?_, h2, h3⟩
 rw [Qb, LG (by intro h; rw [h] at h2; simp at h2)] at h1
 have := uJ (P := Tryd.prog) (A := nC) (f := 91) (args := [.ptr 6 0, .int .i64 x]) (args' := [.ptr 0 0, .int .i64 x]) (h := [b0, b1, b2, b3, b4, b5, FC 7 S n, FV S, b8, b9]) (hs := [FC 1 S n, FV S]) (ids := [6, 7]) (x := some ()) (v := fun _ => .tuple []) (v' := fun _ => .tuple [])
  (h1 := fun _ => [FC 1 S' (n + 1), FV S']) (h2 := fun _ => [b0, b1, b2, b3, b4, b5, FC 7 S' (n + 1), FV S', b8, b9]) rfl rfl ?_ ?_ rfl ?_ (YE ..) h1 fun _ => ?_
 ·exact this
 ·simp [NB, ND]
 ·simp [NA, NC]
 ·simp [Iv, Iw]
 ·simp [NA, NC, Iv, Iw]
theorem c93 (hn : n + 1 ≤ S.length) (hl : S.length ≤ 1000000) (hh : PQ.kT (fun x => x) (S.take (n + 1))) :
  ∃ S', KK 93 [.ptr 6 0] [b0, b1, b2, b3, b4, b5, FC 7 S (n + 1), FV S, b8, b9] = some (.ret (.int .i64 (rd S 0)), [b0, b1, b2, b3, b4, b5, FC 7 S' n, FV S', b8, b9]) ∧
   S'.length = S.length ∧ PQ.kT (fun x => x) (S'.take n) ∧ (rd S 0 :: S'.take n).Perm (S.take (n + 1)) := by
 obtain ⟨S', h1, h2, h3⟩ := b93 hn hl hh
 refine ⟨S', ?_, h2, h3⟩
 rw [LG (by intro h; rw [h] at hn; simp at hn), LG (by intro h; rw [h] at h2; simp at h2; omega)] at h1
 have := uJ (P := Tryd.prog) (A := nC) (f := 93) (args := [.ptr 6 0]) (args' := [.ptr 0 0]) (h := [b0, b1, b2, b3, b4, b5, FC 7 S (n + 1), FV S, b8, b9]) (hs := [FC 1 S (n + 1), FV S]) (ids := [6, 7]) (x := some ()) (v := fun _ => .int .i64 (rd S 0)) (v' := fun _ => .int .i64 (rd S 0))
  (h1 := fun _ => [FC 1 S' n, FV S']) (h2 := fun _ => [b0, b1, b2, b3, b4, b5, FC 7 S' n, FV S', b8, b9]) rfl rfl ?_ ?_ rfl ?_ (YG ..) h1 fun _ => ?_
 ·exact this
 ·simp [NB, ND]
 ·simp [NA, NC]
 ·simp [Iv, Iw]
 ·simp [NA, NC, Iv, Iw]
theorem c94 (x : pL) (hn : n ≤ U.length) (hl : U.length ≤ 1000000) (hh : PQ.kT pL.last (U.take n)) :
  ∃ S', KK 94 [.ptr 8 0, .agg [.int .i64 x.slot, .int .i64 x.last]] [b0, b1, b2, b3, b4, b5, b8, b9, UC 9 U n, UV U] = some (.ret (.tuple []), [b0, b1, b2, b3, b4, b5, b8, b9, UC 9 S' (n + 1), UV S']) ∧
   n + 1 ≤ S'.length ∧ S'.length ≤ max U.length (n + 1) ∧ PQ.kT pL.last (S'.take (n + 1)) ∧ (S'.take (n + 1)).Perm (x :: U.take n) := by
 obtain ⟨S', h1, h2, h3⟩ := b94 x hn hl hh
 refine ⟨S', ?_, h2, h3⟩
 rw [Qc, LH (by intro h; rw [h] at h2; simp at h2)] at h1
 have := uJ (P := Tryd.prog) (A := nC) (f := 94) (args := [.ptr 8 0, .agg [.int .i64 x.slot, .int .i64 x.last]]) (args' := [.ptr 0 0, .agg x.cells]) (h := [b0, b1, b2, b3, b4, b5, b8, b9, UC 9 U n, UV U]) (hs := [UC 1 U n, UV U]) (ids := [8, 9]) (x := some ()) (v := fun _ => .tuple []) (v' := fun _ => .tuple [])
  (h1 := fun _ => [UC 1 S' (n + 1), UV S']) (h2 := fun _ => [b0, b1, b2, b3, b4, b5, b8, b9, UC 9 S' (n + 1), UV S']) rfl rfl ?_ ?_ rfl ?_ (YH ..) h1 fun _ => ?_
 ·exact this
 ·simp [NK, NM]
 ·simp [NJ, NL]
 ·simp [Iz, IA]
 ·simp [NJ, NL, Iz, IA]
theorem c92 (hn : n + 1 ≤ U.length) (hl : U.length ≤ 1000000) (hh : PQ.kT pL.last (U.take (n + 1))) :
  ∃ S', KK 92 [.ptr 8 0] [b0, b1, b2, b3, b4, b5, b8, b9, UC 9 U (n + 1), UV U] = some (.ret (.agg [.int .i64 (rt U 0).slot, .int .i64 (rt U 0).last]), [b0, b1, b2, b3, b4, b5, b8, b9, UC 9 S' n, UV S']) ∧
   S'.length = U.length ∧ PQ.kT pL.last (S'.take n) ∧ (rt U 0 :: S'.take n).Perm (U.take (n + 1)) := by
 obtain ⟨S', h1, h2, h3⟩ := b92 hn hl hh
 refine ⟨S', ?_, h2, h3⟩
 rw [LH (by intro h; rw [h] at hn; simp at hn), LH (by intro h; rw [h] at h2; simp at h2; omega)] at h1
 have := uJ (P := Tryd.prog) (A := nC) (f := 92) (args := [.ptr 8 0]) (args' := [.ptr 0 0]) (h := [b0, b1, b2, b3, b4, b5, b8, b9, UC 9 U (n + 1), UV U]) (hs := [UC 1 U (n + 1), UV U]) (ids := [8, 9]) (x := some ()) (v := fun _ => .agg (rt U 0).cells) (v' := fun _ => .agg (rt U 0).cells)
  (h1 := fun _ => [UC 1 S' n, UV S']) (h2 := fun _ => [b0, b1, b2, b3, b4, b5, b8, b9, UC 9 S' n, UV S']) rfl rfl ?_ ?_ rfl ?_ (YF ..) h1 fun _ => ?_
 ·exact this
 ·simp [NK, NM]
 ·simp [NJ, NL]
 ·simp [Iz, IA]
 ·simp [NJ, NL, Iz, IA]
end
end Go.Proofs.YtkeoalhglkfbkaaDoor
