/-
  STRUCTS: '==', and what is built.
-/
import Derived.Test.YtkeoalhglkfbkaaDoorHkPure2
set_option linter.unusedVariables false
set_option linter.unusedSimpArgs false
namespace Hk
open Go Go.RowKit

theorem aeqAll_append : ∀ {k1 k2 : List Kd} {x y : List AVal} {b : Bool}, aeqAll (k1 ++ k2) x y = some b →
    ∃ p q, aeqAll k1 (x.take k1.length) (y.take k1.length) = some p ∧ aeqAll k2 (x.drop k1.length) (y.drop k1.length) = some q ∧ b = (p && q)
  | [], k2, x, y, b, h => ⟨true, b, by simp [aeqAll], by simpa using h, by simp⟩
  | k :: k1, k2, [], y, b, h => by simp [aeqAll] at h
  | k :: k1, k2, _ :: _, [], b, h => by simp [aeqAll] at h
  | k :: k1, k2, x :: xs, y :: ys, b, h => by
    simp only [List.cons_append, aeqAll] at h
    split at h <;> simp only [Option.some.injEq, reduceCtorEq] at h
    rename_i u v hu hv
    obtain ⟨p, q, h1, h2, h3⟩ := aeqAll_append hv
    exact ⟨u && p, q, by simp [aeqAll, hu, h1], by simpa using h2, by rw [← h, h3, Bool.and_assoc]⟩

theorem aeqAll_len : ∀ {ks : List Kd} {x y : List AVal} {b : Bool}, aeqAll ks x y = some b → x.length = ks.length ∧ y.length = ks.length
  | [], [], [], _, _ => ⟨rfl, rfl⟩
  | [], _ :: _, _, _, h => by simp [aeqAll] at h
  | [], [], _ :: _, _, h => by simp [aeqAll] at h
  | _ :: _, [], _, _, h => by simp [aeqAll] at h
  | _ :: _, _ :: _, [], _, h => by simp [aeqAll] at h
  | k :: ks, x :: xs, y :: ys, b, h => by
    simp only [aeqAll] at h
    split at h <;> simp only [Option.some.injEq, reduceCtorEq] at h
    rename_i u v hu hv
    obtain ⟨h1, h2⟩ := aeqAll_len hv
    simp [h1, h2]

/-- A value as its cells. -/
def Rep (G : Gh) (h : Heap) (g : Bool) (cx : List AVal) (X : Value) : Prop :=
  match g with
  | true => ∃ C : Array Value, X = .agg C ∧ cx.length = C.size ∧ ∀ (i : Nat) (v : AVal), cx[i]? = some v → RelV G h v (C.getD i undef)
  | false => ∃ c, cx = [c] ∧ RelV G h c X

section
variable {P : Program} {G : Gh} {h : Heap} {w : World} {x y v : AVal} {X Y : Value}

/-- A part of an aggregate, as its cells. -/
theorem part_rep {t : TypeId} {g : Bool} {n off : Nat} {cx : List AVal} {C : Array Value} (hg : isAggT P t = some g) (hn : sizeT P t = some n) (h1 : g = false → n = 1)
    (hl : cx.length = C.size) (hr : ∀ (i : Nat) (v : AVal), cx[i]? = some v → RelV G h v (C.getD i undef)) (hle : off + n ≤ cx.length) :
    ∃ V, (part t C off).run P w = .ok V w ∧ Rep G h g ((cx.drop off).take n) V := by
  cases g with
  | true =>
    obtain ⟨V, e1, e2⟩ := apart_sound (P := P) (w := w) (off := off) (v := .agg ((cx.drop off).take n)) hg hn (by simp [apart, hle]) hl hr
    exact ⟨V, e1, e2.agg_inv⟩
  | false =>
    have := h1 rfl; subst this
    have hlt : off < cx.length := by omega
    obtain ⟨V, e1, e2⟩ := apart_sound (P := P) (w := w) (off := off) (v := cx[off]) hg hn (by simp [apart, hlt]) hl hr
    exact ⟨V, e1, cx[off], by rw [List.drop_eq_getElem_cons hlt, List.take_succ_cons, List.take_zero], e2⟩

theorem eqFields_sound (P : Program) (G : Gh) (h : Heap) (w : World) (d D : Nat)
    (ih : ∀ (t : TypeId) (ks : List Kd) (g : Bool) (cx cy : List AVal) (X Y : Value) (b : Bool), eqKinds P d t = some ks → isAggT P t = some g → aeqAll ks cx cy = some b →
      Rep G h g cx X → Rep G h g cy Y → (Op.equalIn D t X Y).run P w = .ok b w)
    {cx cy : List AVal} {C E : Array Value} (hlx : cx.length = C.size) (hrx : ∀ (i : Nat) (v : AVal), cx[i]? = some v → RelV G h v (C.getD i undef))
    (hly : cy.length = E.size) (hry : ∀ (i : Nat) (v : AVal), cy[i]? = some v → RelV G h v (E.getD i undef)) :
    ∀ (fs : List Field) (off : Nat) (ks : List Kd) (b : Bool), eqKindsFs P (eqKinds P d) fs off = some ks → aeqAll ks (cx.drop off) (cy.drop off) = some b →
      (Op.eqFields D C E fs).run P w = .ok b w
  | [], off, ks, b, hk, hb => by
    simp only [eqKindsFs, Option.some.injEq] at hk; subst hk
    have : b = true := by
      generalize cx.drop off = a at hb; generalize cy.drop off = c at hb
      cases a <;> cases c <;> simp_all [aeqAll]
    subst this
    simp [Op.eqFields, Sem.run_pure]
  | f :: fs, off, ks, b, hk, hb => by
    simp only [eqKindsFs] at hk
    cases hnm : (f.name == "_" || f.offset != off) with
    | true => simp [hnm] at hk
    | false =>
      simp only [hnm, cond_false] at hk
      simp only [Bool.or_eq_false_iff, beq_eq_false_iff_ne, bne_eq_false_iff_eq] at hnm
      obtain ⟨hname, hoff⟩ := hnm
      split at hk
      · rename_i k1 hk1
        cases hsz : (sizeT P f.type == some k1.length && k1.length != 0) with
        | false => simp [hsz] at hk
        | true =>
          simp only [hsz, cond_true] at hk
          simp only [Bool.and_eq_true, beq_iff_eq, bne_iff_ne, ne_eq] at hsz
          obtain ⟨hsz, hne⟩ := hsz
          split at hk <;> simp only [Option.some.injEq, reduceCtorEq] at hk
          rename_i k2 hk2
          subst hk
          obtain ⟨p, q, e1, e2, rfl⟩ := aeqAll_append hb
          obtain ⟨l1, l2⟩ := aeqAll_len e1
          obtain ⟨g, hg⟩ : ∃ g, isAggT P f.type = some g := by
            unfold isAggT
            cases d with
            | zero => simp [eqKinds] at hk1
            | succ d =>
              simp only [eqKinds] at hk1
              cases hu : P.underlying f.type with
              | none => simp [hu] at hk1
              | some dd => cases dd <;> simp
          have h1 : g = false → k1.length = 1 := by
            intro hgf; subst hgf
            cases d with
            | zero => simp [eqKinds] at hk1
            | succ d =>
              simp only [eqKinds] at hk1
              unfold isAggT at hg
              cases hu : P.underlying f.type with
              | none => simp [hu] at hk1
              | some dd => cases dd <;> simp_all <;> subst hk1 <;> rfl
          have lx : off + k1.length ≤ cx.length := by rw [List.length_take, List.length_drop] at l1; omega
          have ly : off + k1.length ≤ cy.length := by rw [List.length_take, List.length_drop] at l2; omega
          obtain ⟨V1, p1, r1⟩ := part_rep (w := w) (off := off) hg hsz h1 hlx hrx lx
          obtain ⟨V2, p2, r2⟩ := part_rep (w := w) (off := off) hg hsz h1 hly hry ly
          have he := ih f.type k1 g _ _ V1 V2 p hk1 hg e1 r1 r2
          have hrest := eqFields_sound P G h w d D ih hlx hrx hly hry fs (off + k1.length) k2 q hk2 (by simpa [List.drop_drop] using e2)
          simp only [Op.eqFields, hoff, ne_eq, hname, not_false_eq_true, if_true, Sem.run_bind, p1, p2, he, Result.andThen_ok, Sem.run_ite]
          cases p <;> simp [Sem.run_pure, hrest]
      · cases hk

theorem equalIn_sound (P : Program) (G : Gh) (h : Heap) (w : World) : ∀ (d D : Nat), d ≤ D → ∀ (t : TypeId) (ks : List Kd) (g : Bool) (cx cy : List AVal) (X Y : Value) (b : Bool),
    eqKinds P d t = some ks → isAggT P t = some g → aeqAll ks cx cy = some b → Rep G h g cx X → Rep G h g cy Y → (Op.equalIn D t X Y).run P w = .ok b w
  | 0, _, _, _, _, _, _, _, _, _, _, hk, _, _, _, _ => by simp [eqKinds] at hk
  | d + 1, 0, hd, _, _, _, _, _, _, _, _, _, _, _, _, _ => by omega
  | d + 1, D + 1, hd, t, ks, g, cx, cy, X, Y, b, hk, hg, hb, hx, hy => by
    simp only [eqKinds] at hk
    have scal : g = false → ∀ k, ks = [k] → ∃ c c', cx = [c] ∧ cy = [c'] ∧ RelV G h c X ∧ RelV G h c' Y ∧ aeqK k c c' = some b := by
      intro hgf k hks; subst hgf; subst hks
      obtain ⟨c, rfl, hc⟩ := hx
      obtain ⟨c', rfl, hc'⟩ := hy
      refine ⟨c, c', rfl, rfl, hc, hc', ?_⟩
      simp only [aeqAll] at hb
      split at hb <;> simp_all
    split at hk
    · rename_i hu
      have hgf : g = false := by simpa [isAggT, hu] using hg.symm
      obtain ⟨c, c', rfl, rfl, hc, hc', he⟩ := scal hgf .b (by simpa using hk.symm)
      unfold aeqK at he
      split at he <;> simp_all
      have := hc.bool_inv; subst this
      have := hc'.bool_inv; subst this
      rw [run_equalIn_bool hu D]; simp_all
    · rename_i k0 hu
      have hgf : g = false := by simpa [isAggT, hu] using hg.symm
      obtain ⟨c, c', rfl, rfl, hc, hc', he⟩ := scal hgf .i (by simpa using hk.symm)
      unfold aeqK at he
      split at he
      · rename_i k a k' a'
        split at he <;> simp only [Option.some.injEq, reduceCtorEq] at he
        rename_i hkk; subst hkk; subst he
        have := hc.int_inv; subst this
        have := hc'.int_inv; subst this
        exact run_equalIn_int w D t _ _ _ _ hu
      · simp_all
      · simp_all
      · cases he
    · rename_i hu
      have hgf : g = false := by simpa [isAggT, hu] using hg.symm
      obtain ⟨c, c', rfl, rfl, hc, hc', he⟩ := scal hgf .s (by simpa using hk.symm)
      cases c <;> cases c' <;> simp only [aeqK, Option.some.injEq, reduceCtorEq] at he
      rename_i a a'
      subst he
      have := hc.str_inv; subst this
      have := hc'.str_inv; subst this
      have := run_equalIn_string (P := P) w D t ⟨a.toArray⟩ ⟨a'.toArray⟩ hu
      simpa using this
    · rename_i fs hu
      have hgt : g = true := by simpa [isAggT, hu] using hg.symm
      subst hgt
      cases hst : P.stoodInHeld t with
      | true => simp [hst] at hk
      | false =>
        simp only [hst, cond_false] at hk
        obtain ⟨C, rfl, hlx, hrx⟩ := hx
        obtain ⟨E, rfl, hly, hry⟩ := hy
        have hfo : P.fieldsOf t = fs := by simp [Program.fieldsOf, hu]
        rw [run_equalIn_struct w D t C E (by rw [hfo]; exact hu) hst, hfo]
        exact eqFields_sound P G h w d D (fun t ks g cx cy X Y b => equalIn_sound P G h w d D (by omega) t ks g cx cy X Y b) hlx hrx hly hry fs.toList 0 ks b hk (by simpa using hb)
    · cases hk

theorem eqAgg_sound {t : TypeId} {ks : List Kd} {b : Bool} {fs : Array Field} (ht : P.underlying t = some (.struct fs)) (hk : eqStruct P t = some ks) (xo yo : Operand)
    (hb : aeqAgg ks x y = some b) (hx : RelV G h x X) (hy : RelV G h y Y) :
    (do eqGuard .eql t xo yo X Y; binOp .eql t X Y : Sem Value).run P w = .ok (.bool b) w ∧ (do eqGuard .neq t xo yo X Y; binOp .neq t X Y : Sem Value).run P w = .ok (.bool (!b)) w := by
  unfold eqStruct at hk
  split at hk
  · rename_i ks' hks
    cases hm : P.eqGuardType P.depth t with
    | true => simp [hm] at hk
    | false =>
      simp only [hm, cond_false, Option.some.injEq] at hk; subst hk
      unfold aeqAgg at hb
      split at hb
      · obtain ⟨C, rfl, hlx, hrx⟩ := hx.agg_inv
        obtain ⟨E, rfl, hly, hry⟩ := hy.agg_inv
        have he := equalIn_sound P G h w 12 10000 (by omega) t ks' true _ _ (.agg C) (.agg E) b hks (by simp [isAggT, ht]) hb ⟨C, rfl, hlx, hrx⟩ ⟨E, rfl, hly, hry⟩
        constructor
        · simp only [Sem.run_bind, run_eqGuard_agg w .eql t xo yo C E hm, Result.andThen_ok, run_eql_struct, he]
        · simp only [Sem.run_bind, run_eqGuard_agg w .neq t xo yo C E hm, Result.andThen_ok, run_neq_struct, he]
      · cases hb
  · cases hk

end
end Hk
