/-
  THE OPERATIONS THAT TOUCH NO MEMORY: what the abstract one makes is what the model's makes.
-/
import Derived.Test.YtkeoalhglkfbkaaDoorHkBase
set_option linter.unusedVariables false
set_option linter.unusedSimpArgs false
namespace Hk
open Go Go.RowKit

section
variable {P : Program} {G : Gh} {h : Heap} {w : World} {x y v : AVal} {X Y : Value}

theorem eqGuard_pure (op : BinOp) (t : TypeId) (xo yo : Operand) (X Y : Value) (hx : (∀ cs, X ≠ .agg cs) ∧ X ≠ .nilIface) : (eqGuard op t xo yo X Y).run P w = .ok () w := by
  obtain ⟨h1, h2⟩ := hx
  cases op <;> cases X <;> first
    | (exact absurd rfl (h1 _); done)
    | (exact absurd rfl h2; done)
    | (unfold eqGuard; simp [Sem.run_pure]; done)
    | (unfold eqGuard; simp [Sem.run_pure]; split <;> simp_all [Sem.run_pure]; done)

theorem run_sizeOf' {t : TypeId} {n : Nat} (hn : sizeT P t = some n) : (Go.sizeOf t).run P w = .ok n w := by
  unfold sizeT at hn
  cases hu : P.info? t with
  | none => simp [hu] at hn
  | some ti => simp [hu] at hn; simp [Go.sizeOf, Go.typeInfo, hu, hn]
theorem run_isAgg' {t : TypeId} {g : Bool} (hg : isAggT P t = some g) : (isAgg t).run P w = .ok g w := by
  unfold isAggT at hg
  cases hu : P.underlying t with
  | none => simp [hu] at hg
  | some d => cases d <;> simp_all [isAgg, run_underlying, Sem.run_pure]

theorem run_equalIn_bool {t : TypeId} (ht : P.underlying t = some .bool) (d : Nat) (a b : Bool) : (Op.equalIn (d + 1) t (.bool a) (.bool b)).run P w = .ok (a == b) w := by
  simp only [Op.equalIn, Sem.run_bind, run_underlying ht, Result.andThen_ok, Sem.run_pure]

theorem abin_sound {op : BinOp} (t : TypeId) (xo yo : Operand) (hb : abin op x y = some v) (hx : RelV G h x X) (hy : RelV G h y Y) :
    ∃ V, (do eqGuard op t xo yo X Y; binOp op t X Y : Sem Value).run P w = .ok V w ∧ RelV G h v V := by
  unfold abin at hb
  split at hb
  · rename_i k a k' b
    have := hx.int_inv; subst this
    have := hy.int_inv; subst this
    have hg := eqGuard_pure (P := P) (w := w) op t xo yo (.int k a) (.int k' b) (by simp)
    simp only [Sem.run_bind, hg, Result.andThen_ok]
    cases op <;> (try simp only at hb) <;> (try split at hb) <;> (try simp only [Option.some.injEq, reduceCtorEq] at hb)
    all_goals (try subst hb)
    all_goals (try (rename_i hk; simp only [ne_eq, Decidable.not_not] at hk; try subst hk))
    all_goals (try (split at hb))
    all_goals (try (cases hb; done))
    all_goals (try (simp only [Option.some.injEq] at hb; subst hb))
    all_goals refine ⟨_, ?_, .p _ _ (by first | exact .int _ _ | exact .bool _)⟩
    all_goals (try simp_all [binOp, Op.intArith, Op.intCmp, Op.intDiv, Op.intBits, Op.shift, Sem.run_pure])
    all_goals (intro hlt; omega)
  · rename_i a b
    have := hx.str_inv; subst this
    have := hy.str_inv; subst this
    have hg := eqGuard_pure (P := P) (w := w) op t xo yo (.string ⟨a.toArray⟩) (.string ⟨b.toArray⟩) (by simp)
    simp only [Sem.run_bind, hg, Result.andThen_ok]
    cases op <;> simp only [reduceCtorEq] at hb <;> (try split at hb) <;> simp only [Option.some.injEq, reduceCtorEq] at hb
    all_goals subst hb
    · rename_i hl
      refine ⟨.string (⟨a.toArray⟩ ++ ⟨b.toArray⟩), ?_, ?_⟩
      · show (Op.stringOp .add _ _).run P w = _
        refine run_string_add_sum _ _ _ ?_
        show a.toArray.size + b.toArray.size ≤ _
        simp only [List.size_toArray]; omega
      · have : (⟨a.toArray⟩ : ByteArray) ++ ⟨b.toArray⟩ = ⟨(a ++ b).toArray⟩ := by
          apply ByteArray.ext; simp
        rw [this]; exact .p _ _ (.str _)
    all_goals exact ⟨_, by simp [binOp, Op.stringOp, Sem.run_pure], .p _ _ (.bool _)⟩
  · cases hb

theorem abinB_sound {op : BinOp} {t : TypeId} (ht : P.underlying t = some .bool) (xo yo : Operand) (hb : abinB op x y = some v) (hx : RelV G h x X) (hy : RelV G h y Y) :
    ∃ V, (do eqGuard op t xo yo X Y; binOp op t X Y : Sem Value).run P w = .ok V w ∧ RelV G h v V := by
  unfold abinB at hb
  split at hb
  all_goals first | (cases hb; done) | skip
  all_goals
    rename_i a b
    have := hx.bool_inv; subst this
    have := hy.bool_inv; subst this
    simp only [Option.some.injEq] at hb; subst hb
    refine ⟨_, ?_, .p _ _ (.bool _)⟩
    have he := run_equalIn_bool (P := P) (w := w) ht 9999 a b
    simp only [Sem.run_bind, eqGuard_pure (P := P) (w := w) _ t xo yo (.bool a) (.bool b) (by simp), Result.andThen_ok]
    simp only [binOp, Sem.run_bind, Op.equal, Op.maxDepth, he, Result.andThen_ok, Sem.run_pure]

theorem aun_sound {op : UnOp} (hb : aun op x = some v) (hx : RelV G h x X) : ∃ V, (Op.unary op X).run P w = .ok V w ∧ RelV G h v V := by
  unfold aun at hb
  split at hb
  all_goals first | (cases hb; done) | skip
  all_goals simp only [Option.some.injEq] at hb; subst hb
  · have := hx.int_inv; subst this
    exact ⟨_, by simp [Op.unary, Op.intArith, Sem.run_pure], .p _ _ (.int _ _)⟩
  · have := hx.int_inv; subst this
    exact ⟨_, by simp [Op.unary, Op.intBits, Sem.run_pure], .p _ _ (.int _ _)⟩
  · have := hx.bool_inv; subst this
    exact ⟨_, by simp [Op.unary, Sem.run_pure], .p _ _ (.bool _)⟩

theorem aconvInt_sound {s d : TypeId} {k k0 : IntKind} (hs : P.underlying s = some (.int k0)) (hd : P.underlying d = some (.int k)) (hb : aconvInt k x = some v) (hx : RelV G h x X) :
    ∃ V, (convert s d X).run P w = .ok V w ∧ RelV G h v V := by
  unfold aconvInt at hb
  split at hb <;> simp only [Option.some.injEq, reduceCtorEq] at hb
  subst hb
  have := hx.int_inv; subst this
  exact ⟨_, by simp [convert, run_underlying hs, run_underlying hd, Conv.intToInt, Sem.run_pure], .p _ _ (.int _ _)⟩

theorem apick_sound {c a b : AVal} {C A B : Value} (hb : apick c a b = some v) (hc : RelV G h c C) (ha : RelV G h a A) (hbb : RelV G h b B) :
    ∃ V, ((do pure (.value (if ← asBool C then A else B))) : Sem Next).run P w = .ok (.value V) w ∧ RelV G h v V := by
  unfold apick at hb
  split at hb <;> simp only [Option.some.injEq, reduceCtorEq] at hb
  rename_i g
  subst hb
  have := hc.bool_inv; subst this
  refine ⟨bif g then A else B, ?_, by cases g <;> assumption⟩
  cases g <;> simp [asBool, Sem.run_pure]

theorem aextract_sound {i : Nat} (hb : aextract i x = some v) (hx : RelV G h x X) : ∃ V, (Instr.extract X i).run P w = .ok V w ∧ RelV G h v V := by
  unfold aextract at hb
  split at hb
  · obtain ⟨C, rfl, hl, hr⟩ := hx.tuple_inv
    have hlt : i < C.size := by rw [← hl]; exact (List.getElem?_eq_some_iff.1 hb).1
    refine ⟨C.getD i undef, ?_, hr i v hb⟩
    simp [Instr.extract, Array.getElem?_eq_getElem hlt, Sem.run_pure]
  · cases hb

theorem apart_sound {g : Bool} {n off : Nat} {cs : List AVal} {C : Array Value} {t : TypeId} (hg : isAggT P t = some g) (hn : sizeT P t = some n)
    (hb : apart g n cs off = some v) (hl : cs.length = C.size) (hr : ∀ (i : Nat) (u : AVal), cs[i]? = some u → RelV G h u (C.getD i undef)) :
    ∃ V, (part t C off).run P w = .ok V w ∧ RelV G h v V := by
  have hagg := run_isAgg' (w := w) hg
  have hsz := run_sizeOf' (w := w) hn
  unfold apart at hb
  cases g with
  | true =>
    simp only [cond_true] at hb
    split at hb <;> simp only [Option.some.injEq, reduceCtorEq] at hb
    rename_i hle
    subst hb
    refine ⟨.agg (C.extract off (off + n)), ?_, .agg _ _ ?_ ?_⟩
    · simp [part, hagg, hsz]
    · simp; omega
    · intro i u hu
      have hi : i < n := by
        have := (List.getElem?_eq_some_iff.1 hu).1
        simp at this; omega
      rw [List.getElem?_take, if_pos hi, List.getElem?_drop] at hu
      have := hr _ _ hu
      have hsz2 : off + i < C.size := by omega
      rw [Array.getD_eq_getD_getElem?] at this ⊢
      rw [Array.getElem?_extract, if_pos (by omega)]
      exact this
  | false =>
    simp only [cond_false] at hb
    have hlt : off < C.size := by rw [← hl]; exact (List.getElem?_eq_some_iff.1 hb).1
    exact ⟨C.getD off undef, by simp [part, hagg, Array.getElem?_eq_getElem hlt, Sem.run_pure], hr off v hb⟩

end
end Hk
