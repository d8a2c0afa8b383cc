/-
  CODE.
-/
import Derived.Test.YtkeoalhglkfbkaaDoorHkTrunc
import Derived.LoopN
set_option linter.unusedVariables false
set_option linter.unusedSimpArgs false
namespace Hk
open Go Go.RowKit

/-! ### Packed slots -/

theorem unpack_pack_aux (L : Nat) (f : AVal → AVal) : ∀ (ρ pre : List AVal) (i : Nat), (unpackFrom L (pre ++ (packFrom L i ρ).map f) ρ.length i pre.length).length = ρ.length ∧
    ∀ (j : Nat) (v : AVal), (unpackFrom L (pre ++ (packFrom L i ρ).map f) ρ.length i pre.length)[j]? = some v → v = .junk ∨ ∃ u, ρ[j]? = some u ∧ v = f u
  | [], pre, i => by simp [unpackFrom]
  | u :: r, pre, i => by
    cases hb : L.testBit i with
    | true =>
      obtain ⟨h1, h2⟩ := unpack_pack_aux L f r (pre ++ [f u]) (i + 1)
      have e1 : pre ++ (packFrom L i (u :: r)).map f = (pre ++ [f u]) ++ (packFrom L (i + 1) r).map f := by simp [packFrom, hb]
      have e2 : (pre ++ [f u]).length = pre.length + 1 := by simp
      rw [e2] at h1 h2
      have e3 : ((pre ++ [f u]) ++ (packFrom L (i + 1) r).map f).getD pre.length .junk = f u := by simp [List.getD_eq_getElem?_getD]
      rw [e1]
      simp only [List.length_cons, unpackFrom, hb, cond_true, e3]
      refine ⟨by rw [h1], fun j v hv => ?_⟩
      cases j with
      | zero => simp at hv; exact .inr ⟨u, rfl, hv.symm⟩
      | succ j => simpa using h2 j v (by simpa using hv)
    | false =>
      obtain ⟨h1, h2⟩ := unpack_pack_aux L f r pre (i + 1)
      simp only [packFrom, List.length_cons, unpackFrom, hb, cond_false, List.length_cons]
      refine ⟨by rw [h1], fun j v hv => ?_⟩
      cases j with
      | zero => simp at hv; exact .inl hv.symm
      | succ j => simpa using h2 j v (by simpa using hv)

theorem unpackFrom_length (L : Nat) (x : List AVal) : ∀ (n i j : Nat), (unpackFrom L x n i j).length = n
  | 0, _, _ => rfl
  | n + 1, i, j => by unfold unpackFrom; cases L.testBit i <;> simp [unpackFrom_length L x n]
theorem unpack_length (n L : Nat) (x : List AVal) : (unpack n L x).length = n := unpackFrom_length L x n 0 0

theorem unpack_map {n L : Nat} {ρ : List AVal} (f : AVal → AVal) (hn : ρ.length = n) (j : Nat) (v : AVal) (hv : (unpack n L ((pack L ρ).map f))[j]? = some v) : v = .junk ∨ ∃ u, ρ[j]? = some u ∧ v = f u := by
  subst hn
  have := (unpack_pack_aux L f ρ [] 0).2 j v
  simpa [unpack, pack] using this (by simpa [unpack, pack] using hv)

section
variable {cx : Cx} {ρ : List AVal} {h : Heap} {kn : List AVal → Heap → Option R} {ke : Ex → List AVal → Heap → Option R} {r : R} {G : Gh} {w : World} {a : Act} {Q : Exit → Act → World → Prop} {n L : Nat}

theorem Slots.repack {G' : Gh} {h' : Heap} (s : Slots G h ρ a) (hn : ρ.length = n) (f : AVal → AVal) (hf : ∀ v V, RelV G h v V → RelV G' h' (f v) V) : Slots G' h' (unpack n L ((pack L ρ).map f)) a := by
  refine ⟨by rw [unpack_length, ← hn, s.len], fun j v hv => ?_, s.df⟩
  rcases unpack_map f hn j v hv with rfl | ⟨u, hu, rfl⟩
  · exact .p _ _ (.junk _)
  · exact hf u _ (s.rel j u hu)
theorem Slots.pack (s : Slots G h ρ a) (hn : ρ.length = n) : Slots G h (unpack n L (pack L ρ)) a := by
  have := s.repack (L := L) hn id fun _ _ r => r
  simpa using this

theorem ExPost.trans {G' : Gh} {h' : Heap} {w' : World} (p : ExPost n kn ke r G h w Q) (x : Ext G h w G' h' w') : ExPost n kn ke r G' h' w' Q :=
  ⟨fun ρ' h'' G'' w'' a' h1 h2 h3 h4 => p.1 ρ' h'' G'' w'' a' h1 (x.trans h2) h3 h4, fun e ρ' h'' G'' w'' a' h1 h2 h3 h4 => p.2 e ρ' h'' G'' w'' a' h1 (x.trans h2) h3 h4⟩

/-- An end that is packed and read again. -/
theorem ExPost.pack {r0 : R} (hn : r0.1 = .normal → kn (unpack n L r0.2.1) r0.2.2 = some r) (he : ∀ e, r0.1 = e → e ≠ .normal → ke e (unpack n L r0.2.1) r0.2.2 = some r) (p : ExPost n kn ke r G h w Q) :
    ExPost n (packN L) (packE L) r0 G h w Q := by
  refine ⟨fun ρ' h' G' w' a' h1 h2 h3 h4 h5 => ?_, fun e ρ' h' G' w' a' h1 h2 h3 h4 h5 => ?_⟩
  · cases h1
    exact p.1 _ h' G' w' a' (hn rfl) h2 h3 (h4.pack h5) (unpack_length _ _ _)
  · cases h1
    cases e with
    | exit id => exact p.2 (.exit id) _ h' G' w' a' (he _ rfl (by simp)) h2 h3 (h4.pack h5) (unpack_length _ _ _)
    | ret => exact p.2 .ret _ h' G' w' a' (he _ rfl (by simp)) h2 h3 (h4.pack h5) (unpack_length _ _ _)
    | _ => trivial

/-- The ends of a block's code. -/
theorem ExPost.inBlock {id : Nat} (p : ExPost n kn ke r G h w Q) : ExPost n kn (fun e ρ' h' => e.inBlock id (kn ρ' h') fun e => ke e ρ' h') r G h w (Exit.inBlock id Q) := by
  refine ⟨p.1, fun e ρ' h' G' w' a' h1 h2 h3 h4 h5 => ?_⟩
  cases e with
  | exit j =>
    simp only [Ex.inBlock] at h1
    simp only [Exit.inBlock]
    cases hj : j == id with
    | true =>
      rw [hj] at h1
      rw [if_pos (by simpa using hj)]
      exact p.1 ρ' h' G' w' a' h1 h2 h3 h4 h5
    | false =>
      rw [hj] at h1
      rw [if_neg (by simpa using hj)]
      exact p.2 (.exit j) ρ' h' G' w' a' h1 h2 h3 h4 h5
  | ret => exact p.2 .ret ρ' h' G' w' a' h1 h2 h3 h4 h5
  | _ => trivial

/-- What the evaluator of loops owes. -/
def LpOk (lp : (List AVal × Heap → Option R) → List AVal × Heap → Option R) : Prop := ∀ F s r, lp F s = some r → ∃ n, loopN n F s = some r

theorem acond_some {v : AVal} {t e : Option R} (hb : acond v t e = some r) : ∃ b, v = .bool b ∧ (if b then t else e) = some r := by
  unfold acond at hb
  split at hb
  · rename_i b; exact ⟨b, rfl, by cases b <;> exact hb⟩
  · cases hb

theorem evalCode_sound (hm : cx.P.follows .mixedOrders = true) (hX : ExtOk cx.P cx.A) (hK : SoundK cx.P cx.A cx.K) (hlp : LpOk cx.lp) : ∀ (c : Code) (L : Nat) (ρ : List AVal) (h : Heap) (kn : List AVal → Heap → Option R) (ke : Ex → List AVal → Heap → Option R) (r : R) (G : Gh) (w : World) (a : Act) (Q : Exit → Act → World → Prop),
    evalCode cx c L ρ h kn ke = some r → Inv G h w → GlobOk cx.A G.H → Slots G h ρ a → ρ.length = cx.n → ExPost cx.n kn ke r G h w Q → c.wp cx.P Q a w := by
  intro c
  induction c with
  | skip =>
    intro L ρ h kn ke r G w a Q hb i gl s hn hk
    exact wp_skip (hk.1 ρ h G w a hb (Ext.refl G h w) i s hn)
  | region id ops draw =>
    intro L ρ h kn ke r G w a Q hb i gl s hn hk
    exact evalRegion_sound hm hX hK hb i gl s hn hk.1
  | seq x y ihx ihy =>
    intro L ρ h kn ke r G w a Q hb i gl s hn hk
    refine wp_seq (ihx _ ρ h _ _ r G w a _ hb i gl s hn ⟨fun ρ' h' G' w' a' h1 h2 h3 h4 h5 => ?_, fun e ρ' h' G' w' a' h1 h2 h3 h4 h5 => ?_⟩)
    · exact ihy L ρ' h' kn ke r G' w' a' Q h1 h3 (gl.mono h2.hmono) h4 h5 (hk.trans h2)
    · have := hk.2 e ρ' h' G' w' a' h1 h2 h3 h4 h5
      cases e <;> first | exact this | trivial
  | cond c x y ihx ihy =>
    intro L ρ h kn ke r G w a Q hb i gl s hn hk
    have fin : ∀ {v : AVal} {t e : Option R} {r : R} {kn : List AVal → Heap → Option R} {ke : Ex → List AVal → Heap → Option R}, v = aval cx.A ρ c → acond v t e = some r → t = evalCode cx x L ρ h kn ke → e = evalCode cx y L ρ h kn ke → ExPost cx.n kn ke r G h w Q → (Code.cond c x y).wp cx.P Q a w := by
      intro v t e r kn ke hv hc ht he hk
      obtain ⟨b, rfl, hb⟩ := acond_some hc
      have hcv := (hv ▸ s.eval gl c).bool_inv
      subst ht; subst he
      refine wp_cond hcv ?_
      cases b with
      | true => exact ihx L ρ h kn ke r G w a Q hb i gl s hn hk
      | false => exact ihy L ρ h kn ke r G w a Q hb i gl s hn hk
    simp only [evalCode] at hb
    cases hf : falls x && falls y with
    | true =>
      rw [hf] at hb
      simp only [cond_true] at hb
      obtain ⟨r0, hr0, hk0⟩ := Option.bind_eq_some_iff.1 hb
      refine fin rfl hr0 rfl rfl (.pack (fun he => ?_) (fun e he hne => ?_) hk)
      · rw [he] at hk0
        cases hl : leaves [] x || leaves [] y <;> rw [hl] at hk0 <;> exact hk0
      · rw [he] at hk0
        cases hl : leaves [] x || leaves [] y <;> rw [hl] at hk0
        · cases e <;> first | exact absurd rfl hne | cases hk0
        · cases e <;> first | exact absurd rfl hne | exact hk0
    | false =>
      rw [hf] at hb
      exact fin rfl hb rfl rfl hk
  | block id c ih =>
    intro L ρ h kn ke r G w a Q hb i gl s hn hk
    refine wp_block ?_
    simp only [evalCode] at hb
    cases hf : decide (2 ≤ nSites id c + bif falls c then 1 else 0) with
    | true =>
      rw [hf] at hb
      simp only [cond_true] at hb
      obtain ⟨r0, hr0, hk0⟩ := Option.bind_eq_some_iff.1 hb
      refine ih L ρ h _ _ r0 G w a _ hr0 i gl s hn (.pack (fun he => ?_) (fun e he hne => ?_) (hk.inBlock (id := id)))
      · rw [he] at hk0; exact hk0
      · rw [he] at hk0; exact hk0
    | false =>
      rw [hf] at hb
      exact ih L ρ h _ _ r G w a _ hb i gl s hn hk.inBlock
  | loop c ih =>
    intro L ρ h kn ke r G w a Q hb i gl s hn hk
    simp only [evalCode] at hb
    obtain ⟨r0, hr0, hk0⟩ := Option.bind_eq_some_iff.1 hb
    obtain ⟨n, hloop⟩ := hlp _ _ _ hr0
    refine wp_loop_rounds n ?_
    have key : ∀ (n : Nat) (G' : Gh) (h' : Heap) (w' : World) (a' : Act) (x : List AVal), loopN n (fun s => evalCode cx c (L ||| ue cx.full c) (unpack cx.n (L ||| ue cx.full c) s.1) s.2 (endRound h.length (L ||| ue cx.full c) .normal) (endRound h.length (L ||| ue cx.full c))) (x, h') = some r0 → h'.length = h.length →
        Ext G h w G' h' w' → Inv G' h' w' → Slots G' h' (unpack cx.n (L ||| ue cx.full c) x) a' → Code.rounds cx.P c Q n a' w' := by
      intro n
      induction n with
      | zero => intro G' h' w' a' x hl; simp [loopN] at hl
      | succ n ihn =>
        intro G' h' w' a' x hl hlen x1 i1 s1
        simp only [loopN] at hl
        obtain ⟨r1, hr1, hl⟩ := Option.bind_eq_some_iff.1 hl
        rw [rounds_succ]
        have round : ∀ (e : Ex) (ρ' : List AVal) (h'' : Heap) (G2 : Gh) (w2 : World) (a2 : Act), endRound h.length (L ||| ue cx.full c) e ρ' h'' = some r1 → Ext G' h' w' G2 h'' w2 → Inv G2 h'' w2 → Slots G2 h'' ρ' a2 → ρ'.length = cx.n →
            ∃ G3 h3, r1 = (e, (pack (L ||| ue cx.full c) ρ').map (·.san h.length h''), h3) ∧ Inv G3 h3 w2 ∧ Ext G' h' w' G3 h3 w2 ∧ h3.length = h.length ∧ Slots G3 h3 (unpack cx.n (L ||| ue cx.full c) ((pack (L ||| ue cx.full c) ρ').map (·.san h.length h''))) a2 := by
          intro e ρ' h'' G2 w2 a2 e1 e2 e3 e4 e5
          unfold endRound endR at e1
          simp only [Option.map_eq_some_iff] at e1
          obtain ⟨h3, ht, rfl⟩ := e1
          rw [← hlen] at ht
          obtain ⟨G3, i3, x3, hlen3, hrel, _⟩ := trunc_ok e2 e3 ht
          rw [hlen] at hrel
          exact ⟨G3, h3, rfl, i3, x3, hlen3.trans hlen, e4.repack e5 _ hrel⟩
        refine ih _ _ h' _ _ r1 G' w' a' _ hr1 i1 (gl.mono x1.hmono) s1 (unpack_length _ _ _) ⟨fun ρ' h'' G2 w2 a2 e1 e2 e3 e4 e5 => ?_, fun e ρ' h'' G2 w2 a2 e1 e2 e3 e4 e5 => ?_⟩
        · obtain ⟨G3, h3, rfl, i3, x3, hl3, s3⟩ := round _ _ _ _ _ _ e1 e2 e3 e4 e5
          exact ihn G3 h3 w2 a2 _ hl hl3 (x1.trans x3) i3 s3
        · obtain ⟨G3, h3, rfl, i3, x3, hl3, s3⟩ := round _ _ _ _ _ _ e1 e2 e3 e4 e5
          cases e with
          | exit id =>
            simp only [Ex.thenDo, Option.some.injEq] at hl
            subst hl
            exact hk.2 (.exit id) _ h3 G3 w2 a2 hk0 (x1.trans x3) i3 s3 (unpack_length _ _ _)
          | ret =>
            simp only [Ex.thenDo, Option.some.injEq] at hl
            subst hl
            exact hk.2 .ret _ h3 G3 w2 a2 hk0 (x1.trans x3) i3 s3 (unpack_length _ _ _)
          | _ => trivial
    exact key n G h w a _ hloop rfl (Ext.refl G h w) i (s.pack hn)
  | exit id =>
    intro L ρ h kn ke r G w a Q hb i gl s hn hk
    exact wp_exit (hk.2 (.exit id) ρ h G w a hb (Ext.refl G h w) i s hn)
  | ret =>
    intro L ρ h kn ke r G w a Q hb i gl s hn hk
    exact wp_ret (hk.2 .ret ρ h G w a hb (Ext.refl G h w) i s hn)
  | _ => intro L ρ h kn ke r G w a Q hb; simp [evalCode] at hb

/-! ### Results -/

theorem aresult_sound {P : Program} {x : ResultVar} {v : AVal} (hb : aresult P ρ h x = some v) (i : Inv G h w) (s : Slots G h ρ a) :
    ∃ V, (match x with | .tmp t => (pure (a.tmps.getD t undef) : Sem Value) | .cell b t => do loadVar t (← asAddr (a.tmps.getD b undef))).run P w = .ok V w ∧ RelV G h v V := by
  cases x with
  | tmp t => simp only [aresult, Option.some.injEq] at hb; subst hb; exact ⟨_, Sem.run_pure .., s.get t⟩
  | cell b t =>
    simp only [aresult] at hb
    split at hb
    · rename_i g n hg hn
      have hx := s.get b
      obtain ⟨V, h1, h2⟩ := aload_sound (P := P) hg hn i hb hx
      refine ⟨V, ?_, h2⟩
      have : ∃ A, a.tmps.getD b undef = .pointer (some A) := by
        generalize ρ.getD b .junk = x at hb hx
        generalize a.tmps.getD b undef = X at hx
        unfold aload at hb
        split at hb
        · have hp := hx.pptr_inv
          cases hp with | pptr cs b off F => exact ⟨_, rfl⟩
        · obtain ⟨rfl, _⟩ := hx.ptr_inv; exact ⟨_, rfl⟩
        · cases hb
      obtain ⟨A, hA⟩ := this
      rw [hA] at h1
      dsimp only
      rw [hA]
      simpa [Instr.loadAt, Instr.sureAddr, asAddr] using h1
    · cases hb

theorem results_sound {P : Program} {fn : Func} {vs : List AVal} (hb : fn.results.toList.mapM (aresult P ρ h) = some vs) (i : Inv G h w) (s : Slots G h ρ a) :
    ∃ V, (results fn a.tmps).run P w = .ok V w ∧ RelV G h (oneOf vs) V := by
  have key : ∀ (l : List ResultVar) (vs : List AVal), l.mapM (aresult P ρ h) = some vs → ∃ Vs : List Value, (l.mapM (fun x : ResultVar => match x with | .tmp t => (pure (a.tmps.getD t undef) : Sem Value) | .cell b t => do loadVar t (← asAddr (a.tmps.getD b undef)))).run P w = .ok Vs w ∧
      vs.length = Vs.length ∧ ∀ (j : Nat) (v : AVal), vs[j]? = some v → RelV G h v (Vs.getD j undef) := by
    intro l
    induction l with
    | nil => intro vs hv; simp at hv; subst hv; exact ⟨[], by simp [Sem.run_pure], rfl, by simp⟩
    | cons x l ih =>
      intro vs hv
      simp only [List.mapM_cons, Option.bind_eq_bind, Option.bind_eq_some_iff] at hv
      obtain ⟨v, hv1, us, hus, hv⟩ := hv
      simp only [Option.pure_def, Option.some.injEq] at hv; subst hv
      obtain ⟨V, h1, h2⟩ := aresult_sound hv1 i s
      obtain ⟨Vs, h3, h4, h5⟩ := ih us hus
      refine ⟨V :: Vs, ?_, by simp [h4], fun j u hu => ?_⟩
      · simp only [List.mapM_cons, Sem.run_bind, h1, Result.andThen_ok, h3, Sem.run_pure]
      · cases j with
        | zero => simp at hu; subst hu; exact h2
        | succ j => simpa using h5 j u (by simpa using hu)
  obtain ⟨Vs, h1, h2, h3⟩ := key _ _ hb
  have h4 : (fn.results.mapM (fun x : ResultVar => match x with | .tmp t => (pure (a.tmps.getD t undef) : Sem Value) | .cell b t => do loadVar t (← asAddr (a.tmps.getD b undef)))).run P w = .ok Vs.toArray w := by
    rw [Array.mapM_eq_mapM_toList, map_eq_pure_bind]
    simp only [Sem.run_bind, h1, Result.andThen_ok, Sem.run_pure]
  refine ⟨if h : Vs.toArray.size = 1 then Vs.toArray[0] else .tuple Vs.toArray, ?_, ?_⟩
  · have e : results fn a.tmps = (fn.results.mapM (fun x : ResultVar => match x with | .tmp t => (pure (a.tmps.getD t undef) : Sem Value) | .cell b t => do loadVar t (← asAddr (a.tmps.getD b undef)))).bind fun vs => (pure (if h : vs.size = 1 then vs[0] else .tuple vs) : Sem Value) := rfl
    rw [e]
    show (Bind.bind _ _ : Sem Value).run P w = _
    rw [Sem.run_bind, h4, Result.andThen_ok, Sem.run_pure]
  · match vs, Vs, h2, h3 with
    | [v], [V], _, h3 => simpa [oneOf] using h3 0 v rfl
    | [], [], _, _ => exact RelV.undef
    | u :: v :: vs, U :: V :: Vs, h2, h3 =>
      have : oneOf (u :: v :: vs) = .tuple (u :: v :: vs) := rfl
      rw [this]
      simp only [List.size_toArray, List.length_cons, Nat.add_eq_right, Nat.add_one_ne_zero, reduceDIte]
      refine .tuple _ _ (by simpa using h2) fun j x hx => ?_
      have := h3 j x hx
      rw [List.getD_eq_getElem?_getD] at this
      rwa [Array.getD_eq_getD_getElem?, List.getElem?_toArray]
    | [], _ :: _, h2, _ => simp at h2
    | _ :: _, [], h2, _ => simp at h2
    | [_], _ :: _ :: _, h2, _ => simp at h2
    | _ :: _ :: _, [_], h2, _ => simp at h2

end
end Hk
