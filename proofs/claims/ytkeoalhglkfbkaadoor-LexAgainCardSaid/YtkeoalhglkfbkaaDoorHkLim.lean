/-
  THE LIMIT OVER THE FUEL.
-/
import Derived.Test.YtkeoalhglkfbkaaDoorHkFn
set_option linter.unusedVariables false
set_option linter.unusedSimpArgs false
namespace Hk
open Go Go.RowKit

/-- From some number on. -/
def Ev (p : Nat → Prop) : Prop := ∃ N, ∀ n, N ≤ n → p n
theorem Ev.of {p : Nat → Prop} (h : ∀ n, p n) : Ev p := ⟨0, fun n _ => h n⟩
theorem Ev.imp {p q : Nat → Prop} (h : Ev p) (hi : ∀ n, p n → q n) : Ev q := let ⟨N, hN⟩ := h; ⟨N, fun n hn => hi n (hN n hn)⟩
theorem Ev.and {p q : Nat → Prop} (h : Ev p) (h' : Ev q) : Ev fun n => p n ∧ q n :=
  let ⟨N, hN⟩ := h; let ⟨M, hM⟩ := h'; ⟨max N M, fun n hn => ⟨hN n (by omega), hM n (by omega)⟩⟩

/-! ### Loops -/

theorem loopN_mono {F : List AVal × Heap → Option R} : ∀ {n : Nat} {s : List AVal × Heap} {r : R}, loopN n F s = some r → loopN (n + 1) F s = some r
  | 0, s, r, h => by simp [loopN] at h
  | n + 1, s, r, h => by
    rw [loopN] at h ⊢
    obtain ⟨r1, h1, h2⟩ := Option.bind_eq_some_iff.1 h
    rw [h1]
    simp only [Option.bind_some]
    cases he : r1.1 with
    | normal => rw [he] at h2; exact loopN_mono h2
    | _ => rw [he] at h2; exact h2
theorem loopN_mono' {F : List AVal × Heap → Option R} {n m : Nat} {s : List AVal × Heap} {r : R} (hnm : n ≤ m) (h : loopN n F s = some r) : loopN m F s = some r := by
  induction hnm with
  | refl => exact h
  | step _ ih => exact loopN_mono ih

open Classical in
noncomputable def lpW (F : List AVal × Heap → Option R) (s : List AVal × Heap) : Option R :=
  if h : ∃ n r, loopN n F s = some r then some (Classical.choose (Classical.choose_spec h)) else none

theorem lpW_iff {F : List AVal × Heap → Option R} {s : List AVal × Heap} {r : R} : lpW F s = some r ↔ ∃ n, loopN n F s = some r := by
  unfold lpW
  constructor
  · intro h
    split at h
    · rename_i hx
      cases h
      exact ⟨_, Classical.choose_spec (Classical.choose_spec hx)⟩
    · cases h
  · rintro ⟨n, hn⟩
    have hx : ∃ n r, loopN n F s = some r := ⟨n, r, hn⟩
    rw [dif_pos hx]
    have h1 := Classical.choose_spec (Classical.choose_spec hx)
    have h2 := loopN_mono' (Nat.le_max_left _ n) h1
    have h3 := loopN_mono' (Nat.le_max_right (Classical.choose hx) n) hn
    rw [h2] at h3
    exact h3

theorem lpW_ok : LpOk lpW := fun _ _ _ h => lpW_iff.1 h

/-- One round. -/
theorem lpW_step (F : List AVal × Heap → Option R) (s : List AVal × Heap) : lpW F s = (F s).bind fun r => r.1.thenDo (lpW F r.2) fun e => some (e, r.2) := by
  apply Option.ext
  intro r
  rw [lpW_iff]
  constructor
  · rintro ⟨n, hn⟩
    cases n with
    | zero => simp [loopN] at hn
    | succ n =>
      rw [loopN] at hn
      obtain ⟨r1, h1, h2⟩ := Option.bind_eq_some_iff.1 hn
      rw [h1]
      simp only [Option.bind_some]
      cases he : r1.1 with
      | normal => rw [he] at h2; exact lpW_iff.2 ⟨n, h2⟩
      | _ => rw [he] at h2; exact h2
  · intro h
    obtain ⟨r1, h1, h2⟩ := Option.bind_eq_some_iff.1 h
    cases he : r1.1 with
    | normal =>
      rw [he] at h2
      obtain ⟨n, hn⟩ := lpW_iff.1 h2
      exact ⟨n + 1, by rw [loopN, h1]; simp only [Option.bind_some, he]; exact hn⟩
    | _ =>
      rw [he] at h2
      exact ⟨1, by rw [loopN, h1]; simp only [Option.bind_some, he]; exact h2⟩

theorem lpW_lim {F : List AVal × Heap → Option R} {Fn : Nat → List AVal × Heap → Option R} (hF : ∀ s r, F s = some r → Ev fun n => Fn n s = some r) {s : List AVal × Heap} {r : R} (h : lpW F s = some r) :
    Ev fun n => lpW (Fn n) s = some r := by
  obtain ⟨m, hm⟩ := lpW_iff.1 h
  have key : ∀ (m : Nat) (s : List AVal × Heap), loopN m F s = some r → Ev fun n => loopN m (Fn n) s = some r := by
    intro m
    induction m with
    | zero => intro s h; simp [loopN] at h
    | succ m ih =>
      intro s h
      rw [loopN] at h
      obtain ⟨r1, h1, h2⟩ := Option.bind_eq_some_iff.1 h
      cases he : r1.1 with
      | normal =>
        rw [he] at h2
        refine ((hF _ _ h1).and (ih _ h2)).imp fun n hn => ?_
        rw [loopN, hn.1]; simp only [Option.bind_some, he]; exact hn.2
      | _ =>
        rw [he] at h2
        refine (hF _ _ h1).imp fun n hn => ?_
        rw [loopN, hn]; simp only [Option.bind_some, he]; exact h2
  exact (key m s hm).imp fun n hn => lpW_iff.2 ⟨m, hn⟩

/-! ### One operation -/

section
variable {cx : Cx} {o : Oper} {ρ : List AVal} {h : Heap} {kv kp : AVal → Heap → Option R} {r : R} {ids : List Nat} {ops : List Oper}

theorem fin0_lim {kvn kpn : Nat → AVal → Heap → Option R} (hv : ∀ v h r, kv v h = some r → Ev fun n => kvn n v h = some r) (hp : ∀ v h r, kp v h = some r → Ev fun n => kpn n v h = some r) {r0 : R}
    (hb : fin0 kv kp r0 = some r) : Ev fun n => fin0 (kvn n) (kpn n) r0 = some r := by
  obtain ⟨e, l, h⟩ := r0
  cases e with
  | normal =>
    match l with
    | [] => cases hb
    | [v] => exact hv v h r hb
    | _ :: _ :: _ => cases hb
  | pan v => exact hp v h r hb
  | exit _ => cases hb
  | ret => cases hb

def KLim (K : CallO) (Kn : Nat → CallO) : Prop := ∀ f args h r, K f args h = some r → Ev fun n => Kn n f args h = some r

theorem evalOp_K {lp' : LpT} {K' : CallO} {rsv : Option Nat} (hne : ∀ c f, o.op = .call c → c.callee = .value f → False) : evalOp { cx with K := K', lp := lp' } o rsv ρ h kv kp = evalOp cx o rsv ρ h kv kp := by
  unfold evalOp evalOpV
  cases ho : o.op with
  | call c =>
    simp only []
    cases hc : c.callee with
    | value f => exact (hne c f ho hc).elim
    | builtin b => rfl
    | _ => rfl
  | makeFunc b f c => cases b <;> rfl
  | makeMap t r => cases r <;> rfl
  | slice t x lo hi mx => cases mx <;> rfl
  | assign x => cases nilConst x <;> rfl
  | _ => rfl

theorem evalOp_lim {lp' : LpT} {Kn : Nat → CallO} {kvn kpn : Nat → AVal → Heap → Option R} {rsv : Option Nat} (hK : KLim cx.K Kn) (hv : ∀ v h r, kv v h = some r → Ev fun n => kvn n v h = some r)
    (hp : ∀ v h r, kp v h = some r → Ev fun n => kpn n v h = some r) (hb : evalOp cx o rsv ρ h kv kp = some r) : Ev fun n => evalOp { cx with K := Kn n, lp := lp' } o rsv ρ h (kvn n) (kpn n) = some r := by
  rw [evalOp_nat] at hb
  obtain ⟨r0, h1, h2⟩ := Option.bind_eq_some_iff.1 hb
  have key : Ev fun n => evalOp { cx with K := Kn n, lp := lp' } o rsv ρ h kv0 kp0 = some r0 := by
    by_cases hne : ∃ c f, o.op = .call c ∧ c.callee = .value f
    · obtain ⟨c, f, ho, hc⟩ := hne
      simp only [evalOp, evalOpV, ho, hc] at h1 ⊢
      obtain ⟨g, hg, h1⟩ := Option.bind_eq_some_iff.1 h1
      cases hext : cx.A.ext g.1 with
      | some ek =>
        refine Ev.of fun n => ?_
        simp only [hg, Option.bind_some, callE, hext] at h1 ⊢
        exact h1
      | none =>
        simp only [callE, hext] at h1 ⊢
        unfold bindRes at h1 ⊢
        obtain ⟨r1, hk, h1⟩ := Option.bind_eq_some_iff.1 h1
        refine (hK _ _ _ _ hk).imp fun n hn => ?_
        simp only [hg, Option.bind_some, hext, hn]
        exact h1
    · refine Ev.of fun n => ?_
      rw [evalOp_K (fun c f ho hc => hne ⟨c, f, ho, hc⟩)]
      exact h1
  refine (key.and (fin0_lim hv hp h2)).imp fun n hn => ?_
  rw [evalOp_nat, hn.1]
  exact hn.2

theorem evalItem_lim {lp' : LpT} {Kn : Nat → CallO} {kvn kpn : Nat → AVal → Heap → Option R} (hK : KLim cx.K Kn) (hv : ∀ v h r, kv v h = some r → Ev fun n => kvn n v h = some r)
    (hp : ∀ v h r, kp v h = some r → Ev fun n => kpn n v h = some r) (hb : evalItem cx ops o ids ρ h kv kp = some r) : Ev fun n => evalItem { cx with K := Kn n, lp := lp' } ops o ids ρ h (kvn n) (kpn n) = some r := by
  have L : evalLocked cx o ids ρ h kv kp = some r → Ev fun n => evalLocked { cx with K := Kn n, lp := lp' } o ids ρ h (kvn n) (kpn n) = some r :=
    fun hb => evalOp_lim hK (fun v h' r hk => hv v _ r hk) (fun v h' r hk => hp v _ r hk) hb
  simp only [evalItem_eq] at hb ⊢
  unfold evalItemC at hb ⊢
  cases hg : o.guard with
  | none => simp only [hg] at hb ⊢; exact L hb
  | some jw =>
    obtain ⟨j, want⟩ := jw
    simp only [hg] at hb ⊢
    cases hd : (ops[j]?).bind (·.dst) with
    | none => simp only [hd] at hb; cases hb
    | some d =>
      simp only [hd] at hb ⊢
      generalize ρ.getD d .junk = x at hb ⊢
      split at hb
      · rename_i g
        cases want <;> cases g <;> simp only [cond_true, cond_false] at hb ⊢
        · exact L hb
        · exact hv _ _ _ hb
        · exact hv _ _ _ hb
        · exact L hb
      · exact hv _ _ _ hb
      · cases hb

theorem evalItems_lim {lp' : LpT} {Kn : Nat → CallO} {k : List AVal → Heap → Option R} {kn : Nat → List AVal → Heap → Option R} {kpn : Nat → AVal → Heap → Option R} (hK : KLim cx.K Kn)
    (hk : ∀ ρ h r, k ρ h = some r → Ev fun n => kn n ρ h = some r) (hp : ∀ v h r, kp v h = some r → Ev fun n => kpn n v h = some r) : ∀ (items : List Item) (seen ρ : List AVal) (h : Heap) (r : R),
    evalItems cx ops items seen ρ h k kp = some r → Ev fun n => evalItems { cx with K := Kn n, lp := lp' } ops items seen ρ h (kn n) (kpn n) = some r := by
  intro items
  induction items with
  | nil => intro seen ρ h r hb; exact hk _ _ _ hb
  | cons it rest ih =>
    intro seen ρ h r hb
    simp only [evalItems] at hb ⊢
    exact evalItem_lim hK (fun v h' r hb => ih _ _ _ _ hb) hp hb

theorem evalRegion_lim {lp' : LpT} {Kn : Nat → CallO} {k : List AVal → Heap → Option R} {kn : Nat → List AVal → Heap → Option R} {draw : Bool} (hK : KLim cx.K Kn)
    (hk : ∀ ρ h r, k ρ h = some r → Ev fun n => kn n ρ h = some r) (hb : evalRegion cx ops draw ρ h k = some r) : Ev fun n => evalRegion { cx with K := Kn n, lp := lp' } ops draw ρ h (kn n) = some r := by
  unfold evalRegion at hb ⊢
  cases draw with
  | false => exact evalItems_lim hK (fun ρ h r hb => hk _ _ _ hb) (fun v h r hb => by cases hb) _ _ _ _ _ hb
  | true =>
    simp only [] at hb ⊢
    cases hd : drawnItems ops with
    | none => simp only [hd] at hb; cases hb
    | some items =>
      simp only [hd] at hb ⊢
      exact evalItems_lim hK (fun ρ h r hb => hk _ _ _ hb) (fun v h r hb => by cases hb) _ _ _ _ _ hb

end

theorem acond_lim {v : AVal} {t e : Option R} {tn en : Nat → Option R} {r : R} (ht : t = some r → Ev fun n => tn n = some r) (he : e = some r → Ev fun n => en n = some r) (hb : acond v t e = some r) :
    Ev fun n => acond v (tn n) (en n) = some r := by
  unfold acond at hb ⊢
  split at hb
  · rename_i b; cases b
    · exact he hb
    · exact ht hb
  · cases hb

theorem thenDo_lim {e : Ex} {x : Option R} {f : Ex → Option R} {xn : Nat → Option R} {fn : Nat → Ex → Option R} {r : R} (hx : x = some r → Ev fun n => xn n = some r) (hf : ∀ e, f e = some r → Ev fun n => fn n e = some r)
    (hb : e.thenDo x f = some r) : Ev fun n => e.thenDo (xn n) (fn n) = some r := by
  cases e with
  | normal => exact hx hb
  | _ => exact hf _ hb
theorem nrm_lim {e : Ex} {x : Option R} {xn : Nat → Option R} {r : R} (hx : x = some r → Ev fun n => xn n = some r) (hb : e.nrm x = some r) : Ev fun n => e.nrm (xn n) = some r := by
  cases e with
  | normal => exact hx hb
  | _ => cases hb
theorem inBlock_lim {id : Nat} {e : Ex} {x : Option R} {f : Ex → Option R} {xn : Nat → Option R} {fn : Nat → Ex → Option R} {r : R} (hx : x = some r → Ev fun n => xn n = some r) (hf : ∀ e, f e = some r → Ev fun n => fn n e = some r)
    (hb : e.inBlock id x f = some r) : Ev fun n => e.inBlock id (xn n) (fn n) = some r := by
  cases e with
  | normal => exact hx hb
  | exit j =>
    simp only [Ex.inBlock] at hb ⊢
    cases hj : j == id with
    | true => rw [hj] at hb; exact hx hb
    | false => rw [hj] at hb; exact hf _ hb
  | _ => exact hf _ hb

theorem evalCode_lim {cx : Cx} {Kn : Nat → CallO} (hK : KLim cx.K Kn) (hlp : ∀ F s r, cx.lp F s = some r → lpW F s = some r) : ∀ (c : Code) (L : Nat) (ρ : List AVal) (h : Heap) (kn : List AVal → Heap → Option R) (ke : Ex → List AVal → Heap → Option R)
    (knn : Nat → List AVal → Heap → Option R) (ken : Nat → Ex → List AVal → Heap → Option R) (r : R),
    (∀ ρ h r, kn ρ h = some r → Ev fun n => knn n ρ h = some r) → (∀ e ρ h r, ke e ρ h = some r → Ev fun n => ken n e ρ h = some r) → evalCode cx c L ρ h kn ke = some r → Ev fun n => evalCode { cx with K := Kn n, lp := lpW } c L ρ h (knn n) (ken n) = some r := by
  obtain ⟨P, A, K, lp, nt, full⟩ := cx
  dsimp only at hlp
  intro c
  induction c with
  | skip => intro L ρ h kn ke knn ken r hk he hb; exact hk _ _ _ hb
  | region id ops draw => intro L ρ h kn ke knn ken r hk he hb; exact evalRegion_lim hK hk hb
  | seq x y ihx ihy =>
    intro L ρ h kn ke knn ken r hk he hb
    simp only [evalCode] at hb ⊢
    exact ihx _ ρ h _ _ _ _ r (fun ρ h r hb => ihy _ _ _ _ _ _ _ _ hk he hb) he hb
  | cond c x y ihx ihy =>
    intro L ρ h kn ke knn ken r hk he hb
    simp only [evalCode] at hb ⊢
    cases hf : falls x && falls y with
    | true =>
      simp only [hf, cond_true] at hb ⊢
      obtain ⟨r0, h1, h2⟩ := Option.bind_eq_some_iff.1 hb
      have e1 := acond_lim (ihx L ρ h _ _ (fun _ => packN L) (fun _ => packE L) r0 (fun ρ h r hb => Ev.of fun _ => hb) (fun e ρ h r hb => Ev.of fun _ => hb)) (ihy L ρ h _ _ (fun _ => packN L) (fun _ => packE L) r0 (fun ρ h r hb => Ev.of fun _ => hb) (fun e ρ h r hb => Ev.of fun _ => hb)) h1
      have e2 : Ev fun n => (bif leaves [] x || leaves [] y then r0.1.thenDo (knn n (unpack nt L r0.2.1) r0.2.2) fun e => ken n e (unpack nt L r0.2.1) r0.2.2 else r0.1.nrm (knn n (unpack nt L r0.2.1) r0.2.2)) = some r := by
        cases hl : leaves [] x || leaves [] y with
        | true => rw [hl] at h2; exact thenDo_lim (hk _ _ _) (fun e => he e _ _ _) h2
        | false => rw [hl] at h2; exact nrm_lim (hk _ _ _) h2
      refine (e1.and e2).imp fun n hn => ?_
      rw [Option.bind_eq_some_iff]
      exact ⟨r0, hn.1, hn.2⟩
    | false =>
      simp only [hf, cond_false] at hb ⊢
      exact acond_lim (ihx L ρ h _ _ knn ken r hk he) (ihy L ρ h _ _ knn ken r hk he) hb
  | block id c ih =>
    intro L ρ h kn ke knn ken r hk he hb
    simp only [evalCode] at hb ⊢
    cases hf : decide (2 ≤ nSites id c + bif falls c then 1 else 0) with
    | true =>
      simp only [hf, cond_true] at hb ⊢
      obtain ⟨r0, h1, h2⟩ := Option.bind_eq_some_iff.1 hb
      refine ((ih L ρ h _ _ (fun _ => packN L) (fun _ => packE L) r0 (fun ρ h r hb => Ev.of fun _ => hb) (fun e ρ h r hb => Ev.of fun _ => hb) h1).and (inBlock_lim (hk _ _ _) (fun e => he e _ _ _) h2)).imp fun n hn => ?_
      rw [Option.bind_eq_some_iff]
      exact ⟨r0, hn.1, hn.2⟩
    | false =>
      simp only [hf, cond_false] at hb ⊢
      exact ih L ρ h _ _ knn (fun n e ρ' h' => e.inBlock id (knn n ρ' h') fun e => ken n e ρ' h') r hk (fun e ρ' h' r hb => inBlock_lim (hk _ _ _) (fun e => he e _ _ _) hb) hb
  | loop c ih =>
    intro L ρ h kn ke knn ken r hk he hb
    simp only [evalCode] at hb ⊢
    obtain ⟨r0, h1, h2⟩ := Option.bind_eq_some_iff.1 hb
    refine ((lpW_lim (fun s r hb => ih _ _ _ _ _ (fun _ => endRound h.length (L ||| ue full c) .normal) (fun _ => endRound h.length (L ||| ue full c)) _ (fun ρ h r hb => Ev.of fun _ => hb) (fun e ρ h r hb => Ev.of fun _ => hb) hb) (hlp _ _ _ h1)).and
      (thenDo_lim (x := none) (xn := fun _ => none) (fun h => by cases h) (fun e => he e _ _ _) h2)).imp fun n hn => ?_
    rw [Option.bind_eq_some_iff]
    exact ⟨r0, hn.1, hn.2⟩
  | exit id => intro L ρ h kn ke knn ken r hk he hb; exact he _ _ _ _ hb
  | ret => intro L ρ h kn ke knn ken r hk he hb; exact he _ _ _ _ hb
  | _ => intro L ρ h kn ke knn ken r hk he hb; simp [evalCode] at hb

theorem callP_lim {A : Ann} {K : CallO} {Kn : Nat → CallO} (hK : KLim K Kn) : KLim (callP A K) fun n => callP A (Kn n) := by
  intro f args h r hb
  unfold callP at hb ⊢
  cases hp : A.pure f with
  | false => simp only [hp, cond_false] at hb ⊢; exact hK _ _ _ _ hb
  | true =>
    simp only [hp, cond_true] at hb ⊢
    cases hs : args.all (AVal.shut1 0) with
    | false => simp only [hs, cond_false] at hb; cases hb
    | true =>
      simp only [hs, cond_true] at hb ⊢
      obtain ⟨r0, h1, h2⟩ := Option.bind_eq_some_iff.1 hb
      refine (hK _ _ _ _ h1).imp fun n hn => ?_
      rw [Option.bind_eq_some_iff]
      exact ⟨r0, hn, h2⟩

theorem evB_lim {P : Program} {A : Ann} {lp : LpT} {K : CallO} {Kn : Nat → CallO} (hlp : ∀ F s r, lp F s = some r → lpW F s = some r) (hK : KLim K Kn) : KLim (evB P A lp K) fun n => evB P A lpW (Kn n) := by
  intro f args h r hb
  unfold evB at hb ⊢
  cases hf : P.funcs[f]? with
  | none => simp only [hf] at hb; cases hb
  | some fn =>
    simp only [hf] at hb ⊢
    cases hc : fn.body with
    | none => simp only [hc] at hb; cases hb
    | some c =>
      simp only [hc] at hb ⊢
      cases hg : decide (args.length ≤ fn.ntmps) && !(fn.name == "runtime.NumGoroutine") with
      | false => simp only [hg, cond_false] at hb; cases hb
      | true =>
        simp only [hg, cond_true, evalFn] at hb ⊢
        obtain ⟨r0, h1, h2⟩ := Option.bind_eq_some_iff.1 hb
        refine (evalCode_lim (cx := { P, A, K := callP A K, lp, n := fn.ntmps, full := 2 ^ fn.ntmps - 1 }) (callP_lim hK) hlp c _ _ h _ _ (fun _ => packN (resBits fn)) (fun _ => packE (resBits fn)) r0 (fun ρ h r hb => Ev.of fun _ => hb) (fun e ρ h r hb => Ev.of fun _ => hb) h1).imp fun n hn => ?_
        rw [Option.bind_eq_some_iff]
        exact ⟨r0, hn, h2⟩

open Classical in
/-- The program's meaning. -/
noncomputable def evW (P : Program) (A : Ann) : CallO := fun f args h =>
  if hx : ∃ r, Ev fun n => evF P A lpW n f args h = some r then some (Classical.choose hx) else none

theorem evW_iff {P : Program} {A : Ann} {f : Nat} {args : List AVal} {h : Heap} {r : Res × Heap} : evW P A f args h = some r ↔ Ev fun n => evF P A lpW n f args h = some r := by
  unfold evW
  constructor
  · intro hb
    split at hb
    · rename_i hx; cases hb; exact Classical.choose_spec hx
    · cases hb
  · intro hb
    have hx : ∃ r, Ev fun n => evF P A lpW n f args h = some r := ⟨r, hb⟩
    rw [dif_pos hx]
    obtain ⟨N, hN⟩ := (Classical.choose_spec hx).and hb
    obtain ⟨e1, e2⟩ := hN N (Nat.le_refl _)
    rw [e1] at e2
    exact e2

/-- A function runs by its body. -/
theorem evW_of {P : Program} {A : Ann} {f : Nat} {args : List AVal} {h : Heap} {r : Res × Heap} (hb : evB P A lpW (evW P A) f args h = some r) : evW P A f args h = some r := by
  rw [evW_iff]
  obtain ⟨N, hN⟩ := evB_lim (lp := lpW) (Kn := fun n => evF P A lpW n) (fun _ _ _ h => h) (fun f args h r hb => evW_iff.1 hb) f args h r hb
  refine ⟨N + 1, fun n hn => ?_⟩
  cases n with
  | zero => omega
  | succ n => exact hN n (by omega)

/-- A run with so much fuel. -/
theorem evW_run {P : Program} {A : Ann} (m : Nat) : ∀ (n f : Nat) (args : List AVal) (h : Heap) (r : Res × Heap), evF P A (loopN m) n f args h = some r → evW P A f args h = some r := by
  have hlp : ∀ F s r, loopN m F s = some r → lpW F s = some r := fun F s r h => lpW_iff.2 ⟨m, h⟩
  have key : ∀ n, KLim (evF P A (loopN m) n) fun k => evF P A lpW k := by
    intro n
    induction n with
    | zero => intro f args h r hb; cases hb
    | succ n ih =>
      intro f args h r hb
      obtain ⟨N, hN⟩ := evB_lim hlp ih f args h r hb
      refine ⟨N + 1, fun k hk => ?_⟩
      cases k with
      | zero => omega
      | succ k => exact hN k (by omega)
  exact fun n f args h r hb => evW_iff.2 (key n f args h r hb)

theorem evW_sound {P : Program} {A : Ann} (hm : P.follows .mixedOrders = true) (hX : ExtOk P A) : SoundK P A (evW P A) := by
  intro f args h r h' hb
  obtain ⟨N, hN⟩ := evW_iff.1 hb
  exact evF_sound hm hX lpW_ok N f args h r h' (hN N (Nat.le_refl _))

end Hk
