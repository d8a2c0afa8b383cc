/-
  The texts Vk.Lim, Vk.Front, Vk.Simp, Vk.Simp2, Vk.Fns, one behind another. No conditions.
-/
import Derived.Test.YtckbkcjhalimpabGreatDoorVk3
import Derived.OpenShut
import Derived.WideKeyArgs
import Derived.Test.YtckbkcjhalimpabGreatDoorVk1
set_option linter.unusedVariables false
set_option linter.unusedSimpArgs false
set_option linter.all false
namespace Hk
noncomputable section
open Go Go.RowKit

/-- From some number on. -/
def Ev (p : Nat → Prop) : Prop := ∃ N, ∀ n, N ≤ n → p n
theorem Ev.of {p : Nat → Prop} (h : ∀ n, p n) : Ev p := ⟨0, fun n _ => h n⟩
theorem Ev.imp {p q : Nat → Prop} (h : Ev p) (hi : ∀ n, p n → q n) : Ev q := let ⟨N, hN⟩ := h; ⟨N, fun n hn => hi n (hN n hn)⟩
theorem Ev.and {p q : Nat → Prop} (h : Ev p) (h' : Ev q) : Ev fun n => p n ∧ q n :=
  let ⟨N, hN⟩ := h; let ⟨M, hM⟩ := h'; ⟨max N M, fun n hn => ⟨hN n (by omega), hM n (by omega)⟩⟩

/-! ### Loops -/

theorem loopN_mono {F : List AVal × Heap → Option R} : ∀ {n : Nat} {s : List AVal × Heap} {r : R}, loopN n F s = some r → loopN (n + 1) F s = some r
  | 0, s, r, h => by simp [loopN] at h
  | n + 1, s, r, h => by
    rw [loopN] at h ⊢
    obtain ⟨r1, h1, h2⟩ := Option.bind_eq_some_iff.1 h
    rw [h1]
    simp only [Option.bind_some]
    cases he : r1.1 with
    | normal => rw [he] at h2; exact loopN_mono h2
    | _ => rw [he] at h2; exact h2
theorem loopN_mono' {F : List AVal × Heap → Option R} {n m : Nat} {s : List AVal × Heap} {r : R} (hnm : n ≤ m) (h : loopN n F s = some r) : loopN m F s = some r := by
  induction hnm with
  | refl => exact h
  | step _ ih => exact loopN_mono ih

open Classical in
def lpW (F : List AVal × Heap → Option R) (s : List AVal × Heap) : Option R :=
  if h : ∃ n r, loopN n F s = some r then some (Classical.choose (Classical.choose_spec h)) else none

theorem lpW_iff {F : List AVal × Heap → Option R} {s : List AVal × Heap} {r : R} : lpW F s = some r ↔ ∃ n, loopN n F s = some r := by
  unfold lpW
  constructor
  · intro h
    split at h
    · rename_i hx
      cases h
      exact ⟨_, Classical.choose_spec (Classical.choose_spec hx)⟩
    · cases h
  · rintro ⟨n, hn⟩
    have hx : ∃ n r, loopN n F s = some r := ⟨n, r, hn⟩
    rw [dif_pos hx]
    have h1 := Classical.choose_spec (Classical.choose_spec hx)
    have h2 := loopN_mono' (Nat.le_max_left _ n) h1
    have h3 := loopN_mono' (Nat.le_max_right (Classical.choose hx) n) hn
    rw [h2] at h3
    exact h3

theorem lpW_ok : LpOk lpW := fun _ _ _ h => lpW_iff.1 h

/-- One round. -/
theorem lpW_step (F : List AVal × Heap → Option R) (s : List AVal × Heap) : lpW F s = (F s).bind fun r => r.1.thenDo (lpW F r.2) fun e => some (e, r.2) := by
  apply Option.ext
  intro r
  rw [lpW_iff]
  constructor
  · rintro ⟨n, hn⟩
    cases n with
    | zero => simp [loopN] at hn
    | succ n =>
      rw [loopN] at hn
      obtain ⟨r1, h1, h2⟩ := Option.bind_eq_some_iff.1 hn
      rw [h1]
      simp only [Option.bind_some]
      cases he : r1.1 with
      | normal => rw [he] at h2; exact lpW_iff.2 ⟨n, h2⟩
      | _ => rw [he] at h2; exact h2
  · intro h
    obtain ⟨r1, h1, h2⟩ := Option.bind_eq_some_iff.1 h
    cases he : r1.1 with
    | normal =>
      rw [he] at h2
      obtain ⟨n, hn⟩ := lpW_iff.1 h2
      exact ⟨n + 1, by rw [loopN, h1]; simp only [Option.bind_some, he]; exact hn⟩
    | _ =>
      rw [he] at h2
      exact ⟨1, by rw [loopN, h1]; simp only [Option.bind_some, he]; exact h2⟩

theorem lpW_lim {F : List AVal × Heap → Option R} {Fn : Nat → List AVal × Heap → Option R} (hF : ∀ s r, F s = some r → Ev fun n => Fn n s = some r) {s : List AVal × Heap} {r : R} (h : lpW F s = some r) :
    Ev fun n => lpW (Fn n) s = some r := by
  obtain ⟨m, hm⟩ := lpW_iff.1 h
  have key : ∀ (m : Nat) (s : List AVal × Heap), loopN m F s = some r → Ev fun n => loopN m (Fn n) s = some r := by
    intro m
    induction m with
    | zero => intro s h; simp [loopN] at h
    | succ m ih =>
      intro s h
      rw [loopN] at h
      obtain ⟨r1, h1, h2⟩ := Option.bind_eq_some_iff.1 h
      cases he : r1.1 with
      | normal =>
        rw [he] at h2
        refine ((hF _ _ h1).and (ih _ h2)).imp fun n hn => ?_
        rw [loopN, hn.1]; simp only [Option.bind_some, he]; exact hn.2
      | _ =>
        rw [he] at h2
        refine (hF _ _ h1).imp fun n hn => ?_
        rw [loopN, hn]; simp only [Option.bind_some, he]; exact h2
  exact (key m s hm).imp fun n hn => lpW_iff.2 ⟨m, hn⟩

/-! ### One operation -/

section
variable {cx : Cx} {o : Oper} {ρ : List AVal} {h : Heap} {kv kp : AVal → Heap → Option R} {r : R} {ids : List Nat} {ops : List Oper}

theorem fin0_lim {kvn kpn : Nat → AVal → Heap → Option R} (hv : ∀ v h r, kv v h = some r → Ev fun n => kvn n v h = some r) (hp : ∀ v h r, kp v h = some r → Ev fun n => kpn n v h = some r) {r0 : R}
    (hb : fin0 kv kp r0 = some r) : Ev fun n => fin0 (kvn n) (kpn n) r0 = some r := by
  obtain ⟨e, l, h⟩ := r0
  cases e with
  | normal =>
    match l with
    | [] => cases hb
    | [v] => exact hv v h r hb
    | _ :: _ :: _ => cases hb
  | pan v => exact hp v h r hb
  | exit _ => cases hb
  | ret => cases hb

def KLim (K : CallO) (Kn : Nat → CallO) : Prop := ∀ f args h r, K f args h = some r → Ev fun n => Kn n f args h = some r

theorem evalOp_K {lp' : LpT} {K' : CallO} {rsv : Option Nat} (hne : ∀ c f, o.op = .call c → c.callee = .value f → False) (hni : ∀ c f m, o.op = .call c → c.callee = .invoke f m → False) : evalOp { cx with K := K', lp := lp' } o rsv ρ h kv kp = evalOp cx o rsv ρ h kv kp := by
  unfold evalOp evalOpV
  cases ho : o.op with
  | call c =>
    simp only []
    cases hc : c.callee with
    | value f => exact (hne c f ho hc).elim
    | builtin b => rfl
    | invoke f m => exact (hni c f m ho hc).elim
  | makeFunc b f c => cases b <;> rfl
  | makeMap t r => cases r <;> rfl
  | typeAssert x xt t ok => cases ok <;> rfl
  | slice t x lo hi mx => cases mx <;> rfl
  | assign x => cases nilConst x <;> rfl
  | _ => rfl

theorem evalOp_lim {lp' : LpT} {Kn : Nat → CallO} {kvn kpn : Nat → AVal → Heap → Option R} {rsv : Option Nat} (hK : KLim cx.K Kn) (hv : ∀ v h r, kv v h = some r → Ev fun n => kvn n v h = some r)
    (hp : ∀ v h r, kp v h = some r → Ev fun n => kpn n v h = some r) (hb : evalOp cx o rsv ρ h kv kp = some r) : Ev fun n => evalOp { cx with K := Kn n, lp := lp' } o rsv ρ h (kvn n) (kpn n) = some r := by
  rw [evalOp_nat] at hb
  obtain ⟨r0, h1, h2⟩ := Option.bind_eq_some_iff.1 hb
  have key : Ev fun n => evalOp { cx with K := Kn n, lp := lp' } o rsv ρ h kv0 kp0 = some r0 := by
    by_cases hne : ∃ c f, o.op = .call c ∧ c.callee = .value f
    · obtain ⟨c, f, ho, hc⟩ := hne
      simp only [evalOp, evalOpV, ho, hc] at h1 ⊢
      obtain ⟨g, hg, h1⟩ := Option.bind_eq_some_iff.1 h1
      cases hext : cx.A.ext g.1 with
      | some ek =>
        refine Ev.of fun n => ?_
        simp only [hg, Option.bind_some, callE, hext] at h1 ⊢
        exact h1
      | none =>
        simp only [callE, hext] at h1 ⊢
        unfold bindRes at h1 ⊢
        obtain ⟨r1, hk, h1⟩ := Option.bind_eq_some_iff.1 h1
        refine (hK _ _ _ _ hk).imp fun n hn => ?_
        simp only [hg, Option.bind_some, hext, hn]
        exact h1
    · by_cases hni : ∃ c f m, o.op = .call c ∧ c.callee = .invoke f m
      · obtain ⟨c, f, m, ho, hc⟩ := hni
        simp only [evalOp, evalOpV, ho, hc] at h1 ⊢
        obtain ⟨g, hg, h1⟩ := Option.bind_eq_some_iff.1 h1
        cases hext : cx.A.ext g.1 with
        | some ek =>
          refine Ev.of fun n => ?_
          simp only [hg, Option.bind_some, callE, hext] at h1 ⊢
          exact h1
        | none =>
          simp only [callE, hext] at h1 ⊢
          unfold bindRes at h1 ⊢
          obtain ⟨r1, hk, h1⟩ := Option.bind_eq_some_iff.1 h1
          refine (hK _ _ _ _ hk).imp fun n hn => ?_
          simp only [hg, Option.bind_some, hext, hn]
          exact h1
      · refine Ev.of fun n => ?_
        rw [evalOp_K (fun c f ho hc => hne ⟨c, f, ho, hc⟩) (fun c f m ho hc => hni ⟨c, f, m, ho, hc⟩)]
        exact h1
  refine (key.and (fin0_lim hv hp h2)).imp fun n hn => ?_
  rw [evalOp_nat, hn.1]
  exact hn.2

theorem evalLocked_lim {lp' : LpT} {Kn : Nat → CallO} {kvn kpn : Nat → AVal → Heap → Option R} (hK : KLim cx.K Kn) (hv : ∀ v h r, kv v h = some r → Ev fun n => kvn n v h = some r)
    (hp : ∀ v h r, kp v h = some r → Ev fun n => kpn n v h = some r) (hb : evalLocked cx o ids ρ h kv kp = some r) : Ev fun n => evalLocked { cx with K := Kn n, lp := lp' } o ids ρ h (kvn n) (kpn n) = some r := by
  unfold evalLocked at hb ⊢
  cases hc : cx.ck with
  | true =>
    simp only [hc, cond_true] at hb ⊢
    exact evalOp_lim (lp' := lp') hK (fun v h' r hk => by
      obtain ⟨h1, h2⟩ := chk_some.1 hk
      exact (hv v _ r h2).imp fun n hn => chk_some.2 ⟨h1, hn⟩) hp hb
  | false =>
    simp only [hc, cond_false] at hb ⊢
    exact evalOp_lim (lp' := lp') hK (fun v h' r hk => hv v _ r hk) (fun v h' r hk => hp v _ r hk) hb

theorem evalHid_lim {lp' : LpT} {Kn : Nat → CallO} {m : Nat} {kvn : Nat → AVal → Heap → Option R} (hK : KLim cx.K Kn) (hv : ∀ v h r, kv v h = some r → Ev fun n => kvn n v h = some r)
    (hb : evalHid cx o m ids ρ h kv = some r) : Ev fun n => evalHid { cx with K := Kn n, lp := lp' } o m ids ρ h (kvn n) = some r := by
  unfold evalHid at hb ⊢
  cases hs : (h.take m).all (blkShut m) with
  | false => rw [hs] at hb; cases hb
  | true =>
    rw [hs] at hb
    simp only [cond_true] at hb ⊢
    obtain ⟨r0, h1, h2⟩ := Option.bind_eq_some_iff.1 hb
    have e1 : Ev fun n => evalLocked { cx with K := Kn n, lp := lp' } o ids (ρ.map (shutOr m)) (h.take m) kv0 kp0 = some r0 :=
      evalLocked_lim (kvn := fun _ => kv0) (kpn := fun _ => kp0) hK (fun _ _ _ h => Ev.of fun _ => h) (fun _ _ _ h => Ev.of fun _ => h) h1
    have e2 : Ev fun n => hidK m h (kvn n) r0 = some r := by
      unfold hidK at h2 ⊢
      split at h2
      · rename_i v t
        cases hl : t.length == m with
        | false => rw [hl] at h2; cases h2
        | true => rw [hl] at h2; exact hv _ _ _ h2
      · cases h2
    refine (e1.and e2).imp fun n hn => ?_
    rw [hn.1]
    exact hn.2

theorem evalItem_lim {lp' : LpT} {Kn : Nat → CallO} {kvn kpn : Nat → AVal → Heap → Option R} (hK : KLim cx.K Kn) (hv : ∀ v h r, kv v h = some r → Ev fun n => kvn n v h = some r)
    (hp : ∀ v h r, kp v h = some r → Ev fun n => kpn n v h = some r) (hb : evalItem cx ops o ids ρ h kv kp = some r) : Ev fun n => evalItem { cx with K := Kn n, lp := lp' } ops o ids ρ h (kvn n) (kpn n) = some r := by
  have L : evalLocked cx o ids ρ h kv kp = some r → Ev fun n => evalLocked { cx with K := Kn n, lp := lp' } o ids ρ h (kvn n) (kpn n) = some r :=
    fun hb => evalLocked_lim hK hv hp hb
  simp only [evalItem_eq] at hb ⊢
  unfold evalItemC at hb ⊢
  cases hg : o.guard with
  | none => simp only [hg] at hb ⊢; exact L hb
  | some jw =>
    obtain ⟨j, want⟩ := jw
    simp only [hg] at hb ⊢
    cases hd : (ops[j]?).bind (·.dst) with
    | none => simp only [hd] at hb; cases hb
    | some d =>
      simp only [hd] at hb ⊢
      generalize ρ.getD d .junk = x at hb ⊢
      split at hb
      · rename_i g
        cases want <;> cases g <;> simp only [cond_true, cond_false] at hb ⊢
        · exact L hb
        · exact hv _ _ _ hb
        · exact hv _ _ _ hb
        · exact L hb
      · exact hv _ _ _ hb
      · cases hb

theorem evalItemF_lim {lp' : LpT} {Kn : Nat → CallO} {m : Nat} {it : Item} {kvn kpn : Nat → AVal → Heap → Option R} (hK : KLim cx.K Kn) (hv : ∀ v h r, kv v h = some r → Ev fun n => kvn n v h = some r)
    (hp : ∀ v h r, kp v h = some r → Ev fun n => kpn n v h = some r) (hb : evalItemF cx ops m it ids ρ h kv kp = some r) : Ev fun n => evalItemF { cx with K := Kn n, lp := lp' } ops m it ids ρ h (kvn n) (kpn n) = some r := by
  unfold evalItemF at hb ⊢
  cases hr : it.rsv with
  | some j =>
    simp only [hr] at hb ⊢
    cases hf : isFloatOp it.o with
    | false => rw [hf] at hb; cases hb
    | true =>
      rw [hf] at hb
      exact evalOp_lim (kpn := fun _ _ _ => none) hK hv (fun _ _ _ h => by cases h) hb
  | none =>
    simp only [hr] at hb ⊢
    cases hh : it.hid with
    | true =>
      simp only [hh, cond_true] at hb ⊢
      cases hf : isCallOp it.o with
      | false => rw [hf] at hb; cases hb
      | true =>
        rw [hf] at hb
        exact evalHid_lim hK hv hb
    | false =>
      simp only [hh, cond_false] at hb ⊢
      exact evalItem_lim hK hv hp hb

theorem evalItems_lim {lp' : LpT} {m : Nat} {Kn : Nat → CallO} {k : List AVal → Heap → Option R} {kn : Nat → List AVal → Heap → Option R} {kpn : Nat → AVal → Heap → Option R} (hK : KLim cx.K Kn)
    (hk : ∀ ρ h r, k ρ h = some r → Ev fun n => kn n ρ h = some r) (hp : ∀ v h r, kp v h = some r → Ev fun n => kpn n v h = some r) : ∀ (items : List Item) (seen ρ : List AVal) (h : Heap) (r : R),
    evalItems cx ops m items seen ρ h k kp = some r → Ev fun n => evalItems { cx with K := Kn n, lp := lp' } ops m items seen ρ h (kn n) (kpn n) = some r := by
  intro items
  induction items with
  | nil => intro seen ρ h r hb; exact hk _ _ _ hb
  | cons it rest ih =>
    intro seen ρ h r hb
    simp only [evalItems, forceL_eq] at hb ⊢
    exact evalItemF_lim hK (fun v h' r hb => ih _ _ _ _ hb) hp hb

theorem evalRegion_lim {lp' : LpT} {Kn : Nat → CallO} {k : List AVal → Heap → Option R} {kn : Nat → List AVal → Heap → Option R} {kp : AVal → Heap → Option R} {kpn : Nat → AVal → Heap → Option R} {draw : Bool} (hK : KLim cx.K Kn)
    (hk : ∀ ρ h r, k ρ h = some r → Ev fun n => kn n ρ h = some r) (hkp : ∀ v h r, kp v h = some r → Ev fun n => kpn n v h = some r) (hb : evalRegion cx ops draw ρ h k kp = some r) : Ev fun n => evalRegion { cx with K := Kn n, lp := lp' } ops draw ρ h (kn n) (kpn n) = some r := by
  unfold evalRegion at hb ⊢
  cases draw with
  | false => exact evalItems_lim hK (fun ρ h r hb => hk _ _ _ hb) (fun v h r hb => hkp _ _ _ hb) _ _ _ _ _ hb
  | true =>
    simp only [] at hb ⊢
    cases hd : drawnItems ops with
    | none => simp only [hd] at hb; cases hb
    | some items =>
      simp only [hd] at hb ⊢
      exact evalItems_lim (cx := { cx with rb := false }) hK (fun ρ h r hb => hk _ _ _ hb) (fun v h r hb => hkp _ _ _ hb) _ _ _ _ _ hb

end

theorem acond_lim {v : AVal} {t e : Option R} {tn en : Nat → Option R} {r : R} (ht : t = some r → Ev fun n => tn n = some r) (he : e = some r → Ev fun n => en n = some r) (hb : acond v t e = some r) :
    Ev fun n => acond v (tn n) (en n) = some r := by
  unfold acond at hb ⊢
  split at hb
  · rename_i b; cases b
    · exact he hb
    · exact ht hb
  · cases hb

theorem thenDo_lim {e : Ex} {x : Option R} {f : Ex → Option R} {xn : Nat → Option R} {fn : Nat → Ex → Option R} {r : R} (hx : x = some r → Ev fun n => xn n = some r) (hf : ∀ e, f e = some r → Ev fun n => fn n e = some r)
    (hb : e.thenDo x f = some r) : Ev fun n => e.thenDo (xn n) (fn n) = some r := by
  cases e with
  | normal => exact hx hb
  | _ => exact hf _ hb
theorem nrm_lim {e : Ex} {x : Option R} {xn : Nat → Option R} {r : R} (hx : x = some r → Ev fun n => xn n = some r) (hb : e.nrm x = some r) : Ev fun n => e.nrm (xn n) = some r := by
  cases e with
  | normal => exact hx hb
  | _ => cases hb
theorem inBlock_lim {id : Nat} {e : Ex} {x : Option R} {f : Ex → Option R} {xn : Nat → Option R} {fn : Nat → Ex → Option R} {r : R} (hx : x = some r → Ev fun n => xn n = some r) (hf : ∀ e, f e = some r → Ev fun n => fn n e = some r)
    (hb : e.inBlock id x f = some r) : Ev fun n => e.inBlock id (xn n) (fn n) = some r := by
  cases e with
  | normal => exact hx hb
  | exit j =>
    simp only [Ex.inBlock] at hb ⊢
    cases hj : j == id with
    | true => rw [hj] at hb; exact hx hb
    | false => rw [hj] at hb; exact hf _ hb
  | _ => exact hf _ hb

theorem evalCode_lim {cx : Cx} {Kn : Nat → CallO} (hK : KLim cx.K Kn) (hlp : ∀ F s r, cx.lp F s = some r → lpW F s = some r) : ∀ (c : Code) (L : Nat) (ρ : List AVal) (h : Heap) (kn : List AVal → Heap → Option R) (ke : Ex → List AVal → Heap → Option R)
    (knn : Nat → List AVal → Heap → Option R) (ken : Nat → Ex → List AVal → Heap → Option R) (r : R),
    (∀ ρ h r, kn ρ h = some r → Ev fun n => knn n ρ h = some r) → (∀ e ρ h r, ke e ρ h = some r → Ev fun n => ken n e ρ h = some r) → evalCode cx c L ρ h kn ke = some r → Ev fun n => evalCode { cx with K := Kn n, lp := lpW } c L ρ h (knn n) (ken n) = some r := by
  obtain ⟨P, A, K, lp, nt, full, pan, vec, frz, vlit, vmk, jt, lkp, rb, frl, tb⟩ := cx
  dsimp only at hlp
  intro c
  induction c with
  | skip => intro L ρ h kn ke knn ken r hk he hb; exact hk _ _ _ hb
  | region id ops draw => intro L ρ h kn ke knn ken r hk he hb; exact evalRegion_lim hK hk (kpn := fun n => panK pan (ken n) ρ) (fun v h r hb => by cases pan <;> first | exact he _ _ _ _ hb | cases hb) hb
  | seq x y ihx ihy =>
    intro L ρ h kn ke knn ken r hk he hb
    simp only [evalCode] at hb ⊢
    exact ihx _ ρ h _ _ _ _ r (fun ρ h r hb => ihy _ _ _ _ _ _ _ _ hk he hb) he hb
  | cond c x y ihx ihy =>
    intro L ρ h kn ke knn ken r hk he hb
    simp only [evalCode] at hb ⊢
    cases hf : falls x && falls y with
    | true =>
      simp only [hf, cond_true] at hb ⊢
      obtain ⟨r0, h1, h2⟩ := Option.bind_eq_some_iff.1 hb
      have e1 := acond_lim (ihx L ρ h _ _ (fun _ => endJ jt h.length L .normal) (fun _ => endJ jt h.length L) r0 (fun ρ h r hb => Ev.of fun _ => hb) (fun e ρ h r hb => Ev.of fun _ => hb)) (ihy L ρ h _ _ (fun _ => endJ jt h.length L .normal) (fun _ => endJ jt h.length L) r0 (fun ρ h r hb => Ev.of fun _ => hb) (fun e ρ h r hb => Ev.of fun _ => hb)) h1
      have e2 : Ev fun n => (bif pan || (leaves [] x || leaves [] y) then r0.1.thenDo (knn n (unpack nt L r0.2.1) r0.2.2) fun e => ken n e (unpack nt L r0.2.1) r0.2.2 else r0.1.nrm (knn n (unpack nt L r0.2.1) r0.2.2)) = some r := by
        cases hl : pan || (leaves [] x || leaves [] y) with
        | true => rw [hl] at h2; exact thenDo_lim (hk _ _ _) (fun e => he e _ _ _) h2
        | false => rw [hl] at h2; exact nrm_lim (hk _ _ _) h2
      refine (e1.and e2).imp fun n hn => ?_
      rw [Option.bind_eq_some_iff]
      exact ⟨r0, hn.1, hn.2⟩
    | false =>
      simp only [hf, cond_false] at hb ⊢
      exact acond_lim (ihx L ρ h _ _ knn ken r hk he) (ihy L ρ h _ _ knn ken r hk he) hb
  | block id c ih =>
    intro L ρ h kn ke knn ken r hk he hb
    simp only [evalCode] at hb ⊢
    cases hf : decide (2 ≤ nSites id c + bif falls c then 1 else 0) with
    | true =>
      simp only [hf, cond_true] at hb ⊢
      obtain ⟨r0, h1, h2⟩ := Option.bind_eq_some_iff.1 hb
      refine ((ih L ρ h _ _ (fun _ => endJ jt h.length L .normal) (fun _ => endJ jt h.length L) r0 (fun ρ h r hb => Ev.of fun _ => hb) (fun e ρ h r hb => Ev.of fun _ => hb) h1).and (inBlock_lim (hk _ _ _) (fun e => he e _ _ _) h2)).imp fun n hn => ?_
      rw [Option.bind_eq_some_iff]
      exact ⟨r0, hn.1, hn.2⟩
    | false =>
      simp only [hf, cond_false] at hb ⊢
      exact ih L ρ h _ _ knn (fun n e ρ' h' => e.inBlock id (knn n ρ' h') fun e => ken n e ρ' h') r hk (fun e ρ' h' r hb => inBlock_lim (hk _ _ _) (fun e => he e _ _ _) hb) hb
  | loop c ih =>
    intro L ρ h kn ke knn ken r hk he hb
    simp only [evalCode] at hb ⊢
    obtain ⟨r0, h1, h2⟩ := Option.bind_eq_some_iff.1 hb
    refine ((lpW_lim (fun s r hb => ih _ _ _ _ _ (fun _ => endLp lkp h.length (L ||| ue full c) .normal) (fun _ => endLp lkp h.length (L ||| ue full c)) _ (fun ρ h r hb => Ev.of fun _ => hb) (fun e ρ h r hb => Ev.of fun _ => hb) hb) (hlp _ _ _ h1)).and
      (thenDo_lim (x := none) (xn := fun _ => none) (fun h => by cases h) (fun e => he e _ _ _) h2)).imp fun n hn => ?_
    rw [Option.bind_eq_some_iff]
    exact ⟨r0, hn.1, hn.2⟩
  | scope c ih => intro L ρ h kn ke knn ken r hk he hb; exact ih L ρ h kn ke knn ken r hk he hb
  | label l => intro L ρ h kn ke knn ken r hk he hb; exact hk _ _ _ hb
  | exit id => intro L ρ h kn ke knn ken r hk he hb; exact he _ _ _ _ hb
  | ret => intro L ρ h kn ke knn ken r hk he hb; exact he _ _ _ _ hb
  | _ => intro L ρ h kn ke knn ken r hk he hb; simp [evalCode] at hb

theorem evalRec_lim {cx : Cx} {Kn : Nat → CallO} (hK : KLim cx.K Kn) (hlp : ∀ F s r, cx.lp F s = some r → lpW F s = some r) {g : Nat} {caps : List AVal} {pv : Option AVal} {h h' : Heap} (hb : evalRec cx g caps pv h = some h') :
    Ev fun n => evalRec { cx with K := Kn n, lp := lpW } g caps pv h = some h' := by
  unfold evalRec at hb ⊢
  cases hf : cx.P.funcs[g]? with
  | none => rw [hf] at hb; cases hb
  | some fn =>
    simp only [hf] at hb ⊢
    split at hb
    · rename_i id ops c hbody
      split at hb
      · rename_i o os hops
        cases hc : (isRecover o && decide (caps.length ≤ fn.ntmps) && fn.results.isEmpty && !(fn.name == "runtime.NumGoroutine")) with
        | false => rw [hc] at hb; cases hb
        | true =>
          rw [hc] at hb
          simp only [cond_true] at hb ⊢
          obtain ⟨r0, h1, h2⟩ := Option.bind_eq_some_iff.1 hb
          have e1 := evalItems_lim (cx := { cx with n := fn.ntmps, full := 2 ^ fn.ntmps - 1, pan := false }) (lp' := lpW) (ops := ops.toList) (kp := fun _ _ => none) (kpn := fun _ _ _ => none)
            (kn := fun n ρ' h' => evalCode { cx with K := Kn n, lp := lpW, n := fn.ntmps, full := 2 ^ fn.ntmps - 1, pan := false } c 0 ρ' h' (packN 0) (packE 0)) hK
            (fun ρ h r hb => evalCode_lim (cx := { cx with n := fn.ntmps, full := 2 ^ fn.ntmps - 1, pan := false }) hK hlp c 0 ρ h _ _ (fun _ => packN 0) (fun _ => packE 0) r (fun ρ h r hb => Ev.of fun _ => hb) (fun e ρ h r hb => Ev.of fun _ => hb) hb)
            (fun _ _ _ h => by cases h) _ _ _ _ _ h1
          refine e1.imp fun n hn => ?_
          rw [Option.bind_eq_some_iff]
          exact ⟨r0, hn, h2⟩
      · cases hb
    · cases hb

theorem evalRest_lim {cx : Cx} {Kn : Nat → CallO} (hK : KLim cx.K Kn) (hlp : ∀ F s r, cx.lp F s = some r → lpW F s = some r) {b : Code} {L : Nat} {fv : AVal} {ρ : List AVal} {h : Heap} {r : R} (hb : evalRest cx b L fv ρ h = some r) :
    Ev fun n => evalRest { cx with K := Kn n, lp := lpW } b L fv ρ h = some r := by
  unfold evalRest at hb ⊢
  cases hok : okDst L b with
  | false => rw [hok] at hb; cases hb
  | true =>
    rw [hok] at hb
    simp only [cond_true] at hb ⊢
    obtain ⟨g, hg, hb⟩ := Option.bind_eq_some_iff.1 hb
    simp only [hg, Option.bind_some]
    obtain ⟨r0, h1, h2⟩ := Option.bind_eq_some_iff.1 hb
    have e1 := evalCode_lim (cx := { cx with pan := true }) hK hlp b L ρ h _ _ (fun _ => packN L) (fun _ => packE L) r0 (fun ρ h r hb => Ev.of fun _ => hb) (fun e ρ h r hb => Ev.of fun _ => hb) h1
    have e2 : Ev fun n => r0.1.endD ((evalRec { cx with K := Kn n, lp := lpW } g.1 (g.2.1 ++ g.2.2) none r0.2.2).map fun h2 => ((.ret, r0.2.1, h2) : R)) (fun v => (evalRec { cx with K := Kn n, lp := lpW } g.1 (g.2.1 ++ g.2.2) (some v) r0.2.2).map fun h2 => ((.ret, pack L ρ, h2) : R)) = some r := by
      have key : ∀ {pv : Option AVal} {pk : List AVal}, ((evalRec cx g.1 (g.2.1 ++ g.2.2) pv r0.2.2).map fun h2 => ((.ret, pk, h2) : R)) = some r → Ev fun n => ((evalRec { cx with K := Kn n, lp := lpW } g.1 (g.2.1 ++ g.2.2) pv r0.2.2).map fun h2 => ((.ret, pk, h2) : R)) = some r := by
        intro pv pk hx
        obtain ⟨h3, e3, e4⟩ := Option.map_eq_some_iff.1 hx
        exact (evalRec_lim hK hlp e3).imp fun n hn => by rw [hn]; exact congrArg some e4
      cases he : r0.1 with
      | normal => rw [he] at h2; exact key h2
      | ret => rw [he] at h2; exact key h2
      | exit id => rw [he] at h2; cases h2
      | pan v => rw [he] at h2; exact key h2
    refine (e1.and e2).imp fun n hn => ?_
    rw [Option.bind_eq_some_iff]
    exact ⟨r0, hn.1, hn.2⟩

theorem evalPre_lim {cx : Cx} {Kn : Nat → CallO} (hK : KLim cx.K Kn) (hlp : ∀ F s r, cx.lp F s = some r → lpW F s = some r) : ∀ (c : Code) (L : Nat) (ρ : List AVal) (h : Heap) (r : R), evalPre cx c L ρ h = some r →
    Ev fun n => evalPre { cx with K := Kn n, lp := lpW } c L ρ h = some r := by
  intro c
  induction c with
  | seq x y ihx ihy =>
    intro L ρ h r hb
    have piece : evalCode cx x (L ||| ue cx.full y) ρ h (fun ρ' h' => evalPre cx y L ρ' h') (packD L) = some r →
        Ev fun n => evalCode { cx with K := Kn n, lp := lpW } x (L ||| ue cx.full y) ρ h (fun ρ' h' => evalPre { cx with K := Kn n, lp := lpW } y L ρ' h') (packD L) = some r := fun hb =>
      evalCode_lim hK hlp x _ ρ h _ _ (fun n ρ' h' => evalPre { cx with K := Kn n, lp := lpW } y L ρ' h') (fun _ => packD L) r (fun ρ h r hb => ihy L ρ h r hb) (fun e ρ h r hb => Ev.of fun _ => hb) hb
    cases x with
    | region id ops draw =>
      cases draw with
      | true => simp only [evalPre] at hb ⊢; exact piece hb
      | false =>
        simp only [evalPre] at hb ⊢
        cases hl : lastDefer ops.toList with
        | none => simp only [hl] at hb ⊢; exact piece hb
        | some f =>
          simp only [hl] at hb ⊢
          exact evalItems_lim (lp' := lpW) (kpn := fun _ _ _ => none) (kn := fun n ρ' h' => evalRest { cx with K := Kn n, lp := lpW } y L (aval cx.A ρ' f) ρ' h') hK (fun ρ h r hb => evalRest_lim hK hlp hb) (fun _ _ _ h => by cases h) _ _ _ _ _ hb
    | _ => simp only [evalPre] at hb ⊢; exact piece hb
  | _ => intro L ρ h r hb; simp [evalPre] at hb

theorem evalBody_lim {cx : Cx} {Kn : Nat → CallO} (hK : KLim cx.K Kn) (hlp : ∀ F s r, cx.lp F s = some r → lpW F s = some r) {d : Bool} {c : Code} {L : Nat} {ρ : List AVal} {h : Heap} {r : R} (hb : evalBody cx d c L ρ h = some r) :
    Ev fun n => evalBody { cx with K := Kn n, lp := lpW } d c L ρ h = some r := by
  cases d with
  | true => exact evalPre_lim (cx := { cx with pan := false }) hK hlp c L ρ h r hb
  | false => exact evalCode_lim hK hlp c L ρ h _ _ (fun _ => packN L) (fun _ => packE L) r (fun ρ h r hb => Ev.of fun _ => hb) (fun e ρ h r hb => Ev.of fun _ => hb) hb

theorem rfL_lim {cap : List AVal} {h0 : Heap} {F : List AVal → Heap → Option R} {Fn : Nat → List AVal → Heap → Option R} (hF : ∀ e h s, F e h = some s → Ev fun n => Fn n e h = some s) : ∀ (es : List (List AVal)) (h : Heap) (s : R), rfL cap h0 F es h = some s → Ev fun n => rfL cap h0 (Fn n) es h = some s
  | [], h, s, hb => Ev.of fun _ => hb
  | e :: es, h, s, hb => by
    simp only [rfL] at hb ⊢
    obtain ⟨s1, h1, h2⟩ := Option.bind_eq_some_iff.1 hb
    have e2 : Ev fun n => (s1.1.thenDo (onIf (∀ p ∈ cap, aload false 1 s1.2.2 p = aload false 1 h0 p) (rfL cap h0 (Fn n) es s1.2.2)) fun ex => some (ex, ([] : List AVal), s1.2.2)) = some s :=
      thenDo_lim (xn := fun n => onIf (∀ p ∈ cap, aload false 1 s1.2.2 p = aload false 1 h0 p) (rfL cap h0 (Fn n) es s1.2.2)) (fun hr => by
        obtain ⟨hc, hr⟩ := onIf_some.1 hr
        exact (rfL_lim hF es _ _ hr).imp fun n hn => onIf_some.2 ⟨hc, hn⟩) (fun ex hr => Ev.of fun _ => hr) h2
    refine ((hF _ _ _ h1).and e2).imp fun n hn => ?_
    rw [Option.bind_eq_some_iff]
    exact ⟨s1, hn.1, hn.2⟩
theorem evalRg_lim {cx : Cx} {Kn : Nat → CallO} (hK : KLim cx.K Kn) (hlp : ∀ F s r, cx.lp F s = some r → lpW F s = some r) : ∀ (c : Code) (L : Nat) (ρ : List AVal) (h : Heap) (kn : List AVal → Heap → Option R) (ke : Ex → List AVal → Heap → Option R)
    (knn : Nat → List AVal → Heap → Option R) (ken : Nat → Ex → List AVal → Heap → Option R) (r : R),
    (∀ ρ h r, kn ρ h = some r → Ev fun n => knn n ρ h = some r) → (∀ e ρ h r, ke e ρ h = some r → Ev fun n => ken n e ρ h = some r) → evalRg cx c L ρ h kn ke = some r → Ev fun n => evalRg { cx with K := Kn n, lp := lpW } c L ρ h (knn n) (ken n) = some r := by
  intro c
  induction c with
  | rangeFunc g ps ca cb =>
    intro L ρ h kn ke knn ken r hk he hb
    simp only [evalRg] at hb ⊢
    cases hp : plainRd ca && plainRd cb with
    | false => rw [hp] at hb; cases hb
    | true =>
      simp only [hp, cond_true] at hb ⊢
      obtain ⟨x, hx, hb⟩ := Option.bind_eq_some_iff.1 hb
      obtain ⟨s0, h1, h2⟩ := Option.bind_eq_some_iff.1 hb
      simp only [hx, Option.bind_some]
      refine ((rfL_lim (Fn := fun n => evalRd { cx with K := Kn n, lp := lpW } ps.toList ca cb ρ h.length) (fun e h' s hs => ?_) _ _ _ h1).and (thenDo_lim (hk _ _ _) (fun e => he e _ _ _) h2)).imp fun n hn => ?_
      · exact evalCode_lim hK hlp ca _ _ h' _ _ (fun n ρ' h' => evalCode { cx with K := Kn n, lp := lpW } cb 0 ρ' h' (endRd h.length) (endOut h.length)) (fun _ _ _ _ => none) s
          (fun ρ1 h1 r1 hr => evalCode_lim hK hlp cb 0 ρ1 h1 _ _ (fun _ => endRd h.length) (fun _ => endOut h.length) r1 (fun _ _ _ hb => Ev.of fun _ => hb) (fun _ _ _ _ hb => Ev.of fun _ => hb) hr) (fun _ _ _ _ hr => by cases hr) hs
      · rw [Option.bind_eq_some_iff]
        exact ⟨s0, hn.1, hn.2⟩
  | seq x y ihx ihy =>
    intro L ρ h kn ke knn ken r hk he hb
    exact ihx _ ρ h _ _ (fun n ρ' h' => evalRg { cx with K := Kn n, lp := lpW } y L ρ' h' (knn n) (ken n)) _ r (fun ρ h r hb => ihy _ _ _ _ _ _ _ _ hk he hb) he hb
  | block id c ih =>
    intro L ρ h kn ke knn ken r hk he hb
    exact ih L ρ h _ _ knn (fun n e ρ' h' => e.inBlock id (knn n ρ' h') fun e => ken n e ρ' h') r hk (fun e ρ' h' r hb => inBlock_lim (hk _ _ _) (fun e => he e _ _ _) hb) hb
  | _ => exact fun L ρ h kn ke knn ken r hk he hb => evalCode_lim hK hlp _ L ρ h kn ke knn ken r hk he hb

theorem callP_lim {A : Ann} {K : CallO} {Kn : Nat → CallO} (hK : KLim K Kn) : KLim (callP A K) fun n => callP A (Kn n) := by
  intro f args h r hb
  unfold callP at hb ⊢
  cases hp : A.pure f with
  | false =>
    simp only [hp, cond_false] at hb ⊢
    cases hsb : A.sub f with
    | false => simp only [hsb, cond_false] at hb ⊢; exact hK _ _ _ _ hb
    | true =>
      simp only [hsb, cond_true] at hb ⊢
      unfold subC subI at hb ⊢
      cases ho : subOk (reach h args) args h with
      | false => simp only [ho, cond_false] at hb; cases hb
      | true =>
        simp only [ho, cond_true] at hb ⊢
        obtain ⟨r0, h1, h2⟩ := Option.bind_eq_some_iff.1 hb
        refine (hK _ _ _ _ h1).imp fun n hn => ?_
        rw [Option.bind_eq_some_iff]
        exact ⟨r0, hn, h2⟩
  | true =>
    simp only [hp, cond_true] at hb ⊢
    cases hs : args.all (AVal.shut1 0) with
    | false => simp only [hs, cond_false] at hb; cases hb
    | true =>
      simp only [hs, cond_true] at hb ⊢
      obtain ⟨r0, h1, h2⟩ := Option.bind_eq_some_iff.1 hb
      refine (hK _ _ _ _ h1).imp fun n hn => ?_
      rw [Option.bind_eq_some_iff]
      exact ⟨r0, hn, h2⟩

theorem evB_lim {P : Program} {A : Ann} {lp : LpT} {K : CallO} {Kn : Nat → CallO} (hlp : ∀ F s r, lp F s = some r → lpW F s = some r) (hK : KLim K Kn) : KLim (evB P A lp K) fun n => evB P A lpW (Kn n) := by
  intro f args h r hb
  unfold evB at hb ⊢
  cases hsr : A.srt f with
  | true =>
    rw [hsr] at hb
    refine ⟨0, fun n _ => ?_⟩
    simp only [hsr]
    exact hb
  | false =>
  simp only [hsr, cond_false] at hb ⊢
  cases hpr : A.prm f with
  | some k =>
    simp only [hpr] at hb ⊢
    exact ⟨0, fun n _ => hb⟩
  | none =>
  simp only [hpr] at hb ⊢
  cases hsf : A.srf f with
  | some g =>
    simp only [hsf] at hb
    exact ⟨0, fun n _ => hb⟩
  | none =>
  simp only [hsf] at hb ⊢
  cases hf : P.funcs[f]? with
  | none => simp only [hf] at hb; cases hb
  | some fn =>
    simp only [hf] at hb ⊢
    cases hc : fn.body with
    | none => simp only [hc] at hb; cases hb
    | some c =>
      simp only [hc] at hb ⊢
      cases hg : decide (args.length ≤ fn.ntmps) && !(fn.name == "runtime.NumGoroutine") with
      | false => simp only [hg, cond_false] at hb; cases hb
      | true =>
        simp only [hg, cond_true] at hb ⊢
        cases hrg : A.rgf f with
        | true =>
          simp only [hrg, cond_true, evalFnG] at hb ⊢
          cases hpn : A.pan f with
          | true => rw [hpn] at hb; cases hb
          | false =>
            simp only [hpn, cond_false] at hb ⊢
            obtain ⟨r0, h1, h2⟩ := Option.bind_eq_some_iff.1 hb
            refine (evalRg_lim (cx := { P, A, K := callP A K, lp, n := fn.ntmps, full := 2 ^ fn.ntmps - 1, pan := false, vec := A.vecs f, frz := A.frz f, vlit := A.vlits f, vmk := A.vmk f, jt := A.jt f, lkp := A.lkp f, rb := A.rb f, frl := A.frl f, tb := A.tb f, ck := A.ck f }) (callP_lim hK) hlp _ _ _ _ _ _
              (fun _ => packN _) (fun _ => packE _) _ (fun _ _ _ hb => Ev.of fun _ => hb) (fun _ _ _ _ hb => Ev.of fun _ => hb) h1).imp fun n hn => ?_
            rw [Option.bind_eq_some_iff]
            exact ⟨r0, hn, h2⟩
        | false =>
        simp only [hrg, cond_false, evalFn] at hb ⊢
        obtain ⟨r0, h1, h2⟩ := Option.bind_eq_some_iff.1 hb
        refine (evalBody_lim (cx := { P, A, K := callP A K, lp, n := fn.ntmps, full := 2 ^ fn.ntmps - 1, pan := A.pan f, vec := A.vecs f, frz := A.frz f, vlit := A.vlits f, vmk := A.vmk f, jt := A.jt f, lkp := A.lkp f, rb := A.rb f, frl := A.frl f, tb := A.tb f, ck := A.ck f }) (callP_lim hK) hlp h1).imp fun n hn => ?_
        rw [Option.bind_eq_some_iff]
        exact ⟨r0, hn, h2⟩

open Classical in
/-- The program's meaning. -/
def evW (P : Program) (A : Ann) : CallO := fun f args h =>
  if hx : ∃ r, Ev fun n => evF P A lpW n f args h = some r then some (Classical.choose hx) else none

theorem evW_iff {P : Program} {A : Ann} {f : Nat} {args : List AVal} {h : Heap} {r : Res × Heap} : evW P A f args h = some r ↔ Ev fun n => evF P A lpW n f args h = some r := by
  unfold evW
  constructor
  · intro hb
    split at hb
    · rename_i hx; cases hb; exact Classical.choose_spec hx
    · cases hb
  · intro hb
    have hx : ∃ r, Ev fun n => evF P A lpW n f args h = some r := ⟨r, hb⟩
    rw [dif_pos hx]
    obtain ⟨N, hN⟩ := (Classical.choose_spec hx).and hb
    obtain ⟨e1, e2⟩ := hN N (Nat.le_refl _)
    rw [e1] at e2
    exact e2

/-- A function runs by its body. -/
theorem evW_of {P : Program} {A : Ann} {f : Nat} {args : List AVal} {h : Heap} {r : Res × Heap} (hb : evB P A lpW (evW P A) f args h = some r) : evW P A f args h = some r := by
  rw [evW_iff]
  obtain ⟨N, hN⟩ := evB_lim (lp := lpW) (Kn := fun n => evF P A lpW n) (fun _ _ _ h => h) (fun f args h r hb => evW_iff.1 hb) f args h r hb
  refine ⟨N + 1, fun n hn => ?_⟩
  cases n with
  | zero => omega
  | succ n => exact hN n (by omega)

/-- A run with so much fuel. -/
theorem evW_run {P : Program} {A : Ann} (m : Nat) : ∀ (n f : Nat) (args : List AVal) (h : Heap) (r : Res × Heap), evF P A (loopN m) n f args h = some r → evW P A f args h = some r := by
  have hlp : ∀ F s r, loopN m F s = some r → lpW F s = some r := fun F s r h => lpW_iff.2 ⟨m, h⟩
  have key : ∀ n, KLim (evF P A (loopN m) n) fun k => evF P A lpW k := by
    intro n
    induction n with
    | zero => intro f args h r hb; cases hb
    | succ n ih =>
      intro f args h r hb
      obtain ⟨N, hN⟩ := evB_lim hlp ih f args h r hb
      refine ⟨N + 1, fun k hk => ?_⟩
      cases k with
      | zero => omega
      | succ k => exact hN k (by omega)
  exact fun n f args h r hb => evW_iff.2 (key n f args h r hb)

theorem evW_sound {P : Program} {A : Ann} (hm : P.follows .mixedOrders = true) (hX : ExtOk P A) : SoundK P A (evW P A) := by
  intro f args h r h' hb
  obtain ⟨N, hN⟩ := evW_iff.1 hb
  exact evF_sound hm hX lpW_ok N f args h r h' (hN N (Nat.le_refl _))
end
section
open Go Go.RowKit Go.ChangeShapes

/-- All of the memory at the call, as persistent memory. -/
def gh (W : World) : Gh := { H := fun b k => W.cell? ⟨b, k, none⟩, blk := fun _ => 0, cur := fun _ => .slice none 0 0 }
theorem inv_gh (W : World) : Inv (gh W) [] W := ⟨fun _ _ _ h => h, fun id bl hb => by simp at hb, fun a b c ha => by simp [owner] at ha⟩

/-- A law that answers true. -/
theorem calls_true {P : Program} {A : Ann} {f : Nat} {args : List AVal} {X : Array Value} {W : World} (hm : P.follows .mixedOrders = true) (hX : ExtOk P A) (h : evW P A f args [] = some (.ret (.bool true), []))
    (gl : GlobOk A (gh W) [] W) (hx : RelVs (gh W) [] args X) : Calls P f X W fun e W' => e = .returned (.bool true) ∧ Below W.heap.size W W' := by
  refine ((evW_sound hm hX f args [] _ _ h (gh W) W X (inv_gh W) gl hx).2).mono fun e W' hpost => ?_
  obtain ⟨G', x, _, V, rfl, hV⟩ := hpost
  refine ⟨by rw [hV.bool_inv], x.os, x.tape, x.output, x.size, fun k hk => (x.frame k hk fun id => by simp [owner]).1⟩

section
variable {H : Type} {enc : TypeId × Value → H} {P : Program}

theorem trodAll_stays (hl : laidOutB P = true) {W W' : World} {sp' : Nat → Bool} (hb : Below W.heap.size W W') : ∀ {ts : List TypeId} {vs : List Value} {ds : List (DataW H)} {ps : List MemPlace},
    (∀ t ∈ ts, P.readableRec t = true ∧ t < P.types.size) → DataW.TrodAll enc P W 0 (fun _ => true) true ts vs ds ps → (∀ p ∈ ps, p.block < W.heap.size) → (∀ p ∈ ps, sp' p.block = true) → DataW.TrodAll enc P W' 0 sp' true ts vs ds ps
  | [], [], [], _, _, h, _, _ => h
  | _ :: _, _ :: _, _ :: _, _, ht, ⟨p, q, h1, h2, e⟩, hlt, hs =>
    ⟨p, q, WideElems.Trod_stays hl (ht _ (by simp)).1 (ht _ (by simp)).2 h1 (fun x hx => hb.same (hlt x (by rw [e]; exact List.mem_append_left _ hx))) (fun x hx => hs x (by rw [e]; exact List.mem_append_left _ hx)),
      trodAll_stays hl hb (fun t h => ht t (by simp [h])) h2 (fun x hx => hlt x (by rw [e]; exact List.mem_append_right _ hx)) (fun x hx => hs x (by rw [e]; exact List.mem_append_right _ hx)), e⟩

/-- What a law's row asks behind the call. -/
theorem post_true {f : Func} {s : ChangeSpec} {apart fresh handsOn again : Bool} {W W' : World} {args : Array Value} {tb : TypeId} {ds gs : List (DataW H)} {before : List MemPlace}
    (hl : laidOutB P = true) (ht : ∀ t ∈ f.params.toList, P.readableRec t = true ∧ t < P.types.size) (hr : f.resultTypes = #[tb]) (htb : P.underlying tb = some .bool) (hv : s.vars = [])
    (hW : DataW.Whole enc P f.params.toList s.vars apart W args.toList ds gs before) (hb : Below W.heap.size W W')
    (h1 : (s.fn H (ds ++ gs)).results = [.lit (.bool true)]) (h2 : (s.fn H (ds ++ gs)).args = ds) (h3 : (s.fn H (ds ++ gs)).vars = []) : s.post enc P f apart fresh handsOn again W args (Value.bool true) W' := by
  have hlt := hW.lt
  have hold : ∀ p ∈ before, (fun b => decide (b < W.heap.size)) p.block = true := fun p hp => by simpa using hlt p hp
  have hW' := hW
  obtain ⟨p, q, hA, hV, hps, hz, hn⟩ := hW
  rw [hv] at hV
  obtain ⟨rfl, rfl⟩ := trodVars_none hV
  simp only [List.append_nil] at hps h1 h2 h3
  subst hps
  have hargs : ∀ sp : Nat → Bool, (∀ x ∈ before, sp x.block = true) → DataW.TrodAll enc P W' 0 sp true f.params.toList args.toList (s.fn H ds).args before := by
    intro sp hs; rw [h2]; exact trodAll_stays hl hb ht hA hlt hs
  have hres : ∀ (b : Nat) (sp : Nat → Bool) (hd : Bool), DataW.TrodAll enc P W' b sp hd f.resultTypes.toList ((Value.bool true).resultList f.resultTypes.size) (s.fn H ds).results [] := by
    intro b sp hd; rw [h1, hr]; exact trodAll_mk1 (shut_bool htb true)
  have hvars : ∀ sp : Nat → Bool, DataW.TrodVars enc P W' sp s.vars (s.fn H ds).vars [] := by
    intro sp; rw [h3, hv]; rfl
  refine ⟨ds, [], before, [], before, [], hW', by simpa using hres _ _ _, by simpa using hargs _ hold, by simpa using hvars _, World.keptBut_mono (fun p hp => ⟨hp, ?_⟩) (hb.frame (· ∈ before)), fun _ => ?_⟩
  · exact Or.inr (by simpa using hp)
  · refine ⟨ok_one hr rfl (okWide_bool_mk htb true), _, _, ([] ++ before) ++ [], ⟨[] ++ before, [], trodAll_append (hargs _ (fun _ _ => rfl)) (hres _ _ _), hvars _, rfl, ?_, ?_⟩, ?_⟩
    · intro b off hp
      have hp' : MemPlace.cell b off ∈ before := by simpa using hp
      rw [hb.frozen (p := ⟨b, off, none⟩) (hlt _ hp')]
      exact hz b off hp'
    · intro ha
      simpa using hn ha
    · intro p hp _
      simpa using hp

end

/-! ### Reading -/

/-- Cells, related. -/
def RelCs (H : Nat → Nat → Option Value) (cs : List AVal) (vs : List Value) : Prop := cs.length = vs.length ∧ ∀ (i : Nat) (v : AVal), cs[i]? = some v → v.cellOk = true ∧ RelP H v (vs.getD i undef)

theorem RelCs.append {H : Nat → Nat → Option Value} {a b : List AVal} {x y : List Value} (h : RelCs H a x) (h' : RelCs H b y) : RelCs H (a ++ b) (x ++ y) := by
  refine ⟨by simp [h.1, h'.1], fun i v hv => ?_⟩
  rw [List.getD_eq_getElem?_getD]
  by_cases hi : i < a.length
  · rw [List.getElem?_append_left hi] at hv
    rw [List.getElem?_append_left (by rw [← h.1]; exact hi)]
    have := h.2 i v hv
    rwa [List.getD_eq_getElem?_getD] at this
  · rw [List.getElem?_append_right (by omega)] at hv
    rw [List.getElem?_append_right (by rw [← h.1]; omega), ← h.1]
    have := h'.2 _ v hv
    rwa [List.getD_eq_getElem?_getD] at this
theorem RelCs.nil (H : Nat → Nat → Option Value) : RelCs H [] [] := ⟨rfl, by simp⟩
theorem RelCs.one {H : Nat → Nat → Option Value} {v : AVal} {V : Value} (hk : v.cellOk = true) (h : RelP H v V) : RelCs H [v] [V] :=
  ⟨rfl, fun i u hu => by cases i with
    | zero => simp at hu; subst hu; exact ⟨hk, h⟩
    | succ i => simp at hu⟩

/-- A type's values read as a Lean type's: with so much fuel at most. -/
structure Rd (P : Program) (n : Nat) (t : TypeId) {α : Type} (encA : α → List AVal) (wf : α → Prop) : Prop where
  get : ∀ {H : Type} {enc : TypeId × Value → H} {w : World} {sp : Nat → Bool} {held : Bool} {fuel : Nat} {cs : List Value} {x : DataW H × List MemPlace}, fuel ≤ n →
    DataW.trod enc P w 0 sp held fuel t cs = some x → ∃ a : α, wf a ∧ RelCs (gh w).H (encA a) cs

theorem Rd.int {P : Program} {n : Nat} {t : TypeId} {k : IntKind} (ht : P.underlying t = some (.int k)) : Rd P n t (fun z : Int => [.int k z]) (fun z => (Lit.int k z).wf = true) := by
  refine ⟨?_⟩
  intro H enc w sp held fuel cs x _ h
  obtain ⟨z, hx, _, hw⟩ := DataW.trod_int ht h
  exact ⟨z, hw, by rw [hx]; exact .one rfl (.int _ _)⟩
theorem Rd.bool {P : Program} {n : Nat} {t : TypeId} (ht : P.underlying t = some .bool) : Rd P n t (fun z : Bool => [.bool z]) (fun _ => True) := by
  refine ⟨?_⟩
  intro H enc w sp held fuel cs x _ h
  cases fuel with
  | zero => simp [DataW.trod] at h
  | succ m =>
    unfold DataW.trod at h
    rw [ht] at h
    split at h <;> try (simp at *; done)
    rename_i b _
    exact ⟨b, trivial, .one rfl (.bool _)⟩
theorem Rd.str {P : Program} {n : Nat} {t : TypeId} (ht : P.underlying t = some .string) : Rd P n t (fun z : List UInt8 => [.str z]) (fun z => z.length ≤ maxLen) := by
  refine ⟨?_⟩
  intro H enc w sp held fuel cs x _ h
  obtain ⟨s, hx, _, hs⟩ := DataW.trod_string ht h
  refine ⟨s.data.toList, by simpa using hs, ?_⟩
  have : (⟨s.data.toList.toArray⟩ : ByteArray) = s := by cases s; simp
  rw [hx]
  have r := RelP.str (H := (gh w).H) s.data.toList
  rw [this] at r
  exact .one rfl r

theorem mapM_get {α β : Type} {f : α → Option β} : ∀ {l : List α} {ys : List β}, l.mapM f = some ys → ys.length = l.length ∧ ∀ (i : Nat) (x : α), l[i]? = some x → ∃ y, ys[i]? = some y ∧ f x = some y
  | [], ys, h => by simp at h; subst h; simp
  | a :: l, ys, h => by
    simp only [List.mapM_cons, Option.bind_eq_bind, Option.bind_eq_some_iff] at h
    obtain ⟨y, hy, zs, hzs, h⟩ := h
    simp only [Option.pure_def, Option.some.injEq] at h; subst h
    obtain ⟨h1, h2⟩ := mapM_get hzs
    refine ⟨by simp [h1], fun i x hx => ?_⟩
    cases i with
    | zero => simp at hx; subst hx; exact ⟨y, rfl, hy⟩
    | succ i => simpa using h2 i x (by simpa using hx)

/-- Choose, for all places of a list. -/
theorem choose_list {α : Type} {p : Nat → α → Prop} : ∀ (n : Nat), (∀ i, i < n → ∃ a, p i a) → ∃ l : List α, l.length = n ∧ ∀ (i : Nat) (a : α), l[i]? = some a → p i a
  | 0, _ => ⟨[], rfl, by simp⟩
  | n + 1, h => by
    obtain ⟨l, h1, h2⟩ := choose_list n fun i hi => h i (by omega)
    obtain ⟨a, ha⟩ := h n (by omega)
    refine ⟨l ++ [a], by simp [h1], fun i b hb => ?_⟩
    by_cases hi : i < l.length
    · rw [List.getElem?_append_left hi] at hb; exact h2 i b hb
    · rw [List.getElem?_append_right (by omega)] at hb
      have : i - l.length = 0 := by
        by_cases h0 : i - l.length = 0
        · exact h0
        · rw [List.getElem?_eq_none (by simp; omega)] at hb; cases hb
      rw [this] at hb
      simp at hb; subst hb
      have : i = n := by omega
      subst this; exact ha

theorem cells?_get {w : World} {base : Nat} {a : Addr} {n : Nat} {cs : List Value} (h : w.cells? base a n = some cs) : cs.length = n ∧ ∀ i, i < n → w.cell? (a.add i) = cs[i]? := by
  unfold World.cells? at h
  split at h
  · obtain ⟨h1, h2⟩ := mapM_get h
    refine ⟨by simpa using h1, fun i hi => ?_⟩
    obtain ⟨y, e1, e2⟩ := h2 i i (by simp [hi])
    rw [e2, e1]
  · cases h

theorem spot_none {w : World} {a : Addr} {v : Value} (h : w.cell? a = some v) : a = ⟨a.block, a.off, none⟩ := by
  unfold World.cell? at h
  split at h
  · split at h
    · cases h
    · rename_i hs
      obtain ⟨b, o, s⟩ := a
      cases s with
      | none => rfl
      | some _ => simp at hs
  · cases h

theorem add_add (a : Addr) (i j : Nat) (h : a = ⟨a.block, a.off, none⟩) : (a.add i).add j = ⟨a.block, a.off + (i + j), none⟩ := by
  rw [h, add_plain, add_plain]
  simp [Nat.add_assoc]


theorem Rd.slice {P : Program} {n : Nat} {t e : TypeId} {α : Type} {encA : α → List AVal} {wf : α → Prop} {sz : Nat} (ht : P.underlying t = some (.slice e)) (he : P.cellsOf e = sz + 1) (hsz : ∀ a, (encA a).length = sz + 1) (r : Rd P n e encA wf) :
    Rd P (n + 1) t (fun z : List α => [.slice (z.map encA) .no]) (fun z => z.length ≤ maxLen ∧ ∀ a ∈ z, wf a) := by
  refine ⟨?_⟩
  intro H enc w sp held fuel cs x hf h
  cases fuel with
  | zero => simp [DataW.trod] at h
  | succ m =>
    unfold DataW.trod at h
    rw [ht] at h
    split at h <;> try (simp at *; done)
    · refine ⟨[], by simp, .one rfl (.slice0 none 0)⟩
    · rename_i e' a len cap hu
      cases hu
      split at h
      · rename_i hcond
        obtain ⟨_, hlen, hcap⟩ := hcond
        obtain ⟨elems, hel, _⟩ := Option.bind_eq_some_iff.1 h
        obtain ⟨h1, h2⟩ := mapM_get hel
        by_cases h0 : len = 0
        · subst h0
          exact ⟨[], by simp, .one rfl (.slice0 (some a) cap)⟩
        · -- an element's cells
          have hcell : ∀ i, i < len → ∃ cs, w.cells? 0 (a.add (i * (sz + 1))) (sz + 1) = some cs ∧ ∃ z : α, wf z ∧ RelCs (gh w).H (encA z) cs := by
            intro i hi
            obtain ⟨y, e1, e2⟩ := h2 i i (by simp [hi])
            obtain ⟨cs, e3, e4⟩ := Option.bind_eq_some_iff.1 e2
            rw [he] at e3
            exact ⟨cs, e3, r.get (by omega) e4⟩
          have ha : a = ⟨a.block, a.off, none⟩ := by
            obtain ⟨cs, e1, _⟩ := hcell 0 (by omega)
            obtain ⟨l1, l2⟩ := cells?_get e1
            have := l2 0 (by omega)
            rw [List.getElem?_eq_getElem (by omega)] at this
            have := spot_none this
            simpa [Addr.add] using this
          obtain ⟨l, hl, hp⟩ := choose_list (p := fun i (z : α) => ∃ cs, w.cells? 0 (a.add (i * (sz + 1))) (sz + 1) = some cs ∧ wf z ∧ RelCs (gh w).H (encA z) cs) len fun i hi => by
            obtain ⟨cs, e1, z, e2, e3⟩ := hcell i hi
            exact ⟨z, cs, e1, e2, e3⟩
          have key : ∀ (i j : Nat) (row : List AVal) (v : AVal), (l.map encA)[i]? = some row → row[j]? = some v →
              (gh w).H a.block (a.off + (i * (sz + 1) + j)) = some ((w.cell? ⟨a.block, a.off + (i * (sz + 1) + j), none⟩).getD undef) ∧ v.cellOk = true ∧ RelP (gh w).H v ((w.cell? ⟨a.block, a.off + (i * (sz + 1) + j), none⟩).getD undef) := by
            intro i j row v hi hj
            simp only [List.getElem?_map, Option.map_eq_some_iff] at hi
            obtain ⟨z, hz, rfl⟩ := hi
            obtain ⟨cs, e1, _, e3⟩ := hp i z hz
            obtain ⟨l1, l2⟩ := cells?_get e1
            have hjlt : j < sz + 1 := by rw [← hsz z]; exact (List.getElem?_eq_some_iff.1 hj).1
            have e4 := l2 j hjlt
            rw [add_add _ _ _ ha] at e4
            obtain ⟨e5, e6⟩ := e3.2 j v hj
            have : cs[j]? = some (cs.getD j undef) := by rw [List.getD_eq_getElem?_getD, List.getElem?_eq_getElem (by omega)]; rfl
            rw [this] at e4
            refine ⟨by show w.cell? _ = _; rw [e4]; rfl, e5, by rw [e4]; exact e6⟩
          have hrows : ∀ row ∈ l.map encA, row.length = sz + 1 := by
            intro row hr
            obtain ⟨z, _, rfl⟩ := List.mem_map.1 hr
            exact hsz z
          refine ⟨l, ⟨by omega, fun z hz => ?_⟩, .one rfl ?_⟩
          · obtain ⟨i, hi⟩ := List.getElem?_of_mem hz
            obtain ⟨_, _, e2, _⟩ := hp i z hi
            exact e2
          · have := RelP.slice (H := (gh w).H) (l.map encA) a.block a.off cap (sz + 1) (fun k => (w.cell? ⟨a.block, a.off + k, none⟩).getD undef) hrows (by simp; omega)
              (fun i j row v hi hj => (key i j row v hi hj).1) (fun i j row v hi hj => (key i j row v hi hj).2.1) (fun i j row v hi hj => (key i j row v hi hj).2.2)
            rw [← ha] at this
            simpa [hl] using this
      · cases h

/-! Structs, a field at a time. -/

/-- Fields from an offset on, up to the struct's end. -/
structure RdFs (P : Program) (n : Nat) (fs : List Field) (off total : Nat) {α : Type} (encA : α → List AVal) (wf : α → Prop) : Prop where
  get : ∀ {H : Type} {enc : TypeId × Value → H} {w : World} {sp : Nat → Bool} {held : Bool} {fuel : Nat} {cs : List Value} {xs : List (DataW H × List MemPlace)}, fuel ≤ n → cs.length = total →
    (fs.mapM fun f => DataW.trod enc P w 0 sp held fuel f.type ((cs.drop f.offset).take (P.cellsOf f.type))) = some xs → ∃ a : α, wf a ∧ RelCs (gh w).H (encA a) (cs.drop off)

theorem RdFs.nil {P : Program} {n total : Nat} : RdFs P n [] total total (fun _ : Unit => []) (fun _ => True) := by
  refine ⟨?_⟩
  intro H enc w sp held fuel cs xs _ hl h
  refine ⟨(), trivial, ?_⟩
  rw [List.drop_eq_nil_of_le (by omega)]
  exact .nil _
theorem RdFs.cons {P : Program} {n off total sz : Nat} {f : Field} {fs : List Field} {α β : Type} {encA : α → List AVal} {wfA : α → Prop} {encB : β → List AVal} {wfB : β → Prop}
    (ho : f.offset = off) (hs : P.cellsOf f.type = sz) (r : Rd P n f.type encA wfA) (rs : RdFs P n fs (off + sz) total encB wfB) : RdFs P n (f :: fs) off total (fun z : α × β => encA z.1 ++ encB z.2) (fun z => wfA z.1 ∧ wfB z.2) := by
  refine ⟨?_⟩
  intro H enc w sp held fuel cs xs hf hl h
  simp only [List.mapM_cons, Option.bind_eq_bind, Option.bind_eq_some_iff] at h
  obtain ⟨x, h1, ys, h2, _⟩ := h
  obtain ⟨a, wa, ra⟩ := r.get hf h1
  obtain ⟨b, wb, rb⟩ := rs.get hf hl h2
  refine ⟨(a, b), ⟨wa, wb⟩, ?_⟩
  rw [ho, hs] at ra
  have : cs.drop off = (cs.drop off).take sz ++ cs.drop (off + sz) := by rw [← List.drop_drop, List.take_append_drop]
  rw [this]
  exact ra.append rb
theorem Rd.struct {P : Program} {n : Nat} {t : TypeId} {fs : Array Field} {α : Type} {encA : α → List AVal} {wf : α → Prop} {total : Nat} (ht : P.underlying t = some (.struct fs)) (hc : P.cellsOf t = total)
    (r : RdFs P n fs.toList 0 total encA wf) : Rd P (n + 1) t encA wf := by
  refine ⟨?_⟩
  intro H enc w sp held fuel cs x hf h
  cases fuel with
  | zero => simp [DataW.trod] at h
  | succ m =>
    unfold DataW.trod at h
    rw [ht] at h
    split at h <;> try (simp at *; done)
    rename_i fs' cs' hu
    cases hu
    split at h
    · rename_i hlen
      simp only [Option.map_eq_some_iff] at h
      obtain ⟨xs, h1, _⟩ := h
      obtain ⟨a, wa, ra⟩ := r.get (by omega) (by rw [hlen, hc]) h1
      exact ⟨a, wa, by simpa using ra⟩
    · cases h

theorem Rd.to {P : Program} {n : Nat} {t : TypeId} {α β : Type} {encA : α → List AVal} {wfA : α → Prop} {encB : β → List AVal} {wfB : β → Prop} (r : Rd P n t encA wfA) (g : α → β) (he : ∀ a, encB (g a) = encA a) (hw : ∀ a, wfA a → wfB (g a)) : Rd P n t encB wfB := by
  refine ⟨?_⟩
  intro H enc w sp held fuel cs x hf h
  obtain ⟨a, wa, ra⟩ := r.get hf h
  exact ⟨g a, hw a wa, by rw [he]; exact ra⟩
theorem Rd.mono {P : Program} {n m : Nat} {t : TypeId} {α : Type} {encA : α → List AVal} {wfA : α → Prop} (hnm : m ≤ n) (r : Rd P n t encA wfA) : Rd P m t encA wfA := by
  refine ⟨?_⟩
  intro H enc w sp held fuel cs x hf h
  exact r.get (by omega) h

/-- An argument of one cell. -/
theorem Rd.arg {P : Program} {t : TypeId} {α : Type} {encA : α → AVal} {wf : α → Prop} (r : ∀ n, Rd P n t (fun a => [encA a]) wf) {H : Type} {enc : TypeId × Value → H} {w : World} {sp : Nat → Bool} {held : Bool} {v : Value} {d : DataW H} {ps : List MemPlace}
    (hv : ∀ C, v ≠ .agg C) (h : DataW.Trod enc P w 0 sp held t v d ps) : ∃ a, wf a ∧ RelV (gh w) [] (encA a) v := by
  obtain ⟨fuel, hf⟩ := h
  obtain ⟨a, wa, ra⟩ := (r fuel).get (Nat.le_refl _) hf
  refine ⟨a, wa, .p _ _ ?_⟩
  have := (ra.2 0 _ rfl).2
  have hc : v.cells = #[v] := by cases v <;> simp_all [Value.cells]
  rw [hc] at this
  simpa using this
/-- An argument of cells. -/
theorem Rd.argS {P : Program} {t : TypeId} {α : Type} {encA : α → List AVal} {wf : α → Prop} (r : ∀ n, Rd P n t encA wf) {H : Type} {enc : TypeId × Value → H} {w : World} {sp : Nat → Bool} {held : Bool} {v : Value} {d : DataW H} {ps : List MemPlace}
    (hv : ∃ C, v = .agg C) (h : DataW.Trod enc P w 0 sp held t v d ps) : ∃ a, wf a ∧ RelV (gh w) [] (.agg (encA a)) v := by
  obtain ⟨fuel, hf⟩ := h
  obtain ⟨a, wa, ra⟩ := (r fuel).get (Nat.le_refl _) hf
  obtain ⟨C, rfl⟩ := hv
  refine ⟨a, wa, .p _ _ (.agg _ _ (by simpa [Value.cells] using ra.1) fun i v hv => ?_)⟩
  have := (ra.2 i v hv).2
  rw [List.getD_eq_getElem?_getD] at this
  rw [Array.getD_eq_getD_getElem?]
  simpa [Value.cells] using this
end
section
open Go

attribute [simp] Option.bind_some Option.bind_none

theorem abound_none {d : Nat} : abound none d = some d := (rfl)
theorem abound_nat {k : IntKind} {n d : Nat} : abound (some (.int k (n : Int))) d = some n := by simp [abound]

/-! What is looked at first: so that nothing is simplified behind what is not known. -/
@[congr] theorem bind_cong {α β : Type} {x x' : Option α} {f : α → Option β} (h : x = x') : x.bind f = x'.bind f := by rw [h]
@[congr] theorem bindRes_cong {x x' : Option (Res × Heap)} {f g : AVal → Heap → Option R} (h : x = x') : bindRes x f g = bindRes x' f g := by rw [h]
@[congr] theorem bindVH_cong {x x' : Option (AVal × Heap)} {f : AVal → Heap → Option R} (h : x = x') : bindVH x f = bindVH x' f := by rw [h]
@[congr] theorem acond_cong {x x' : AVal} {t e : Option R} (h : x = x') : acond x t e = acond x' t e := by rw [h]
@[congr] theorem guardSel_cong {w : Bool} {x x' : AVal} {t e : Option R} (h : x = x') : guardSel w x t e = guardSel w x' t e := by rw [h]
@[congr] theorem thenDo_cong {x x' : Ex} {t : Option R} {e : Ex → Option R} (h : x = x') : Ex.thenDo x t e = Ex.thenDo x' t e := by rw [h]
@[congr] theorem inBlock_cong {i : Nat} {x x' : Ex} {t : Option R} {e : Ex → Option R} (h : x = x') : Ex.inBlock i x t e = Ex.inBlock i x' t e := by rw [h]
@[congr] theorem nrm_cong {x x' : Ex} {t : Option R} (h : x = x') : Ex.nrm x t = Ex.nrm x' t := by rw [h]
@[congr] theorem endP_cong {x x' : Ex} {t : Option (Res × Heap)} {tp : AVal → Option (Res × Heap)} (h : x = x') : Ex.endP x t tp = Ex.endP x' t tp := by rw [h]
@[congr] theorem endF_cong {x x' : Ex} {t : Option (Res × Heap)} (h : x = x') : Ex.endF x t = Ex.endF x' t := by rw [h]
@[congr] theorem cond_cong {α : Type} {x x' : Bool} {t e : α} (h : x = x') : cond x t e = cond x' t e := by rw [h]
@[congr] theorem fin0_cong {f g : AVal → Heap → Option R} {x x' : R} (h : x = x') : fin0 f g x = fin0 f g x' := by rw [h]

section
variable {k k' : IntKind} {a b : Int} {x y : Bool} {s t : List UInt8} {v w : AVal} {h : Heap} {m : Nat}

@[simp] theorem abin_add : abin .add (.int k a) (.int k b) = some (.int k (k.wrap (a + b))) := by simp [abin]
@[simp] theorem abin_sub : abin .sub (.int k a) (.int k b) = some (.int k (k.wrap (a - b))) := by simp [abin]
@[simp] theorem abin_mul : abin .mul (.int k a) (.int k b) = some (.int k (k.wrap (a * b))) := by simp [abin]
@[simp] theorem abin_eql : abin .eql (.int k a) (.int k b) = some (.bool (decide (a = b))) := by simp [abin]; rfl
@[simp] theorem abin_neq : abin .neq (.int k a) (.int k b) = some (.bool (!decide (a = b))) := by simp [abin, bne]; rfl
@[simp] theorem abin_lss : abin .lss (.int k a) (.int k b) = some (.bool (decide (a < b))) := by simp [abin]
@[simp] theorem abin_leq : abin .leq (.int k a) (.int k b) = some (.bool (decide (a ≤ b))) := by simp [abin]
@[simp] theorem abin_gtr : abin .gtr (.int k a) (.int k b) = some (.bool (decide (b < a))) := by simp [abin]
@[simp] theorem abin_geq : abin .geq (.int k a) (.int k b) = some (.bool (decide (b ≤ a))) := by simp [abin]
@[simp] theorem abin_adds : abin .add (.str s) (.str t) = if s.length + t.length ≤ 4611686018427387904 then some (.str (s ++ t)) else none := (rfl)
@[simp] theorem abin_eqls : abin .eql (.str s) (.str t) = some (.bool (decide (s = t))) := by
  have : (s == t) = decide (s = t) := by by_cases h : s = t <;> simp [h]
  simp [abin, this]
@[simp] theorem abin_neqs : abin .neq (.str s) (.str t) = some (.bool (!decide (s = t))) := by
  have : (s == t) = decide (s = t) := by by_cases h : s = t <;> simp [h]
  simp [abin, this]
@[simp] theorem abinB_eql : abinB .eql (.bool x) (.bool y) = some (.bool (decide (x = y))) := by cases x <;> cases y <;> rfl
@[simp] theorem abinB_neq : abinB .neq (.bool x) (.bool y) = some (.bool (!decide (x = y))) := by cases x <;> cases y <;> rfl
@[simp] theorem aun_not : aun .not (.bool x) = some (.bool (!x)) := (rfl)
@[simp] theorem aun_neg : aun .neg (.int k a) = some (.int k (k.wrap (0 - a))) := (rfl)
@[simp] theorem aconvInt_int : aconvInt k (.int k' a) = some (.int k (k.wrap a)) := (rfl)
@[simp] theorem apick_bool : apick (.bool x) v w = some (bif x then v else w) := (rfl)
@[simp] theorem amin2_int : amin2 (.int k a) (.int k' b) = some (.int k (min a b)) := by
  simp only [amin2, Option.some.injEq, AVal.int.injEq, true_and]
  by_cases h : b < a <;> simp [h] <;> omega
@[simp] theorem amax2_int : amax2 (.int k a) (.int k' b) = some (.int k (max a b)) := by
  simp only [amax2, Option.some.injEq, AVal.int.injEq, true_and]
  by_cases h : b > a <;> simp [h] <;> omega
@[simp] theorem alenSl_slice {rows : List (List AVal)} {t : Tok} : alenSl (.slice rows t) = some (.int .i64 rows.length) := (rfl)
@[simp] theorem alenStr_str : alenStr (.str s) = some (.int .i64 s.length) := (rfl)
@[simp] theorem acond_bool {t e : Option R} : acond (.bool x) t e = bif x then t else e := (rfl)
@[simp] theorem guardSel_true {run skip : Option R} : guardSel true (.bool x) run skip = bif x then run else skip := (rfl)
@[simp] theorem guardSel_false {run skip : Option R} : guardSel false (.bool x) run skip = bif x then skip else run := (rfl)
@[simp] theorem guardSel_tuple {g : Bool} {run skip : Option R} : guardSel g (.tuple []) run skip = skip := (rfl)
@[simp] theorem fin0_normal {kv kp : AVal → Heap → Option R} : fin0 kv kp (.normal, [v], h) = kv v h := (rfl)
@[simp] theorem kv0_eq : kv0 v h = some (.normal, [v], h) := (rfl)
@[simp] theorem bindRes_ret {kv kp : AVal → Heap → Option R} : bindRes (some (.ret v, h)) kv kp = kv v h := (rfl)
@[simp] theorem bindVH_some {kv : AVal → Heap → Option R} : bindVH (some (v, h)) kv = kv v h := (rfl)
@[simp] theorem thenDo_normal {kn : Option R} {ke : Ex → Option R} : Ex.thenDo .normal kn ke = kn := (rfl)
@[simp] theorem thenDo_ret {kn : Option R} {ke : Ex → Option R} : Ex.thenDo .ret kn ke = ke .ret := (rfl)
@[simp] theorem thenDo_exit {i : Nat} {kn : Option R} {ke : Ex → Option R} : Ex.thenDo (.exit i) kn ke = ke (.exit i) := (rfl)
@[simp] theorem nrm_normal {kn : Option R} : Ex.nrm .normal kn = kn := (rfl)
@[simp] theorem inBlock_normal {i : Nat} {kn : Option R} {ke : Ex → Option R} : Ex.inBlock i .normal kn ke = kn := (rfl)
@[simp] theorem inBlock_ret {i : Nat} {kn : Option R} {ke : Ex → Option R} : Ex.inBlock i .ret kn ke = ke .ret := (rfl)
@[simp] theorem inBlock_exit {i j : Nat} {kn : Option R} {ke : Ex → Option R} : Ex.inBlock i (.exit j) kn ke = bif j == i then kn else ke (.exit j) := (rfl)
@[simp] theorem endF_normal {x : Option (Res × Heap)} : Ex.endF .normal x = x := (rfl)
@[simp] theorem bindRes_pan {v : AVal} {h : Heap} {kv kp : AVal → Heap → Option R} : bindRes (some (.pan v, h)) kv kp = kp v h := (rfl)
@[simp] theorem fin0_pan {v : AVal} {l : List AVal} {h : Heap} {kv kp : AVal → Heap → Option R} : fin0 kv kp (.pan v, l, h) = kp v h := by cases l <;> rfl
@[simp] theorem kp0_val {v : AVal} {h : Heap} : kp0 v h = some (.pan v, [], h) := (rfl)
@[simp] theorem thenDo_pan {v : AVal} {kn : Option R} {ke : Ex → Option R} : Ex.thenDo (.pan v) kn ke = ke (.pan v) := (rfl)
@[simp] theorem inBlock_pan {id : Nat} {v : AVal} {kn : Option R} {ke : Ex → Option R} : Ex.inBlock id (.pan v) kn ke = ke (.pan v) := (rfl)
@[simp] theorem nrm_pan {v : AVal} {kn : Option R} : Ex.nrm (.pan v) kn = none := (rfl)
@[simp] theorem endP_normal {x : Option (Res × Heap)} {xp : AVal → Option (Res × Heap)} : Ex.endP .normal x xp = x := (rfl)
@[simp] theorem endP_ret {x : Option (Res × Heap)} {xp : AVal → Option (Res × Heap)} : Ex.endP .ret x xp = x := (rfl)
@[simp] theorem endP_pan {v : AVal} {x : Option (Res × Heap)} {xp : AVal → Option (Res × Heap)} : Ex.endP (.pan v) x xp = xp v := (rfl)
@[simp] theorem endD_normal {x : Option R} {xp : AVal → Option R} : Ex.endD .normal x xp = x := (rfl)
@[simp] theorem endD_ret {x : Option R} {xp : AVal → Option R} : Ex.endD .ret x xp = x := (rfl)
@[simp] theorem endD_pan {v : AVal} {x : Option R} {xp : AVal → Option R} : Ex.endD (.pan v) x xp = xp v := (rfl)
@[simp] theorem endH_normal {x : Option Heap} : Ex.endH .normal x = x := (rfl)
@[simp] theorem endH_ret {x : Option Heap} : Ex.endH .ret x = x := (rfl)
@[simp] theorem onlyRet_ret {x : Option R} : Ex.onlyRet .ret x = x := (rfl)
@[simp] theorem atypeAssert_nil {t : Nat} {z : AVal} : atypeAssert t z .niliface = some (.tuple [z, .bool false]) := (rfl)
@[simp] theorem atypeAssert_iface {t t' : Nat} {z w : AVal} : atypeAssert t z (.iface t' w) = some (bif t' == t then .tuple [w, .bool true] else .tuple [z, .bool false]) := (rfl)
@[congr] theorem endD_cong {x x' : Ex} {t : Option R} {tp : AVal → Option R} (h : x = x') : Ex.endD x t tp = Ex.endD x' t tp := by rw [h]
@[congr] theorem endH_cong {x x' : Ex} {t : Option Heap} (h : x = x') : Ex.endH x t = Ex.endH x' t := by rw [h]
@[congr] theorem map_cong {α β : Type} {x x' : Option α} {f : α → β} (h : x = x') : x.map f = x'.map f := by rw [h]
@[simp] theorem endF_ret {x : Option (Res × Heap)} : Ex.endF .ret x = x := (rfl)

@[simp] theorem san_int : AVal.san m h (.int k a) = .int k a := (rfl)
@[simp] theorem san_bool : AVal.san m h (.bool x) = .bool x := (rfl)
@[simp] theorem san_str : AVal.san m h (.str s) = .str s := (rfl)
@[simp] theorem san_slice {rows : List (List AVal)} : AVal.san m h (.slice rows .no) = .slice rows .no := (rfl)
@[simp] theorem san_nil : AVal.san m h (.slice [] .nil) = .slice [] .nil := (rfl)
@[simp] theorem san_undef : AVal.san m h (.tuple []) = .tuple [] := (rfl)
@[simp] theorem san_junk : AVal.san m h .junk = .junk := (rfl)
@[simp] theorem san_own {rows : List (List AVal)} {id : Nat} : AVal.san m h (.slice rows (.own id)) = bif decide (id < m) then .slice rows (.own id) else .slice rows .no := (rfl)
@[simp] theorem san_agg {cs : List AVal} : AVal.san m h (.agg cs) = .agg (cs.map (·.san1 m h)) := (rfl)
@[simp] theorem san1_int : AVal.san1 m h (.int k a) = .int k a := (rfl)
@[simp] theorem san1_bool : AVal.san1 m h (.bool x) = .bool x := (rfl)
@[simp] theorem san1_str : AVal.san1 m h (.str s) = .str s := (rfl)
@[simp] theorem san1_slice {rows : List (List AVal)} : AVal.san1 m h (.slice rows .no) = .slice rows .no := (rfl)
@[simp] theorem san1_nil : AVal.san1 m h (.slice [] .nil) = .slice [] .nil := (rfl)
@[simp] theorem san1_own {rows : List (List AVal)} {id : Nat} : AVal.san1 m h (.slice rows (.own id)) = bif decide (id < m) then .slice rows (.own id) else .slice rows .no := (rfl)
@[simp] theorem san_tuple2 {v w : AVal} : AVal.san m h (.tuple [v, w]) = .tuple [(match v with | .agg cs => .agg (cs.map (·.san1 m h)) | v => v.san1 m h), (match w with | .agg cs => .agg (cs.map (·.san1 m h)) | v => v.san1 m h)] := (rfl)
@[simp] theorem untok_int : AVal.untok (.int k a) = .int k a := (rfl)
@[simp] theorem untok_bool : AVal.untok (.bool x) = .bool x := (rfl)
@[simp] theorem untok_str : AVal.untok (.str s) = .str s := (rfl)
@[simp] theorem untok_slice {rows : List (List AVal)} {t : Tok} : AVal.untok (.slice rows t) = .slice rows .no := (rfl)
@[simp] theorem untok_undef : AVal.untok (.tuple []) = .tuple [] := (rfl)
@[simp] theorem untok_agg {cs : List AVal} : AVal.untok (.agg cs) = .agg (cs.map AVal.untok1) := (rfl)
@[simp] theorem untok1_int : AVal.untok1 (.int k a) = .int k a := (rfl)
@[simp] theorem untok1_bool : AVal.untok1 (.bool x) = .bool x := (rfl)
@[simp] theorem untok1_str : AVal.untok1 (.str s) = .str s := (rfl)
@[simp] theorem untok1_slice {rows : List (List AVal)} {t : Tok} : AVal.untok1 (.slice rows t) = .slice rows .no := (rfl)
@[simp] theorem untok_tuple2 {v w : AVal} : AVal.untok (.tuple [v, w]) = .tuple [(match v with | .agg cs => .agg (cs.map AVal.untok1) | v => v.untok1), (match w with | .agg cs => .agg (cs.map AVal.untok1) | v => v.untok1)] := (rfl)

@[simp] theorem trunc_nil : trunc m [] = some [] := by simp [trunc, sanBlks]
theorem trunc_take {bs : Heap} : trunc 0 bs = some [] := by simp [trunc, sanBlks]
@[simp] theorem trunc_zero {bs : Heap} : trunc 0 bs = some [] := trunc_take
@[simp] theorem exsan_normal {m : Nat} {h : Heap} : Ex.san m h .normal = .normal := (rfl)
@[simp] theorem exsan_ret {m : Nat} {h : Heap} : Ex.san m h .ret = .ret := (rfl)
@[simp] theorem exsan_exit {m : Nat} {h : Heap} {id : Nat} : Ex.san m h (.exit id) = .exit id := (rfl)
@[simp] theorem exsan_pan {m : Nat} {h : Heap} {v : AVal} : Ex.san m h (.pan v) = .pan (v.san m h) := (rfl)
theorem endR_zero {e : Ex} {vs : List AVal} : endR 0 e vs h = some (e.san 0 h, vs.map (·.san 0 h), []) := by simp [endR]
theorem finP_zero : finP 0 v h = some (.pan (v.san 0 h).untok, []) := by simp [finP]
theorem finR_zero : finR 0 v h = some (.ret (v.san 0 h).untok, []) := by simp [finR]

/-! ### Memory -/
/-- A right to append that nobody has used. -/
def isFresh (h : Heap) (id : Nat) : Bool := match h[id]? with
  | some (.front 0 0) => true
  | _ => false
@[simp] theorem isFresh_zero {r : Heap} : isFresh (.front 0 0 :: r) 0 = true := (rfl)
@[simp] theorem isFresh_cells {cs : List AVal} {r : Heap} : isFresh (.cells cs :: r) 0 = false := (rfl)
@[simp] theorem isFresh_front {n sz : Nat} {r : Heap} : isFresh (.front (n + 1) sz :: r) 0 = false := (rfl)
@[simp] theorem isFresh_succ {b : ABlk} {r : Heap} {n : Nat} : isFresh (b :: r) (n + 1) = isFresh r n := (rfl)
@[simp] theorem getBlk_zero {cs : List AVal} {r : Heap} : getBlk (.cells cs :: r) 0 = some cs := (rfl)
@[simp] theorem getBlk_succ {b : ABlk} {r : Heap} {n : Nat} : getBlk (b :: r) (n + 1) = getBlk r n := (rfl)
@[simp] theorem aload_ptr {n id off : Nat} : aload false n h (.ptr id off) = (getBlk h id).bind fun cs => cs[off]? := by
  simp only [aload, apart, cond_false]; cases getBlk h id <;> rfl
@[simp] theorem aload_ptrT {n id off : Nat} : aload true n h (.ptr id off) = (getBlk h id).bind fun cs => if off + n ≤ cs.length then some (.agg ((cs.drop off).take n)) else none := by
  simp only [aload, apart, cond_true]; cases getBlk h id <;> rfl
@[simp] theorem astore_ptr {n id off : Nat} : astore n h (.ptr id off) v = (getBlk h id).bind fun cs => if v.cells.length = n ∧ off + n ≤ cs.length ∧ v.cells.all AVal.cellOk then some (h.set id (.cells (putCells cs off (keepTok h (cs.drop off) v.cells)))) else none := by
  simp only [astore]; cases getBlk h id <;> rfl
@[simp] theorem keepTok_nil {vs : List AVal} : keepTok h [] vs = vs := (rfl)
@[simp] theorem keepTok_nil2 {os : List AVal} : keepTok h os [] = [] := by cases os <;> rfl
@[simp] theorem keepTok_cons {o : AVal} {os vs : List AVal} : keepTok h (o :: os) (v :: vs) = keep1 h o v :: keepTok h os vs := (rfl)
@[simp] theorem keep1_int {o : AVal} : keep1 h o (.int k a) = .int k a := (rfl)
@[simp] theorem keep1_bool {o : AVal} : keep1 h o (.bool x) = .bool x := (rfl)
@[simp] theorem keep1_str {o : AVal} : keep1 h o (.str s) = .str s := (rfl)
@[simp] theorem keep1_map {o : AVal} {i : Nat} : keep1 h o (.map i) = .map i := (rfl)
@[simp] theorem keep1_ptr {o : AVal} {i j : Nat} : keep1 h o (.ptr i j) = .ptr i j := (rfl)
@[simp] theorem keep1_no {o : AVal} {rows : List (List AVal)} : keep1 h o (.slice rows .no) = .slice rows .no := by cases rows <;> rfl
@[simp] theorem keep1_own {o : AVal} {rows : List (List AVal)} {id : Nat} : keep1 h o (.slice rows (.own id)) = .slice rows (.own id) := by cases rows <;> rfl
@[simp] theorem keep1_nil {id : Nat} : keep1 h (.slice [] (.own id)) (.slice [] .nil) = bif isFresh h id then .slice [] (.own id) else .slice [] .nil := by
  have e : keep1 h (.slice [] (.own id)) (.slice [] .nil) = match h[id]? with | some (.front 0 0) => .slice [] (.own id) | _ => .slice [] .nil := (rfl)
  rw [e]
  unfold isFresh
  split <;> rfl
@[simp] theorem keep1_nil0 : keep1 h (.slice [] .nil) (.slice [] .nil) = .slice [] .nil := (rfl)
@[simp] theorem keep1_nil1 {rows : List (List AVal)} : keep1 h (.slice rows .no) (.slice [] .nil) = .slice [] .nil := by cases rows <;> rfl
theorem keepTok_none : ∀ {vs os : List AVal}, (∀ c ∈ vs, c.isNil = false) → keepTok h os vs = vs
  | [], _, _ => by simp
  | v :: vs, [], _ => rfl
  | v :: vs, o :: os, hn => by
    have h1 := hn v (by simp)
    simp only [keepTok_cons, keep1, h1, cond_false]
    rw [keepTok_none fun c hc => hn c (by simp [hc])]
@[simp] theorem afieldAt_ptr {id o off : Nat} : afieldAt off (.ptr id o) = some (.ptr id (o + off)) := (rfl)
@[simp] theorem afieldAt_pptr {cs : List AVal} {off : Nat} : afieldAt off (.pptr cs) = some (.pptr (cs.drop off)) := (rfl)
@[simp] theorem anilCheck_ptr {id off : Nat} : anilCheck (.ptr id off) = some (.ptr id off) := (rfl)
@[simp] theorem anilCheck_pptr {cs : List AVal} : anilCheck (.pptr cs) = some (.pptr cs) := (rfl)
@[simp] theorem cells_int : AVal.cells (.int k a) = [.int k a] := (rfl)
@[simp] theorem cells_bool : AVal.cells (.bool x) = [.bool x] := (rfl)
@[simp] theorem cells_str : AVal.cells (.str s) = [.str s] := (rfl)
@[simp] theorem cells_slice {rows : List (List AVal)} {t : Tok} : AVal.cells (.slice rows t) = [.slice rows t] := (rfl)
@[simp] theorem cells_agg {cs : List AVal} : AVal.cells (.agg cs) = cs := (rfl)
@[simp] theorem cells_map {i : Nat} : AVal.cells (.map i) = [.map i] := (rfl)
@[simp] theorem cellOk_int : AVal.cellOk (.int k a) = true := (rfl)
@[simp] theorem cellOk_bool : AVal.cellOk (.bool x) = true := (rfl)
@[simp] theorem cellOk_str : AVal.cellOk (.str s) = true := (rfl)
@[simp] theorem cellOk_slice {rows : List (List AVal)} {t : Tok} : AVal.cellOk (.slice rows t) = true := (rfl)
@[simp] theorem cellOk_map {i : Nat} : AVal.cellOk (.map i) = true := (rfl)
@[simp] theorem isJunk_int : AVal.isJunk (.int k a) = false := (rfl)
@[simp] theorem isJunk_bool : AVal.isJunk (.bool x) = false := (rfl)
@[simp] theorem isJunk_str : AVal.isJunk (.str s) = false := (rfl)
@[simp] theorem isJunk_slice {rows : List (List AVal)} {t : Tok} : AVal.isJunk (.slice rows t) = false := (rfl)
@[simp] theorem isJunk_agg {cs : List AVal} : AVal.isJunk (.agg cs) = false := (rfl)
@[simp] theorem isJunk_map {i : Nat} : AVal.isJunk (.map i) = false := (rfl)
@[simp] theorem san1_map {i : Nat} : AVal.san1 m h (.map i) = bif decide (i < m) then .map i else .junk := (rfl)
@[simp] theorem san_map {i : Nat} : AVal.san m h (.map i) = bif decide (i < m) then .map i else .junk := (rfl)
@[simp] theorem san_ptr {i o : Nat} : AVal.san m h (.ptr i o) = AVal.san1 m h (.ptr i o) := (rfl)
theorem san1_ptr {i o : Nat} (hi : i < m) : AVal.san1 m h (.ptr i o) = .ptr i o := by simp [AVal.san1, hi]
theorem san_ptr_lt {i o : Nat} (hi : i < m) : AVal.san m h (.ptr i o) = .ptr i o := by rw [san_ptr, san1_ptr hi]
@[simp] theorem untok_ptr {i o : Nat} : AVal.untok (.ptr i o) = .ptr i o := (rfl)
@[simp] theorem untok_map {i : Nat} : AVal.untok (.map i) = .map i := (rfl)
@[simp] theorem sanCells_nil : sanCells m h [] = some [] := (rfl)
@[simp] theorem sanCells_cons {cs : List AVal} : sanCells m h (v :: cs) = bif (v.san1 m h).cellOk then (sanCells m h cs).map (v.san1 m h :: ·) else none := by
  simp only [sanCells]; cases sanCells m h cs <;> rfl
@[simp] theorem sanBlk_cells {cs : List AVal} : sanBlk m h (.cells cs) = (sanCells m h cs).map .cells := (rfl)
@[simp] theorem sanBlk_front {i j : Nat} : sanBlk m h (.front i j) = some (.front i j) := (rfl)
@[simp] theorem sanBlks_nil : sanBlks m h [] = some [] := (rfl)
@[simp] theorem sanBlks_cons {b : ABlk} {bs : Heap} : sanBlks m h (b :: bs) = (sanBlk m h b).bind fun b' => (sanBlks m h bs).map (b' :: ·) := by
  simp only [sanBlks]; cases sanBlk m h b <;> cases sanBlks m h bs <;> rfl
/-- An element of a string. -/
@[simp] theorem aindexStr_nat {i : Nat} : aindexStr (.str s) (.int k (i : Int)) = (s[i]?).map fun b => .int .u8 b.toNat := by simp [aindexStr]
@[simp] theorem aindexStr_zero : aindexStr (.str s) (.int k 0) = (s[0]?).map fun b => .int .u8 b.toNat := by simp [aindexStr]
theorem asliceStr_nat {lo hi : Option AVal} {l u : Nat} (hl : abound lo 0 = some l) (hu : abound hi s.length = some u) (h1 : l ≤ u) (h2 : u ≤ s.length) : asliceStr (.str s) lo hi = some (.str ((s.drop l).take (u - l))) := by
  simp [asliceStr, hl, hu, h1, h2]
@[simp] theorem aextract_tuple {i : Nat} {vs : List AVal} : aextract i (.tuple vs) = vs[i]? := (rfl)
end

/-- A machine word's value. -/
theorem wrap64 {n : Int} (h1 : -9223372036854775808 ≤ n) (h2 : n ≤ 9223372036854775807) : IntKind.wrap .i64 n = n := by
  simp [IntKind.wrap, IntKind.signed, IntKind.bits]
  split <;> omega

/-- An element of a slice. -/
@[simp] theorem aindexSl_map {α : Type} {enc : α → List AVal} {sz : Nat} {xs : List α} {t : Tok} {k : IntKind} {i : Nat} :
    aindexSl sz (.slice (xs.map enc) t) (.int k (i : Int)) = (xs[i]?).bind fun x => if (enc x).length = sz then some (.pptr (enc x)) else none := by
  simp only [aindexSl, Int.natCast_nonneg, if_true, Int.toNat_natCast, List.getElem?_map]
  cases xs[i]? <;> rfl
theorem aindexSl_lit {sz : Nat} {rows : List (List AVal)} {t : Tok} {k : IntKind} {n : Int} : aindexSl sz (.slice rows t) (.int k n) = if 0 ≤ n then (rows[n.toNat]?).bind fun row => if row.length = sz then some (.pptr row) else none else none := by
  simp only [aindexSl]
  split
  · cases rows[n.toNat]? <;> rfl
  · rfl
@[simp] theorem aload_pptr {n : Nat} {h : Heap} {cs : List AVal} : aload true n h (.pptr cs) = if n ≤ cs.length then some (.agg (cs.take n)) else none := by
  simp [aload, apart]
@[simp] theorem aload_pptr1 {n : Nat} {h : Heap} {cs : List AVal} : aload false n h (.pptr cs) = cs[0]? := by
  simp [aload, apart]
theorem aload_row {n : Nat} {h : Heap} {cs : List AVal} (hn : cs.length = n) : aload true n h (.pptr cs) = some (.agg cs) := by
  subst hn; simp [aload, apart]

/-- A part of a slice. -/
theorem asliceSl_map {α : Type} {enc : α → List AVal} {sz : Nat} {xs : List α} {t : Tok} {lo hi : Option AVal} {l u : Nat} (hs : ∀ x, (enc x).length = sz) (hl : abound lo 0 = some l) (hu : abound hi xs.length = some u) (h1 : l ≤ u) (h2 : u ≤ xs.length) :
    asliceSl sz (.slice (xs.map enc) t) lo hi = some (.slice (((xs.drop l).take (u - l)).map enc) .no) := by
  have : ((xs.map enc).all fun r => r.length == sz) = true := by simp [hs]
  simp only [asliceSl, List.length_map, hl, hu, h1, h2, this, and_self, if_true, List.map_take, List.map_drop]
/-- A function by its shallow form. -/
theorem evW_by {P : Program} {A : Ann} {f : Nat} {args : List AVal} {h : Heap} {m : Option (Res × Heap)} {r : Res × Heap} (he : evB P A lpW (evW P A) f args h = m) (hm : m = some r) : evW P A f args h = some r := evW_of (he.trans hm)
/-- A call of a function that is run on its arguments alone. -/
theorem callP_pure {A : Ann} {K : CallO} {f : Nat} {args : List AVal} {h : Heap} {v : AVal} (hp : A.pure f = true) (hs : args.all (AVal.shut1 0) = true) (hk : K f args [] = some (.ret v, [])) : callP A K f args h = some (.ret v, h) := by
  simp [callP, hp, hs, hk, pureBack]

/-- A loop, by what each of its rounds does. -/
theorem lpW_measure {F : List AVal × Heap → Option R} {σ : Type} (enc : σ → List AVal × Heap) (inv : σ → Prop) (μ : σ → Nat) (out : σ → R)
    (h : ∀ s, inv s → (∃ s', F (enc s) = some (.normal, enc s') ∧ inv s' ∧ μ s' < μ s ∧ out s' = out s) ∨ (F (enc s) = some (out s) ∧ (out s).1 ≠ .normal)) : ∀ s, inv s → lpW F (enc s) = some (out s) := by
  have key : ∀ n s, μ s = n → inv s → lpW F (enc s) = some (out s) := by
    intro n
    induction n using Nat.strongRecOn with
    | _ n ih =>
      intro s hn hi
      rw [lpW_step]
      rcases h s hi with ⟨s', e1, e2, e3, e4⟩ | ⟨e1, e2⟩
      · rw [e1]
        simp only [Option.bind_some, thenDo_normal]
        rw [ih (μ s') (by omega) s' rfl e2, e4]
      · rw [e1]
        generalize out s = r at e2
        obtain ⟨e, l⟩ := r
        cases e <;> first | exact absurd rfl e2 | rfl
  exact fun s hi => key (μ s) s rfl hi
end
section
open Go

section
variable {k k' : IntKind} {a b : Int} {h : Heap} {m n id tot off len sz : Nat} {v w : AVal} {cs : List AVal}

@[simp] theorem untok_vslice : AVal.untok (.vslice id tot off len sz) = .vslice id tot off len sz := (rfl)
@[simp] theorem untok_vptr : AVal.untok (.vptr id tot off) = .vptr id tot off := (rfl)
@[simp] theorem untok1_vslice : AVal.untok1 (.vslice id tot off len sz) = .vslice id tot off len sz := (rfl)
@[simp] theorem cells_vslice : AVal.cells (.vslice id tot off len sz) = [.vslice id tot off len sz] := (rfl)
@[simp] theorem cellOk_vslice : AVal.cellOk (.vslice id tot off len sz) = true := (rfl)
@[simp] theorem cells_func {f : Nat} {x y : List AVal} : AVal.cells (.func f x y) = [.func f x y] := (rfl)
@[simp] theorem cellOk_func {f : Nat} {x y : List AVal} : AVal.cellOk (.func f x y) = true := (rfl)
@[simp] theorem isJunk_vslice : AVal.isJunk (.vslice id tot off len sz) = false := (rfl)
@[simp] theorem keep1_vslice {o : AVal} : keep1 h o (.vslice id tot off len sz) = .vslice id tot off len sz := (rfl)
theorem san1_vslice (hi : id < m) : AVal.san1 m h (.vslice id tot off len sz) = .vslice id tot off len sz := by simp [AVal.san1, hi]
theorem san_vslice_eq : AVal.san m h (.vslice id tot off len sz) = AVal.san1 m h (.vslice id tot off len sz) := (rfl)
theorem san_vslice (hi : id < m) : AVal.san m h (.vslice id tot off len sz) = .vslice id tot off len sz := by rw [san_vslice_eq, san1_vslice hi]
@[simp] theorem alenSl_vslice : alenSl (.vslice id tot off len sz) = some (.int .i64 len) := (rfl)
@[simp] theorem aindexSl_vslice {i : Nat} {sz' : Nat} : aindexSl sz' (.vslice id tot off len sz) (.int k (i : Int)) = if i < len ∧ sz = sz' then some (.vptr id tot (off + i * sz')) else none := by
  simp [aindexSl]
theorem aindexSl_vlit {i : Int} {sz' : Nat} : aindexSl sz' (.vslice id tot off len sz) (.int k i) = if 0 ≤ i ∧ i < len ∧ sz = sz' then some (.vptr id tot (off + i.toNat * sz')) else none := (rfl)
@[simp] theorem afieldAt_vptr {o : Nat} : afieldAt o (.vptr id tot off) = some (.vptr id tot (off + o)) := (rfl)
@[simp] theorem anilCheck_vptr : anilCheck (.vptr id tot off) = some (.vptr id tot off) := (rfl)
@[simp] theorem aload_vptr : aload false n h (.vptr id tot off) = (getVec h id tot).bind fun x => x.2[off]? := by
  simp only [aload, apart, cond_false]; cases getVec h id tot <;> rfl
@[simp] theorem aload_vptrT : aload true n h (.vptr id tot off) = (getVec h id tot).bind fun x => if off + n ≤ x.2.length then some (.agg ((x.2.drop off).take n)) else none := by
  simp only [aload, apart, cond_true]; cases getVec h id tot <;> rfl
@[simp] theorem astore_vptr : astore n h (.vptr id tot off) v = (getVec h id tot).bind fun x => if v.cells.length = n ∧ off + n ≤ x.2.length ∧ v.cells.all AVal.cellOk then some (h.set id (.vec tot x.1 (putCells x.2 off v.cells))) else none := by
  simp only [astore]; cases getVec h id tot <;> rfl
theorem getVec_zero {r : Heap} : getVec (.vec tot sz cs :: r) 0 tot = some (sz, cs) := by simp [getVec]
@[simp] theorem getVec_zero' {r : Heap} {tot' : Nat} : getVec (.vec tot' sz cs :: r) 0 tot = if tot' = tot then some (sz, cs) else none := (rfl)
@[simp] theorem getVec_succ {bl : ABlk} {r : Heap} : getVec (bl :: r) (n + 1) tot = getVec r n tot := (rfl)
@[simp] theorem sanBlk_vec : sanBlk m h (.vec tot sz cs) = (sanCells m h cs).map (.vec tot sz) := (rfl)
@[simp] theorem arowsS_slice {rows : List (List AVal)} {t : Tok} : arowsS sz h (.slice rows t) = if rows.all fun r => r.length == sz then some rows else none := (rfl)
@[simp] theorem arowsV_slice {rows : List (List AVal)} {t : Tok} : arowsV sz h (.slice rows t) = arowsS sz h (.slice rows t) := by
  unfold arowsV
  split
  · rename_i r hr; rw [hr]
  · rename_i hr; rw [hr]; rfl
@[simp] theorem afreeze_slice {rows : List (List AVal)} {t : Tok} : afreeze h (.slice rows t) = some (.slice rows t, h) := (rfl)
@[simp] theorem afreeze_int : afreeze h (.int k a) = some (.int k a, h) := (rfl)
@[simp] theorem afreeze_bool {x : Bool} : afreeze h (.bool x) = some (.bool x, h) := (rfl)
@[simp] theorem afreeze_agg : afreeze h (.agg cs) = some (.agg cs, h) := (rfl)
theorem sanCells_ints {l : List AVal} (hl : ∀ c ∈ l, ∃ k n, c = .int k n) : sanCells m h l = some l := by
  induction l with
  | nil => rfl
  | cons c r ih =>
    obtain ⟨k, n, rfl⟩ := hl c (by simp)
    rw [sanCells_cons, ih fun c hc => hl c (by simp [hc])]
    rfl
theorem pureRow_ints {l : List AVal} (hl : ∀ c ∈ l, ∃ k n, c = .int k n) : pureRow l = some l := by
  induction l with
  | nil => rfl
  | cons c r ih =>
    obtain ⟨k, n, rfl⟩ := hl c (by simp)
    simp only [pureRow, ih fun c hc => hl c (by simp [hc]), AVal.pure1]
theorem rowsOf_one : ∀ {l : List AVal}, rowsOf l.length 1 l = l.map fun c => [c]
  | [] => rfl
  | c :: r => by simp [rowsOf, rowsOf_one (l := r)]
end
/-! ### Shorter words for what shallow forms say often -/
noncomputable section
def uq1 {α : Type} (s : List AVal × Heap) (k : AVal → Heap → α) : α := k (List.getD s.1 0 .junk) s.2
def uq2 {α : Type} (s : List AVal × Heap) (k : AVal → AVal → Heap → α) : α := k (List.getD s.1 0 .junk) (List.getD s.1 1 .junk) s.2
def uq3 {α : Type} (s : List AVal × Heap) (k : AVal → AVal → AVal → Heap → α) : α := k (List.getD s.1 0 .junk) (List.getD s.1 1 .junk) (List.getD s.1 2 .junk) s.2
def uq4 {α : Type} (s : List AVal × Heap) (k : AVal → AVal → AVal → AVal → Heap → α) : α := k (List.getD s.1 0 .junk) (List.getD s.1 1 .junk) (List.getD s.1 2 .junk) (List.getD s.1 3 .junk) s.2
def uq5 {α : Type} (s : List AVal × Heap) (k : AVal → AVal → AVal → AVal → AVal → Heap → α) : α := k (List.getD s.1 0 .junk) (List.getD s.1 1 .junk) (List.getD s.1 2 .junk) (List.getD s.1 3 .junk) (List.getD s.1 4 .junk) s.2
def uq6 {α : Type} (s : List AVal × Heap) (k : AVal → AVal → AVal → AVal → AVal → AVal → Heap → α) : α := k (List.getD s.1 0 .junk) (List.getD s.1 1 .junk) (List.getD s.1 2 .junk) (List.getD s.1 3 .junk) (List.getD s.1 4 .junk) (List.getD s.1 5 .junk) s.2
def uq7 {α : Type} (s : List AVal × Heap) (k : AVal → AVal → AVal → AVal → AVal → AVal → AVal → Heap → α) : α := k (List.getD s.1 0 .junk) (List.getD s.1 1 .junk) (List.getD s.1 2 .junk) (List.getD s.1 3 .junk) (List.getD s.1 4 .junk) (List.getD s.1 5 .junk) (List.getD s.1 6 .junk) s.2
def uq8 {α : Type} (s : List AVal × Heap) (k : AVal → AVal → AVal → AVal → AVal → AVal → AVal → AVal → Heap → α) : α := k (List.getD s.1 0 .junk) (List.getD s.1 1 .junk) (List.getD s.1 2 .junk) (List.getD s.1 3 .junk) (List.getD s.1 4 .junk) (List.getD s.1 5 .junk) (List.getD s.1 6 .junk) (List.getD s.1 7 .junk) s.2
def uq9 {α : Type} (s : List AVal × Heap) (k : AVal → AVal → AVal → AVal → AVal → AVal → AVal → AVal → AVal → Heap → α) : α := k (List.getD s.1 0 .junk) (List.getD s.1 1 .junk) (List.getD s.1 2 .junk) (List.getD s.1 3 .junk) (List.getD s.1 4 .junk) (List.getD s.1 5 .junk) (List.getD s.1 6 .junk) (List.getD s.1 7 .junk) (List.getD s.1 8 .junk) s.2
def uq10 {α : Type} (s : List AVal × Heap) (k : AVal → AVal → AVal → AVal → AVal → AVal → AVal → AVal → AVal → AVal → Heap → α) : α := k (List.getD s.1 0 .junk) (List.getD s.1 1 .junk) (List.getD s.1 2 .junk) (List.getD s.1 3 .junk) (List.getD s.1 4 .junk) (List.getD s.1 5 .junk) (List.getD s.1 6 .junk) (List.getD s.1 7 .junk) (List.getD s.1 8 .junk) (List.getD s.1 9 .junk) s.2
def uq11 {α : Type} (s : List AVal × Heap) (k : AVal → AVal → AVal → AVal → AVal → AVal → AVal → AVal → AVal → AVal → AVal → Heap → α) : α := k (List.getD s.1 0 .junk) (List.getD s.1 1 .junk) (List.getD s.1 2 .junk) (List.getD s.1 3 .junk) (List.getD s.1 4 .junk) (List.getD s.1 5 .junk) (List.getD s.1 6 .junk) (List.getD s.1 7 .junk) (List.getD s.1 8 .junk) (List.getD s.1 9 .junk) (List.getD s.1 10 .junk) s.2
def uq12 {α : Type} (s : List AVal × Heap) (k : AVal → AVal → AVal → AVal → AVal → AVal → AVal → AVal → AVal → AVal → AVal → AVal → Heap → α) : α := k (List.getD s.1 0 .junk) (List.getD s.1 1 .junk) (List.getD s.1 2 .junk) (List.getD s.1 3 .junk) (List.getD s.1 4 .junk) (List.getD s.1 5 .junk) (List.getD s.1 6 .junk) (List.getD s.1 7 .junk) (List.getD s.1 8 .junk) (List.getD s.1 9 .junk) (List.getD s.1 10 .junk) (List.getD s.1 11 .junk) s.2
def gq (b : Bool) (t : AVal) (x : Option R) (h : Heap) (k : AVal → Heap → Option R) : Option R := (guardSel b t x (kv0 (.tuple []) h)).bind (fin0 k (fun _ _ => none))
def kq0 (K : CallO) (f : Nat) (h : Heap) (k : AVal → Heap → Option R) : Option R := bindRes (K f [] h) k (fun _ _ => none)
def kq1 (K : CallO) (f : Nat) (a : AVal) (h : Heap) (k : AVal → Heap → Option R) : Option R := bindRes (K f [(a.untok)] h) k (fun _ _ => none)
def kq2 (K : CallO) (f : Nat) (a b : AVal) (h : Heap) (k : AVal → Heap → Option R) : Option R := bindRes (K f [(a.untok), (b.untok)] h) k (fun _ _ => none)
def kq3 (K : CallO) (f : Nat) (a b c : AVal) (h : Heap) (k : AVal → Heap → Option R) : Option R := bindRes (K f [(a.untok), (b.untok), (c.untok)] h) k (fun _ _ => none)
def kq4 (K : CallO) (f : Nat) (a b c d : AVal) (h : Heap) (k : AVal → Heap → Option R) : Option R := bindRes (K f [(a.untok), (b.untok), (c.untok), (d.untok)] h) k (fun _ _ => none)
def kq5 (K : CallO) (f : Nat) (a b c d e : AVal) (h : Heap) (k : AVal → Heap → Option R) : Option R := bindRes (K f [(a.untok), (b.untok), (c.untok), (d.untok), (e.untok)] h) k (fun _ _ => none)
def fq {α : Type} (i : Nat) (x : AVal) (h : Heap) (k : AVal → Option α) : Option α := (afieldAt i x).bind fun t => (aload false 1 h t).bind k
abbrev OH := Option (Res × Heap)
abbrev St := List AVal × Heap
def iq (n : Int) : AVal := .int .i64 n
def gpq (b : Bool) (t : AVal) (x : Option AVal) (h : Heap) (k : AVal → Heap → Option R) : Option R := (guardSel b t (x.bind fun v => kv0 v h) (kv0 (.tuple []) h)).bind (fin0 k (fun _ _ => none))
def uk1 (K : CallO) (f : Nat) (a : AVal) (h : Heap) : Option (Res × Heap) := K f [(a.untok)] h
def uk2 (K : CallO) (f : Nat) (a b : AVal) (h : Heap) : Option (Res × Heap) := K f [(a.untok), (b.untok)] h
def uk3 (K : CallO) (f : Nat) (a b c : AVal) (h : Heap) : Option (Res × Heap) := K f [(a.untok), (b.untok), (c.untok)] h
def uk4 (K : CallO) (f : Nat) (a b c d : AVal) (h : Heap) : Option (Res × Heap) := K f [(a.untok), (b.untok), (c.untok), (d.untok)] h
def uk5 (K : CallO) (f : Nat) (a b c d e : AVal) (h : Heap) : Option (Res × Heap) := K f [(a.untok), (b.untok), (c.untok), (d.untok), (e.untok)] h
def aq (o : BinOp) (x y : AVal) (a b : Option R) : Option R := (abin o x y).bind fun t => acond t a b
end
@[simp ↓] theorem uq1_eq {α : Type} {s : List AVal × Heap} {k : AVal → Heap → α} : uq1 s k = k (List.getD s.1 0 .junk) s.2 := (rfl)
@[simp ↓] theorem uq2_eq {α : Type} {s : List AVal × Heap} {k : AVal → AVal → Heap → α} : uq2 s k = k (List.getD s.1 0 .junk) (List.getD s.1 1 .junk) s.2 := (rfl)
@[simp ↓] theorem uq3_eq {α : Type} {s : List AVal × Heap} {k : AVal → AVal → AVal → Heap → α} : uq3 s k = k (List.getD s.1 0 .junk) (List.getD s.1 1 .junk) (List.getD s.1 2 .junk) s.2 := (rfl)
@[simp ↓] theorem uq4_eq {α : Type} {s : List AVal × Heap} {k : AVal → AVal → AVal → AVal → Heap → α} : uq4 s k = k (List.getD s.1 0 .junk) (List.getD s.1 1 .junk) (List.getD s.1 2 .junk) (List.getD s.1 3 .junk) s.2 := (rfl)
@[simp ↓] theorem uq5_eq {α : Type} {s : List AVal × Heap} {k : AVal → AVal → AVal → AVal → AVal → Heap → α} : uq5 s k = k (List.getD s.1 0 .junk) (List.getD s.1 1 .junk) (List.getD s.1 2 .junk) (List.getD s.1 3 .junk) (List.getD s.1 4 .junk) s.2 := (rfl)
@[simp ↓] theorem uq6_eq {α : Type} {s : List AVal × Heap} {k : AVal → AVal → AVal → AVal → AVal → AVal → Heap → α} : uq6 s k = k (List.getD s.1 0 .junk) (List.getD s.1 1 .junk) (List.getD s.1 2 .junk) (List.getD s.1 3 .junk) (List.getD s.1 4 .junk) (List.getD s.1 5 .junk) s.2 := (rfl)
@[simp ↓] theorem uq7_eq {α : Type} {s : List AVal × Heap} {k : AVal → AVal → AVal → AVal → AVal → AVal → AVal → Heap → α} : uq7 s k = k (List.getD s.1 0 .junk) (List.getD s.1 1 .junk) (List.getD s.1 2 .junk) (List.getD s.1 3 .junk) (List.getD s.1 4 .junk) (List.getD s.1 5 .junk) (List.getD s.1 6 .junk) s.2 := (rfl)
@[simp ↓] theorem uq8_eq {α : Type} {s : List AVal × Heap} {k : AVal → AVal → AVal → AVal → AVal → AVal → AVal → AVal → Heap → α} : uq8 s k = k (List.getD s.1 0 .junk) (List.getD s.1 1 .junk) (List.getD s.1 2 .junk) (List.getD s.1 3 .junk) (List.getD s.1 4 .junk) (List.getD s.1 5 .junk) (List.getD s.1 6 .junk) (List.getD s.1 7 .junk) s.2 := (rfl)
@[simp ↓] theorem uq9_eq {α : Type} {s : List AVal × Heap} {k : AVal → AVal → AVal → AVal → AVal → AVal → AVal → AVal → AVal → Heap → α} : uq9 s k = k (List.getD s.1 0 .junk) (List.getD s.1 1 .junk) (List.getD s.1 2 .junk) (List.getD s.1 3 .junk) (List.getD s.1 4 .junk) (List.getD s.1 5 .junk) (List.getD s.1 6 .junk) (List.getD s.1 7 .junk) (List.getD s.1 8 .junk) s.2 := (rfl)
@[simp ↓] theorem uq10_eq {α : Type} {s : List AVal × Heap} {k : AVal → AVal → AVal → AVal → AVal → AVal → AVal → AVal → AVal → AVal → Heap → α} : uq10 s k = k (List.getD s.1 0 .junk) (List.getD s.1 1 .junk) (List.getD s.1 2 .junk) (List.getD s.1 3 .junk) (List.getD s.1 4 .junk) (List.getD s.1 5 .junk) (List.getD s.1 6 .junk) (List.getD s.1 7 .junk) (List.getD s.1 8 .junk) (List.getD s.1 9 .junk) s.2 := (rfl)
@[simp ↓] theorem uq11_eq {α : Type} {s : List AVal × Heap} {k : AVal → AVal → AVal → AVal → AVal → AVal → AVal → AVal → AVal → AVal → AVal → Heap → α} : uq11 s k = k (List.getD s.1 0 .junk) (List.getD s.1 1 .junk) (List.getD s.1 2 .junk) (List.getD s.1 3 .junk) (List.getD s.1 4 .junk) (List.getD s.1 5 .junk) (List.getD s.1 6 .junk) (List.getD s.1 7 .junk) (List.getD s.1 8 .junk) (List.getD s.1 9 .junk) (List.getD s.1 10 .junk) s.2 := (rfl)
@[simp ↓] theorem uq12_eq {α : Type} {s : List AVal × Heap} {k : AVal → AVal → AVal → AVal → AVal → AVal → AVal → AVal → AVal → AVal → AVal → AVal → Heap → α} : uq12 s k = k (List.getD s.1 0 .junk) (List.getD s.1 1 .junk) (List.getD s.1 2 .junk) (List.getD s.1 3 .junk) (List.getD s.1 4 .junk) (List.getD s.1 5 .junk) (List.getD s.1 6 .junk) (List.getD s.1 7 .junk) (List.getD s.1 8 .junk) (List.getD s.1 9 .junk) (List.getD s.1 10 .junk) (List.getD s.1 11 .junk) s.2 := (rfl)
@[simp ↓] theorem gq_eq {b : Bool} {t : AVal} {x : Option R} {h : Heap} {k : AVal → Heap → Option R} : gq b t x h k = (guardSel b t x (kv0 (.tuple []) h)).bind (fin0 k (fun _ _ => none)) := (rfl)
@[simp ↓] theorem kq0_eq {K : CallO} {f : Nat} {h : Heap} {k : AVal → Heap → Option R} : kq0 K f h k = bindRes (K f [] h) k (fun _ _ => none) := (rfl)
@[simp ↓] theorem kq1_eq {K : CallO} {f : Nat} {a : AVal} {h : Heap} {k : AVal → Heap → Option R} : kq1 K f a h k = bindRes (K f [(a.untok)] h) k (fun _ _ => none) := (rfl)
@[simp ↓] theorem kq2_eq {K : CallO} {f : Nat} {a b : AVal} {h : Heap} {k : AVal → Heap → Option R} : kq2 K f a b h k = bindRes (K f [(a.untok), (b.untok)] h) k (fun _ _ => none) := (rfl)
@[simp ↓] theorem kq3_eq {K : CallO} {f : Nat} {a b c : AVal} {h : Heap} {k : AVal → Heap → Option R} : kq3 K f a b c h k = bindRes (K f [(a.untok), (b.untok), (c.untok)] h) k (fun _ _ => none) := (rfl)
@[simp ↓] theorem kq4_eq {K : CallO} {f : Nat} {a b c d : AVal} {h : Heap} {k : AVal → Heap → Option R} : kq4 K f a b c d h k = bindRes (K f [(a.untok), (b.untok), (c.untok), (d.untok)] h) k (fun _ _ => none) := (rfl)
@[simp ↓] theorem kq5_eq {K : CallO} {f : Nat} {a b c d e : AVal} {h : Heap} {k : AVal → Heap → Option R} : kq5 K f a b c d e h k = bindRes (K f [(a.untok), (b.untok), (c.untok), (d.untok), (e.untok)] h) k (fun _ _ => none) := (rfl)
@[simp ↓] theorem fq_eq {α : Type} {i : Nat} {x : AVal} {h : Heap} {k : AVal → Option α} : fq i x h k = (afieldAt i x).bind fun t => (aload false 1 h t).bind k := (rfl)
@[simp ↓] theorem iq_eq {n : Int} : iq n = .int .i64 n := (rfl)
@[simp ↓] theorem gpq_eq {b : Bool} {t : AVal} {x : Option AVal} {h : Heap} {k : AVal → Heap → Option R} : gpq b t x h k = (guardSel b t (x.bind fun v => kv0 v h) (kv0 (.tuple []) h)).bind (fin0 k (fun _ _ => none)) := (rfl)
@[simp ↓] theorem uk1_eq {K : CallO} {f : Nat} {a : AVal} {h : Heap} : uk1 K f a h = K f [(a.untok)] h := (rfl)
@[simp ↓] theorem uk2_eq {K : CallO} {f : Nat} {a b : AVal} {h : Heap} : uk2 K f a b h = K f [(a.untok), (b.untok)] h := (rfl)
@[simp ↓] theorem uk3_eq {K : CallO} {f : Nat} {a b c : AVal} {h : Heap} : uk3 K f a b c h = K f [(a.untok), (b.untok), (c.untok)] h := (rfl)
@[simp ↓] theorem uk4_eq {K : CallO} {f : Nat} {a b c d : AVal} {h : Heap} : uk4 K f a b c d h = K f [(a.untok), (b.untok), (c.untok), (d.untok)] h := (rfl)
@[simp ↓] theorem uk5_eq {K : CallO} {f : Nat} {a b c d e : AVal} {h : Heap} : uk5 K f a b c d e h = K f [(a.untok), (b.untok), (c.untok), (d.untok), (e.untok)] h := (rfl)
@[simp ↓] theorem aq_eq {o : BinOp} {x y : AVal} {a b : Option R} : aq o x y a b = (abin o x y).bind fun t => acond t a b := (rfl)
end
section
open Go
def digF : Nat → Nat → List UInt8 → List UInt8
  | 0, _, a => a
  | k + 1, n, a => if n < 10 then UInt8.ofNat (48 + n) :: a else digF k (n / 10) (UInt8.ofNat (48 + n % 10) :: a)
def itoaA (n : Int) : List UInt8 := if n < 0 then 45 :: digF 20 n.natAbs [] else digF 20 n.toNat []
def itoaG : List AVal → Option AVal
  | [.int .i64 n] => if -9223372036854775808 ≤ n ∧ n ≤ 9223372036854775807 then some (.str (itoaA n)) else none
  | _ => none
def repG : List AVal → Option AVal
  | [.str [b], .int .i64 n] => if 0 ≤ n ∧ n ≤ 1099511627776 then some (.str (List.replicate n.toNat b)) else none
  | _ => none
/-- The fields (seven cells) whose fifth cell is this truth value, with their numbers. -/
def fldRows (o : Bool) : Nat → List (List AVal) → Option (List (List AVal))
  | _, [] => some []
  | k, [.str s, .int .i64 a, .int .i64 b, .int .i64 c, .bool f, .int .i64 d, .int .i64 e] :: rs =>
    bif f == o then (fldRows o (k + 1) rs).map ([.int .i64 (k : Int), .agg [.str s, .int .i64 a, .int .i64 b, .int .i64 c, .bool f, .int .i64 d, .int .i64 e]] :: ·) else fldRows o k rs
  | _, _ => none
/-- 'some' over a slice of fields and a truth value that are captured. -/
def fldK : IterK := ⟨fun cap h => match cap with
  | [.ptr p i, .ptr q j] => match aload false 1 h (.ptr p i), aload false 1 h (.ptr q j) with
    | some (.slice rows _), some (.bool o) => bif decide (rows.length ≤ 4611686018427387904) then fldRows o 0 rows else none
    | _, _ => none
  | _ => none⟩
end
end Hk
