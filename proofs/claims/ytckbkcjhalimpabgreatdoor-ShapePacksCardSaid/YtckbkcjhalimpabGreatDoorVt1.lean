/-
  The texts Vk.Ty, one behind another. No conditions.
-/
import Derived.Test.YtckbkcjhalimpabGreatDoorVk4
set_option linter.unusedVariables false
set_option linter.unusedSimpArgs false
set_option linter.all false
namespace Hk
noncomputable section
open Go

/-- A list's rows. -/
def Rw {α : Type} (enc : α → List AVal) (xs : List α) : List (List AVal) := xs.map enc
/-- Bind and map, to be looked behind. -/
def tb {α β : Type} (x : Option α) (f : α → Option β) : Option β := x.bind f
def tm {α β : Type} (x : Option α) (f : α → β) : Option β := x.map f
def tc {α : Type} (c : Bool) (x y : Option α) : Option α := bif c then x else y

section
variable {α β γ : Type}
@[simp] theorem bind_tm {x : Option α} {f : α → β} {k : β → Option γ} : (tm x f).bind k = tb x fun a => k (f a) := by cases x <;> rfl
@[simp] theorem bind_tb {x : Option α} {f : α → Option β} {k : β → Option γ} : (tb x f).bind k = tb x fun a => (f a).bind k := by cases x <;> rfl
@[simp] theorem bind_tc {c : Bool} {x y : Option β} {k : β → Option γ} : (tc c x y).bind k = tc c (x.bind k) (y.bind k) := by cases c <;> rfl
@[simp] theorem tm_tb {x : Option α} {f : α → Option β} {g : β → γ} : tm (tb x f) g = tb x fun a => tm (f a) g := by cases x <;> rfl
@[simp] theorem tm_tc {c : Bool} {x y : Option β} {g : β → γ} : tm (tc c x y) g = tc c (tm x g) (tm y g) := by cases c <;> rfl
@[simp] theorem tm_some {x : α} {g : α → β} : tm (some x) g = some (g x) := (rfl)
@[simp] theorem tm_none {g : α → β} : tm none g = none := (rfl)
@[simp] theorem tb_some {x : α} {f : α → Option β} : tb (some x) f = f x := (rfl)
@[simp] theorem tc_true {x y : Option α} : tc true x y = x := (rfl)
@[simp] theorem tc_false {x y : Option α} : tc false x y = y := (rfl)
@[simp] theorem bindRes_tm {x : Option α} {f : α → AVal} {h : α → Heap} {kv kp : AVal → Heap → Option R} : bindRes (tm x fun a => (.ret (f a), h a)) kv kp = tb x fun a => kv (f a) (h a) := by cases x <;> rfl
/-- In a branch its condition is known. -/
@[congr] theorem tc_cong {c c' : Bool} {x x' y y' : Option α} (h : c = c') (hx : c' = true → x = x') (hy : c' = false → y = y') : tc c x y = tc c' x' y' := by
  subst h; cases c <;> simp [tc, hx, hy]
@[simp] theorem acond_t {c : Bool} {t e : Option R} : acond (.bool c) t e = tc c t e := (rfl)
end

/-- An element. -/
def tidx {α : Type} (xs : List α) (i : Int) : Option α := if 0 ≤ i then xs[i.toNat]? else none
@[simp] theorem aindexSl_t {α : Type} {enc : α → List AVal} {sz : Nat} {xs : List α} {t : Tok} {k : IntKind} {i : Int} (h : ∀ x, (enc x).length = sz) : aindexSl sz (.slice (Rw enc xs) t) (.int k i) = tm (tidx xs i) fun x => .pptr (enc x) := by
  unfold aindexSl Rw tidx
  by_cases h0 : 0 ≤ i
  · simp only [h0, if_true, List.getElem?_map]
    cases xs[i.toNat]? <;> simp [tm, h]
  · simp [h0, tm]
@[simp] theorem alenSl_t {α : Type} {enc : α → List AVal} {xs : List α} {t : Tok} : alenSl (.slice (Rw enc xs) t) = some (.int .i64 (xs.length : Int)) := by simp [Rw]

/-! ### Loops -/
/-- How code ends that does not panic. -/
inductive Ey where
  | n | r | x (id : Nat)
  deriving Inhabited
def Ey.ex : Ey → Ex
  | .n => .normal
  | .r => .ret
  | .x i => .exit i
@[simp] theorem Ey.ex_n : Ey.ex .n = .normal := (rfl)
@[simp] theorem Ey.ex_r : Ey.ex .r = .ret := (rfl)
@[simp] theorem Ey.ex_x {i : Nat} : Ey.ex (.x i) = .exit i := (rfl)
@[simp] theorem Ey.ex_san {e : Ey} {m : Nat} {h : Heap} : Ex.san m h e.ex = e.ex := by cases e <;> rfl
def exT {α : Type} (e : Ey) (kn : Option α) (ke : Ey → Option α) : Option α := match e with
  | .n => kn
  | e => ke e
def loopNT {σ : Type} : Nat → (σ → Option (Ey × σ)) → σ → Option (Ey × σ)
  | 0, _, _ => none
  | n + 1, F, s => (F s).bind fun r => exT r.1 (loopNT n F r.2) fun e => some (e, r.2)
theorem loopNT_mono {σ : Type} {F : σ → Option (Ey × σ)} : ∀ {n : Nat} {s : σ} {r : Ey × σ}, loopNT n F s = some r → loopNT (n + 1) F s = some r
  | 0, _, _, h => by simp [loopNT] at h
  | n + 1, s, r, h => by
    rw [loopNT] at h ⊢
    cases hF : F s with
    | none => rw [hF] at h; simp at h
    | some x =>
      rw [hF] at h
      obtain ⟨e, s'⟩ := x
      cases e <;> simp only [Option.bind_some, exT] at h ⊢ <;> first | exact h | exact loopNT_mono h
theorem loopNT_mono' {σ : Type} {F : σ → Option (Ey × σ)} {n m : Nat} {s : σ} {r : Ey × σ} (hnm : n ≤ m) (h : loopNT n F s = some r) : loopNT m F s = some r := by
  induction hnm with
  | refl => exact h
  | step _ ih => exact loopNT_mono ih
open Classical in
def lpT {σ : Type} (F : σ → Option (Ey × σ)) (s : σ) : Option (Ey × σ) :=
  if h : ∃ n r, loopNT n F s = some r then some (Classical.choose (Classical.choose_spec h)) else none
theorem lpT_iff {σ : Type} {F : σ → Option (Ey × σ)} {s : σ} {r : Ey × σ} : lpT F s = some r ↔ ∃ n, loopNT n F s = some r := by
  unfold lpT
  constructor
  · intro h
    split at h
    · rename_i hx
      cases h
      exact ⟨_, Classical.choose_spec (Classical.choose_spec hx)⟩
    · cases h
  · rintro ⟨n, hn⟩
    have hx : ∃ n r, loopNT n F s = some r := ⟨n, r, hn⟩
    rw [dif_pos hx]
    have h1 := Classical.choose_spec (Classical.choose_spec hx)
    have h2 := loopNT_mono' (Nat.le_max_left _ n) h1
    have h3 := loopNT_mono' (Nat.le_max_right (Classical.choose hx) n) hn
    rw [h2] at h3
    exact h3
theorem lpT_step {σ : Type} (F : σ → Option (Ey × σ)) (s : σ) : lpT F s = (F s).bind fun r => exT r.1 (lpT F r.2) fun e => some (e, r.2) := by
  apply Option.ext
  intro r
  rw [lpT_iff]
  cases hF : F s with
  | none =>
    simp only [Option.bind_none]
    constructor
    · rintro ⟨n, hn⟩
      cases n <;> simp [loopNT, hF] at hn
    · intro h; simp at h
  | some x =>
    obtain ⟨e, s'⟩ := x
    have hn1 : ∀ n, loopNT (n + 1) F s = exT e (loopNT n F s') fun e => some (e, s') := by
      intro n; rw [loopNT, hF]; rfl
    simp only [Option.bind_some]
    constructor
    · rintro ⟨n, hn⟩
      cases n with
      | zero => simp [loopNT] at hn
      | succ n =>
        rw [hn1] at hn
        cases e <;> simp only [exT] at hn ⊢ <;> first | exact hn | exact lpT_iff.2 ⟨n, hn⟩
    · intro h
      cases e <;> simp only [exT] at h
      case n => obtain ⟨n, hn⟩ := lpT_iff.1 h; exact ⟨n + 1, by rw [hn1]; exact hn⟩
      all_goals exact ⟨1, by rw [hn1]; exact h⟩
theorem lpT_go {σ : Type} {F : σ → Option (Ey × σ)} {s s' : σ} (h : F s = some (.n, s')) : lpT F s = lpT F s' := by rw [lpT_step, h]; rfl
theorem lpT_out {σ : Type} {F : σ → Option (Ey × σ)} {s s' : σ} {e : Ey} (h : F s = some (e, s')) (hn : e ≠ .n) : lpT F s = some (e, s') := by
  rw [lpT_step, h]; cases e <;> first | exact absurd rfl hn | rfl
/-- A loop by its typed form. -/
theorem lpW_t {σ : Type} {F : List AVal × Heap → Option R} {G : σ → Option (Ey × σ)} {enc : σ → List AVal × Heap} (h : ∀ s, F (enc s) = tm (G s) fun r => (r.1.ex, enc r.2)) (s : σ) : lpW F (enc s) = tm (lpT G s) fun r => (r.1.ex, enc r.2) := by
  have key : ∀ n s, loopN n F (enc s) = tm (loopNT n G s) fun r => (r.1.ex, enc r.2) := by
    intro n
    induction n with
    | zero => intro s; rfl
    | succ n ih =>
      intro s
      rw [loopN, loopNT, h s]
      cases hG : G s with
      | none => rfl
      | some x =>
        obtain ⟨e, s'⟩ := x
        cases e <;> simp only [tm_some, Option.bind_some, Ex.thenDo, exT, Ey.ex] <;> first | exact ih s' | rfl
  apply Option.ext
  intro r
  rw [lpW_iff]
  constructor
  · rintro ⟨n, hn⟩
    rw [key] at hn
    cases hG : loopNT n G s with
    | none => rw [hG] at hn; simp [tm] at hn
    | some x => rw [hG] at hn; rw [lpT_iff.2 ⟨n, hG⟩]; exact hn
  · intro hr
    cases hG : lpT G s with
    | none => rw [hG] at hr; simp [tm] at hr
    | some x =>
      rw [hG] at hr
      obtain ⟨n, hn⟩ := lpT_iff.1 hG
      exact ⟨n, by rw [key, hn]; exact hr⟩

def ibT {α : Type} (id : Nat) (e : Ey) (kn : Option α) (ke : Ey → Option α) : Option α := match e with
  | .n => kn
  | .x j => bif j == id then kn else ke (.x j)
  | e => ke e
def nrT {α : Type} (e : Ey) (kn : Option α) : Option α := match e with
  | .n => kn
  | _ => none
def efT {α : Type} (e : Ey) (x : Option α) : Option α := match e with
  | .n => x
  | .r => x
  | _ => none
section
variable {α β : Type} {e : Ey} {i j : Nat}
@[simp] theorem thenDo_t {kn : Option R} {ke : Ex → Option R} : Ex.thenDo e.ex kn ke = exT e kn fun e => ke e.ex := by cases e <;> rfl
@[simp] theorem inBlock_t {kn : Option R} {ke : Ex → Option R} : Ex.inBlock i e.ex kn ke = ibT i e kn fun e => ke e.ex := by cases e <;> rfl
@[simp] theorem nrm_t {kn : Option R} : Ex.nrm e.ex kn = nrT e kn := by cases e <;> rfl
@[simp] theorem endF_t {x : Option (Res × Heap)} : Ex.endF e.ex x = efT e x := by cases e <;> rfl
@[simp] theorem bind_exT {kn : Option α} {ke : Ey → Option α} {k : α → Option β} : (exT e kn ke).bind k = exT e (kn.bind k) fun e => (ke e).bind k := by cases e <;> rfl
@[simp] theorem bind_ibT {kn : Option α} {ke : Ey → Option α} {k : α → Option β} : (ibT i e kn ke).bind k = ibT i e (kn.bind k) fun e => (ke e).bind k := by
  cases e <;> first | rfl | (simp only [ibT]; cases (_ == i) <;> rfl)
@[simp] theorem bind_nrT {kn : Option α} {k : α → Option β} : (nrT e kn).bind k = nrT e (kn.bind k) := by cases e <;> rfl
@[simp] theorem bind_efT {kn : Option α} {k : α → Option β} : (efT e kn).bind k = efT e (kn.bind k) := by cases e <;> rfl
@[simp] theorem tm_exT {kn : Option α} {ke : Ey → Option α} {k : α → β} : tm (exT e kn ke) k = exT e (tm kn k) fun e => tm (ke e) k := by cases e <;> rfl
@[simp] theorem tm_ibT {kn : Option α} {ke : Ey → Option α} {k : α → β} : tm (ibT i e kn ke) k = ibT i e (tm kn k) fun e => tm (ke e) k := by
  cases e <;> first | rfl | (simp only [ibT]; cases (_ == i) <;> rfl)
@[simp] theorem tm_nrT {kn : Option α} {k : α → β} : tm (nrT e kn) k = nrT e (tm kn k) := by cases e <;> rfl
@[simp] theorem tm_efT {kn : Option α} {k : α → β} : tm (efT e kn) k = efT e (tm kn k) := by cases e <;> rfl
@[simp] theorem exT_normal {kn : Option α} {ke : Ey → Option α} : exT .n kn ke = kn := (rfl)
@[simp] theorem exT_ret {kn : Option α} {ke : Ey → Option α} : exT .r kn ke = ke .r := (rfl)
@[simp] theorem exT_exit {kn : Option α} {ke : Ey → Option α} : exT (.x i) kn ke = ke (.x i) := (rfl)
@[simp] theorem ibT_normal {kn : Option α} {ke : Ey → Option α} : ibT i .n kn ke = kn := (rfl)
@[simp] theorem ibT_ret {kn : Option α} {ke : Ey → Option α} : ibT i .r kn ke = ke .r := (rfl)
@[simp] theorem ibT_exit {kn : Option α} {ke : Ey → Option α} : ibT i (.x j) kn ke = bif j == i then kn else ke (.x j) := (rfl)
@[simp] theorem nrT_normal {kn : Option α} : nrT .n kn = kn := (rfl)
@[simp] theorem efT_normal {x : Option α} : efT .n x = x := (rfl)
@[simp] theorem efT_ret {x : Option α} : efT .r x = x := (rfl)
end

/-! ### Short words for the shallow forms -/
def gd (l : List AVal) (i : Nat) : AVal := l.getD i .junk
def ld (g : Bool) (n : Nat) (h : Heap) (a : AVal) (k : AVal → Option R) : Option R := (aload g n h a).bind k
def fa (o : Nat) (a : AVal) (k : AVal → Option R) : Option R := (afieldAt o a).bind k
def ix (sz : Nat) (s i : AVal) (k : AVal → Option R) : Option R := (aindexSl sz s i).bind k
def bo (op : BinOp) (a b : AVal) (k : AVal → Option R) : Option R := (abin op a b).bind k
def ln (s : AVal) (k : AVal → Option R) : Option R := (alenSl s).bind k
def gS (w : Bool) (g : AVal) (x : Option R) (h : Heap) (k : AVal → Heap → Option R) : Option R := (guardSel w g x (kv0 (.tuple []) h)).bind (fin0 k fun _ _ => none)
def ca (x : Option (Res × Heap)) (k : AVal → Heap → Option R) : Option R := bindRes x k fun _ _ => none
section
variable {g : Bool} {n o sz : Nat} {h : Heap} {a b s i : AVal} {k : AVal → Option R} {kh : AVal → Heap → Option R} {w : Bool} {l : List AVal} {m : Nat} {op : BinOp} {x : Option R} {y : Option (Res × Heap)}
@[simp] theorem gd_t : gd l n = l.getD n .junk := (rfl)
@[simp] theorem ld_t : ld g n h a k = (aload g n h a).bind k := (rfl)
@[simp] theorem fa_t : fa o a k = (afieldAt o a).bind k := (rfl)
@[simp] theorem ix_t : ix sz s i k = (aindexSl sz s i).bind k := (rfl)
@[simp] theorem bo_t : bo op a b k = (abin op a b).bind k := (rfl)
@[simp] theorem ln_t : ln s k = (alenSl s).bind k := (rfl)
@[simp] theorem gS_t : gS w a x h kh = (guardSel w a x (kv0 (.tuple []) h)).bind (fin0 kh fun _ _ => none) := (rfl)
@[simp] theorem ca_t : ca y kh = bindRes y kh fun _ _ => none := (rfl)
@[congr] theorem ld_cong {a' : AVal} {h' : Heap} (e : a = a') (e2 : h = h') : ld g n h a k = ld g n h' a' k := by rw [e, e2]
@[congr] theorem fa_cong {a' : AVal} (e : a = a') : fa o a k = fa o a' k := by rw [e]
@[congr] theorem ix_cong {s' i' : AVal} (e : s = s') (e2 : i = i') : ix sz s i k = ix sz s' i' k := by rw [e, e2]
@[congr] theorem bo_cong {a' b' : AVal} (e : a = a') (e2 : b = b') : bo op a b k = bo op a' b' k := by rw [e, e2]
@[congr] theorem ln_cong {s' : AVal} (e : s = s') : ln s k = ln s' k := by rw [e]
@[congr] theorem gS_cong {a' : AVal} {h' : Heap} (e : a = a') (e2 : h = h') : gS w a x h kh = gS w a' x h' kh := by rw [e, e2]
@[congr] theorem ca_cong {y' : Option (Res × Heap)} (e : y = y') : ca y kh = ca y' kh := by rw [e]
end

/-! ### Operations, typed -/
def tshl (k : IntKind) (a b : Int) : Option Int := if b < 0 then none else some (k.wrap (a * 2 ^ (min b.toNat k.bits)))
def tshr (k : IntKind) (a b : Int) : Option Int := if b < 0 then none else some (a.fdiv (2 ^ (min b.toNat k.bits)))
def tquo (k : IntKind) (a b : Int) : Option Int := if b = 0 then none else some (k.wrap (a.tdiv b))
def trem (a b : Int) : Option Int := if b = 0 then none else some (a.tmod b)
def tand (k : IntKind) (a b : Int) : Int := k.wrap (BitVec.ofInt k.bits a &&& BitVec.ofInt k.bits b).toNat
def tor (k : IntKind) (a b : Int) : Int := k.wrap (BitVec.ofInt k.bits a ||| BitVec.ofInt k.bits b).toNat
def txor (k : IntKind) (a b : Int) : Int := k.wrap (BitVec.ofInt k.bits a ^^^ BitVec.ofInt k.bits b).toNat
def tandn (k : IntKind) (a b : Int) : Int := k.wrap (BitVec.ofInt k.bits a &&& ~~~ BitVec.ofInt k.bits b).toNat
def tnot (k : IntKind) (a : Int) : Int := k.wrap (BitVec.ofInt k.bits (if k.signed then -1 else k.max) ^^^ BitVec.ofInt k.bits a).toNat
def tstr (s : List UInt8) (i : Int) : Option Int := if 0 ≤ i then (s[i.toNat]?).map fun b => ((b.toNat : Nat) : Int) else none
def tcat (s t : List UInt8) : Option (List UInt8) := if s.length + t.length ≤ 4611686018427387904 then some (s ++ t) else none
def tbnd (x : Option Int) (d : Nat) : Option Nat := match x with
  | none => some d
  | some n => if 0 ≤ n then some n.toNat else none
def tsub {α : Type} (xs : List α) (lo hi : Option Int) : Option (List α) := match tbnd lo 0, tbnd hi xs.length with
  | some l, some u => if l ≤ u ∧ u ≤ xs.length then some ((xs.drop l).take (u - l)) else none
  | _, _ => none
def tapp {α : Type} (by_ : Nat) (xs ys : List α) : Option (List α) := if (xs.length + ys.length) * by_ ≤ 140737488355328 ∧ xs.length + ys.length ≤ 140737488355328 then some (xs ++ ys) else none
def FRs (sz n : Nat) : ABlk := .front n (if n = 0 then 0 else sz)
section
variable {k k' : IntKind} {a b : Int} {s t : List UInt8} {α : Type} {enc : α → List AVal} {xs ys : List α} {sz : Nat} {T T' : Tok} {x y : Bool}
@[simp] theorem abin_shl_t : abin .shl (.int k a) (.int k' b) = tm (tshl k a b) (AVal.int k) := by
  simp only [abin, tshl]; split <;> rfl
@[simp] theorem abin_shr_t : abin .shr (.int k a) (.int k' b) = tm (tshr k a b) (AVal.int k) := by
  simp only [abin, tshr]; split <;> rfl
@[simp] theorem abin_quo_t : abin .quo (.int k a) (.int k b) = tm (tquo k a b) (AVal.int k) := by
  simp only [abin, tquo, ne_eq, not_true_eq_false, if_false]; split <;> rfl
@[simp] theorem abin_rem_t : abin .rem (.int k a) (.int k b) = tm (trem a b) (AVal.int k) := by
  simp only [abin, trem, ne_eq, not_true_eq_false, if_false]; split <;> rfl
@[simp] theorem abin_and_t : abin .and (.int k a) (.int k b) = some (.int k (tand k a b)) := by simp [abin, tand]
@[simp] theorem abin_or_t : abin .or (.int k a) (.int k b) = some (.int k (tor k a b)) := by simp [abin, tor]
@[simp] theorem abin_xor_t : abin .xor (.int k a) (.int k b) = some (.int k (txor k a b)) := by simp [abin, txor]
@[simp] theorem abin_andNot_t : abin .andNot (.int k a) (.int k b) = some (.int k (tandn k a b)) := by simp [abin, tandn]
@[simp] theorem aun_xor_t : aun .xor (.int k a) = some (.int k (tnot k a)) := (rfl)
@[simp] theorem abin_adds_t : abin .add (.str s) (.str t) = tm (tcat s t) AVal.str := by simp only [abin, tcat]; split <;> rfl
@[simp] theorem abin_lsss_t : abin .lss (.str s) (.str t) = some (.bool (Op.bytesLess s t)) := (rfl)
@[simp] theorem abin_leqs_t : abin .leq (.str s) (.str t) = some (.bool (Op.bytesLess s t || s == t)) := (rfl)
@[simp] theorem abin_gtrs_t : abin .gtr (.str s) (.str t) = some (.bool (!(Op.bytesLess s t || s == t))) := (rfl)
@[simp] theorem abin_geqs_t : abin .geq (.str s) (.str t) = some (.bool (!(Op.bytesLess s t))) := (rfl)
@[simp] theorem aindexStr_t : aindexStr (.str s) (.int k a) = tm (tstr s a) (AVal.int .u8) := by
  unfold aindexStr tstr tm; by_cases h : 0 ≤ a
  · simp only [h, if_true]; cases s[a.toNat]? <;> rfl
  · simp [h]
@[simp] theorem apick_int : apick (.bool x) (.int k a) (.int k b) = some (.int k (bif x then a else b)) := by cases x <;> rfl
@[simp] theorem apick_boolb {u v : Bool} : apick (.bool x) (.bool u) (.bool v) = some (.bool (bif x then u else v)) := by cases x <;> rfl
@[simp] theorem apick_str : apick (.bool x) (.str s) (.str t) = some (.str (bif x then s else t)) := by cases x <;> rfl
theorem abound_t {o : Option Int} {d : Nat} : abound (o.map (AVal.int k)) d = tbnd o d := by
  cases o <;> rfl
theorem asliceSl_t {lo hi : Option Int} (h : ∀ x, (enc x).length = sz) : asliceSl sz (.slice (Rw enc xs) T) (lo.map (AVal.int k)) (hi.map (AVal.int k')) = tm (tsub xs lo hi) fun zs => .slice (Rw enc zs) .no := by
  have hall : ((Rw enc xs).all fun r => r.length == sz) = true := by simp [Rw, h]
  have hlen : (Rw enc xs).length = xs.length := by simp [Rw]
  unfold asliceSl tsub
  simp only [abound_t, hall, hlen, and_true]
  cases tbnd lo 0 with
  | none => rfl
  | some l =>
    cases tbnd hi xs.length with
    | none => rfl
    | some u =>
      simp only
      split
      · simp [tm, Rw, List.map_drop, List.map_take]
      · rfl
@[simp] theorem asliceSl_t1 {u : Int} (h : ∀ x, (enc x).length = sz) : asliceSl sz (.slice (Rw enc xs) T) none (some (.int k u)) = tm (tsub xs none (some u)) fun zs => .slice (Rw enc zs) .no := asliceSl_t (k := .i64) (k' := k) (lo := none) (hi := some u) h
@[simp] theorem asliceSl_t2 {l : Int} (h : ∀ x, (enc x).length = sz) : asliceSl sz (.slice (Rw enc xs) T) (some (.int k l)) none = tm (tsub xs (some l) none) fun zs => .slice (Rw enc zs) .no := asliceSl_t (k := k) (k' := .i64) (lo := some l) (hi := none) h
@[simp] theorem asliceSl_t3 {l u : Int} (h : ∀ x, (enc x).length = sz) : asliceSl sz (.slice (Rw enc xs) T) (some (.int k l)) (some (.int k' u)) = tm (tsub xs (some l) (some u)) fun zs => .slice (Rw enc zs) .no := asliceSl_t (lo := some l) (hi := some u) h
theorem asliceStr_t {lo hi : Option Int} : asliceStr (.str s) (lo.map (AVal.int k)) (hi.map (AVal.int k')) = tm (tsub s lo hi) AVal.str := by
  unfold asliceStr tsub
  simp only [abound_t]
  cases tbnd lo 0 with
  | none => rfl
  | some l =>
    cases tbnd hi s.length with
    | none => rfl
    | some u =>
      simp only
      split <;> rfl
@[simp] theorem asliceStr_t1 {u : Int} : asliceStr (.str s) none (some (.int k u)) = tm (tsub s none (some u)) AVal.str := asliceStr_t (k := .i64) (lo := none) (hi := some u)
@[simp] theorem asliceStr_t2 {l : Int} : asliceStr (.str s) (some (.int k l)) none = tm (tsub s (some l) none) AVal.str := asliceStr_t (k' := .i64) (lo := some l) (hi := none)
@[simp] theorem asliceStr_t3 {l u : Int} : asliceStr (.str s) (some (.int k l)) (some (.int k' u)) = tm (tsub s (some l) (some u)) AVal.str := asliceStr_t (lo := some l) (hi := some u)
@[simp] theorem aappend_t {by_ id : Nat} {h : Heap} (he : ∀ x, (enc x).length = sz) (hb : h[id]? = some (FRs sz xs.length)) :
    aappend sz by_ h (.slice (Rw enc xs) (.own id)) (.slice (Rw enc ys) T) = tm (tapp by_ xs ys) fun zs => (.slice (Rw enc zs) (.own id), h.set id (FRs sz zs.length)) := by
  have hr : arowsS sz h (.slice (Rw enc ys) T) = some (Rw enc ys) := by simp [Rw, he]
  have hl : (Rw enc xs).length = xs.length := by simp [Rw]
  have hl2 : (Rw enc ys).length = ys.length := by simp [Rw]
  have e2 : Rw enc (xs ++ ys) = Rw enc xs ++ Rw enc ys := by simp [Rw]
  have hlt := (List.getElem?_eq_some_iff.1 hb).1
  have hself : h.set id (FRs sz xs.length) = h := by
    rw [← (List.getElem?_eq_some_iff.1 hb).2]; exact List.set_getElem_self hlt
  unfold aappend tapp
  simp only [hr, hb]
  by_cases h0 : xs.length = 0
  · have e0 : FRs sz xs.length = .front 0 0 := by simp [FRs, h0]
    have x0 : xs = [] := List.eq_nil_of_length_eq_zero h0
    simp only [e0, hl, hl2]
    by_cases hc : (xs.length + ys.length) * by_ ≤ 140737488355328 ∧ xs.length + ys.length ≤ 140737488355328
    · rw [if_pos hc, if_pos ⟨h0, .inr ⟨trivial, trivial⟩, by rw [h0] at hc; exact hc.1, by rw [h0] at hc; exact hc.2⟩]
      simp only [tm, Option.map_some, Option.some.injEq]
      by_cases h1 : ys.length = 0
      · have y0 : ys = [] := List.eq_nil_of_length_eq_zero h1
        subst y0; subst x0
        simp only [List.length_nil, if_true, List.append_nil] at hself ⊢
        rw [hself]
      · rw [if_neg h1]
        simp [FRs, x0, Rw, h1]
    · rw [if_neg hc, if_neg (fun q => hc ⟨by rw [h0]; exact q.2.2.1, by rw [h0]; exact q.2.2.2⟩)]
      rfl
  · have e0 : FRs sz xs.length = .front xs.length sz := by simp [FRs, h0]
    simp only [e0, hl, hl2]
    by_cases hc : (xs.length + ys.length) * by_ ≤ 140737488355328 ∧ xs.length + ys.length ≤ 140737488355328
    · rw [if_pos hc, if_pos ⟨trivial, .inl trivial, hc.1, hc.2⟩]
      simp only [tm, Option.map_some, Option.some.injEq]
      by_cases h1 : ys.length = 0
      · have y0 : ys = [] := List.eq_nil_of_length_eq_zero h1
        subst y0
        simp only [List.length_nil, if_true, List.append_nil]
        rw [hself]
      · rw [if_neg h1, e2]
        have : FRs sz (xs ++ ys).length = .front (xs.length + ys.length) sz := by simp [FRs, h0]
        rw [this]
    · rw [if_neg hc, if_neg (fun q => hc ⟨q.2.2.1, q.2.2.2⟩)]
      rfl
@[simp] theorem aappend_t0 {by_ id : Nat} {h : Heap} (he : ∀ x, (enc x).length = sz) (hb : h[id]? = some (.front 0 0)) :
    aappend sz by_ h (.slice (Rw enc []) (.own id)) (.slice (Rw enc ys) T) = tm (tapp by_ [] ys) fun zs => (.slice (Rw enc zs) (.own id), h.set id (FRs sz zs.length)) := aappend_t he hb
@[simp] theorem FRs_zero : FRs sz 0 = .front 0 0 := (rfl)
@[simp] theorem bindVH_tm {x : Option α} {f : α → AVal × Heap} {kv : AVal → Heap → Option R} : bindVH (tm x f) kv = tb x fun a => kv (f a).1 (f a).2 := by cases x <;> rfl
@[simp] theorem san1_pptr {m : Nat} {h : Heap} {cs : List AVal} : AVal.san1 m h (.pptr cs) = .pptr cs := (rfl)
@[simp] theorem san_pptr {m : Nat} {h : Heap} {cs : List AVal} : AVal.san m h (.pptr cs) = .pptr cs := (rfl)
@[simp] theorem untok_pptr {cs : List AVal} : AVal.untok (.pptr cs) = .pptr cs := (rfl)
@[simp] theorem sanBlk_FRs {m n : Nat} {h : Heap} : sanBlk m h (FRs sz n) = some (FRs sz n) := by unfold FRs; split <;> rfl
@[simp] theorem getBlk_FRs {n i : Nat} {r : Heap} : getBlk (FRs sz n :: r) (i + 1) = getBlk r i := (rfl)
@[simp] theorem isFresh_FRs0 {r : Heap} : isFresh (FRs sz 0 :: r) 0 = true := (rfl)
@[simp] theorem anewTok_nil {id : Nat} {r : List AVal} : tokCells id (.slice (Rw enc []) .nil :: r) = ((.slice (Rw enc []) (.own id)) :: (tokCells (id + 1) r).1, .front 0 0 :: (tokCells (id + 1) r).2) := (rfl)
@[simp] theorem anewTok_no {id : Nat} {rows : List (List AVal)} {r : List AVal} : tokCells id (.slice rows .no :: r) = (.slice rows .no :: (tokCells id r).1, (tokCells id r).2) := by cases rows <;> rfl
@[simp] theorem anewTok_own {id j : Nat} {rows : List (List AVal)} {r : List AVal} : tokCells id (.slice rows (.own j) :: r) = (.slice rows (.own j) :: (tokCells id r).1, (tokCells id r).2) := by cases rows <;> rfl
@[simp] theorem keep1_Rnil {h : Heap} {id : Nat} : keep1 h (.slice (Rw enc []) (.own id)) (.slice (Rw enc []) .nil) = bif isFresh h id then .slice (Rw enc []) (.own id) else .slice (Rw enc []) .nil := keep1_nil
@[simp] theorem san1_Rnil {m : Nat} {h : Heap} : AVal.san1 m h (.slice (Rw enc []) .nil) = .slice (Rw enc []) .nil := (rfl)
@[simp] theorem san_Rnil {m : Nat} {h : Heap} : AVal.san m h (.slice (Rw enc []) .nil) = .slice (Rw enc []) .nil := (rfl)
end
/-- A row of one cell. -/
def ci (k : IntKind) (n : Int) : List AVal := [.int k n]
def cb (x : Bool) : List AVal := [.bool x]
def cstr (s : List UInt8) : List AVal := [.str s]
def csl {α : Type} (enc : α → List AVal) (xs : List α) : List AVal := [.slice (Rw enc xs) .no]
@[simp] theorem ci_eq {k : IntKind} {n : Int} : ci k n = [.int k n] := (rfl)
@[simp] theorem cb_eq {x : Bool} : cb x = [.bool x] := (rfl)
@[simp] theorem cstr_eq {s : List UInt8} : cstr s = [.str s] := (rfl)
@[simp] theorem csl_eq {α : Type} {enc : α → List AVal} {xs : List α} : csl enc xs = [.slice (Rw enc xs) .no] := (rfl)

@[simp] theorem guardSel_t {w c : Bool} {x y : Option R} : guardSel w (.bool c) x y = bif w then tc c x y else tc c y x := by cases w <;> rfl
attribute [simp] anew tokCells putCells abuild afield apart
@[simp] theorem aaextract_nil {i : Nat} {vs : List AVal} : aextract i (.tuple vs) = vs[i]? := (rfl)
@[simp] theorem Rw_length {α : Type} {enc : α → List AVal} {xs : List α} : (Rw enc xs).length = xs.length := by simp [Rw]
@[simp] theorem endR_t {m : Nat} {e : Ex} {vs : List AVal} {h : Heap} : endR m e vs h = (trunc m h).map fun h' => (e.san m h, vs.map (·.san m h), h') := (rfl)
@[simp] theorem trunc_t {m : Nat} {h : Heap} : trunc m h = sanBlks m h (h.take m) := (rfl)
attribute [simp] san1_ptr finR_zero
/-! ### Calls -/
theorem evF_le {P : Program} {A : Ann} : ∀ n, KLim (evF P A lpW n) fun k => evF P A lpW k := by
  intro n
  induction n with
  | zero => intro f args h r hb; cases hb
  | succ n ih =>
    intro f args h r hb
    obtain ⟨N, hN⟩ := evB_lim (lp := lpW) (fun _ _ _ h => h) ih f args h r hb
    refine ⟨N + 1, fun k hk => ?_⟩
    cases k with
    | zero => omega
    | succ k => exact hN k (by omega)
theorem evW_eq {P : Program} {A : Ann} {f : Nat} {args : List AVal} {h : Heap} : evW P A f args h = evB P A lpW (evW P A) f args h := by
  apply Option.ext
  intro r
  refine ⟨fun hb => ?_, fun hb => evW_of hb⟩
  obtain ⟨N, hN⟩ := evW_iff.1 hb
  have h1 := hN (N + 1) (by omega)
  obtain ⟨M, hM⟩ := evB_lim (lp := lpW) (K := evF P A lpW N) (Kn := fun _ => evW P A) (fun _ _ _ h => h) (fun f args h r hb => Ev.of fun _ => evW_iff.2 (evF_le N f args h r hb)) f args h r h1
  exact hM M (Nat.le_refl _)
/-- A function that is run on its arguments alone, by its typed form. -/
theorem call_t {α : Type} {P : Program} {A : Ann} {f : Nat} {args : List AVal} {h : Heap} {x : Option α} {v : α → AVal} {m : Option (Res × Heap)} (hp : A.pure f = true) (hs : args.all (AVal.shut1 0) = true)
    (he : evB P A lpW (evW P A) f args [] = m) (hk : m = tm x fun r => (.ret (v r), [])) : callP A (evW P A) f args h = tm x fun r => (.ret (v r), h) := by
  simp only [callP, hp, cond_true, hs, evW_eq, he, hk]
  cases x <;> rfl
/-- The same, where blocks of its own stay. -/
theorem callO_t {α : Type} {P : Program} {A : Ann} {f : Nat} {args : List AVal} {h : Heap} {x : Option α} {v v' : α → AVal} {g g' : α → Heap} {m : Option (Res × Heap)} (hp : A.pure f = true) (hs : args.all (AVal.shut1 0) = true)
    (he : evB P A lpW (evW P A) f args [] = m) (hk : m = tm x fun r => (.ret (v r), g r)) (hb : ∀ r, pureBack (A.out f) h (.ret (v r), g r) = some (.ret (v' r), h ++ g' r)) : callP A (evW P A) f args h = tm x fun r => (.ret (v' r), h ++ g' r) := by
  simp only [callP, hp, cond_true, hs, evW_eq, he, hk]
  cases x with
  | none => rfl
  | some r => exact hb r

/-! ### Lists that are written into -/
def Vc {α : Type} (enc : α → List AVal) (sz : Nat) (xs : List α) : ABlk := .vec xs.length sz (Rw enc xs).flatten
def tmk {α : Type} (by_ : Nat) (z : α) (n : Int) : Option (List α) := if 0 ≤ n ∧ n.toNat * by_ ≤ 140737488355328 ∧ n ≤ 140737488355328 then some (List.replicate n.toNat z) else none
/-- An index within a length. -/
def tin (n : Nat) (i : Int) : Option Nat := if 0 ≤ i ∧ i < (n : Int) then some i.toNat else none
def tvg {α : Type} (n : Nat) (xs : List α) (j : Nat) : Option α := if xs.length = n then xs[j]? else none
def tvs {α : Type} (n : Nat) (xs : List α) (j : Nat) (x : α) : Option (List α) := if xs.length = n ∧ j < xs.length then some (xs.set j x) else none
def tva {α : Type} (by_ tot n : Nat) (xs ys : List α) : Option (List α) :=
  if xs.length = tot ∧ n ≤ tot ∧ (n + ys.length) * by_ ≤ 140737488355328 ∧ n + ys.length ≤ 140737488355328 then some (xs.take n ++ ys ++ xs.drop (n + ys.length)) else none
section
variable {α : Type} {enc : α → List AVal} {sz : Nat} {xs ys : List α} {h : Heap} {id n tot len off j : Nat} {k : IntKind} {i : Int}
theorem flat_len (he : ∀ x, (enc x).length = sz) : ∀ xs : List α, (Rw enc xs).flatten.length = xs.length * sz
  | [] => by simp [Rw]
  | x :: r => by
    have := flat_len he r
    simp only [Rw, List.map_cons, List.flatten_cons, List.length_append, List.length_cons] at this ⊢
    rw [he, this, Nat.succ_mul, Nat.add_comm]
theorem flat_drop (he : ∀ x, (enc x).length = sz) : ∀ (xs : List α) (j : Nat), (Rw enc xs).flatten.drop (j * sz) = (Rw enc (xs.drop j)).flatten
  | xs, 0 => by simp
  | [], j + 1 => by simp [Rw]
  | x :: r, j + 1 => by
    have := flat_drop he r j
    simp only [Rw, List.map_cons, List.flatten_cons, List.drop_succ_cons] at this ⊢
    rw [Nat.succ_mul, Nat.add_comm, ← List.drop_drop, ← this]
    congr 1
    have e : (enc x).length = sz := he x
    rw [← e, List.drop_left]
theorem flat_take (he : ∀ x, (enc x).length = sz) : ∀ (xs : List α) (j : Nat), (Rw enc xs).flatten.take (j * sz) = (Rw enc (xs.take j)).flatten
  | xs, 0 => by simp [Rw]
  | [], j + 1 => by simp [Rw]
  | x :: r, j + 1 => by
    have := flat_take he r j
    simp only [Rw, List.map_cons, List.flatten_cons, List.take_succ_cons] at this ⊢
    have e : (enc x).length = sz := he x
    rw [Nat.succ_mul, Nat.add_comm, ← this, ← e, List.take_append]
    congr 1
    · exact List.take_of_length_le (by omega)
    · congr 1; omega
theorem flat_get (he : ∀ x, (enc x).length = sz) (ho : off < sz) : (Rw enc xs).flatten[j * sz + off]? = (xs[j]?).bind fun x => (enc x)[off]? := by
  rw [← List.getElem?_drop, flat_drop he]
  cases hx : xs[j]? with
  | none =>
    have : xs.length ≤ j := by simpa using hx
    rw [List.drop_eq_nil_of_le this]; simp [Rw]
  | some x =>
    have hl := (List.getElem?_eq_some_iff.1 hx).1
    rw [List.drop_eq_getElem_cons hl, (List.getElem?_eq_some_iff.1 hx).2]
    simp only [Rw, List.map_cons, List.flatten_cons, Option.bind_some]
    rw [List.getElem?_append_left (by rw [he]; exact ho)]
theorem aload_vp (he : ∀ x, (enc x).length = sz) (hb : h[id]? = some (Vc enc sz xs)) (ho : off < sz) : aload false 1 h (.vptr id tot (j * sz + off)) = (tvg tot xs j).bind fun x => (enc x)[off]? := by
  simp only [aload, getVec, hb, Vc, tvg]
  by_cases e : xs.length = tot
  · simp only [e, if_true, apart, cond_false]
    exact flat_get he ho
  · simp [e]
theorem flat_split (he : ∀ x, (enc x).length = sz) {x : α} (hx : xs[j]? = some x) : (Rw enc xs).flatten = (Rw enc (xs.take j)).flatten ++ (enc x ++ (Rw enc (xs.drop (j + 1))).flatten) := by
  have hl := (List.getElem?_eq_some_iff.1 hx).1
  have e : xs = xs.take j ++ x :: xs.drop (j + 1) := by
    have := (List.take_append_drop j xs).symm
    rw [List.drop_eq_getElem_cons hl, (List.getElem?_eq_some_iff.1 hx).2] at this
    exact this
  have e2 : Rw enc xs = Rw enc (xs.take j) ++ (enc x :: Rw enc (xs.drop (j + 1))) := by
    have := congrArg (Rw enc) e
    rw [this]; simp only [Rw, List.map_append, List.map_cons]
  rw [e2, List.flatten_append, List.flatten_cons]
theorem set_split {x : α} (hl : j < xs.length) : xs.set j x = xs.take j ++ x :: xs.drop (j + 1) := by
  rw [List.set_eq_take_append_cons_drop, if_pos hl]
theorem take_len (he : ∀ x, (enc x).length = sz) (hl : j < xs.length) : (Rw enc (xs.take j)).flatten.length = j * sz := by
  rw [flat_len he, List.length_take, Nat.min_eq_left (by omega)]
theorem aload_vpT (he : ∀ x, (enc x).length = sz) (hb : h[id]? = some (Vc enc sz xs)) (hz : 0 < sz) : aload true sz h (.vptr id tot (j * sz)) = tm (tvg tot xs j) fun x => .agg (enc x) := by
  simp only [aload, getVec, hb, Vc, tvg]
  by_cases e : xs.length = tot
  · simp only [e, if_true, apart, cond_true]
    have hl := flat_len he xs
    cases hx : xs[j]? with
    | none =>
      have h1 : xs.length ≤ j := by simpa using hx
      have h2 : xs.length * sz ≤ j * sz := Nat.mul_le_mul_right sz h1
      rw [if_neg (by omega)]; rfl
    | some x =>
      have hj := (List.getElem?_eq_some_iff.1 hx).1
      have h2 : (j + 1) * sz ≤ xs.length * sz := Nat.mul_le_mul_right sz hj
      rw [Nat.succ_mul] at h2
      rw [if_pos (by omega), flat_split he hx, ← take_len he hj, List.drop_left, ← he x, List.take_left]
      rfl
  · simp [e, tm]
theorem putCells_at {A B o v : List AVal} {off : Nat} (ho : off + v.length ≤ o.length) : putCells (A ++ (o ++ B)) (A.length + off) v = A ++ (putCells o off v ++ B) := by
  unfold putCells
  rw [List.take_append, List.take_of_length_le (by omega : A.length ≤ A.length + off), Nat.add_sub_cancel_left, List.take_append_of_le_length (by omega)]
  rw [Nat.add_assoc, ← List.drop_drop, List.drop_left, List.drop_append_of_le_length (by omega)]
  simp
theorem astore_vpF {m : Nat} {v : AVal} (upd : α → α) (he : ∀ x, (enc x).length = sz) (hb : h[id]? = some (Vc enc sz xs)) (hv : v.cells.length = m) (hm : off + m ≤ sz) (hz : 0 < m) (hok : v.cells.all AVal.cellOk = true) (hu : ∀ x, enc (upd x) = putCells (enc x) off v.cells) :
    astore m h (.vptr id tot (j * sz + off)) v = tb (tvg tot xs j) fun x => tm (tvs tot xs j (upd x)) fun zs => h.set id (Vc enc sz zs) := by
  simp only [astore, getVec, hb, Vc, tvg]
  by_cases e : xs.length = tot
  · simp only [e, if_true]
    have hl := flat_len he xs
    cases hx : xs[j]? with
    | none =>
      have h1 : xs.length ≤ j := by simpa using hx
      have h2 : xs.length * sz ≤ j * sz := Nat.mul_le_mul_right sz h1
      rw [if_neg (by omega)]; rfl
    | some x =>
      have hj := (List.getElem?_eq_some_iff.1 hx).1
      have h2 : (j + 1) * sz ≤ xs.length * sz := Nat.mul_le_mul_right sz hj
      rw [Nat.succ_mul] at h2
      rw [if_pos ⟨hv, by omega, hok⟩]
      simp only [tb_some, tvs, e, true_and]
      rw [if_pos (by omega)]
      simp only [tm_some, List.length_set, e, Option.some.injEq]
      congr 2
      have hx2 : (xs.set j (upd x))[j]? = some (upd x) := by simp [hj]
      have t1 : (xs.set j (upd x)).take j = xs.take j := by rw [List.take_set_of_le (Nat.le_refl _)]
      have t2 : (xs.set j (upd x)).drop (j + 1) = xs.drop (j + 1) := by rw [List.drop_set_of_lt (by omega)]
      rw [flat_split he hx, flat_split he hx2, t1, t2, hu x, ← take_len he hj, putCells_at (by rw [hv, he]; omega)]
  · simp [e, tb]
theorem astore_vpE {v : AVal} (x : α) (he : ∀ x, (enc x).length = sz) (hb : h[id]? = some (Vc enc sz xs)) (hz : 0 < sz) (hok : v.cells.all AVal.cellOk = true) (hu : v.cells = enc x) :
    astore sz h (.vptr id tot (j * sz)) v = tb (tvg tot xs j) fun _ => tm (tvs tot xs j x) fun zs => h.set id (Vc enc sz zs) := by
  have := astore_vpF (tot := tot) (j := j) (off := 0) (m := sz) (v := v) (fun _ => x) he hb (by rw [hu, he]) (by omega) hz hok (fun y => by
    unfold putCells
    rw [hu, List.take_zero, List.nil_append, Nat.zero_add, List.drop_eq_nil_of_le (by rw [he, he]; exact Nat.le_refl _), List.append_nil])
  simpa using this
theorem ix_vs : ix sz (.vslice id tot 0 len sz) (.int k i) = fun f => tb (tin len i) fun j => f (.vptr id tot (0 + j * sz)) := by
  funext f
  simp only [ix, aindexSl, tin]
  by_cases hc : 0 ≤ i ∧ i < (len : Int)
  · rw [if_pos ⟨hc.1, hc.2, trivial⟩, if_pos hc]; rfl
  · rw [if_neg (fun q => hc ⟨q.1, q.2.1⟩), if_neg hc]; rfl
theorem aindexSl_vs : aindexSl sz (.vslice id tot 0 len sz) (.int k i) = tm (tin len i) fun j => .vptr id tot (j * sz) := by
  simp only [aindexSl, tin]
  by_cases hc : 0 ≤ i ∧ i < (len : Int)
  · rw [if_pos ⟨hc.1, hc.2, trivial⟩, if_pos hc]; simp [tm]
  · rw [if_neg (fun q => hc ⟨q.1, q.2.1⟩), if_neg hc]; rfl
theorem amakeSliceV_t {by_ : Nat} {z : α} {zero : List AVal} (hz : enc z = zero) : amakeSliceV sz by_ zero (.int k i) h = tm (tmk by_ z i) fun l => (.vslice h.length l.length 0 l.length sz, h ++ [Vc enc sz l]) := by
  subst hz
  simp only [amakeSliceV, tmk]
  split
  · simp [tm, Vc, Rw]
  · rfl
theorem aappendV_t {by_ : Nat} {T : Tok} (he : ∀ x, (enc x).length = sz) (hz : 0 < sz) (hb : h[id]? = some (Vc enc sz xs)) (hn : n ≤ tot) (hy : ys ≠ []) :
    aappendV sz by_ h (.vslice id tot 0 n sz) (.slice (Rw enc ys) T) = tm (tva by_ tot n xs ys) fun zs => (.vslice id zs.length 0 (n + ys.length) sz, h.set id (Vc enc sz zs)) := by
  have hr : arowsV sz h (.slice (Rw enc ys) T) = some (Rw enc ys) := by simp [Rw, he]
  have hyl : ys.length ≠ 0 := fun e => hy (List.eq_nil_of_length_eq_zero e)
  unfold aappendV tva
  simp only [hr, getVec, hb, Vc, Rw_length]
  by_cases e : xs.length = tot
  · simp only [e, if_true, true_and, hn, true_and]
    by_cases hc : (n + ys.length) * by_ ≤ 140737488355328 ∧ n + ys.length ≤ 140737488355328
    · rw [if_pos hc, if_pos hc, if_neg hyl]
      have hl := flat_len he xs
      have hly := flat_len he ys
      by_cases ht : n + ys.length ≤ tot
      · rw [if_pos ht]
        have hlen : (xs.take n ++ ys ++ xs.drop (n + ys.length)).length = tot := by simp; omega
        simp only [tm_some, hlen, Option.some.injEq, Prod.mk.injEq, true_and]
        congr 2
        unfold putCells
        rw [hly, ← Nat.add_mul, flat_take he, flat_drop he]
        simp [Rw, List.map_append, List.flatten_append]
      · rw [if_neg ht]
        have hd : xs.drop (n + ys.length) = [] := List.drop_eq_nil_of_le (by omega)
        have hlen : (xs.take n ++ ys ++ xs.drop (n + ys.length)).length = n + ys.length := by rw [hd]; simp; omega
        simp only [tm_some, hlen, Option.some.injEq, Prod.mk.injEq, true_and]
        congr 2
        rw [flat_take he, hd]
        simp [Rw, List.map_append, List.flatten_append]
    · rw [if_neg hc, if_neg hc]; rfl
  · simp [e, tm]
attribute [simp] aindexSl_vs
@[simp] theorem san1_vs {m : Nat} (hi : id < m) : AVal.san1 m h (.vslice id tot off len sz) = .vslice id tot off len sz := san1_vslice hi
@[simp] theorem sanCells_flat {m : Nat} (hs : ∀ x, sanCells m h (enc x) = some (enc x)) : sanCells m h (Rw enc xs).flatten = some (Rw enc xs).flatten := by
  have app : ∀ (a b a' b' : List AVal), sanCells m h a = some a' → sanCells m h b = some b' → sanCells m h (a ++ b) = some (a' ++ b') := by
    intro a
    induction a with
    | nil => intro b a' b' h1 h2; simp only [sanCells_nil, Option.some.injEq] at h1; subst h1; exact h2
    | cons v a ih =>
      intro b a' b' h1 h2
      rw [sanCells_cons] at h1
      rw [List.cons_append, sanCells_cons]
      cases hc : (AVal.san1 m h v).cellOk with
      | false => rw [hc] at h1; cases h1
      | true =>
        rw [hc] at h1
        simp only [cond_true, Option.map_eq_some_iff] at h1 ⊢
        obtain ⟨a2, h3, rfl⟩ := h1
        exact ⟨_, ih b a2 b' h3 h2, rfl⟩
  induction xs with
  | nil => simp [Rw]
  | cons x r ih =>
    simp only [Rw, List.map_cons, List.flatten_cons] at ih ⊢
    exact app _ _ _ _ (hs x) ih
@[simp] theorem sanBlk_Vc {m : Nat} (hs : ∀ x, sanCells m h (enc x) = some (enc x)) : sanBlk m h (Vc enc sz xs) = some (Vc enc sz xs) := by
  simp only [Vc, sanBlk_vec, sanCells_flat hs, Option.map_some]
/-! ### Calls that see some blocks alone -/
theorem refs_Vc (hs : ∀ x, (enc x).flatMap AVal.refs1 = []) : (Vc enc sz xs).refs = [] := by
  simp only [Vc, ABlk.refs]
  induction xs with
  | nil => simp [Rw]
  | cons x r ih =>
    simp only [Rw, List.map_cons, List.flatten_cons, List.flatMap_append] at ih ⊢
    rw [hs x, ih]; rfl
theorem ren_Vc {f : Nat → Nat} (hs : ∀ x, (enc x).map (AVal.ren0 f) = enc x) : (Vc enc sz xs).ren f = Vc enc sz xs := by
  simp only [Vc, ABlk.ren]
  congr 1
  induction xs with
  | nil => simp [Rw]
  | cons x r ih =>
    simp only [Rw, List.map_cons, List.flatten_cons, List.map_append] at ih ⊢
    rw [hs x, ih]
theorem ok_Vc {p : Nat → Bool} (hs : ∀ x, (enc x).all (AVal.ok0 p) = true) : (Vc enc sz xs).ok p = true := by
  simp only [Vc, ABlk.ok]
  induction xs with
  | nil => simp [Rw]
  | cons x r ih =>
    simp only [Rw, List.map_cons, List.flatten_cons, List.all_append] at ih ⊢
    rw [hs x, ih]; rfl
end
/-! ### The same, by the block -/
def vld (g : Bool) (n : Nat) (b : Option ABlk) (tot a : Nat) : Option AVal := match b with
  | some (.vec tot' _ cs) => if tot' = tot then apart g n cs a else none
  | _ => none
def vst (n id : Nat) (h : Heap) (b : Option ABlk) (tot a : Nat) (v : AVal) : Option Heap := match b with
  | some (.vec tot' sz cs) => if tot' = tot then (if v.cells.length = n ∧ a + n ≤ cs.length ∧ v.cells.all AVal.cellOk then some (h.set id (.vec tot sz (putCells cs a v.cells))) else none) else none
  | _ => none
section
variable {α : Type} {enc : α → List AVal} {sz : Nat} {xs ys : List α} {h : Heap} {id n tot len off j a : Nat} {k : IntKind} {i : Int} {g : Bool} {v : AVal}
@[simp] theorem aload_vb : aload g n h (.vptr id tot a) = vld g n (h[id]?) tot a := by
  simp only [aload, getVec, vld]
  cases h[id]? with
  | none => rfl
  | some b => cases b with
    | vec t s cs => by_cases e : t = tot <;> simp [e]
    | _ => rfl
@[simp] theorem astore_vb : astore n h (.vptr id tot a) v = vst n id h (h[id]?) tot a v := by
  simp only [astore, getVec, vst]
  cases h[id]? with
  | none => rfl
  | some b => cases b with
    | vec t s cs => by_cases e : t = tot <;> simp [e]
    | _ => rfl
theorem one_blk (b : ABlk) : ([b] : Heap)[0]? = some b := rfl
@[simp] theorem vld_t (he : ∀ x, (enc x).length = sz) (ho : off < sz) : vld false 1 (some (Vc enc sz xs)) tot (j * sz + off) = (tvg tot xs j).bind fun x => (enc x)[off]? := by
  rw [← one_blk, ← aload_vb]; exact aload_vp he rfl ho
@[simp] theorem vld_t0 (he : ∀ x, (enc x).length = sz) (ho : 0 < sz) : vld false 1 (some (Vc enc sz xs)) tot (j * sz) = (tvg tot xs j).bind fun x => (enc x)[0]? := vld_t (off := 0) he ho
@[simp] theorem vld_t1 (he : ∀ x, (enc x).length = 1) : vld false 1 (some (Vc enc 1 xs)) tot j = (tvg tot xs j).bind fun x => (enc x)[0]? := by
  have := vld_t0 (xs := xs) (tot := tot) (j := j) he (by omega); rwa [Nat.mul_one] at this
@[simp] theorem vld_tT (he : ∀ x, (enc x).length = sz) (hz : 0 < sz) : vld true sz (some (Vc enc sz xs)) tot (j * sz) = tm (tvg tot xs j) fun x => .agg (enc x) := by
  rw [← one_blk, ← aload_vb]; exact aload_vpT he rfl hz
@[simp] theorem bind_tvg {β : Type} {f : α → Option β} : (tvg n xs j).bind f = tb (tvg n xs j) f := rfl
theorem vst_F {m : Nat} (upd : α → α) (hb : h[id]? = some (Vc enc sz xs)) (he : ∀ x, (enc x).length = sz) (hv : v.cells.length = m) (hm : off + m ≤ sz) (hz : 0 < m) (hok : v.cells.all AVal.cellOk = true) (hu : ∀ x, enc (upd x) = putCells (enc x) off v.cells) :
    vst m id h (some (Vc enc sz xs)) tot (j * sz + off) v = tb (tvg tot xs j) fun x => tm (tvs tot xs j (upd x)) fun zs => h.set id (Vc enc sz zs) := by
  rw [← hb, ← astore_vb]; exact astore_vpF upd he hb hv hm hz hok hu
theorem vst_F' {m : Nat} (upd : α → α) (he : ∀ x, (enc x).length = sz) (hv : v.cells.length = m) (hm : off + m ≤ sz) (hz : 0 < m) (hok : v.cells.all AVal.cellOk = true) (hu : ∀ x, enc (upd x) = putCells (enc x) off v.cells) :
    vst m id h (some (Vc enc sz xs)) tot (j * sz + off) v = tb (tvg tot xs j) fun x => tm (tvs tot xs j (upd x)) fun zs => h.set id (Vc enc sz zs) := by
  -- the heap's own block does not matter
  have key := vst_F (h := [Vc enc sz xs]) (id := 0) (tot := tot) (j := j) upd rfl he hv hm hz hok hu
  unfold vst Vc at key ⊢
  simp only at key ⊢
  by_cases e : xs.length = tot
  · simp only [e, if_true] at key ⊢
    by_cases c : v.cells.length = m ∧ j * sz + off + m ≤ (Rw enc xs).flatten.length ∧ v.cells.all AVal.cellOk = true
    · rw [if_pos c] at key ⊢
      cases ht : tvg tot xs j with
      | none => rw [ht] at key; cases key
      | some x =>
        rw [ht] at key
        simp only [tb_some] at key ⊢
        cases hs : tvs tot xs j (upd x) with
        | none => rw [hs] at key; cases key
        | some zs =>
          rw [hs] at key
          simp only [tm_some, List.set_cons_zero, Option.some.injEq, List.cons.injEq, and_true] at key ⊢
          rw [key]
    · rw [if_neg c] at key ⊢
      cases ht : tvg tot xs j with
      | none => rfl
      | some x =>
        rw [ht] at key
        simp only [tb_some] at key ⊢
        cases hs : tvs tot xs j (upd x) with
        | none => rfl
        | some zs => rw [hs] at key; cases key
  · simp [e, tvg, tb]
theorem vst_E (x : α) (he : ∀ x, (enc x).length = sz) (hz : 0 < sz) (hok : v.cells.all AVal.cellOk = true) (hu : v.cells = enc x) :
    vst sz id h (some (Vc enc sz xs)) tot (j * sz) v = tb (tvg tot xs j) fun _ => tm (tvs tot xs j x) fun zs => h.set id (Vc enc sz zs) := by
  have := vst_F' (h := h) (id := id) (tot := tot) (j := j) (off := 0) (m := sz) (v := v) (xs := xs) (fun _ => x) he (by rw [hu, he]) (by omega) hz hok (fun y => by
    unfold putCells
    rw [hu, List.take_zero, List.nil_append, Nat.zero_add, List.drop_eq_nil_of_le (by rw [he, he]; exact Nat.le_refl _), List.append_nil])
  simpa using this
theorem vst_E1 (x : α) (he : ∀ x, (enc x).length = 1) (hok : v.cells.all AVal.cellOk = true) (hu : v.cells = enc x) :
    vst 1 id h (some (Vc enc 1 xs)) tot j v = tb (tvg tot xs j) fun _ => tm (tvs tot xs j x) fun zs => h.set id (Vc enc 1 zs) := by
  have := vst_E (h := h) (id := id) (tot := tot) (j := j) (xs := xs) x he (by omega) hok hu
  rwa [Nat.mul_one] at this
def tvp {α : Type} (by_ n : Nat) (xs ys : List α) : Option (List α) := if xs.length = n ∧ (n + ys.length) * by_ ≤ 140737488355328 ∧ n + ys.length ≤ 140737488355328 then some (xs ++ ys) else none
def vap (sz by_ id : Nat) (h : Heap) (b : Option ABlk) (tot n : Nat) (new : List (List AVal)) : Option (AVal × Heap) := match b with
  | some (.vec tot' sz1 cs) => if tot' = tot then (if sz1 = sz ∧ (n + new.length) * by_ ≤ 140737488355328 ∧ n + new.length ≤ 140737488355328
      then (if new.length = 0 then some (.vslice id tot 0 n sz, h)
        else if n + new.length ≤ tot then some (.vslice id tot 0 (n + new.length) sz, h.set id (.vec tot sz (putCells cs (n * sz) new.flatten)))
        else some (.vslice id (n + new.length) 0 (n + new.length) sz, h.set id (.vec (n + new.length) sz (cs.take (n * sz) ++ new.flatten)))) else none) else none
  | _ => none
@[simp] theorem aappendV_b {by_ : Nat} {T : Tok} (he : ∀ x, (enc x).length = sz) : aappendV sz by_ h (.vslice id tot 0 n sz) (.slice (Rw enc ys) T) = vap sz by_ id h (h[id]?) tot n (Rw enc ys) := by
  have hr : arowsV sz h (.slice (Rw enc ys) T) = some (Rw enc ys) := by simp [Rw, he]
  unfold aappendV vap
  simp only [hr, getVec]
  cases h[id]? with
  | none => rfl
  | some b => cases b with
    | vec t s cs => by_cases e : t = tot <;> simp [e]
    | _ => rfl
@[simp] theorem vap_t {by_ : Nat} (he : ∀ x, (enc x).length = sz) (hy : ys ≠ []) : vap sz by_ id h (some (Vc enc sz xs)) n n (Rw enc ys) = tm (tvp by_ n xs ys) fun zs => (.vslice id zs.length 0 zs.length sz, h.set id (Vc enc sz zs)) := by
  have hyl : ys.length ≠ 0 := fun e => hy (List.eq_nil_of_length_eq_zero e)
  simp only [vap, Vc, tvp, Rw_length]
  by_cases e : xs.length = n
  · simp only [e, if_true, true_and]
    by_cases hc : (n + ys.length) * by_ ≤ 140737488355328 ∧ n + ys.length ≤ 140737488355328
    · rw [if_pos hc, if_pos hc, if_neg hyl, if_neg (by omega)]
      have ht : (Rw enc xs).flatten.take (n * sz) = (Rw enc xs).flatten := List.take_of_length_le (by rw [flat_len he, e]; exact Nat.le_refl _)
      rw [ht]
      simp [tm, e, Rw]
    · rw [if_neg hc, if_neg hc]; rfl
  · simp [e, tm]
end
theorem sub_t {α : Type} {P : Program} {A : Ann} {f : Nat} {args args' : List AVal} {h hs : Heap} {ids : List Nat} {x : Option α} {v v' : α → AVal} {h1 h2 : α → Heap} {m : Option (Res × Heap)} (hp : A.pure f = false) (hsub : A.sub f = true)
    (hr : reach h args = ids) (ho : subOk ids args h = true) (ha : args.map (AVal.ren (idxN ids)) = args') (hh : subH ids h = hs)
    (he : evB P A lpW (evW P A) f args' hs = m) (hk : m = tm x fun r => (.ret (v r), h1 r)) (hb : ∀ r, subBack ids h (.ret (v r), h1 r) = some (.ret (v' r), h2 r)) :
    callP A (evW P A) f args h = tm x fun r => (.ret (v' r), h2 r) := by
  simp only [callP, hp, hsub, cond_true, cond_false, subC, hr, subI, ho, ha, hh, evW_eq, he, hk]
  cases x with
  | none => rfl
  | some r => exact hb r
@[simp] theorem finR_t {m : Nat} {v : AVal} {h : Heap} : finR m v h = (trunc m h).map fun h' => (.ret (v.san m h).untok, h') := (rfl)
attribute [simp] san_vslice
attribute [simp] reach closeN addN AVal.refs AVal.refs1 refOf subOk subH subBack AVal.ren AVal.ren0 AVal.ok AVal.ok0 Res.ren Res.ok idxN distinctN putBack refs_Vc ren_Vc ok_Vc
section
variable {cs : List AVal} {t z : Nat} {es : List (AVal × AVal)} {f : Nat → Nat} {p : Nat → Bool}
@[simp] theorem refs_cells : (ABlk.cells cs).refs = cs.flatMap AVal.refs1 := (rfl)
@[simp] theorem refs_vec : (ABlk.vec t z cs).refs = cs.flatMap AVal.refs1 := (rfl)
@[simp] theorem refs_map : (ABlk.map es).refs = es.flatMap fun e => e.2.refs1 := (rfl)
@[simp] theorem refs_front : (ABlk.front t z).refs = [] := (rfl)
@[simp] theorem refs_free : ABlk.free.refs = [] := (rfl)
@[simp] theorem refs_gone : ABlk.gone.refs = [] := (rfl)
@[simp] theorem ren_cells : (ABlk.cells cs).ren f = .cells (cs.map (AVal.ren0 f)) := (rfl)
@[simp] theorem ren_vec : (ABlk.vec t z cs).ren f = .vec t z (cs.map (AVal.ren0 f)) := (rfl)
@[simp] theorem ren_map : (ABlk.map es).ren f = .map (es.map fun e => (e.1, e.2.ren0 f)) := (rfl)
@[simp] theorem ren_front : (ABlk.front t z).ren f = .front t z := (rfl)
@[simp] theorem ren_free : ABlk.free.ren f = .free := (rfl)
@[simp] theorem ren_gone : ABlk.gone.ren f = .gone := (rfl)
@[simp] theorem ok_cells : (ABlk.cells cs).ok p = cs.all (AVal.ok0 p) := (rfl)
@[simp] theorem ok_vec : (ABlk.vec t z cs).ok p = cs.all (AVal.ok0 p) := (rfl)
@[simp] theorem ok_map : (ABlk.map es).ok p = es.all fun e => e.2.ok0 p := (rfl)
@[simp] theorem ok_front : (ABlk.front t z).ok p = true := (rfl)
@[simp] theorem ok_free : ABlk.free.ok p = true := (rfl)
@[simp] theorem ok_gone : ABlk.gone.ok p = true := (rfl)
end
@[simp] theorem refs_FRs {sz n : Nat} : (FRs sz n).refs = [] := (rfl)
@[simp] theorem ren_FRs {sz n : Nat} {f : Nat → Nat} : (FRs sz n).ren f = FRs sz n := (rfl)
@[simp] theorem ok_FRs {sz n : Nat} {p : Nat → Bool} : (FRs sz n).ok p = true := (rfl)
@[simp] theorem aappend_nil_t {α : Type} {enc : α → List AVal} {sz by_ : Nat} {h : Heap} {ys : List α} {T : Tok} {k : AVal → Heap → Option R} (he : ∀ x, (enc x).length = sz) :
    bindVH (aappend sz by_ h (.slice (Rw enc []) .nil) (.slice (Rw enc ys) T)) k = tc ys.isEmpty (k (.slice (Rw enc []) .nil) h) (tb (tapp by_ [] ys) fun zs => k (.slice (Rw enc zs) (.own h.length)) (h ++ [FRs sz zs.length])) := by
  have hr : arowsS sz h (.slice (Rw enc ys) T) = some (Rw enc ys) := by simp [Rw, he]
  have e0 : Rw enc ([] : List α) = [] := rfl
  unfold aappend
  rw [e0]
  simp only [hr, Rw_length]
  cases ys with
  | nil => rfl
  | cons y r =>
    simp only [List.isEmpty_cons, tc_false, tapp, List.length_nil, Nat.zero_add, List.nil_append]
    rw [if_neg (by simp)]
    split
    · simp [FRs, bindVH, tb]
    · rfl
@[simp] theorem keep1_Rnil1 {α : Type} {enc : α → List AVal} {h : Heap} {rows : List (List AVal)} : keep1 h (.slice rows .no) (.slice (Rw enc []) .nil) = .slice (Rw enc []) .nil := keep1_nil1
@[simp] theorem keep1_Rnil0 {α : Type} {enc : α → List AVal} {h : Heap} : keep1 h (.slice (Rw enc []) .nil) (.slice (Rw enc []) .nil) = .slice (Rw enc []) .nil := (rfl)
/-! ### A list that is written into, or nil -/
def Vs (id sz n : Nat) : AVal := if n = 0 then .slice [] (.own id) else .vslice id n 0 n sz
def Vb {α : Type} (enc : α → List AVal) (sz : Nat) (xs : List α) : ABlk := if xs.length = 0 then .front 0 0 else .vec xs.length sz (Rw enc xs).flatten
@[simp] theorem aappendV_n {α : Type} {enc : α → List AVal} {sz by_ id : Nat} {h : Heap} {xs ys : List α} {T : Tok} (he : ∀ x, (enc x).length = sz) (hy : ys ≠ []) (hb : h[id]? = some (Vb enc sz xs)) :
    aappendV sz by_ h (Vs id sz xs.length) (.slice (Rw enc ys) T) = tm (tapp by_ xs ys) fun zs => (.vslice id zs.length 0 zs.length sz, h.set id (Vc enc sz zs)) := by
  have hyl : ys.length ≠ 0 := fun e => hy (List.eq_nil_of_length_eq_zero e)
  by_cases h0 : xs.length = 0
  · have x0 : xs = [] := List.eq_nil_of_length_eq_zero h0
    subst x0
    have hr : arowsV sz h (.slice (Rw enc ys) T) = some (Rw enc ys) := by simp [Rw, he]
    have hb' : h[id]? = some (.front 0 0) := hb
    have hv : Vs id sz ([] : List α).length = .slice [] (.own id) := rfl
    rw [hv]
    unfold aappendV tapp
    simp only [hr, hb', Rw_length, List.length_nil, Nat.zero_add, List.nil_append]
    split
    · simp [tm, Vc]
    · rfl
  · have hv : Vs id sz xs.length = .vslice id xs.length 0 xs.length sz := if_neg h0
    have hb' : h[id]? = some (Vc enc sz xs) := by rw [hb]; unfold Vb; rw [if_neg h0]; rfl
    rw [hv, aappendV_b he, hb', vap_t he hy]
    simp [tvp, tapp]
theorem alenSl_n {id sz n : Nat} : alenSl (Vs id sz n) = some (.int .i64 (n : Int)) := by
  unfold Vs; split
  · rename_i h; subst h; rfl
  · rfl
attribute [simp] alenSl_n
end
end Hk
