/-
  The texts Vk.Ty, one behind another. No conditions.
-/
import Derived.Test.YtkeoalhglkfbkaaDoorVk3
set_option linter.unusedVariables false
set_option linter.unusedSimpArgs false
set_option linter.all false

namespace Hk
open Go
def Rw {α : Type} (enc : α → List kR) (xs : List α) : List (List kR) := xs.map enc
def tb {α β : Type} (x : Option α) (f : α → Option β) : Option β := x.bind f
def tm {α β : Type} (x : Option α) (f : α → β) : Option β := x.map f
def tc {α : Type} (c : Bool) (x y : Option α) : Option α := bif c then x else y
section
variable {α β γ : Type}
@[simp] theorem afC {x : Option α} {f : α → β} {k : β → Option γ} : (tm x f).bind k = tb x fun a => k (f a) := by cases x <;> rfl
@[simp] theorem afA {x : Option α} {f : α → Option β} {k : β → Option γ} : (tb x f).bind k = tb x fun a => (f a).bind k := by cases x <;> rfl
@[simp] theorem afB {c : Bool} {x y : Option β} {k : β → Option γ} : (tc c x y).bind k = tc c (x.bind k) (y.bind k) := by cases c <;> rfl
@[simp] theorem ajR {x : Option α} {f : α → Option β} {g : β → γ} : tm (tb x f) g = tb x fun a => tm (f a) g := by cases x <;> rfl
@[simp] theorem ajS {c : Bool} {x y : Option β} {g : β → γ} : tm (tc c x y) g = tc c (tm x g) (tm y g) := by cases c <;> rfl
@[simp] theorem vB {x : α} {g : α → β} : tm (some x) g = some (g x) := (rfl)
@[simp] theorem agG {g : α → β} : tm none g = none := (rfl)
@[simp] theorem mH {x : α} {f : α → Option β} : tb (some x) f = f x := (rfl)
@[simp] theorem oN {x y : Option α} : tc true x y = x := (rfl)
@[simp] theorem qB {x y : Option α} : tc false x y = y := (rfl)
@[simp] theorem Xb {x : Option α} {f : α → kR} {h : α → kT} {kv kp : kR → kT → Option R} : k_ (tm x fun a => (.ret (f a), h a)) kv kp = tb x fun a => kv (f a) (h a) := by cases x <;> rfl
@[congr] theorem agF {c c' : Bool} {x x' y y' : Option α} (h : c = c') (hx : c' = true → x = x') (hy : c' = false → y = y') : tc c x y = tc c' x' y' := by
 subst h; cases c <;> simp [tc, hx, hy]
@[simp] theorem ae7 {c : Bool} {t e : Option R} : lG (.bool c) t e = tc c t e := (rfl)
end
def oO {α : Type} (xs : List α) (i : Int) : Option α := if 0 ≤ i then xs[i.toNat]? else none
@[simp] theorem WW {α : Type} {enc : α → List kR} {sz : Nat} {xs : List α} {t : Tok} {k : IntKind} {i : Int} (h : ∀ x, (enc x).length = sz) : kY sz (.slice (Rw enc xs) t) (.int k i) = tm (oO xs i) fun x => .pptr (enc x) := by
 unfold kY Rw oO
 by_cases h0 : 0 ≤ i
 ·simp only [h0, if_true, List.getElem?_map]
  cases xs[i.toNat]? <;> simp [tm, h]
 ·simp [h0, tm]
@[simp] theorem abZ {α : Type} {enc : α → List kR} {xs : List α} {t : Tok} : lN (.slice (Rw enc xs) t) = some (.int .i64 (xs.length : Int)) := by simp [Rw]
inductive Ey where
 | n | r | x (id : Nat)
 deriving Inhabited
def Ey.ex : Ey → Ex
 | .n => .normal
 | .r => .ret
 | .x i => .exit i
@[simp] theorem Ey.akV : Ey.ex .n = .normal := (rfl)
@[simp] theorem Ey.akW : Ey.ex .r = .ret := (rfl)
@[simp] theorem Ey.akX {i : Nat} : Ey.ex (.x i) = .exit i := (rfl)
@[simp] theorem Ey.ahK {e : Ey} {m : Nat} {h : kT} : Ex.oM m h e.ex = e.ex := by cases e <;> rfl
def As {α : Type} (e : Ey) (kn : Option α) (ke : Ey → Option α) : Option α := match e with
 | .n => kn
 | e => ke e
def rQ {σ : Type} : Nat → (σ → Option (Ey × σ)) → σ → Option (Ey × σ)
 | 0, _, _ => none
 | n + 1, F, s => (F s).bind fun r => As r.1 (rQ n F r.2) fun e => some (e, r.2)
theorem Ek {σ : Type} {F : σ → Option (Ey × σ)} : ∀ {n : Nat} {s : σ} {r : Ey × σ}, rQ n F s = some r → rQ (n + 1) F s = some r
 | 0, _, _, h => by simp [rQ] at h
 | n + 1, s, r, h => by
  rw [rQ] at h ⊢
  cases hF : F s with
  | none => rw [hF] at h; simp at h
  | some x =>
   rw [hF] at h
   obtain ⟨e, s'⟩ := x
   cases e <;> simp only [Option.bind_some, As] at h ⊢ <;> first | exact h | exact Ek h
theorem C5 {σ : Type} {F : σ → Option (Ey × σ)} {n m : Nat} {s : σ} {r : Ey × σ} (hnm : n ≤ m) (h : rQ n F s = some r) : rQ m F s = some r := by
 induction hnm with
 | refl => exact h
 | step _ ih => exact Ek ih
open Classical in
noncomputable def v_ {σ : Type} (F : σ → Option (Ey × σ)) (s : σ) : Option (Ey × σ) :=
 if h : ∃ n r, rQ n F s = some r then some (Classical.choose (Classical.choose_spec h)) else none
theorem C6 {σ : Type} {F : σ → Option (Ey × σ)} {s : σ} {r : Ey × σ} : v_ F s = some r ↔ ∃ n, rQ n F s = some r := by
 unfold v_
 constructor
 ·intro h
  split at h
  ·rename_i hx
   cases h
   exact ⟨_, Classical.choose_spec (Classical.choose_spec hx)⟩
  ·cases h
 ·rintro ⟨n, hn⟩
  have hx : ∃ n r, rQ n F s = some r := ⟨n, r, hn⟩
  rw [dif_pos hx]
  have h1 := Classical.choose_spec (Classical.choose_spec hx)
  have h2 := C5 (Nat.le_max_left _ n) h1
  have h3 := C5 (Nat.le_max_right (Classical.choose hx) n) hn
  rw [h2] at h3
  exact h3
theorem KT {σ : Type} (F : σ → Option (Ey × σ)) (s : σ) : v_ F s = (F s).bind fun r => As r.1 (v_ F r.2) fun e => some (e, r.2) := by
 apply Option.ext
 intro r
 rw [C6]
 cases hF : F s with
 | none =>
  simp only [Option.bind_none]
  constructor
  ·rintro ⟨n, hn⟩
   cases n <;> simp [rQ, hF] at hn
  ·intro h; simp at h
 | some x =>
  obtain ⟨e, s'⟩ := x
  have hn1 : ∀ n, rQ (n + 1) F s = As e (rQ n F s') fun e => some (e, s') := by
   intro n; rw [rQ, hF]; rfl
  simp only [Option.bind_some]
  constructor
  ·rintro ⟨n, hn⟩
   cases n with
   | zero => simp [rQ] at hn
   | succ n =>
    rw [hn1] at hn
    cases e <;> simp only [As] at hn ⊢ <;> first | exact hn | exact C6.2 ⟨n, hn⟩
  ·intro h
   cases e <;> simp only [As] at h
   case n => obtain ⟨n, hn⟩ := C6.1 h; exact ⟨n + 1, by rw [hn1]; exact hn⟩
   all_goals exact ⟨1, by rw [hn1]; exact h⟩
theorem rD {σ : Type} {F : σ → Option (Ey × σ)} {s s' : σ} (h : F s = some (.n, s')) : v_ F s = v_ F s' := by rw [KT, h]; rfl
theorem qX {σ : Type} {F : σ → Option (Ey × σ)} {s s' : σ} {e : Ey} (h : F s = some (e, s')) (hn : e ≠ .n) : v_ F s = some (e, s') := by
 rw [KT, h]; cases e <;> first | exact absurd rfl hn | rfl
theorem w6 {σ : Type} {F : List kR × kT → Option R} {G : σ → Option (Ey × σ)} {enc : σ → List kR × kT} (h : ∀ s, F (enc s) = tm (G s) fun r => (r.1.ex, enc r.2)) (s : σ) : mJ F (enc s) = tm (v_ G s) fun r => (r.1.ex, enc r.2) := by
 have key : ∀ n s, p_ n F (enc s) = tm (rQ n G s) fun r => (r.1.ex, enc r.2) := by
  intro n
  induction n with
  | zero => intro s; rfl
  | succ n ih =>
   intro s
   rw [p_, rQ, h s]
   cases hG : G s with
   | none => rfl
   | some x =>
    obtain ⟨e, s'⟩ := x
    cases e <;> simp only [vB, Option.bind_some, Ex.lY, As, Ey.ex] <;> first | exact ih s' | rfl
 apply Option.ext
 intro r
 rw [xK]
 constructor
 ·rintro ⟨n, hn⟩
  rw [key] at hn
  cases hG : rQ n G s with
  | none => rw [hG] at hn; simp [tm] at hn
  | some x => rw [hG] at hn; rw [C6.2 ⟨n, hG⟩]; exact hn
 ·intro hr
  cases hG : v_ G s with
  | none => rw [hG] at hr; simp [tm] at hr
  | some x =>
   rw [hG] at hr
   obtain ⟨n, hn⟩ := C6.1 hG
   exact ⟨n, by rw [key, hn]; exact hr⟩
def Bm {α : Type} (id : Nat) (e : Ey) (kn : Option α) (ke : Ey → Option α) : Option α := match e with
 | .n => kn
 | .x j => bif j == id then kn else ke (.x j)
 | e => ke e
def nrT {α : Type} (e : Ey) (kn : Option α) : Option α := match e with
 | .n => kn
 | _ => none
def OD {α : Type} (e : Ey) (x : Option α) : Option α := match e with
 | .n => x
 | .r => x
 | _ => none
section
variable {α β : Type} {e : Ey} {i j : Nat}
@[simp] theorem aeR {kn : Option R} {ke : Ex → Option R} : Ex.lY e.ex kn ke = As e kn fun e => ke e.ex := by cases e <;> rfl
@[simp] theorem aaO {kn : Option R} {ke : Ex → Option R} : Ex.inBlock i e.ex kn ke = Bm i e kn fun e => ke e.ex := by cases e <;> rfl
@[simp] theorem ajK {kn : Option R} : Ex.sO e.ex kn = nrT e kn := by cases e <;> rfl
@[simp] theorem ahI {x : Option (n_ × kT)} : Ex.nV e.ex x = OD e x := by cases e <;> rfl
@[simp] theorem ab8 {kn : Option α} {ke : Ey → Option α} {k : α → Option β} : (As e kn ke).bind k = As e (kn.bind k) fun e => (ke e).bind k := by cases e <;> rfl
@[simp] theorem ab9 {kn : Option α} {ke : Ey → Option α} {k : α → Option β} : (Bm i e kn ke).bind k = Bm i e (kn.bind k) fun e => (ke e).bind k := by
 cases e <;> first | rfl | (simp only [Bm]; cases (_ == i) <;> rfl)
@[simp] theorem acA {kn : Option α} {k : α → Option β} : (nrT e kn).bind k = nrT e (kn.bind k) := by cases e <;> rfl
@[simp] theorem ab7 {kn : Option α} {k : α → Option β} : (OD e kn).bind k = OD e (kn.bind k) := by cases e <;> rfl
@[simp] theorem aiP {kn : Option α} {ke : Ey → Option α} {k : α → β} : tm (As e kn ke) k = As e (tm kn k) fun e => tm (ke e) k := by cases e <;> rfl
@[simp] theorem aiQ {kn : Option α} {ke : Ey → Option α} {k : α → β} : tm (Bm i e kn ke) k = Bm i e (tm kn k) fun e => tm (ke e) k := by
 cases e <;> first | rfl | (simp only [Bm]; cases (_ == i) <;> rfl)
@[simp] theorem aiR {kn : Option α} {k : α → β} : tm (nrT e kn) k = nrT e (tm kn k) := by cases e <;> rfl
@[simp] theorem aiO {kn : Option α} {k : α → β} : tm (OD e kn) k = OD e (tm kn k) := by cases e <;> rfl
@[simp] theorem XB {kn : Option α} {ke : Ey → Option α} : As .n kn ke = kn := (rfl)
@[simp] theorem afM {kn : Option α} {ke : Ey → Option α} : As .r kn ke = ke .r := (rfl)
@[simp] theorem adA {kn : Option α} {ke : Ey → Option α} : As (.x i) kn ke = ke (.x i) := (rfl)
@[simp] theorem Mj {kn : Option α} {ke : Ey → Option α} : Bm i .n kn ke = kn := (rfl)
@[simp] theorem afP {kn : Option α} {ke : Ey → Option α} : Bm i .r kn ke = ke .r := (rfl)
@[simp] theorem adF {kn : Option α} {ke : Ey → Option α} : Bm i (.x j) kn ke = bif j == i then kn else ke (.x j) := (rfl)
@[simp] theorem YU {kn : Option α} : nrT .n kn = kn := (rfl)
@[simp] theorem Xz {x : Option α} : OD .n x = x := (rfl)
@[simp] theorem afL {x : Option α} : OD .r x = x := (rfl)
end
def gd (l : List kR) (i : Nat) : kR := l.getD i .junk
def ld (g : Bool) (n : Nat) (h : kT) (a : kR) (k : kR → Option R) : Option R := (kV g n h a).bind k
def fa (o : Nat) (a : kR) (k : kR → Option R) : Option R := (kU o a).bind k
def ix (sz : Nat) (s i : kR) (k : kR → Option R) : Option R := (kY sz s i).bind k
def bo (op : BinOp) (a b : kR) (k : kR → Option R) : Option R := (kZ op a b).bind k
def ln (s : kR) (k : kR → Option R) : Option R := (lN s).bind k
def gS (w : Bool) (g : kR) (x : Option R) (h : kT) (k : kR → kT → Option R) : Option R := (kS w g x (kW (.tuple []) h)).bind (kX k fun _ _ => none)
def ca (x : Option (n_ × kT)) (k : kR → kT → Option R) : Option R := k_ x k fun _ _ => none
section
variable {g : Bool} {n o sz : Nat} {h : kT} {a b s i : kR} {k : kR → Option R} {kh : kR → kT → Option R} {w : Bool} {l : List kR} {m : Nat} {op : BinOp} {x : Option R} {y : Option (n_ × kT)}
@[simp] theorem ak0 : gd l n = l.getD n .junk := (rfl)
@[simp] theorem ak2 : ld g n h a k = (kV g n h a).bind k := (rfl)
@[simp] theorem akY : fa o a k = (kU o a).bind k := (rfl)
@[simp] theorem ak1 : ix sz s i k = (kY sz s i).bind k := (rfl)
@[simp] theorem aj5 : bo op a b k = (kZ op a b).bind k := (rfl)
@[simp] theorem ak3 : ln s k = (lN s).bind k := (rfl)
@[simp] theorem akZ : gS w a x h kh = (kS w a x (kW (.tuple []) h)).bind (kX kh fun _ _ => none) := (rfl)
@[simp] theorem akT : ca y kh = k_ y kh fun _ _ => none := (rfl)
@[congr] theorem afS {a' : kR} {h' : kT} (e : a = a') (e2 : h = h') : ld g n h a k = ld g n h' a' k := by rw [e, e2]
@[congr] theorem afN {a' : kR} (e : a = a') : fa o a k = fa o a' k := by rw [e]
@[congr] theorem afQ {s' i' : kR} (e : s = s') (e2 : i = i') : ix sz s i k = ix sz s' i' k := by rw [e, e2]
@[congr] theorem afD {a' b' : kR} (e : a = a') (e2 : b = b') : bo op a b k = bo op a' b' k := by rw [e, e2]
@[congr] theorem afT {s' : kR} (e : s = s') : ln s k = ln s' k := by rw [e]
@[congr] theorem afO {a' : kR} {h' : kT} (e : a = a') (e2 : h = h') : gS w a x h kh = gS w a' x h' kh := by rw [e, e2]
@[congr] theorem afI {y' : Option (n_ × kT)} (e : y = y') : ca y kh = ca y' kh := by rw [e]
end
def aeT (k : IntKind) (a b : Int) : Option Int := if b < 0 then none else some (k.wrap (a * 2 ^ (min b.toNat k.bits)))
def aeU (k : IntKind) (a b : Int) : Option Int := if b < 0 then none else some (a.fdiv (2 ^ (min b.toNat k.bits)))
def PT (k : IntKind) (a b : Int) : Option Int := if b = 0 then none else some (k.wrap (a.tdiv b))
def aeS (a b : Int) : Option Int := if b = 0 then none else some (a.tmod b)
def aeP (k : IntKind) (a b : Int) : Int := k.wrap (BitVec.ofInt k.bits a &&& BitVec.ofInt k.bits b).toNat
def tor (k : IntKind) (a b : Int) : Int := k.wrap (BitVec.ofInt k.bits a ||| BitVec.ofInt k.bits b).toNat
def aeW (k : IntKind) (a b : Int) : Int := k.wrap (BitVec.ofInt k.bits a ^^^ BitVec.ofInt k.bits b).toNat
def Wo (k : IntKind) (a b : Int) : Int := k.wrap (BitVec.ofInt k.bits a &&& ~~~ BitVec.ofInt k.bits b).toNat
def aiS (k : IntKind) (a : Int) : Int := k.wrap (BitVec.ofInt k.bits (if k.signed then -1 else k.max) ^^^ BitVec.ofInt k.bits a).toNat
def aeV (s : List UInt8) (i : Int) : Option Int := if 0 ≤ i then (s[i.toNat]?).map fun b => ((b.toNat : Nat) : Int) else none
def aeQ (s t : List UInt8) : Option (List UInt8) := if s.length + t.length ≤ 4611686018427387904 then some (s ++ t) else none
def Nk (x : Option Int) (d : Nat) : Option Nat := match x with
 | none => some d
 | some n => if 0 ≤ n then some n.toNat else none
def Hp {α : Type} (xs : List α) (lo hi : Option Int) : Option (List α) := match Nk lo 0, Nk hi xs.length with
 | some l, some u => if l ≤ u ∧ u ≤ xs.length then some ((xs.drop l).take (u - l)) else none
 | _, _ => none
def xB {α : Type} (by_ : Nat) (xs ys : List α) : Option (List α) := if (xs.length + ys.length) * by_ ≤ 140737488355328 ∧ xs.length + ys.length ≤ 140737488355328 then some (xs ++ ys) else none
def sD (sz n : Nat) : lW := .front n (if n = 0 then 0 else sz)
section
variable {k k' : IntKind} {a b : Int} {s t : List UInt8} {α : Type} {enc : α → List kR} {xs ys : List α} {sz : Nat} {T T' : Tok} {x y : Bool}
@[simp] theorem WQ : kZ .shl (.int k a) (.int k' b) = tm (aeT k a b) (kR.int k) := by
 simp only [kZ, aeT]; split <;> rfl
@[simp] theorem WR : kZ .shr (.int k a) (.int k' b) = tm (aeU k a b) (kR.int k) := by
 simp only [kZ, aeU]; split <;> rfl
@[simp] theorem WN : kZ .quo (.int k a) (.int k b) = tm (PT k a b) (kR.int k) := by
 simp only [kZ, PT, ne_eq, not_true_eq_false, if_false]; split <;> rfl
@[simp] theorem WO : kZ .rem (.int k a) (.int k b) = tm (aeS a b) (kR.int k) := by
 simp only [kZ, aeS, ne_eq, not_true_eq_false, if_false]; split <;> rfl
@[simp] theorem WM : kZ .and (.int k a) (.int k b) = some (.int k (aeP k a b)) := by simp [kZ, aeP]
@[simp] theorem Z4 : kZ .or (.int k a) (.int k b) = some (.int k (tor k a b)) := by simp [kZ, tor]
@[simp] theorem WS : kZ .xor (.int k a) (.int k b) = some (.int k (aeW k a b)) := by simp [kZ, aeW]
@[simp] theorem SS : kZ .andNot (.int k a) (.int k b) = some (.int k (Wo k a b)) := by simp [kZ, Wo]
@[simp] theorem Z_ : yF .xor (.int k a) = some (.int k (aiS k a)) := (rfl)
@[simp] theorem Va : kZ .add (.str s) (.str t) = tm (aeQ s t) kR.str := by simp only [kZ, aeQ]; split <;> rfl
@[simp] theorem Vg : kZ .lss (.str s) (.str t) = some (.bool (Op.bytesLess s t)) := (rfl)
@[simp] theorem Vf : kZ .leq (.str s) (.str t) = some (.bool (Op.bytesLess s t || s == t)) := (rfl)
@[simp] theorem Ve : kZ .gtr (.str s) (.str t) = some (.bool (!(Op.bytesLess s t || s == t))) := (rfl)
@[simp] theorem Vd : kZ .geq (.str s) (.str t) = some (.bool (!(Op.bytesLess s t))) := (rfl)
@[simp] theorem Vl : rM (.str s) (.int k a) = tm (aeV s a) (kR.int .u8) := by
 unfold rM aeV tm; by_cases h : 0 ≤ a
 ·simp only [h, if_true]; cases s[a.toNat]? <;> rfl
 ·simp [h]
@[simp] theorem Z8 : lV (.bool x) (.int k a) (.int k b) = some (.int k (bif x then a else b)) := by cases x <;> rfl
@[simp] theorem Vp {u v : Bool} : lV (.bool x) (.bool u) (.bool v) = some (.bool (bif x then u else v)) := by cases x <;> rfl
@[simp] theorem Z9 : lV (.bool x) (.str s) (.str t) = some (.str (bif x then s else t)) := by cases x <;> rfl
theorem Kk {o : Option Int} {d : Nat} : oX (o.map (kR.int k)) d = Nk o d := by
 cases o <;> rfl
theorem B8 {lo hi : Option Int} (h : ∀ x, (enc x).length = sz) : nK sz (.slice (Rw enc xs) T) (lo.map (kR.int k)) (hi.map (kR.int k')) = tm (Hp xs lo hi) fun zs => .slice (Rw enc zs) .no := by
 have hall : ((Rw enc xs).all fun r => r.length == sz) = true := by simp [Rw, h]
 have hlen : (Rw enc xs).length = xs.length := by simp [Rw]
 unfold nK Hp
 simp only [Kk, hall, hlen, and_true]
 cases Nk lo 0 with
 | none => rfl
 | some l =>
  cases Nk hi xs.length with
  | none => rfl
  | some u =>
   simp only
   split
   ·simp [tm, Rw, List.map_drop, List.map_take]
   ·rfl
@[simp] theorem Vq {u : Int} (h : ∀ x, (enc x).length = sz) : nK sz (.slice (Rw enc xs) T) none (some (.int k u)) = tm (Hp xs none (some u)) fun zs => .slice (Rw enc zs) .no := B8 (k := .i64) (k' := k) (lo := none) (hi := some u) h
@[simp] theorem Vr {l : Int} (h : ∀ x, (enc x).length = sz) : nK sz (.slice (Rw enc xs) T) (some (.int k l)) none = tm (Hp xs (some l) none) fun zs => .slice (Rw enc zs) .no := B8 (k := k) (k' := .i64) (lo := some l) (hi := none) h
@[simp] theorem Vt {l u : Int} (h : ∀ x, (enc x).length = sz) : nK sz (.slice (Rw enc xs) T) (some (.int k l)) (some (.int k' u)) = tm (Hp xs (some l) (some u)) fun zs => .slice (Rw enc zs) .no := B8 (lo := some l) (hi := some u) h
theorem AF {lo hi : Option Int} : rN (.str s) (lo.map (kR.int k)) (hi.map (kR.int k')) = tm (Hp s lo hi) kR.str := by
 unfold rN Hp
 simp only [Kk]
 cases Nk lo 0 with
 | none => rfl
 | some l =>
  cases Nk hi s.length with
  | none => rfl
  | some u =>
   simp only
   split <;> rfl
@[simp] theorem TC {u : Int} : rN (.str s) none (some (.int k u)) = tm (Hp s none (some u)) kR.str := AF (k := .i64) (lo := none) (hi := some u)
@[simp] theorem TD {l : Int} : rN (.str s) (some (.int k l)) none = tm (Hp s (some l) none) kR.str := AF (k' := .i64) (lo := some l) (hi := none)
@[simp] theorem TE {l u : Int} : rN (.str s) (some (.int k l)) (some (.int k' u)) = tm (Hp s (some l) (some u)) kR.str := AF (lo := some l) (hi := some u)
@[simp] theorem Hx {by_ id : Nat} {h : kT} (he : ∀ x, (enc x).length = sz) (hb : h[id]? = some (sD sz xs.length)) :
  nQ sz by_ h (.slice (Rw enc xs) (.own id)) (.slice (Rw enc ys) T) = tm (xB by_ xs ys) fun zs => (.slice (Rw enc zs) (.own id), h.set id (sD sz zs.length)) := by
 have hr : tA sz h (.slice (Rw enc ys) T) = some (Rw enc ys) := by simp [Rw, he]
 have hl : (Rw enc xs).length = xs.length := by simp [Rw]
 have hl2 : (Rw enc ys).length = ys.length := by simp [Rw]
 have e2 : Rw enc (xs ++ ys) = Rw enc xs ++ Rw enc ys := by simp [Rw]
 have hlt := (List.getElem?_eq_some_iff.1 hb).1
 have hself : h.set id (sD sz xs.length) = h := by
  rw [← (List.getElem?_eq_some_iff.1 hb).2]; exact List.set_getElem_self hlt
 unfold nQ xB
 simp only [hr, hb]
 by_cases h0 : xs.length = 0
 ·have e0 : sD sz xs.length = .front 0 0 := by simp [sD, h0]
  have x0 : xs = [] := List.eq_nil_of_length_eq_zero h0
  simp only [e0, hl, hl2]
  by_cases hc : (xs.length + ys.length) * by_ ≤ 140737488355328 ∧ xs.length + ys.length ≤ 140737488355328
  ·rw [if_pos hc, if_pos ⟨h0, .inr ⟨trivial, trivial⟩, by rw [h0] at hc; exact hc.1, by rw [h0] at hc; exact hc.2⟩]
   simp only [tm, Option.map_some, Option.some.injEq]
   by_cases h1 : ys.length = 0
   ·have y0 : ys = [] := List.eq_nil_of_length_eq_zero h1
    subst y0; subst x0
    simp only [List.length_nil, if_true, List.append_nil] at hself ⊢
    rw [hself]
   ·rw [if_neg h1]
    simp [sD, x0, Rw, h1]
  ·rw [if_neg hc, if_neg (fun q => hc ⟨by rw [h0]; exact q.2.2.1, by rw [h0]; exact q.2.2.2⟩)]
   rfl
 ·have e0 : sD sz xs.length = .front xs.length sz := by simp [sD, h0]
  simp only [e0, hl, hl2]
  by_cases hc : (xs.length + ys.length) * by_ ≤ 140737488355328 ∧ xs.length + ys.length ≤ 140737488355328
  ·rw [if_pos hc, if_pos ⟨trivial, .inl trivial, hc.1, hc.2⟩]
   simp only [tm, Option.map_some, Option.some.injEq]
   by_cases h1 : ys.length = 0
   ·have y0 : ys = [] := List.eq_nil_of_length_eq_zero h1
    subst y0
    simp only [List.length_nil, if_true, List.append_nil]
    rw [hself]
   ·rw [if_neg h1, e2]
    have : sD sz (xs ++ ys).length = .front (xs.length + ys.length) sz := by simp [sD, h0]
    rw [this]
  ·rw [if_neg hc, if_neg (fun q => hc ⟨q.2.2.1, q.2.2.2⟩)]
   rfl
@[simp] theorem WL {by_ id : Nat} {h : kT} (he : ∀ x, (enc x).length = sz) (hb : h[id]? = some (.front 0 0)) :
  nQ sz by_ h (.slice (Rw enc []) (.own id)) (.slice (Rw enc ys) T) = tm (xB by_ [] ys) fun zs => (.slice (Rw enc zs) (.own id), h.set id (sD sz zs.length)) := Hx he hb
@[simp] theorem abM : sD sz 0 = .front 0 0 := (rfl)
@[simp] theorem aaA {x : Option α} {f : α → kR × kT} {kv : kR → kT → Option R} : lE (tm x f) kv = tb x fun a => kv (f a).1 (f a).2 := by cases x <;> rfl
@[simp] theorem aa6 {m : Nat} {h : kT} {cs : List kR} : kR.nM m h (.pptr cs) = .pptr cs := (rfl)
@[simp] theorem aeK {m : Nat} {h : kT} {cs : List kR} : kR.oM m h (.pptr cs) = .pptr cs := (rfl)
@[simp] theorem ZP {cs : List kR} : kR.k8 (.pptr cs) = .pptr cs := (rfl)
@[simp] theorem Zx {m n : Nat} {h : kT} : pA m h (sD sz n) = some (sD sz n) := by unfold sD; split <;> rfl
@[simp] theorem XH {n i : Nat} {r : kT} : nJ (sD sz n :: r) (i + 1) = nJ r i := (rfl)
@[simp] theorem TX {r : kT} : rU (sD sz 0 :: r) 0 = true := (rfl)
@[simp] theorem Vn {id : Nat} {r : List kR} : mV id (.slice (Rw enc []) .nil :: r) = ((.slice (Rw enc []) (.own id)) :: (mV (id + 1) r).1, .front 0 0 :: (mV (id + 1) r).2) := (rfl)
@[simp] theorem WY {id : Nat} {rows : List (List kR)} {r : List kR} : mV id (.slice rows .no :: r) = (.slice rows .no :: (mV id r).1, (mV id r).2) := by cases rows <;> rfl
@[simp] theorem Vo {id j : Nat} {rows : List (List kR)} {r : List kR} : mV id (.slice rows (.own j) :: r) = (.slice rows (.own j) :: (mV id r).1, (mV id r).2) := by cases rows <;> rfl
@[simp] theorem XR {h : kT} {id : Nat} : sJ h (.slice (Rw enc []) (.own id)) (.slice (Rw enc []) .nil) = bif rU h id then .slice (Rw enc []) (.own id) else .slice (Rw enc []) .nil := OJ
@[simp] theorem aa4 {m : Nat} {h : kT} : kR.nM m h (.slice (Rw enc []) .nil) = .slice (Rw enc []) .nil := (rfl)
@[simp] theorem aeH {m : Nat} {h : kT} : kR.oM m h (.slice (Rw enc []) .nil) = .slice (Rw enc []) .nil := (rfl)
end
def ci (k : IntKind) (n : Int) : List kR := [.int k n]
def cb (x : Bool) : List kR := [.bool x]
def ahG (s : List UInt8) : List kR := [.str s]
def wV {α : Type} (enc : α → List kR) (xs : List α) : List kR := [.slice (Rw enc xs) .no]
@[simp] theorem ai2 {k : IntKind} {n : Int} : ci k n = [.int k n] := (rfl)
@[simp] theorem ai1 {x : Bool} : cb x = [.bool x] := (rfl)
@[simp] theorem afK {s : List UInt8} : ahG s = [.str s] := (rfl)
@[simp] theorem ahF {α : Type} {enc : α → List kR} {xs : List α} : wV enc xs = [.slice (Rw enc xs) .no] := (rfl)
@[simp] theorem XJ {w c : Bool} {x y : Option R} : kS w (.bool c) x y = bif w then tc c x y else tc c y x := by cases w <;> rfl
attribute [simp] nG mV putCells nO AA apart
@[simp] theorem SQ {i : Nat} {vs : List kR} : mF i (.tuple vs) = vs[i]? := (rfl)
@[simp] theorem Bd {α : Type} {enc : α → List kR} {xs : List α} : (Rw enc xs).length = xs.length := by simp [Rw]
@[simp] theorem ahJ {m : Nat} {e : Ex} {vs : List kR} {h : kT} : lC m e vs h = (mL m h).map fun h' => (e.oM m h, vs.map (·.oM m h), h') := (rfl)
@[simp] theorem E5 {m : Nat} {h : kT} : mL m h = oA m h (h.take m) := (rfl)
attribute [simp] l_ lH
theorem XA {P : Program} {A : Af} : ∀ n, Al (L_ P A mJ n) fun k => L_ P A mJ k := by
 intro n
 induction n with
 | zero => intro f args h r hb; cases hb
 | succ n ih =>
  intro f args h r hb
  obtain ⟨N, hN⟩ := EO (lp := mJ) (fun _ _ _ h => h) ih f args h r hb
  refine ⟨N + 1, fun k hk => ?_⟩
  cases k with
  | zero => omega
  | succ k => exact hN k (by omega)
theorem IU {P : Program} {A : Af} {f : Nat} {args : List kR} {h : kT} : EP P A f args h = qQ P A mJ (EP P A) f args h := by
 apply Option.ext
 intro r
 refine ⟨fun hb => ?_, fun hb => QS hb⟩
 obtain ⟨N, hN⟩ := Bj.1 hb
 have h1 := hN (N + 1) (by omega)
 obtain ⟨M, hM⟩ := EO (lp := mJ) (K := L_ P A mJ N) (Kn := fun _ => EP P A) (fun _ _ _ h => h) (fun f args h r hb => Ev.of fun _ => Bj.2 (XA N f args h r hb)) f args h r h1
 exact hM M (Nat.le_refl _)
theorem L0 {α : Type} {P : Program} {A : Af} {f : Nat} {args : List kR} {h : kT} {x : Option α} {v : α → kR} {m : Option (n_ × kT)} (hp : A.pure f = true) (hs : args.all (kR.rX 0) = true)
  (he : qQ P A mJ (EP P A) f args [] = m) (hk : m = tm x fun r => (.ret (v r), [])) : mI A (EP P A) f args h = tm x fun r => (.ret (v r), h) := by
 simp only [mI, hp, cond_true, hs, IU, he, hk]
 cases x <;> rfl
theorem afJ {α : Type} {P : Program} {A : Af} {f : Nat} {args : List kR} {h : kT} {x : Option α} {v v' : α → kR} {g g' : α → kT} {m : Option (n_ × kT)} (hp : A.pure f = true) (hs : args.all (kR.rX 0) = true)
  (he : qQ P A mJ (EP P A) f args [] = m) (hk : m = tm x fun r => (.ret (v r), g r)) (hb : ∀ r, vF (A.out f) h (.ret (v r), g r) = some (.ret (v' r), h ++ g' r)) : mI A (EP P A) f args h = tm x fun r => (.ret (v' r), h ++ g' r) := by
 simp only [mI, hp, cond_true, hs, IU, he, hk]
 cases x with
 | none => rfl
 | some r => exact hb r
def Vc {α : Type} (enc : α → List kR) (sz : Nat) (xs : List α) : lW := .vec xs.length sz (Rw enc xs).flatten
def Sx {α : Type} (by_ : Nat) (z : α) (n : Int) : Option (List α) := if 0 ≤ n ∧ n.toNat * by_ ≤ 140737488355328 ∧ n ≤ 140737488355328 then some (List.replicate n.toNat z) else none
def BM (n : Nat) (i : Int) : Option Nat := if 0 ≤ i ∧ i < (n : Int) then some i.toNat else none
def s6 {α : Type} (n : Nat) (xs : List α) (j : Nat) : Option α := if xs.length = n then xs[j]? else none
def Au {α : Type} (n : Nat) (xs : List α) (j : Nat) (x : α) : Option (List α) := if xs.length = n ∧ j < xs.length then some (xs.set j x) else none
def tva {α : Type} (by_ tot n : Nat) (xs ys : List α) : Option (List α) :=
 if xs.length = tot ∧ n ≤ tot ∧ (n + ys.length) * by_ ≤ 140737488355328 ∧ n + ys.length ≤ 140737488355328 then some (xs.take n ++ ys ++ xs.drop (n + ys.length)) else none
section
variable {α : Type} {enc : α → List kR} {sz : Nat} {xs ys : List α} {h : kT} {id n tot len off j : Nat} {k : IntKind} {i : Int}
theorem vE (he : ∀ x, (enc x).length = sz) : ∀ xs : List α, (Rw enc xs).flatten.length = xs.length * sz
 | [] => by simp [Rw]
 | x :: r => by
  have := vE he r
  simp only [Rw, List.map_cons, List.flatten_cons, List.length_append, List.length_cons] at this ⊢
  rw [he, this, Nat.succ_mul, Nat.add_comm]
theorem DA (he : ∀ x, (enc x).length = sz) : ∀ (xs : List α) (j : Nat), (Rw enc xs).flatten.drop (j * sz) = (Rw enc (xs.drop j)).flatten
 | xs, 0 => by simp
 | [], j + 1 => by simp [Rw]
 | x :: r, j + 1 => by
  have := DA he r j
  simp only [Rw, List.map_cons, List.flatten_cons, List.drop_succ_cons] at this ⊢
  rw [Nat.succ_mul, Nat.add_comm, ← List.drop_drop, ← this]
  congr 1
  have e : (enc x).length = sz := he x
  rw [← e, List.drop_left]
theorem DB (he : ∀ x, (enc x).length = sz) : ∀ (xs : List α) (j : Nat), (Rw enc xs).flatten.take (j * sz) = (Rw enc (xs.take j)).flatten
 | xs, 0 => by simp [Rw]
 | [], j + 1 => by simp [Rw]
 | x :: r, j + 1 => by
  have := DB he r j
  simp only [Rw, List.map_cons, List.flatten_cons, List.take_succ_cons] at this ⊢
  have e : (enc x).length = sz := he x
  rw [Nat.succ_mul, Nat.add_comm, ← this, ← e, List.take_append]
  congr 1
  ·exact List.take_of_length_le (by omega)
  ·congr 1; omega
theorem Q0 (he : ∀ x, (enc x).length = sz) (ho : off < sz) : (Rw enc xs).flatten[j * sz + off]? = (xs[j]?).bind fun x => (enc x)[off]? := by
 rw [← List.getElem?_drop, DA he]
 cases hx : xs[j]? with
 | none =>
  have : xs.length ≤ j := by simpa using hx
  rw [List.drop_eq_nil_of_le this]; simp [Rw]
 | some x =>
  have hl := (List.getElem?_eq_some_iff.1 hx).1
  rw [List.drop_eq_getElem_cons hl, (List.getElem?_eq_some_iff.1 hx).2]
  simp only [Rw, List.map_cons, List.flatten_cons, Option.bind_some]
  rw [List.getElem?_append_left (by rw [he]; exact ho)]
theorem AD (he : ∀ x, (enc x).length = sz) (hb : h[id]? = some (Vc enc sz xs)) (ho : off < sz) : kV false 1 h (.vptr id tot (j * sz + off)) = (s6 tot xs j).bind fun x => (enc x)[off]? := by
 simp only [kV, nA, hb, Vc, s6]
 by_cases e : xs.length = tot
 ·simp only [e, if_true, apart, cond_false]
  exact Q0 he ho
 ·simp [e]
theorem Cd (he : ∀ x, (enc x).length = sz) {x : α} (hx : xs[j]? = some x) : (Rw enc xs).flatten = (Rw enc (xs.take j)).flatten ++ (enc x ++ (Rw enc (xs.drop (j + 1))).flatten) := by
 have hl := (List.getElem?_eq_some_iff.1 hx).1
 have e : xs = xs.take j ++ x :: xs.drop (j + 1) := by
  have := (List.take_append_drop j xs).symm
  rw [List.drop_eq_getElem_cons hl, (List.getElem?_eq_some_iff.1 hx).2] at this
  exact this
 have e2 : Rw enc xs = Rw enc (xs.take j) ++ (enc x :: Rw enc (xs.drop (j + 1))) := by
  have := congrArg (Rw enc) e
  rw [this]; simp only [Rw, List.map_append, List.map_cons]
 rw [e2, List.flatten_append, List.flatten_cons]
theorem abD {x : α} (hl : j < xs.length) : xs.set j x = xs.take j ++ x :: xs.drop (j + 1) := by
 rw [List.set_eq_take_append_cons_drop, if_pos hl]
theorem Lv (he : ∀ x, (enc x).length = sz) (hl : j < xs.length) : (Rw enc (xs.take j)).flatten.length = j * sz := by
 rw [vE he, List.length_take, Nat.min_eq_left (by omega)]
theorem Oo (he : ∀ x, (enc x).length = sz) (hb : h[id]? = some (Vc enc sz xs)) (hz : 0 < sz) : kV true sz h (.vptr id tot (j * sz)) = tm (s6 tot xs j) fun x => .agg (enc x) := by
 simp only [kV, nA, hb, Vc, s6]
 by_cases e : xs.length = tot
 ·simp only [e, if_true, apart, cond_true]
  have hl := vE he xs
  cases hx : xs[j]? with
  | none =>
   have h1 : xs.length ≤ j := by simpa using hx
   have h2 : xs.length * sz ≤ j * sz := Nat.mul_le_mul_right sz h1
   rw [if_neg (by omega)]; rfl
  | some x =>
   have hj := (List.getElem?_eq_some_iff.1 hx).1
   have h2 : (j + 1) * sz ≤ xs.length * sz := Nat.mul_le_mul_right sz hj
   rw [Nat.succ_mul] at h2
   rw [if_pos (by omega), Cd he hx, ← Lv he hj, List.drop_left, ← he x, List.take_left]
   rfl
 ·simp [e, tm]
theorem Lg {A B o v : List kR} {off : Nat} (ho : off + v.length ≤ o.length) : putCells (A ++ (o ++ B)) (A.length + off) v = A ++ (putCells o off v ++ B) := by
 unfold putCells
 rw [List.take_append, List.take_of_length_le (by omega : A.length ≤ A.length + off), Nat.add_sub_cancel_left, List.take_append_of_le_length (by omega)]
 rw [Nat.add_assoc, ← List.drop_drop, List.drop_left, List.drop_append_of_le_length (by omega)]
 simp
theorem Fz {m : Nat} {v : kR} (BN : α → α) (he : ∀ x, (enc x).length = sz) (hb : h[id]? = some (Vc enc sz xs)) (hv : v.cells.length = m) (hm : off + m ≤ sz) (hz : 0 < m) (hok : v.cells.all kR.mC = true) (hu : ∀ x, enc (BN x) = putCells (enc x) off v.cells) :
  lU m h (.vptr id tot (j * sz + off)) v = tb (s6 tot xs j) fun x => tm (Au tot xs j (BN x)) fun zs => h.set id (Vc enc sz zs) := by
 simp only [lU, nA, hb, Vc, s6]
 by_cases e : xs.length = tot
 ·simp only [e, if_true]
  have hl := vE he xs
  cases hx : xs[j]? with
  | none =>
   have h1 : xs.length ≤ j := by simpa using hx
   have h2 : xs.length * sz ≤ j * sz := Nat.mul_le_mul_right sz h1
   rw [if_neg (by omega)]; rfl
  | some x =>
   have hj := (List.getElem?_eq_some_iff.1 hx).1
   have h2 : (j + 1) * sz ≤ xs.length * sz := Nat.mul_le_mul_right sz hj
   rw [Nat.succ_mul] at h2
   rw [if_pos ⟨hv, by omega, hok⟩]
   simp only [mH, Au, e, true_and]
   rw [if_pos (by omega)]
   simp only [vB, List.length_set, e, Option.some.injEq]
   congr 2
   have hx2 : (xs.set j (BN x))[j]? = some (BN x) := by simp [hj]
   have t1 : (xs.set j (BN x)).take j = xs.take j := by rw [List.take_set_of_le (Nat.le_refl _)]
   have t2 : (xs.set j (BN x)).drop (j + 1) = xs.drop (j + 1) := by rw [List.drop_set_of_lt (by omega)]
   rw [Cd he hx, Cd he hx2, t1, t2, hu x, ← Lv he hj, Lg (by rw [hv, he]; omega)]
 ·simp [e, tb]
theorem B9 {v : kR} (x : α) (he : ∀ x, (enc x).length = sz) (hb : h[id]? = some (Vc enc sz xs)) (hz : 0 < sz) (hok : v.cells.all kR.mC = true) (hu : v.cells = enc x) :
  lU sz h (.vptr id tot (j * sz)) v = tb (s6 tot xs j) fun _ => tm (Au tot xs j x) fun zs => h.set id (Vc enc sz zs) := by
 have := Fz (tot := tot) (j := j) (off := 0) (m := sz) (v := v) (fun _ => x) he hb (by rw [hu, he]) (by omega) hz hok (fun y => by
  unfold putCells
  rw [hu, List.take_zero, List.nil_append, Nat.zero_add, List.drop_eq_nil_of_le (by rw [he, he]; exact Nat.le_refl _), List.append_nil])
 simpa using this
theorem ai4 : ix sz (.vslice id tot 0 len sz) (.int k i) = fun f => tb (BM len i) fun j => f (.vptr id tot (0 + j * sz)) := by
 funext f
 simp only [ix, kY, BM]
 by_cases hc : 0 ≤ i ∧ i < (len : Int)
 ·rw [if_pos ⟨hc.1, hc.2, trivial⟩, if_pos hc]; rfl
 ·rw [if_neg (fun q => hc ⟨q.1, q.2.1⟩), if_neg hc]; rfl
theorem Kp : kY sz (.vslice id tot 0 len sz) (.int k i) = tm (BM len i) fun j => .vptr id tot (j * sz) := by
 simp only [kY, BM]
 by_cases hc : 0 ≤ i ∧ i < (len : Int)
 ·rw [if_pos ⟨hc.1, hc.2, trivial⟩, if_pos hc]; simp [tm]
 ·rw [if_neg (fun q => hc ⟨q.1, q.2.1⟩), if_neg hc]; rfl
theorem xY {by_ : Nat} {z : α} {zero : List kR} (hz : enc z = zero) : oK sz by_ zero (.int k i) h = tm (Sx by_ z i) fun l => (.vslice h.length l.length 0 l.length sz, h ++ [Vc enc sz l]) := by
 subst hz
 simp only [oK, Sx]
 split
 ·simp [tm, Vc, Rw]
 ·rfl
theorem Fg {by_ : Nat} {T : Tok} (he : ∀ x, (enc x).length = sz) (hz : 0 < sz) (hb : h[id]? = some (Vc enc sz xs)) (hn : n ≤ tot) (hy : ys ≠ []) :
  mY sz by_ h (.vslice id tot 0 n sz) (.slice (Rw enc ys) T) = tm (tva by_ tot n xs ys) fun zs => (.vslice id zs.length 0 (n + ys.length) sz, h.set id (Vc enc sz zs)) := by
 have hr : wS sz h (.slice (Rw enc ys) T) = some (Rw enc ys) := by simp [Rw, he]
 have hyl : ys.length ≠ 0 := fun e => hy (List.eq_nil_of_length_eq_zero e)
 unfold mY tva
 simp only [hr, nA, hb, Vc, Bd]
 by_cases e : xs.length = tot
 ·simp only [e, if_true, true_and, hn, true_and]
  by_cases hc : (n + ys.length) * by_ ≤ 140737488355328 ∧ n + ys.length ≤ 140737488355328
  ·rw [if_pos hc, if_pos hc, if_neg hyl]
   have hl := vE he xs
   have hly := vE he ys
   by_cases ht : n + ys.length ≤ tot
   ·rw [if_pos ht]
    have hlen : (xs.take n ++ ys ++ xs.drop (n + ys.length)).length = tot := by simp; omega
    simp only [vB, hlen, Option.some.injEq, Prod.mk.injEq, true_and]
    congr 2
    unfold putCells
    rw [hly, ← Nat.add_mul, DB he, DA he]
    simp [Rw, List.map_append, List.flatten_append]
   ·rw [if_neg ht]
    have hd : xs.drop (n + ys.length) = [] := List.drop_eq_nil_of_le (by omega)
    have hlen : (xs.take n ++ ys ++ xs.drop (n + ys.length)).length = n + ys.length := by rw [hd]; simp; omega
    simp only [vB, hlen, Option.some.injEq, Prod.mk.injEq, true_and]
    congr 2
    rw [DB he, hd]
    simp [Rw, List.map_append, List.flatten_append]
  ·rw [if_neg hc, if_neg hc]; rfl
 ·simp [e, tm]
attribute [simp] Kp
@[simp] theorem af6 {m : Nat} (hi : id < m) : kR.nM m h (.vslice id tot off len sz) = .vslice id tot off len sz := xQ hi
@[simp] theorem Hj {m : Nat} (hs : ∀ x, mP m h (enc x) = some (enc x)) : mP m h (Rw enc xs).flatten = some (Rw enc xs).flatten := by
 have app : ∀ (a b a' b' : List kR), mP m h a = some a' → mP m h b = some b' → mP m h (a ++ b) = some (a' ++ b') := by
  intro a
  induction a with
  | nil => intro b a' b' h1 h2; simp only [JO, Option.some.injEq] at h1; subst h1; exact h2
  | cons v a ih =>
   intro b a' b' h1 h2
   rw [pB] at h1
   rw [List.cons_append, pB]
   cases hc : (kR.nM m h v).mC with
   | false => rw [hc] at h1; cases h1
   | true =>
    rw [hc] at h1
    simp only [cond_true, Option.map_eq_some_iff] at h1 ⊢
    obtain ⟨a2, h3, rfl⟩ := h1
    exact ⟨_, ih b a2 b' h3 h2, rfl⟩
 induction xs with
 | nil => simp [Rw]
 | cons x r ih =>
  simp only [Rw, List.map_cons, List.flatten_cons] at ih ⊢
  exact app _ _ _ _ (hs x) ih
@[simp] theorem y9 {m : Nat} (hs : ∀ x, mP m h (enc x) = some (enc x)) : pA m h (Vc enc sz xs) = some (Vc enc sz xs) := by
 simp only [Vc, Ng, Hj hs, Option.map_some]
theorem JL (hs : ∀ x, (enc x).flatMap kR.BY = []) : (Vc enc sz xs).refs = [] := by
 simp only [Vc, lW.refs]
 induction xs with
 | nil => simp [Rw]
 | cons x r ih =>
  simp only [Rw, List.map_cons, List.flatten_cons, List.flatMap_append] at ih ⊢
  rw [hs x, ih]; rfl
theorem Nd {f : Nat → Nat} (hs : ∀ x, (enc x).map (kR.Ar f) = enc x) : (Vc enc sz xs).vG f = Vc enc sz xs := by
 simp only [Vc, lW.vG]
 congr 1
 induction xs with
 | nil => simp [Rw]
 | cons x r ih =>
  simp only [Rw, List.map_cons, List.flatten_cons, List.map_append] at ih ⊢
  rw [hs x, ih]
theorem RN {p : Nat → Bool} (hs : ∀ x, (enc x).all (kR.HV p) = true) : (Vc enc sz xs).ok p = true := by
 simp only [Vc, lW.ok]
 induction xs with
 | nil => simp [Rw]
 | cons x r ih =>
  simp only [Rw, List.map_cons, List.flatten_cons, List.all_append] at ih ⊢
  rw [hs x, ih]; rfl
end
def vld (g : Bool) (n : Nat) (b : Option lW) (tot a : Nat) : Option kR := match b with
 | some (.vec tot' _ cs) => if tot' = tot then apart g n cs a else none
 | _ => none
def Oe (n id : Nat) (h : kT) (b : Option lW) (tot a : Nat) (v : kR) : Option kT := match b with
 | some (.vec tot' sz cs) => if tot' = tot then (if v.cells.length = n ∧ a + n ≤ cs.length ∧ v.cells.all kR.mC then some (h.set id (.vec tot sz (putCells cs a v.cells))) else none) else none
 | _ => none
section
variable {α : Type} {enc : α → List kR} {sz : Nat} {xs ys : List α} {h : kT} {id n tot len off j a : Nat} {k : IntKind} {i : Int} {g : Bool} {v : kR}
@[simp] theorem sU : kV g n h (.vptr id tot a) = vld g n (h[id]?) tot a := by
 simp only [kV, nA, vld]
 cases h[id]? with
 | none => rfl
 | some b => cases b with
  | vec t s cs => by_cases e : t = tot <;> simp [e]
  | _ => rfl
@[simp] theorem Bh : lU n h (.vptr id tot a) v = Oe n id h (h[id]?) tot a v := by
 simp only [lU, nA, Oe]
 cases h[id]? with
 | none => rfl
 | some b => cases b with
  | vec t s cs => by_cases e : t = tot <;> simp [e]
  | _ => rfl
theorem N3 (b : lW) : ([b] : kT)[0]? = some b := rfl
@[simp] theorem aeZ (he : ∀ x, (enc x).length = sz) (ho : off < sz) : vld false 1 (some (Vc enc sz xs)) tot (j * sz + off) = (s6 tot xs j).bind fun x => (enc x)[off]? := by
 rw [← N3, ← sU]; exact AD he rfl ho
@[simp] theorem ZR (he : ∀ x, (enc x).length = sz) (ho : 0 < sz) : vld false 1 (some (Vc enc sz xs)) tot (j * sz) = (s6 tot xs j).bind fun x => (enc x)[0]? := aeZ (off := 0) he ho
@[simp] theorem ZS (he : ∀ x, (enc x).length = 1) : vld false 1 (some (Vc enc 1 xs)) tot j = (s6 tot xs j).bind fun x => (enc x)[0]? := by
 have := ZR (xs := xs) (tot := tot) (j := j) he (by omega); rwa [Nat.mul_one] at this
@[simp] theorem ZT (he : ∀ x, (enc x).length = sz) (hz : 0 < sz) : vld true sz (some (Vc enc sz xs)) tot (j * sz) = tm (s6 tot xs j) fun x => .agg (enc x) := by
 rw [← N3, ← sU]; exact Oo he rfl hz
@[simp] theorem acB {β : Type} {f : α → Option β} : (s6 n xs j).bind f = tb (s6 n xs j) f := rfl
theorem ae0 {m : Nat} (BN : α → α) (hb : h[id]? = some (Vc enc sz xs)) (he : ∀ x, (enc x).length = sz) (hv : v.cells.length = m) (hm : off + m ≤ sz) (hz : 0 < m) (hok : v.cells.all kR.mC = true) (hu : ∀ x, enc (BN x) = putCells (enc x) off v.cells) :
  Oe m id h (some (Vc enc sz xs)) tot (j * sz + off) v = tb (s6 tot xs j) fun x => tm (Au tot xs j (BN x)) fun zs => h.set id (Vc enc sz zs) := by
 rw [← hb, ← Bh]; exact Fz BN he hb hv hm hz hok hu
theorem Nv {m : Nat} (BN : α → α) (he : ∀ x, (enc x).length = sz) (hv : v.cells.length = m) (hm : off + m ≤ sz) (hz : 0 < m) (hok : v.cells.all kR.mC = true) (hu : ∀ x, enc (BN x) = putCells (enc x) off v.cells) :
  Oe m id h (some (Vc enc sz xs)) tot (j * sz + off) v = tb (s6 tot xs j) fun x => tm (Au tot xs j (BN x)) fun zs => h.set id (Vc enc sz zs) := by
 have key := ae0 (h := [Vc enc sz xs]) (id := 0) (tot := tot) (j := j) BN rfl he hv hm hz hok hu
 unfold Oe Vc at key ⊢
 simp only at key ⊢
 by_cases e : xs.length = tot
 ·simp only [e, if_true] at key ⊢
  by_cases c : v.cells.length = m ∧ j * sz + off + m ≤ (Rw enc xs).flatten.length ∧ v.cells.all kR.mC = true
  ·rw [if_pos c] at key ⊢
   cases ht : s6 tot xs j with
   | none => rw [ht] at key; cases key
   | some x =>
    rw [ht] at key
    simp only [mH] at key ⊢
    cases hs : Au tot xs j (BN x) with
    | none => rw [hs] at key; cases key
    | some zs =>
     rw [hs] at key
     simp only [vB, List.set_cons_zero, Option.some.injEq, List.cons.injEq, and_true] at key ⊢
     rw [key]
  ·rw [if_neg c] at key ⊢
   cases ht : s6 tot xs j with
   | none => rfl
   | some x =>
    rw [ht] at key
    simp only [mH] at key ⊢
    cases hs : Au tot xs j (BN x) with
    | none => rfl
    | some zs => rw [hs] at key; cases key
 ·simp [e, s6, tb]
theorem SJ (x : α) (he : ∀ x, (enc x).length = sz) (hz : 0 < sz) (hok : v.cells.all kR.mC = true) (hu : v.cells = enc x) :
  Oe sz id h (some (Vc enc sz xs)) tot (j * sz) v = tb (s6 tot xs j) fun _ => tm (Au tot xs j x) fun zs => h.set id (Vc enc sz zs) := by
 have := Nv (h := h) (id := id) (tot := tot) (j := j) (off := 0) (m := sz) (v := v) (xs := xs) (fun _ => x) he (by rw [hu, he]) (by omega) hz hok (fun y => by
  unfold putCells
  rw [hu, List.take_zero, List.nil_append, Nat.zero_add, List.drop_eq_nil_of_le (by rw [he, he]; exact Nat.le_refl _), List.append_nil])
 simpa using this
theorem Nu (x : α) (he : ∀ x, (enc x).length = 1) (hok : v.cells.all kR.mC = true) (hu : v.cells = enc x) :
  Oe 1 id h (some (Vc enc 1 xs)) tot j v = tb (s6 tot xs j) fun _ => tm (Au tot xs j x) fun zs => h.set id (Vc enc 1 zs) := by
 have := SJ (h := h) (id := id) (tot := tot) (j := j) (xs := xs) x he (by omega) hok hu
 rwa [Nat.mul_one] at this
def tvp {α : Type} (by_ n : Nat) (xs ys : List α) : Option (List α) := if xs.length = n ∧ (n + ys.length) * by_ ≤ 140737488355328 ∧ n + ys.length ≤ 140737488355328 then some (xs ++ ys) else none
def vap (sz by_ id : Nat) (h : kT) (b : Option lW) (tot n : Nat) (new : List (List kR)) : Option (kR × kT) := match b with
 | some (.vec tot' sz1 cs) => if tot' = tot then (if sz1 = sz ∧ (n + new.length) * by_ ≤ 140737488355328 ∧ n + new.length ≤ 140737488355328
   then (if new.length = 0 then some (.vslice id tot 0 n sz, h)
    else if n + new.length ≤ tot then some (.vslice id tot 0 (n + new.length) sz, h.set id (.vec tot sz (putCells cs (n * sz) new.flatten)))
    else some (.vslice id (n + new.length) 0 (n + new.length) sz, h.set id (.vec (n + new.length) sz (cs.take (n * sz) ++ new.flatten)))) else none) else none
 | _ => none
@[simp] theorem LQ {by_ : Nat} {T : Tok} (he : ∀ x, (enc x).length = sz) : mY sz by_ h (.vslice id tot 0 n sz) (.slice (Rw enc ys) T) = vap sz by_ id h (h[id]?) tot n (Rw enc ys) := by
 have hr : wS sz h (.slice (Rw enc ys) T) = some (Rw enc ys) := by simp [Rw, he]
 unfold mY vap
 simp only [hr, nA]
 cases h[id]? with
 | none => rfl
 | some b => cases b with
  | vec t s cs => by_cases e : t = tot <;> simp [e]
  | _ => rfl
@[simp] theorem aeY {by_ : Nat} (he : ∀ x, (enc x).length = sz) (hy : ys ≠ []) : vap sz by_ id h (some (Vc enc sz xs)) n n (Rw enc ys) = tm (tvp by_ n xs ys) fun zs => (.vslice id zs.length 0 zs.length sz, h.set id (Vc enc sz zs)) := by
 have hyl : ys.length ≠ 0 := fun e => hy (List.eq_nil_of_length_eq_zero e)
 simp only [vap, Vc, tvp, Bd]
 by_cases e : xs.length = n
 ·simp only [e, if_true, true_and]
  by_cases hc : (n + ys.length) * by_ ≤ 140737488355328 ∧ n + ys.length ≤ 140737488355328
  ·rw [if_pos hc, if_pos hc, if_neg hyl, if_neg (by omega)]
   have ht : (Rw enc xs).flatten.take (n * sz) = (Rw enc xs).flatten := List.take_of_length_le (by rw [vE he, e]; exact Nat.le_refl _)
   rw [ht]
   simp [tm, e, Rw]
  ·rw [if_neg hc, if_neg hc]; rfl
 ·simp [e, tm]
end
theorem uJ {α : Type} {P : Program} {A : Af} {f : Nat} {args args' : List kR} {h hs : kT} {ids : List Nat} {x : Option α} {v v' : α → kR} {h1 h2 : α → kT} {m : Option (n_ × kT)} (hp : A.pure f = false) (hsub : A.sub f = true)
  (hr : reach h args = ids) (ho : Im ids args h = true) (ha : args.map (kR.vG (An ids)) = args') (hh : yA ids h = hs)
  (he : qQ P A mJ (EP P A) f args' hs = m) (hk : m = tm x fun r => (.ret (v r), h1 r)) (hb : ∀ r, E1 ids h (.ret (v r), h1 r) = some (.ret (v' r), h2 r)) :
  mI A (EP P A) f args h = tm x fun r => (.ret (v' r), h2 r) := by
 simp only [mI, hp, hsub, cond_true, cond_false, ZA, hr, Sf, ho, ha, hh, IU, he, hk]
 cases x with
 | none => rfl
 | some r => exact hb r
@[simp] theorem ahL {m : Nat} {v : kR} {h : kT} : nE m v h = (mL m h).map fun h' => (.ret (v.oM m h).k8, h') := (rfl)
attribute [simp] Ct
attribute [simp] reach L5 Kl kR.refs kR.BY uI Im yA E1 kR.vG kR.Ar kR.ok kR.HV n_.vG n_.ok An tH xN JL Nd RN
section
variable {cs : List kR} {t z : Nat} {es : List (kR × kR)} {f : Nat → Nat} {p : Nat → Bool}
@[simp] theorem Zt : (lW.cells cs).refs = cs.flatMap kR.BY := (rfl)
@[simp] theorem aeA : (lW.vec t z cs).refs = cs.flatMap kR.BY := (rfl)
@[simp] theorem ad9 : (lW.map es).refs = es.flatMap fun e => e.2.BY := (rfl)
@[simp] theorem Zu : (lW.front t z).refs = [] := (rfl)
@[simp] theorem aaY : lW.free.refs = [] := (rfl)
@[simp] theorem aaZ : lW.gone.refs = [] := (rfl)
@[simp] theorem aa0 : (lW.cells cs).vG f = .cells (cs.map (kR.Ar f)) := (rfl)
@[simp] theorem af5 : (lW.vec t z cs).vG f = .vec t z (cs.map (kR.Ar f)) := (rfl)
@[simp] theorem af4 : (lW.map es).vG f = .map (es.map fun e => (e.1, e.2.Ar f)) := (rfl)
@[simp] theorem aa1 : (lW.front t z).vG f = .front t z := (rfl)
@[simp] theorem aeB : lW.free.vG f = .free := (rfl)
@[simp] theorem aeC : lW.gone.vG f = .gone := (rfl)
@[simp] theorem adY : (lW.cells cs).ok p = cs.all (kR.HV p) := (rfl)
@[simp] theorem aiH : (lW.vec t z cs).ok p = cs.all (kR.HV p) := (rfl)
@[simp] theorem aiG : (lW.map es).ok p = es.all fun e => e.2.HV p := (rfl)
@[simp] theorem adZ : (lW.front t z).ok p = true := (rfl)
@[simp] theorem af0 : lW.free.ok p = true := (rfl)
@[simp] theorem af1 : lW.gone.ok p = true := (rfl)
end
@[simp] theorem ad8 {sz n : Nat} : (sD sz n).refs = [] := (rfl)
@[simp] theorem af3 {sz n : Nat} {f : Nat → Nat} : (sD sz n).vG f = sD sz n := (rfl)
@[simp] theorem aiF {sz n : Nat} {p : Nat → Bool} : (sD sz n).ok p = true := (rfl)
@[simp] theorem SR {α : Type} {enc : α → List kR} {sz by_ : Nat} {h : kT} {ys : List α} {T : Tok} {k : kR → kT → Option R} (he : ∀ x, (enc x).length = sz) :
  lE (nQ sz by_ h (.slice (Rw enc []) .nil) (.slice (Rw enc ys) T)) k = tc ys.isEmpty (k (.slice (Rw enc []) .nil) h) (tb (xB by_ [] ys) fun zs => k (.slice (Rw enc zs) (.own h.length)) (h ++ [sD sz zs.length])) := by
 have hr : tA sz h (.slice (Rw enc ys) T) = some (Rw enc ys) := by simp [Rw, he]
 have e0 : Rw enc ([] : List α) = [] := rfl
 unfold nQ
 rw [e0]
 simp only [hr, Bd]
 cases ys with
 | nil => rfl
 | cons y r =>
  simp only [List.isEmpty_cons, qB, xB, List.length_nil, Nat.zero_add, List.nil_append]
  rw [if_neg (by simp)]
  split
  ·simp [sD, lE, tb]
  ·rfl
@[simp] theorem VW {α : Type} {enc : α → List kR} {h : kT} {rows : List (List kR)} : sJ h (.slice rows .no) (.slice (Rw enc []) .nil) = .slice (Rw enc []) .nil := Mn
@[simp] theorem VV {α : Type} {enc : α → List kR} {h : kT} : sJ h (.slice (Rw enc []) .nil) (.slice (Rw enc []) .nil) = .slice (Rw enc []) .nil := (rfl)
def Vs (id sz n : Nat) : kR := if n = 0 then .slice [] (.own id) else .vslice id n 0 n sz
def Vb {α : Type} (enc : α → List kR) (sz : Nat) (xs : List α) : lW := if xs.length = 0 then .front 0 0 else .vec xs.length sz (Rw enc xs).flatten
@[simp] theorem Fe {α : Type} {enc : α → List kR} {sz by_ id : Nat} {h : kT} {xs ys : List α} {T : Tok} (he : ∀ x, (enc x).length = sz) (hy : ys ≠ []) (hb : h[id]? = some (Vb enc sz xs)) :
  mY sz by_ h (Vs id sz xs.length) (.slice (Rw enc ys) T) = tm (xB by_ xs ys) fun zs => (.vslice id zs.length 0 zs.length sz, h.set id (Vc enc sz zs)) := by
 have hyl : ys.length ≠ 0 := fun e => hy (List.eq_nil_of_length_eq_zero e)
 by_cases h0 : xs.length = 0
 ·have x0 : xs = [] := List.eq_nil_of_length_eq_zero h0
  subst x0
  have hr : wS sz h (.slice (Rw enc ys) T) = some (Rw enc ys) := by simp [Rw, he]
  have hb' : h[id]? = some (.front 0 0) := hb
  have hv : Vs id sz ([] : List α).length = .slice [] (.own id) := rfl
  rw [hv]
  unfold mY xB
  simp only [hr, hb', Bd, List.length_nil, Nat.zero_add, List.nil_append]
  split
  ·simp [tm, Vc]
  ·rfl
 ·have hv : Vs id sz xs.length = .vslice id xs.length 0 xs.length sz := if_neg h0
  have hb' : h[id]? = some (Vc enc sz xs) := by rw [hb]; unfold Vb; rw [if_neg h0]; rfl
  rw [hv, LQ he, hb', aeY he hy]
  simp [tvp, xB]
theorem Fw {id sz n : Nat} : lN (Vs id sz n) = some (.int .i64 (n : Int)) := by
 unfold Vs; split
 ·rename_i h; subst h; rfl
 ·rfl
attribute [simp] Fw
end Hk
