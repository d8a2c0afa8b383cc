/-
  The program takes one token. No conditions but on sizes.
-/
import Derived.Test.YtkeoalhglkfbkaaDoorD
set_option linter.unusedVariables false
set_option linter.unusedSimpArgs false
namespace Go.Proofs.YtkeoalhglkfbkaaDoor
open Go Hk

structure Token where
  kind : Nat
  pos : Nat
  num : Nat
  text : List UInt8
  deriving DecidableEq
def Token.cells (t : Token) : List AVal := [.int .i64 (t.kind : Int), .int .i64 (t.pos : Int), .int .i64 (t.num : Int), .str t.text]

/-- The first sign of the list that is there. -/
def signFrom (ts : List (List UInt8)) (l : List UInt8) : List UInt8 := (ts.find? fun x => decide (l.take x.length = x)).getD []

/-- The token at a place, and how many bytes it has. -/
def oneS (l : List UInt8) (at_ : Nat) : Option (Token × Nat) :=
  match l with
  | [] => none
  | b :: _ =>
    if isLetter b then (if 40 < (runOf l).length then none else some (⟨if runOf l ∈ wordsT then 3 else 1, at_, 0, runOf l⟩, (runOf l).length))
    else if isDigit b then (match numberS (runOf l) with | none => none | some n => some (⟨2, at_, n, []⟩, (runOf l).length))
    else if signFrom signsT l = [] then none else some (⟨4, at_, 0, signFrom signsT l⟩, (signFrom signsT l).length)

theorem afind_zip (r : List UInt8) : ∀ (ws : List (List UInt8)) (ns : List Nat), ws.length = ns.length →
    ∃ v : Option Int, afind (.str r) ((ws.zip ns).map fun p => (.str p.1, .int .i64 (p.2 : Int))) = some (v.map (.int .i64)) ∧ (v.isSome = true ↔ r ∈ ws)
  | [], [], _ => ⟨none, rfl, by simp⟩
  | w :: ws, n :: ns, hl => by
    obtain ⟨v, h1, h2⟩ := afind_zip r ws ns (by simpa using hl)
    by_cases h : r = w
    · subst h
      exact ⟨some n, by simp [afind, aeq1], by simp⟩
    · refine ⟨v, ?_, by simp [h, h2]⟩
      have hb : (r == w) = false := by simp [h]
      simp only [List.zip_cons_cons, List.map_cons, afind, aeq1, hb]
      exact h1
  | [], _ :: _, hl => by simp at hl
  | _ :: _, [], hl => by simp at hl

theorem lookup_word (r : List UInt8) : ∃ v : Int, ∀ {h : Heap}, h[2]? = some (.map wordsM) → alookup (.int .i64 0) true h (.map 2) (.str r) = some (.tuple [.int .i64 v, .bool (decide (r ∈ wordsT))]) := by
  obtain ⟨v, h1, h2⟩ := afind_zip r wordsT (List.range' 1 19) rfl
  refine ⟨v.getD 0, fun {h} hh => ?_⟩
  have h1' : afind (.str r) wordsM = some (v.map (.int .i64)) := h1
  simp only [alookup, getMap, hh, h1']
  cases v with
  | none =>
    have : ¬ r ∈ wordsT := fun hm => by have := h2.2 hm; simp at this
    simp [this]
  | some v =>
    have : r ∈ wordsT := h2.1 rfl
    simp [this]

theorem frSz_app (out : List (List AVal)) (c : List AVal) : frSz (out ++ [c]) = 4 := by cases out <;> rfl
theorem frSz_ok (out : List (List AVal)) : frSz out = 4 ∨ out = [] ∧ frSz out = 0 := by cases out <;> simp [frSz]

section
variable (s : List UInt8) (out : List (List AVal))

/-- The search for a sign. -/
theorem m55_loop (hs : s.length ≤ 65536) (at_ : Nat) (ha : at_ < s.length) (k p q : Int) (t : List UInt8) (i : Nat) (hi : i ≤ signsT.length) :
    ∃ j : Int, lpW (m55_l0 KK 6) ([.ptr 3 0, .bool false, .ptr 5 0, .slice (signsT.map fun t => [.str t]) .no, .int .i64 (signsT.length : Nat), .int .i64 (i : Nat)], HT wordsM signsR s (at_ : Nat) out k p q t) =
      some (.exit 1, [.ptr 3 0, .bool false, .ptr 5 0, .slice (signsT.map fun t => [.str t]) .no, .int .i64 (signsT.length : Nat), .int .i64 j],
        HT wordsM signsR s (at_ : Nat) out k p q (((signsT.drop i).find? fun x => decide ((s.drop at_).take x.length = x)).getD t)) := by
  have hd := drop_get ha
  have hsl : signsT.length = 26 := rfl
  have tr := fun t => trunc_HT (W := wordsM) (sg := signsR) (s := s) (at_ := (at_ : Nat)) (out := out) (k := k) (p := p) (n := q) (t := t) (wordsM_shut 6)
  generalize hW : wordsM = W at *
  generalize signsR = sg at *
  generalize hT : signsT = T at *
  induction hm : T.length - i using Nat.strongRecOn generalizing i with
  | _ m ih =>
    rw [lpW_step]
    by_cases h : i < T.length
    · have hx : T[i]? = some T[i] := List.getElem?_eq_getElem h
      have h' : (i : Int) < T.length := by omega
      have hf : (T.drop i).find? (fun x => decide ((s.drop at_).take x.length = x)) = if (s.drop at_).take T[i].length = T[i] then some T[i] else (T.drop (i + 1)).find? (fun x => decide ((s.drop at_).take x.length = x)) := by
        rw [List.drop_eq_getElem_cons h, List.find?_cons]
        by_cases hp : (s.drop at_).take T[i].length = T[i] <;> simp only [hp, decide_true, decide_false, if_true, if_false]
      rw [hf]
      by_cases hp : (s.drop at_).take T[i].length = T[i]
      · refine ⟨i, ?_⟩
        simp [m55_l0, HT, h', hx, hd, c108, hp, putCells, endR, tr, san1_ptr]
      · have w : IntKind.wrap .i64 ((i : Int) + 1) = (i : Int) + 1 := by rw [wrap64] <;> omega
        obtain ⟨j, hl⟩ := ih (T.length - (i + 1)) (by omega) (i + 1) (by omega) rfl
        refine ⟨j, ?_⟩
        have step : m55_l0 KK 6 ([.ptr 3 0, .bool false, .ptr 5 0, .slice (T.map fun t => [.str t]) .no, .int .i64 (T.length : Nat), .int .i64 (i : Nat)], HT W sg s (at_ : Nat) out k p q t) =
            some (.normal, [.ptr 3 0, .bool false, .ptr 5 0, .slice (T.map fun t => [.str t]) .no, .int .i64 (T.length : Nat), .int .i64 (i + 1 : Nat)], HT W sg s (at_ : Nat) out k p q t) := by
          simp [m55_l0, HT, h', hx, hd, c108, hp, w, endR, tr, san1_ptr]
        rw [step]
        simp only [Option.bind_some, thenDo_normal]
        rw [hl, if_neg hp]
    · have h' : ¬ (i : Int) < T.length := by omega
      have : T.drop i = [] := List.drop_eq_nil_of_le (by omega)
      refine ⟨i, ?_⟩
      simp [m55_l0, HT, h', this, endR, tr, san1_ptr]


/-- The end of 'token': the token is appended. -/
theorem trunc_tok {W : List (AVal × AVal)} {sg : List (List AVal)} {s : List UInt8} {at_ : Int} {out : List (List AVal)} {n sz : Nat} {bs : Heap} (hW : W.all (fun e => e.2.shut1 5) = true) :
    trunc 5 (.front 0 0 :: .cells [.int .i64 0, .int .i64 0] :: .map W :: .cells [.str s, .int .i64 at_, .map 2, .slice sg .no, .slice out (.own 4)] :: .front n sz :: bs) =
      some [.front 0 0, .cells [.int .i64 0, .int .i64 0], .map W, .cells [.str s, .int .i64 at_, .map 2, .slice sg .no, .slice out (.own 4)], .front n sz] := by
  simp [trunc, sanBlk, hW]

/-- One token. -/
theorem c55 (hs : s.length ≤ 65536) (at_ : Nat) (ha : at_ < s.length) (ho : out.length ≤ 65536) :
    KK 55 [.ptr 3 0] (HL wordsM signsR s (at_ : Nat) out) = some (match oneS (s.drop at_) at_ with
      | some (t, n) => (.ret (.bool true), HL wordsM signsR s (at_ + n : Nat) (out ++ [t.cells]))
      | none => (.ret (.bool false), HL wordsM signsR s (at_ : Nat) out)) := by
  refine evW_by (m55_eq _ _ _) ?_
  have hi : s[at_]? = some s[at_] := List.getElem?_eq_getElem ha
  have hcons := List.drop_eq_getElem_cons ha
  have hW4 := wordsM_shut 5
  have hW5 := wordsM_shut 6
  have hrun := fun k p q t => c111 wordsM signsR s out k p q t hW5 hs at_ (Nat.le_of_lt ha)
  have hrl := runOf_le (s.drop at_)
  simp only [List.length_drop] at hrl
  obtain ⟨v, hlook⟩ := lookup_word (runOf (s.drop at_))
  have hfr := frSz_ok out
  have hsz : ((out.length : Int) + 1) * 40 ≤ 140737488355328 := by omega
  have hone : oneS (s.drop at_) at_ = if isLetter s[at_] then (if 40 < (runOf (s.drop at_)).length then none else some (⟨if runOf (s.drop at_) ∈ wordsT then 3 else 1, at_, 0, runOf (s.drop at_)⟩, (runOf (s.drop at_)).length))
    else if isDigit s[at_] then (match numberS (runOf (s.drop at_)) with | none => none | some n => some (⟨2, at_, n, []⟩, (runOf (s.drop at_)).length))
    else if signFrom signsT (s.drop at_) = [] then none else some (⟨4, at_, 0, signFrom signsT (s.drop at_)⟩, (signFrom signsT (s.drop at_)).length) := by
    rw [hcons]; rfl
  rw [hone]
  generalize hW : wordsM = W at *
  generalize hsg : signsR = sg at *
  simp only [HT] at hrun
  generalize hR : runOf (s.drop at_) = r at *
  have hw : IntKind.wrap .i64 ((at_ : Int) + r.length) = (at_ : Int) + r.length := by rw [wrap64] <;> omega
  have happ : ∀ (a : Int) (c : List AVal) (hc : c.length = 4), aappend 4 40 [.front 0 0, .cells [.int .i64 0, .int .i64 0], .map W, .cells [.str s, .int .i64 a, .map 2, .slice sg .no, .slice out (.own 4)], .front out.length (frSz out), .cells c, .front 1 4] (.slice out (.own 4)) (.slice [c] (.own 6)) =
      some (.slice (out ++ [c]) (.own 4), [.front 0 0, .cells [.int .i64 0, .int .i64 0], .map W, .cells [.str s, .int .i64 a, .map 2, .slice sg .no, .slice out (.own 4)], .front (out.length + 1) 4, .cells c, .front 1 4]) := by
    intro a c hc
    have h1 : (out.length + 1) * 40 ≤ 140737488355328 := by omega
    have h2 : out.length + 1 ≤ 140737488355328 := by omega
    have h3 : frSz out = 4 ∨ out.length = 0 ∧ frSz out = 0 := by
      rcases hfr with h | ⟨h, h'⟩
      · exact .inl h
      · exact .inr ⟨by simp [h], h'⟩
    have hall : [c].all (fun r => r.length == 4) = true := by simp [hc]
    have hget : ([.front 0 0, .cells [.int .i64 0, .int .i64 0], .map W, .cells [.str s, .int .i64 a, .map 2, .slice sg .no, .slice out (.own 4)], .front out.length (frSz out), .cells c, .front 1 4] : Heap)[4]? = some (.front out.length (frSz out)) := rfl
    simp only [aappend, arowsS, hall, if_true, hget, List.length_cons, List.length_nil, Nat.zero_add, h1, h2, h3, and_self]
    rfl
  by_cases hl : isLetter s[at_] = true
  · by_cases h40 : 40 < r.length
    · have h40' : (40 : Int) < r.length := by omega
      by_cases hm : r ∈ wordsT
      · simp [m55, HL, hi, abuild, anew, tokCells, putCells, c110, hl, hrun, akeyFor, hlook, hm, h40, h40', finR, trunc_tok hW4]
      · simp [m55, HL, hi, abuild, anew, tokCells, putCells, c110, hl, hrun, akeyFor, hlook, hm, h40, h40', finR, trunc_tok hW4]
    · have h40' : ¬ (40 : Int) < r.length := by omega
      by_cases hm : r ∈ wordsT
      · have hap := happ ((at_ : Int) + r.length) [.int .i64 3, .int .i64 at_, .int .i64 0, .str r] rfl
        simp [m55, HL, hi, abuild, anew, tokCells, putCells, c110, hl, hrun, akeyFor, hlook, hm, h40, h40', hw, hide, hide1, lockIds, addrId, unhide, unhide1, abuildSlice, abuildRow, pureRow, AVal.pure1, rowsOf, hap, finR, trunc_tok hW4, Token.cells, frSz_app]
      · have hap := happ ((at_ : Int) + r.length) [.int .i64 1, .int .i64 at_, .int .i64 0, .str r] rfl
        simp [m55, HL, hi, abuild, anew, tokCells, putCells, c110, hl, hrun, akeyFor, hlook, hm, h40, h40', hw, hide, hide1, lockIds, addrId, unhide, unhide1, abuildSlice, abuildRow, pureRow, AVal.pure1, rowsOf, hap, finR, trunc_tok hW4, Token.cells, frSz_app]
  · have hlf : isLetter s[at_] = false := by simpa using hl
    by_cases hd : isDigit s[at_] = true
    · have hr0 : r ≠ [] := by
        rw [← hR, runOf_cons ha]; simp [isWord, hd]
      have hnum := c113 r (by omega) hr0
      cases hn : numberS r with
      | none =>
        rw [hn] at hnum
        simp at hnum
        simp [m55, HL, hi, abuild, anew, tokCells, putCells, c110, hlf, c112, hd, hrun, hnum, finR, trunc_tok hW4]
      | some n =>
        rw [hn] at hnum
        simp at hnum
        have hap := happ ((at_ : Int) + r.length) [.int .i64 2, .int .i64 at_, .int .i64 n, .str []] rfl
        simp [m55, HL, hi, abuild, anew, tokCells, putCells, c110, hlf, c112, hd, hrun, hnum, hw, hide, hide1, lockIds, addrId, unhide, unhide1, abuildSlice, abuildRow, pureRow, AVal.pure1, rowsOf, hap, finR, trunc_tok hW4, Token.cells, frSz_app]
    · have hdf : isDigit s[at_] = false := by simpa using hd
      obtain ⟨j, hloop⟩ := m55_loop s out hs at_ ha 4 at_ 0 [] 0 (Nat.zero_le _)
      rw [hW, hsg] at hloop
      have hsl : signsT.length = 26 := rfl
      have hsgm : sg = signsT.map fun t => [.str t] := by rw [← hsg]; rfl
      rw [← hsgm] at hloop
      have hsglen : sg.length = 26 := by rw [hsgm]; rfl
      simp only [List.drop_zero, hsl, HT, Int.ofNat_eq_natCast, Int.cast_ofNat_Int] at hloop
      generalize hx : signFrom signsT (s.drop at_) = x at *
      have hx' : ((signsT.find? fun x => decide ((s.drop at_).take x.length = x)).getD []) = x := hx
      rw [hx'] at hloop
      have hxl : x.length ≤ 65536 := by
        rw [← hx]
        unfold signFrom
        cases hf : signsT.find? fun x => decide ((s.drop at_).take x.length = x) with
        | none => simp
        | some y =>
          have := List.find?_some hf
          simp only [decide_eq_true_eq] at this
          have := congrArg List.length this
          simp at this ⊢
          omega
      have hwx : IntKind.wrap .i64 ((at_ : Int) + x.length) = (at_ : Int) + x.length := by rw [wrap64] <;> omega
      by_cases hx0 : x = []
      · simp [m55, HL, hi, abuild, anew, tokCells, putCells, c110, hlf, c112, hdf, hsglen, hloop, hx0, finR, trunc_tok hW4]
      · have hap := happ ((at_ : Int) + x.length) [.int .i64 4, .int .i64 at_, .int .i64 0, .str x] rfl
        simp [m55, HL, hi, abuild, anew, tokCells, putCells, c110, hlf, c112, hdf, hsglen, hloop, hx0, hwx, hide, hide1, lockIds, addrId, unhide, unhide1, abuildSlice, abuildRow, pureRow, AVal.pure1, rowsOf, hap, finR, trunc_tok hW4, Token.cells, frSz_app]

end
end Go.Proofs.YtkeoalhglkfbkaaDoor
