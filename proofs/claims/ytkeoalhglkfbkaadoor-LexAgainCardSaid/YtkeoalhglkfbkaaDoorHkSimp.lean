/-
  THE EVALUATOR's OPERATIONS ON KNOWN VALUES: equations for 'simp'.
-/
import Derived.Test.YtkeoalhglkfbkaaDoorHkFront
set_option linter.unusedVariables false
set_option linter.unusedSimpArgs false
namespace Hk
open Go

attribute [simp] Option.bind_some Option.bind_none

theorem abound_none {d : Nat} : abound none d = some d := (rfl)
theorem abound_nat {k : IntKind} {n d : Nat} : abound (some (.int k (n : Int))) d = some n := by simp [abound]

/-! What is looked at first: so that nothing is simplified behind what is not known. -/
@[congr] theorem bind_cong {α β : Type} {x x' : Option α} {f : α → Option β} (h : x = x') : x.bind f = x'.bind f := by rw [h]
@[congr] theorem bindRes_cong {x x' : Option (Res × Heap)} {f g : AVal → Heap → Option R} (h : x = x') : bindRes x f g = bindRes x' f g := by rw [h]
@[congr] theorem bindVH_cong {x x' : Option (AVal × Heap)} {f : AVal → Heap → Option R} (h : x = x') : bindVH x f = bindVH x' f := by rw [h]
@[congr] theorem acond_cong {x x' : AVal} {t e : Option R} (h : x = x') : acond x t e = acond x' t e := by rw [h]
@[congr] theorem guardSel_cong {w : Bool} {x x' : AVal} {t e : Option R} (h : x = x') : guardSel w x t e = guardSel w x' t e := by rw [h]
@[congr] theorem thenDo_cong {x x' : Ex} {t : Option R} {e : Ex → Option R} (h : x = x') : Ex.thenDo x t e = Ex.thenDo x' t e := by rw [h]
@[congr] theorem inBlock_cong {i : Nat} {x x' : Ex} {t : Option R} {e : Ex → Option R} (h : x = x') : Ex.inBlock i x t e = Ex.inBlock i x' t e := by rw [h]
@[congr] theorem nrm_cong {x x' : Ex} {t : Option R} (h : x = x') : Ex.nrm x t = Ex.nrm x' t := by rw [h]
@[congr] theorem endF_cong {x x' : Ex} {t : Option (Res × Heap)} (h : x = x') : Ex.endF x t = Ex.endF x' t := by rw [h]
@[congr] theorem cond_cong {α : Type} {x x' : Bool} {t e : α} (h : x = x') : cond x t e = cond x' t e := by rw [h]
@[congr] theorem fin0_cong {f g : AVal → Heap → Option R} {x x' : R} (h : x = x') : fin0 f g x = fin0 f g x' := by rw [h]

section
variable {k k' : IntKind} {a b : Int} {x y : Bool} {s t : List UInt8} {v w : AVal} {h : Heap} {m : Nat}

@[simp] theorem abin_add : abin .add (.int k a) (.int k b) = some (.int k (k.wrap (a + b))) := by simp [abin]
@[simp] theorem abin_sub : abin .sub (.int k a) (.int k b) = some (.int k (k.wrap (a - b))) := by simp [abin]
@[simp] theorem abin_mul : abin .mul (.int k a) (.int k b) = some (.int k (k.wrap (a * b))) := by simp [abin]
@[simp] theorem abin_eql : abin .eql (.int k a) (.int k b) = some (.bool (decide (a = b))) := by simp [abin]; rfl
@[simp] theorem abin_neq : abin .neq (.int k a) (.int k b) = some (.bool (!decide (a = b))) := by simp [abin, bne]; rfl
@[simp] theorem abin_lss : abin .lss (.int k a) (.int k b) = some (.bool (decide (a < b))) := by simp [abin]
@[simp] theorem abin_leq : abin .leq (.int k a) (.int k b) = some (.bool (decide (a ≤ b))) := by simp [abin]
@[simp] theorem abin_gtr : abin .gtr (.int k a) (.int k b) = some (.bool (decide (b < a))) := by simp [abin]
@[simp] theorem abin_geq : abin .geq (.int k a) (.int k b) = some (.bool (decide (b ≤ a))) := by simp [abin]
@[simp] theorem abin_adds : abin .add (.str s) (.str t) = if s.length + t.length ≤ 4611686018427387904 then some (.str (s ++ t)) else none := (rfl)
@[simp] theorem abin_eqls : abin .eql (.str s) (.str t) = some (.bool (decide (s = t))) := by
  have : (s == t) = decide (s = t) := by by_cases h : s = t <;> simp [h]
  simp [abin, this]
@[simp] theorem abin_neqs : abin .neq (.str s) (.str t) = some (.bool (!decide (s = t))) := by
  have : (s == t) = decide (s = t) := by by_cases h : s = t <;> simp [h]
  simp [abin, this]
@[simp] theorem abinB_eql : abinB .eql (.bool x) (.bool y) = some (.bool (decide (x = y))) := by cases x <;> cases y <;> rfl
@[simp] theorem abinB_neq : abinB .neq (.bool x) (.bool y) = some (.bool (!decide (x = y))) := by cases x <;> cases y <;> rfl
@[simp] theorem aun_not : aun .not (.bool x) = some (.bool (!x)) := (rfl)
@[simp] theorem aun_neg : aun .neg (.int k a) = some (.int k (k.wrap (0 - a))) := (rfl)
@[simp] theorem aconvInt_int : aconvInt k (.int k' a) = some (.int k (k.wrap a)) := (rfl)
@[simp] theorem apick_bool : apick (.bool x) v w = some (bif x then v else w) := (rfl)
@[simp] theorem amin2_int : amin2 (.int k a) (.int k' b) = some (.int k (min a b)) := by
  simp only [amin2, Option.some.injEq, AVal.int.injEq, true_and]
  by_cases h : b < a <;> simp [h] <;> omega
@[simp] theorem amax2_int : amax2 (.int k a) (.int k' b) = some (.int k (max a b)) := by
  simp only [amax2, Option.some.injEq, AVal.int.injEq, true_and]
  by_cases h : b > a <;> simp [h] <;> omega
@[simp] theorem alenSl_slice {rows : List (List AVal)} {t : Tok} : alenSl (.slice rows t) = some (.int .i64 rows.length) := (rfl)
@[simp] theorem alenStr_str : alenStr (.str s) = some (.int .i64 s.length) := (rfl)
@[simp] theorem acond_bool {t e : Option R} : acond (.bool x) t e = bif x then t else e := (rfl)
@[simp] theorem guardSel_true {run skip : Option R} : guardSel true (.bool x) run skip = bif x then run else skip := (rfl)
@[simp] theorem guardSel_false {run skip : Option R} : guardSel false (.bool x) run skip = bif x then skip else run := (rfl)
@[simp] theorem guardSel_tuple {g : Bool} {run skip : Option R} : guardSel g (.tuple []) run skip = skip := (rfl)
@[simp] theorem fin0_normal {kv kp : AVal → Heap → Option R} : fin0 kv kp (.normal, [v], h) = kv v h := (rfl)
@[simp] theorem kv0_eq : kv0 v h = some (.normal, [v], h) := (rfl)
@[simp] theorem bindRes_ret {kv kp : AVal → Heap → Option R} : bindRes (some (.ret v, h)) kv kp = kv v h := (rfl)
@[simp] theorem bindVH_some {kv : AVal → Heap → Option R} : bindVH (some (v, h)) kv = kv v h := (rfl)
@[simp] theorem thenDo_normal {kn : Option R} {ke : Ex → Option R} : Ex.thenDo .normal kn ke = kn := (rfl)
@[simp] theorem thenDo_ret {kn : Option R} {ke : Ex → Option R} : Ex.thenDo .ret kn ke = ke .ret := (rfl)
@[simp] theorem thenDo_exit {i : Nat} {kn : Option R} {ke : Ex → Option R} : Ex.thenDo (.exit i) kn ke = ke (.exit i) := (rfl)
@[simp] theorem nrm_normal {kn : Option R} : Ex.nrm .normal kn = kn := (rfl)
@[simp] theorem inBlock_normal {i : Nat} {kn : Option R} {ke : Ex → Option R} : Ex.inBlock i .normal kn ke = kn := (rfl)
@[simp] theorem inBlock_ret {i : Nat} {kn : Option R} {ke : Ex → Option R} : Ex.inBlock i .ret kn ke = ke .ret := (rfl)
@[simp] theorem inBlock_exit {i j : Nat} {kn : Option R} {ke : Ex → Option R} : Ex.inBlock i (.exit j) kn ke = bif j == i then kn else ke (.exit j) := (rfl)
@[simp] theorem endF_normal {x : Option (Res × Heap)} : Ex.endF .normal x = x := (rfl)
@[simp] theorem endF_ret {x : Option (Res × Heap)} : Ex.endF .ret x = x := (rfl)

@[simp] theorem san_int : AVal.san m h (.int k a) = .int k a := (rfl)
@[simp] theorem san_bool : AVal.san m h (.bool x) = .bool x := (rfl)
@[simp] theorem san_str : AVal.san m h (.str s) = .str s := (rfl)
@[simp] theorem san_slice {rows : List (List AVal)} : AVal.san m h (.slice rows .no) = .slice rows .no := (rfl)
@[simp] theorem san_nil : AVal.san m h (.slice [] .nil) = .slice [] .nil := (rfl)
@[simp] theorem san_undef : AVal.san m h (.tuple []) = .tuple [] := (rfl)
@[simp] theorem san_junk : AVal.san m h .junk = .junk := (rfl)
@[simp] theorem san_own {rows : List (List AVal)} {id : Nat} : AVal.san m h (.slice rows (.own id)) = bif decide (id < m) then .slice rows (.own id) else .slice rows .no := (rfl)
@[simp] theorem san_agg {cs : List AVal} : AVal.san m h (.agg cs) = .agg (cs.map (·.san1 m h)) := (rfl)
@[simp] theorem san1_int : AVal.san1 m h (.int k a) = .int k a := (rfl)
@[simp] theorem san1_bool : AVal.san1 m h (.bool x) = .bool x := (rfl)
@[simp] theorem san1_str : AVal.san1 m h (.str s) = .str s := (rfl)
@[simp] theorem san1_slice {rows : List (List AVal)} : AVal.san1 m h (.slice rows .no) = .slice rows .no := (rfl)
@[simp] theorem san1_nil : AVal.san1 m h (.slice [] .nil) = .slice [] .nil := (rfl)
@[simp] theorem san1_own {rows : List (List AVal)} {id : Nat} : AVal.san1 m h (.slice rows (.own id)) = bif decide (id < m) then .slice rows (.own id) else .slice rows .no := (rfl)
@[simp] theorem san_tuple2 {v w : AVal} : AVal.san m h (.tuple [v, w]) = .tuple [(match v with | .agg cs => .agg (cs.map (·.san1 m h)) | v => v.san1 m h), (match w with | .agg cs => .agg (cs.map (·.san1 m h)) | v => v.san1 m h)] := (rfl)
@[simp] theorem untok_int : AVal.untok (.int k a) = .int k a := (rfl)
@[simp] theorem untok_bool : AVal.untok (.bool x) = .bool x := (rfl)
@[simp] theorem untok_str : AVal.untok (.str s) = .str s := (rfl)
@[simp] theorem untok_slice {rows : List (List AVal)} {t : Tok} : AVal.untok (.slice rows t) = .slice rows .no := (rfl)
@[simp] theorem untok_undef : AVal.untok (.tuple []) = .tuple [] := (rfl)
@[simp] theorem untok_agg {cs : List AVal} : AVal.untok (.agg cs) = .agg (cs.map AVal.untok1) := (rfl)
@[simp] theorem untok1_int : AVal.untok1 (.int k a) = .int k a := (rfl)
@[simp] theorem untok1_bool : AVal.untok1 (.bool x) = .bool x := (rfl)
@[simp] theorem untok1_str : AVal.untok1 (.str s) = .str s := (rfl)
@[simp] theorem untok1_slice {rows : List (List AVal)} {t : Tok} : AVal.untok1 (.slice rows t) = .slice rows .no := (rfl)
@[simp] theorem untok_tuple2 {v w : AVal} : AVal.untok (.tuple [v, w]) = .tuple [(match v with | .agg cs => .agg (cs.map AVal.untok1) | v => v.untok1), (match w with | .agg cs => .agg (cs.map AVal.untok1) | v => v.untok1)] := (rfl)

@[simp] theorem trunc_nil : trunc m [] = some [] := by simp [trunc, sanBlks]
theorem trunc_take {bs : Heap} : trunc 0 bs = some [] := by simp [trunc, sanBlks]
@[simp] theorem trunc_zero {bs : Heap} : trunc 0 bs = some [] := trunc_take
theorem endR_zero {e : Ex} {vs : List AVal} : endR 0 e vs h = some (e, vs.map (·.san 0 h), []) := by simp [endR]
theorem finR_zero : finR 0 v h = some (.ret (v.san 0 h).untok, []) := by simp [finR]

/-! ### Memory -/
@[simp] theorem getBlk_zero {cs : List AVal} {r : Heap} : getBlk (.cells cs :: r) 0 = some cs := (rfl)
@[simp] theorem getBlk_succ {b : ABlk} {r : Heap} {n : Nat} : getBlk (b :: r) (n + 1) = getBlk r n := (rfl)
@[simp] theorem aload_ptr {n id off : Nat} : aload false n h (.ptr id off) = (getBlk h id).bind fun cs => cs[off]? := by
  simp only [aload, apart, cond_false]; cases getBlk h id <;> rfl
@[simp] theorem aload_ptrT {n id off : Nat} : aload true n h (.ptr id off) = (getBlk h id).bind fun cs => if off + n ≤ cs.length then some (.agg ((cs.drop off).take n)) else none := by
  simp only [aload, apart, cond_true]; cases getBlk h id <;> rfl
@[simp] theorem astore_ptr {n id off : Nat} : astore n h (.ptr id off) v = (getBlk h id).bind fun cs => if v.cells.length = n ∧ off + n ≤ cs.length ∧ v.cells.all AVal.cellOk then some (h.set id (.cells (putCells cs off v.cells))) else none := by
  simp only [astore]; cases getBlk h id <;> rfl
@[simp] theorem afieldAt_ptr {id o off : Nat} : afieldAt off (.ptr id o) = some (.ptr id (o + off)) := (rfl)
@[simp] theorem afieldAt_pptr {cs : List AVal} {off : Nat} : afieldAt off (.pptr cs) = some (.pptr (cs.drop off)) := (rfl)
@[simp] theorem anilCheck_ptr {id off : Nat} : anilCheck (.ptr id off) = some (.ptr id off) := (rfl)
@[simp] theorem anilCheck_pptr {cs : List AVal} : anilCheck (.pptr cs) = some (.pptr cs) := (rfl)
@[simp] theorem cells_int : AVal.cells (.int k a) = [.int k a] := (rfl)
@[simp] theorem cells_bool : AVal.cells (.bool x) = [.bool x] := (rfl)
@[simp] theorem cells_str : AVal.cells (.str s) = [.str s] := (rfl)
@[simp] theorem cells_slice {rows : List (List AVal)} {t : Tok} : AVal.cells (.slice rows t) = [.slice rows t] := (rfl)
@[simp] theorem cells_agg {cs : List AVal} : AVal.cells (.agg cs) = cs := (rfl)
@[simp] theorem cells_map {i : Nat} : AVal.cells (.map i) = [.map i] := (rfl)
@[simp] theorem cellOk_int : AVal.cellOk (.int k a) = true := (rfl)
@[simp] theorem cellOk_bool : AVal.cellOk (.bool x) = true := (rfl)
@[simp] theorem cellOk_str : AVal.cellOk (.str s) = true := (rfl)
@[simp] theorem cellOk_slice {rows : List (List AVal)} {t : Tok} : AVal.cellOk (.slice rows t) = true := (rfl)
@[simp] theorem cellOk_map {i : Nat} : AVal.cellOk (.map i) = true := (rfl)
@[simp] theorem isJunk_int : AVal.isJunk (.int k a) = false := (rfl)
@[simp] theorem isJunk_bool : AVal.isJunk (.bool x) = false := (rfl)
@[simp] theorem isJunk_str : AVal.isJunk (.str s) = false := (rfl)
@[simp] theorem isJunk_slice {rows : List (List AVal)} {t : Tok} : AVal.isJunk (.slice rows t) = false := (rfl)
@[simp] theorem isJunk_agg {cs : List AVal} : AVal.isJunk (.agg cs) = false := (rfl)
@[simp] theorem isJunk_map {i : Nat} : AVal.isJunk (.map i) = false := (rfl)
@[simp] theorem san1_map {i : Nat} : AVal.san1 m h (.map i) = bif decide (i < m) then .map i else .junk := (rfl)
@[simp] theorem san_map {i : Nat} : AVal.san m h (.map i) = bif decide (i < m) then .map i else .junk := (rfl)
@[simp] theorem san_ptr {i o : Nat} : AVal.san m h (.ptr i o) = AVal.san1 m h (.ptr i o) := (rfl)
theorem san1_ptr {i o : Nat} (hi : i < m) : AVal.san1 m h (.ptr i o) = .ptr i o := by simp [AVal.san1, hi]
theorem san_ptr_lt {i o : Nat} (hi : i < m) : AVal.san m h (.ptr i o) = .ptr i o := by rw [san_ptr, san1_ptr hi]
@[simp] theorem untok_ptr {i o : Nat} : AVal.untok (.ptr i o) = .ptr i o := (rfl)
@[simp] theorem untok_map {i : Nat} : AVal.untok (.map i) = .map i := (rfl)
@[simp] theorem sanCells_nil : sanCells m h [] = some [] := (rfl)
@[simp] theorem sanCells_cons {cs : List AVal} : sanCells m h (v :: cs) = bif (v.san1 m h).cellOk then (sanCells m h cs).map (v.san1 m h :: ·) else none := by
  simp only [sanCells]; cases sanCells m h cs <;> rfl
@[simp] theorem sanBlk_cells {cs : List AVal} : sanBlk m h (.cells cs) = (sanCells m h cs).map .cells := (rfl)
@[simp] theorem sanBlk_front {i j : Nat} : sanBlk m h (.front i j) = some (.front i j) := (rfl)
@[simp] theorem sanBlks_nil : sanBlks m h [] = some [] := (rfl)
@[simp] theorem sanBlks_cons {b : ABlk} {bs : Heap} : sanBlks m h (b :: bs) = (sanBlk m h b).bind fun b' => (sanBlks m h bs).map (b' :: ·) := by
  simp only [sanBlks]; cases sanBlk m h b <;> cases sanBlks m h bs <;> rfl
/-- An element of a string. -/
@[simp] theorem aindexStr_nat {i : Nat} : aindexStr (.str s) (.int k (i : Int)) = (s[i]?).map fun b => .int .u8 b.toNat := by simp [aindexStr]
@[simp] theorem aindexStr_zero : aindexStr (.str s) (.int k 0) = (s[0]?).map fun b => .int .u8 b.toNat := by simp [aindexStr]
theorem asliceStr_nat {lo hi : Option AVal} {l u : Nat} (hl : abound lo 0 = some l) (hu : abound hi s.length = some u) (h1 : l ≤ u) (h2 : u ≤ s.length) : asliceStr (.str s) lo hi = some (.str ((s.drop l).take (u - l))) := by
  simp [asliceStr, hl, hu, h1, h2]
@[simp] theorem aextract_tuple {i : Nat} {vs : List AVal} : aextract i (.tuple vs) = vs[i]? := (rfl)
end

/-- A machine word's value. -/
theorem wrap64 {n : Int} (h1 : -9223372036854775808 ≤ n) (h2 : n ≤ 9223372036854775807) : IntKind.wrap .i64 n = n := by
  simp [IntKind.wrap, IntKind.signed, IntKind.bits]
  split <;> omega

/-- An element of a slice. -/
@[simp] theorem aindexSl_map {α : Type} {enc : α → List AVal} {sz : Nat} {xs : List α} {t : Tok} {k : IntKind} {i : Nat} :
    aindexSl sz (.slice (xs.map enc) t) (.int k (i : Int)) = (xs[i]?).bind fun x => if (enc x).length = sz then some (.pptr (enc x)) else none := by
  simp only [aindexSl, Int.natCast_nonneg, if_true, Int.toNat_natCast, List.getElem?_map]
  cases xs[i]? <;> rfl
theorem aindexSl_lit {sz : Nat} {rows : List (List AVal)} {t : Tok} {k : IntKind} {n : Int} : aindexSl sz (.slice rows t) (.int k n) = if 0 ≤ n then (rows[n.toNat]?).bind fun row => if row.length = sz then some (.pptr row) else none else none := by
  simp only [aindexSl]
  split
  · cases rows[n.toNat]? <;> rfl
  · rfl
@[simp] theorem aload_pptr {n : Nat} {h : Heap} {cs : List AVal} : aload true n h (.pptr cs) = if n ≤ cs.length then some (.agg (cs.take n)) else none := by
  simp [aload, apart]
@[simp] theorem aload_pptr1 {n : Nat} {h : Heap} {cs : List AVal} : aload false n h (.pptr cs) = cs[0]? := by
  simp [aload, apart]
theorem aload_row {n : Nat} {h : Heap} {cs : List AVal} (hn : cs.length = n) : aload true n h (.pptr cs) = some (.agg cs) := by
  subst hn; simp [aload, apart]

/-- A part of a slice. -/
theorem asliceSl_map {α : Type} {enc : α → List AVal} {sz : Nat} {xs : List α} {t : Tok} {lo hi : Option AVal} {l u : Nat} (hs : ∀ x, (enc x).length = sz) (hl : abound lo 0 = some l) (hu : abound hi xs.length = some u) (h1 : l ≤ u) (h2 : u ≤ xs.length) :
    asliceSl sz (.slice (xs.map enc) t) lo hi = some (.slice (((xs.drop l).take (u - l)).map enc) .no) := by
  have : ((xs.map enc).all fun r => r.length == sz) = true := by simp [hs]
  simp only [asliceSl, List.length_map, hl, hu, h1, h2, this, and_self, if_true, List.map_take, List.map_drop]
/-- A function by its shallow form. -/
theorem evW_by {P : Program} {A : Ann} {f : Nat} {args : List AVal} {h : Heap} {m : Option (Res × Heap)} {r : Res × Heap} (he : evB P A lpW (evW P A) f args h = m) (hm : m = some r) : evW P A f args h = some r := evW_of (he.trans hm)
/-- A call of a function that is run on its arguments alone. -/
theorem callP_pure {A : Ann} {K : CallO} {f : Nat} {args : List AVal} {h : Heap} {v : AVal} (hp : A.pure f = true) (hs : args.all (AVal.shut1 0) = true) (hk : K f args [] = some (.ret v, [])) : callP A K f args h = some (.ret v, h) := by
  simp [callP, hp, hs, hk]

/-- A loop, by what each of its rounds does. -/
theorem lpW_measure {F : List AVal × Heap → Option R} {σ : Type} (enc : σ → List AVal × Heap) (inv : σ → Prop) (μ : σ → Nat) (out : σ → R)
    (h : ∀ s, inv s → (∃ s', F (enc s) = some (.normal, enc s') ∧ inv s' ∧ μ s' < μ s ∧ out s' = out s) ∨ (F (enc s) = some (out s) ∧ (out s).1 ≠ .normal)) : ∀ s, inv s → lpW F (enc s) = some (out s) := by
  have key : ∀ n s, μ s = n → inv s → lpW F (enc s) = some (out s) := by
    intro n
    induction n using Nat.strongRecOn with
    | _ n ih =>
      intro s hn hi
      rw [lpW_step]
      rcases h s hi with ⟨s', e1, e2, e3, e4⟩ | ⟨e1, e2⟩
      · rw [e1]
        simp only [Option.bind_some, thenDo_normal]
        rw [ih (μ s') (by omega) s' rfl e2, e4]
      · rw [e1]
        generalize out s = r at e2
        obtain ⟨e, l⟩ := r
        cases e <;> first | exact absurd rfl e2 | rfl
  exact fun s hi => key (μ s) s rfl hi

end Hk
