/-
  The texts Vk.Fn, Vk.Lim, Vk.Front, Vk.Simp, Vk.Simp2, one behind another. No conditions.
-/
import Derived.Test.YtkeoalhglkfbkaaDoorVk2
import Derived.OpenShut
import Derived.WideKeyArgs
set_option linter.unusedVariables false
set_option linter.unusedSimpArgs false
set_option linter.all false

namespace Hk
open Go Go.RowKit
section
variable {P:Program}{A:Cj}{K:lD}{lp:Ya}{G:Gh}{h:kU}{w:World}
theorem Gq {f:Nat}{v:kS}{V:Value}{r:nZ}{h' h2:kU}{G':Gh}{w':World}(hb:finish A f h.length v h'=some (r,h2)) (x:Ext G h w G' h' w') (i:Inv G' h' w') (hv:l_ G' h' v V) :
  vQ G h w r h2 (.returned V) w':=by
 unfold finish at hb
 cases he:A.esc f with
 | true =>
  rw [he] at hb; cases hb
  exact⟨G',x,i,V,rfl,hv⟩
 | false =>
  rw [he] at hb
  simp only [cond_false] at hb
  cases hg:A.grow f with
  | true =>
   rw [hg] at hb
   simp only [cond_true,axJ,Option.map_eq_some_iff] at hb
   obtain⟨h3,ht,hb⟩:=hb
   obtain⟨G3,i3,x3,_,hrel,_⟩:=zB x i ht
   cases hb
   exact⟨G3,x3,i3,V,rfl,hrel _ _ hv⟩
  | false =>
   rw [hg] at hb
   cases hz:A.frr f with
   | true =>
    rw [hz] at hb
    simp only [cond_true,cond_false,SJ] at hb
    obtain⟨y,hy,hb⟩:=Option.bind_eq_some_iff.1 hb
    obtain⟨G1,i1,x1,r1⟩:=Bm i hy hv
    simp only [mX,Option.map_eq_some_iff] at hb
    obtain⟨h3,ht,hb⟩:=hb
    obtain⟨G3,i3,x3,_,hrel,_⟩:=zB (x.trans x1) i1 ht
    cases hb
    exact⟨G3,x3,i3,V,rfl,EN (hrel _ _ r1)⟩
   | false =>
   rw [hz] at hb
   cases hout:A.out f with
   | true =>
    rw [hout] at hb
    simp only [cond_true,cond_false] at hb
    exact SK hb x i hv
   | false =>
    rw [hout] at hb
    simp only [cond_false,mX,Option.map_eq_some_iff] at hb
    obtain⟨h3,ht,hb⟩:=hb
    obtain⟨G3,i3,x3,_,hrel,_⟩:=zB x i ht
    cases hb
    exact⟨G3,x3,i3,V,rfl,EN (hrel _ _ hv)⟩
theorem yJ {ρ:List kS}{x:nZ×kU}:∀{l:List ResultVar}{k:List kS→Option (nZ×kU)},yW P ρ h l k=some x→∃vs,l.mapM (z7 P ρ h)=some vs∧k vs=some x
 | [],k,hb=>⟨[],rfl,hb⟩
 | .tmp t::l,k,hb=>by
  obtain⟨vs,h1,h2⟩:=yJ (l:=l) hb
  exact⟨ρ.getD t .junk::vs,by simp [List.mapM_cons,z7,h1],h2⟩
 | .cell a t::l,k,hb=>by
  simp only [yW] at hb
  split at hb
  ·rename_i g n hg hn
   obtain⟨v,hv,hb⟩:=Option.bind_eq_some_iff.1 hb
   obtain⟨vs,h1,h2⟩:=yJ (l:=l) hb
   exact⟨v::vs,by simp only [List.getD_eq_getElem?_getD] at hv; simp [List.mapM_cons,z7,hg,hn,hv,h1],h2⟩
  ·cases hb
theorem Oo {f:Nat}{fn:Func}{c:Code}{args:List kS}{X:Array Value}{r:nZ}{h':kU}(hm:P.follows .mixedOrders=true) (hX:vR P A) (hK:sQ P A K) (hlp:Qa lp)
  (hf:P.funcs[f]?=some fn) (hc:fn.body=some c) (hb:On P A K lp f fn c args h=some (r,h')) (i:Inv G h w) (gl:sG A G.H) (hx:BI G h args X) (hn:args.length≤fn.ntmps) :
  Calls P f X w (vQ G h w r h'):=by
 unfold On at hb
 obtain⟨r0,hr0,hend⟩:=Option.bind_eq_some_iff.1 hb
 cases hd:A.dfr f with
 | true =>
  rw [hd] at hr0
  simp only [Dt] at hr0
  refine calls_of_wp_defers hf hc ?_
  refine Mv (cx:={ P,A,K,lp,n:=fn.ntmps,full:=2 ^ fn.ntmps - 1,pan:=false,vec:=A.ajY f,frz:=A.frz f,vlit:=A.Vz f,vmk:=A.vmk f,jt:=A.jt f,lkp:=A.lkp f,rb:=A.rb f,frl:=A.frl f }) hm hX hK hlp rfl c _ _ h r0 G w _ hr0 i gl (DK hx hn) (by simp; omega) ?_
  intro a' G' w' he x2 i2 s2
  have hend':yW P (unpack fn.ntmps (Bc fn) r0.2.1) r0.2.2 fn.results.toList (fun vs=>finish A f h.length (oneOf vs) r0.2.2)=some (r,h'):=by
   unfold MW at hend
   rw [he] at hend
   cases hp:A.pan f <;> rw [hp] at hend <;> exact hend
  obtain⟨vs,hvs,hend'⟩:=yJ hend'
  obtain⟨V,hV,hrel⟩:=Bx hvs i2 s2
  exact⟨V,hV,Gq hend' x2 i2 hrel⟩
 | false =>
 rw [hd] at hr0
 simp only [Dt] at hr0
 refine calls_of_wp hf hc ?_
 refine wY (cx:={ P,A,K,lp,n:=fn.ntmps,full:=2 ^ fn.ntmps - 1,pan:=A.pan f,vec:=A.ajY f,frz:=A.frz f,vlit:=A.Vz f,vmk:=A.vmk f,jt:=A.jt f,lkp:=A.lkp f,rb:=A.rb f,frl:=A.frl f }) hm hX hK hlp c _ _ h _ _ r0 G w _ _ (tB c) hr0 i gl (DK hx hn) (by simp; omega) ?_
 have ret:∀(e:Ex) (ρ':List kS) (h1:kU) (G':Gh) (w':World) (a':Act),(e=.normal∨e=.ret)→MW P A f fn h.length e (unpack fn.ntmps (Bc fn) (pack (Bc fn) ρ')) h1=some (r,h')→Ext G h w G' h1 w'→Inv G' h1 w'→pE (fun a=>a.defers=[]) G' h1 ρ' a'→ρ'.length=fn.ntmps →
   a'.defers=[]∧∃v,(results fn a'.tmps).run P w'=.ok v w'∧vQ G h w r h' (.returned v) w':=by
  intro e ρ' h1 G' w' a' he hend h3 h4 s hn'
  have s':=s.pack (L:=Bc fn) hn'
  have hend':yW P (unpack fn.ntmps (Bc fn) (pack (Bc fn) ρ')) h1 fn.results.toList (fun vs=>finish A f h.length (oneOf vs) h1)=some (r,h'):=by
   unfold MW at hend
   cases hp:A.pan f <;> rw [hp] at hend <;> rcases he with rfl | rfl <;> exact hend
  obtain⟨vs,hvs,hend'⟩:=yJ hend'
  obtain⟨V,hV,hrel⟩:=Bx hvs h4 s'
  exact⟨s.df,V,hV,Gq hend' h3 h4 hrel⟩
 refine⟨fun ρ' h1 G' w' a' h2 h3 h4 h5 h6=>?_,fun e ρ' h1 G' w' a' h2 h3 h4 h5 h6=>?_,fun v ρ' h1 G' w' a' V h2 h3 h4 h5 h6=>?_⟩
 ·cases h2
  exact ret _ ρ' h1 G' w' a' (.inl rfl) hend h3 h4 h5 h6
 ·cases h2
  cases e with
  | ret=>exact ret _ ρ' h1 G' w' a' (.inr rfl) hend h3 h4 h5 h6
  | exit id=>unfold MW at hend; cases hp:A.pan f <;> rw [hp] at hend <;> cases hend
  | _=>trivial
 ·cases h2
  unfold MW at hend
  cases hp:A.pan f with
  | false=>rw [hp] at hend; cases hend
  | true =>
   rw [hp] at hend
   simp only [cond_true,Ex.SA,afP,Option.map_eq_some_iff] at hend
   obtain⟨h3',ht,hend⟩:=hend
   obtain⟨G3,i3,x3,_,hrel,_⟩:=zB h3 h4 ht
   cases hend
   exact⟨h6,G3,x3,i3,V,rfl,EN (hrel _ _ h5)⟩
theorem E2:∀{es:List (kS×kS)}{ns:List Int},Aw es=some ns→ns.length=es.length ∧
  ∀(j:Nat) (kv:kS×kS),es[j]?=some kv→∃n m,ns[j]?=some n∧kv=(.int .i64 n,.int .i64 m)∧(Lit.int .i64 n).wf=true∧(Lit.int .i64 m).wf=true
 | [],ns,hb=>by simp [Aw] at hb; subst hb; simp
 | kv::r,ns,hb=>by
  unfold Aw at hb
  split at hb
  ·rename_i h0; cases h0
  ·rename_i n m r' h0
   cases h0
   split at hb
   ·rename_i hw
    obtain⟨ns',h1,rfl⟩:=Option.map_eq_some_iff.1 hb
    obtain⟨h2,h3⟩:=E2 h1
    refine⟨by simp [h2],fun j kv hkv=>?_⟩
    cases j with
    | zero=>simp at hkv; subst hkv; exact⟨n,m,rfl,rfl,hw⟩
    | succ j=>simpa using h3 j kv (by simpa using hkv)
   ·cases hb
  ·cases hb
theorem Rr {f:Nat}{args:List kS}{r:nZ}{h':kU}{X:Array Value}(hS:JV P f) (hb:acH args h=some (r,h')) (i:Inv G h w) (hx:BI G h args X) :
  (∀w,(callFunc f X).run P w=.ok (.enter f X) w)∧Calls P f X w (vQ G h w r h'):=by
 refine⟨fun w=>hS.1 X w,?_⟩
 unfold acH at hb
 split at hb
 case h_2=>cases hb
 rename_i m
 obtain⟨v,hv,hb⟩:=Option.map_eq_some_iff.1 hb
 cases hb
 unfold yX at hv
 split at hv
 case h_2=>cases hv
 rename_i id
 split at hv
 case h_2=>cases hv
 rename_i es hid
 split at hv
 case h_2=>cases hv
 rename_i ns hns
 split at hv
 case isFalse=>cases hv
 rename_i hlen
 cases hv
 obtain⟨h1,h2⟩:=E2 hns
 obtain⟨hX0,_⟩:=(hx.2 0 _ rfl).GH
 have hXe:X=#[.map (some (G.nV id))]:=by
  obtain⟨l⟩:=X
  match l,hx.1,hX0 with
  | [a],_,h0=>simp at h0; subst h0; rfl
 obtain⟨E,clock,g1,g2,g3,g4,g5⟩:=i.nV id _ hid
 have hcells:∀(j:Nat) (x:MapEntry),E.toList[j]?=some x→∃n v,ns[j]?=some n∧x.key=.int .i64 n∧x.val=.int .i64 v∧(Lit.int .i64 n).wf=true∧(Lit.int .i64 v).wf=true:=by
  intro j x hj
  have hlt:j < es.length:=by rw [←g2,←Array.length_toList]; exact(List.getElem?_eq_some_iff.1 hj).1
  obtain⟨n,v,a1,a2,a3,a4⟩:=h2 j _ (List.getElem?_eq_getElem hlt)
  obtain⟨mm,b1,b2,b3,b4⟩:=g4 j _ (List.getElem?_eq_getElem hlt)
  rw [Array.getElem?_toList] at hj
  rw [hj] at b1
  cases b1
  rw [a2] at b3 b4
  refine⟨n,v,a1,?_,b4.qP,a3,a4⟩
  generalize x.key=K at b3
  cases b3; rfl
 have hkeys:E.toList.map (·.key)=ns.map (Value.int .i64):=by
  apply List.ext_getElem?
  intro j
  rw [List.getElem?_map,List.getElem?_map]
  cases hj:E.toList[j]? with
  | none =>
   have:ns[j]?=none:=List.getElem?_eq_none (by have:=List.getElem?_eq_none_iff.1 hj; simp at this; omega)
   rw [this]; rfl
  | some x =>
   obtain⟨n,v,a1,a2,_⟩:=hcells j x hj
   rw [a1]; simp [a2]
 rw [hXe]
 refine Calls.mono (hS.2 w (G.nV id) E clock ns g1 g5 hkeys (fun x hx=>by
  obtain⟨j,hj⟩:=List.getElem?_of_mem hx
  obtain⟨n,v,_,_,a3,_,a5⟩:=hcells j x hj
  exact⟨v,a3,a5⟩) (fun n hn=>by
  obtain⟨j,hj⟩:=List.getElem?_of_mem hn
  have hlt:j < es.length:=by rw [←h1]; exact(List.getElem?_eq_some_iff.1 hj).1
  obtain⟨n',v,a1,_,a3,_⟩:=h2 j _ (List.getElem?_eq_getElem hlt)
  rw [hj] at a1; cases a1; exact a3) hlen) fun e w' hpost=>?_
 obtain⟨hbel,V,he,hV⟩:=hpost
 let G':Gh:={ G with H:=fun b k=>if b < w.heap.size then G.H b k else w'.cell? ⟨b,k,none⟩ }
 have hH:∀b k v,G.H b k=some v→G'.H b k=some v:=fun b k v hv=>by
  have:=i.Di hv
  show(if b < w.heap.size then _ else _)=_
  rw [if_pos this]; exact hv
 have key:=i.push (G':=G') (ext:=[]) (w':=w') hbel.os hbel.tape hbel.output hbel.size hbel.block (fun _ _=>rfl) (fun _ _=>rfl) hH (fun b k hb=>if_pos hb)
  (fun b k v hb hv=>by
   have hv:(if b < w.heap.size then G.H b k else w'.cell? ⟨b,k,none⟩)=some v:=hv
   rwa [if_neg (by omega)] at hv)
  (fun j bl hj=>by simp at hj) (fun j bl b hj=>by simp at hj) (fun j j' bl bl' b hj=>by simp at hj)
 rw [List.append_nil] at key
 refine⟨G',key.2,key.1,V,he,.p _ _ ?_⟩
 rcases hV with ⟨rfl,a,cap,rfl⟩ | ⟨g,cap,rfl,hc,hg,hcell⟩
 ·have e0:(([]:List Int).mergeSort fun x y=>decide (x≤y))=[]:=by simp
  rw [e0]; exact .slice0 a cap
 ·have hml:(ns.mergeSort fun x y=>decide (x≤y)).length=ns.length:=List.length_mergeSort _
  have row:∀(i j:Nat) (row:List kS) (v:kS),((ns.mergeSort fun x y=>decide (x≤y)).map fun n=>[kS.int .i64 n])[i]?=some row→row[j]?=some v →
    ∃n,(ns.mergeSort fun x y=>decide (x≤y))[i * 1+j]?=some n∧v=.int .i64 n:=by
   intro i j row v hi hj
   rw [List.getElem?_map] at hi
   obtain⟨n,hn,rfl⟩:=Option.map_eq_some_iff.1 hi
   cases j with
   | zero=>simp at hj; subst hj; exact⟨n,by simpa using hn,rfl⟩
   | succ j=>simp at hj
  have:=qF.slice (H:=G'.H) ((ns.mergeSort fun x y=>decide (x≤y)).map fun n=>[kS.int .i64 n]) g 0 cap 1 (fun j=>.int .i64 ((ns.mergeSort fun x y=>decide (x≤y)).getD j 0)) (by simp) (by simp; omega)
   (fun i j r v hi hj=>by
    obtain⟨n,hn,rfl⟩:=row i j r v hi hj
    show(if g < w.heap.size then _ else _)=_
    rw [if_neg (by omega),Nat.zero_add,hcell _ _ hn,List.getD_eq_getElem?_getD,hn]; rfl)
   (fun i j r v hi hj=>by obtain⟨n,hn,rfl⟩:=row i j r v hi hj; rfl)
   (fun i j r v hi hj=>by
    obtain⟨n,hn,rfl⟩:=row i j r v hi hj
    rw [List.getD_eq_getElem?_getD,hn]; exact .int _ _)
  simpa [hml] using this
theorem Fh:∀{cs:List kS}{xs:List Int},IE cs=some xs→cs=xs.map (.int .i64)
 | [],xs,hb=>by simp [IE] at hb; subst hb; rfl
 | v::r,xs,hb=>by
  unfold IE at hb
  split at hb
  ·rename_i h0; cases h0
  ·rename_i n r' h0
   cases h0
   obtain⟨ys,h1,rfl⟩:=Option.map_eq_some_iff.1 hb
   rw [Fh h1]; rfl
  ·cases hb
theorem QH {g':Nat}{cp:List kS}{F:Value}(hx:l_ G h (.func g' [] cp) F):∃C,F=.func (.func g') #[] C∧cp.length=C.size∧∀(i:Nat) (v:kS),cp[i]?=some v→l_ G h v (C.getD i undef):=by
 cases hx with
 | p _ _ hp=>cases hp; exact⟨#[],rfl,rfl,by simp⟩
 | func f first cap F C hlf hlc hf hc =>
  have:F=#[]:=by
   obtain⟨l⟩:=F; cases l with
   | nil=>rfl
   | cons a l=>simp at hlf
  subst this
  exact⟨C,rfl,hlc,hc⟩
theorem Ap {key:Int→Int}{x y:Int}:sE key x y=true↔(key x < key y∨(key x=key y∧x≤y)):=by
 unfold sE; simp
theorem M6 {le:Int→Int→Bool}{x:Int}{l:List Int}:(SX le x l).Perm (x::l):=by
 induction l with
 | nil=>exact .refl _
 | cons y r ih =>
  unfold SX
  cases le x y with
  | true=>exact .refl _
  | false=>exact(List.Perm.cons y ih).trans (List.Perm.swap x y r)
theorem u_ {le:Int→Int→Bool}{l:List Int}:(Ce le l).Perm l:=by
 induction l with
 | nil=>exact .refl _
 | cons x r ih=>exact M6.trans (List.Perm.cons x ih)
theorem QQ {key:Int→Int}{x:Int}{l:List Int}(h:l.Pairwise fun a b=>sE key a b=true):(SX (sE key) x l).Pairwise fun a b=>sE key a b=true:=by
 induction l with
 | nil=>simp [SX]
 | cons y r ih =>
  unfold SX
  rw [List.pairwise_cons] at h
  cases hxy:sE key x y with
  | true =>
   simp only [cond_true]
   rw [List.pairwise_cons]
   refine⟨fun z hz=>?_,List.pairwise_cons.2 h⟩
   rcases List.mem_cons.1 hz with rfl | hz
   ·exact hxy
   ·have h1:=h.1 z hz
    rw [Ap] at *
    omega
  | false =>
   simp only [cond_false]
   rw [List.pairwise_cons]
   refine⟨fun z hz=>?_,ih h.2⟩
   rcases List.mem_cons.1 (M6.mem_iff.1 hz) with rfl | hz
   ·have:¬sE key z y=true:=by rw [hxy]; decide
    rw [Ap] at *
    omega
   ·exact h.1 z hz
theorem GQ {key:Int→Int}{l:List Int}:(Ce (sE key) l).Pairwise fun a b=>sE key a b=true:=by
 induction l with
 | nil=>exact .nil
 | cons x r ih=>exact QQ ih
theorem acJ {key:Int→Int}{l:List Int}:Ce (sE key) l=l.mergeSort (sE key):=by
 have h2:(l.mergeSort (sE key)).Pairwise fun a b=>sE key a b=true:=List.pairwise_mergeSort (fun a b c h1 h2=>by rw [Ap] at *; omega) (fun a b=>by rw [Bool.or_eq_true,Ap,Ap]; omega) l
 exact List.Perm.eq_of_pairwise (fun a b _ _ h1 h2=>by rw [Ap] at *; omega) GQ h2 (u_.trans (List.mergeSort_perm _ _).symm)
theorem Rs {f g:Nat}{args:List kS}{r:nZ}{h':kU}{X:Array Value}(hS:JU P f g) (hb:I6 g args h=some (r,h')) (i:Inv G h w) (hx:BI G h args X) :
  (∀w,(callFunc f X).run P w=.ok (.enter f X) w)∧Calls P f X w (vQ G h w r h'):=by
 refine⟨fun w=>hS.1 X w,?_⟩
 unfold I6 at hb
 split at hb
 case h_3=>cases hb
 ·rename_i tok g' cp
  split at hb
  case isFalse=>cases hb
  rename_i hg
  subst hg
  cases hb
  obtain⟨C,hF,_⟩:=QH (hx.2 1 _ rfl)
  obtain⟨a,cap,hA⟩:∃a cap,X.getD 0 undef=.slice a 0 cap:=by
   have:=(hx.2 0 _ rfl).tQ
   generalize X.getD 0 undef=V0 at this
   cases this with
   | slice0 a cap=>exact⟨a,cap,rfl⟩
   | slice rows b off cap sz V _ _ _ _ _=>exact⟨_,cap,rfl⟩
  have hXe:X=#[.slice a 0 cap,.func (.func g') #[] C]:=by
   obtain⟨l⟩:=X
   match l,hx.1,hA,hF with
   | [x,y],_,h0,h1=>simp at h0 h1; subst h0; subst h1; rfl
  rw [hXe]
  refine Calls.mono (hS.2.1 a cap #[] C w) fun e w' hp=>?_
  obtain⟨rfl,rfl⟩:=hp
  exact⟨G,Ext.refl G _ _,i,_,rfl,.p _ _ (.tuple [] #[] rfl (by simp))⟩
 ·rename_i id tot n g' pid po
  split at hb
  case h_2=>cases hb
  rename_i x cs hgv hpc
  split at hb
  case h_2=>cases hb
  rename_i rows tok xs hcs hxs
  split at hb
  case isFalse=>cases hb
  rename_i hcond
  obtain⟨rfl,hne,hx1,hn0,hnl,hnm,hrows,hkeys⟩:=hcond
  cases hb
  have hid:=s8 hgv
  rw [hx1] at hid
  obtain⟨Cf,hF,hFl,hFc⟩:=QH (hx.2 1 _ rfl)
  obtain⟨b,cap,hA,hnf,htot,hlc,hv⟩:=(hx.2 0 _ rfl).rM
  obtain⟨b',cap',C,e0,g1,g2,g3,g4,g5,g6,g7,g8,g9⟩:=i.nV id _ hid
  obtain⟨l0,cap0,k1,k2,k3,k4⟩:=hv (by rw [g1]; rfl)
  have hcur:=g1
  rw [g1] at k1
  simp only [Value.slice.injEq,Option.some.injEq,Addr.mk.injEq] at k1
  obtain⟨⟨rfl,_⟩,_,rfl⟩:=k1
  have hP:=(hFc 0 _ rfl).Ai
  obtain⟨Cp,ep,p1,p2,p3,p4⟩:=i.nV pid _ hpc
  have hXe:X=#[.slice (some ⟨b',0,none⟩) n cap,.func (.func g') #[] #[.pointer (some ⟨G.nV pid,po,none⟩)]]:=by
   have hCf:Cf=#[.pointer (some ⟨G.nV pid,po,none⟩)]:=by
    obtain⟨l⟩:=Cf
    match l,hFl,hP with
    | [x],_,h0=>simp at h0; rw [h0.1]
   subst hCf
   obtain⟨l⟩:=X
   match l,hx.1,hA,hF with
   | [x,y],_,h0,h1=>simp at h0 h1; subst h0; subst h1; rfl
  have hxl:xs.length=n:=by
   have:=congrArg List.length (Fh hxs)
   simp at this; omega
  have hcell:∀(j:Nat) (m:Int),xs[j]?=some m→x.2[j]?=some (.int .i64 m):=by
   intro j m hj
   have h1:(x.2.take n)[j]?=some (.int .i64 m):=by rw [Fh hxs,List.getElem?_map,hj]; rfl
   rw [List.getElem?_take] at h1
   split at h1
   ·exact h1
   ·cases h1
  have hne0:xs≠[]:=by intro h0; rw [h0] at hxl; simp at hxl; omega
  have hkey:∀y∈xs,0≤y∧∃row,rows[y.toNat]?=some row∧row[0]?=some (.int .i64 ((zP rows y).getD 0)):=by
   intro y hy
   have:=List.all_eq_true.1 hkeys y hy
   unfold zP at this ⊢
   split at this
   ·rename_i h0
    rw [if_pos h0]
    split at this
    ·rename_i a r hr
     exact⟨h0,_,hr,rfl⟩
    ·cases this
   ·cases this
  have hsl:=(p4 po _ hcs).2.tQ
  obtain⟨sb,so,cp,hVc,hrow⟩:∃sb so cp,Cp.getD po undef=.slice (some ⟨sb,so,none⟩) rows.length cp∧∀(y:Nat) (row:List kS) (v:Int),rows[y]?=some row→row[0]?=some (.int .i64 v)→G.H sb (so+y * 2)=some (.int .i64 v):=by
   generalize hCv:Cp.getD po undef=Vc at hsl
   cases hsl with
   | slice0 a cap =>
    exfalso
    obtain⟨y,hy⟩:=List.exists_mem_of_ne_nil _ hne0
    obtain⟨_,row,h1,_⟩:=hkey y hy
    simp at h1
   | slice _ sb so cp sz V hr hc hH hk hV =>
    refine⟨sb,so,cp,rfl,fun y row v h1 h2=>?_⟩
    have hrl:=hr row (List.mem_of_getElem? h1)
    have hr2:row.length=2:=by have:=List.all_eq_true.1 hrows row (List.mem_of_getElem? h1); simpa using this
    have h3:=hH y 0 row _ h1 h2
    have h4:=hV y 0 row _ h1 h2
    have h5:sz=2:=by omega
    subst h5
    rw [Nat.add_zero] at h3 h4
    generalize V (y * 2)=Vy at h3 h4
    cases h4
    exact h3
  have hpb:G.nV pid≠b':=by
   intro he
   refine hne (i.inj pid id b' ?_ ?_)
   ·unfold owner; rw [hpc,he]
   ·unfold owner; rw [hid]; show(G.cur id).ownBlock=_; rw [hcur]; rfl
  have hsb:sb≠b':=by
   intro he
   obtain⟨y,hy⟩:=List.exists_mem_of_ne_nil _ hne0
   obtain⟨_,row,h1,h2⟩:=hkey y hy
   have:=hrow _ row _ h1 h2
   rw [he,g8] at this; cases this
  have hpcell:w.cell? ⟨G.nV pid,po,none⟩=some (.slice (some ⟨sb,so,none⟩) rows.length cp):=by
   rw [←hVc]
   have hpl:po < Cp.size:=by have:=(List.getElem?_eq_some_iff.1 hcs).1; omega
   rw [cell_of w _ po p1,Array.getD_eq_getD_getElem?,Array.getElem?_eq_getElem hpl]; rfl
  have hlen1:x.2.length=tot:=by simpa using g7
  rw [hXe]
  have hS2:=hS.2.2 w b' cap C e0 xs (G.nV pid) po sb so rows.length cp (fun y=>(zP rows y).getD 0) g2 hne0 (by omega)
   (fun j m hj=>by
    have h1:=(g9 j _ (hcell j m hj)).2.qP
    have hjl:j < C.size:=by have:=(List.getElem?_eq_some_iff.1 (hcell j m hj)).1; omega
    rw [Array.getD_eq_getD_getElem?,Array.getElem?_eq_getElem hjl] at h1
    rw [Array.getElem?_eq_getElem hjl]
    simpa using h1)
   hpcell hpb hsb (fun y hy=>by
    obtain⟨h0,row,h1,h2⟩:=hkey y hy
    exact⟨h0,(List.getElem?_eq_some_iff.1 h1).1,i.ok _ _ _ (hrow _ row _ h1 h2)⟩)
  rw [hxl] at hS2
  refine Calls.mono hS2 fun e w' hp=>?_
  obtain⟨rfl,q1,q2,q3,os,q4⟩:=hp
  rw [acJ]
  generalize hzs:xs.mergeSort (sE fun y=>(zP rows y).getD 0)=zs at *
  have hzl:zs.length=n:=by rw [←hzs,List.length_mergeSort,hxl]
  have hw:=i.Me (off:=0) (vs:=zs.map (.int .i64)) (U:=zs.map (Value.int .i64)) hid hcur g2 (by simp; omega) (by simp) (fun j u hu=>by
   rw [List.getElem?_map] at hu
   obtain⟨m,hm,rfl⟩:=Option.map_eq_some_iff.1 hu
   refine⟨rfl,?_⟩
   rw [List.getD_eq_getElem?_getD,List.getElem?_map,hm]
   exact .p _ _ (.int _ _))
  have hrw:(C.toList.take 0++zs.map (Value.int .i64)++C.toList.drop (0+(zs.map (Value.int .i64)).length)).toArray=(zs.map (Value.int .i64)++C.toList.drop n).toArray:=by simp [hzl]
  rw [hrw] at hw
  generalize hw1:w.setRow b' (zs.map (Value.int .i64)++C.toList.drop n).toArray=w1 at *
  have e1:w1.os=w.os:=by rw [←hw1]; rfl
  have e2:w1.tape=w.tape:=by rw [←hw1]; rfl
  have e3:w1.output=w.output:=by rw [←hw1]; rfl
  have key:=hw.1.push (G':=G) (ext:=[]) (w':=w') (q1.trans e1.symm) (q2.trans e2.symm) (q3.trans e3.symm) (by rw [q4]; simp) (fun k hk=>by rw [q4]; exact Array.getElem?_append_left hk) (fun _ _=>rfl) (fun _ _=>rfl) (fun _ _ _ h=>h) (fun _ _ _=>rfl)
   (fun b k v hb hv=>by have:=hw.1.Di (b:=b) (k:=k) (v:=v) hv; omega)
   (fun j bl hj=>by simp at hj) (fun j bl b hj=>by simp at hj) (fun j j' bl bl' b hj=>by simp at hj)
  rw [List.append_nil] at key
  exact⟨G,hw.2.trans key.2,key.1,_,rfl,.p _ _ (.tuple [] #[] rfl (by simp))⟩
theorem Wa (hm:P.follows .mixedOrders=true) (hX:vR P A) (hK:sQ P A (mP A K)) (hlp:Qa lp):sQ P A (qA P A lp K):=by
 intro f args h r h' hb G w X i gl hx
 unfold qA at hb
 cases hs:A.srt f with
 | true =>
  rw [hs] at hb
  exact Rr (hX.1 f hs) hb i hx
 | false =>
 rw [hs] at hb
 simp only [cond_false] at hb
 cases hsf:A.srf f with
 | some g =>
  simp only [hsf] at hb
  exact Rs (hX.2.2 f g hsf) hb i hx
 | none =>
 simp only [hsf] at hb
 cases hf:P.funcs[f]? with
 | none=>rw [hf] at hb; cases hb
 | some fn =>
  simp only [hf] at hb
  cases hc:fn.body with
  | none=>rw [hc] at hb; cases hb
  | some c =>
   simp only [hc] at hb
   cases hg:decide (args.length≤fn.ntmps) && !(fn.name == "runtime.NumGoroutine") with
   | false=>rw [hg] at hb; cases hb
   | true =>
    rw [hg] at hb
    simp only [Bool.and_eq_true,decide_eq_true_eq,Bool.not_eq_true'] at hg
    refine⟨fun w=>?_,Oo hm hX hK hlp hf hc hb i gl hx hg.1⟩
    have hne:¬fn.name = "runtime.NumGoroutine" := by simpa using hg.2
    simp [callFunc,Sem.run_bind,hf,hc,hne,Sem.run_pure]
theorem Inv.empty (i:Inv G h w):Inv G [] w:=⟨i.ok,fun id bl hb=>by simp at hb,fun a b c ha=>by simp [owner] at ha⟩
theorem Lu {out:Bool}{r1 r:nZ}{h1 h':kU}{e:Ending}{w':World}(hb:y8 out h (r1,h1)=some (r,h')) (i:Inv G h w) (hpost:vQ G [] w r1 h1 e w'):vQ G h w r h' e w':=by
 obtain⟨G',x,i',hpost⟩:=hpost
 have fr:∀b,b < w.heap.size→w'.heap[b]?=w.heap[b]?∧∀k,G'.H b k=G.H b k:=fun b hb=>x.frame b hb fun id=>by simp [owner]
 have new:∀{j b:Nat},owner G' h1 j=some b→¬b < w.heap.size:=fun ho hlt=>by
  have:=x.own _ _ ho hlt
  simp [owner] at this
 have hcase:(h1=[]∧r=r1∧h'=h)∨(h1.all (mI.ok fun j=>decide (j < h1.length))=true∧r1.ok (fun j=>decide (j < h1.length))=true∧r=r1.y9 (fun j=>h.length+j)∧h'=h++h1.map (mI.y9 fun j=>h.length+j)):=by
  unfold y8 at hb
  cases h1 with
  | nil=>cases hb; exact .inl ⟨rfl,rfl,rfl⟩
  | cons b t =>
   simp only at hb
   cases hc:out && ((b::t).all (mI.ok fun j=>decide (j < (b::t).length)) && r1.ok fun j=>decide (j < (b::t).length)) with
   | false=>rw [hc] at hb; cases hb
   | true =>
    rw [hc] at hb
    simp only [Bool.and_eq_true] at hc
    cases hb
    exact .inr ⟨hc.2.1,hc.2.2,rfl,rfl⟩
 rcases hcase with ⟨rfl,rfl,rfl⟩ | ⟨hbok,hrok,rfl,rfl⟩
 ·let G2:Gh:={ G' with nV:=G.nV,cur:=G.cur }
  have mono:EP G h' G2 h':=⟨x.hmono,fun id bl hb=>⟨bl,hb,by cases bl <;> simp [Kind,G2]⟩⟩
  have key:∀{v:kS}{V:Value},l_ G' [] v V→l_ G2 h' v V:=by
   intro v V r
   have nl:∀id,¬live ([]:kU) id:=fun id ⟨b,hb,_⟩=>by simp at hb
   induction r with
   | p v V hp=>exact .p v V hp
   | agg cs C hl _ ih=>exact .agg cs C hl ih
   | tuple cs C hl _ ih=>exact .tuple cs C hl ih
   | nil=>exact .nil
   | own rows id n sz V hp hf=>simp at hf
   | ownv id V hp hb=>obtain⟨b,hb,_⟩:=hb; simp at hb
   | vslice id tot off len sz b cap hb=>obtain⟨b,hb,_⟩:=hb; simp at hb
   | vptr id tot off b hb=>obtain⟨b,hb,_⟩:=hb; simp at hb
   | ptr id off hl=>exact absurd hl (nl id)
   | mslice id off len sz cap hl=>exact absurd hl (nl id)
   | mslice0 id off sz cap a=>exact .mslice0 id off sz cap a
   | map id hl=>exact absurd hl (nl id)
   | func f first cap F C hlf hlc _ _ ih1 ih2=>exact .func f first cap F C hlf hlc ih1 ih2
   | iface t v V _ ih=>exact .iface t v V ih
  refine⟨G2,⟨x.os,x.tape,x.output,x.size,fun b hb _=>fr b hb,x.hmono,fun id b ho _=>ho,mono.kinds⟩,⟨i'.ok,fun id bl hb=>?_,fun a b c ha hb=>i.inj a b c ha hb⟩,?_⟩
  ·refine(i.nV id bl hb).Dc mono rfl rfl fun b ho=>?_
   exact fr b ((i.nV id bl hb).lt ho)
  ·cases r with
   | ret v=>obtain⟨V,he,hV⟩:=hpost; exact⟨V,he,key hV⟩
   | pan v=>obtain⟨V,he,hV⟩:=hpost; exact⟨V,he,key hV⟩
 ·simp only [List.all_eq_true] at hbok
  let G2:Gh:={ H:=G'.H,nV:=fun id=>if id < h.length then G.nV id else G'.nV (id - h.length),cur:=fun id=>if id < h.length then G.cur id else G'.cur (id - h.length) }
  let sh:Nat→Nat:=fun j=>h.length+j
  have b1:∀{id:Nat},id < h.length→G2.nV id=G.nV id:=fun hl=>if_pos hl
  have c1:∀{id:Nat},id < h.length→G2.cur id=G.cur id:=fun hl=>if_pos hl
  have b2:∀{j:Nat},G2.nV (sh j)=G'.nV j:=fun {j}=>by
   show(if _ then _ else _)=_
   rw [if_neg (by show ¬h.length+j < h.length; omega)]; congr 1; show h.length+j - h.length=j; omega
  have c2:∀{j:Nat},G2.cur (sh j)=G'.cur j:=fun {j}=>by
   show(if _ then _ else _)=_
   rw [if_neg (by show ¬h.length+j < h.length; omega)]; congr 1; show h.length+j - h.length=j; omega
  let hN:kU:=h++h1.map (mI.y9 sh)
  have g1:∀{id:Nat},id < h.length→hN[id]?=h[id]?:=fun hl=>List.getElem?_append_left hl
  have g2:∀{j:Nat},hN[sh j]?=(h1[j]?).map (mI.y9 sh):=fun {j}=>by
   show(h++_)[h.length+j]?=_
   rw [List.getElem?_append_right (by omega),Nat.add_sub_cancel_left,List.getElem?_map]
  have m2:Dj G' h1 G2 hN sh (fun j=>decide (j < h1.length)):=⟨fun _ _ _ h=>h,fun j b _ hb=>⟨_,by rw [g2,hb]; rfl,yO b⟩,fun _ _=>b2,fun _ _=>c2⟩
  have own2:∀{id b:Nat},owner G2 hN id=some b→(id < h.length∧owner G h id=some b)∨(∃j,id=sh j∧owner G' h1 j=some b):=by
   intro id b ho
   obtain⟨bl,hbl,ho2⟩:=qE ho
   by_cases hl:id < h.length
   ·refine .inl ⟨hl,?_⟩
    rw [g1 hl] at hbl
    rw [oD hbl,←ho2]
    cases bl <;> simp [nQ,b1 hl,c1 hl]
   ·have e:id=sh (id - h.length):=by show id=h.length+(id - h.length); omega
    refine .inr ⟨id - h.length,e,?_⟩
    rw [e,g2] at hbl
    obtain⟨b0,hb0,rfl⟩:=Option.map_eq_some_iff.1 hbl
    have e3:=CF (G:=G') (G2:=G2) (f:=sh) (id:=id - h.length) (j:=sh (id - h.length)) (b:=b0) b2 c2
    rw [←e] at e3
    rw [oD hb0,←e3]
    exact ho2
  have kinds:∀id bl,h[id]?=some bl→∃bl',hN[id]?=some bl'∧Kind G G2 id bl bl':=by
   intro id bl hbl
   have hl:=(List.getElem?_eq_some_iff.1 hbl).1
   refine⟨bl,by rw [g1 hl]; exact hbl,?_⟩
   cases bl <;> simp [Kind,b1 hl,c1 hl]
  have ext:Ext G h w G2 hN w':=⟨x.os,x.tape,x.output,x.size,fun b hb _=>fr b hb,x.hmono,fun id b ho hlt=>by
   rcases own2 ho with ⟨_,h2⟩ | ⟨j,_,h2⟩
   ·exact h2
   ·exact absurd hlt (new h2),kinds⟩
  refine⟨G2,ext,⟨i'.ok,fun id bl hbl=>?_,fun a c b ha hc=>?_⟩,?_⟩
  ·have hbl:hN[id]?=some bl:=hbl
   by_cases hl:id < h.length
   ·rw [g1 hl] at hbl
    exact(i.nV id bl hbl).Dc ext.toMono (b1 hl) (c1 hl) fun b ho=>fr b ((i.nV id bl hbl).lt ho)
   ·have e:id=sh (id - h.length):=by show id=h.length+(id - h.length); omega
    rw [e,g2] at hbl
    obtain⟨b0,hb0,rfl⟩:=Option.map_eq_some_iff.1 hbl
    rw [e]
    exact(i'.nV _ b0 hb0).y9 m2 rfl b2 c2 (hbok b0 (List.mem_of_getElem? hb0))
  ·rcases own2 ha with ⟨hla,h2⟩ | ⟨ja,rfl,h2⟩
   ·rcases own2 hc with ⟨hlc,h3⟩ | ⟨jc,rfl,h3⟩
    ·exact i.inj a c b h2 h3
    ·obtain⟨bl,hbl,hob⟩:=qE h2
     exact absurd ((i.nV a bl hbl).lt hob) (new h3)
   ·rcases own2 hc with ⟨hlc,h3⟩ | ⟨jc,rfl,h3⟩
    ·obtain⟨bl,hbl,hob⟩:=qE h3
     exact absurd ((i.nV c bl hbl).lt hob) (new h2)
    ·rw [i'.inj ja jc b h2 h3]
  ·cases r1 with
   | ret v=>obtain⟨V,he,hV⟩:=hpost; exact⟨V,he,Ez m2 hV hrok⟩
   | pan v=>obtain⟨V,he,hV⟩:=hpost; exact⟨V,he,Ez m2 hV hrok⟩
theorem Qu (hK:sQ P A K):sQ P A (mP A K):=by
 intro f args h r h' hb G w X i gl hx
 unfold mP at hb
 cases hp:A.pure f with
 | false =>
  rw [hp] at hb
  cases hsb:A.sub f with
  | false=>rw [hsb] at hb; exact hK f args h r h' hb G w X i gl hx
  | true=>rw [hsb] at hb; exact Uo hK hb i gl hx
 | true =>
  rw [hp] at hb
  simp only [cond_true] at hb
  cases hs:args.all (kS.uY 0) with
  | false=>rw [hs] at hb; cases hb
  | true =>
   rw [hs] at hb
   simp only [cond_true] at hb
   obtain⟨⟨r1,h1⟩,hc,hb⟩:=Option.bind_eq_some_iff.1 hb
   simp only [List.all_eq_true] at hs
   have l:Left G h G [] 0:=⟨fun _ _ _ h=>h,rfl,rfl,fun id hid=>absurd hid (by omega),fun id n sz hid=>absurd hid (by omega),fun id hid=>absurd hid (by omega)⟩
   have hx0:BI G [] args X:=⟨hx.1,fun j u hu=>yE l (hs u (List.mem_of_getElem? hu)) (hx.2 j u hu)⟩
   obtain⟨e1,e2⟩:=hK f args [] _ _ hc G w X i.empty gl hx0
   refine⟨e1,Calls.mono e2 fun e w' hpost=>?_⟩
   exact Lu hb i hpost
theorem MX (hm:P.follows .mixedOrders=true) (hX:vR P A) (hlp:Qa lp):∀n,sQ P A (SD P A lp n)
 | 0=>fun f args h r h' hb=>by simp [SD] at hb
 | n+1=>fun f args h r h' hb=>Wa hm hX (Qu (MX hm hX hlp n)) hlp f args h r h' hb
end
end Hk


namespace Hk
open Go Go.RowKit
def Ev (p:Nat→Prop):Prop:=∃N,∀n,N≤n→p n
theorem Ev.of {p:Nat→Prop}(h:∀n,p n):Ev p:=⟨0,fun n _=>h n⟩
theorem Ev.imp {p q:Nat→Prop}(h:Ev p) (hi:∀n,p n→q n):Ev q:=let ⟨N,hN⟩:=h; ⟨N,fun n hn=>hi n (hN n hn)⟩
theorem Ev.and {p q:Nat→Prop}(h:Ev p) (h':Ev q):Ev fun n=>p n∧q n :=
 let ⟨N,hN⟩:=h; let ⟨M,hM⟩:=h'; ⟨max N M,fun n hn=>⟨hN n (by omega),hM n (by omega)⟩⟩
theorem KP {F:List kS×kU→Option R}:∀{n:Nat}{s:List kS×kU}{r:R},sI n F s=some r→sI (n+1) F s=some r
 | 0,s,r,h=>by simp [sI] at h
 | n+1,s,r,h=>by
  rw [sI] at h ⊢
  obtain⟨r1,h1,h2⟩:=Option.bind_eq_some_iff.1 h
  rw [h1]
  simp only [Option.bind_some]
  cases he:r1.1 with
  | normal=>rw [he] at h2; exact KP h2
  | _=>rw [he] at h2; exact h2
theorem IW {F:List kS×kU→Option R}{n m:Nat}{s:List kS×kU}{r:R}(hnm:n≤m) (h:sI n F s=some r):sI m F s=some r:=by
 induction hnm with
 | refl=>exact h
 | step _ ih=>exact KP ih
open Classical in
noncomputable def mQ (F:List kS×kU→Option R) (s:List kS×kU):Option R :=
 if h:∃n r,sI n F s=some r then some (Classical.choose (Classical.choose_spec h)) else none
theorem A7 {F:List kS×kU→Option R}{s:List kS×kU}{r:R}:mQ F s=some r↔∃n,sI n F s=some r:=by
 unfold mQ
 constructor
 ·intro h
  split at h
  ·rename_i hx
   cases h
   exact⟨_,Classical.choose_spec (Classical.choose_spec hx)⟩
  ·cases h
 ·rintro⟨n,hn⟩
  have hx:∃n r,sI n F s=some r:=⟨n,r,hn⟩
  rw [dif_pos hx]
  have h1:=Classical.choose_spec (Classical.choose_spec hx)
  have h2:=IW (Nat.le_max_left _ n) h1
  have h3:=IW (Nat.le_max_right (Classical.choose hx) n) hn
  rw [h2] at h3
  exact h3
theorem aoU:Qa mQ:=fun _ _ _ h=>A7.1 h
theorem mW (F:List kS×kU→Option R) (s:List kS×kU):mQ F s=(F s).bind fun r=>r.1.mC (mQ F r.2) fun e=>some (e,r.2):=by
 apply Option.ext
 intro r
 rw [A7]
 constructor
 ·rintro⟨n,hn⟩
  cases n with
  | zero=>simp [sI] at hn
  | succ n =>
   rw [sI] at hn
   obtain⟨r1,h1,h2⟩:=Option.bind_eq_some_iff.1 hn
   rw [h1]
   simp only [Option.bind_some]
   cases he:r1.1 with
   | normal=>rw [he] at h2; exact A7.2 ⟨n,h2⟩
   | _=>rw [he] at h2; exact h2
 ·intro h
  obtain⟨r1,h1,h2⟩:=Option.bind_eq_some_iff.1 h
  cases he:r1.1 with
  | normal =>
   rw [he] at h2
   obtain⟨n,hn⟩:=A7.1 h2
   exact⟨n+1,by rw [sI,h1]; simp only [Option.bind_some,he]; exact hn⟩
  | _ =>
   rw [he] at h2
   exact⟨1,by rw [sI,h1]; simp only [Option.bind_some,he]; exact h2⟩
theorem agB {F:List kS×kU→Option R}{Fn:Nat→List kS×kU→Option R}(hF:∀s r,F s=some r→Ev fun n=>Fn n s=some r) {s:List kS×kU}{r:R}(h:mQ F s=some r) :
  Ev fun n=>mQ (Fn n) s=some r:=by
 obtain⟨m,hm⟩:=A7.1 h
 have key:∀(m:Nat) (s:List kS×kU),sI m F s=some r→Ev fun n=>sI m (Fn n) s=some r:=by
  intro m
  induction m with
  | zero=>intro s h; simp [sI] at h
  | succ m ih =>
   intro s h
   rw [sI] at h
   obtain⟨r1,h1,h2⟩:=Option.bind_eq_some_iff.1 h
   cases he:r1.1 with
   | normal =>
    rw [he] at h2
    refine((hF _ _ h1).and (ih _ h2)).imp fun n hn=>?_
    rw [sI,hn.1]; simp only [Option.bind_some,he]; exact hn.2
   | _ =>
    rw [he] at h2
    refine(hF _ _ h1).imp fun n hn=>?_
    rw [sI,hn]; simp only [Option.bind_some,he]; exact h2
 exact(key m s hm).imp fun n hn=>A7.2 ⟨m,hn⟩
section
variable {cx:Cx}{o:Oper}{ρ:List kS}{h:kU}{kv kp:kS→kU→Option R}{r:R}{ids:List Nat}{ops:List Oper}
theorem Zr {kvn kpn:Nat→kS→kU→Option R}(hv:∀v h r,kv v h=some r→Ev fun n=>kvn n v h=some r) (hp:∀v h r,kp v h=some r→Ev fun n=>kpn n v h=some r) {r0:R}
  (hb:kZ kv kp r0=some r):Ev fun n=>kZ (kvn n) (kpn n) r0=some r:=by
 obtain⟨e,l,h⟩:=r0
 cases e with
 | normal =>
  match l with
  | []=>cases hb
  | [v]=>exact hv v h r hb
  | _::_::_=>cases hb
 | pan v=>exact hp v h r hb
 | exit _=>cases hb
 | ret=>cases hb
def C9 (K:lD) (Kn:Nat→lD):Prop:=∀f args h r,K f args h=some r→Ev fun n=>Kn n f args h=some r
theorem Zl {lp':Ya}{K':lD}{rsv:Option Nat}(hne:∀c f,o.op=.call c→c.callee=.value f→False):evalOp { cx with K:=K',lp:=lp' } o rsv ρ h kv kp=evalOp cx o rsv ρ h kv kp:=by
 unfold evalOp oM
 cases ho:o.op with
 | call c =>
  simp only []
  cases hc:c.callee with
  | value f=>exact(hne c f ho hc).elim
  | builtin b=>rfl
  | _=>rfl
 | makeFunc b f c=>cases b <;> rfl
 | makeMap t r=>cases r <;> rfl
 | typeAssert x xt t ok=>cases ok <;> rfl
 | slice t x lo hi mx=>cases mx <;> rfl
 | assign x=>cases B6 x <;> rfl
 | _=>rfl
theorem Fq {lp':Ya}{Kn:Nat→lD}{kvn kpn:Nat→kS→kU→Option R}{rsv:Option Nat}(hK:C9 cx.K Kn) (hv:∀v h r,kv v h=some r→Ev fun n=>kvn n v h=some r)
  (hp:∀v h r,kp v h=some r→Ev fun n=>kpn n v h=some r) (hb:evalOp cx o rsv ρ h kv kp=some r):Ev fun n=>evalOp { cx with K:=Kn n,lp:=lp' } o rsv ρ h (kvn n) (kpn n)=some r:=by
 rw [Cv] at hb
 obtain⟨r0,h1,h2⟩:=Option.bind_eq_some_iff.1 hb
 have key:Ev fun n=>evalOp { cx with K:=Kn n,lp:=lp' } o rsv ρ h kY wS=some r0:=by
  by_cases hne:∃c f,o.op=.call c∧c.callee=.value f
  ·obtain⟨c,f,ho,hc⟩:=hne
   simp only [evalOp,oM,ho,hc] at h1 ⊢
   obtain⟨g,hg,h1⟩:=Option.bind_eq_some_iff.1 h1
   cases hext:cx.A.ext g.1 with
   | some ek =>
    refine Ev.of fun n=>?_
    simp only [hg,Option.bind_some,zV,hext] at h1 ⊢
    exact h1
   | none =>
    simp only [zV,hext] at h1 ⊢
    unfold lL at h1 ⊢
    obtain⟨r1,hk,h1⟩:=Option.bind_eq_some_iff.1 h1
    refine(hK _ _ _ _ hk).imp fun n hn=>?_
    simp only [hg,Option.bind_some,hext,hn]
    exact h1
  ·refine Ev.of fun n=>?_
   rw [Zl (fun c f ho hc=>hne ⟨c,f,ho,hc⟩)]
   exact h1
 refine(key.and (Zr hv hp h2)).imp fun n hn=>?_
 rw [Cv,hn.1]
 exact hn.2
theorem Ky {lp':Ya}{Kn:Nat→lD}{kvn kpn:Nat→kS→kU→Option R}(hK:C9 cx.K Kn) (hv:∀v h r,kv v h=some r→Ev fun n=>kvn n v h=some r)
  (hp:∀v h r,kp v h=some r→Ev fun n=>kpn n v h=some r) (hb:oP cx o ids ρ h kv kp=some r):Ev fun n=>oP { cx with K:=Kn n,lp:=lp' } o ids ρ h (kvn n) (kpn n)=some r :=
 Fq hK (fun v h' r hk=>hv v _ r hk) (fun v h' r hk=>hp v _ r hk) hb
theorem QA {lp':Ya}{Kn:Nat→lD}{m:Nat}{kvn:Nat→kS→kU→Option R}(hK:C9 cx.K Kn) (hv:∀v h r,kv v h=some r→Ev fun n=>kvn n v h=some r)
  (hb:yK cx o m ids ρ h kv=some r):Ev fun n=>yK { cx with K:=Kn n,lp:=lp' } o m ids ρ h (kvn n)=some r:=by
 unfold yK at hb ⊢
 cases hs:(h.take m).all (z_ m) with
 | false=>rw [hs] at hb; cases hb
 | true =>
  rw [hs] at hb
  simp only [cond_true] at hb ⊢
  obtain⟨r0,h1,h2⟩:=Option.bind_eq_some_iff.1 hb
  have e1:Ev fun n=>oP { cx with K:=Kn n,lp:=lp' } o ids (ρ.map (DN m)) (h.take m) kY wS=some r0 :=
   Ky (kvn:=fun _=>kY) (kpn:=fun _=>wS) hK (fun _ _ _ h=>Ev.of fun _=>h) (fun _ _ _ h=>Ev.of fun _=>h) h1
  have e2:Ev fun n=>Wf m h (kvn n) r0=some r:=by
   unfold Wf at h2 ⊢
   split at h2
   ·rename_i v t
    cases hl:t.length == m with
    | false=>rw [hl] at h2; cases h2
    | true=>rw [hl] at h2; exact hv _ _ _ h2
   ·cases h2
  refine(e1.and e2).imp fun n hn=>?_
  rw [hn.1]
  exact hn.2
theorem Oq {lp':Ya}{Kn:Nat→lD}{kvn kpn:Nat→kS→kU→Option R}(hK:C9 cx.K Kn) (hv:∀v h r,kv v h=some r→Ev fun n=>kvn n v h=some r)
  (hp:∀v h r,kp v h=some r→Ev fun n=>kpn n v h=some r) (hb:tM cx ops o ids ρ h kv kp=some r):Ev fun n=>tM { cx with K:=Kn n,lp:=lp' } ops o ids ρ h (kvn n) (kpn n)=some r:=by
 have L:oP cx o ids ρ h kv kp=some r→Ev fun n=>oP { cx with K:=Kn n,lp:=lp' } o ids ρ h (kvn n) (kpn n)=some r :=
  fun hb=>Fq hK (fun v h' r hk=>hv v _ r hk) (fun v h' r hk=>hp v _ r hk) hb
 simp only [A6] at hb ⊢
 unfold An at hb ⊢
 cases hg:o.guard with
 | none=>simp only [hg] at hb ⊢; exact L hb
 | some jw =>
  obtain⟨j,want⟩:=jw
  simp only [hg] at hb ⊢
  cases hd:(ops[j]?).bind (·.dst) with
  | none=>simp only [hd] at hb; cases hb
  | some d =>
   simp only [hd] at hb ⊢
   generalize ρ.getD d .junk=x at hb ⊢
   split at hb
   ·rename_i g
    cases want <;> cases g <;> simp only [cond_true,cond_false] at hb ⊢
    ·exact L hb
    ·exact hv _ _ _ hb
    ·exact hv _ _ _ hb
    ·exact L hb
   ·exact hv _ _ _ hb
   ·cases hb
theorem Mu {lp':Ya}{Kn:Nat→lD}{m:Nat}{it:Item}{kvn kpn:Nat→kS→kU→Option R}(hK:C9 cx.K Kn) (hv:∀v h r,kv v h=some r→Ev fun n=>kvn n v h=some r)
  (hp:∀v h r,kp v h=some r→Ev fun n=>kpn n v h=some r) (hb:oX cx ops m it ids ρ h kv kp=some r):Ev fun n=>oX { cx with K:=Kn n,lp:=lp' } ops m it ids ρ h (kvn n) (kpn n)=some r:=by
 unfold oX at hb ⊢
 cases hr:it.rsv with
 | some j =>
  simp only [hr] at hb ⊢
  cases hf:sY it.o with
  | false=>rw [hf] at hb; cases hb
  | true =>
   rw [hf] at hb
   exact Fq (kpn:=fun _ _ _=>none) hK hv (fun _ _ _ h=>by cases h) hb
 | none =>
  simp only [hr] at hb ⊢
  cases hh:it.hid with
  | true =>
   simp only [hh,cond_true] at hb ⊢
   cases hf:w9 it.o with
   | false=>rw [hf] at hb; cases hb
   | true =>
    rw [hf] at hb
    exact QA hK hv hb
  | false =>
   simp only [hh,cond_false] at hb ⊢
   exact Oq hK hv hp hb
theorem yM {lp':Ya}{m:Nat}{Kn:Nat→lD}{k:List kS→kU→Option R}{kn:Nat→List kS→kU→Option R}{kpn:Nat→kS→kU→Option R}(hK:C9 cx.K Kn)
  (hk:∀ρ h r,k ρ h=some r→Ev fun n=>kn n ρ h=some r) (hp:∀v h r,kp v h=some r→Ev fun n=>kpn n v h=some r):∀(items:List Item) (seen ρ:List kS) (h:kU) (r:R),
  o9 cx ops m items seen ρ h k kp=some r→Ev fun n=>o9 { cx with K:=Kn n,lp:=lp' } ops m items seen ρ h (kn n) (kpn n)=some r:=by
 intro items
 induction items with
 | nil=>intro seen ρ h r hb; exact hk _ _ _ hb
 | cons it rest ih =>
  intro seen ρ h r hb
  simp only [o9,x9] at hb ⊢
  exact Mu hK (fun v h' r hb=>ih _ _ _ _ hb) hp hb
theorem KA {lp':Ya}{Kn:Nat→lD}{k:List kS→kU→Option R}{kn:Nat→List kS→kU→Option R}{kp:kS→kU→Option R}{kpn:Nat→kS→kU→Option R}{draw:Bool}(hK:C9 cx.K Kn)
  (hk:∀ρ h r,k ρ h=some r→Ev fun n=>kn n ρ h=some r) (hkp:∀v h r,kp v h=some r→Ev fun n=>kpn n v h=some r) (hb:wD cx ops draw ρ h k kp=some r):Ev fun n=>wD { cx with K:=Kn n,lp:=lp' } ops draw ρ h (kn n) (kpn n)=some r:=by
 unfold wD at hb ⊢
 cases draw with
 | false=>exact yM hK (fun ρ h r hb=>hk _ _ _ hb) (fun v h r hb=>hkp _ _ _ hb) _ _ _ _ _ hb
 | true =>
  simp only [] at hb ⊢
  cases hd:Ct ops with
  | none=>simp only [hd] at hb; cases hb
  | some items =>
   simp only [hd] at hb ⊢
   exact yM (cx:={ cx with rb:=false }) hK (fun ρ h r hb=>hk _ _ _ hb) (fun v h r hb=>hkp _ _ _ hb) _ _ _ _ _ hb
end
theorem MR {v:kS}{t e:Option R}{tn en:Nat→Option R}{r:R}(ht:t=some r→Ev fun n=>tn n=some r) (he:e=some r→Ev fun n=>en n=some r) (hb:lP v t e=some r) :
  Ev fun n=>lP v (tn n) (en n)=some r:=by
 unfold lP at hb ⊢
 split at hb
 ·rename_i b; cases b
  ·exact he hb
  ·exact ht hb
 ·cases hb
theorem L6 {e:Ex}{x:Option R}{f:Ex→Option R}{xn:Nat→Option R}{fn:Nat→Ex→Option R}{r:R}(hx:x=some r→Ev fun n=>xn n=some r) (hf:∀e,f e=some r→Ev fun n=>fn n e=some r)
  (hb:e.mC x f=some r):Ev fun n=>e.mC (xn n) (fn n)=some r:=by
 cases e with
 | normal=>exact hx hb
 | _=>exact hf _ hb
theorem aiD {e:Ex}{x:Option R}{xn:Nat→Option R}{r:R}(hx:x=some r→Ev fun n=>xn n=some r) (hb:e.uO x=some r):Ev fun n=>e.uO (xn n)=some r:=by
 cases e with
 | normal=>exact hx hb
 | _=>cases hb
theorem IP {id:Nat}{e:Ex}{x:Option R}{f:Ex→Option R}{xn:Nat→Option R}{fn:Nat→Ex→Option R}{r:R}(hx:x=some r→Ev fun n=>xn n=some r) (hf:∀e,f e=some r→Ev fun n=>fn n e=some r)
  (hb:e.inBlock id x f=some r):Ev fun n=>e.inBlock id (xn n) (fn n)=some r:=by
 cases e with
 | normal=>exact hx hb
 | exit j =>
  simp only [Ex.inBlock] at hb ⊢
  cases hj:j == id with
  | true=>rw [hj] at hb; exact hx hb
  | false=>rw [hj] at hb; exact hf _ hb
 | _=>exact hf _ hb
theorem Ac {cx:Cx}{Kn:Nat→lD}(hK:C9 cx.K Kn) (hlp:∀F s r,cx.lp F s=some r→mQ F s=some r):∀(c:Code) (L:Nat) (ρ:List kS) (h:kU) (kn:List kS→kU→Option R) (ke:Ex→List kS→kU→Option R)
  (knn:Nat→List kS→kU→Option R) (ken:Nat→Ex→List kS→kU→Option R) (r:R),
  (∀ρ h r,kn ρ h=some r→Ev fun n=>knn n ρ h=some r)→(∀e ρ h r,ke e ρ h=some r→Ev fun n=>ken n e ρ h=some r)→evalCode cx c L ρ h kn ke=some r→Ev fun n=>evalCode { cx with K:=Kn n,lp:=mQ } c L ρ h (knn n) (ken n)=some r:=by
 obtain⟨P,A,K,lp,nt,full,pan,vec,frz,vlit,vmk,jt,lkp,rb,frl⟩:=cx
 dsimp only at hlp
 intro c
 induction c with
 | skip=>intro L ρ h kn ke knn ken r hk he hb; exact hk _ _ _ hb
 | region id ops draw=>intro L ρ h kn ke knn ken r hk he hb; exact KA hK hk (kpn:=fun n=>ayK pan (ken n) ρ) (fun v h r hb=>by cases pan <;> first | exact he _ _ _ _ hb | cases hb) hb
 | seq x y ihx ihy =>
  intro L ρ h kn ke knn ken r hk he hb
  simp only [evalCode] at hb ⊢
  exact ihx _ ρ h _ _ _ _ r (fun ρ h r hb=>ihy _ _ _ _ _ _ _ _ hk he hb) he hb
 | cond c x y ihx ihy =>
  intro L ρ h kn ke knn ken r hk he hb
  simp only [evalCode] at hb ⊢
  cases hf:wJ x && wJ y with
  | true =>
   simp only [hf,cond_true] at hb ⊢
   obtain⟨r0,h1,h2⟩:=Option.bind_eq_some_iff.1 hb
   have e1:=MR (ihx L ρ h _ _ (fun _=>ES jt h.length L .normal) (fun _=>ES jt h.length L) r0 (fun ρ h r hb=>Ev.of fun _=>hb) (fun e ρ h r hb=>Ev.of fun _=>hb)) (ihy L ρ h _ _ (fun _=>ES jt h.length L .normal) (fun _=>ES jt h.length L) r0 (fun ρ h r hb=>Ev.of fun _=>hb) (fun e ρ h r hb=>Ev.of fun _=>hb)) h1
   have e2:Ev fun n=>(bif pan || (leaves [] x || leaves [] y) then r0.1.mC (knn n (unpack nt L r0.2.1) r0.2.2) fun e=>ken n e (unpack nt L r0.2.1) r0.2.2 else r0.1.uO (knn n (unpack nt L r0.2.1) r0.2.2))=some r:=by
    cases hl:pan || (leaves [] x || leaves [] y) with
    | true=>rw [hl] at h2; exact L6 (hk _ _ _) (fun e=>he e _ _ _) h2
    | false=>rw [hl] at h2; exact aiD (hk _ _ _) h2
   refine(e1.and e2).imp fun n hn=>?_
   rw [Option.bind_eq_some_iff]
   exact⟨r0,hn.1,hn.2⟩
  | false =>
   simp only [hf,cond_false] at hb ⊢
   exact MR (ihx L ρ h _ _ knn ken r hk he) (ihy L ρ h _ _ knn ken r hk he) hb
 | block id c ih =>
  intro L ρ h kn ke knn ken r hk he hb
  simp only [evalCode] at hb ⊢
  cases hf:decide (2≤Bv id c+bif wJ c then 1 else 0) with
  | true =>
   simp only [hf,cond_true] at hb ⊢
   obtain⟨r0,h1,h2⟩:=Option.bind_eq_some_iff.1 hb
   refine((ih L ρ h _ _ (fun _=>ES jt h.length L .normal) (fun _=>ES jt h.length L) r0 (fun ρ h r hb=>Ev.of fun _=>hb) (fun e ρ h r hb=>Ev.of fun _=>hb) h1).and (IP (hk _ _ _) (fun e=>he e _ _ _) h2)).imp fun n hn=>?_
   rw [Option.bind_eq_some_iff]
   exact⟨r0,hn.1,hn.2⟩
  | false =>
   simp only [hf,cond_false] at hb ⊢
   exact ih L ρ h _ _ knn (fun n e ρ' h'=>e.inBlock id (knn n ρ' h') fun e=>ken n e ρ' h') r hk (fun e ρ' h' r hb=>IP (hk _ _ _) (fun e=>he e _ _ _) hb) hb
 | loop c ih =>
  intro L ρ h kn ke knn ken r hk he hb
  simp only [evalCode] at hb ⊢
  obtain⟨r0,h1,h2⟩:=Option.bind_eq_some_iff.1 hb
  refine((agB (fun s r hb=>ih _ _ _ _ _ (fun _=>Dr lkp h.length (L ||| ue full c) .normal) (fun _=>Dr lkp h.length (L ||| ue full c)) _ (fun ρ h r hb=>Ev.of fun _=>hb) (fun e ρ h r hb=>Ev.of fun _=>hb) hb) (hlp _ _ _ h1)).and
   (L6 (x:=none) (xn:=fun _=>none) (fun h=>by cases h) (fun e=>he e _ _ _) h2)).imp fun n hn=>?_
  rw [Option.bind_eq_some_iff]
  exact⟨r0,hn.1,hn.2⟩
 | scope c ih=>intro L ρ h kn ke knn ken r hk he hb; exact ih L ρ h kn ke knn ken r hk he hb
 | label l=>intro L ρ h kn ke knn ken r hk he hb; exact hk _ _ _ hb
 | exit id=>intro L ρ h kn ke knn ken r hk he hb; exact he _ _ _ _ hb
 | ret=>intro L ρ h kn ke knn ken r hk he hb; exact he _ _ _ _ hb
 | _=>intro L ρ h kn ke knn ken r hk he hb; simp [evalCode] at hb
theorem QC {cx:Cx}{Kn:Nat→lD}(hK:C9 cx.K Kn) (hlp:∀F s r,cx.lp F s=some r→mQ F s=some r) {g:Nat}{caps:List kS}{pv:Option kS}{h h':kU}(hb:v_ cx g caps pv h=some h') :
  Ev fun n=>v_ { cx with K:=Kn n,lp:=mQ } g caps pv h=some h':=by
 unfold v_ at hb ⊢
 cases hf:cx.P.funcs[g]? with
 | none=>rw [hf] at hb; cases hb
 | some fn =>
  simp only [hf] at hb ⊢
  split at hb
  ·rename_i id ops c hbody
   split at hb
   ·rename_i o os hops
    cases hc:(Ek o && decide (caps.length≤fn.ntmps) && fn.results.isEmpty && !(fn.name == "runtime.NumGoroutine")) with
    | false=>rw [hc] at hb; cases hb
    | true =>
     rw [hc] at hb
     simp only [cond_true] at hb ⊢
     obtain⟨r0,h1,h2⟩:=Option.bind_eq_some_iff.1 hb
     have e1:=yM (cx:={ cx with n:=fn.ntmps,full:=2 ^ fn.ntmps - 1,pan:=false }) (lp':=mQ) (ops:=ops.toList) (kp:=fun _ _=>none) (kpn:=fun _ _ _=>none)
      (kn:=fun n ρ' h'=>evalCode { cx with K:=Kn n,lp:=mQ,n:=fn.ntmps,full:=2 ^ fn.ntmps - 1,pan:=false } c 0 ρ' h' (I0 0) (IZ 0)) hK
      (fun ρ h r hb=>Ac (cx:={ cx with n:=fn.ntmps,full:=2 ^ fn.ntmps - 1,pan:=false }) hK hlp c 0 ρ h _ _ (fun _=>I0 0) (fun _=>IZ 0) r (fun ρ h r hb=>Ev.of fun _=>hb) (fun e ρ h r hb=>Ev.of fun _=>hb) hb)
      (fun _ _ _ h=>by cases h) _ _ _ _ _ h1
     refine e1.imp fun n hn=>?_
     rw [Option.bind_eq_some_iff]
     exact⟨r0,hn,h2⟩
   ·cases hb
  ·cases hb
theorem Ot {cx:Cx}{Kn:Nat→lD}(hK:C9 cx.K Kn) (hlp:∀F s r,cx.lp F s=some r→mQ F s=some r) {b:Code}{L:Nat}{fv:kS}{ρ:List kS}{h:kU}{r:R}(hb:AE cx b L fv ρ h=some r) :
  Ev fun n=>AE { cx with K:=Kn n,lp:=mQ } b L fv ρ h=some r:=by
 unfold AE at hb ⊢
 cases hok:DC L b with
 | false=>rw [hok] at hb; cases hb
 | true =>
  rw [hok] at hb
  simp only [cond_true] at hb ⊢
  obtain⟨g,hg,hb⟩:=Option.bind_eq_some_iff.1 hb
  simp only [hg,Option.bind_some]
  obtain⟨r0,h1,h2⟩:=Option.bind_eq_some_iff.1 hb
  have e1:=Ac (cx:={ cx with pan:=true }) hK hlp b L ρ h _ _ (fun _=>I0 L) (fun _=>IZ L) r0 (fun ρ h r hb=>Ev.of fun _=>hb) (fun e ρ h r hb=>Ev.of fun _=>hb) h1
  have e2:Ev fun n=>r0.1.Sz ((v_ { cx with K:=Kn n,lp:=mQ } g.1 (g.2.1++g.2.2) none r0.2.2).map fun h2=>((.ret,r0.2.1,h2):R)) (fun v=>(v_ { cx with K:=Kn n,lp:=mQ } g.1 (g.2.1++g.2.2) (some v) r0.2.2).map fun h2=>((.ret,pack L ρ,h2):R))=some r:=by
   have key:∀{pv:Option kS}{pk:List kS},((v_ cx g.1 (g.2.1++g.2.2) pv r0.2.2).map fun h2=>((.ret,pk,h2):R))=some r→Ev fun n=>((v_ { cx with K:=Kn n,lp:=mQ } g.1 (g.2.1++g.2.2) pv r0.2.2).map fun h2=>((.ret,pk,h2):R))=some r:=by
    intro pv pk hx
    obtain⟨h3,e3,e4⟩:=Option.map_eq_some_iff.1 hx
    exact(QC hK hlp e3).imp fun n hn=>by rw [hn]; exact congrArg some e4
   cases he:r0.1 with
   | normal=>rw [he] at h2; exact key h2
   | ret=>rw [he] at h2; exact key h2
   | exit id=>rw [he] at h2; cases h2
   | pan v=>rw [he] at h2; exact key h2
  refine(e1.and e2).imp fun n hn=>?_
  rw [Option.bind_eq_some_iff]
  exact⟨r0,hn.1,hn.2⟩
theorem QB {cx:Cx}{Kn:Nat→lD}(hK:C9 cx.K Kn) (hlp:∀F s r,cx.lp F s=some r→mQ F s=some r):∀(c:Code) (L:Nat) (ρ:List kS) (h:kU) (r:R),sL cx c L ρ h=some r →
  Ev fun n=>sL { cx with K:=Kn n,lp:=mQ } c L ρ h=some r:=by
 intro c
 induction c with
 | seq x y ihx ihy =>
  intro L ρ h r hb
  have piece:evalCode cx x (L ||| ue cx.full y) ρ h (fun ρ' h'=>sL cx y L ρ' h') (Nr L)=some r →
    Ev fun n=>evalCode { cx with K:=Kn n,lp:=mQ } x (L ||| ue cx.full y) ρ h (fun ρ' h'=>sL { cx with K:=Kn n,lp:=mQ } y L ρ' h') (Nr L)=some r:=fun hb =>
   Ac hK hlp x _ ρ h _ _ (fun n ρ' h'=>sL { cx with K:=Kn n,lp:=mQ } y L ρ' h') (fun _=>Nr L) r (fun ρ h r hb=>ihy L ρ h r hb) (fun e ρ h r hb=>Ev.of fun _=>hb) hb
  cases x with
  | region id ops draw =>
   cases draw with
   | true=>simp only [sL] at hb ⊢; exact piece hb
   | false =>
    simp only [sL] at hb ⊢
    cases hl:B3 ops.toList with
    | none=>simp only [hl] at hb ⊢; exact piece hb
    | some f =>
     simp only [hl] at hb ⊢
     exact yM (lp':=mQ) (kpn:=fun _ _ _=>none) (kn:=fun n ρ' h'=>AE { cx with K:=Kn n,lp:=mQ } y L (sB cx.A ρ' f) ρ' h') hK (fun ρ h r hb=>Ot hK hlp hb) (fun _ _ _ h=>by cases h) _ _ _ _ _ hb
  | _=>simp only [sL] at hb ⊢; exact piece hb
 | _=>intro L ρ h r hb; simp [sL] at hb
theorem Om {cx:Cx}{Kn:Nat→lD}(hK:C9 cx.K Kn) (hlp:∀F s r,cx.lp F s=some r→mQ F s=some r) {d:Bool}{c:Code}{L:Nat}{ρ:List kS}{h:kU}{r:R}(hb:Dt cx d c L ρ h=some r) :
  Ev fun n=>Dt { cx with K:=Kn n,lp:=mQ } d c L ρ h=some r:=by
 cases d with
 | true=>exact QB (cx:={ cx with pan:=false }) hK hlp c L ρ h r hb
 | false=>exact Ac hK hlp c L ρ h _ _ (fun _=>I0 L) (fun _=>IZ L) r (fun ρ h r hb=>Ev.of fun _=>hb) (fun e ρ h r hb=>Ev.of fun _=>hb) hb
theorem V5 {A:Cj}{K:lD}{Kn:Nat→lD}(hK:C9 K Kn):C9 (mP A K) fun n=>mP A (Kn n):=by
 intro f args h r hb
 unfold mP at hb ⊢
 cases hp:A.pure f with
 | false =>
  simp only [hp,cond_false] at hb ⊢
  cases hsb:A.sub f with
  | false=>simp only [hsb,cond_false] at hb ⊢; exact hK _ _ _ _ hb
  | true =>
   simp only [hsb,cond_true] at hb ⊢
   unfold as5 acO at hb ⊢
   cases ho:ND (reach h args) args h with
   | false=>simp only [ho,cond_false] at hb; cases hb
   | true =>
    simp only [ho,cond_true] at hb ⊢
    obtain⟨r0,h1,h2⟩:=Option.bind_eq_some_iff.1 hb
    refine(hK _ _ _ _ h1).imp fun n hn=>?_
    rw [Option.bind_eq_some_iff]
    exact⟨r0,hn,h2⟩
 | true =>
  simp only [hp,cond_true] at hb ⊢
  cases hs:args.all (kS.uY 0) with
  | false=>simp only [hs,cond_false] at hb; cases hb
  | true =>
   simp only [hs,cond_true] at hb ⊢
   obtain⟨r0,h1,h2⟩:=Option.bind_eq_some_iff.1 hb
   refine(hK _ _ _ _ h1).imp fun n hn=>?_
   rw [Option.bind_eq_some_iff]
   exact⟨r0,hn,h2⟩
theorem Js {P:Program}{A:Cj}{lp:Ya}{K:lD}{Kn:Nat→lD}(hlp:∀F s r,lp F s=some r→mQ F s=some r) (hK:C9 K Kn):C9 (qA P A lp K) fun n=>qA P A mQ (Kn n):=by
 intro f args h r hb
 unfold qA at hb ⊢
 cases hsr:A.srt f with
 | true =>
  rw [hsr] at hb
  refine⟨0,fun n _=>?_⟩
  simp only [hsr]
  exact hb
 | false =>
 simp only [hsr,cond_false] at hb ⊢
 cases hsf:A.srf f with
 | some g =>
  simp only [hsf] at hb
  exact⟨0,fun n _=>hb⟩
 | none =>
 simp only [hsf] at hb ⊢
 cases hf:P.funcs[f]? with
 | none=>simp only [hf] at hb; cases hb
 | some fn =>
  simp only [hf] at hb ⊢
  cases hc:fn.body with
  | none=>simp only [hc] at hb; cases hb
  | some c =>
   simp only [hc] at hb ⊢
   cases hg:decide (args.length≤fn.ntmps) && !(fn.name == "runtime.NumGoroutine") with
   | false=>simp only [hg,cond_false] at hb; cases hb
   | true =>
    simp only [hg,cond_true,On] at hb ⊢
    obtain⟨r0,h1,h2⟩:=Option.bind_eq_some_iff.1 hb
    refine(Om (cx:={ P,A,K:=mP A K,lp,n:=fn.ntmps,full:=2 ^ fn.ntmps - 1,pan:=A.pan f,vec:=A.ajY f,frz:=A.frz f,vlit:=A.Vz f,vmk:=A.vmk f,jt:=A.jt f,lkp:=A.lkp f,rb:=A.rb f,frl:=A.frl f }) (V5 hK) hlp h1).imp fun n hn=>?_
    rw [Option.bind_eq_some_iff]
    exact⟨r0,hn,h2⟩
open Classical in
noncomputable def Ji (P:Program) (A:Cj):lD:=fun f args h =>
 if hx:∃r,Ev fun n=>SD P A mQ n f args h=some r then some (Classical.choose hx) else none
theorem Ee {P:Program}{A:Cj}{f:Nat}{args:List kS}{h:kU}{r:nZ×kU}:Ji P A f args h=some r↔Ev fun n=>SD P A mQ n f args h=some r:=by
 unfold Ji
 constructor
 ·intro hb
  split at hb
  ·rename_i hx; cases hb; exact Classical.choose_spec hx
  ·cases hb
 ·intro hb
  have hx:∃r,Ev fun n=>SD P A mQ n f args h=some r:=⟨r,hb⟩
  rw [dif_pos hx]
  obtain⟨N,hN⟩:=(Classical.choose_spec hx).and hb
  obtain⟨e1,e2⟩:=hN N (Nat.le_refl _)
  rw [e1] at e2
  exact e2
theorem Zk {P:Program}{A:Cj}{f:Nat}{args:List kS}{h:kU}{r:nZ×kU}(hb:qA P A mQ (Ji P A) f args h=some r):Ji P A f args h=some r:=by
 rw [Ee]
 obtain⟨N,hN⟩:=Js (lp:=mQ) (Kn:=fun n=>SD P A mQ n) (fun _ _ _ h=>h) (fun f args h r hb=>Ee.1 hb) f args h r hb
 refine⟨N+1,fun n hn=>?_⟩
 cases n with
 | zero=>omega
 | succ n=>exact hN n (by omega)
theorem U1 {P:Program}{A:Cj}(m:Nat):∀(n f:Nat) (args:List kS) (h:kU) (r:nZ×kU),SD P A (sI m) n f args h=some r→Ji P A f args h=some r:=by
 have hlp:∀F s r,sI m F s=some r→mQ F s=some r:=fun F s r h=>A7.2 ⟨m,h⟩
 have key:∀n,C9 (SD P A (sI m) n) fun k=>SD P A mQ k:=by
  intro n
  induction n with
  | zero=>intro f args h r hb; cases hb
  | succ n ih =>
   intro f args h r hb
   obtain⟨N,hN⟩:=Js hlp ih f args h r hb
   refine⟨N+1,fun k hk=>?_⟩
   cases k with
   | zero=>omega
   | succ k=>exact hN k (by omega)
 exact fun n f args h r hb=>Ee.2 (key n f args h r hb)
theorem Wb {P:Program}{A:Cj}(hm:P.follows .mixedOrders=true) (hX:vR P A):sQ P A (Ji P A):=by
 intro f args h r h' hb
 obtain⟨N,hN⟩:=Ee.1 hb
 exact MX hm hX aoU N f args h r h' (hN N (Nat.le_refl _))
end Hk


namespace Hk
open Go Go.RowKit Go.ChangeShapes
def gh (W:World):Gh:={ H:=fun b k=>W.cell? ⟨b,k,none⟩,nV:=fun _=>0,cur:=fun _=>.slice none 0 0 }
theorem aoJ (W:World):Inv (gh W) [] W:=⟨fun _ _ _ h=>h,fun id bl hb=>by simp at hb,fun a b c ha=>by simp [owner] at ha⟩
theorem Fp {P:Program}{A:Cj}{f:Nat}{args:List kS}{X:Array Value}{W:World}(hm:P.follows .mixedOrders=true) (hX:vR P A) (h:Ji P A f args []=some (.ret (.bool true),[]))
  (gl:sG A (gh W).H) (hx:BI (gh W) [] args X):Calls P f X W fun e W'=>e=.returned (.bool true)∧Below W.heap.size W W':=by
 refine((Wb hm hX f args [] _ _ h (gh W) W X (aoJ W) gl hx).2).mono fun e W' hpost=>?_
 obtain⟨G',x,_,V,rfl,hV⟩:=hpost
 refine⟨by rw [hV.wW],x.os,x.tape,x.output,x.size,fun k hk=>(x.frame k hk fun id=>by simp [owner]).1⟩
section
variable {H:Type}{enc:TypeId×Value→H}{P:Program}
theorem E_ (hl:laidOutB P=true) {W W':World}{sp':Nat→Bool}(hb:Below W.heap.size W W'):∀{ts:List TypeId}{vs:List Value}{ds:List (DataW H)}{ps:List MemPlace},
  (∀t∈ts,P.readableRec t=true∧t < P.types.size)→DataW.TrodAll enc P W 0 (fun _=>true) true ts vs ds ps→(∀p∈ps,p.block < W.heap.size)→(∀p∈ps,sp' p.block=true)→DataW.TrodAll enc P W' 0 sp' true ts vs ds ps
 | [],[],[],_,_,h,_,_=>h
 | _::_,_::_,_::_,_,ht,⟨p,q,h1,h2,e⟩,hlt,hs =>
  ⟨p,q,WideElems.Trod_stays hl (ht _ (by simp)).1 (ht _ (by simp)).2 h1 (fun x hx=>hb.same (hlt x (by rw [e]; exact List.mem_append_left _ hx))) (fun x hx=>hs x (by rw [e]; exact List.mem_append_left _ hx)),
   E_ hl hb (fun t h=>ht t (by simp [h])) h2 (fun x hx=>hlt x (by rw [e]; exact List.mem_append_right _ hx)) (fun x hx=>hs x (by rw [e]; exact List.mem_append_right _ hx)),e⟩
theorem HV {f:Func}{s:ChangeSpec}{apart fresh handsOn again:Bool}{W W':World}{args:Array Value}{tb:TypeId}{ds gs:List (DataW H)}{before:List MemPlace}
  (hl:laidOutB P=true) (ht:∀t∈f.params.toList,P.readableRec t=true∧t < P.types.size) (hr:f.resultTypes=#[tb]) (htb:P.underlying tb=some .bool) (hv:s.vars=[])
  (hW:DataW.Whole enc P f.params.toList s.vars apart W args.toList ds gs before) (hb:Below W.heap.size W W')
  (h1:(s.fn H (ds++gs)).results=[.lit (.bool true)]) (h2:(s.fn H (ds++gs)).args=ds) (h3:(s.fn H (ds++gs)).vars=[]):s.post enc P f apart fresh handsOn again W args (Value.bool true) W':=by
 have hlt:=hW.lt
 have hold:∀p∈before,(fun b=>decide (b < W.heap.size)) p.block=true:=fun p hp=>by simpa using hlt p hp
 have hW':=hW
 obtain⟨p,q,hA,hV,hps,hz,hn⟩:=hW
 rw [hv] at hV
 obtain⟨rfl,rfl⟩:=trodVars_none hV
 simp only [List.append_nil] at hps h1 h2 h3
 subst hps
 have hargs:∀sp:Nat→Bool,(∀x∈before,sp x.block=true)→DataW.TrodAll enc P W' 0 sp true f.params.toList args.toList (s.fn H ds).args before:=by
  intro sp hs; rw [h2]; exact E_ hl hb ht hA hlt hs
 have hres:∀(b:Nat) (sp:Nat→Bool) (hd:Bool),DataW.TrodAll enc P W' b sp hd f.resultTypes.toList ((Value.bool true).resultList f.resultTypes.size) (s.fn H ds).results []:=by
  intro b sp hd; rw [h1,hr]; exact trodAll_mk1 (shut_bool htb true)
 have hvars:∀sp:Nat→Bool,DataW.TrodVars enc P W' sp s.vars (s.fn H ds).vars []:=by
  intro sp; rw [h3,hv]; rfl
 refine⟨ds,[],before,[],before,[],hW',by simpa using hres _ _ _,by simpa using hargs _ hold,by simpa using hvars _,World.keptBut_mono (fun p hp=>⟨hp,?_⟩) (hb.frame (·∈before)),fun _=>?_⟩
 ·exact Or.inr (by simpa using hp)
 ·refine⟨ok_one hr rfl (okWide_bool_mk htb true),_,_,([]++before)++[],⟨[]++before,[],trodAll_append (hargs _ (fun _ _=>rfl)) (hres _ _ _),hvars _,rfl,?_,?_⟩,?_⟩
  ·intro b off hp
   have hp':MemPlace.cell b off∈before:=by simpa using hp
   rw [hb.frozen (p:=⟨b,off,none⟩) (hlt _ hp')]
   exact hz b off hp'
  ·intro ha
   simpa using hn ha
  ·intro p hp _
   simpa using hp
end
def C6 (H:Nat→Nat→Option Value) (cs:List kS) (vs:List Value):Prop:=cs.length=vs.length∧∀(i:Nat) (v:kS),cs[i]?=some v→v.mV=true∧qF H v (vs.getD i undef)
theorem C6.append {H:Nat→Nat→Option Value}{a b:List kS}{x y:List Value}(h:C6 H a x) (h':C6 H b y):C6 H (a++b) (x++y):=by
 refine⟨by simp [h.1,h'.1],fun i v hv=>?_⟩
 rw [List.getD_eq_getElem?_getD]
 by_cases hi:i < a.length
 ·rw [List.getElem?_append_left hi] at hv
  rw [List.getElem?_append_left (by rw [←h.1]; exact hi)]
  have:=h.2 i v hv
  rwa [List.getD_eq_getElem?_getD] at this
 ·rw [List.getElem?_append_right (by omega)] at hv
  rw [List.getElem?_append_right (by rw [←h.1]; omega),←h.1]
  have:=h'.2 _ v hv
  rwa [List.getD_eq_getElem?_getD] at this
theorem C6.nil (H:Nat→Nat→Option Value):C6 H [] []:=⟨rfl,by simp⟩
theorem C6.one {H:Nat→Nat→Option Value}{v:kS}{V:Value}(hk:v.mV=true) (h:qF H v V):C6 H [v] [V] :=
 ⟨rfl,fun i u hu=>by cases i with
  | zero=>simp at hu; subst hu; exact⟨hk,h⟩
  | succ i=>simp at hu⟩
structure Rd (P:Program) (n:Nat) (t:TypeId) {α:Type}(encA:α→List kS) (wf:α→Prop):Prop where
 get:∀{H:Type}{enc:TypeId×Value→H}{w:World}{sp:Nat→Bool}{held:Bool}{fuel:Nat}{cs:List Value}{x:DataW H×List MemPlace},fuel≤n →
  DataW.trod enc P w 0 sp held fuel t cs=some x→∃a:α,wf a∧C6 (gh w).H (encA a) cs
theorem Rd.int {P:Program}{n:Nat}{t:TypeId}{k:IntKind}(ht:P.underlying t=some (.int k)):Rd P n t (fun z:Int=>[.int k z]) (fun z=>(Lit.int k z).wf=true):=by
 refine⟨?_⟩
 intro H enc w sp held fuel cs x _ h
 obtain⟨z,hx,_,hw⟩:=DataW.trod_int ht h
 exact⟨z,hw,by rw [hx]; exact .one rfl (.int _ _)⟩
theorem Rd.bool {P:Program}{n:Nat}{t:TypeId}(ht:P.underlying t=some .bool):Rd P n t (fun z:Bool=>[.bool z]) (fun _=>True):=by
 refine⟨?_⟩
 intro H enc w sp held fuel cs x _ h
 cases fuel with
 | zero=>simp [DataW.trod] at h
 | succ m =>
  unfold DataW.trod at h
  rw [ht] at h
  split at h <;> try (simp at *; done)
  rename_i b _
  exact⟨b,trivial,.one rfl (.bool _)⟩
theorem Rd.str {P:Program}{n:Nat}{t:TypeId}(ht:P.underlying t=some .string):Rd P n t (fun z:List UInt8=>[.str z]) (fun z=>z.length≤maxLen):=by
 refine⟨?_⟩
 intro H enc w sp held fuel cs x _ h
 obtain⟨s,hx,_,hs⟩:=DataW.trod_string ht h
 refine⟨s.data.toList,by simpa using hs,?_⟩
 have:(⟨s.data.toList.toArray⟩:ByteArray)=s:=by cases s; simp
 rw [hx]
 have r:=qF.str (H:=(gh w).H) s.data.toList
 rw [this] at r
 exact .one rfl r
theorem Lm {α β:Type}{f:α→Option β}:∀{l:List α}{ys:List β},l.mapM f=some ys→ys.length=l.length∧∀(i:Nat) (x:α),l[i]?=some x→∃y,ys[i]?=some y∧f x=some y
 | [],ys,h=>by simp at h; subst h; simp
 | a::l,ys,h=>by
  simp only [List.mapM_cons,Option.bind_eq_bind,Option.bind_eq_some_iff] at h
  obtain⟨y,hy,zs,hzs,h⟩:=h
  simp only [Option.pure_def,Option.some.injEq] at h; subst h
  obtain⟨h1,h2⟩:=Lm hzs
  refine⟨by simp [h1],fun i x hx=>?_⟩
  cases i with
  | zero=>simp at hx; subst hx; exact⟨y,rfl,hy⟩
  | succ i=>simpa using h2 i x (by simpa using hx)
theorem IJ {α:Type}{p:Nat→α→Prop}:∀(n:Nat),(∀i,i < n→∃a,p i a)→∃l:List α,l.length=n∧∀(i:Nat) (a:α),l[i]?=some a→p i a
 | 0,_=>⟨[],rfl,by simp⟩
 | n+1,h=>by
  obtain⟨l,h1,h2⟩:=IJ n fun i hi=>h i (by omega)
  obtain⟨a,ha⟩:=h n (by omega)
  refine⟨l++[a],by simp [h1],fun i b hb=>?_⟩
  by_cases hi:i < l.length
  ·rw [List.getElem?_append_left hi] at hb; exact h2 i b hb
  ·rw [List.getElem?_append_right (by omega)] at hb
   have:i - l.length=0:=by
    by_cases h0:i - l.length=0
    ·exact h0
    ·rw [List.getElem?_eq_none (by simp; omega)] at hb; cases hb
   rw [this] at hb
   simp at hb; subst hb
   have:i=n:=by omega
   subst this; exact ha
theorem Ku {w:World}{base:Nat}{a:Addr}{n:Nat}{cs:List Value}(h:w.cells? base a n=some cs):cs.length=n∧∀i,i < n→w.cell? (a.add i)=cs[i]?:=by
 unfold World.cells? at h
 split at h
 ·obtain⟨h1,h2⟩:=Lm h
  refine⟨by simpa using h1,fun i hi=>?_⟩
  obtain⟨y,e1,e2⟩:=h2 i i (by simp [hi])
  rw [e2,e1]
 ·cases h
theorem XG {w:World}{a:Addr}{v:Value}(h:w.cell? a=some v):a=⟨a.block,a.off,none⟩:=by
 unfold World.cell? at h
 split at h
 ·split at h
  ·cases h
  ·rename_i hs
   obtain⟨b,o,s⟩:=a
   cases s with
   | none=>rfl
   | some _=>simp at hs
 ·cases h
theorem add_add (a:Addr) (i j:Nat) (h:a=⟨a.block,a.off,none⟩):(a.add i).add j=⟨a.block,a.off+(i+j),none⟩:=by
 rw [h,add_plain,add_plain]
 simp [Nat.add_assoc]
theorem Rd.slice {P:Program}{n:Nat}{t e:TypeId}{α:Type}{encA:α→List kS}{wf:α→Prop}{sz:Nat}(ht:P.underlying t=some (.slice e)) (he:P.cellsOf e=sz+1) (hsz:∀a,(encA a).length=sz+1) (r:Rd P n e encA wf) :
  Rd P (n+1) t (fun z:List α=>[.slice (z.map encA) .no]) (fun z=>z.length≤maxLen∧∀a∈z,wf a):=by
 refine⟨?_⟩
 intro H enc w sp held fuel cs x hf h
 cases fuel with
 | zero=>simp [DataW.trod] at h
 | succ m =>
  unfold DataW.trod at h
  rw [ht] at h
  split at h <;> try (simp at *; done)
  ·refine⟨[],by simp,.one rfl (.slice0 none 0)⟩
  ·rename_i e' a len cap hu
   cases hu
   split at h
   ·rename_i hcond
    obtain⟨_,hlen,hcap⟩:=hcond
    obtain⟨elems,hel,_⟩:=Option.bind_eq_some_iff.1 h
    obtain⟨h1,h2⟩:=Lm hel
    by_cases h0:len=0
    ·subst h0
     exact⟨[],by simp,.one rfl (.slice0 (some a) cap)⟩
    ·-- an element's cells
     have hcell:∀i,i < len→∃cs,w.cells? 0 (a.add (i * (sz+1))) (sz+1)=some cs∧∃z:α,wf z∧C6 (gh w).H (encA z) cs:=by
      intro i hi
      obtain⟨y,e1,e2⟩:=h2 i i (by simp [hi])
      obtain⟨cs,e3,e4⟩:=Option.bind_eq_some_iff.1 e2
      rw [he] at e3
      exact⟨cs,e3,r.get (by omega) e4⟩
     have ha:a=⟨a.block,a.off,none⟩:=by
      obtain⟨cs,e1,_⟩:=hcell 0 (by omega)
      obtain⟨l1,l2⟩:=Ku e1
      have:=l2 0 (by omega)
      rw [List.getElem?_eq_getElem (by omega)] at this
      have:=XG this
      simpa [Addr.add] using this
     obtain⟨l,hl,hp⟩:=IJ (p:=fun i (z:α)=>∃cs,w.cells? 0 (a.add (i * (sz+1))) (sz+1)=some cs∧wf z∧C6 (gh w).H (encA z) cs) len fun i hi=>by
      obtain⟨cs,e1,z,e2,e3⟩:=hcell i hi
      exact⟨z,cs,e1,e2,e3⟩
     have key:∀(i j:Nat) (row:List kS) (v:kS),(l.map encA)[i]?=some row→row[j]?=some v →
       (gh w).H a.block (a.off+(i * (sz+1)+j))=some ((w.cell? ⟨a.block,a.off+(i * (sz+1)+j),none⟩).getD undef)∧v.mV=true∧qF (gh w).H v ((w.cell? ⟨a.block,a.off+(i * (sz+1)+j),none⟩).getD undef):=by
      intro i j row v hi hj
      simp only [List.getElem?_map,Option.map_eq_some_iff] at hi
      obtain⟨z,hz,rfl⟩:=hi
      obtain⟨cs,e1,_,e3⟩:=hp i z hz
      obtain⟨l1,l2⟩:=Ku e1
      have hjlt:j < sz+1:=by rw [←hsz z]; exact(List.getElem?_eq_some_iff.1 hj).1
      have e4:=l2 j hjlt
      rw [add_add _ _ _ ha] at e4
      obtain⟨e5,e6⟩:=e3.2 j v hj
      have:cs[j]?=some (cs.getD j undef):=by rw [List.getD_eq_getElem?_getD,List.getElem?_eq_getElem (by omega)]; rfl
      rw [this] at e4
      refine⟨by show w.cell? _=_; rw [e4]; rfl,e5,by rw [e4]; exact e6⟩
     have hrows:∀row∈l.map encA,row.length=sz+1:=by
      intro row hr
      obtain⟨z,_,rfl⟩:=List.mem_map.1 hr
      exact hsz z
     refine⟨l,⟨by omega,fun z hz=>?_⟩,.one rfl ?_⟩
     ·obtain⟨i,hi⟩:=List.getElem?_of_mem hz
      obtain⟨_,_,e2,_⟩:=hp i z hi
      exact e2
     ·have:=qF.slice (H:=(gh w).H) (l.map encA) a.block a.off cap (sz+1) (fun k=>(w.cell? ⟨a.block,a.off+k,none⟩).getD undef) hrows (by simp; omega)
       (fun i j row v hi hj=>(key i j row v hi hj).1) (fun i j row v hi hj=>(key i j row v hi hj).2.1) (fun i j row v hi hj=>(key i j row v hi hj).2.2)
      rw [←ha] at this
      simpa [hl] using this
   ·cases h
structure VH (P:Program) (n:Nat) (fs:List Field) (off total:Nat) {α:Type}(encA:α→List kS) (wf:α→Prop):Prop where
 get:∀{H:Type}{enc:TypeId×Value→H}{w:World}{sp:Nat→Bool}{held:Bool}{fuel:Nat}{cs:List Value}{xs:List (DataW H×List MemPlace)},fuel≤n→cs.length=total →
  (fs.mapM fun f=>DataW.trod enc P w 0 sp held fuel f.type ((cs.drop f.offset).take (P.cellsOf f.type)))=some xs→∃a:α,wf a∧C6 (gh w).H (encA a) (cs.drop off)
theorem VH.nil {P:Program}{n total:Nat}:VH P n [] total total (fun _:Unit=>[]) (fun _=>True):=by
 refine⟨?_⟩
 intro H enc w sp held fuel cs xs _ hl h
 refine⟨(),trivial,?_⟩
 rw [List.drop_eq_nil_of_le (by omega)]
 exact .nil _
theorem VH.cons {P:Program}{n off total sz:Nat}{f:Field}{fs:List Field}{α β:Type}{encA:α→List kS}{wfA:α→Prop}{encB:β→List kS}{wfB:β→Prop}
  (ho:f.offset=off) (hs:P.cellsOf f.type=sz) (r:Rd P n f.type encA wfA) (rs:VH P n fs (off+sz) total encB wfB):VH P n (f::fs) off total (fun z:α×β=>encA z.1++encB z.2) (fun z=>wfA z.1∧wfB z.2):=by
 refine⟨?_⟩
 intro H enc w sp held fuel cs xs hf hl h
 simp only [List.mapM_cons,Option.bind_eq_bind,Option.bind_eq_some_iff] at h
 obtain⟨x,h1,ys,h2,_⟩:=h
 obtain⟨a,wa,ra⟩:=r.get hf h1
 obtain⟨b,wb,rb⟩:=rs.get hf hl h2
 refine⟨(a,b),⟨wa,wb⟩,?_⟩
 rw [ho,hs] at ra
 have:cs.drop off=(cs.drop off).take sz++cs.drop (off+sz):=by rw [←List.drop_drop,List.take_append_drop]
 rw [this]
 exact ra.append rb
theorem Rd.struct {P:Program}{n:Nat}{t:TypeId}{fs:Array Field}{α:Type}{encA:α→List kS}{wf:α→Prop}{total:Nat}(ht:P.underlying t=some (.struct fs)) (hc:P.cellsOf t=total)
  (r:VH P n fs.toList 0 total encA wf):Rd P (n+1) t encA wf:=by
 refine⟨?_⟩
 intro H enc w sp held fuel cs x hf h
 cases fuel with
 | zero=>simp [DataW.trod] at h
 | succ m =>
  unfold DataW.trod at h
  rw [ht] at h
  split at h <;> try (simp at *; done)
  rename_i fs' cs' hu
  cases hu
  split at h
  ·rename_i hlen
   simp only [Option.map_eq_some_iff] at h
   obtain⟨xs,h1,_⟩:=h
   obtain⟨a,wa,ra⟩:=r.get (by omega) (by rw [hlen,hc]) h1
   exact⟨a,wa,by simpa using ra⟩
  ·cases h
theorem Rd.to {P:Program}{n:Nat}{t:TypeId}{α β:Type}{encA:α→List kS}{wfA:α→Prop}{encB:β→List kS}{wfB:β→Prop}(r:Rd P n t encA wfA) (g:α→β) (he:∀a,encB (g a)=encA a) (hw:∀a,wfA a→wfB (g a)):Rd P n t encB wfB:=by
 refine⟨?_⟩
 intro H enc w sp held fuel cs x hf h
 obtain⟨a,wa,ra⟩:=r.get hf h
 exact⟨g a,hw a wa,by rw [he]; exact ra⟩
theorem Rd.mono {P:Program}{n m:Nat}{t:TypeId}{α:Type}{encA:α→List kS}{wfA:α→Prop}(hnm:m≤n) (r:Rd P n t encA wfA):Rd P m t encA wfA:=by
 refine⟨?_⟩
 intro H enc w sp held fuel cs x hf h
 exact r.get (by omega) h
theorem Rd.arg {P:Program}{t:TypeId}{α:Type}{encA:α→kS}{wf:α→Prop}(r:∀n,Rd P n t (fun a=>[encA a]) wf) {H:Type}{enc:TypeId×Value→H}{w:World}{sp:Nat→Bool}{held:Bool}{v:Value}{d:DataW H}{ps:List MemPlace}
  (hv:∀C,v≠.agg C) (h:DataW.Trod enc P w 0 sp held t v d ps):∃a,wf a∧l_ (gh w) [] (encA a) v:=by
 obtain⟨fuel,hf⟩:=h
 obtain⟨a,wa,ra⟩:=(r fuel).get (Nat.le_refl _) hf
 refine⟨a,wa,.p _ _ ?_⟩
 have:=(ra.2 0 _ rfl).2
 have hc:v.cells=#[v]:=by cases v <;> simp_all [Value.cells]
 rw [hc] at this
 simpa using this
theorem Rd.am5 {P:Program}{t:TypeId}{α:Type}{encA:α→List kS}{wf:α→Prop}(r:∀n,Rd P n t encA wf) {H:Type}{enc:TypeId×Value→H}{w:World}{sp:Nat→Bool}{held:Bool}{v:Value}{d:DataW H}{ps:List MemPlace}
  (hv:∃C,v=.agg C) (h:DataW.Trod enc P w 0 sp held t v d ps):∃a,wf a∧l_ (gh w) [] (.agg (encA a)) v:=by
 obtain⟨fuel,hf⟩:=h
 obtain⟨a,wa,ra⟩:=(r fuel).get (Nat.le_refl _) hf
 obtain⟨C,rfl⟩:=hv
 refine⟨a,wa,.p _ _ (.agg _ _ (by simpa [Value.cells] using ra.1) fun i v hv=>?_)⟩
 have:=(ra.2 i v hv).2
 rw [List.getD_eq_getElem?_getD] at this
 rw [Array.getD_eq_getD_getElem?]
 simpa [Value.cells] using this
end Hk


namespace Hk
open Go
attribute [simp] Option.bind_some Option.bind_none
theorem AZ {d:Nat}:pG none d=some d:=(rfl)
theorem amZ {k:IntKind}{n d:Nat}:pG (some (.int k (n:Int))) d=some n:=by simp [pG]
@[congr] theorem auB {α β:Type}{x x':Option α}{f:α→Option β}(h:x=x'):x.bind f=x'.bind f:=by rw [h]
@[congr] theorem afG {x x':Option (nZ×kU)}{f g:kS→kU→Option R}(h:x=x'):lL x f g=lL x' f g:=by rw [h]
@[congr] theorem akN {x x':Option (kS×kU)}{f:kS→kU→Option R}(h:x=x'):lK x f=lK x' f:=by rw [h]
@[congr] theorem am0 {x x':kS}{t e:Option R}(h:x=x'):lP x t e=lP x' t e:=by rw [h]
@[congr] theorem aeE {w:Bool}{x x':kS}{t e:Option R}(h:x=x'):kT w x t e=kT w x' t e:=by rw [h]
@[congr] theorem alX {x x':Ex}{t:Option R}{e:Ex→Option R}(h:x=x'):Ex.mC x t e=Ex.mC x' t e:=by rw [h]
@[congr] theorem afT {i:Nat}{x x':Ex}{t:Option R}{e:Ex→Option R}(h:x=x'):Ex.inBlock i x t e=Ex.inBlock i x' t e:=by rw [h]
@[congr] theorem ayE {x x':Ex}{t:Option R}(h:x=x'):Ex.uO x t=Ex.uO x' t:=by rw [h]
@[congr] theorem auK {x x':Ex}{t:Option (nZ×kU)}{tp:kS→Option (nZ×kU)}(h:x=x'):Ex.SA x t tp=Ex.SA x' t tp:=by rw [h]
@[congr] theorem auI {x x':Ex}{t:Option (nZ×kU)}(h:x=x'):Ex.nK x t=Ex.nK x' t:=by rw [h]
@[congr] theorem auG {α:Type}{x x':Bool}{t e:α}(h:x=x'):cond x t e=cond x' t e:=by rw [h]
@[congr] theorem auN {f g:kS→kU→Option R}{x x':R}(h:x=x'):kZ f g x=kZ f g x':=by rw [h]
section
variable {k k':IntKind}{a b:Int}{x y:Bool}{s t:List UInt8}{v w:kS}{h:kU}{m:Nat}
@[simp] theorem avZ:lE .add (.int k a) (.int k b)=some (.int k (k.wrap (a+b))):=by simp [lE]
@[simp] theorem YP:lE .sub (.int k a) (.int k b)=some (.int k (k.wrap (a - b))):=by simp [lE]
@[simp] theorem YN:lE .mul (.int k a) (.int k b)=some (.int k (k.wrap (a * b))):=by simp [lE]
@[simp] theorem YM:lE .eql (.int k a) (.int k b)=some (.bool (decide (a=b))):=by simp [lE]; rfl
@[simp] theorem YO:lE .neq (.int k a) (.int k b)=some (.bool (!decide (a=b))):=by simp [lE,bne]; rfl
@[simp] theorem J_:lE .lss (.int k a) (.int k b)=some (.bool (decide (a < b))):=by simp [lE]
@[simp] theorem av3:lE .leq (.int k a) (.int k b)=some (.bool (decide (a≤b))):=by simp [lE]
@[simp] theorem av1:lE .gtr (.int k a) (.int k b)=some (.bool (decide (b < a))):=by simp [lE]
@[simp] theorem av0:lE .geq (.int k a) (.int k b)=some (.bool (decide (b≤a))):=by simp [lE]
@[simp] theorem atV:lE .add (.str s) (.str t)=if s.length+t.length≤4611686018427387904 then some (.str (s++t)) else none:=(rfl)
@[simp] theorem atW:lE .eql (.str s) (.str t)=some (.bool (decide (s=t))):=by
 have:(s == t)=decide (s=t):=by by_cases h:s=t <;> simp [h]
 simp [lE,this]
@[simp] theorem atX:lE .neq (.str s) (.str t)=some (.bool (!decide (s=t))):=by
 have:(s == t)=decide (s=t):=by by_cases h:s=t <;> simp [h]
 simp [lE,this]
@[simp] theorem atT:J7 .eql (.bool x) (.bool y)=some (.bool (decide (x=y))):=by cases x <;> cases y <;> rfl
@[simp] theorem atU:J7 .neq (.bool x) (.bool y)=some (.bool (!decide (x=y))):=by cases x <;> cases y <;> rfl
@[simp] theorem azM:xZ .not (.bool x)=some (.bool (!x)):=(rfl)
@[simp] theorem ae8:xZ .neg (.int k a)=some (.int k (k.wrap (0 - a))):=(rfl)
@[simp] theorem vC:rR k (.int k' a)=some (.int k (k.wrap a)):=(rfl)
@[simp] theorem am4:mA (.bool x) v w=some (bif x then v else w):=(rfl)
@[simp] theorem at4:xO (.int k a) (.int k' b)=some (.int k (min a b)):=by
 simp only [xO,Option.some.injEq,kS.int.injEq,true_and]
 by_cases h:b < a <;> simp [h] <;> omega
@[simp] theorem at3:Ay (.int k a) (.int k' b)=some (.int k (max a b)):=by
 simp only [Ay,Option.some.injEq,kS.int.injEq,true_and]
 by_cases h:b > a <;> simp [h] <;> omega
@[simp] theorem ae0 {rows:List (List kS)}{t:Tok}:lS (.slice rows t)=some (.int .i64 rows.length):=(rfl)
@[simp] theorem akC:Cn (.str s)=some (.int .i64 s.length):=(rfl)
@[simp] theorem lQ {t e:Option R}:lP (.bool x) t e=bif x then t else e:=(rfl)
@[simp] theorem lF {run skip:Option R}:kT true (.bool x) run skip=bif x then run else skip:=(rfl)
@[simp] theorem k9 {run skip:Option R}:kT false (.bool x) run skip=bif x then skip else run:=(rfl)
@[simp] theorem Zw {g:Bool}{run skip:Option R}:kT g (.tuple []) run skip=skip:=(rfl)
@[simp] theorem akX {kv kp:kS→kU→Option R}:kZ kv kp (.normal,[v],h)=kv v h:=(rfl)
@[simp] theorem aBw:kY v h=some (.normal,[v],h):=(rfl)
@[simp] theorem akM {kv kp:kS→kU→Option R}:lL (some (.ret v,h)) kv kp=kv v h:=(rfl)
@[simp] theorem akO {kv:kS→kU→Option R}:lK (some (v,h)) kv=kv v h:=(rfl)
@[simp] theorem qN {kn:Option R}{ke:Ex→Option R}:Ex.mC .normal kn ke=kn:=(rfl)
@[simp] theorem atE {kn:Option R}{ke:Ex→Option R}:Ex.mC .ret kn ke=ke .ret:=(rfl)
@[simp] theorem RB {i:Nat}{kn:Option R}{ke:Ex→Option R}:Ex.mC (.exit i) kn ke=ke (.exit i):=(rfl)
@[simp] theorem arK {kn:Option R}:Ex.uO .normal kn=kn:=(rfl)
@[simp] theorem ZA {i:Nat}{kn:Option R}{ke:Ex→Option R}:Ex.inBlock i .normal kn ke=kn:=(rfl)
@[simp] theorem ak5 {i:Nat}{kn:Option R}{ke:Ex→Option R}:Ex.inBlock i .ret kn ke=ke .ret:=(rfl)
@[simp] theorem Ow {i j:Nat}{kn:Option R}{ke:Ex→Option R}:Ex.inBlock i (.exit j) kn ke=bif j == i then kn else ke (.exit j):=(rfl)
@[simp] theorem akU {x:Option (nZ×kU)}:Ex.nK .normal x=x:=(rfl)
@[simp] theorem akL {v:kS}{h:kU}{kv kp:kS→kU→Option R}:lL (some (.pan v,h)) kv kp=kp v h:=(rfl)
@[simp] theorem axI {v:kS}{l:List kS}{h:kU}{kv kp:kS→kU→Option R}:kZ kv kp (.pan v,l,h)=kp v h:=by cases l <;> rfl
@[simp] theorem az0 {v:kS}{h:kU}:wS v h=some (.pan v,[],h):=(rfl)
@[simp] theorem atD {v:kS}{kn:Option R}{ke:Ex→Option R}:Ex.mC (.pan v) kn ke=ke (.pan v):=(rfl)
@[simp] theorem ak4 {id:Nat}{v:kS}{kn:Option R}{ke:Ex→Option R}:Ex.inBlock id (.pan v) kn ke=ke (.pan v):=(rfl)
@[simp] theorem az8 {v:kS}{kn:Option R}:Ex.uO (.pan v) kn=none:=(rfl)
@[simp] theorem akW {x:Option (nZ×kU)}{xp:kS→Option (nZ×kU)}:Ex.SA .normal x xp=x:=(rfl)
@[simp] theorem axG {x:Option (nZ×kU)}{xp:kS→Option (nZ×kU)}:Ex.SA .ret x xp=x:=(rfl)
@[simp] theorem axF {v:kS}{x:Option (nZ×kU)}{xp:kS→Option (nZ×kU)}:Ex.SA (.pan v) x xp=xp v:=(rfl)
@[simp] theorem akT {x:Option R}{xp:kS→Option R}:Ex.Sz .normal x xp=x:=(rfl)
@[simp] theorem axD {x:Option R}{xp:kS→Option R}:Ex.Sz .ret x xp=x:=(rfl)
@[simp] theorem axC {v:kS}{x:Option R}{xp:kS→Option R}:Ex.Sz (.pan v) x xp=xp v:=(rfl)
@[simp] theorem akV {x:Option kU}:Ex.Zj .normal x=x:=(rfl)
@[simp] theorem axE {x:Option kU}:Ex.Zj .ret x=x:=(rfl)
@[simp] theorem alN {x:Option R}:Ex.Vi .ret x=x:=(rfl)
@[simp] theorem Yb {t:Nat}{z:kS}:A4 t z .niliface=some (.tuple [z,.bool false]):=(rfl)
@[simp] theorem UX {t t':Nat}{z w:kS}:A4 t z (.iface t' w)=some (bif t' == t then .tuple [w,.bool true] else .tuple [z,.bool false]):=(rfl)
@[congr] theorem auH {x x':Ex}{t:Option R}{tp:kS→Option R}(h:x=x'):Ex.Sz x t tp=Ex.Sz x' t tp:=by rw [h]
@[congr] theorem auJ {x x':Ex}{t:Option kU}(h:x=x'):Ex.Zj x t=Ex.Zj x' t:=by rw [h]
@[congr] theorem ayB {α β:Type}{x x':Option α}{f:α→β}(h:x=x'):x.map f=x'.map f:=by rw [h]
@[simp] theorem Zi {x:Option (nZ×kU)}:Ex.nK .ret x=x:=(rfl)
@[simp] theorem aAj:kS.oL m h (.int k a)=.int k a:=(rfl)
@[simp] theorem ay1:kS.oL m h (.bool x)=.bool x:=(rfl)
@[simp] theorem aAn:kS.oL m h (.str s)=.str s:=(rfl)
@[simp] theorem avC {rows:List (List kS)}:kS.oL m h (.slice rows .no)=.slice rows .no:=(rfl)
@[simp] theorem aAl:kS.oL m h (.slice [] .nil)=.slice [] .nil:=(rfl)
@[simp] theorem avD:kS.oL m h (.tuple [])=.tuple []:=(rfl)
@[simp] theorem ay2:kS.oL m h .junk=.junk:=(rfl)
@[simp] theorem aAm {rows:List (List kS)}{id:Nat}:kS.oL m h (.slice rows (.own id))=bif decide (id < m) then .slice rows (.own id) else .slice rows .no:=(rfl)
@[simp] theorem aAi {cs:List kS}:kS.oL m h (.agg cs)=.agg (cs.map (·.oH m h)):=(rfl)
@[simp] theorem ayW:kS.oH m h (.int k a)=.int k a:=(rfl)
@[simp] theorem au7:kS.oH m h (.bool x)=.bool x:=(rfl)
@[simp] theorem ayZ:kS.oH m h (.str s)=.str s:=(rfl)
@[simp] theorem asY {rows:List (List kS)}:kS.oH m h (.slice rows .no)=.slice rows .no:=(rfl)
@[simp] theorem ayY:kS.oH m h (.slice [] .nil)=.slice [] .nil:=(rfl)
@[simp] theorem acD {rows:List (List kS)}{id:Nat}:kS.oH m h (.slice rows (.own id))=bif decide (id < m) then .slice rows (.own id) else .slice rows .no:=(rfl)
@[simp] theorem as0 {v w:kS}:kS.oL m h (.tuple [v,w])=.tuple [(match v with | .agg cs=>.agg (cs.map (·.oH m h)) | v=>v.oH m h),(match w with | .agg cs=>.agg (cs.map (·.oH m h)) | v=>v.oH m h)]:=(rfl)
@[simp] theorem avI:kS.k8 (.int k a)=.int k a:=(rfl)
@[simp] theorem atJ:kS.k8 (.bool x)=.bool x:=(rfl)
@[simp] theorem avL:kS.k8 (.str s)=.str s:=(rfl)
@[simp] theorem al3 {rows:List (List kS)}{t:Tok}:kS.k8 (.slice rows t)=.slice rows .no:=(rfl)
@[simp] theorem al4:kS.k8 (.tuple [])=.tuple []:=(rfl)
@[simp] theorem EM {cs:List kS}:kS.k8 (.agg cs)=.agg (cs.map kS.tT):=(rfl)
@[simp] theorem atH:kS.tT (.int k a)=.int k a:=(rfl)
@[simp] theorem al2:kS.tT (.bool x)=.bool x:=(rfl)
@[simp] theorem atI:kS.tT (.str s)=.str s:=(rfl)
@[simp] theorem ajT {rows:List (List kS)}{t:Tok}:kS.tT (.slice rows t)=.slice rows .no:=(rfl)
@[simp] theorem ajU {v w:kS}:kS.k8 (.tuple [v,w])=.tuple [(match v with | .agg cs=>.agg (cs.map kS.tT) | v=>v.tT),(match w with | .agg cs=>.agg (cs.map kS.tT) | v=>v.tT)]:=(rfl)
@[simp] theorem avG:mS m []=some []:=by simp [mS,nW]
theorem Uq {bs:kU}:mS 0 bs=some []:=by simp [mS,nW]
@[simp] theorem atF {bs:kU}:mS 0 bs=some []:=Uq
@[simp] theorem afO {m:Nat}{h:kU}:Ex.oL m h .normal=.normal:=(rfl)
@[simp] theorem auM {m:Nat}{h:kU}:Ex.oL m h .ret=.ret:=(rfl)
@[simp] theorem aoA {m:Nat}{h:kU}{id:Nat}:Ex.oL m h (.exit id)=.exit id:=(rfl)
@[simp] theorem auL {m:Nat}{h:kU}{v:kS}:Ex.oL m h (.pan v)=.pan (v.oL m h):=(rfl)
theorem Am {e:Ex}{vs:List kS}:lJ 0 e vs h=some (e.oL 0 h,vs.map (·.oL 0 h),[]):=by simp [lJ]
theorem auO:afP 0 v h=some (.pan (v.oL 0 h).k8,[]):=by simp [afP]
theorem lM:mX 0 v h=some (.ret (v.oL 0 h).k8,[]):=by simp [mX]
def rP (h:kU) (id:Nat):Bool:=match h[id]? with
 | some (.front 0 0)=>true
 | _=>false
@[simp] theorem afX {r:kU}:rP (.front 0 0::r) 0=true:=(rfl)
@[simp] theorem aeF {cs:List kS}{r:kU}:rP (.cells cs::r) 0=false:=(rfl)
@[simp] theorem aeG {n sz:Nat}{r:kU}:rP (.front (n+1) sz::r) 0=false:=(rfl)
@[simp] theorem afW {b:mI}{r:kU}{n:Nat}:rP (b::r) (n+1)=rP r n:=(rfl)
@[simp] theorem ak0 {cs:List kS}{r:kU}:nC (.cells cs::r) 0=some cs:=(rfl)
@[simp] theorem akZ {b:mI}{r:kU}{n:Nat}:nC (b::r) (n+1)=nC r n:=(rfl)
@[simp] theorem lH {n id off:Nat}:kW false n h (.ptr id off)=(nC h id).bind fun cs=>cs[off]?:=by
 simp only [kW,apart,cond_false]; cases nC h id <;> rfl
@[simp] theorem lV {n id off:Nat}:kW true n h (.ptr id off)=(nC h id).bind fun cs=>if off+n≤cs.length then some (.agg ((cs.drop off).take n)) else none:=by
 simp only [kW,apart,cond_true]; cases nC h id <;> rfl
@[simp] theorem lY {n id off:Nat}:lT n h (.ptr id off) v=(nC h id).bind fun cs=>if v.cells.length=n∧off+n≤cs.length∧v.cells.all kS.mV then some (h.set id (.cells (putCells cs off (pV h (cs.drop off) v.cells)))) else none:=by
 simp only [lT]; cases nC h id <;> rfl
@[simp] theorem alA {vs:List kS}:pV h [] vs=vs:=(rfl)
@[simp] theorem Cz {os:List kS}:pV h os []=[]:=by cases os <;> rfl
@[simp] theorem Af {o:kS}{os vs:List kS}:pV h (o::os) (v::vs)=qI h o v::pV h os vs:=(rfl)
@[simp] theorem auR {o:kS}:qI h o (.int k a)=.int k a:=(rfl)
@[simp] theorem SZ {o:kS}:qI h o (.bool x)=.bool x:=(rfl)
@[simp] theorem auV {o:kS}:qI h o (.str s)=.str s:=(rfl)
@[simp] theorem auS {o:kS}{i:Nat}:qI h o (.map i)=.map i:=(rfl)
@[simp] theorem auU {o:kS}{i j:Nat}:qI h o (.ptr i j)=.ptr i j:=(rfl)
@[simp] theorem axO {o:kS}{rows:List (List kS)}:qI h o (.slice rows .no)=.slice rows .no:=by cases rows <;> rfl
@[simp] theorem auT {o:kS}{rows:List (List kS)}{id:Nat}:qI h o (.slice rows (.own id))=.slice rows (.own id):=by cases rows <;> rfl
@[simp] theorem Wi {id:Nat}:qI h (.slice [] (.own id)) (.slice [] .nil)=bif rP h id then .slice [] (.own id) else .slice [] .nil:=by
 have e:qI h (.slice [] (.own id)) (.slice [] .nil)=match h[id]? with | some (.front 0 0)=>.slice [] (.own id) | _=>.slice [] .nil:=(rfl)
 rw [e]
 unfold rP
 split <;> rfl
@[simp] theorem aoP:qI h (.slice [] .nil) (.slice [] .nil)=.slice [] .nil:=(rfl)
@[simp] theorem S0 {rows:List (List kS)}:qI h (.slice rows .no) (.slice [] .nil)=.slice [] .nil:=by cases rows <;> rfl
theorem Ox:∀{vs os:List kS},(∀c∈vs,c.isNil=false)→pV h os vs=vs
 | [],_,_=>by simp
 | v::vs,[],_=>rfl
 | v::vs,o::os,hn=>by
  have h1:=hn v (by simp)
  simp only [Af,qI,h1,cond_false]
  rw [Ox fun c hc=>hn c (by simp [hc])]
@[simp] theorem N_ {id o off:Nat}:kV off (.ptr id o)=some (.ptr id (o+off)):=(rfl)
@[simp] theorem ad6 {cs:List kS}{off:Nat}:kV off (.pptr cs)=some (.pptr (cs.drop off)):=(rfl)
@[simp] theorem aeB {id off:Nat}:lX (.ptr id off)=some (.ptr id off):=(rfl)
@[simp] theorem YV {cs:List kS}:lX (.pptr cs)=some (.pptr cs):=(rfl)
@[simp] theorem V7:kS.cells (.int k a)=[.int k a]:=(rfl)
@[simp] theorem St:kS.cells (.bool x)=[.bool x]:=(rfl)
@[simp] theorem auF:kS.cells (.str s)=[.str s]:=(rfl)
@[simp] theorem II {rows:List (List kS)}{t:Tok}:kS.cells (.slice rows t)=[.slice rows t]:=(rfl)
@[simp] theorem auD {cs:List kS}:kS.cells (.agg cs)=cs:=(rfl)
@[simp] theorem auE {i:Nat}:kS.cells (.map i)=[.map i]:=(rfl)
@[simp] theorem an3:kS.mV (.int k a)=true:=(rfl)
@[simp] theorem akR:kS.mV (.bool x)=true:=(rfl)
@[simp] theorem an5:kS.mV (.str s)=true:=(rfl)
@[simp] theorem Oh {rows:List (List kS)}{t:Tok}:kS.mV (.slice rows t)=true:=(rfl)
@[simp] theorem an4 {i:Nat}:kS.mV (.map i)=true:=(rfl)
@[simp] theorem aoL:kS.pP (.int k a)=false:=(rfl)
@[simp] theorem ak6:kS.pP (.bool x)=false:=(rfl)
@[simp] theorem aoN:kS.pP (.str s)=false:=(rfl)
@[simp] theorem afY {rows:List (List kS)}{t:Tok}:kS.pP (.slice rows t)=false:=(rfl)
@[simp] theorem aoK {cs:List kS}:kS.pP (.agg cs)=false:=(rfl)
@[simp] theorem aoM {i:Nat}:kS.pP (.map i)=false:=(rfl)
@[simp] theorem ayX {i:Nat}:kS.oH m h (.map i)=bif decide (i < m) then .map i else .junk:=(rfl)
@[simp] theorem aAk {i:Nat}:kS.oL m h (.map i)=bif decide (i < m) then .map i else .junk:=(rfl)
@[simp] theorem ai6 {i o:Nat}:kS.oL m h (.ptr i o)=kS.oH m h (.ptr i o):=(rfl)
theorem lW {i o:Nat}(hi:i < m):kS.oH m h (.ptr i o)=.ptr i o:=by simp [kS.oH,hi]
theorem CL {i o:Nat}(hi:i < m):kS.oL m h (.ptr i o)=.ptr i o:=by rw [ai6,lW hi]
@[simp] theorem avK {i o:Nat}:kS.k8 (.ptr i o)=.ptr i o:=(rfl)
@[simp] theorem avJ {i:Nat}:kS.k8 (.map i)=.map i:=(rfl)
@[simp] theorem Px:m_ m h []=some []:=(rfl)
@[simp] theorem qM {cs:List kS}:m_ m h (v::cs)=bif (v.oH m h).mV then(m_ m h cs).map (v.oH m h::·) else none:=by
 simp only [m_]; cases m_ m h cs <;> rfl
@[simp] theorem Pv {cs:List kS}:oQ m h (.cells cs)=(m_ m h cs).map .cells:=(rfl)
@[simp] theorem Pw {i j:Nat}:oQ m h (.front i j)=some (.front i j):=(rfl)
@[simp] theorem alT:nW m h []=some []:=(rfl)
@[simp] theorem Ak {b:mI}{bs:kU}:nW m h (b::bs)=(oQ m h b).bind fun b'=>(nW m h bs).map (b'::·):=by
 simp only [nW]; cases oQ m h b <;> cases nW m h bs <;> rfl
@[simp] theorem ad9 {i:Nat}:sW (.str s) (.int k (i:Int))=(s[i]?).map fun b=>.int .u8 b.toNat:=by simp [sW]
@[simp] theorem YT:sW (.str s) (.int k 0)=(s[0]?).map fun b=>.int .u8 b.toNat:=by simp [sW]
theorem aeC {lo hi:Option kS}{l u:Nat}(hl:pG lo 0=some l) (hu:pG hi s.length=some u) (h1:l≤u) (h2:u≤s.length):tK (.str s) lo hi=some (.str ((s.drop l).take (u - l))):=by
 simp [tK,hl,hu,h1,h2]
@[simp] theorem YR {i:Nat}{vs:List kS}:lZ i (.tuple vs)=vs[i]?:=(rfl)
end
theorem wrap64 {n:Int}(h1:-9223372036854775808≤n) (h2:n≤9223372036854775807):IntKind.wrap .i64 n=n:=by
 simp [IntKind.wrap,IntKind.signed,IntKind.bits]
 split <;> omega
@[simp] theorem k_ {α:Type}{enc:α→List kS}{sz:Nat}{xs:List α}{t:Tok}{k:IntKind}{i:Nat} :
  kX sz (.slice (xs.map enc) t) (.int k (i:Int))=(xs[i]?).bind fun x=>if (enc x).length=sz then some (.pptr (enc x)) else none:=by
 simp only [kX,Int.natCast_nonneg,if_true,Int.toNat_natCast,List.getElem?_map]
 cases xs[i]? <;> rfl
theorem Oc {sz:Nat}{rows:List (List kS)}{t:Tok}{k:IntKind}{n:Int}:kX sz (.slice rows t) (.int k n)=if 0≤n then(rows[n.toNat]?).bind fun row=>if row.length=sz then some (.pptr row) else none else none:=by
 simp only [kX]
 split
 ·cases rows[n.toNat]? <;> rfl
 ·rfl
@[simp] theorem oF {n:Nat}{h:kU}{cs:List kS}:kW true n h (.pptr cs)=if n≤cs.length then some (.agg (cs.take n)) else none:=by
 simp [kW,apart]
@[simp] theorem p_ {n:Nat}{h:kU}{cs:List kS}:kW false n h (.pptr cs)=cs[0]?:=by
 simp [kW,apart]
theorem at2 {n:Nat}{h:kU}{cs:List kS}(hn:cs.length=n):kW true n h (.pptr cs)=some (.agg cs):=by
 subst hn; simp [kW,apart]
theorem ae4 {α:Type}{enc:α→List kS}{sz:Nat}{xs:List α}{t:Tok}{lo hi:Option kS}{l u:Nat}(hs:∀x,(enc x).length=sz) (hl:pG lo 0=some l) (hu:pG hi xs.length=some u) (h1:l≤u) (h2:u≤xs.length) :
  nX sz (.slice (xs.map enc) t) lo hi=some (.slice (((xs.drop l).take (u - l)).map enc) .no):=by
 have:((xs.map enc).all fun r=>r.length == sz)=true:=by simp [hs]
 simp only [nX,List.length_map,hl,hu,h1,h2,this,and_self,if_true,List.map_take,List.map_drop]
theorem mR {P:Program}{A:Cj}{f:Nat}{args:List kS}{h:kU}{m:Option (nZ×kU)}{r:nZ×kU}(he:qA P A mQ (Ji P A) f args h=m) (hm:m=some r):Ji P A f args h=some r:=Zk (he.trans hm)
theorem mD {A:Cj}{K:lD}{f:Nat}{args:List kS}{h:kU}{v:kS}(hp:A.pure f=true) (hs:args.all (kS.uY 0)=true) (hk:K f args []=some (.ret v,[])):mP A K f args h=some (.ret v,h):=by
 simp [mP,hp,hs,hk,y8]
theorem alC {F:List kS×kU→Option R}{σ:Type}(enc:σ→List kS×kU) (inv:σ→Prop) (μ:σ→Nat) (out:σ→R)
  (h:∀s,inv s→(∃s',F (enc s)=some (.normal,enc s')∧inv s'∧μ s' < μ s∧out s'=out s)∨(F (enc s)=some (out s)∧(out s).1≠.normal)):∀s,inv s→mQ F (enc s)=some (out s):=by
 have key:∀n s,μ s=n→inv s→mQ F (enc s)=some (out s):=by
  intro n
  induction n using Nat.strongRecOn with
  | _ n ih =>
   intro s hn hi
   rw [mW]
   rcases h s hi with ⟨s',e1,e2,e3,e4⟩ | ⟨e1,e2⟩
   ·rw [e1]
    simp only [Option.bind_some,qN]
    rw [ih (μ s') (by omega) s' rfl e2,e4]
   ·rw [e1]
    generalize out s=r at e2
    obtain⟨e,l⟩:=r
    cases e <;> first | exact absurd rfl e2 | rfl
 exact fun s hi=>key (μ s) s rfl hi
end Hk


namespace Hk
open Go
section
variable {k k':IntKind}{a b:Int}{h:kU}{m n id tot off len sz:Nat}{v w:kS}{cs:List kS}
@[simp] theorem ajV:kS.k8 (.vslice id tot off len sz)=.vslice id tot off len sz:=(rfl)
@[simp] theorem atL:kS.k8 (.vptr id tot off)=.vptr id tot off:=(rfl)
@[simp] theorem aeK:kS.tT (.vslice id tot off len sz)=.vslice id tot off len sz:=(rfl)
@[simp] theorem afL:kS.cells (.vslice id tot off len sz)=[.vslice id tot off len sz]:=(rfl)
@[simp] theorem aeD:kS.mV (.vslice id tot off len sz)=true:=(rfl)
@[simp] theorem Su {f:Nat}{x y:List kS}:kS.cells (.func f x y)=[.func f x y]:=(rfl)
@[simp] theorem Qw {f:Nat}{x y:List kS}:kS.mV (.func f x y)=true:=(rfl)
@[simp] theorem aeH:kS.pP (.vslice id tot off len sz)=false:=(rfl)
@[simp] theorem af1 {o:kS}:qI h o (.vslice id tot off len sz)=.vslice id tot off len sz:=(rfl)
theorem tX (hi:id < m):kS.oH m h (.vslice id tot off len sz)=.vslice id tot off len sz:=by simp [kS.oH,hi]
theorem MC:kS.oL m h (.vslice id tot off len sz)=kS.oH m h (.vslice id tot off len sz):=(rfl)
theorem uA (hi:id < m):kS.oL m h (.vslice id tot off len sz)=.vslice id tot off len sz:=by rw [MC,tX hi]
@[simp] theorem aeA:lS (.vslice id tot off len sz)=some (.int .i64 len):=(rfl)
@[simp] theorem Jd {i:Nat}{sz':Nat}:kX sz' (.vslice id tot off len sz) (.int k (i:Int))=if i < len∧sz=sz' then some (.vptr id tot (off+i * sz')) else none:=by
 simp [kX]
theorem qL {i:Int}{sz':Nat}:kX sz' (.vslice id tot off len sz) (.int k i)=if 0≤i∧i < len∧sz=sz' then some (.vptr id tot (off+i.toNat * sz')) else none:=(rfl)
@[simp] theorem ad7 {o:Nat}:kV o (.vptr id tot off)=some (.vptr id tot (off+o)):=(rfl)
@[simp] theorem YW:lX (.vptr id tot off)=some (.vptr id tot off):=(rfl)
@[simp] theorem lG:kW false n h (.vptr id tot off)=(mZ h id tot).bind fun x=>x.2[off]?:=by
 simp only [kW,apart,cond_false]; cases mZ h id tot <;> rfl
@[simp] theorem lN:kW true n h (.vptr id tot off)=(mZ h id tot).bind fun x=>if off+n≤x.2.length then some (.agg ((x.2.drop off).take n)) else none:=by
 simp only [kW,apart,cond_true]; cases mZ h id tot <;> rfl
@[simp] theorem lC:lT n h (.vptr id tot off) v=(mZ h id tot).bind fun x=>if v.cells.length=n∧off+n≤x.2.length∧v.cells.all kS.mV then some (h.set id (.vec tot x.1 (putCells x.2 off v.cells))) else none:=by
 simp only [lT]; cases mZ h id tot <;> rfl
theorem ak2 {r:kU}:mZ (.vec tot sz cs::r) 0 tot=some (sz,cs):=by simp [mZ]
@[simp] theorem afQ {r:kU}{tot':Nat}:mZ (.vec tot' sz cs::r) 0 tot=if tot'=tot then some (sz,cs) else none:=(rfl)
@[simp] theorem ak1 {bl:mI}{r:kU}:mZ (bl::r) (n+1) tot=mZ r n tot:=(rfl)
@[simp] theorem Uf:oQ m h (.vec tot sz cs)=(m_ m h cs).map (.vec tot sz):=(rfl)
@[simp] theorem ae1 {rows:List (List kS)}{t:Tok}:sR sz h (.slice rows t)=if rows.all fun r=>r.length == sz then some rows else none:=(rfl)
@[simp] theorem ae2 {rows:List (List kS)}{t:Tok}:xY sz h (.slice rows t)=sR sz h (.slice rows t):=by
 unfold xY
 split
 ·rename_i r hr; rw [hr]
 ·rename_i hr; rw [hr]; rfl
@[simp] theorem ad8 {rows:List (List kS)}{t:Tok}:oZ h (.slice rows t)=some (.slice rows t,h):=(rfl)
@[simp] theorem akA:oZ h (.int k a)=some (.int k a,h):=(rfl)
@[simp] theorem aeZ {x:Bool}:oZ h (.bool x)=some (.bool x,h):=(rfl)
@[simp] theorem Dn:oZ h (.agg cs)=some (.agg cs,h):=(rfl)
theorem yP {l:List kS}(hl:∀c∈l,∃k n,c=.int k n):m_ m h l=some l:=by
 induction l with
 | nil=>rfl
 | cons c r ih =>
  obtain⟨k,n,rfl⟩:=hl c (by simp)
  rw [qM,ih fun c hc=>hl c (by simp [hc])]
  rfl
theorem CI {l:List kS}(hl:∀c∈l,∃k n,c=.int k n):nB l=some l:=by
 induction l with
 | nil=>rfl
 | cons c r ih =>
  obtain⟨k,n,rfl⟩:=hl c (by simp)
  simp only [nB,ih fun c hc=>hl c (by simp [hc]),kS.uV]
theorem AS:∀{l:List kS},rowsOf l.length 1 l=l.map fun c=>[c]
 | []=>rfl
 | c::r=>by simp [rowsOf,AS (l:=r)]
end
end Hk
