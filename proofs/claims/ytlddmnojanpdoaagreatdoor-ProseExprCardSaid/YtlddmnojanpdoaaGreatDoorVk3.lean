/-
  The texts Vk.Fn, Vk.Lim, Vk.Front, Vk.Simp, Vk.Simp2, Vk.Fns, one behind another. No conditions.
-/
import Derived.Test.YtlddmnojanpdoaaGreatDoorVk2
import Derived.OpenShut
import Derived.WideKeyArgs
import Derived.Test.YtlddmnojanpdoaaGreatDoorVk1
set_option linter.unusedVariables false
set_option linter.unusedSimpArgs false
set_option linter.all false
open Array renaming getD_eq_getD_getElem? → ab9, getElem?_eq_getElem → al6
open Bool renaming and_eq_true → ad0
open List renaming append_nil → am4, getD_eq_getElem?_getD → ae4, getElem?_append_left → ae9, getElem?_append_right → ae0, getElem?_eq_some_iff → aa8, getElem?_map → af6, length_map → al2
open Nat renaming le_refl → ac8
open Option renaming bind_eq_some_iff → ab4, bind_some → ae3, map_eq_some_iff → ac9
open Option.some renaming injEq → ab1
open Prod.mk renaming injEq → ae5
open UInt8 renaming ofNat → am7
namespace Hk
section
open Go Go.RowKit
section
variable {P:Program}{A:AO}{K:kX}{lp:T4}{G:Gh}{h:kL}{w:World}
theorem L2 {f:Nat}{v:kH}{V:Value}{r:nH}{h' h2:kL}{G':Gh}{w':World}(hb:finish A f h.length v h'=some (r,h2)) (x:Ext G h w G' h' w') (i:Inv G' h' w') (hv:lE G' h' v V) :
  uS G h w r h2 (.returned V) w':=by
 unfold finish at hb
 cases he:A.esc f with
 | true =>
  rw [he] at hb; cases hb
  exact⟨G',x,i,V,rfl,hv⟩
 | false =>
  rw [he] at hb
  simp only [cond_false] at hb
  cases hg:A.grow f with
  | true =>
   rw [hg] at hb
   simp only [cond_true,L1,ac9] at hb
   obtain⟨h3,ht,hb⟩:=hb
   obtain⟨G3,i3,x3,_,hrel,_⟩:=AM x i ht
   cases hb
   exact⟨G3,x3,i3,V,rfl,hrel _ _ hv⟩
  | false =>
   rw [hg] at hb
   cases hz:A.frr f with
   | true =>
    rw [hz] at hb
    simp only [cond_true,cond_false,apB] at hb
    obtain⟨y,hy,hb⟩:=ab4.1 hb
    obtain⟨G1,i1,x1,r1⟩:=Bj i hy hv
    simp only [lZ,ac9] at hb
    obtain⟨h3,ht,hb⟩:=hb
    obtain⟨G3,i3,x3,_,hrel,_⟩:=AM (x.trans x1) i1 ht
    cases hb
    exact⟨G3,x3,i3,V,rfl,BS (hrel _ _ r1)⟩
   | false =>
   rw [hz] at hb
   simp only [cond_false,lZ,ac9] at hb
   obtain⟨h3,ht,hb⟩:=hb
   obtain⟨G3,i3,x3,_,hrel,_⟩:=AM x i ht
   cases hb
   exact⟨G3,x3,i3,V,rfl,BS (hrel _ _ hv)⟩
theorem Bk {ρ:List kH}{x:nH×kL}:∀{l:List ResultVar}{k:List kH→Option (nH×kL)},Av P ρ h l k=some x→∃vs,l.mapM (AX P ρ h)=some vs∧k vs=some x
 | [],k,hb=>⟨[],rfl,hb⟩
 | .tmp t::l,k,hb=>by
  obtain⟨vs,h1,h2⟩:=Bk (l:=l) hb
  exact⟨ρ.getD t .junk::vs,by simp [List.mapM_cons,AX,h1],h2⟩
 | .cell a t::l,k,hb=>by
  simp only [Av] at hb
  split at hb
  ·rename_i g n hg hn
   obtain⟨v,hv,hb⟩:=ab4.1 hb
   obtain⟨vs,h1,h2⟩:=Bk (l:=l) hb
   exact⟨v::vs,by simp only [ae4] at hv; simp [List.mapM_cons,AX,hg,hn,hv,h1],h2⟩
  ·cases hb
theorem LZ {f:Nat}{fn:Func}{c:Code}{args:List kH}{X:Array Value}{r:nH}{h':kL}(hm:P.follows .mixedOrders=true) (hX:yQ P A) (hK:vF P A K) (hlp:Uj lp)
  (hf:P.funcs[f]?=some fn) (hc:fn.body=some c) (hb:LX P A K lp f fn c args h=some (r,h')) (i:Inv G h w) (gl:sV A G h w) (hx:Cr G h args X) (hn:args.length≤fn.ntmps) :
  Calls P f X w (uS G h w r h'):=by
 unfold LX at hb
 obtain⟨r0,hr0,hend⟩:=ab4.1 hb
 cases hd:A.dfr f with
 | true=>rw [hd] at hr0; cases hr0
 | false =>
 rw [hd] at hr0
 simp only [EN] at hr0
 refine calls_of_wp hf hc ?_
 refine Iw (cx:={ P,A,K,lp,n:=fn.ntmps,full:=2 ^ fn.ntmps - 1,pan:=A.pan f,vec:=A.al3 f,frz:=A.frz f,vlit:=A.XB f,vmk:=A.vmk f,jt:=A.jt f,lkp:=A.lkp f,rb:=A.rb f,frl:=A.frl f,tb:=A.tb f }) hm hX hK hlp c _ _ h _ _ r0 G w _ _ (vZ c) hr0 i gl (OF hx hn) (by simp; omega) ?_
 have ret:∀(e:Ex) (ρ':List kH) (h1:kL) (G':Gh) (w':World) (a':Act),(e=.normal∨e=.ret)→NM P A f fn h.length e (unpack fn.ntmps (Ck fn) (pack (Ck fn) ρ')) h1=some (r,h')→Ext G h w G' h1 w'→Inv G' h1 w'→qD (fun a=>a.defers=[]) G' h1 ρ' a'→ρ'.length=fn.ntmps →
   a'.defers=[]∧∃v,(results fn a'.tmps).run P w'=.ok v w'∧uS G h w r h' (.returned v) w':=by
  intro e ρ' h1 G' w' a' he hend h3 h4 s hn'
  have s':=s.pack (L:=Ck fn) hn'
  have hend':Av P (unpack fn.ntmps (Ck fn) (pack (Ck fn) ρ')) h1 fn.results.toList (fun vs=>finish A f h.length (oneOf vs) h1)=some (r,h'):=by
   unfold NM at hend
   cases hp:A.pan f <;> rw [hp] at hend <;> rcases he with rfl | rfl <;> exact hend
  obtain⟨vs,hvs,hend'⟩:=Bk hend'
  obtain⟨V,hV,hrel⟩:=Kq hvs h4 s'
  exact⟨s.df,V,hV,L2 hend' h3 h4 hrel⟩
 refine⟨fun ρ' h1 G' w' a' h2 h3 h4 h5 h6=>?_,fun e ρ' h1 G' w' a' h2 h3 h4 h5 h6=>?_,fun v ρ' h1 G' w' a' V h2 h3 h4 h5 h6=>?_⟩
 ·cases h2
  exact ret _ ρ' h1 G' w' a' (.inl rfl) hend h3 h4 h5 h6
 ·cases h2
  cases e with
  | ret=>exact ret _ ρ' h1 G' w' a' (.inr rfl) hend h3 h4 h5 h6
  | exit id=>unfold NM at hend; cases hp:A.pan f <;> rw [hp] at hend <;> cases hend
  | _=>trivial
 ·cases h2
  unfold NM at hend
  cases hp:A.pan f with
  | false=>rw [hp] at hend; cases hend
  | true =>
   rw [hp] at hend
   simp only [cond_true,Ex.wM,tF,ac9] at hend
   obtain⟨h3',ht,hend⟩:=hend
   obtain⟨G3,i3,x3,_,hrel,_⟩:=AM h3 h4 ht
   cases hend
   exact⟨h6,G3,x3,i3,V,rfl,BS (hrel _ _ h5)⟩
theorem SP (i:Inv G h w) {id:Nat}{cs:List kH}(hg:ahQ h id=some cs):∃C e,w.heap[G.nW id]?=some (.cells C e (0,0))∧C.size=cs.length ∧
  ∀(j:Nat) (v:kH),cs[j]?=some v→v.lY=true∧lE G h v (C.getD j undef):=by
 unfold ahQ at hg
 split at hg
 ·rename_i cs' hid
  cases hg
  obtain⟨C,e,h1,h2,h3,h4⟩:=i.nW id _ hid
  exact⟨C,e,h1,h2,h4⟩
 ·rename_i t cs' hid
  cases hg
  obtain⟨C,h1,h2,h3,h4⟩:=i.nW id _ hid
  exact⟨C,t,h1,h2,h4⟩
 ·cases hg
theorem DT:∀{rows:List (List kH)}{bs:List UInt8},yJ rows=some bs→rows=bs.map fun b=>[kH.int .u8 (b.toNat:Int)]
 | [],bs,hb=>by simp [yJ] at hb; subst hb; rfl
 | row::r,bs,hb=>by
  unfold yJ at hb
  split at hb
  ·rename_i he; cases he
  ·rename_i n r' he
   simp only [List.cons.injEq] at he
   obtain⟨rfl,rfl⟩:=he
   split at hb
   case isFalse=>cases hb
   rename_i hn
   cases hr:yJ r with
   | none=>rw [hr] at hb; cases hb
   | some bs' =>
    rw [hr] at hb
    cases hb
    rw [DT hr,List.map_cons]
    have:((am7 n.toNat).toNat:Int)=n:=by
     rw [UInt8.toNat_ofNat_of_lt' (by show n.toNat < 256; omega)]; omega
    rw [this]
  ·cases hb
theorem NH (w:World) (g n:Nat) (a:Addr):(w.freeze ⟨g,0,none⟩ n).cell? a=w.cell? a:=by
 unfold World.freeze
 split
 ·rfl
 ·unfold World.cell?
  simp only [Array.getElem?_modify]
  by_cases e:g=a.block
  ·rw [if_pos e]
   cases w.heap[a.block]? with
   | none=>rfl
   | some o=>cases o <;> rfl
  ·rw [if_neg e]
theorem Pm {f e:Nat}{s:kH}{V:Value}{r:nH}{h':kL}{b off:Nat}
  (p2:∀(w:World) (b off:Nat),w.cell? ⟨b,off+1,none⟩=some (.slice none 0 0)→Calls P f #[.pointer (some ⟨b,off,none⟩)] w fun ev w'=>ev=.returned (.string ⟨#[]⟩)∧∃d,w'={ w with drawn:=d })
  (p3:∀(w:World) (b off g cap:Nat) (C:Array Value) (l:List UInt8),w.cell? ⟨b,off+1,none⟩=some (.slice (some ⟨g,0,none⟩) l.length cap)→w.heap[g]?=some (.cells C e (0,0))→l≠[]→l.length≤cap→cap≤maxLen→C.size=cap →
   (∀(j:Nat) x,l[j]?=some x→C[j]?=some (.int .u8 (x.toNat:Int)))→Calls P f #[.pointer (some ⟨b,off,none⟩)] w fun ev w'=>ev=.returned (.string ⟨l.toArray⟩)∧∃d,w'=World.freeze { w with drawn:=d } ⟨g,0,none⟩ l.length)
  (i:Inv G h w) (hcell:w.cell? ⟨b,off+1,none⟩=some V) (hrs:lE G h s V) (hb:UR e h s=some (r,h')):Calls P f #[.pointer (some ⟨b,off,none⟩)] w (uS G h w r h'):=by
 have nilc:V=.slice none 0 0→r=.ret (.str [])→h'=h→Calls P f #[.pointer (some ⟨b,off,none⟩)] w (uS G h w r h'):=by
  rintro rfl rfl rfl
  refine Calls.mono (p2 w b off hcell) fun ev w' hp=>?_
  obtain⟨rfl,d,rfl⟩:=hp
  exact⟨G,Ext.drawn G _ _ d,i.drawn d,_,rfl,.p _ _ (.str [])⟩
 unfold UR at hb
 split at hb
 ·simp only [ab1,ae5] at hb
  exact nilc hrs.Dw hb.1.symm hb.2.symm
 ·rename_i rows fid
  split at hb
  ·rename_i n sz t hid
   cases hl:rows.length == n with
   | false=>rw [hl] at hb; cases hb
   | true =>
    rw [hl] at hb
    simp only [cond_true] at hb
    have hlen:rows.length=n:=by simpa using hl
    obtain⟨hV,hrl,hcur⟩:=Dy i hrs hid hlen
    cases n with
    | zero =>
     simp only at hb
     cases hz:sz == 0 with
     | false=>rw [hz] at hb; cases hb
     | true =>
      rw [hz] at hb
      simp only [cond_true,ab1,ae5] at hb
      have hz:sz=0:=by simpa using hz
      rcases hcur with ⟨_,hc⟩ | ⟨_,_,_,_,_,_,_,_,_,hs0,_⟩
      ·exact nilc (hV.trans hc) hb.1.symm hb.2.symm
      ·omega
    | succ m =>
     simp only at hb
     cases hz:sz == 1 && t == e+1 with
     | false=>rw [hz] at hb; cases hb
     | true =>
      rw [hz] at hb
      simp only [cond_true] at hb
      simp only [ad0,beq_iff_eq] at hz
      obtain⟨rfl,rfl⟩:=hz
      split at hb
      case h_2=>cases hb
      rename_i bs hbs
      simp only [ab1,ae5] at hb
      obtain⟨rfl,rfl⟩:=hb
      have hrows:=DT hbs
      have hbl:bs.length=m+1:=by rw [←hlen,hrows,al2]
      rcases hcur with ⟨h0,_⟩ | ⟨g,cap,C,e0,hc,hC,hle,hmx,hCs,hs0,hHn,hcells,hte⟩
      ·omega
      ·obtain rfl:e0=e:=Nat.succ.inj (hte (Nat.succ_ne_zero e))
       have hq:=p3 w b off g cap C bs (by rw [hcell,hV,hc,hbl]) hC (by rintro rfl; simp at hbl) (by omega) hmx (by omega) (fun j x hx=>by
        obtain⟨u,e1,e2,_⟩:=hcells j 0 [.int .u8 (x.toNat:Int)] (.int .u8 (x.toNat:Int)) (by rw [hrows,af6,hx]; rfl) rfl
        rw [List.getElem?_take] at e1
        split at e1
        ·rw [Array.getElem?_toList] at e1
         have h2:=(lE.p (G:=G) (h:=h) _ _ e2).qA
         rw [h2] at e1
         simpa using e1
        ·cases e1)
       refine Calls.mono hq fun ev w' hp=>?_
       obtain⟨rfl,d,rfl⟩:=hp
       have hown:mV G fid (.front (m+1) 1 (e0+1))=some g:=by simp [mV,hc,Value.ownBlock]
       have key:=i.step (G':=G) (w':=World.freeze { w with drawn:=d } ⟨g,0,none⟩ bs.length) fid _ .gone hid (by unfold World.freeze; split <;> rfl) (by unfold World.freeze; split <;> rfl) (by unfold World.freeze; split <;> rfl)
        (by unfold World.freeze; split <;> simp) (fun k hk hne=>by
         have:g≠k:=by rintro rfl; exact hne hown
         unfold World.freeze
         split
         ·rfl
         ·simp only [Array.getElem?_modify]
          rw [if_neg this])
        (fun _ _=>rfl) (fun _ _=>rfl) (fun _ _ _ h=>h) (fun _ _ _ _=>rfl) (fun b k v _ hv=>by rw [NH]; exact i.ok b k v hv)
        rfl (fun _=>trivial) (fun b hb=>by cases hb)
       exact⟨G,key.2,key.1,_,rfl,.p _ _ (.str bs)⟩
  ·cases hb
 ·cases hb
theorem Ov {f:Nat}{k:Yx}{args:List kH}{r:nH}{h':kL}{X:Array Value}(hP:ac6 P A f k) (hb:CF A.bld k args h=some (r,h')) (i:Inv G h w) (gl:sV A G h w) (hx:Cr G h args X) :
  (∀w,(callFunc f X).run P w=.ok (.enter f X) w)∧Calls P f X w (uS G h w r h'):=by
 cases k with
 | fn g =>
  obtain⟨p1,p2⟩:=hP
  refine⟨fun w=>p1 X w,?_⟩
  simp only [CF] at hb
  obtain⟨v,hv,hb⟩:=ac9.1 hb
  cases hb
  refine Calls.mono (p2 G h w args X v i gl hx.1 hx.2 hv) fun e w' hp=>?_
  obtain⟨⟨V,rfl,hV⟩,q1,q2,q3,os,q4⟩:=hp
  have key:=i.push (G':=G) (ext:=[]) (w':=w') q1 q2 q3 (by rw [q4]; simp) (fun k hk=>by rw [q4]; exact Array.getElem?_append_left hk) (fun _ _=>rfl) (fun _ _=>rfl) (fun _ _ _ h=>h) (fun _ _ _=>rfl)
   (fun b k v hb hv=>by have:=i.AP (b:=b) (k:=k) (v:=v) hv; omega)
   (fun j bl hj=>by simp at hj) (fun j bl b hj=>by simp at hj) (fun j j' bl bl' b hj=>by simp at hj)
  rw [am4] at key
  exact⟨G,key.2,key.1,V,rfl,.p _ _ hV⟩
 | bldString e =>
  obtain⟨p1,p2,p3⟩:=hP
  refine⟨fun w=>p1 X w,?_⟩
  simp only [CF] at hb
  split at hb
  case h_2=>cases hb
  rename_i id off
  split at hb
  case h_2=>cases hb
  rename_i cs hg
  split at hb
  case h_2=>cases hb
  rename_i s hs
  obtain⟨C,e0,g1,g2,g4⟩:=SP i hg
  obtain⟨hX0,hlv⟩:=(hx.2 0 _ rfl).vR
  have hXe:X=#[.pointer (some ⟨G.nW id,off,none⟩)]:=by
   obtain⟨l⟩:=X
   match l,hx.1,hX0 with
   | [a],_,h0=>simp at h0; subst h0; rfl
  have hlt:off+1 < C.size:=by have:=(aa8.1 hs).1; omega
  have hrs:=(g4 _ s hs).2
  have hcell:w.cell? ⟨G.nW id,off+1,none⟩=some (C.getD (off+1) undef):=by
   rw [cell_of w _ _ g1,ab9,al6 hlt]; rfl
  rw [hXe]
  exact Pm p2 p3 i hcell hrs hb
 | copyCheck =>
  obtain⟨p1,p2⟩:=hP
  refine⟨fun w=>p1 X w,?_⟩
  simp only [CF] at hb
  split at hb
  case h_2=>cases hb
  rename_i id off
  split at hb
  case h_2=>cases hb
  rename_i x hg
  have hid:=FO hg
  cases hbl:A.bld x.1 off x.2.length with
  | false=>rw [hbl] at hb; cases hb
  | true =>
   rw [hbl] at hb
   simp only [cond_true] at hb
   obtain⟨C,g1,g2,g3,g4⟩:=i.nW id _ hid
   obtain⟨hX0,hlv⟩:=(hx.2 0 _ rfl).vR
   have hXe:X=#[.pointer (some ⟨G.nW id,off,none⟩)]:=by
    obtain⟨l⟩:=X
    match l,hx.1,hX0 with
    | [a],_,h0=>simp at h0; subst h0; rfl
   have main:∀c,x.2[off]?=some c→(∀V,lE G h c V→V=.pointer none∨V=.pointer (some ⟨G.nW id,off,none⟩))→r=.ret (.tuple [])→h'=h.set id (.tcells x.1 (putCells x.2 off [.ptr id off]))→Calls P f X w (uS G h w r h'):=by
    intro c hc hcv hr hh
    subst hr hh
    have hlt:off < x.2.length:=(aa8.1 hc).1
    have hlt':off < C.size:=by omega
    have hCv:=hcv _ (g4 off c hc).2
    rw [ab9,al6 hlt',Option.getD_some] at hCv
    rw [hXe]
    refine Calls.mono (p2 w (G.nW id) off x.1 C (by rw [g2]; exact hbl) g1 hlt' (by rw [al6 hlt']; rcases hCv with e | e <;> simp [e])) fun e w' hp=>?_
    obtain⟨rfl,rfl⟩:=hp
    have hw:=i.XH (off:=off) (vs:=[.ptr id off]) (U:=[.pointer (some ⟨G.nW id,off,none⟩)]) hid g1 (by simp; omega) rfl (fun j u hu=>by
     cases j with
     | zero=>simp at hu; subst hu; exact⟨rfl,.ptr id off hlv⟩
     | succ j=>simp at hu)
    exact⟨G,hw.2,hw.1,_,rfl,.p _ _ (.tuple [] #[] rfl (by simp))⟩
   split at hb
   ·rename_i hc
    simp only [ab1,ae5] at hb
    refine main _ hc (fun V hV=>.inl ?_) hb.1.symm hb.2.symm
    cases hV with | p _ _ hp=>cases hp; rfl
   ·rename_i id' off' hc
    split at hb
    ·rename_i he
     obtain⟨rfl,rfl⟩:=he
     simp only [ab1,ae5] at hb
     refine main _ hc (fun V hV=>.inr ?_) hb.1.symm hb.2.symm
     exact hV.vR.1
    ·cases hb
   ·cases hb
theorem SL (hm:P.follows .mixedOrders=true) (hX:yQ P A) (hK:vF P A (lT A K)) (hlp:Uj lp):vF P A (pD P A lp K):=by
 intro f args h r h' hb G w X i gl hx
 unfold pD at hb
 cases hpr:A.prm f with
 | some k =>
  simp only [hpr] at hb
  exact Ov (hX.2 f k hpr) hb i gl hx
 | none =>
 simp only [hpr] at hb
 cases hf:P.funcs[f]? with
 | none=>rw [hf] at hb; cases hb
 | some fn =>
  simp only [hf] at hb
  cases hc:fn.body with
  | none=>rw [hc] at hb; cases hb
  | some c =>
   simp only [hc] at hb
   cases hg:decide (args.length≤fn.ntmps) && !(fn.name == "runtime.NumGoroutine") with
   | false=>rw [hg] at hb; cases hb
   | true =>
    rw [hg] at hb
    simp only [ad0,decide_eq_true_eq,Bool.not_eq_true'] at hg
    refine⟨fun w=>?_,LZ hm hX hK hlp hf hc hb i gl hx hg.1⟩
    have hne:¬fn.name = "runtime.NumGoroutine" := by simpa using hg.2
    simp [callFunc,Sem.run_bind,hf,hc,hne,Sem.run_pure]
theorem Inv.empty (i:Inv G h w):Inv G [] w:=⟨i.ok,fun id bl hb=>by simp at hb,fun a b c ha=>by simp [owner] at ha⟩
theorem Jh {out:Bool}{r1 r:nH}{h1 h':kL}{e:Ending}{w':World}(hb:BM out h (r1,h1)=some (r,h')) (i:Inv G h w) (hpost:uS G [] w r1 h1 e w'):uS G h w r h' e w':=by
 obtain⟨G',x,i',hpost⟩:=hpost
 have fr:∀b,b < w.heap.size→w'.heap[b]?=w.heap[b]?∧∀k,G'.H b k=G.H b k:=fun b hb=>x.frame b hb fun id=>by simp [owner]
 have new:∀{j b:Nat},owner G' h1 j=some b→¬b < w.heap.size:=fun ho hlt=>by
  have:=x.own _ _ ho hlt
  simp [owner] at this
 have hcase:h1=[]∧r=r1∧h'=h:=by
  unfold BM at hb
  cases h1 with
  | nil=>cases hb; exact⟨rfl,rfl,rfl⟩
  | cons b t=>cases hb
 obtain⟨rfl,rfl,rfl⟩:=hcase
 let G2:Gh:={ G' with nW:=G.nW,cur:=G.cur }
 have mono:CJ G h' G2 h':=⟨x.hmono,fun id bl hb=>⟨bl,hb,by cases bl <;> simp [Kind,G2]⟩⟩
 have key:∀{v:kH}{V:Value},lE G' [] v V→lE G2 h' v V:=by
  intro v V r
  have nl:∀id,¬live ([]:kL) id:=fun id ⟨b,hb,_⟩=>by simp at hb
  induction r with
  | p v V hp=>exact .p v V hp
  | agg cs C hl _ ih=>exact .agg cs C hl ih
  | tuple cs C hl _ ih=>exact .tuple cs C hl ih
  | nil=>exact .nil
  | own rows id n sz V hp hf=>simp at hf
  | ownv id V hp hb=>obtain⟨b,hb,_⟩:=hb; simp at hb
  | vslice id tot off len sz b cap hb=>obtain⟨b,hb,_⟩:=hb; simp at hb
  | vptr id tot off b hb=>obtain⟨b,hb,_⟩:=hb; simp at hb
  | ptr id off hl=>exact absurd hl (nl id)
  | mslice id off len sz cap hl=>exact absurd hl (nl id)
  | mslice0 id off sz cap a=>exact .mslice0 id off sz cap a
  | map id hl=>exact absurd hl (nl id)
  | func f first cap F C hlf hlc _ _ ih1 ih2=>exact .func f first cap F C hlf hlc ih1 ih2
  | iface t v V _ ih=>exact .iface t v V ih
 refine⟨G2,⟨x.os,x.tape,x.output,x.size,fun b hb _=>fr b hb,x.hmono,fun id b ho _=>ho,mono.kinds⟩,⟨i'.ok,fun id bl hb=>?_,fun a b c ha hb=>i.inj a b c ha hb⟩,?_⟩
 ·refine(i.nW id bl hb).S7 mono rfl rfl fun b ho=>?_
  exact fr b ((i.nW id bl hb).lt ho)
 ·cases r with
  | ret v=>obtain⟨V,he,hV⟩:=hpost; exact⟨V,he,key hV⟩
  | pan v=>obtain⟨V,he,hV⟩:=hpost; exact⟨V,he,key hV⟩
theorem NF (hK:vF P A K):vF P A (lT A K):=by
 intro f args h r h' hb G w X i gl hx
 unfold lT at hb
 cases hp:A.pure f with
 | false =>
  rw [hp] at hb
  exact hK f args h r h' hb G w X i gl hx
 | true =>
  rw [hp] at hb
  simp only [cond_true] at hb
  cases hs:args.all (kH.nO 0) with
  | false=>rw [hs] at hb; cases hb
  | true =>
   rw [hs] at hb
   simp only [cond_true] at hb
   obtain⟨⟨r1,h1⟩,hc,hb⟩:=ab4.1 hb
   simp only [List.all_eq_true] at hs
   have l:Left G h G [] 0:=⟨fun _ _ _ h=>h,rfl,rfl,fun id hid=>absurd hid (by omega),fun id n sz t hid=>absurd hid (by omega),fun id hid=>absurd hid (by omega)⟩
   have hx0:Cr G [] args X:=⟨hx.1,fun j u hu=>xO l (hs u (List.mem_of_getElem? hu)) (hx.2 j u hu)⟩
   obtain⟨e1,e2⟩:=hK f args [] _ _ hc G w X i.empty (gl.sub rfl fun id b ho=>by simp [owner] at ho) hx0
   refine⟨e1,Calls.mono e2 fun e w' hpost=>?_⟩
   exact Jh hb i hpost
theorem KO (hm:P.follows .mixedOrders=true) (hX:yQ P A) (hlp:Uj lp):∀n,vF P A (Pt P A lp n)
 | 0=>fun f args h r h' hb=>by simp [Pt] at hb
 | n+1=>fun f args h r h' hb=>SL hm hX (NF (KO hm hX hlp n)) hlp f args h r h' hb
end
end
noncomputable section
open Go Go.RowKit
def Ev (p:Nat→Prop):Prop:=∃N,∀n,N≤n→p n
theorem Ev.of {p:Nat→Prop}(h:∀n,p n):Ev p:=⟨0,fun n _=>h n⟩
theorem Ev.imp {p q:Nat→Prop}(h:Ev p) (hi:∀n,p n→q n):Ev q:=let ⟨N,hN⟩:=h; ⟨N,fun n hn=>hi n (hN n hn)⟩
theorem Ev.and {p q:Nat→Prop}(h:Ev p) (h':Ev q):Ev fun n=>p n∧q n :=
 let ⟨N,hN⟩:=h; let ⟨M,hM⟩:=h'; ⟨max N M,fun n hn=>⟨hN n (by omega),hM n (by omega)⟩⟩
theorem I1 {F:List kH×kL→Option R}:∀{n:Nat}{s:List kH×kL}{r:R},s_ n F s=some r→s_ (n+1) F s=some r
 | 0,s,r,h=>by simp [s_] at h
 | n+1,s,r,h=>by
  rw [s_] at h ⊢
  obtain⟨r1,h1,h2⟩:=ab4.1 h
  rw [h1]
  simp only [ae3]
  cases he:r1.1 with
  | normal=>rw [he] at h2; exact I1 h2
  | _=>rw [he] at h2; exact h2
theorem GL {F:List kH×kL→Option R}{n m:Nat}{s:List kH×kL}{r:R}(hnm:n≤m) (h:s_ n F s=some r):s_ m F s=some r:=by
 induction hnm with
 | refl=>exact h
 | step _ ih=>exact I1 ih
open Classical in
def mL (F:List kH×kL→Option R) (s:List kH×kL):Option R :=
 if h:∃n r,s_ n F s=some r then some (Classical.choose (Classical.choose_spec h)) else none
theorem A3 {F:List kH×kL→Option R}{s:List kH×kL}{r:R}:mL F s=some r↔∃n,s_ n F s=some r:=by
 unfold mL
 constructor
 ·intro h
  split at h
  ·rename_i hx
   cases h
   exact⟨_,Classical.choose_spec (Classical.choose_spec hx)⟩
  ·cases h
 ·rintro⟨n,hn⟩
  have hx:∃n r,s_ n F s=some r:=⟨n,r,hn⟩
  rw [dif_pos hx]
  have h1:=Classical.choose_spec (Classical.choose_spec hx)
  have h2:=GL (Nat.le_max_left _ n) h1
  have h3:=GL (Nat.le_max_right (Classical.choose hx) n) hn
  rw [h2] at h3
  exact h3
theorem aiC:Uj mL:=fun _ _ _ h=>A3.1 h
theorem mY (F:List kH×kL→Option R) (s:List kH×kL):mL F s=(F s).bind fun r=>r.1.lW (mL F r.2) fun e=>some (e,r.2):=by
 apply Option.ext
 intro r
 rw [A3]
 constructor
 ·rintro⟨n,hn⟩
  cases n with
  | zero=>simp [s_] at hn
  | succ n =>
   rw [s_] at hn
   obtain⟨r1,h1,h2⟩:=ab4.1 hn
   rw [h1]
   simp only [ae3]
   cases he:r1.1 with
   | normal=>rw [he] at h2; exact A3.2 ⟨n,h2⟩
   | _=>rw [he] at h2; exact h2
 ·intro h
  obtain⟨r1,h1,h2⟩:=ab4.1 h
  cases he:r1.1 with
  | normal =>
   rw [he] at h2
   obtain⟨n,hn⟩:=A3.1 h2
   exact⟨n+1,by rw [s_,h1]; simp only [ae3,he]; exact hn⟩
  | _ =>
   rw [he] at h2
   exact⟨1,by rw [s_,h1]; simp only [ae3,he]; exact h2⟩
theorem ZS {F:List kH×kL→Option R}{Fn:Nat→List kH×kL→Option R}(hF:∀s r,F s=some r→Ev fun n=>Fn n s=some r) {s:List kH×kL}{r:R}(h:mL F s=some r) :
  Ev fun n=>mL (Fn n) s=some r:=by
 obtain⟨m,hm⟩:=A3.1 h
 have key:∀(m:Nat) (s:List kH×kL),s_ m F s=some r→Ev fun n=>s_ m (Fn n) s=some r:=by
  intro m
  induction m with
  | zero=>intro s h; simp [s_] at h
  | succ m ih =>
   intro s h
   rw [s_] at h
   obtain⟨r1,h1,h2⟩:=ab4.1 h
   cases he:r1.1 with
   | normal =>
    rw [he] at h2
    refine((hF _ _ h1).and (ih _ h2)).imp fun n hn=>?_
    rw [s_,hn.1]; simp only [ae3,he]; exact hn.2
   | _ =>
    rw [he] at h2
    refine(hF _ _ h1).imp fun n hn=>?_
    rw [s_,hn]; simp only [ae3,he]; exact h2
 exact(key m s hm).imp fun n hn=>A3.2 ⟨m,hn⟩
section
variable {cx:Cx}{o:Oper}{ρ:List kH}{h:kL}{kv kp:kH→kL→Option R}{r:R}{ids:List Nat}{ops:List Oper}
theorem Vm {kvn kpn:Nat→kH→kL→Option R}(hv:∀v h r,kv v h=some r→Ev fun n=>kvn n v h=some r) (hp:∀v h r,kp v h=some r→Ev fun n=>kpn n v h=some r) {r0:R}
  (hb:kP kv kp r0=some r):Ev fun n=>kP (kvn n) (kpn n) r0=some r:=by
 obtain⟨e,l,h⟩:=r0
 cases e with
 | normal =>
  match l with
  | []=>cases hb
  | [v]=>exact hv v h r hb
  | _::_::_=>cases hb
 | pan v=>exact hp v h r hb
 | exit _=>cases hb
 | ret=>cases hb
def DX (K:kX) (Kn:Nat→kX):Prop:=∀f args h r,K f args h=some r→Ev fun n=>Kn n f args h=some r
theorem Vg {lp':T4}{K':kX}{rsv:Option Nat}(hne:∀c f,o.op=.call c→c.callee=.value f→False) (hni:∀c f m,o.op=.call c→c.callee=.invoke f m→False):evalOp { cx with K:=K',lp:=lp' } o rsv ρ h kv kp=evalOp cx o rsv ρ h kv kp:=by
 unfold evalOp nQ
 cases ho:o.op with
 | call c =>
  simp only []
  cases hc:c.callee with
  | value f=>exact(hne c f ho hc).elim
  | builtin b=>rfl
  | invoke f m=>exact(hni c f m ho hc).elim
 | makeFunc b f c=>cases b <;> rfl
 | makeMap t r=>cases r <;> rfl
 | typeAssert x xt t ok=>cases ok <;> rfl
 | slice t x lo hi mx=>cases mx <;> rfl
 | assign x=>cases BJ x <;> rfl
 | _=>rfl
theorem D4 {lp':T4}{Kn:Nat→kX}{kvn kpn:Nat→kH→kL→Option R}{rsv:Option Nat}(hK:DX cx.K Kn) (hv:∀v h r,kv v h=some r→Ev fun n=>kvn n v h=some r)
  (hp:∀v h r,kp v h=some r→Ev fun n=>kpn n v h=some r) (hb:evalOp cx o rsv ρ h kv kp=some r):Ev fun n=>evalOp { cx with K:=Kn n,lp:=lp' } o rsv ρ h (kvn n) (kpn n)=some r:=by
 rw [B6] at hb
 obtain⟨r0,h1,h2⟩:=ab4.1 hb
 have key:Ev fun n=>evalOp { cx with K:=Kn n,lp:=lp' } o rsv ρ h kQ zG=some r0:=by
  by_cases hne:∃c f,o.op=.call c∧c.callee=.value f
  ·obtain⟨c,f,ho,hc⟩:=hne
   simp only [evalOp,nQ,ho,hc] at h1 ⊢
   obtain⟨g,hg,h1⟩:=ab4.1 h1
   cases hext:cx.A.ext g.1 with
   | some ek =>
    refine Ev.of fun n=>?_
    simp only [hg,ae3,AZ,hext] at h1 ⊢
    exact h1
   | none =>
    simp only [AZ,hext] at h1 ⊢
    unfold kM at h1 ⊢
    obtain⟨r1,hk,h1⟩:=ab4.1 h1
    refine(hK _ _ _ _ hk).imp fun n hn=>?_
    simp only [hg,ae3,hext,hn]
    exact h1
  ·by_cases hni:∃c f m,o.op=.call c∧c.callee=.invoke f m
   ·obtain⟨c,f,m,ho,hc⟩:=hni
    simp only [evalOp,nQ,ho,hc] at h1 ⊢
    obtain⟨g,hg,h1⟩:=ab4.1 h1
    cases hext:cx.A.ext g.1 with
    | some ek =>
     refine Ev.of fun n=>?_
     simp only [hg,ae3,AZ,hext] at h1 ⊢
     exact h1
    | none =>
     simp only [AZ,hext] at h1 ⊢
     unfold kM at h1 ⊢
     obtain⟨r1,hk,h1⟩:=ab4.1 h1
     refine(hK _ _ _ _ hk).imp fun n hn=>?_
     simp only [hg,ae3,hext,hn]
     exact h1
   ·refine Ev.of fun n=>?_
    rw [Vg (fun c f ho hc=>hne ⟨c,f,ho,hc⟩) (fun c f m ho hc=>hni ⟨c,f,m,ho,hc⟩)]
    exact h1
 refine(key.and (Vm hv hp h2)).imp fun n hn=>?_
 rw [B6,hn.1]
 exact hn.2
theorem Iz {lp':T4}{Kn:Nat→kX}{kvn kpn:Nat→kH→kL→Option R}(hK:DX cx.K Kn) (hv:∀v h r,kv v h=some r→Ev fun n=>kvn n v h=some r)
  (hp:∀v h r,kp v h=some r→Ev fun n=>kpn n v h=some r) (hb:oE cx o ids ρ h kv kp=some r):Ev fun n=>oE { cx with K:=Kn n,lp:=lp' } o ids ρ h (kvn n) (kpn n)=some r :=
 D4 hK (fun v h' r hk=>hv v _ r hk) (fun v h' r hk=>hp v _ r hk) hb
theorem NN {lp':T4}{Kn:Nat→kX}{m:Nat}{kvn:Nat→kH→kL→Option R}(hK:DX cx.K Kn) (hv:∀v h r,kv v h=some r→Ev fun n=>kvn n v h=some r)
  (hb:zC cx o m ids ρ h kv=some r):Ev fun n=>zC { cx with K:=Kn n,lp:=lp' } o m ids ρ h (kvn n)=some r:=by
 unfold zC at hb ⊢
 cases hs:(h.take m).all (tP m) with
 | false=>rw [hs] at hb; cases hb
 | true =>
  rw [hs] at hb
  simp only [cond_true] at hb ⊢
  obtain⟨r0,h1,h2⟩:=ab4.1 hb
  have e1:Ev fun n=>oE { cx with K:=Kn n,lp:=lp' } o ids (ρ.map (wQ m)) (h.take m) kQ zG=some r0 :=
   Iz (kvn:=fun _=>kQ) (kpn:=fun _=>zG) hK (fun _ _ _ h=>Ev.of fun _=>h) (fun _ _ _ h=>Ev.of fun _=>h) h1
  have e2:Ev fun n=>Hc m h (kvn n) r0=some r:=by
   unfold Hc at h2 ⊢
   split at h2
   ·rename_i v t
    cases hl:t.length == m with
    | false=>rw [hl] at h2; cases h2
    | true=>rw [hl] at h2; exact hv _ _ _ h2
   ·cases h2
  refine(e1.and e2).imp fun n hn=>?_
  rw [hn.1]
  exact hn.2
theorem L0 {lp':T4}{Kn:Nat→kX}{kvn kpn:Nat→kH→kL→Option R}(hK:DX cx.K Kn) (hv:∀v h r,kv v h=some r→Ev fun n=>kvn n v h=some r)
  (hp:∀v h r,kp v h=some r→Ev fun n=>kpn n v h=some r) (hb:uA cx ops o ids ρ h kv kp=some r):Ev fun n=>uA { cx with K:=Kn n,lp:=lp' } ops o ids ρ h (kvn n) (kpn n)=some r:=by
 have L:oE cx o ids ρ h kv kp=some r→Ev fun n=>oE { cx with K:=Kn n,lp:=lp' } o ids ρ h (kvn n) (kpn n)=some r :=
  fun hb=>D4 hK (fun v h' r hk=>hv v _ r hk) (fun v h' r hk=>hp v _ r hk) hb
 simp only [A0] at hb ⊢
 unfold Al at hb ⊢
 cases hg:o.guard with
 | none=>simp only [hg] at hb ⊢; exact L hb
 | some jw =>
  obtain⟨j,want⟩:=jw
  simp only [hg] at hb ⊢
  cases hd:(ops[j]?).bind (·.dst) with
  | none=>simp only [hd] at hb; cases hb
  | some d =>
   simp only [hd] at hb ⊢
   generalize ρ.getD d .junk=x at hb ⊢
   split at hb
   ·rename_i g
    cases want <;> cases g <;> simp only [cond_true,cond_false] at hb ⊢
    ·exact L hb
    ·exact hv _ _ _ hb
    ·exact hv _ _ _ hb
    ·exact L hb
   ·exact hv _ _ _ hb
   ·cases hb
theorem Kf {lp':T4}{Kn:Nat→kX}{m:Nat}{it:Item}{kvn kpn:Nat→kH→kL→Option R}(hK:DX cx.K Kn) (hv:∀v h r,kv v h=some r→Ev fun n=>kvn n v h=some r)
  (hp:∀v h r,kp v h=some r→Ev fun n=>kpn n v h=some r) (hb:oJ cx ops m it ids ρ h kv kp=some r):Ev fun n=>oJ { cx with K:=Kn n,lp:=lp' } ops m it ids ρ h (kvn n) (kpn n)=some r:=by
 unfold oJ at hb ⊢
 cases hr:it.rsv with
 | some j =>
  simp only [hr] at hb ⊢
  cases hf:tM it.o with
  | false=>rw [hf] at hb; cases hb
  | true =>
   rw [hf] at hb
   exact D4 (kpn:=fun _ _ _=>none) hK hv (fun _ _ _ h=>by cases h) hb
 | none =>
  simp only [hr] at hb ⊢
  cases hh:it.hid with
  | true =>
   simp only [hh,cond_true] at hb ⊢
   cases hf:yA it.o with
   | false=>rw [hf] at hb; cases hb
   | true =>
    rw [hf] at hb
    exact NN hK hv hb
  | false =>
   simp only [hh,cond_false] at hb ⊢
   exact L0 hK hv hp hb
theorem DQ {lp':T4}{m:Nat}{Kn:Nat→kX}{k:List kH→kL→Option R}{kn:Nat→List kH→kL→Option R}{kpn:Nat→kH→kL→Option R}(hK:DX cx.K Kn)
  (hk:∀ρ h r,k ρ h=some r→Ev fun n=>kn n ρ h=some r) (hp:∀v h r,kp v h=some r→Ev fun n=>kpn n v h=some r):∀(items:List Item) (seen ρ:List kH) (h:kL) (r:R),
  pH cx ops m items seen ρ h k kp=some r→Ev fun n=>pH { cx with K:=Kn n,lp:=lp' } ops m items seen ρ h (kn n) (kpn n)=some r:=by
 intro items
 induction items with
 | nil=>intro seen ρ h r hb; exact hk _ _ _ hb
 | cons it rest ih =>
  intro seen ρ h r hb
  simp only [pH,yW] at hb ⊢
  exact Kf hK (fun v h' r hb=>ih _ _ _ _ hb) hp hb
theorem IB {lp':T4}{Kn:Nat→kX}{k:List kH→kL→Option R}{kn:Nat→List kH→kL→Option R}{kp:kH→kL→Option R}{kpn:Nat→kH→kL→Option R}{draw:Bool}(hK:DX cx.K Kn)
  (hk:∀ρ h r,k ρ h=some r→Ev fun n=>kn n ρ h=some r) (hkp:∀v h r,kp v h=some r→Ev fun n=>kpn n v h=some r) (hb:w8 cx ops draw ρ h k kp=some r):Ev fun n=>w8 { cx with K:=Kn n,lp:=lp' } ops draw ρ h (kn n) (kpn n)=some r:=by
 unfold w8 at hb ⊢
 cases draw with
 | false=>exact DQ hK (fun ρ h r hb=>hk _ _ _ hb) (fun v h r hb=>hkp _ _ _ hb) _ _ _ _ _ hb
 | true =>
  simp only [] at hb ⊢
  cases hd:B4 ops with
  | none=>simp only [hd] at hb; cases hb
  | some items =>
   simp only [hd] at hb ⊢
   exact DQ (cx:={ cx with rb:=false }) hK (fun ρ h r hb=>hk _ _ _ hb) (fun v h r hb=>hkp _ _ _ hb) _ _ _ _ _ hb
end
theorem KF {v:kH}{t e:Option R}{tn en:Nat→Option R}{r:R}(ht:t=some r→Ev fun n=>tn n=some r) (he:e=some r→Ev fun n=>en n=some r) (hb:kV v t e=some r) :
  Ev fun n=>kV v (tn n) (en n)=some r:=by
 unfold kV at hb ⊢
 split at hb
 ·rename_i b; cases b
  ·exact he hb
  ·exact ht hb
 ·cases hb
theorem JH {e:Ex}{x:Option R}{f:Ex→Option R}{xn:Nat→Option R}{fn:Nat→Ex→Option R}{r:R}(hx:x=some r→Ev fun n=>xn n=some r) (hf:∀e,f e=some r→Ev fun n=>fn n e=some r)
  (hb:e.lW x f=some r):Ev fun n=>e.lW (xn n) (fn n)=some r:=by
 cases e with
 | normal=>exact hx hb
 | _=>exact hf _ hb
theorem abX {e:Ex}{x:Option R}{xn:Nat→Option R}{r:R}(hx:x=some r→Ev fun n=>xn n=some r) (hb:e.sO x=some r):Ev fun n=>e.sO (xn n)=some r:=by
 cases e with
 | normal=>exact hx hb
 | _=>cases hb
theorem GG {id:Nat}{e:Ex}{x:Option R}{f:Ex→Option R}{xn:Nat→Option R}{fn:Nat→Ex→Option R}{r:R}(hx:x=some r→Ev fun n=>xn n=some r) (hf:∀e,f e=some r→Ev fun n=>fn n e=some r)
  (hb:e.inBlock id x f=some r):Ev fun n=>e.inBlock id (xn n) (fn n)=some r:=by
 cases e with
 | normal=>exact hx hb
 | exit j =>
  simp only [Ex.inBlock] at hb ⊢
  cases hj:j == id with
  | true=>rw [hj] at hb; exact hx hb
  | false=>rw [hj] at hb; exact hf _ hb
 | _=>exact hf _ hb
theorem LW {cx:Cx}{Kn:Nat→kX}(hK:DX cx.K Kn) (hlp:∀F s r,cx.lp F s=some r→mL F s=some r):∀(c:Code) (L:Nat) (ρ:List kH) (h:kL) (kn:List kH→kL→Option R) (ke:Ex→List kH→kL→Option R)
  (knn:Nat→List kH→kL→Option R) (ken:Nat→Ex→List kH→kL→Option R) (r:R),
  (∀ρ h r,kn ρ h=some r→Ev fun n=>knn n ρ h=some r)→(∀e ρ h r,ke e ρ h=some r→Ev fun n=>ken n e ρ h=some r)→evalCode cx c L ρ h kn ke=some r→Ev fun n=>evalCode { cx with K:=Kn n,lp:=mL } c L ρ h (knn n) (ken n)=some r:=by
 obtain⟨P,A,K,lp,nt,full,pan,vec,frz,vlit,vmk,jt,lkp,rb,frl,tb⟩:=cx
 dsimp only at hlp
 intro c
 induction c with
 | skip=>intro L ρ h kn ke knn ken r hk he hb; exact hk _ _ _ hb
 | region id ops draw=>intro L ρ h kn ke knn ken r hk he hb; exact IB hK hk (kpn:=fun n=>aqU pan (ken n) ρ) (fun v h r hb=>by cases pan <;> first | exact he _ _ _ _ hb | cases hb) hb
 | seq x y ihx ihy =>
  intro L ρ h kn ke knn ken r hk he hb
  simp only [evalCode] at hb ⊢
  exact ihx _ ρ h _ _ _ _ r (fun ρ h r hb=>ihy _ _ _ _ _ _ _ _ hk he hb) he hb
 | cond c x y ihx ihy =>
  intro L ρ h kn ke knn ken r hk he hb
  simp only [evalCode] at hb ⊢
  cases hf:xI x && xI y with
  | true =>
   simp only [hf,cond_true] at hb ⊢
   obtain⟨r0,h1,h2⟩:=ab4.1 hb
   have e1:=KF (ihx L ρ h _ _ (fun _=>D3 jt h.length L .normal) (fun _=>D3 jt h.length L) r0 (fun ρ h r hb=>Ev.of fun _=>hb) (fun e ρ h r hb=>Ev.of fun _=>hb)) (ihy L ρ h _ _ (fun _=>D3 jt h.length L .normal) (fun _=>D3 jt h.length L) r0 (fun ρ h r hb=>Ev.of fun _=>hb) (fun e ρ h r hb=>Ev.of fun _=>hb)) h1
   have e2:Ev fun n=>(bif pan || (leaves [] x || leaves [] y) then r0.1.lW (knn n (unpack nt L r0.2.1) r0.2.2) fun e=>ken n e (unpack nt L r0.2.1) r0.2.2 else r0.1.sO (knn n (unpack nt L r0.2.1) r0.2.2))=some r:=by
    cases hl:pan || (leaves [] x || leaves [] y) with
    | true=>rw [hl] at h2; exact JH (hk _ _ _) (fun e=>he e _ _ _) h2
    | false=>rw [hl] at h2; exact abX (hk _ _ _) h2
   refine(e1.and e2).imp fun n hn=>?_
   rw [ab4]
   exact⟨r0,hn.1,hn.2⟩
  | false =>
   simp only [hf,cond_false] at hb ⊢
   exact KF (ihx L ρ h _ _ knn ken r hk he) (ihy L ρ h _ _ knn ken r hk he) hb
 | block id c ih =>
  intro L ρ h kn ke knn ken r hk he hb
  simp only [evalCode] at hb ⊢
  cases hf:decide (2≤Bq id c+bif xI c then 1 else 0) with
  | true =>
   simp only [hf,cond_true] at hb ⊢
   obtain⟨r0,h1,h2⟩:=ab4.1 hb
   refine((ih L ρ h _ _ (fun _=>D3 jt h.length L .normal) (fun _=>D3 jt h.length L) r0 (fun ρ h r hb=>Ev.of fun _=>hb) (fun e ρ h r hb=>Ev.of fun _=>hb) h1).and (GG (hk _ _ _) (fun e=>he e _ _ _) h2)).imp fun n hn=>?_
   rw [ab4]
   exact⟨r0,hn.1,hn.2⟩
  | false =>
   simp only [hf,cond_false] at hb ⊢
   exact ih L ρ h _ _ knn (fun n e ρ' h'=>e.inBlock id (knn n ρ' h') fun e=>ken n e ρ' h') r hk (fun e ρ' h' r hb=>GG (hk _ _ _) (fun e=>he e _ _ _) hb) hb
 | loop c ih =>
  intro L ρ h kn ke knn ken r hk he hb
  simp only [evalCode] at hb ⊢
  obtain⟨r0,h1,h2⟩:=ab4.1 hb
  refine((ZS (fun s r hb=>ih _ _ _ _ _ (fun _=>CS lkp h.length (L ||| ue full c) .normal) (fun _=>CS lkp h.length (L ||| ue full c)) _ (fun ρ h r hb=>Ev.of fun _=>hb) (fun e ρ h r hb=>Ev.of fun _=>hb) hb) (hlp _ _ _ h1)).and
   (JH (x:=none) (xn:=fun _=>none) (fun h=>by cases h) (fun e=>he e _ _ _) h2)).imp fun n hn=>?_
  rw [ab4]
  exact⟨r0,hn.1,hn.2⟩
 | scope c ih=>intro L ρ h kn ke knn ken r hk he hb; exact ih L ρ h kn ke knn ken r hk he hb
 | label l=>intro L ρ h kn ke knn ken r hk he hb; exact hk _ _ _ hb
 | exit id=>intro L ρ h kn ke knn ken r hk he hb; exact he _ _ _ _ hb
 | ret=>intro L ρ h kn ke knn ken r hk he hb; exact he _ _ _ _ hb
 | _=>intro L ρ h kn ke knn ken r hk he hb; simp [evalCode] at hb
theorem LV {cx:Cx}{Kn:Nat→kX}(hK:DX cx.K Kn) (hlp:∀F s r,cx.lp F s=some r→mL F s=some r) {d:Bool}{c:Code}{L:Nat}{ρ:List kH}{h:kL}{r:R}(hb:EN cx d c L ρ h=some r) :
  Ev fun n=>EN { cx with K:=Kn n,lp:=mL } d c L ρ h=some r:=by
 cases d with
 | true=>cases hb
 | false=>exact LW hK hlp c L ρ h _ _ (fun _=>WW L) (fun _=>WV L) r (fun ρ h r hb=>Ev.of fun _=>hb) (fun e ρ h r hb=>Ev.of fun _=>hb) hb
theorem Sz {A:AO}{K:kX}{Kn:Nat→kX}(hK:DX K Kn):DX (lT A K) fun n=>lT A (Kn n):=by
 intro f args h r hb
 unfold lT at hb ⊢
 cases hp:A.pure f with
 | false =>
  simp only [hp,cond_false] at hb ⊢
  exact hK _ _ _ _ hb
 | true =>
  simp only [hp,cond_true] at hb ⊢
  cases hs:args.all (kH.nO 0) with
  | false=>simp only [hs,cond_false] at hb; cases hb
  | true =>
   simp only [hs,cond_true] at hb ⊢
   obtain⟨r0,h1,h2⟩:=ab4.1 hb
   refine(hK _ _ _ _ h1).imp fun n hn=>?_
   rw [ab4]
   exact⟨r0,hn,h2⟩
theorem Hg {P:Program}{A:AO}{lp:T4}{K:kX}{Kn:Nat→kX}(hlp:∀F s r,lp F s=some r→mL F s=some r) (hK:DX K Kn):DX (pD P A lp K) fun n=>pD P A mL (Kn n):=by
 intro f args h r hb
 unfold pD at hb ⊢
 cases hpr:A.prm f with
 | some k =>
  simp only [hpr] at hb ⊢
  exact⟨0,fun n _=>hb⟩
 | none =>
 simp only [hpr] at hb ⊢
 cases hf:P.funcs[f]? with
 | none=>simp only [hf] at hb; cases hb
 | some fn =>
  simp only [hf] at hb ⊢
  cases hc:fn.body with
  | none=>simp only [hc] at hb; cases hb
  | some c =>
   simp only [hc] at hb ⊢
   cases hg:decide (args.length≤fn.ntmps) && !(fn.name == "runtime.NumGoroutine") with
   | false=>simp only [hg,cond_false] at hb; cases hb
   | true =>
    simp only [hg,cond_true,LX] at hb ⊢
    obtain⟨r0,h1,h2⟩:=ab4.1 hb
    refine(LV (cx:={ P,A,K:=lT A K,lp,n:=fn.ntmps,full:=2 ^ fn.ntmps - 1,pan:=A.pan f,vec:=A.al3 f,frz:=A.frz f,vlit:=A.XB f,vmk:=A.vmk f,jt:=A.jt f,lkp:=A.lkp f,rb:=A.rb f,frl:=A.frl f,tb:=A.tb f }) (Sz hK) hlp h1).imp fun n hn=>?_
    rw [ab4]
    exact⟨r0,hn,h2⟩
open Classical in
def Iv (P:Program) (A:AO):kX:=fun f args h =>
 if hx:∃r,Ev fun n=>Pt P A mL n f args h=some r then some (Classical.choose hx) else none
theorem Dq {P:Program}{A:AO}{f:Nat}{args:List kH}{h:kL}{r:nH×kL}:Iv P A f args h=some r↔Ev fun n=>Pt P A mL n f args h=some r:=by
 unfold Iv
 constructor
 ·intro hb
  split at hb
  ·rename_i hx; cases hb; exact Classical.choose_spec hx
  ·cases hb
 ·intro hb
  have hx:∃r,Ev fun n=>Pt P A mL n f args h=some r:=⟨r,hb⟩
  rw [dif_pos hx]
  obtain⟨N,hN⟩:=(Classical.choose_spec hx).and hb
  obtain⟨e1,e2⟩:=hN N (ac8 _)
  rw [e1] at e2
  exact e2
theorem Vf {P:Program}{A:AO}{f:Nat}{args:List kH}{h:kL}{r:nH×kL}(hb:pD P A mL (Iv P A) f args h=some r):Iv P A f args h=some r:=by
 rw [Dq]
 obtain⟨N,hN⟩:=Hg (lp:=mL) (Kn:=fun n=>Pt P A mL n) (fun _ _ _ h=>h) (fun f args h r hb=>Dq.1 hb) f args h r hb
 refine⟨N+1,fun n hn=>?_⟩
 cases n with
 | zero=>omega
 | succ n=>exact hN n (by omega)
theorem Rb {P:Program}{A:AO}(m:Nat):∀(n f:Nat) (args:List kH) (h:kL) (r:nH×kL),Pt P A (s_ m) n f args h=some r→Iv P A f args h=some r:=by
 have hlp:∀F s r,s_ m F s=some r→mL F s=some r:=fun F s r h=>A3.2 ⟨m,h⟩
 have key:∀n,DX (Pt P A (s_ m) n) fun k=>Pt P A mL k:=by
  intro n
  induction n with
  | zero=>intro f args h r hb; cases hb
  | succ n ih =>
   intro f args h r hb
   obtain⟨N,hN⟩:=Hg hlp ih f args h r hb
   refine⟨N+1,fun k hk=>?_⟩
   cases k with
   | zero=>omega
   | succ k=>exact hN k (by omega)
 exact fun n f args h r hb=>Dq.2 (key n f args h r hb)
theorem SM {P:Program}{A:AO}(hm:P.follows .mixedOrders=true) (hX:yQ P A):vF P A (Iv P A):=by
 intro f args h r h' hb
 obtain⟨N,hN⟩:=Dq.1 hb
 exact KO hm hX aiC N f args h r h' (hN N (ac8 _))
end
section
open Go Go.RowKit Go.ChangeShapes
def gh (W:World):Gh:={ H:=fun b k=>W.cell? ⟨b,k,none⟩,nW:=fun _=>0,cur:=fun _=>.slice none 0 0 }
theorem ahY (W:World):Inv (gh W) [] W:=⟨fun _ _ _ h=>h,fun id bl hb=>by simp at hb,fun a b c ha=>by simp [owner] at ha⟩
theorem Ir {P:Program}{A:AO}{f:Nat}{args:List kH}{X:Array Value}{W:World}(hm:P.follows .mixedOrders=true) (hX:yQ P A) (h:Iv P A f args []=some (.ret (.bool true),[]))
  (gl:sV A (gh W) [] W) (hx:Cr (gh W) [] args X):Calls P f X W fun e W'=>e=.returned (.bool true)∧Below W.heap.size W W':=by
 refine((SM hm hX f args [] _ _ h (gh W) W X (ahY W) gl hx).2).mono fun e W' hpost=>?_
 obtain⟨G',x,_,V,rfl,hV⟩:=hpost
 refine⟨by rw [hV.x6],x.os,x.tape,x.output,x.size,fun k hk=>(x.frame k hk fun id=>by simp [owner]).1⟩
section
variable {H:Type}{enc:TypeId×Value→H}{P:Program}
theorem DU (hl:laidOutB P=true) {W W':World}{sp':Nat→Bool}(hb:Below W.heap.size W W'):∀{ts:List TypeId}{vs:List Value}{ds:List (DataW H)}{ps:List MemPlace},
  (∀t∈ts,P.readableRec t=true∧t < P.types.size)→DataW.TrodAll enc P W 0 (fun _=>true) true ts vs ds ps→(∀p∈ps,p.block < W.heap.size)→(∀p∈ps,sp' p.block=true)→DataW.TrodAll enc P W' 0 sp' true ts vs ds ps
 | [],[],[],_,_,h,_,_=>h
 | _::_,_::_,_::_,_,ht,⟨p,q,h1,h2,e⟩,hlt,hs =>
  ⟨p,q,WideElems.Trod_stays hl (ht _ (by simp)).1 (ht _ (by simp)).2 h1 (fun x hx=>hb.same (hlt x (by rw [e]; exact List.mem_append_left _ hx))) (fun x hx=>hs x (by rw [e]; exact List.mem_append_left _ hx)),
   DU hl hb (fun t h=>ht t (by simp [h])) h2 (fun x hx=>hlt x (by rw [e]; exact List.mem_append_right _ hx)) (fun x hx=>hs x (by rw [e]; exact List.mem_append_right _ hx)),e⟩
theorem La {f:Func}{s:ChangeSpec}{apart fresh handsOn again:Bool}{W W':World}{args:Array Value}{tb:TypeId}{ds gs:List (DataW H)}{before:List MemPlace}
  (hl:laidOutB P=true) (ht:∀t∈f.params.toList,P.readableRec t=true∧t < P.types.size) (hr:f.resultTypes=#[tb]) (htb:P.underlying tb=some .bool) (hv:s.vars=[])
  (hW:DataW.Whole enc P f.params.toList s.vars apart W args.toList ds gs before) (hb:Below W.heap.size W W')
  (h1:(s.fn H (ds++gs)).results=[.lit (.bool true)]) (h2:(s.fn H (ds++gs)).args=ds) (h3:(s.fn H (ds++gs)).vars=[]):s.post enc P f apart fresh handsOn again W args (Value.bool true) W':=by
 have hlt:=hW.lt
 have hold:∀p∈before,(fun b=>decide (b < W.heap.size)) p.block=true:=fun p hp=>by simpa using hlt p hp
 have hW':=hW
 obtain⟨p,q,hA,hV,hps,hz,hn⟩:=hW
 rw [hv] at hV
 obtain⟨rfl,rfl⟩:=trodVars_none hV
 simp only [am4] at hps h1 h2 h3
 subst hps
 have hargs:∀sp:Nat→Bool,(∀x∈before,sp x.block=true)→DataW.TrodAll enc P W' 0 sp true f.params.toList args.toList (s.fn H ds).args before:=by
  intro sp hs; rw [h2]; exact DU hl hb ht hA hlt hs
 have hres:∀(b:Nat) (sp:Nat→Bool) (hd:Bool),DataW.TrodAll enc P W' b sp hd f.resultTypes.toList ((Value.bool true).resultList f.resultTypes.size) (s.fn H ds).results []:=by
  intro b sp hd; rw [h1,hr]; exact trodAll_mk1 (shut_bool htb true)
 have hvars:∀sp:Nat→Bool,DataW.TrodVars enc P W' sp s.vars (s.fn H ds).vars []:=by
  intro sp; rw [h3,hv]; rfl
 refine⟨ds,[],before,[],before,[],hW',by simpa using hres _ _ _,by simpa using hargs _ hold,by simpa using hvars _,World.keptBut_mono (fun p hp=>⟨hp,?_⟩) (hb.frame (·∈before)),fun _=>?_⟩
 ·exact Or.inr (by simpa using hp)
 ·refine⟨ok_one hr rfl (okWide_bool_mk htb true),_,_,([]++before)++[],⟨[]++before,[],trodAll_append (hargs _ (fun _ _=>rfl)) (hres _ _ _),hvars _,rfl,?_,?_⟩,?_⟩
  ·intro b off hp
   have hp':MemPlace.cell b off∈before:=by simpa using hp
   rw [hb.frozen (p:=⟨b,off,none⟩) (hlt _ hp')]
   exact hz b off hp'
  ·intro ha
   simpa using hn ha
  ·intro p hp _
   simpa using hp
end
def Cq (H:Nat→Nat→Option Value) (cs:List kH) (vs:List Value):Prop:=cs.length=vs.length∧∀(i:Nat) (v:kH),cs[i]?=some v→v.lY=true∧qC H v (vs.getD i undef)
theorem Cq.append {H:Nat→Nat→Option Value}{a b:List kH}{x y:List Value}(h:Cq H a x) (h':Cq H b y):Cq H (a++b) (x++y):=by
 refine⟨by simp [h.1,h'.1],fun i v hv=>?_⟩
 rw [ae4]
 by_cases hi:i < a.length
 ·rw [ae9 hi] at hv
  rw [ae9 (by rw [←h.1]; exact hi)]
  have:=h.2 i v hv
  rwa [ae4] at this
 ·rw [ae0 (by omega)] at hv
  rw [ae0 (by rw [←h.1]; omega),←h.1]
  have:=h'.2 _ v hv
  rwa [ae4] at this
theorem Cq.nil (H:Nat→Nat→Option Value):Cq H [] []:=⟨rfl,by simp⟩
theorem Cq.one {H:Nat→Nat→Option Value}{v:kH}{V:Value}(hk:v.lY=true) (h:qC H v V):Cq H [v] [V] :=
 ⟨rfl,fun i u hu=>by cases i with
  | zero=>simp at hu; subst hu; exact⟨hk,h⟩
  | succ i=>simp at hu⟩
structure Rd (P:Program) (n:Nat) (t:TypeId) {α:Type}(encA:α→List kH) (wf:α→Prop):Prop where
 get:∀{H:Type}{enc:TypeId×Value→H}{w:World}{sp:Nat→Bool}{held:Bool}{fuel:Nat}{cs:List Value}{x:DataW H×List MemPlace},fuel≤n →
  DataW.trod enc P w 0 sp held fuel t cs=some x→∃a:α,wf a∧Cq (gh w).H (encA a) cs
theorem Rd.int {P:Program}{n:Nat}{t:TypeId}{k:IntKind}(ht:P.underlying t=some (.int k)):Rd P n t (fun z:Int=>[.int k z]) (fun z=>(Lit.int k z).wf=true):=by
 refine⟨?_⟩
 intro H enc w sp held fuel cs x _ h
 obtain⟨z,hx,_,hw⟩:=DataW.trod_int ht h
 exact⟨z,hw,by rw [hx]; exact .one rfl (.int _ _)⟩
theorem Rd.str {P:Program}{n:Nat}{t:TypeId}(ht:P.underlying t=some .string):Rd P n t (fun z:List UInt8=>[.str z]) (fun z=>z.length≤maxLen):=by
 refine⟨?_⟩
 intro H enc w sp held fuel cs x _ h
 obtain⟨s,hx,_,hs⟩:=DataW.trod_string ht h
 refine⟨s.data.toList,by simpa using hs,?_⟩
 have:(⟨s.data.toList.toArray⟩:ByteArray)=s:=by cases s; simp
 rw [hx]
 have r:=qC.str (H:=(gh w).H) s.data.toList
 rw [this] at r
 exact .one rfl r
structure Sf (P:Program) (n:Nat) (fs:List Field) (off total:Nat) {α:Type}(encA:α→List kH) (wf:α→Prop):Prop where
 get:∀{H:Type}{enc:TypeId×Value→H}{w:World}{sp:Nat→Bool}{held:Bool}{fuel:Nat}{cs:List Value}{xs:List (DataW H×List MemPlace)},fuel≤n→cs.length=total →
  (fs.mapM fun f=>DataW.trod enc P w 0 sp held fuel f.type ((cs.drop f.offset).take (P.cellsOf f.type)))=some xs→∃a:α,wf a∧Cq (gh w).H (encA a) (cs.drop off)
theorem Sf.nil {P:Program}{n total:Nat}:Sf P n [] total total (fun _:Unit=>[]) (fun _=>True):=by
 refine⟨?_⟩
 intro H enc w sp held fuel cs xs _ hl h
 refine⟨(),trivial,?_⟩
 rw [List.drop_eq_nil_of_le (by omega)]
 exact .nil _
theorem Sf.cons {P:Program}{n off total sz:Nat}{f:Field}{fs:List Field}{α β:Type}{encA:α→List kH}{wfA:α→Prop}{encB:β→List kH}{wfB:β→Prop}
  (ho:f.offset=off) (hs:P.cellsOf f.type=sz) (r:Rd P n f.type encA wfA) (rs:Sf P n fs (off+sz) total encB wfB):Sf P n (f::fs) off total (fun z:α×β=>encA z.1++encB z.2) (fun z=>wfA z.1∧wfB z.2):=by
 refine⟨?_⟩
 intro H enc w sp held fuel cs xs hf hl h
 simp only [List.mapM_cons,Option.bind_eq_bind,ab4] at h
 obtain⟨x,h1,ys,h2,_⟩:=h
 obtain⟨a,wa,ra⟩:=r.get hf h1
 obtain⟨b,wb,rb⟩:=rs.get hf hl h2
 refine⟨(a,b),⟨wa,wb⟩,?_⟩
 rw [ho,hs] at ra
 have:cs.drop off=(cs.drop off).take sz++cs.drop (off+sz):=by rw [←List.drop_drop,List.take_append_drop]
 rw [this]
 exact ra.append rb
theorem Rd.struct {P:Program}{n:Nat}{t:TypeId}{fs:Array Field}{α:Type}{encA:α→List kH}{wf:α→Prop}{total:Nat}(ht:P.underlying t=some (.struct fs)) (hc:P.cellsOf t=total)
  (r:Sf P n fs.toList 0 total encA wf):Rd P (n+1) t encA wf:=by
 refine⟨?_⟩
 intro H enc w sp held fuel cs x hf h
 cases fuel with
 | zero=>simp [DataW.trod] at h
 | succ m =>
  unfold DataW.trod at h
  rw [ht] at h
  split at h <;> try (simp at *; done)
  rename_i fs' cs' hu
  cases hu
  split at h
  ·rename_i hlen
   simp only [ac9] at h
   obtain⟨xs,h1,_⟩:=h
   obtain⟨a,wa,ra⟩:=r.get (by omega) (by rw [hlen,hc]) h1
   exact⟨a,wa,by simpa using ra⟩
  ·cases h
theorem Rd.to {P:Program}{n:Nat}{t:TypeId}{α β:Type}{encA:α→List kH}{wfA:α→Prop}{encB:β→List kH}{wfB:β→Prop}(r:Rd P n t encA wfA) (g:α→β) (he:∀a,encB (g a)=encA a) (hw:∀a,wfA a→wfB (g a)):Rd P n t encB wfB:=by
 refine⟨?_⟩
 intro H enc w sp held fuel cs x hf h
 obtain⟨a,wa,ra⟩:=r.get hf h
 exact⟨g a,hw a wa,by rw [he]; exact ra⟩
theorem Rd.mono {P:Program}{n m:Nat}{t:TypeId}{α:Type}{encA:α→List kH}{wfA:α→Prop}(hnm:m≤n) (r:Rd P n t encA wfA):Rd P m t encA wfA:=by
 refine⟨?_⟩
 intro H enc w sp held fuel cs x hf h
 exact r.get (by omega) h
theorem Rd.aoJ {P:Program}{t:TypeId}{α:Type}{encA:α→List kH}{wf:α→Prop}(r:∀n,Rd P n t encA wf) {H:Type}{enc:TypeId×Value→H}{w:World}{sp:Nat→Bool}{held:Bool}{v:Value}{d:DataW H}{ps:List MemPlace}
  (hv:∃C,v=.agg C) (h:DataW.Trod enc P w 0 sp held t v d ps):∃a,wf a∧lE (gh w) [] (.agg (encA a)) v:=by
 obtain⟨fuel,hf⟩:=h
 obtain⟨a,wa,ra⟩:=(r fuel).get (ac8 _) hf
 obtain⟨C,rfl⟩:=hv
 refine⟨a,wa,.p _ _ (.agg _ _ (by simpa [Value.cells] using ra.1) fun i v hv=>?_)⟩
 have:=(ra.2 i v hv).2
 rw [ae4] at this
 rw [ab9]
 simpa [Value.cells] using this
end
section
open Go
attribute [simp] ae3 Option.bind_none
theorem vV {d:Nat}:sX none d=some d:=(rfl)
theorem pQ {k:IntKind}{n d:Nat}:sX (some (.int k (n:Int))) d=some n:=by simp [sX]
@[congr] theorem amO {α β:Type}{x x':Option α}{f:α→Option β}(h:x=x'):x.bind f=x'.bind f:=by rw [h]
@[congr] theorem YY {x x':Option (nH×kL)}{f g:kH→kL→Option R}(h:x=x'):kM x f g=kM x' f g:=by rw [h]
@[congr] theorem adT {x x':Option (kH×kL)}{f:kH→kL→Option R}(h:x=x'):kS x f=kS x' f:=by rw [h]
@[congr] theorem af5 {x x':kH}{t e:Option R}(h:x=x'):kV x t e=kV x' t e:=by rw [h]
@[congr] theorem X9 {w:Bool}{x x':kH}{t e:Option R}(h:x=x'):kI w x t e=kI w x' t e:=by rw [h]
@[congr] theorem afB {x x':Ex}{t:Option R}{e:Ex→Option R}(h:x=x'):Ex.lW x t e=Ex.lW x' t e:=by rw [h]
@[congr] theorem Zw {i:Nat}{x x':Ex}{t:Option R}{e:Ex→Option R}(h:x=x'):Ex.inBlock i x t e=Ex.inBlock i x' t e:=by rw [h]
@[congr] theorem aqM {x x':Ex}{t:Option R}(h:x=x'):Ex.sO x t=Ex.sO x' t:=by rw [h]
@[congr] theorem amY {x x':Ex}{t:Option (nH×kL)}{tp:kH→Option (nH×kL)}(h:x=x'):Ex.wM x t tp=Ex.wM x' t tp:=by rw [h]
@[congr] theorem amW {x x':Ex}{t:Option (nH×kL)}(h:x=x'):Ex.mX x t=Ex.mX x' t:=by rw [h]
@[congr] theorem amU {α:Type}{x x':Bool}{t e:α}(h:x=x'):cond x t e=cond x' t e:=by rw [h]
@[congr] theorem am3 {f g:kH→kL→Option R}{x x':R}(h:x=x'):kP f g x=kP f g x':=by rw [h]
section
variable {k k':IntKind}{a b:Int}{x y:Bool}{s t:List UInt8}{v w:kH}{h:kL}{m:Nat}
@[simp] theorem aoA:kR .add (.int k a) (.int k b)=some (.int k (k.wrap (a+b))):=by simp [kR]
@[simp] theorem aoH:kR .sub (.int k a) (.int k b)=some (.int k (k.wrap (a - b))):=by simp [kR]
@[simp] theorem aoF:kR .mul (.int k a) (.int k b)=some (.int k (k.wrap (a * b))):=by simp [kR]
@[simp] theorem aoB:kR .eql (.int k a) (.int k b)=some (.bool (decide (a=b))):=by simp [kR]; rfl
@[simp] theorem aoG:kR .neq (.int k a) (.int k b)=some (.bool (!decide (a=b))):=by simp [kR,bne]; rfl
@[simp] theorem UC:kR .lss (.int k a) (.int k b)=some (.bool (decide (a < b))):=by simp [kR]
@[simp] theorem aoE:kR .leq (.int k a) (.int k b)=some (.bool (decide (a≤b))):=by simp [kR]
@[simp] theorem aoD:kR .gtr (.int k a) (.int k b)=some (.bool (decide (b < a))):=by simp [kR]
@[simp] theorem aoC:kR .geq (.int k a) (.int k b)=some (.bool (decide (b≤a))):=by simp [kR]
@[simp] theorem KE:kR .add (.str s) (.str t)=if s.length+t.length≤4611686018427387904 then some (.str (s++t)) else none:=(rfl)
@[simp] theorem amD:kR .eql (.str s) (.str t)=some (.bool (decide (s=t))):=by
 have:(s == t)=decide (s=t):=by by_cases h:s=t <;> simp [h]
 simp [kR,this]
@[simp] theorem amE:kR .neq (.str s) (.str t)=some (.bool (!decide (s=t))):=by
 have:(s == t)=decide (s=t):=by by_cases h:s=t <;> simp [h]
 simp [kR,this]
@[simp] theorem atH:vS .not (.bool x)=some (.bool (!x)):=(rfl)
@[simp] theorem YN:tZ k (.int k' a)=some (.int k (k.wrap a)):=(rfl)
@[simp] theorem agC:lL (.bool x) v w=some (bif x then v else w):=(rfl)
@[simp] theorem amI:Bv (.int k a) (.int k' b)=some (.int k (max a b)):=by
 simp only [Bv,ab1,kH.int.injEq,true_and]
 by_cases h:b > a <;> simp [h] <;> omega
@[simp] theorem YQ {rows:List (List kH)}{t:Tok}:mS (.slice rows t)=some (.int .i64 rows.length):=(rfl)
@[simp] theorem adF:m_ (.str s)=some (.int .i64 s.length):=(rfl)
@[simp] theorem DZ {t e:Option R}:kV (.bool x) t e=bif x then t else e:=(rfl)
@[simp] theorem X_ {run skip:Option R}:kI true (.bool x) run skip=bif x then run else skip:=(rfl)
@[simp] theorem Vx {run skip:Option R}:kI false (.bool x) run skip=bif x then skip else run:=(rfl)
@[simp] theorem Vz {g:Bool}{run skip:Option R}:kI g (.tuple []) run skip=skip:=(rfl)
@[simp] theorem ad8 {kv kp:kH→kL→Option R}:kP kv kp (.normal,[v],h)=kv v h:=(rfl)
@[simp] theorem awY:kQ v h=some (.normal,[v],h):=(rfl)
@[simp] theorem NC {kv kp:kH→kL→Option R}:kM (some (.ret v,h)) kv kp=kv v h:=(rfl)
@[simp] theorem Gw {kv:kH→kL→Option R}:kS (some (v,h)) kv=kv v h:=(rfl)
@[simp] theorem nP {kn:Option R}{ke:Ex→Option R}:Ex.lW .normal kn ke=kn:=(rfl)
@[simp] theorem alS {kn:Option R}{ke:Ex→Option R}:Ex.lW .ret kn ke=ke .ret:=(rfl)
@[simp] theorem OV {i:Nat}{kn:Option R}{ke:Ex→Option R}:Ex.lW (.exit i) kn ke=ke (.exit i):=(rfl)
@[simp] theorem akH {kn:Option R}:Ex.sO .normal kn=kn:=(rfl)
@[simp] theorem VL {i:Nat}{kn:Option R}{ke:Ex→Option R}:Ex.inBlock i .normal kn ke=kn:=(rfl)
@[simp] theorem aeF {i:Nat}{kn:Option R}{ke:Ex→Option R}:Ex.inBlock i .ret kn ke=ke .ret:=(rfl)
@[simp] theorem Mc {i j:Nat}{kn:Option R}{ke:Ex→Option R}:Ex.inBlock i (.exit j) kn ke=bif j == i then kn else ke (.exit j):=(rfl)
@[simp] theorem ad1 {x:Option (nH×kL)}:Ex.mX .normal x=x:=(rfl)
@[simp] theorem apA {v:kH}{l:List kH}{h:kL}{kv kp:kH→kL→Option R}:kP kv kp (.pan v,l,h)=kp v h:=by cases l <;> rfl
@[congr] theorem amV {x x':Ex}{t:Option R}{tp:kH→Option R}(h:x=x'):Ex.SK x t tp=Ex.SK x' t tp:=by rw [h]
@[congr] theorem amX {x x':Ex}{t:Option kL}(h:x=x'):Ex.Vd x t=Ex.Vd x' t:=by rw [h]
@[congr] theorem aqK {α β:Type}{x x':Option α}{f:α→β}(h:x=x'):x.map f=x'.map f:=by rw [h]
@[simp] theorem ao5 {x:Option (nH×kL)}:Ex.mX .ret x=x:=(rfl)
@[simp] theorem acF:kH.vL m h (.int k a)=.int k a:=(rfl)
@[simp] theorem Xg:kH.vL m h (.bool x)=.bool x:=(rfl)
@[simp] theorem auV:kH.vL m h (.str s)=.str s:=(rfl)
@[simp] theorem anQ {rows:List (List kH)}:kH.vL m h (.slice rows .no)=.slice rows .no:=(rfl)
@[simp] theorem anR:kH.vL m h (.tuple [])=.tuple []:=(rfl)
@[simp] theorem auU {rows:List (List kH)}{id:Nat}:kH.vL m h (.slice rows (.own id))=bif decide (id < m) then .slice rows (.own id) else .slice rows .no:=(rfl)
@[simp] theorem auR {cs:List kH}:kH.vL m h (.agg cs)=.agg (cs.map (·.mT m h)):=(rfl)
@[simp] theorem arZ:kH.mT m h (.int k a)=.int k a:=(rfl)
@[simp] theorem anO:kH.mT m h (.bool x)=.bool x:=(rfl)
@[simp] theorem ar2:kH.mT m h (.str s)=.str s:=(rfl)
@[simp] theorem alF {rows:List (List kH)}:kH.mT m h (.slice rows .no)=.slice rows .no:=(rfl)
@[simp] theorem ar1:kH.mT m h (.slice [] .nil)=.slice [] .nil:=(rfl)
@[simp] theorem OH {rows:List (List kH)}{id:Nat}:kH.mT m h (.slice rows (.own id))=bif decide (id < m) then .slice rows (.own id) else .slice rows .no:=(rfl)
@[simp] theorem alH {v w:kH}:kH.vL m h (.tuple [v,w])=.tuple [(match v with | .agg cs=>.agg (cs.map (·.mT m h)) | v=>v.mT m h),(match w with | .agg cs=>.agg (cs.map (·.mT m h)) | v=>v.mT m h)]:=(rfl)
@[simp] theorem anX:kH.kN (.int k a)=.int k a:=(rfl)
@[simp] theorem alZ:kH.kN (.bool x)=.bool x:=(rfl)
@[simp] theorem an0:kH.kN (.str s)=.str s:=(rfl)
@[simp] theorem afI {rows:List (List kH)}{t:Tok}:kH.kN (.slice rows t)=.slice rows .no:=(rfl)
@[simp] theorem afJ:kH.kN (.tuple [])=.tuple []:=(rfl)
@[simp] theorem anW {cs:List kH}:kH.kN (.agg cs)=.agg (cs.map kH.sP):=(rfl)
@[simp] theorem alX:kH.sP (.int k a)=.int k a:=(rfl)
@[simp] theorem afH:kH.sP (.bool x)=.bool x:=(rfl)
@[simp] theorem alY:kH.sP (.str s)=.str s:=(rfl)
@[simp] theorem acZ {rows:List (List kH)}{t:Tok}:kH.sP (.slice rows t)=.slice rows .no:=(rfl)
@[simp] theorem ac0 {v w:kH}:kH.kN (.tuple [v,w])=.tuple [(match v with | .agg cs=>.agg (cs.map kH.sP) | v=>v.sP),(match w with | .agg cs=>.agg (cs.map kH.sP) | v=>v.sP)]:=(rfl)
theorem QA {bs:kL}:l_ 0 bs=some []:=by simp [l_,nA]
@[simp] theorem alW {bs:kL}:l_ 0 bs=some []:=QA
@[simp] theorem Zj {m:Nat}{h:kL}:Ex.vL m h .normal=.normal:=(rfl)
@[simp] theorem am2 {m:Nat}{h:kL}:Ex.vL m h .ret=.ret:=(rfl)
@[simp] theorem Px {m:Nat}{h:kL}{id:Nat}:Ex.vL m h (.exit id)=.exit id:=(rfl)
theorem mZ {e:Ex}{vs:List kH}:kW 0 e vs h=some (e.vL 0 h,vs.map (·.vL 0 h),[]):=by simp [kW]
theorem kK:lZ 0 v h=some (.ret (v.vL 0 h).kN,[]):=by simp [lZ]
def sN (h:kL) (id:Nat):Bool:=match h[id]? with
 | some (.front 0 0)=>true
 | _=>false
@[simp] theorem ZF {r:kL}:sN (.front 0 0::r) 0=true:=(rfl)
@[simp] theorem ZE {b:lH}{r:kL}{n:Nat}:sN (b::r) (n+1)=sN r n:=(rfl)
@[simp] theorem aeA {cs:List kH}{r:kL}:nR (.cells cs::r) 0=some cs:=(rfl)
@[simp] theorem ad9 {b:lH}{r:kL}{n:Nat}:nR (b::r) (n+1)=nR r n:=(rfl)
@[simp] theorem Sm {n id off:Nat}:kO false n h (.ptr id off)=(nR h id).bind fun cs=>cs[off]?:=by
 simp only [kO,apart,cond_false]; cases nR h id <;> rfl
@[simp] theorem Ph {n id off:Nat}:kO true n h (.ptr id off)=(nR h id).bind fun cs=>if off+n≤cs.length then some (.agg ((cs.drop off).take n)) else none:=by
 simp only [kO,apart,cond_true]; cases nR h id <;> rfl
@[simp] theorem B1 {n id off:Nat}:kT n h (.ptr id off) v=(nR h id).bind fun cs=>if v.cells.length=n∧off+n≤cs.length∧v.cells.all kH.lY then some (h.set id (.cells (putCells cs off (o0 h (cs.drop off) v.cells)))) else none:=by
 simp only [kT]; cases nR h id <;> rfl
@[simp] theorem ZJ {os:List kH}:o0 h os []=[]:=by cases os <;> rfl
@[simp] theorem Me {o:kH}{os vs:List kH}:o0 h (o::os) (v::vs)=wU h o v::o0 h os vs:=(rfl)
@[simp] theorem am8 {o:kH}:wU h o (.int k a)=.int k a:=(rfl)
@[simp] theorem ah5 {o:kH}:wU h o (.bool x)=.bool x:=(rfl)
@[simp] theorem anC {o:kH}:wU h o (.str s)=.str s:=(rfl)
@[simp] theorem apI {o:kH}{rows:List (List kH)}:wU h o (.slice rows .no)=.slice rows .no:=by cases rows <;> rfl
@[simp] theorem anA {o:kH}{rows:List (List kH)}{id:Nat}:wU h o (.slice rows (.own id))=.slice rows (.own id):=by cases rows <;> rfl
@[simp] theorem S8 {id:Nat}:wU h (.slice [] (.own id)) (.slice [] .nil)=bif sN h id then .slice [] (.own id) else .slice [] .nil:=by
 have e:wU h (.slice [] (.own id)) (.slice [] .nil)=match h[id]? with | some (.front 0 0)=>.slice [] (.own id) | _=>.slice [] .nil:=(rfl)
 rw [e]
 unfold sN
 split <;> rfl
@[simp] theorem PO {rows:List (List kH)}:wU h (.slice rows .no) (.slice [] .nil)=.slice [] .nil:=by cases rows <;> rfl
theorem qB:∀{vs os:List kH},(∀c∈vs,c.isNil=false)→o0 h os vs=vs
 | [],_,_=>by simp
 | v::vs,[],_=>rfl
 | v::vs,o::os,hn=>by
  have h1:=hn v (by simp)
  simp only [Me,wU,h1,cond_false]
  rw [qB fun c hc=>hn c (by simp [hc])]
@[simp] theorem YO {id o off:Nat}:kJ off (.ptr id o)=some (.ptr id (o+off)):=(rfl)
@[simp] theorem XR {cs:List kH}{off:Nat}:kJ off (.pptr cs)=some (.pptr (cs.drop off)):=(rfl)
@[simp] theorem XY {id off:Nat}:kY (.ptr id off)=some (.ptr id off):=(rfl)
@[simp] theorem amQ:kH.cells (.int k a)=[.int k a]:=(rfl)
@[simp] theorem ag7:kH.cells (.bool x)=[.bool x]:=(rfl)
@[simp] theorem amT:kH.cells (.str s)=[.str s]:=(rfl)
@[simp] theorem adX {rows:List (List kH)}{t:Tok}:kH.cells (.slice rows t)=[.slice rows t]:=(rfl)
@[simp] theorem Dn {cs:List kH}:kH.cells (.agg cs)=cs:=(rfl)
@[simp] theorem amR {i:Nat}:kH.cells (.map i)=[.map i]:=(rfl)
@[simp] theorem ag2:kH.lY (.int k a)=true:=(rfl)
@[simp] theorem adV:kH.lY (.bool x)=true:=(rfl)
@[simp] theorem ag5:kH.lY (.str s)=true:=(rfl)
@[simp] theorem LN {rows:List (List kH)}{t:Tok}:kH.lY (.slice rows t)=true:=(rfl)
@[simp] theorem ag3 {i:Nat}:kH.lY (.map i)=true:=(rfl)
@[simp] theorem ah0:kH.oM (.int k a)=false:=(rfl)
@[simp] theorem aeI:kH.oM (.bool x)=false:=(rfl)
@[simp] theorem ah2:kH.oM (.str s)=false:=(rfl)
@[simp] theorem ZG {rows:List (List kH)}{t:Tok}:kH.oM (.slice rows t)=false:=(rfl)
@[simp] theorem ahZ {cs:List kH}:kH.oM (.agg cs)=false:=(rfl)
@[simp] theorem ah1 {i:Nat}:kH.oM (.map i)=false:=(rfl)
@[simp] theorem ar0 {i:Nat}:kH.mT m h (.map i)=bif decide (i < m) then .map i else .junk:=(rfl)
@[simp] theorem acG {i o:Nat}:kH.vL m h (.ptr i o)=kH.mT m h (.ptr i o):=(rfl)
theorem lD {i o:Nat}(hi:i < m):kH.mT m h (.ptr i o)=.ptr i o:=by simp [kH.mT,hi]
@[simp] theorem anZ {i o:Nat}:kH.kN (.ptr i o)=.ptr i o:=(rfl)
@[simp] theorem MP:mW m h []=some []:=(rfl)
@[simp] theorem rR {cs:List kH}:mW m h (v::cs)=bif (v.mT m h).lY then(mW m h cs).map (v.mT m h::·) else none:=by
 simp only [mW]; cases mW m h cs <;> rfl
@[simp] theorem Fj {cs:List kH}:o6 m h (.cells cs)=(mW m h cs).map .cells:=(rfl)
@[simp] theorem MO {i j:Nat}:o6 m h (.front i j)=some (.front i j):=(rfl)
@[simp] theorem aeZ:nA m h []=some []:=(rfl)
@[simp] theorem nS {b:lH}{bs:kL}:nA m h (b::bs)=(o6 m h b).bind fun b'=>(nA m h bs).map (b'::·):=by
 simp only [nA]; cases o6 m h b <;> cases nA m h bs <;> rfl
@[simp] theorem DL {i:Nat}:mN (.str s) (.int k (i:Int))=(s[i]?).map fun b=>.int .u8 b.toNat:=by simp [mN]
@[simp] theorem UF:mN (.str s) (.int k 0)=(s[0]?).map fun b=>.int .u8 b.toNat:=by simp [mN]
theorem pY {lo hi:Option kH}{l u:Nat}(hl:sX lo 0=some l) (hu:sX hi s.length=some u) (h1:l≤u) (h2:u≤s.length):nV (.str s) lo hi=some (.str ((s.drop l).take (u - l))):=by
 simp [nV,hl,hu,h1,h2]
@[simp] theorem UD {i:Nat}{vs:List kH}:lK i (.tuple vs)=vs[i]?:=(rfl)
end
theorem wrap64 {n:Int}(h1:-9223372036854775808≤n) (h2:n≤9223372036854775807):IntKind.wrap .i64 n=n:=by
 simp [IntKind.wrap,IntKind.signed,IntKind.bits]
 split <;> omega
@[simp] theorem EG {α:Type}{enc:α→List kH}{sz:Nat}{xs:List α}{t:Tok}{k:IntKind}{i:Nat} :
  k9 sz (.slice (xs.map enc) t) (.int k (i:Int))=(xs[i]?).bind fun x=>if (enc x).length=sz then some (.pptr (enc x)) else none:=by
 simp only [k9,Int.natCast_nonneg,if_true,Int.toNat_natCast,af6]
 cases xs[i]? <;> rfl
theorem n_ {sz:Nat}{rows:List (List kH)}{t:Tok}{k:IntKind}{n:Int}:k9 sz (.slice rows t) (.int k n)=if 0≤n then(rows[n.toNat]?).bind fun row=>if row.length=sz then some (.pptr row) else none else none:=by
 simp only [k9]
 split
 ·cases rows[n.toNat]? <;> rfl
 ·rfl
@[simp] theorem Pg {n:Nat}{h:kL}{cs:List kH}:kO true n h (.pptr cs)=if n≤cs.length then some (.agg (cs.take n)) else none:=by
 simp [kO,apart]
@[simp] theorem adG {n:Nat}{h:kL}{cs:List kH}:kO false n h (.pptr cs)=cs[0]?:=by
 simp [kO,apart]
theorem EJ {α:Type}{enc:α→List kH}{sz:Nat}{xs:List α}{t:Tok}{lo hi:Option kH}{l u:Nat}(hs:∀x,(enc x).length=sz) (hl:sX lo 0=some l) (hu:sX hi xs.length=some u) (h1:l≤u) (h2:u≤xs.length) :
  sY sz (.slice (xs.map enc) t) lo hi=some (.slice (((xs.drop l).take (u - l)).map enc) .no):=by
 have:((xs.map enc).all fun r=>r.length == sz)=true:=by simp [hs]
 simp only [sY,al2,hl,hu,h1,h2,this,and_self,if_true,List.map_take,List.map_drop]
theorem lA {P:Program}{A:AO}{f:Nat}{args:List kH}{h:kL}{m:Option (nH×kL)}{r:nH×kL}(he:pD P A mL (Iv P A) f args h=m) (hm:m=some r):Iv P A f args h=some r:=Vf (he.trans hm)
theorem lB {A:AO}{K:kX}{f:Nat}{args:List kH}{h:kL}{v:kH}(hp:A.pure f=true) (hs:args.all (kH.nO 0)=true) (hk:K f args []=some (.ret v,[])):lT A K f args h=some (.ret v,h):=by
 simp [lT,hp,hs,hk,BM]
theorem rU {F:List kH×kL→Option R}{σ:Type}(enc:σ→List kH×kL) (inv:σ→Prop) (μ:σ→Nat) (out:σ→R)
  (h:∀s,inv s→(∃s',F (enc s)=some (.normal,enc s')∧inv s'∧μ s' < μ s∧out s'=out s)∨(F (enc s)=some (out s)∧(out s).1≠.normal)):∀s,inv s→mL F (enc s)=some (out s):=by
 have key:∀n s,μ s=n→inv s→mL F (enc s)=some (out s):=by
  intro n
  induction n using Nat.strongRecOn with
  | _ n ih =>
   intro s hn hi
   rw [mY]
   rcases h s hi with ⟨s',e1,e2,e3,e4⟩ | ⟨e1,e2⟩
   ·rw [e1]
    simp only [ae3,nP]
    rw [ih (μ s') (by omega) s' rfl e2,e4]
   ·rw [e1]
    generalize out s=r at e2
    obtain⟨e,l⟩:=r
    cases e <;> first | exact absurd rfl e2 | rfl
 exact fun s hi=>key (μ s) s rfl hi
end
section
open Go
section
variable {k k':IntKind}{a b:Int}{h:kL}{m n id tot off len sz:Nat}{v w:kH}{cs:List kH}
end
end
section
open Go
def Pr:Nat→Nat→List UInt8→List UInt8
 | 0,_,a=>a
 | k+1,n,a=>if n < 10 then am7 (48+n)::a else Pr k (n / 10) (am7 (48+n % 10)::a)
def KV (n:Int):List UInt8:=if n < 0 then 45::Pr 20 n.natAbs [] else Pr 20 n.toNat []
def N6:List kH→Option kH
 | [.int .i64 n]=>if -9223372036854775808≤n∧n≤9223372036854775807 then some (.str (KV n)) else none
 | _=>none
def W7:List kH→Option kH
 | [.str [b],.int .i64 n]=>if 0≤n∧n≤1099511627776 then some (.str (List.replicate n.toNat b)) else none
 | _=>none
end
end Hk
