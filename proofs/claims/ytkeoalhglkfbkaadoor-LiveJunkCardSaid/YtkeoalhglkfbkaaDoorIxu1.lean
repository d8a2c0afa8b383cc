/-
  The texts IX.L26, IX.T1, IX.T2, IX.T3, IX.V, IX.U, one behind another. No conditions.
-/
import Derived.Test.YtkeoalhglkfbkaaDoorIxa1
import Derived.Test.YtkeoalhglkfbkaaDoorProg
import Derived.Shelf.Sort.Plain
import Derived.Shelf.Slices.In.SortNone
import Derived.Lib.SlKeysI
import Derived.Sort.OwnSortedInts
import Derived.Maps.RangeWalk
import Derived.Maps.AppendAt
import Derived.Maps.Ext
import Derived.OwnWalk
import Derived.WalkKit
import Derived.Test.YtkeoalhglkfbkaaDoorVk1
import Derived.Shelf.SlSortCmp.NoneTotal
import Derived.Shelf.SlicesG.Cmp
import Derived.StillTailTactics
import Derived.Test.YtkeoalhglkfbkaaDoorRows
import Derived.Lib.LaidTab
import Derived.LaidMore
import Derived.MakeChecks
import Derived.LaidHandle
import Derived.SevenTiedAt
set_option linter.unusedVariables false
set_option linter.unusedSimpArgs false
set_option linter.unusedSectionVars false
set_option linter.all false

namespace Go.Proofs.YtkeoalhglkfbkaaDoor
open Go Hk
theorem T8:SD Tryd.prog nA (sI 40) 12 26 [] []=some (.ret (.bool true),[]):=by kernel_rfl
theorem c26 (h:kU):KK 26 [] h=some (.ret (.bool true),h):=mD rfl rfl (U1 40 12 26 [] [] _ T8)
end Go.Proofs.YtkeoalhglkfbkaaDoor


namespace Go.Proofs
open Go.Shelf
def Tryd.QS:Go.Shelf.Ren:=⟨fun | 189=>137 | 125=>161 | 257=>177 | 128=>199 | 129=>200 | 294=>220 | 295=>221 | 296=>222 | 297=>223 | 298=>224 | 299=>225 | 216=>189 | 300=>226 | 301=>227 | 328=>245 | 329=>236 | 330=>237 | 331=>246 | 332=>247 | 215=>162 | 343=>256 | n=>n,fun | 28=>39 | 3=>3 | 46=>221 | 0=>0 | 51=>248 | 53=>198 | 4=>4 | 183=>242 | 182=>241 | 131=>192 | 5=>5 | 9=>9 | 218=>268 | 222=>272 | 228=>293 | 229=>291 | n=>n,fun | n=>n⟩
theorem Tryd.U_:Go.Proofs.Lays.n189 Tryd.prog Tryd.QS:={
 mixed:=by kernel_rfl
 f125:=Tryd.func161.trans (congrArg some (by kernel_rfl))
 f128:=Tryd.func199.trans (congrArg some (by kernel_rfl))
 f129:=Tryd.func200.trans (congrArg some (by kernel_rfl))
 f189:=Tryd.func137.trans (congrArg some (by kernel_rfl))
 f215:=Tryd.func162.trans (congrArg some (by kernel_rfl))
 f216:=Tryd.func189.trans (congrArg some (by kernel_rfl))
 f257:=Tryd.func177.trans (congrArg some (by kernel_rfl))
 f294:=Tryd.func220.trans (congrArg some (by kernel_rfl))
 f295:=Tryd.func221.trans (congrArg some (by kernel_rfl))
 f296:=Tryd.func222.trans (congrArg some (by kernel_rfl))
 f297:=Tryd.func223.trans (congrArg some (by kernel_rfl))
 f298:=Tryd.func224.trans (congrArg some (by kernel_rfl))
 f299:=Tryd.func225.trans (congrArg some (by kernel_rfl))
 f300:=Tryd.func226.trans (congrArg some (by kernel_rfl))
 f301:=Tryd.func227.trans (congrArg some (by kernel_rfl))
 f328:=Tryd.func245.trans (congrArg some (by kernel_rfl))
 f329:=Tryd.func236.trans (congrArg some (by kernel_rfl))
 f330:=Tryd.func237.trans (congrArg some (by kernel_rfl))
 f331:=Tryd.func246.trans (congrArg some (by kernel_rfl))
 f332:=Tryd.func247.trans (congrArg some (by kernel_rfl))
 f343:=Tryd.func256.trans (congrArg some (by kernel_rfl))
 t0:=Tryd.underlying0
 a0:=Tryd.isAgg0
 z0:=Tryd.sizeOf0
 v0:=Tryd.zeroValue0
 t3:=Tryd.underlying3
 a3:=Tryd.isAgg3
 z3:=Tryd.sizeOf3
 v3:=Tryd.zeroValue3
 t4:=Tryd.underlying4
 a4:=Tryd.isAgg4
 z4:=Tryd.sizeOf4
 v4:=Tryd.zeroValue4
 t5:=Tryd.underlying5
 a5:=Tryd.isAgg5
 z5:=Tryd.sizeOf5
 v5:=Tryd.zeroValue5
 t9:=Tryd.underlying9
 a9:=Tryd.isAgg9
 z9:=Tryd.sizeOf9
 v9:=Tryd.zeroValue9
 t28:=Tryd.underlying39
 a28:=Tryd.isAgg39
 z28:=Tryd.sizeOf39
 v28:=Tryd.zeroValue39
 t46:=Tryd.underlying221
 a46:=Tryd.isAgg221
 z46:=Tryd.sizeOf221
 v46:=Tryd.zeroValue221
 t51:=Tryd.underlying248
 a51:=Tryd.isAgg248
 z51:=Tryd.sizeOf248
 v51:=Tryd.zeroValue248
 t53:=Tryd.underlying198
 a53:=Tryd.isAgg198
 z53:=Tryd.sizeOf198
 v53:=Tryd.zeroValue198
 t131:=Tryd.underlying192
 a131:=Tryd.isAgg192
 z131:=Tryd.sizeOf192
 v131:=Tryd.zeroValue192
 t182:=Tryd.underlying241
 a182:=Tryd.isAgg241
 z182:=Tryd.sizeOf241
 v182:=Tryd.zeroValue241
 t183:=Tryd.underlying242
 a183:=Tryd.isAgg242
 z183:=Tryd.sizeOf242
 v183:=Tryd.zeroValue242
 t218:=Tryd.underlying268
 a218:=Tryd.isAgg268
 z218:=Tryd.sizeOf268
 v218:=Tryd.zeroValue268
 t222:=Tryd.underlying272
 a222:=Tryd.isAgg272
 z222:=Tryd.sizeOf272
 v222:=Tryd.zeroValue272
 t228:=Tryd.underlying293
 a228:=Tryd.isAgg293
 z228:=Tryd.sizeOf293
 v228:=Tryd.zeroValue293
 t229:=Tryd.underlying291
 a229:=Tryd.isAgg291
 z229:=Tryd.sizeOf291
 v229:=Tryd.zeroValue291 }
open Go.Sort Go.RowKit in
theorem Tryd.slices_Sort_int (nV off cap:Nat) (zs:List Int) (w:World) (hH:Holds (Value.int .i64) w nV off zs.toArray) (hblk:nV < w.heap.size) (hsz:zs.length < 4611686018427387904) :
  Calls Tryd.prog 137 #[.slice (some ⟨nV,off,none⟩) zs.length cap] w fun e w' =>
   e=.returned (.tuple #[])∧∃n os,w'=grow (putRow (Value.int .i64) (Sort.ahead w n) nV off (zs.mergeSort fun x y=>decide (x≤y)).toArray) os:=Any.slices_Sort_int Tryd.U_ nV off cap zs w hH hblk hsz
open Go.RowKit Go.Sort in
theorem Tryd.slices_Sort_int_none (p:Option Addr) (cap:Nat) (w:World) :
  Calls Tryd.prog 137 #[.slice p 0 cap] w fun e w'=>e=.returned (.tuple #[])∧w'=w:=Any.slices_Sort_int_none Tryd.U_ p cap w
end Go.Proofs
namespace Go.Proofs.YtkeoalhglkfbkaaDoor
open Go Go.RowKit Go.Maps Go.Sort Go.ChangeShapes Go.WideShapes
theorem aoT:Keyed Tryd.prog 3:=int_keyed Tryd.underlying3
theorem axN:(Tryd.prog.info? 3).map (fun i=>(i.zero,i.size,i.bytes))=some (some (.int .i64 0),1,8):=by kernel_rfl
set_option maxRecDepth 1000000 in
set_option maxHeartbeats 3200000 in
theorem Uh {W:World}(bm n:Nat) (D0:DataW Unit) (hown:W.ownsMap Tryd.prog 3 (plainElem (H:=Unit) Tryd.prog 3) bm n D0) (hreach:Maps.size D0≤1048576) :
  Calls Tryd.prog 72 #[.map (some bm)] W fun e w'=>Below W.heap.size W w'∧∃ks:List Int,ks.Perm (intKeys D0)∧∃V,e=.returned V ∧
   ((ks=[]∧V=.slice none 0 0)∨∃g cap,V=.slice (some ⟨g,0,none⟩) ks.length cap∧ks.length≤cap∧W.heap.size≤g∧w'.ownsRow W.heap.size 3 1 V ks.length ((ks.mergeSort fun x y=>decide (x≤y)).map (Value.int .i64))):=by
 obtain⟨i0,hi,hz0,hz1,hz2⟩:=info_parts axN
 have hbl:=hown.lt
 go_enter Tryd.func72,Tryd.ntmps72
 go_wp2_with (first
  | (at_range; refine wpList_range_own _ rfl _ 133 rfl 3 3 aoT Tryd.underlying133 _ bm n _ rfl hown ?_; intro w0 hrg0 hg0 hs0)
  | go_in)
 go_frame
 go_loopw [3] (fun v wr=>∃(left:Lit→Bool) (cnt:Nat) (ks:List Int),wr.ranges Tryd.prog 3 (plainElem (H:=Unit) Tryd.prog 3) bm W.heap.size n D0 left cnt ∧
   wr.ownsRow W.heap.size 3 1 v ks.length (ks.map (Value.int .i64))∧ks.length+cnt≤Maps.size D0∧CollectedI D0 left ks∧Below W.heap.size W wr)
  (fun _ wr=>wr.rangeLeft bm W.heap.size)
 case atStart =>
  exact⟨_,_,[],hrg0,World.ownsRow_nil _ _ _ _,by simp,CollectedI.start D0,(Below.refl _ _).grown hg0 (Nat.le_refl _) (fun j hj=>by cases hj)⟩
 case round =>
  obtain⟨left,cnt,ks,hrg,hrow,hlen,hC,hnx⟩:=hrel
  go_wp2_with (first
   | (at_next; refine wpList_next_ranges_ii _ rfl _ rfl 3 3 .i64 .i64 aoT Tryd.underlying3 Tryd.underlying3 bm W.heap.size n _ _ _ rfl hrg ?_ ?_)
   | go_in)
  ·-- NOTHING IS LEFT: the sort
   intro hc0 hl0
   have hp:=hC.perm hown aoT Tryd.underlying3 hl0
   rcases hrow.2 with ⟨hnil,hk0⟩ | ⟨g,cap,cur,hv,hbase,hb,h1,h2,h3,h4⟩
   ·subst hnil
    obtain rfl:ks=[]:=List.eq_nil_of_length_eq_zero hk0
    clear hrg
    go_wp2_with (go_at_call 137; refine(Tryd.slices_Sort_int_none none 0 _).mono ?_; rintro e w' ⟨rfl,rfl⟩)
    go_ret
    exact⟨hnx,[],hp,_,rfl,.inl ⟨rfl,rfl⟩⟩
   ·subst hv
    have hH:Holds (Value.int .i64) wr g 0 ks.toArray:=holds_of_blockI hb (by simpa using h4)
    have hgl:g < wr.heap.size:=(Array.getElem?_eq_some_iff.1 hb).1
    have hsort:=Tryd.slices_Sort_int g 0 cap ks wr hH hgl (by omega)
    clear hrg hH
    go_wp2_with (go_at_call 137; refine hsort.mono ?_; rintro e w' ⟨rfl,nn,os,rfl⟩)
    go_ret
    have hg:=grownBy_sortedI (w:=wr) (g:=g) (n:=nn) (os:=os) (ks.mergeSort fun x y=>decide (x≤y)).toArray
    have hro:=ownsRow_sortedI (n:=nn) (os:=os) (ts:=ks.mergeSort fun x y=>decide (x≤y)) (List.length_mergeSort ks) hbase hb h1 h2 h3
    exact⟨hnx.grown hg hnx.size (fun j hj=>by cases hj; exact hbase),ks,hp,_,rfl,.inr ⟨g,cap,rfl,h1,hbase,hro⟩⟩
  ·-- AN ENTRY HAS COME
   intro x c w1 cnt1 hwx hwc hlx hat hrg1 hlt hg1 hs1 hen
   have hm0:wr.rangeLeft bm W.heap.size=cnt:=hrg.left_eq
   have hrow1:=hrow.kept hg1 (Or.inr (row_ne_iter hrow hrg).symm)
   have hszW:=hnx.size
   have hsz1:=hg1.size
   clear hs1
   go_wp2_with (first
    | (at_builtin; refine wpList_append_own_at _ rfl _ _ 39 rfl W.heap.size 3 i0 (.int .i64 0) 1 8 Tryd.underlying39 hi hz0 hz1 hz2 rfl (by decide) _ _ _ rfl (hrow1.alloc _) ⟨w1.heap.size,0,none⟩ 1 1 [.int .i64 x] rfl rfl ?c1 ?c2 ?c3 ?c4 ?c5 ?_)
    | go_in)
   case c1 =>
    intro j u hj
    match j,hj with
    | 0,hj=>simp at hj; subst hj; simp [Addr.add]
   case c2=>intro u hu; simp at hu; subst hu; rfl
   case c3=>unfold maxLen; omega
   case c4=>omega
   case c5=>simp; omega
   ·intro v' w4 hown' hgrow _ hloc
    have hrg4:=(hrg1.alloc (.cells #[.int .i64 x] 3)).kept hgrow (row_ne_low (hrow1.alloc (.cells #[.int .i64 x] 3)) hbl) (row_ne_iter (hrow1.alloc (.cells #[.int .i64 x] 3)) (hrg1.alloc (.cells #[.int .i64 x] 3)))
    have hrow4:w4.ownsRow W.heap.size 3 1 v' (ks++[x]).length ((ks++[x]).map (Value.int .i64)):=by simpa using hown'
    have hnx4:Below W.heap.size W w4:=((hnx.grown hg1 hnx.size (fun j hj=>by cases hj; exact Nat.le_refl _)).alloc (by omega) _).grown hgrow (by simp; omega) (fun j hj=>((hrow1.alloc (.cells #[.int .i64 x] 3)).lt j hj).1)
    clear hown' hgrow hloc hrow hrg
    go_wp2
    go_roundw
    case rel=>exact⟨_,cnt1,ks++[x],hrg4,hrow4,by simp; omega,hC.step hlx hat,hnx4⟩
    case measure=>rw [hrg4.left_eq,hm0]; omega
end Go.Proofs.YtkeoalhglkfbkaaDoor


namespace Go.Proofs.YtkeoalhglkfbkaaDoor
open Go Go.RowKit Go.Maps Go.Sort Go.ChangeShapes Go.WideShapes Hk
theorem afN (X:Array Value) (w:World):(callFunc 72 X).run Tryd.prog w=.ok (.enter 72 X) w:=by
 have hne:(Tryd.f72.name == "runtime.NumGoroutine")=false:=by kernel_rfl
 have hb:∃c,Tryd.f72.body=some c:=⟨_,rfl⟩
 obtain⟨c,hc⟩:=hb
 simp [callFunc,Sem.run_bind,Tryd.func72,hc,beq_eq_false_iff_ne.1 hne,Sem.run_pure]
theorem Rt:JV Tryd.prog 72:=by
 refine⟨afN,fun w b E clock ns hb hst hk hv hw hl=>?_⟩
 have hEl:E.toList.length=ns.length:=by
  have:=congrArg List.length hk
  simpa using this
 have hread:∀x∈E.toList,∃n v,x.key=.int .i64 n∧WideElems.rd Tryd.prog 3 (plainElem (H:=Unit) Tryd.prog 3) x=some (.int .i64 n,.lit (.int .i64 v)):=by
  intro x hx
  have hkm:x.key∈E.toList.map (·.key):=List.mem_map.2 ⟨x,hx,rfl⟩
  rw [hk] at hkm
  obtain⟨n,hn,hnk⟩:=List.mem_map.1 hkm
  obtain⟨v,hv1,hv2⟩:=hv x hx
  refine⟨n,v,hnk.symm,?_⟩
  have e1:x=⟨.int .i64 n,.int .i64 v,x.born⟩:=by cases x; simp_all
  rw [e1]
  exact WideElems.rd_mk (keyOf_int_mk Tryd.underlying3 (hw n hn)) (plainElem_int Tryd.underlying3 hv2)
 have F:WideElems.Fit Tryd.prog 3 (plainElem (H:=Unit) Tryd.prog 3) E clock:=⟨by
  have:E.size=ns.length:=by simpa using hEl
  unfold maxLen; omega,hst,fun x hx=>by obtain⟨n,v,_,h2⟩:=hread x hx; exact⟨_,h2⟩⟩
 have hown:=World.ownsMap_of_fit (R:=plainElem (H:=Unit) Tryd.prog 3) hb F (fun _ _ _ h=>h)
 have hsz:Maps.size (.map ((E.toList.map (WideElems.rg Tryd.prog 3 (plainElem (H:=Unit) Tryd.prog 3))).foldr DataW.insert []))≤1048576:=by
  simp only [Maps.size,length_read]
  have:E.size=ns.length:=by simpa using hEl
  omega
 have hperm:(intKeys (.map ((E.toList.map (WideElems.rg Tryd.prog 3 (plainElem (H:=Unit) Tryd.prog 3))).foldr DataW.insert []))).Perm ns:=by
  have h1:(intKeys (.map ((E.toList.map (WideElems.rg Tryd.prog 3 (plainElem (H:=Unit) Tryd.prog 3))).foldr DataW.insert []))).Perm ((E.toList.map (WideElems.rg Tryd.prog 3 (plainElem (H:=Unit) Tryd.prog 3))).map fun p=>Go.intOf p.1):=(sorted_perm _).map _
  refine h1.trans ?_
  have h2:(E.toList.map (WideElems.rg Tryd.prog 3 (plainElem (H:=Unit) Tryd.prog 3))).map (fun p=>Go.intOf p.1)=ns:=by
   have h3:((E.toList.map (WideElems.rg Tryd.prog 3 (plainElem (H:=Unit) Tryd.prog 3))).map (fun p=>Go.intOf p.1)).map (Value.int .i64)=ns.map (Value.int .i64):=by
    rw [←hk,List.map_map,List.map_map]
    apply List.map_congr_left
    intro x hx
    obtain⟨n,v,h4,h5⟩:=hread x hx
    simp [WideElems.rg_of h5,Go.intOf,h4]
   exact(List.map_inj_right (fun a b h=>by simpa using h)).1 h3
  rw [h2]
 refine(Uh b E.size _ hown hsz).mono ?_
 rintro e w' ⟨h1,ks,hp,V,rfl,h2⟩
 have hpn:=hp.trans hperm
 have hln:=hpn.length_eq
 refine⟨h1,V,rfl,?_⟩
 rcases h2 with ⟨rfl,rfl⟩ | ⟨g,cap,rfl,h3,h4,h5⟩
 ·exact .inl ⟨by simpa using hpn.symm,none,0,rfl⟩
 ·refine .inr ⟨g,cap,by rw [hln],by omega,h4,fun j n hj=>?_⟩
  have hm:(ks.mergeSort fun x y=>decide (x≤y))=ns.mergeSort fun x y=>decide (x≤y):=mergeSort_of_perm_i hpn
  rw [hm] at h5
  have hjl:j < ks.length:=by
   have:=(List.getElem?_eq_some_iff.1 hj).1
   rw [List.length_mergeSort] at this
   omega
  rcases h5.2 with ⟨h6,_⟩ | ⟨g',cap',cur,hv',_,hbk,_,_,_,h9⟩
  ·cases h6
  ·cases hv'
   have:cur[j]?=some (.int .i64 n):=by
    have h10:(cur.toList.take (ks.length * 1))[j]?=some (.int .i64 n):=by
     rw [h9,List.getElem?_map,hj]; rfl
    rw [List.getElem?_take,if_pos (by omega),Array.getElem?_toList] at h10
    exact h10
   simp [World.cell?,hbk,this]
#print axioms Rt
end Go.Proofs.YtkeoalhglkfbkaaDoor


namespace Go.Proofs
open Go.Shelf
def Tryd.Nz:Go.Shelf.Ren:=⟨fun | 6=>85 | 15=>161 | 14=>160 | 28=>199 | 29=>200 | 20=>191 | 21=>192 | 22=>193 | 23=>194 | 24=>195 | 25=>196 | 26=>197 | 27=>198 | 46=>235 | 47=>236 | 48=>237 | 49=>238 | 50=>239 | 57=>255 | n=>n,fun | 22=>39 | 24=>3 | 25=>162 | 3=>3 | 39=>221 | 0=>0 | 53=>248 | 55=>198 | 4=>4 | 46=>242 | 45=>241 | 50=>192 | 5=>5 | 9=>9 | 66=>268 | 70=>272 | 76=>293 | 77=>291 | n=>n,fun | n=>n⟩
theorem Tryd.I6:Go.Proofs.SlLaysF.n6 Tryd.prog Tryd.Nz:={
 mixed:=by kernel_rfl
 f6:=⟨Tryd.f85.name,by decide,Tryd.func85.trans (congrArg some (by kernel_rfl))⟩
 f14:=⟨Tryd.f160.name,by decide,Tryd.func160.trans (congrArg some (by kernel_rfl))⟩
 f15:=Tryd.func161.trans (congrArg some (by kernel_rfl))
 f20:=⟨Tryd.f191.name,by decide,Tryd.func191.trans (congrArg some (by kernel_rfl))⟩
 f21:=⟨Tryd.f192.name,by decide,Tryd.func192.trans (congrArg some (by kernel_rfl))⟩
 f22:=⟨Tryd.f193.name,by decide,Tryd.func193.trans (congrArg some (by kernel_rfl))⟩
 f23:=⟨Tryd.f194.name,by decide,Tryd.func194.trans (congrArg some (by kernel_rfl))⟩
 f24:=⟨Tryd.f195.name,by decide,Tryd.func195.trans (congrArg some (by kernel_rfl))⟩
 f25:=⟨Tryd.f196.name,by decide,Tryd.func196.trans (congrArg some (by kernel_rfl))⟩
 f26:=⟨Tryd.f197.name,by decide,Tryd.func197.trans (congrArg some (by kernel_rfl))⟩
 f27:=⟨Tryd.f198.name,by decide,Tryd.func198.trans (congrArg some (by kernel_rfl))⟩
 f28:=Tryd.func199.trans (congrArg some (by kernel_rfl))
 f29:=Tryd.func200.trans (congrArg some (by kernel_rfl))
 f46:=⟨Tryd.f235.name,by decide,Tryd.func235.trans (congrArg some (by kernel_rfl))⟩
 f47:=Tryd.func236.trans (congrArg some (by kernel_rfl))
 f48:=Tryd.func237.trans (congrArg some (by kernel_rfl))
 f49:=⟨Tryd.f238.name,by decide,Tryd.func238.trans (congrArg some (by kernel_rfl))⟩
 f50:=⟨Tryd.f239.name,by decide,Tryd.func239.trans (congrArg some (by kernel_rfl))⟩
 f57:=⟨Tryd.f255.name,by decide,Tryd.func255.trans (congrArg some (by kernel_rfl))⟩
 t0:=Tryd.underlying0
 a0:=Tryd.isAgg0
 z0:=Tryd.sizeOf0
 v0:=Tryd.zeroValue0
 t3:=Tryd.underlying3
 a3:=Tryd.isAgg3
 z3:=Tryd.sizeOf3
 v3:=Tryd.zeroValue3
 t4:=Tryd.underlying4
 a4:=Tryd.isAgg4
 z4:=Tryd.sizeOf4
 v4:=Tryd.zeroValue4
 t5:=Tryd.underlying5
 a5:=Tryd.isAgg5
 z5:=Tryd.sizeOf5
 v5:=Tryd.zeroValue5
 t9:=Tryd.underlying9
 a9:=Tryd.isAgg9
 z9:=Tryd.sizeOf9
 v9:=Tryd.zeroValue9
 t22:=Tryd.underlying39
 a22:=Tryd.isAgg39
 z22:=Tryd.sizeOf39
 v22:=Tryd.zeroValue39
 a24:=Tryd.isAgg3
 z24:=Tryd.sizeOf3
 t25:=Tryd.underlying162
 a25:=Tryd.isAgg162
 z25:=Tryd.sizeOf162
 v25:=Tryd.zeroValue162
 t39:=Tryd.underlying221
 a39:=Tryd.isAgg221
 z39:=Tryd.sizeOf221
 v39:=Tryd.zeroValue221
 t45:=Tryd.underlying241
 a45:=Tryd.isAgg241
 z45:=Tryd.sizeOf241
 v45:=Tryd.zeroValue241
 t46:=Tryd.underlying242
 a46:=Tryd.isAgg242
 z46:=Tryd.sizeOf242
 v46:=Tryd.zeroValue242
 t50:=Tryd.underlying192
 a50:=Tryd.isAgg192
 z50:=Tryd.sizeOf192
 v50:=Tryd.zeroValue192
 t53:=Tryd.underlying248
 a53:=Tryd.isAgg248
 z53:=Tryd.sizeOf248
 v53:=Tryd.zeroValue248
 t55:=Tryd.underlying198
 a55:=Tryd.isAgg198
 z55:=Tryd.sizeOf198
 v55:=Tryd.zeroValue198
 t66:=Tryd.underlying268
 a66:=Tryd.isAgg268
 z66:=Tryd.sizeOf268
 v66:=Tryd.zeroValue268
 t70:=Tryd.underlying272
 a70:=Tryd.isAgg272
 z70:=Tryd.sizeOf272
 v70:=Tryd.zeroValue272
 t76:=Tryd.underlying293
 a76:=Tryd.isAgg293
 z76:=Tryd.sizeOf293
 v76:=Tryd.zeroValue293
 t77:=Tryd.underlying291
 a77:=Tryd.isAgg291
 z77:=Tryd.sizeOf291
 v77:=Tryd.zeroValue291 }
def Tryd.Zd:Go.Shelf.Ren:=⟨fun | 5=>88 | 7=>162 | n=>n,fun | 22=>3 | 3=>3 | 4=>4 | n=>n,fun | n=>n⟩
theorem Tryd.aBl:Go.Proofs.SlLaysC2.n5 Tryd.prog Tryd.Zd:={
 mixed:=by kernel_rfl
 f5:=⟨Tryd.f88.name,by decide,Tryd.func88.trans (congrArg some (by kernel_rfl))⟩
 f7:=⟨Tryd.f162.name,by decide,Tryd.func162.trans (congrArg some (by kernel_rfl))⟩
 t3:=Tryd.underlying3
 a3:=Tryd.isAgg3
 z3:=Tryd.sizeOf3
 v3:=Tryd.zeroValue3
 t4:=Tryd.underlying4
 a4:=Tryd.isAgg4
 z4:=Tryd.sizeOf4
 v4:=Tryd.zeroValue4
 t22:=Tryd.underlying3
 a22:=Tryd.isAgg3
 z22:=Tryd.sizeOf3
 v22:=Tryd.zeroValue3 }
end Go.Proofs
namespace Go.Proofs.YtkeoalhglkfbkaaDoor
open Go Go.RowKit Go.Sort Go.Lib
set_option maxRecDepth 1000000 in
set_option maxHeartbeats 3200000 in
theorem or2 (a b:Int) (W:World) (g o cap:Nat) (h0:W.cell? ⟨g,o,none⟩=some (.int .i64 a)) (h1:W.cell? ⟨g,o+1,none⟩=some (.int .i64 b)) :
  Calls Tryd.prog 87 #[.slice (some ⟨g,o,none⟩) 2 cap] W fun e w'=>e=.returned (.int .i64 (if a=0 then b else a))∧w'=W:=by
 go_enter Tryd.func87,Tryd.ntmps87
 go_wp2
 go_loop [8] (fun i=>∃k:Nat,k≤2∧i=.int .i64 k∧(1≤k→a=0)∧(2≤k→b=0)) (fun i=>2 - (intOf i).toNat)
 case atStart=>exact⟨0,by omega,rfl,by omega,by omega⟩
 case round =>
  obtain⟨k,hk,rfl,ha,hb⟩:=hrel
  rcases (show k=0∨k=1∨k=2 by omega) with rfl | rfl | rfl
  ·go_wp2
   case roundEnd =>
    go_round
    case rel=>exact⟨1,by omega,rfl,fun _=>by simp_all,by omega⟩
    case measure=>simp [intOf]
   all_goals (first | (exfalso; simp_all; done) | (go_ret; simp_all))
  ·go_wp2
   case roundEnd =>
    go_round
    case rel=>exact⟨2,by omega,rfl,fun _=>by simp_all,fun _=>by simp_all⟩
    case measure=>simp [intOf]
   all_goals (first | (exfalso; simp_all; done) | (go_ret; simp_all))
  ·go_wp2
   go_ret
   simp_all
theorem Za (W:World) (a b:Value):(W.alloc (.cells #[a,b] 3)).cell? ⟨W.heap.size,0,none⟩=some a∧(W.alloc (.cells #[a,b] 3)).cell? ⟨W.heap.size,0+1,none⟩=some b:=by
 have h:(W.alloc (.cells #[a,b] 3)).heap[W.heap.size]?=some (.cells #[a,b] 3):=by
  show(W.heap.push (Obj.cells #[a,b] 3))[W.heap.size]?=_
  simp
 exact⟨by rw [Hk.cell_of _ _ _ h]; rfl,by rw [Hk.cell_of _ _ _ h]; rfl⟩
theorem akS (x y:Int) (W:World):Calls Tryd.prog 88 #[.int .i64 x,.int .i64 y] W fun e w'=>e=.returned (.int .i64 (Lib.compareInt x y))∧w'=W:=AnyG.cmp_Compare_int Tryd.aBl x y W
def ZI (a b x y:Int):Int:=if Lib.compareInt a b=0 then Lib.compareInt x y else Lib.compareInt a b
set_option maxRecDepth 1000000 in
set_option maxHeartbeats 3200000 in
theorem aw7 (x y a b:Int) (W:World) (pb po sb so len cp:Nat) (hp:W.cell? ⟨pb,po,none⟩=some (.slice (some ⟨sb,so,none⟩) len cp))
  (x0:0≤x) (x1:x.toNat < len) (ha:W.cell? ⟨sb,so+x.toNat * 2,none⟩=some (.int .i64 a)) (y0:0≤y) (y1:y.toNat < len) (hb:W.cell? ⟨sb,so+y.toNat * 2,none⟩=some (.int .i64 b)) :
  Calls Tryd.prog 86 #[.int .i64 x,.int .i64 y,.pointer (some ⟨pb,po,none⟩)] W fun e w'=>e=.returned (.int .i64 (ZI a b x y))∧∃q os,w'=grow (W.drewN q) os:=by
 have hc1:=fun w=>akS a b w
 have hc2:=fun w=>akS x y w
 have hx:(x.toNat:Int)=x:=Int.toNat_of_nonneg x0
 have hy:(y.toNat:Int)=y:=Int.toNat_of_nonneg y0
 unfold ZI
 generalize Lib.compareInt a b=ca at *
 generalize Lib.compareInt x y=cb at *
 obtain⟨nx,rfl⟩:∃n:Nat,x=n:=⟨_,hx.symm⟩
 obtain⟨ny,rfl⟩:∃n:Nat,y=n:=⟨_,hy.symm⟩
 simp only [Int.toNat_natCast] at *
 go_enter Tryd.func86,Tryd.ntmps86
 go_wp2
 go_still_tail 14,(by kernel_rfl)
 still_call (hc1 _)
 repeat still_step
 still_call (hc2 _)
 refine wpStill_nil ?_
 change wpList _ _ _ _ _ W.drew
 generalize hW2:W.drew=W2
 go_wp2_with (go_at_call 87; refine(or2 ca cb _ _ 0 _ ?_ ?_).mono ?_)
 case refine_1=>exact(Za ..).1
 case refine_2=>exact(Za ..).2
 all_goals
  go_ret
  exact⟨rfl,1,#[_],by subst hW2; rw [alloc_eq_grow]; rfl⟩
theorem af9 {a b x y:Int}:ZI a b x y < 0↔(a < b∨(a=b∧x < y)):=by
 unfold ZI Lib.compareInt
 split <;> split <;> (try split) <;> (try split) <;> omega
section
variable {zs:List Int}{key:Int→Int}
def Oi (zs:List Int) (key:Int→Int) (x y:{x // x∈zs}):Int:=ZI (key x.1) (key y.1) x.1 y.1
theorem Va {x y:{x // x∈zs}}:ltOf (Oi zs key) x y=true↔(key x.1 < key y.1∨(key x.1=key y.1∧x.1 < y.1)):=by
 unfold ltOf Oi
 rw [decide_eq_true_iff,af9]
theorem Gy {x y:{x // x∈zs}}:ltOf (Oi zs key) x y=false↔¬(key x.1 < key y.1∨(key x.1=key y.1∧x.1 < y.1)):=by
 rw [←Va (key:=key),Bool.not_eq_true]
theorem acS:SWO (ltOf (Oi zs key)) where
 irrefl x:=by rw [Gy]; omega
 trans x y z h1 h2:=by rw [Va] at *; omega
 ntrans x y z h1 h2:=by rw [Gy] at *; omega
theorem ZK {x y:Int}:Hk.sE key x y=true↔(key x < key y∨(key x=key y∧x≤y)):=by
 unfold Hk.sE
 simp
end
theorem ZJ {zs:List Int}{key:Int→Int}{x y:{x // x∈zs}}:(!ltOf (Oi zs key) y x)=Hk.sE key x.1 y.1:=by
 rw [Bool.eq_iff_iff,ZK,Bool.not_eq_true',Gy]
 omega
theorem acI:Hk.JU Tryd.prog 85 86:=by
 refine⟨enters_of Tryd.func85 (by kernel_rfl) rfl,?_,?_⟩
 ·intro a cap F C w
  exact AnyF.slices_SortFunc_none (ρ:=Tryd.Nz) { Tryd.I6 with } a cap (.func (.func 86) F C) w
 ·intro w nV cap C e zs pb po sb so len cp key hblk hne hlen hC hpt hpb hsb hkey
  have:Inhabited {x // x∈zs}:=⟨⟨zs.head hne,List.head_mem hne⟩⟩
  have hbl:nV < w.heap.size:=(Array.getElem?_eq_some_iff.1 hblk).1
  have hpl:pb < w.heap.size:=by
   refine Classical.byContradiction fun h=>?_
   rw [World.cell?,Array.getElem?_eq_none (by simpa using h)] at hpt
   simp at hpt
  have hsl:sb < w.heap.size:=by
   refine Classical.byContradiction fun h=>?_
   obtain⟨y,hy⟩:=List.exists_mem_of_ne_nil _ hne
   have h3:=(hkey y hy).2.2
   rw [World.cell?,Array.getElem?_eq_none (by simpa using h)] at h3
   simp at h3
  let enc:{x // x∈zs}→Value:=fun x=>.int .i64 x.1
  have hds:zs.attach.toArray.size=zs.length:=by simp
  have hdj:∀j (hj:j < zs.length),zs.attach.toArray[j]! = ⟨zs[j],List.getElem_mem hj⟩:=by
   intro j hj
   rw [getElem!_pos _ _ (by simpa using hj)]
   simp
  have hH:Holds enc w nV 0 zs.attach.toArray:=by
   intro j hj
   rw [hds] at hj
   rw [hdj j hj]
   refine⟨?_,by simp [World.frozen?,hblk]⟩
   rw [Hk.cell_of w _ _ hblk,Nat.zero_add]
   exact hC j _ (List.getElem?_eq_getElem hj)
  have hcmp:CmpLays1 Tryd.prog 86 #[.pointer (some ⟨pb,po,none⟩)] enc (Oi zs key) nV 0 zs.attach.toArray.size w:=by
   intro m os dk hs x y
   have o1:∀b k,b≠nV→b < w.heap.size→(sortWorld enc w nV 0 m dk os).cell? ⟨b,k,none⟩=w.cell? ⟨b,k,none⟩:=fun b k h1 h2=>by
    unfold sortWorld
    rw [cell?_grow _ _ _ (by rw [size_putRow]; exact h2),cell?_putRow_other _ _ _ _ _ _ (Or.inl h1)]
    rfl
   obtain⟨x0,x1,x2⟩:=hkey x.1 x.2
   obtain⟨y0,y1,y2⟩:=hkey y.1 y.2
   exact aw7 x.1 y.1 (key x.1) (key y.1) (sortWorld enc w nV 0 m dk os) pb po sb so len cp (by rw [o1 _ _ hpb hpl]; exact hpt) x0 x1 (by rw [o1 _ _ hsb hsl]; exact x2) y0 y1 (by rw [o1 _ _ hsb hsl]; exact y2)
  have eg:∀args w,(callFunc 86 args).run Tryd.prog w=.ok (.enter 86 args) w:=enters_of Tryd.func86 (by kernel_rfl) rfl
  have key1:=Any.slices_SortFunc Tryd.I6 enc (fun _=>rfl) (Oi zs key) acS 86 #[.pointer (some ⟨pb,po,none⟩)] nV 0 cap zs.attach.toArray w eg hcmp hH hbl (by rw [hds]; omega)
  rw [hds] at key1
  refine Calls.mono key1 fun e' w' hp=>?_
  obtain⟨rfl,d',n,os,hp,hso,rfl⟩:=hp
  rw [←hds] at hp hso
  have hu:=sorted_unique_holds (lt:=ltOf (Oi zs key)) acS (fun x y h1 h2=>by
   rw [Gy] at h1 h2
   exact Subtype.ext (by omega)) zs.attach.toArray d' hp hso
  have hmap:d'.toList.map (fun x=>x.1)=zs.mergeSort (Hk.sE key):=by
   rw [hu]
   exact(List.map_mergeSort (f:=fun x:{x // x∈zs}=>x.1) (r:=fun x y=>!ltOf (Oi zs key) y x) (s:=Hk.sE key) (l:=zs.attach.toArray.toList) (fun a _ b _=>ZJ)).trans (by simp)
  have hdl:d'.size=zs.length:=hp.1.trans hds
  refine⟨rfl,rfl,rfl,rfl,os,?_⟩
  show(w.heap.modify nV (onCells (Go.Sort.putCells enc 0 d')))++os=_
  congr 1
  unfold World.setRow
  have hrow:Go.Sort.putCells enc 0 d' C=((zs.mergeSort (Hk.sE key)).map (Value.int .i64)++C.toList.drop zs.length).toArray:=by
   have hCl:zs.length≤C.size:=by
    have:=hC (zs.length - 1) _ (List.getElem?_eq_getElem (by have:=List.length_pos_iff.2 hne; omega))
    have:=(Array.getElem?_eq_some_iff.1 this).1
    omega
   rw [←hmap]
   apply Array.ext_getElem?
   intro k
   unfold Go.Sort.putCells
   rw [Array.getElem?_mapIdx]
   conv=>rhs; rw [List.getElem?_toArray]
   by_cases hk:k < d'.size
   ·rw [List.getElem?_append_left (by simp; omega),Array.getElem?_eq_getElem (by omega)]
    have:d'.toList[k]?=some d'[k]:=by simp [hk]
    rw [List.map_map,List.getElem?_map,this]
    simp [hk,getElem!_pos d' k hk,enc]
   ·rw [List.getElem?_append_right (by simp; omega),List.getElem?_drop]
    have e1:zs.length+(k - (List.map (Value.int .i64) (List.map (fun x=>x.val) d'.toList)).length)=k:=by simp; omega
    rw [e1,Array.getElem?_toList]
    cases C[k]? with
    | none=>rfl
    | some v=>simp [hk]
  apply Array.ext_getElem?
  intro k
  simp only [Array.getElem?_modify]
  by_cases hk:nV=k
  ·subst hk
   rw [if_pos rfl,if_pos rfl,hblk]
   simp only [Option.map_some,onCells,hrow]
  ·rw [if_neg hk,if_neg hk]
end Go.Proofs.YtkeoalhglkfbkaaDoor


namespace Go.Proofs.YtkeoalhglkfbkaaDoor
open Go Hk
theorem u7 (n:Nat):Rd Tryd.prog n 3 (fun z:Int=>[.int .i64 z]) (fun z=>(Lit.int .i64 z).wf=true):=.int Tryd.underlying3
theorem aCb (n:Nat):Rd Tryd.prog n 83 Op.cells (fun _=>True):=by
 refine Rd.mono (n:=n+1) (by omega) ?_
 refine(Rd.struct (n:=n) (total:=6) Tryd.underlying83 (by kernel_rfl)
  (.cons (sz:=1) rfl (by kernel_rfl) (u7 n) (.cons (sz:=1) rfl (by kernel_rfl) (u7 n) (.cons (sz:=1) rfl (by kernel_rfl) (u7 n) (.cons (sz:=1) rfl (by kernel_rfl) (u7 n) (.cons (sz:=1) rfl (by kernel_rfl) (u7 n) (.cons (sz:=1) rfl (by kernel_rfl) (u7 n) .nil))))))).to
  (fun z=>(⟨z.1,z.2.1,z.2.2.1,z.2.2.2.1,z.2.2.2.2.1,z.2.2.2.2.2.1⟩:Op)) (fun z=>rfl) (fun _ _=>trivial)
theorem ayO (n:Nat):Rd Tryd.prog n 129 mL.cells (fun _=>True):=by
 refine Rd.mono (n:=n+1) (by omega) ?_
 refine(Rd.struct (n:=n) (total:=4) Tryd.underlying129 (by kernel_rfl)
  (.cons (sz:=1) rfl (by kernel_rfl) (u7 n) (.cons (sz:=1) rfl (by kernel_rfl) (u7 n) (.cons (sz:=1) rfl (by kernel_rfl) (u7 n) (.cons (sz:=1) rfl (by kernel_rfl) (u7 n) .nil))))).to
  (fun z=>(⟨z.1,z.2.1,z.2.2.1,z.2.2.2.1⟩:mL)) (fun z=>rfl) (fun _ _=>trivial)
theorem asT (n:Nat):Rd Tryd.prog n 56 Term.cells (fun _=>True):=by
 refine Rd.mono (n:=n+1) (by omega) ?_
 refine(Rd.struct (n:=n) (total:=4) Tryd.underlying56 (by kernel_rfl)
  (.cons (sz:=1) rfl (by kernel_rfl) (u7 n) (.cons (sz:=1) rfl (by kernel_rfl) (u7 n) (.cons (sz:=1) rfl (by kernel_rfl) (u7 n) (.cons (sz:=1) rfl (by kernel_rfl) (u7 n) .nil))))).to
  (fun z=>(⟨z.1,z.2.1,z.2.2.1,z.2.2.2.1⟩:Term)) (fun z=>rfl) (fun _ _=>trivial)
theorem ayQ (n:Nat):Rd Tryd.prog n 54 (fun l:List Op=>[.slice (l.map Op.cells) .no]) (fun l=>l.length≤maxLen∧∀o∈l,True) :=
 Rd.mono (n:=n+1) (by omega) (Rd.slice (sz:=5) Tryd.underlying54 (by kernel_rfl) (fun _=>rfl) (aCb n))
theorem ayP (n:Nat):Rd Tryd.prog n 58 lR.cells (fun _=>True):=by
 refine Rd.mono (n:=n+1) (by omega) ?_
 refine(Rd.struct (n:=n) (total:=5) Tryd.underlying58 (by kernel_rfl)
  (.cons (sz:=1) rfl (by kernel_rfl) (ayQ n) (.cons (sz:=4) rfl (by kernel_rfl) (asT n) .nil))).to
  (fun z=>(⟨z.1,z.2.1⟩:lR)) (fun z=>rfl) (fun _ _=>trivial)
theorem asQ (n:Nat):Rd Tryd.prog n 41 (fun l:List mL=>[.slice (l.map mL.cells) .no]) (fun l=>l.length≤maxLen∧∀o∈l,True) :=
 Rd.mono (n:=n+1) (by omega) (Rd.slice (sz:=3) Tryd.underlying41 (by kernel_rfl) (fun _=>rfl) (ayO n))
theorem asR (n:Nat):Rd Tryd.prog n 42 (fun l:List lR=>[.slice (l.map lR.cells) .no]) (fun l=>l.length≤maxLen∧∀o∈l,True) :=
 Rd.mono (n:=n+1) (by omega) (Rd.slice (sz:=4) Tryd.underlying42 (by kernel_rfl) (fun _=>rfl) (ayP n))
theorem asS (n:Nat):Rd Tryd.prog n 44 IR.cells (fun _=>True):=by
 refine Rd.mono (n:=n+1) (by omega) ?_
 refine(Rd.struct (n:=n) (total:=5) Tryd.underlying44 (by kernel_rfl)
  (.cons (sz:=1) rfl (by kernel_rfl) (u7 n) (.cons (sz:=1) rfl (by kernel_rfl) (asQ n) (.cons (sz:=1) rfl (by kernel_rfl) (asR n) (.cons (sz:=1) rfl (by kernel_rfl) (u7 n) (.cons (sz:=1) rfl (by kernel_rfl) (u7 n) .nil)))))).to
  (fun z=>(⟨z.1,z.2.1,z.2.2.1,z.2.2.2.1,z.2.2.2.2.1⟩:IR)) (fun z=>rfl) (fun _ _=>trivial)
theorem YS {W:World}{b:Nat}{V:Value}(h:Value.okWide Tryd.prog W .any b 44 V):∃C,V=.agg C:=by
 simp only [Value.okWide,Tryd.underlying44] at h
 obtain⟨cs,h,_⟩:=h
 exact⟨cs,h⟩
theorem TT {W:World}{b:Nat}{V:Value}(h:Value.okWide Tryd.prog W .any b 9 V):∀C,V≠.agg C:=by
 intro C hC
 subst hC
 simp [Value.okWide,Tryd.underlying9,Cell.okWide,Cell.ok] at h
theorem Lo {W:World}{b:Nat}{V:Value}(h:Value.okWide Tryd.prog W .any b 3 V):∀C,V≠.agg C:=by
 intro C hC
 subst hC
 simp [Value.okWide,Tryd.underlying3,Cell.okWide,Cell.ok] at h
theorem rdStr (n:Nat):Rd Tryd.prog n 9 (fun z:List UInt8=>[.str z]) (fun z=>z.length≤maxLen):=.str Tryd.underlying9
theorem abJ {f:Nat}{args:List kS}{v:kS}(hp:nA.pure f=true) (h:KK f args []=some (.ret v,[])):Ji Tryd.prog nA f args []=some (.ret v,[]):=by
 unfold KK mP at h
 rw [hp] at h
 simp only [cond_true] at h
 cases ha:args.all (kS.uY 0) with
 | false=>rw [ha] at h; cases h
 | true =>
  rw [ha] at h
  simp only [cond_true] at h
  obtain⟨r,h1,h2⟩:=Option.bind_eq_some_iff.1 h
  obtain⟨r1,r2⟩:=r
  cases r2 with
  | nil=>cases h2; exact h1
  | cons a l =>
   simp only [y8] at h2
   revert h2
   cases (nA.out f && _) <;> intro h2
   ·cases h2
   ·simp at h2
end Go.Proofs.YtkeoalhglkfbkaaDoor


namespace Go.Proofs.YtkeoalhglkfbkaaDoor
open Go Hk
theorem mainIs:Tryd.pinned.checked.prog.mainIs=some (true, "7c8527047ffb63bdbc7985bab493d381175d25fc55ed6eef943fa30bf11f58b5".toList):=by kernel_rfl
theorem Oy:true=Tryd.pinned.checked.prog.looks []:=by kernel_rfl
theorem Sl {a b:Bool}(h:a=true) (g:b=true):(a && b)=true:=by rw [h,g]; rfl
theorem own:ownKnob Tryd.prog.godebug=none:=by kernel_rfl
theorem laidOut:laidOutB Tryd.prog=true:=by kernel_rfl
theorem follows:Tryd.prog.follows .mixedOrders=true:=by kernel_rfl
theorem Zm:vR Tryd.prog nA:=by
 refine⟨fun f hf=>?_,fun f hf=>(by cases hf),fun f g hf=>?_⟩
 ·have:f=72:=by
   unfold nA at hf
   simpa using hf
  subst this
  exact Rt
 ·have:f=85∧86=g:=by
   unfold nA at hf
   simpa using hf
  obtain⟨rfl,rfl⟩:=this
  exact acI
theorem axM:Tryd.prog.globalNamed "math/bits.deBruijn64tab" = some 1:=by kernel_rfl
theorem aCd:(Tryd.prog.globals[1]?).map (·.type)=some 234:=by kernel_rfl
def VX:List Int:=[0,1,56,2,57,49,28,3,61,58,42,50,38,29,17,4,62,47,59,36,45,43,51,22,53,39,33,30,24,18,12,5,63,55,48,27,60,41,37,16,46,35,44,21,52,32,23,11,54,26,40,15,34,20,31,10,25,14,19,9,13,8,7,6]
def Nd:List (String×DataW Unit):=[("math/bits.deBruijn64tab",Rows.laid_math_bits_deBruijn64tab)]
theorem YX {W:World}(h:laidMetH Tryd.prog Nd W):Lib.TabIs Tryd.prog W "math/bits.deBruijn64tab" .u8 VX:=by
 rw [MakeChecks.laidMetH_plain _ _ _ (by kernel_rfl)] at h
 obtain⟨ps,⟨g1,t1,cs1,f1,p1,q1,hg1,ht1,hv1,hd1,_,_⟩,_,_⟩:=h
 obtain rfl:=Option.some.inj (axM.symm.trans hg1)
 obtain rfl:=Option.some.inj (aCd.symm.trans ht1)
 unfold Lib.TabIs
 have e:(Rows.laid_math_bits_deBruijn64tab:DataW Unit)=Lib.tabData .u8 VX:=by kernel_rfl
 rw [e] at hd1
 rw [hv1,←Lib.cells_of_tab (k:=.u8) Tryd.underlying234 Tryd.underlying5 (by kernel_rfl) (by kernel_rfl) hd1]
theorem SP {W:World}(h:laidMetH Tryd.prog Nd W):sG nA (gh W).H:=by
 intro g cs hg
 have hg':g=1∧cs=yN:=by
  unfold nA at hg
  simp only [] at hg
  split at hg
  ·rename_i h0; exact⟨h0,(Option.some.inj hg).symm⟩
  ·cases hg
 obtain⟨rfl,rfl⟩:=hg'
 have hT:=YX h
 have eG:yN=VX.map (kS.int .u8):=rfl
 rw [eG]
 refine .pptr _ 1 0 (fun j=>.int .u8 (VX.getD j 0)) ?_ ?_ ?_
 ·intro j v hv
  have hj:j < VX.length:=by
   have:=(List.getElem?_eq_some_iff.1 hv).1
   simpa using this
  simpa [gh] using hT.cell axM j hj
 ·intro j v hv
  simp only [List.getElem?_map,Option.map_eq_some_iff] at hv
  obtain⟨z,_,rfl⟩:=hv
  rfl
 ·intro j v hv
  simp only [List.getElem?_map,Option.map_eq_some_iff] at hv
  obtain⟨z,hz,rfl⟩:=hv
  have:VX.getD j 0=z:=by simp [List.getD,hz]
  rw [this]
  exact .int _ _
theorem PO (args:Array Value) (os:Os):laidMetH Tryd.prog Nd ((World.doorLaid Tryd.prog 600 os).forCall (fun _ _=>0) ⟨#[],args,[]⟩).memory :=
 laidMetH_of_parts3 (fuel:=8) (laidMet_of_run' 8 (by kernel_rfl) (by kernel_rfl)) (by kernel_rfl) (by kernel_rfl)
theorem UA (args:Array Value) (os:Os):((World.doorLaid Tryd.prog 600 os).forCall (fun _ _=>0) ⟨#[],args,[]⟩).variablesRefB Tryd.prog=true:=by kernel_rfl
theorem adZ (args:Array Value) (os:Os):((((World.doorLaid Tryd.prog 600 os).forCall (fun _ _=>0) ⟨#[],args,[]⟩).heap.toList.drop Tryd.prog.globals.size).take ((begin Tryd.prog (fun _ _=>0) default).world.heap.size - Tryd.prog.globals.size)) =
   (begin Tryd.prog (fun _ _=>0) default).world.heap.toList.drop Tryd.prog.globals.size:=by kernel_rfl
end Go.Proofs.YtkeoalhglkfbkaaDoor
