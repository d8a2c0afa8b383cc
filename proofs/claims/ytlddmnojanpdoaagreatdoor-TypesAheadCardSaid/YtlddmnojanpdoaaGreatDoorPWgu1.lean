/-
  The texts WG.LY, WG.FR, one behind another. No conditions.
-/
import Derived.Shelf.LaysM
import Derived.Shelf.Strings.Repeat
import Derived.Shelf.Strconv.Itoa3
import Derived.Test.YtlddmnojanpdoaaGreatDoorProg
import Derived.WalkKit
import Derived.Test.YtlddmnojanpdoaaGreatDoorPLg1
import Derived.Test.YtlddmnojanpdoaaGreatDoorPVk1
import Derived.Test.YtlddmnojanpdoaaGreatDoorPWg2
import Derived.Test.YtlddmnojanpdoaaGreatDoorPVk3
import Derived.Test.YtlddmnojanpdoaaGreatDoorRows
import Derived.Lib.LaidTab
import Derived.LaidMore
import Derived.MakeChecks
import Derived.LaidHandle
import Derived.SevenTiedAt
set_option linter.unusedVariables false
set_option linter.unusedSimpArgs false
set_option linter.all false
open List renaming getElem?_map → ai1
open Option renaming bind_some → af4, map_eq_some_iff → ac6
set_option linter.unusedVariables false
namespace Go.Proofs
open Go.Shelf
def Tryz.KD:Go.Shelf.Ren:=⟨fun | 105=>162 | 212=>188 | 99=>144 | 165=>189 | 166=>124 | 170=>190 | 169=>72 | 263=>210 | 264=>211 | 206=>176 | 240=>161 | 241=>212 | 276=>187 | 277=>224 | n=>n,fun | 9=>9 | 3=>3 | 4=>4 | 20=>20 | 0=>0 | 46=>230 | 109=>231 | 5=>5 | 72=>82 | 76=>172 | 51=>247 | 146=>251 | 53=>75 | 148=>253 | 70=>79 | 37=>80 | 75=>171 | 127=>175 | 164=>228 | 80=>125 | n=>n,fun | n=>n⟩
theorem Tryz.apU:Go.Proofs.Lays.n105 Tryz.prog Tryz.KD:={
 mixed:=by kernel_rfl
 f99:=Tryz.func144.trans (congrArg some (by kernel_rfl))
 f105:=Tryz.func162.trans (congrArg some (by kernel_rfl))
 f165:=Tryz.func189.trans (congrArg some (by kernel_rfl))
 f166:=Tryz.func124.trans (congrArg some (by kernel_rfl))
 f169:=Tryz.func72.trans (congrArg some (by kernel_rfl))
 f170:=Tryz.func190.trans (congrArg some (by kernel_rfl))
 f206:=Tryz.func176.trans (congrArg some (by kernel_rfl))
 f212:=Tryz.func188.trans (congrArg some (by kernel_rfl))
 f240:=Tryz.func161.trans (congrArg some (by kernel_rfl))
 f241:=Tryz.func212.trans (congrArg some (by kernel_rfl))
 f263:=Tryz.func210.trans (congrArg some (by kernel_rfl))
 f264:=Tryz.func211.trans (congrArg some (by kernel_rfl))
 f276:=Tryz.func187.trans (congrArg some (by kernel_rfl))
 f277:=Tryz.func224.trans (congrArg some (by kernel_rfl))
 t0:=Tryz.underlying0
 a0:=Tryz.isAgg0
 z0:=Tryz.sizeOf0
 v0:=Tryz.zeroValue0
 t3:=Tryz.underlying3
 a3:=Tryz.isAgg3
 z3:=Tryz.sizeOf3
 v3:=Tryz.zeroValue3
 t4:=Tryz.underlying4
 a4:=Tryz.isAgg4
 z4:=Tryz.sizeOf4
 v4:=Tryz.zeroValue4
 t5:=Tryz.underlying5
 a5:=Tryz.isAgg5
 z5:=Tryz.sizeOf5
 v5:=Tryz.zeroValue5
 t9:=Tryz.underlying9
 a9:=Tryz.isAgg9
 z9:=Tryz.sizeOf9
 v9:=Tryz.zeroValue9
 t20:=Tryz.underlying20
 a20:=Tryz.isAgg20
 z20:=Tryz.sizeOf20
 v20:=Tryz.zeroValue20
 t37:=Tryz.underlying80
 a37:=Tryz.isAgg80
 z37:=Tryz.sizeOf80
 v37:=Tryz.zeroValue80
 t46:=Tryz.underlying230
 a46:=Tryz.isAgg230
 z46:=Tryz.sizeOf230
 v46:=Tryz.zeroValue230
 t51:=Tryz.underlying247
 a51:=Tryz.isAgg247
 z51:=Tryz.sizeOf247
 v51:=Tryz.zeroValue247
 t53:=Tryz.underlying75
 a53:=Tryz.isAgg75
 z53:=Tryz.sizeOf75
 v53:=Tryz.zeroValue75
 t70:=Tryz.underlying79
 a70:=Tryz.isAgg79
 z70:=Tryz.sizeOf79
 v70:=Tryz.zeroValue79
 t72:=Tryz.underlying82
 a72:=Tryz.isAgg82
 z72:=Tryz.sizeOf82
 v72:=Tryz.zeroValue82
 t75:=Tryz.underlying171
 a75:=Tryz.isAgg171
 z75:=Tryz.sizeOf171
 v75:=Tryz.zeroValue171
 t76:=Tryz.underlying172
 a76:=Tryz.isAgg172
 z76:=Tryz.sizeOf172
 v76:=Tryz.zeroValue172
 t109:=Tryz.underlying231
 a109:=Tryz.isAgg231
 z109:=Tryz.sizeOf231
 v109:=Tryz.zeroValue231
 t127:=Tryz.underlying175
 a127:=Tryz.isAgg175
 z127:=Tryz.sizeOf175
 v127:=Tryz.zeroValue175
 t146:=Tryz.underlying251
 a146:=Tryz.isAgg251
 z146:=Tryz.sizeOf251
 v146:=Tryz.zeroValue251
 t148:=Tryz.underlying253
 a148:=Tryz.isAgg253
 z148:=Tryz.sizeOf253
 v148:=Tryz.zeroValue253
 t164:=Tryz.underlying228
 a164:=Tryz.isAgg228
 z164:=Tryz.sizeOf228
 v164:=Tryz.zeroValue228 }
def Tryz.R6:Go.Shelf.Ren:=⟨fun | 171=>89 | 243=>130 | 246=>163 | 283=>191 | 284=>192 | 285=>193 | 286=>194 | 129=>214 | 317=>213 | 318=>215 | 319=>216 | 320=>217 | 337=>225 | 338=>226 | n=>n,fun | 3=>3 | 9=>9 | 2=>2 | 4=>4 | 171=>233 | 0=>0 | 53=>75 | 37=>80 | 5=>5 | 173=>236 | 212=>256 | 51=>247 | 20=>20 | 213=>257 | 46=>230 | 232=>275 | 233=>276 | n=>n,fun | 17=>2 | 18=>4 | 19=>5 | n=>n⟩
theorem Tryz.ahU:Go.Proofs.LaysM.n171 Tryz.prog Tryz.R6:={
 mixed:=by kernel_rfl
 f129:=Tryz.func214.trans (congrArg some (by kernel_rfl))
 f171:=Tryz.func89.trans (congrArg some (by kernel_rfl))
 f243:=Tryz.func130.trans (congrArg some (by kernel_rfl))
 f246:=Tryz.func163.trans (congrArg some (by kernel_rfl))
 f283:=Tryz.func191.trans (congrArg some (by kernel_rfl))
 f284:=Tryz.func192.trans (congrArg some (by kernel_rfl))
 f285:=Tryz.func193.trans (congrArg some (by kernel_rfl))
 f286:=Tryz.func194.trans (congrArg some (by kernel_rfl))
 f317:=Tryz.func213.trans (congrArg some (by kernel_rfl))
 f318:=Tryz.func215.trans (congrArg some (by kernel_rfl))
 f319:=Tryz.func216.trans (congrArg some (by kernel_rfl))
 f320:=Tryz.func217.trans (congrArg some (by kernel_rfl))
 f337:=Tryz.func225.trans (congrArg some (by kernel_rfl))
 f338:=Tryz.func226.trans (congrArg some (by kernel_rfl))
 t0:=Tryz.underlying0
 a0:=Tryz.isAgg0
 z0:=Tryz.sizeOf0
 v0:=Tryz.zeroValue0
 t2:=Tryz.underlying2
 a2:=Tryz.isAgg2
 z2:=Tryz.sizeOf2
 v2:=Tryz.zeroValue2
 t3:=Tryz.underlying3
 a3:=Tryz.isAgg3
 z3:=Tryz.sizeOf3
 v3:=Tryz.zeroValue3
 t4:=Tryz.underlying4
 a4:=Tryz.isAgg4
 z4:=Tryz.sizeOf4
 v4:=Tryz.zeroValue4
 t5:=Tryz.underlying5
 a5:=Tryz.isAgg5
 z5:=Tryz.sizeOf5
 v5:=Tryz.zeroValue5
 t9:=Tryz.underlying9
 a9:=Tryz.isAgg9
 z9:=Tryz.sizeOf9
 v9:=Tryz.zeroValue9
 t20:=Tryz.underlying20
 a20:=Tryz.isAgg20
 z20:=Tryz.sizeOf20
 v20:=Tryz.zeroValue20
 t37:=Tryz.underlying80
 a37:=Tryz.isAgg80
 z37:=Tryz.sizeOf80
 v37:=Tryz.zeroValue80
 t46:=Tryz.underlying230
 a46:=Tryz.isAgg230
 z46:=Tryz.sizeOf230
 v46:=Tryz.zeroValue230
 t51:=Tryz.underlying247
 a51:=Tryz.isAgg247
 z51:=Tryz.sizeOf247
 v51:=Tryz.zeroValue247
 t53:=Tryz.underlying75
 a53:=Tryz.isAgg75
 z53:=Tryz.sizeOf75
 v53:=Tryz.zeroValue75
 t171:=Tryz.underlying233
 a171:=Tryz.isAgg233
 z171:=Tryz.sizeOf233
 v171:=Tryz.zeroValue233
 t173:=Tryz.underlying236
 a173:=Tryz.isAgg236
 z173:=Tryz.sizeOf236
 v173:=Tryz.zeroValue236
 t212:=Tryz.underlying256
 a212:=Tryz.isAgg256
 z212:=Tryz.sizeOf256
 v212:=Tryz.zeroValue256
 t213:=Tryz.underlying257
 a213:=Tryz.isAgg257
 z213:=Tryz.sizeOf257
 t232:=Tryz.underlying275
 a232:=Tryz.isAgg275
 z232:=Tryz.sizeOf275
 v232:=Tryz.zeroValue275
 t233:=Tryz.underlying276
 a233:=Tryz.isAgg276
 z233:=Tryz.sizeOf276
 v233:=Tryz.zeroValue276
 g17:=by kernel_rfl
 g18:=by kernel_rfl
 g19:=by kernel_rfl
 i0:=by kernel_rfl
 i2:=by kernel_rfl
 i3:=by kernel_rfl
 i4:=by kernel_rfl
 i5:=by kernel_rfl
 i9:=by kernel_rfl
 i20:=by kernel_rfl
 i37:=by kernel_rfl
 i46:=by kernel_rfl
 i51:=by kernel_rfl
 i53:=by kernel_rfl
 i171:=by kernel_rfl
 i173:=by kernel_rfl
 i212:=by kernel_rfl
 i232:=by kernel_rfl
 i233:=by kernel_rfl
 m17:=by kernel_rfl
 m18:=by kernel_rfl
 m19:=by kernel_rfl }
end Go.Proofs
namespace Go.Proofs.YtlddmnojanpdoaaGreatDoor
open Go Go.Shelf Go.RowKit
theorem akO:(Tryz.prog.info? 82).map (·.size)=some 2:=by kernel_rfl
theorem aoR:Tryz.prog.cellsOf 86=5:=by kernel_rfl
theorem aAf:liesAt Tryz.prog Tryz.prog.depth 86 1 0 82 1=true:=by kernel_rfl
theorem ay8:Tryz.prog.cellsOf 5=1:=by kernel_rfl
set_option maxHeartbeats 1000000 in
set_option maxRecDepth 100000 in
theorem aoQ (b:Nat) (w:World) (h0:w.cell? ⟨b,0,none⟩=some (.pointer (some ⟨b,0,none⟩))) :
  Calls Tryz.prog 161 #[.pointer (some ⟨b,0,none⟩)] w fun e w'=>e=.returned (.tuple #[])∧w'=w:=by
 obtain⟨j,hj,_⟩:=ac6.1 akO
 go_enter Tryz.func161,Tryz.ntmps161
 go_wp2
 rw [Lib.run_neq_ptr_same w _ Tryz.underlying79 hj]
 go_wp2
 go_end0
 exact⟨rfl,rfl⟩
set_option maxHeartbeats 1000000 in
set_option maxRecDepth 100000 in
theorem af3 (b:Nat) (w:World) (h0:w.cell? ⟨b,0,none⟩=some (.pointer none)) (hsh:w.shape? b=some (86,5)) (hfz:w.frozen? ⟨b,0,none⟩=false) :
  Calls Tryz.prog 161 #[.pointer (some ⟨b,0,none⟩)] w fun e w'=>e=.returned (.tuple #[])∧w'=w.setCell ⟨b,0,none⟩ (.pointer (some ⟨b,0,none⟩)):=by
 obtain⟨j,hj,hjs⟩:=ac6.1 akO
 go_enter Tryz.func161,Tryz.ntmps161
 go_wp2
 rw [Lib.run_to_unsafe w ⟨b,0,none⟩ Tryz.underlying79 Tryz.underlying228 hj (by rw [hjs]; decide) hsh (by show 0 < 5; omega)]
 simp only [Result.andThen]
 rw [Oper.upon_value]
 go_wp2
 rw [run_callFunc_extern Tryz.func187 (by kernel_rfl) (by kernel_rfl) (by kernel_rfl) (e:=Extern.AbiNoEscape.same) (by kernel_rfl)]
 rw [Lib.run_noEscape]
 simp only [Result.andThen]
 rw [Oper.upon_value]
 go_wp2
 rw [Lib.run_from_unsafe w ⟨b,0,none⟩ Tryz.underlying228 Tryz.underlying79 hj hsh (by rw [aoR]; exact aAf)]
 simp only [Result.andThen]
 rw [Oper.upon_value]
 go_wp2
 go_end0
 exact⟨rfl,rfl⟩
set_option maxHeartbeats 2000000 in
set_option maxRecDepth 100000 in
theorem aoJ (b off g cap:Nat) (C:Array Value) (l:List UInt8) (w:World) (c0:w.cell? ⟨b,off+1,none⟩=some (.slice (some ⟨g,0,none⟩) l.length cap)) (hg:w.heap[g]?=some (.cells C 5 (0,0))) (h0:l≠[]) (hc:l.length≤cap) (hm:cap≤maxLen) (hs:C.size=cap)
  (hcell:∀(j:Nat) x,l[j]?=some x→C[j]?=some (.int .u8 (x.toNat:Int))) :
  Calls Tryz.prog 72 #[.pointer (some ⟨b,off,none⟩)] w fun e w'=>e=.returned (.string ⟨l.toArray⟩)∧∃d,w'=World.freeze { w with drawn:=d } ⟨g,0,none⟩ l.length:=by
 have hl0:l.length≠0:=by simpa using h0
 have c1:w.drew.cell? ⟨b,off+1,none⟩=some (.slice (some ⟨g,0,none⟩) l.length cap):=c0
 have hSD:(Builtin.unsafeSliceData_ #[80] 175 #[.slice (some ⟨g,0,none⟩) l.length cap]).run Tryz.prog w.drew=.ok (.pointer (some ⟨g,0,none⟩)) w.drew :=
  Lib.run_unsafeSliceData_row _ _ _ _ _ _ (by omega)
 have hUS:(Builtin.unsafeString_ #[175,3] 9 #[.pointer (some ⟨g,0,none⟩),.int .i64 l.length]).run Tryz.prog w.drew=.ok (.string ⟨l.toArray⟩) (w.drew.freeze ⟨g,0,none⟩ l.length):=by
  refine Lib.run_unsafeString_row w.drew 175 3 9 5 Tryz.underlying175 ay8 g C.size (by have hg':w.drew.heap[g]?=some (.cells C 5 (0,0)):=hg; simp [World.shape?,hg']) l h0 (by omega) (by unfold maxLen at hm; omega) ?_
  intro j x hx
  have hg':w.drew.heap[g]?=some (.cells C 5 (0,0)):=hg
  have e:(⟨g,0,none⟩:Addr).add j=⟨g,j,none⟩:=by simp [Addr.add]; omega
  rw [e,Lib.cell_of_heap hg']
  exact hcell j x hx
 clear hcell hs hm hc
 go_enter Tryz.func72,Tryz.ntmps72
 go_wp2
 go_region
 all_goals (go_wp2; go_ret; exact⟨rfl,_,rfl⟩)
set_option maxHeartbeats 2000000 in
set_option maxRecDepth 100000 in
theorem ayH (b off:Nat) (w:World) (c0:w.cell? ⟨b,off+1,none⟩=some (.slice none 0 0)) :
  Calls Tryz.prog 72 #[.pointer (some ⟨b,off,none⟩)] w fun e w'=>e=.returned (.string ⟨#[]⟩)∧∃d,w'={ w with drawn:=d }:=by
 have hUS:∀W q,(Builtin.unsafeString_ #[175,3] 9 #[.pointer q,.int .i64 0]).run Tryz.prog W=.ok (.string .empty) W:=fun W q=>Lib.run_unsafeString_none W _ _ _ q
 have c1:w.drew.cell? ⟨b,off+1,none⟩=some (.slice none 0 0):=c0
 have hSD:(Builtin.unsafeSliceData_ #[80] 175 #[.slice none 0 0]).run Tryz.prog w.drew=.ok (.pointer none) w.drew:=rfl
 go_enter Tryz.func72,Tryz.ntmps72
 go_wp2
 go_region
 all_goals (go_wp2; go_ret; exact⟨rfl,_,rfl⟩)
theorem Vq {w:World}{b t:Nat}{C:Array Value}{fr:Nat×Nat}(hC:w.heap[b]?=some (.cells C t fr)):w.setRow b C=w:=by
 have h2:(w.setRow b C).heap=w.heap:=by
  apply Array.ext_getElem?
  intro k
  simp only [World.setRow,Array.getElem?_modify]
  split
  ·rename_i e
   subst e
   rw [hC]
   rfl
  ·rfl
 have h3:w.setRow b C={ w with heap:=(w.setRow b C).heap }:=rfl
 rw [h3,h2]
theorem WJ {w w':World}(hb:Below w.heap.size w w'):∃os,w'.heap=w.heap++os:=by
 refine⟨w'.heap.extract w.heap.size w'.heap.size,?_⟩
 apply Array.ext_getElem?
 intro k
 have hs:=hb.size
 by_cases hk:k < w.heap.size
 ·rw [hb.block k hk,Array.getElem?_append_left hk]
 ·rw [Array.getElem?_append_right (by omega),Array.getElem?_extract]
  have e:w.heap.size+(k - w.heap.size)=k:=by omega
  rw [e]
  split
  ·rfl
  ·rename_i h
   rw [Array.getElem?_eq_none (by omega)]
theorem azC:Hk.J_ Tryz.prog mJ 161:=by
 refine⟨enters_of Tryz.func161 (by kernel_rfl) rfl,fun w b off t C hb hC hoff hc=>?_⟩
 have hb':(t=86∧off=0)∧C.size=5:=by simpa [mJ] using hb
 obtain⟨⟨rfl,rfl⟩,hs⟩:=hb'
 have hcell:w.cell? ⟨b,0,none⟩=C[0]?:=by rw [Lib.cell_of_heap hC]
 have hset:∀v,w.setCell ⟨b,0,none⟩ v=w.setRow b (C.toList.take 0++[v]++C.toList.drop (0+1)).toArray:=fun v=>by
  rw [setCell_eq_setRow w b 0 C 86 (0,0) v hC]
  congr 1
  apply Array.ext'
  obtain⟨l⟩:=C
  cases l with
  | nil=>simp at hs
  | cons x r=>simp
 rcases hc with hc | hc
 ·refine(af3 b w (hcell.trans hc) (by simp [World.shape?,hC,hs]) (by simp [World.frozen?,hC])).mono ?_
  rintro e w' ⟨rfl,rfl⟩
  exact⟨rfl,hset _⟩
 ·refine(aoQ b w (hcell.trans hc)).mono ?_
  rintro e w' ⟨rfl,rfl⟩
  refine⟨rfl,?_⟩
  rw [←hset]
  have hx:(C.setIfInBounds 0 (Value.pointer (some ⟨b,0,none⟩)))=C:=by
   obtain⟨l⟩:=C
   cases l with
   | nil=>simp at hs
   | cons x r=>simp at hc; subst hc; simp
  rw [setCell_eq_setRow w' b 0 C 86 (0,0) _ hC,hx]
  exact(Vq hC).symm
theorem aEy:Hk.J9 Tryz.prog 72 5 :=
 ⟨enters_of Tryz.func72 (by kernel_rfl) rfl,fun w b off hc=>ayH b off w hc,fun w b off g cap C l c0 hg h0 hc hm hs hcell=>aoJ b off g cap C l w c0 hg h0 hc hm hs hcell⟩
theorem agS:Builder.Extra Tryz.prog Tryz.KD where
 sizeBuilder:=by kernel_rfl
 liesBuilder:=by kernel_rfl
 t5:=Tryz.underlying5
 a5:=Tryz.isAgg5
 z5:=Tryz.sizeOf5
 v5:=Tryz.zeroValue5
 infoByte:=by kernel_rfl
 cellsByte:=by kernel_rfl
 sizeByte:=by kernel_rfl
 neB5:=by decide
theorem Ii (b:UInt8):∀n,Lib.repeatL [b] n=List.replicate n b
 | 0=>rfl
 | n+1=>by simp [Lib.repeatL,Ii b n,List.replicate_succ]
theorem aGy:Hk.axI Tryz.prog mJ 162 Hk.aj4:=by
 refine⟨enters_of Tryz.func162 (by kernel_rfl) rfl,fun G h w args X v i gl hl hr hg=>?_⟩
 unfold Hk.aj4 at hg
 split at hg
 case h_2=>cases hg
 rename_i b n
 split at hg
 case isFalse=>cases hg
 rename_i hn
 cases hg
 have h0:=(hr 0 _ rfl).AD
 have h1:=(hr 1 _ rfl).q_
 have hX:X=#[.string ⟨#[b]⟩,.int .i64 n]:=by
  obtain⟨l⟩:=X
  match l,hl,h0,h1 with
  | [x,y],_,h0,h1=>simp at h0 h1; subst h0; subst h1; rfl
 subst hX
 have e:n=(n.toNat:Int):=by omega
 have key:=Any.strings_Repeat Tryz.apU agS ⟨#[b]⟩ n.toNat w (by omega) (by show 1 * n.toNat≤_; omega)
 rw [←e] at key
 refine Calls.mono key fun e w' hp=>?_
 obtain⟨rfl,hb⟩:=hp
 refine⟨⟨_,rfl,?_⟩,hb.os,hb.tape,hb.output,?_⟩
 ·show Hk.rC G.H (.str (List.replicate n.toNat b)) (.string ⟨(Lib.repeatL [b] n.toNat).toArray⟩)
  rw [Ii]
  exact .str _
 ·exact WJ hb
theorem Ws:∀(k n:Nat) (a:List UInt8),n < 10 ^ k→0 < k→Hk.Wr k n a=Lib.decDigits n++a
 | 0,n,a,h,hk=>absurd hk (by omega)
 | k+1,n,a,h,_=>by
  rw [Lib.decDigits]
  unfold Hk.Wr
  by_cases h10:n < 10
  ·rw [if_pos h10,dif_pos h10]; rfl
  ·rw [if_neg h10,dif_neg h10]
   have hk:0 < k:=by
    cases k with
    | zero=>simp at h; omega
    | succ k=>omega
   rw [Ws k (n / 10) _ (by rw [Nat.pow_succ] at h; omega) hk,List.append_assoc]
   rfl
theorem HA:Tryz.prog.globalNamed "internal/strconv.uint64pow10" = some 2:=by kernel_rfl
theorem az6:Hk.axI Tryz.prog mJ 89 Hk.UD:=by
 refine⟨enters_of Tryz.func89 (by kernel_rfl) rfl,fun G h w args X v i gl hl hr hg=>?_⟩
 unfold Hk.UD at hg
 split at hg
 case h_2=>cases hg
 rename_i n
 split at hg
 case isFalse=>cases hg
 rename_i hn
 cases hg
 have h0:=(hr 0 _ rfl).q_
 have hX:X=#[.int .i64 n]:=by
  obtain⟨l⟩:=X
  match l,hl,h0 with
  | [x],_,h0=>simp at h0; subst h0; rfl
 subst hX
 have htab:Lib.TabIs Tryz.prog w "internal/strconv.uint64pow10" .u64 Lib.pow10Tab:=by
  obtain⟨_,C,e,fr,hC,hs⟩:=gl.size 2 20 rfl
  have hcell:∀(j:Nat) (z:Int),ac4[j]?=some z→C[j]?=some (Value.int .u64 z):=by
   intro j z hz
   have hp:=gl.cells 2 ao9 rfl
   cases hp with
   | pptr _ _ _ V hH hk hV =>
    have hc:ao9[j]?=some (Hk.kM.int .u64 z):=by unfold ao9; rw [ai1,hz]; rfl
    have h1:=i.ok _ _ _ (hH j _ hc)
    have h2:=(Hk.lM.p (G:=G) (h:=h) _ _ (hV j _ hc)).q_
    rw [Nat.zero_add,Lib.cell_of_heap hC,h2] at h1
    exact h1
  have hC':C=(Lib.pow10Tab.map fun z=>Value.int .u64 z).toArray:=by
   have e20:Lib.pow10Tab=ac4:=by decide +kernel
   rw [e20]
   apply Array.ext_getElem?
   intro j
   by_cases hj:j < 20
   ·obtain⟨z,hz⟩:∃z,ac4[j]?=some z:=⟨_,List.getElem?_eq_getElem (by show j < 20; exact hj)⟩
    rw [hcell j z hz]
    simp [hz]
   ·rw [Array.getElem?_eq_none (by omega),Array.getElem?_eq_none (by show 20≤j; omega)]
  unfold Lib.TabIs World.var?
  rw [HA]
  simp only [af4,hC,hC']
 have key:=Any.strconv_Itoa Tryz.ahU n hn.1 hn.2 w htab
 refine Calls.mono key fun e w' hp=>?_
 obtain⟨rfl,k,os,rfl⟩:=hp
 refine⟨⟨_,rfl,?_⟩,rfl,rfl,rfl,⟨os,rfl⟩⟩
 ·have e:Hk.Qh n=Lib.itoa n:=by
   unfold Hk.Qh Lib.itoa
   split
   ·rw [Ws 20 _ _ (by omega) (by omega),List.append_nil]
   ·rw [Ws 20 _ _ (by omega) (by omega),List.append_nil]
  rw [←e]
  exact .str _
end Go.Proofs.YtlddmnojanpdoaaGreatDoor
namespace Go.Proofs.YtlddmnojanpdoaaGreatDoor
section
open Go Hk
theorem mainIs:Tryz.pinned.checked.prog.mainIs=some (true, "36622dbf35b780ece5145252ee266e4077d61d12cb0c4022b99d553eb67bb50f".toList):=by kernel_rfl
theorem Za:true=Tryz.pinned.checked.prog.looks []:=by kernel_rfl
theorem afL {a b:Bool}(h:a=true) (g:b=true):(a && b)=true:=by rw [h,g]; rfl
theorem own:ownKnob Tryz.prog.godebug=none:=by kernel_rfl
theorem laidOut:laidOutB Tryz.prog=true:=by kernel_rfl
theorem follows:Tryz.prog.follows .mixedOrders=true:=by kernel_rfl
theorem azN {f:Nat}(h:mJ.ext f=some .indexByte):f=203:=by
 unfold mJ at h
 simp only [] at h
 split at h
 ·assumption
 ·cases h
theorem avW:yT Tryz.prog mJ:=by
 refine⟨fun f hf=>?_,fun f k hf=>?_⟩
 ·obtain rfl:=azN hf
  exact⟨Tryz.f203,Tryz.func203,by kernel_rfl,by kernel_rfl,by kernel_rfl,by kernel_rfl⟩
 ·unfold mJ at hf
  simp only [] at hf
  split at hf
  ·rename_i h; subst h; cases hf; exact azC
  ·split at hf
   ·rename_i h; subst h; cases hf; exact aEy
   ·split at hf
    ·rename_i h; subst h; cases hf; exact az6
    ·split at hf
     ·rename_i h; subst h; cases hf; exact aGy
     ·cases hf
theorem YL:Tryz.prog.globalNamed "strings.asciiSpace" = some 0:=by kernel_rfl
theorem aCy:(Tryz.prog.globals[0]?).map (·.type)=some 215:=by kernel_rfl
theorem aK6:(Tryz.prog.globals[2]?).map (·.type)=some 256:=by kernel_rfl
def UF:List (String×DataW Unit):=[("math/bits.deBruijn32tab",Rows.laid_math_bits_deBruijn32tab),("math/bits.deBruijn64tab",Rows.laid_math_bits_deBruijn64tab),("internal/strconv.uint64pow10",Rows.laid_internal_strconv_uint64pow10),
 ("unicode.White_Space",Rows.laid_unicode_White_Space),("strings.asciiSpace",Rows.laid_strings_asciiSpace)]
theorem adK {W:World}(h:laidMetH Tryz.prog UF W):Lib.TabIs Tryz.prog W "strings.asciiSpace" .u8 Wk∧Lib.TabIs Tryz.prog W "internal/strconv.uint64pow10" .u64 ac4:=by
 rw [MakeChecks.laidMetH_plain _ _ _ (by kernel_rfl)] at h
 obtain⟨ps,⟨_,_,_,_,_,_,_,_,_,_,⟨_,_,_,_,_,_,_,_,_,_,⟨g2,t2,cs2,f2,p2,q2,hg2,ht2,hv2,hd2,⟨_,_,_,_,_,_,_,_,_,_,⟨g4,t4,cs4,f4,p4,q4,hg4,ht4,hv4,hd4,_,_⟩,_⟩,_⟩,_⟩,_⟩,_,_⟩:=h
 obtain rfl:=Option.some.inj (HA.symm.trans hg2)
 obtain rfl:=Option.some.inj (aK6.symm.trans ht2)
 obtain rfl:=Option.some.inj (YL.symm.trans hg4)
 obtain rfl:=Option.some.inj (aCy.symm.trans ht4)
 constructor
 ·unfold Lib.TabIs
  have e:(Rows.laid_strings_asciiSpace:DataW Unit)=Lib.tabData .u8 Wk:=by kernel_rfl
  rw [e] at hd4
  rw [hv4,←Lib.cells_of_tab (k:=.u8) Tryz.underlying215 Tryz.underlying5 (by kernel_rfl) (by kernel_rfl) hd4]
 ·unfold Lib.TabIs
  have e:(Rows.laid_internal_strconv_uint64pow10:DataW Unit)=Lib.tabData .u64 ac4:=by kernel_rfl
  rw [e] at hd2
  rw [hv2,←Lib.cells_of_tab (k:=.u64) Tryz.underlying256 Tryz.underlying75 (by kernel_rfl) (by kernel_rfl) hd2]
theorem ZS {W:World}{name:String}{k:IntKind}{zs:List Int}{g:Nat}(hT:Lib.TabIs Tryz.prog W name k zs) (hg:Tryz.prog.globalNamed name=some g) :
  rC (gh W).H (.pptr (zs.map (.int k))) (.pointer (some ⟨g,0,none⟩)):=by
 refine .pptr _ g 0 (fun j=>.int k (zs.getD j 0)) ?_ ?_ ?_
 ·intro j v hv
  have hj:j < zs.length:=by
   have:=(List.getElem?_eq_some_iff.1 hv).1
   simpa using this
  simpa [gh] using hT.cell hg j hj
 ·intro j v hv
  simp only [ai1,ac6] at hv
  obtain⟨z,_,rfl⟩:=hv
  rfl
 ·intro j v hv
  simp only [ai1,ac6] at hv
  obtain⟨z,hz,rfl⟩:=hv
  have:zs.getD j 0=z:=by simp [List.getD,hz]
  rw [this]
  exact .int _ _
theorem ag4 {W:World}(h:laidMetH Tryz.prog UF W):tM mJ (gh W) [] W:=by
 obtain⟨h1,h2⟩:=adK h
 refine⟨fun g cs hg=>?_,fun g n hg=>?_⟩
 ·unfold mJ at hg
  simp only [] at hg
  split at hg
  ·rename_i h0
   subst h0
   cases hg
   exact ZS h1 YL
  ·split at hg
   ·rename_i h0
    subst h0
    cases hg
    exact ZS h2 HA
   ·cases hg
 ·unfold mJ at hg
  simp only [] at hg
  split at hg
  ·rename_i h0
   subst h0
   cases hg
   refine⟨fun id=>by simp [owner],?_⟩
   unfold Lib.TabIs World.var? at h2
   rw [HA] at h2
   simp only [af4] at h2
   split at h2
   ·rename_i cs e fr hh
    refine⟨cs,e,fr,hh,?_⟩
    rw [Option.some.inj h2]
    rfl
   ·cases h2
  ·cases hg
theorem Z5 (args:Array Value) (os:Os):laidMetH Tryz.prog UF ((World.doorLaid Tryz.prog 600 os).forCall (fun _ _=>0) ⟨#[],args,[]⟩).memory :=
 laidMetH_of_parts3 (fuel:=8) (laidMet_of_run' 8 (by kernel_rfl) (by kernel_rfl)) (by kernel_rfl) (by kernel_rfl)
theorem alS (args:Array Value) (os:Os):((World.doorLaid Tryz.prog 600 os).forCall (fun _ _=>0) ⟨#[],args,[]⟩).variablesRefB Tryz.prog=true:=by kernel_rfl
theorem axD (args:Array Value) (os:Os):((((World.doorLaid Tryz.prog 600 os).forCall (fun _ _=>0) ⟨#[],args,[]⟩).heap.toList.drop Tryz.prog.globals.size).take ((begin Tryz.prog (fun _ _=>0) default).world.heap.size - Tryz.prog.globals.size)) =
   (begin Tryz.prog (fun _ _=>0) default).world.heap.toList.drop Tryz.prog.globals.size:=by kernel_rfl
theorem rdStr (n:Nat):Rd Tryz.prog n 9 (fun z:List UInt8=>[.str z]) (fun z=>z.length≤maxLen):=.str Tryz.underlying9
theorem ajD {W:World}{b:Nat}{V:Value}(h:Value.okWide Tryz.prog W .any b 9 V):∀C,V≠.agg C:=by
 intro C hC
 subst hC
 simp [Value.okWide,Tryz.underlying9,Cell.okWide,Cell.ok] at h
theorem awG {f:Nat}{args:List kM}{v:kM}(hp:mJ.pure f=true) (h:KK f args []=some (.ret v,[])):MO Tryz.prog mJ f args []=some (.ret v,[]):=by
 unfold KK lT at h
 rw [hp] at h
 simp only [cond_true] at h
 cases ha:args.all (kM.nP 0) with
 | false=>rw [ha] at h; cases h
 | true =>
  rw [ha] at h
  simp only [cond_true] at h
  obtain⟨r,h1,h2⟩:=Option.bind_eq_some_iff.1 h
  obtain⟨r1,r2⟩:=r
  cases r2 with
  | nil=>cases h2; exact h1
  | cons a l=>cases h2
end
end Go.Proofs.YtlddmnojanpdoaaGreatDoor
