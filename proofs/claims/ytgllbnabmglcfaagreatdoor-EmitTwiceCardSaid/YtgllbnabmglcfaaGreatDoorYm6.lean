/-
  The texts YM.FR, YM.W4, one behind another. No conditions.
-/
import Derived.Test.YtgllbnabmglcfaaGreatDoorYm5
import Derived.Test.YtgllbnabmglcfaaGreatDoorIm6
import Derived.Test.YtgllbnabmglcfaaGreatDoorVk3
import Derived.Test.YtgllbnabmglcfaaGreatDoorRows
import Derived.Lib.LaidTab
import Derived.LaidMore
import Derived.MakeChecks
import Derived.LaidHandle
import Derived.WalkKit
import Derived.SevenTiedAt
set_option linter.unusedVariables false
set_option linter.unusedSimpArgs false
set_option linter.all false
open List renaming getElem?_map → af7
open Option renaming map_eq_some_iff → af1
namespace Go.Proofs.YtgllbnabmglcfaaGreatDoor
section
open Go Hk
theorem mainIs:Tryz.pinned.checked.prog.mainIs=some (true, "5d86905073ea4312d0e70af0f18e02a7751f33671d963c476094b2adc27c966c".toList):=by kernel_rfl
theorem ZL:false=Tryz.pinned.checked.prog.looks []:=by kernel_rfl
theorem ae2 {a b:Bool}(h:a=true) (g:b=true):(a&&b)=true:=by rw [h,g];rfl
theorem own:ownKnob Tryz.prog.godebug=none:=by kernel_rfl
theorem laidOut:laidOutB Tryz.prog=true:=by kernel_rfl
theorem follows:Tryz.prog.follows .mixedOrders=true:=by kernel_rfl
theorem aoR:rJ Tryz.prog mY:=by
 refine⟨fun f hf=>(by cases hf),fun f g hf=>?_,fun f k hf=>(by cases hf)⟩
 have hf':f=40∧g=41:=by
  unfold mY at hf
  simp only [] at hf
  split at hf
  ·rename_i h0;exact⟨h0,(Option.some.inj hf).symm⟩
  ·cases hf
 obtain⟨rfl,rfl⟩:=hf'
 exact Xp
theorem aoY:Tryz.prog.globalNamed "math/bits.deBruijn64tab" = some 0:=by kernel_rfl
theorem awB:(Tryz.prog.globals[0]?).map (·.type)=some 185:=by kernel_rfl
def Tg:List Int:=[0,1,56,2,57,49,28,3,61,58,42,50,38,29,17,4,62,47,59,36,45,43,51,22,53,39,33,30,24,18,12,5,63,55,48,27,60,41,37,16,46,35,44,21,52,32,23,11,54,26,40,15,34,20,31,10,25,14,19,9,13,8,7,6]
def RY:List (String×DataW Unit):=[("math/bits.deBruijn64tab",Rows.laid_math_bits_deBruijn64tab)]
theorem U7 {W:World}(h:laidMetH Tryz.prog RY W):Lib.TabIs Tryz.prog W "math/bits.deBruijn64tab" .u8 Tg:=by
 rw [MakeChecks.laidMetH_plain _ _ _ (by kernel_rfl)] at h
 obtain⟨ps,⟨g1,t1,cs1,f1,p1,q1,hg1,ht1,hv1,hd1,_,_⟩,_,_⟩:=h
 obtain rfl:=Option.some.inj (aoY.symm.trans hg1)
 obtain rfl:=Option.some.inj (awB.symm.trans ht1)
 unfold Lib.TabIs
 have e:(Rows.laid_math_bits_deBruijn64tab:DataW Unit)=Lib.tabData .u8 Tg:=by kernel_rfl
 rw [e] at hd1
 rw [hv1,←Lib.cells_of_tab (k:=.u8) Tryz.underlying185 Tryz.underlying5 (by kernel_rfl) (by kernel_rfl) hd1]
theorem af8 {W:World}(h:laidMetH Tryz.prog RY W):oU mY (gh W) [] W:=by
 have hT:=U7 h
 refine⟨fun g cs hg=>?_,fun g n hg=>(by cases hg)⟩
 have hg':g=0∧cs=vC:=by
  unfold mY at hg
  simp only [] at hg
  split at hg
  ·rename_i h0;exact⟨h0,(Option.some.inj hg).symm⟩
  ·cases hg
 obtain⟨rfl,rfl⟩:=hg'
 have eG:vC=Tg.map (lC.int .u8):=rfl
 rw [eG]
 refine .pptr _ 0 0 (fun j=>.int .u8 (Tg.getD j 0)) ?_ ?_ ?_
 ·intro j v hv
  have hj:j<Tg.length:=by
   have:=(List.getElem?_eq_some_iff.1 hv).1
   simpa using this
  simpa [gh] using hT.cell aoY j hj
 ·intro j v hv
  simp only [af7,af1] at hv
  obtain⟨z,_,rfl⟩:=hv
  rfl
 ·intro j v hv
  simp only [af7,af1] at hv
  obtain⟨z,hz,rfl⟩:=hv
  have:Tg.getD j 0=z:=by simp [List.getD,hz]
  rw [this]
  exact .int _ _
theorem ab5 (args:Array Value) (os:Os):laidMetH Tryz.prog RY ((World.doorLaid Tryz.prog 600 os).forCall (fun _ _=>0) ⟨#[],args,[]⟩).memory :=
 laidMetH_of_parts3 (fuel:=8) (laidMet_of_run' 8 (by kernel_rfl) (by kernel_rfl)) (by kernel_rfl) (by kernel_rfl)
theorem alC (args:Array Value) (os:Os):((World.doorLaid Tryz.prog 600 os).forCall (fun _ _=>0) ⟨#[],args,[]⟩).variablesRefB Tryz.prog=true:=by kernel_rfl
theorem aq6 (args:Array Value) (os:Os):((((World.doorLaid Tryz.prog 600 os).forCall (fun _ _=>0) ⟨#[],args,[]⟩).heap.toList.drop Tryz.prog.globals.size).take ((begin Tryz.prog (fun _ _=>0) default).world.heap.size-Tryz.prog.globals.size)) =
   (begin Tryz.prog (fun _ _=>0) default).world.heap.toList.drop Tryz.prog.globals.size:=by kernel_rfl
theorem vN (n:Nat):Rd Tryz.prog n 3 (fun z:Int=>[.int .i64 z]) (fun z=>(Lit.int .i64 z).wf=true):=.int Tryz.underlying3
theorem av2 (n:Nat):Rd Tryz.prog n 71 Op.cells (fun _=>True):=by
 refine Rd.mono (n:=n+1) (by omega) ?_
 refine(Rd.struct (n:=n) (total:=6) Tryz.underlying71 (by kernel_rfl)
  (.cons (sz:=1) rfl (by kernel_rfl) (vN n) (.cons (sz:=1) rfl (by kernel_rfl) (vN n) (.cons (sz:=1) rfl (by kernel_rfl) (vN n) (.cons (sz:=1) rfl (by kernel_rfl) (vN n) (.cons (sz:=1) rfl (by kernel_rfl) (vN n) (.cons (sz:=1) rfl (by kernel_rfl) (vN n) .nil))))))).to
  (fun z=>(⟨z.1,z.2.1,z.2.2.1,z.2.2.2.1,z.2.2.2.2.1,z.2.2.2.2.2.1⟩:Op)) (fun z=>rfl) (fun _ _=>trivial)
theorem ap4 (n:Nat):Rd Tryz.prog n 68 mV.cells (fun _=>True):=by
 refine Rd.mono (n:=n+1) (by omega) ?_
 refine(Rd.struct (n:=n) (total:=4) Tryz.underlying68 (by kernel_rfl)
  (.cons (sz:=1) rfl (by kernel_rfl) (vN n) (.cons (sz:=1) rfl (by kernel_rfl) (vN n) (.cons (sz:=1) rfl (by kernel_rfl) (vN n) (.cons (sz:=1) rfl (by kernel_rfl) (vN n) .nil))))).to
  (fun z=>(⟨z.1,z.2.1,z.2.2.1,z.2.2.2.1⟩:mV)) (fun z=>rfl) (fun _ _=>trivial)
theorem aj2 (n:Nat):Rd Tryz.prog n 43 Term.cells (fun _=>True):=by
 refine Rd.mono (n:=n+1) (by omega) ?_
 refine(Rd.struct (n:=n) (total:=4) Tryz.underlying43 (by kernel_rfl)
  (.cons (sz:=1) rfl (by kernel_rfl) (vN n) (.cons (sz:=1) rfl (by kernel_rfl) (vN n) (.cons (sz:=1) rfl (by kernel_rfl) (vN n) (.cons (sz:=1) rfl (by kernel_rfl) (vN n) .nil))))).to
  (fun z=>(⟨z.1,z.2.1,z.2.2.1,z.2.2.2.1⟩:Term)) (fun z=>rfl) (fun _ _=>trivial)
theorem ap6 (n:Nat):Rd Tryz.prog n 41 (fun l:List Op=>[.slice (l.map Op.cells) .no]) (fun l=>l.length≤maxLen∧∀o∈l,True) :=
 Rd.mono (n:=n+1) (by omega) (Rd.slice (sz:=5) Tryz.underlying41 (by kernel_rfl) (fun _=>rfl) (av2 n))
theorem ap5 (n:Nat):Rd Tryz.prog n 45 mF.cells (fun _=>True):=by
 refine Rd.mono (n:=n+1) (by omega) ?_
 refine(Rd.struct (n:=n) (total:=5) Tryz.underlying45 (by kernel_rfl)
  (.cons (sz:=1) rfl (by kernel_rfl) (ap6 n) (.cons (sz:=4) rfl (by kernel_rfl) (aj2 n) .nil))).to
  (fun z=>(⟨z.1,z.2.1⟩:mF)) (fun z=>rfl) (fun _ _=>trivial)
theorem aj0 (n:Nat):Rd Tryz.prog n 22 (fun l:List mV=>[.slice (l.map mV.cells) .no]) (fun l=>l.length≤maxLen∧∀o∈l,True) :=
 Rd.mono (n:=n+1) (by omega) (Rd.slice (sz:=3) Tryz.underlying22 (by kernel_rfl) (fun _=>rfl) (ap4 n))
theorem aj1 (n:Nat):Rd Tryz.prog n 23 (fun l:List mF=>[.slice (l.map mF.cells) .no]) (fun l=>l.length≤maxLen∧∀o∈l,True) :=
 Rd.mono (n:=n+1) (by omega) (Rd.slice (sz:=4) Tryz.underlying23 (by kernel_rfl) (fun _=>rfl) (ap5 n))
theorem av1 (n:Nat):Rd Tryz.prog n 25 IR.cells (fun _=>True):=by
 refine Rd.mono (n:=n+1) (by omega) ?_
 refine(Rd.struct (n:=n) (total:=5) Tryz.underlying25 (by kernel_rfl)
  (.cons (sz:=1) rfl (by kernel_rfl) (vN n) (.cons (sz:=1) rfl (by kernel_rfl) (aj0 n) (.cons (sz:=1) rfl (by kernel_rfl) (aj1 n) (.cons (sz:=1) rfl (by kernel_rfl) (vN n) (.cons (sz:=1) rfl (by kernel_rfl) (vN n) .nil)))))).to
  (fun z=>(⟨z.1,z.2.1,z.2.2.1,z.2.2.2.1,z.2.2.2.2.1⟩:IR)) (fun z=>rfl) (fun _ _=>trivial)
theorem anP {W:World}{b:Nat}{V:Value}(h:Value.okWide Tryz.prog W .any b 25 V):∃C,V=.agg C:=by
 simp only [Value.okWide,Tryz.underlying25] at h
 obtain⟨cs,h,_⟩:=h
 exact⟨cs,h⟩
end
section
open Go Hk
theorem apC {f:Nat}{args:List lC}{v:lC}(hp:mY.pure f=true) (h:KK f args []=some (.ret v,[])):IQ Tryz.prog mY f args []=some (.ret v,[]):=by
 unfold KK mH at h
 rw [hp] at h
 simp only [cond_true] at h
 cases ha:args.all (lC.rU 0) with
 | false=>rw [ha] at h;cases h
 | true =>
  rw [ha] at h
  simp only [cond_true] at h
  obtain⟨r,h1,h2⟩:=Option.bind_eq_some_iff.1 h
  obtain⟨r1,r2⟩:=r
  cases r2 with
  | nil=>cases h2;exact h1
  | cons a l =>
   simp only [tA] at h2
   revert h2
   cases (mY.out f&&_) <;> intro h2
   ·cases h2
   ·simp at h2
theorem au4 (p:IR):IQ Tryz.prog mY 4 [.agg p.cells] []=some (.ret (.bool true),[]):=apC rfl (c4 p [])
end
end Go.Proofs.YtgllbnabmglcfaaGreatDoor
