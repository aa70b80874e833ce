/- Part 5 of the proof: Cf1, Dr1, Dr2, GrW, Dr3, Dr4, Dr5, Dr6p, Dr6, Dr7, Dr8, Dr9, Gr3, Gr4, Gr5, Gr6, Gr7, Gr8, Gr9, Gp3, Gp4, Gp5, Gp6, Gr10, Gr11, Gs1, Gs2, Gp7, Gp8, Gs3, Gs4, Gs5, Gs6, Gs7, G3Set, Ta1p, Ta1. -/
import Derived.Test.YthfchbkbhcageaaGreatDoorDa4
noncomputable section
section
namespace Go.Gm.Tryz
open Go.Proofs
theorem rest160:∃(id:Nat) (os:Array Oper) (c:Code),g160.fn.body=some (.seq (.region id os false) c)∧codeOk T g160.plans c=true∧
  (∀(Q:Exit→Act→List Frame→World→Prop) (a:Act) (c₀ :Frame) (cs:List Frame) (w:World) (pv:Value),c₀.mode=.panicking [{ v:=pv,recovered:=false }]→
   Q .normal (a.put (some 5) pv) ({ c₀ with mode:=.panicking [{ v:=pv,recovered:=true }] }::cs) w→wpOpsSIn Fence.wide 0 Tryz.prog os Q (List.range os.size) a (c₀ ::cs) w)∧
  (∀(ρ:Rho) (H:GH) (Q:VQ) (n:Int) (g2:Nat),ρ 0=.pointer (some (ga g2 0 0))→g2<H.next→
   H.get g2=some (.arr { cells:= [vi 0],ty:=33 })→ρ 5=.iface 232 (.agg #[vi n])→
   (∀ρ' H',H.next≤H'.next→(∀g,g<H.next→g≠g2→H'.get g=H.get g)→H'.get g2=some (.arr { cells:= [vi 7],ty:=33 })→Q .normal ρ' [] H')→
   wpC ⟨Tryz.prog,T,g160.plans,14,none⟩ c Q ρ [] H):=by
 refine ⟨_,_,_,rfl,by kernel_rfl,?_,?_⟩
 ·intro Q a c₀ cs w pv hu hq
  simp [wpOpsSIn,go_sem,recoverD,hu]
  first|exact hq|exact ⟨fun _ _=>trivial,hq⟩
 intro ρ H Q n g2 e0 l2 h2 e5 hq
 simp (disch:=omega) [e0,e5,h2,eql_iface]
 refine hq _ _ (by simp) (fun g hg k2=>?_) ?_
 ·rw [GH.get_put_ne _ _ k2,GH.get_put_ne _ _ (by omega),GH.get_push_lt _ _ hg]
 ·simp (disch:=omega)
theorem catch160 {β:Bm} {H:GH} {w:World} {n:Int} {g2:Nat} {p2 pv:Value} (hR:Rel β H w) (v2:VR β (.pointer (some (ga g2 0 0))) p2)
  (vp:VR β (.iface 232 (.agg #[vi n])) pv) (l2:g2<H.next) (h2:H.get g2=some (.arr { cells:= [vi 0],ty:=33 })):
  CallsDIn Fence.wide 0 Tryz.prog 160 #[p2] (.panicking [{ v:=pv,recovered:=false }]) w fun e u' w'=>e=.returned (.tuple #[])∧u'=.panicking [{ v:=pv,recovered:=true }]∧
   ∃β' H',Rel β' H' w'∧Ext β H w β' H' w'∧H.next≤H'.next∧(∀g,g<H.next→g≠g2→H'.get g=H.get g)∧H'.get g2=some (.arr { cells:= [vi 7],ty:=33 }):=by
 obtain ⟨id,os,c,hb,hok,hA,hB⟩:=rest160
 refine callsDIn_of_wpSIn fok160.fn hb trivial fun c₀ cs hu=>?_
 apply wpSIn_seq
 apply wpSIn_region
 refine hA _ _ c₀ cs w pv hu ?_
 show c.wpSIn _ _ _ _ _ _ _
 refine wpSIn_of_wpIn rfl ?_
 have hw:=wpC_sound (X:=⟨Tryz.prog,T,g160.plans,14,none⟩) tok mix c hok (hB (upd (rho0 [.pointer (some (ga g2 0 0))]) 5 (.iface 232 (.agg #[vi n]))) H
  (fun x _ m H'=>x=.normal∧m= []∧H.next≤H'.next∧(∀g,g<H.next→g≠g2→H'.get g=H.get g)∧H'.get g2=some (.arr { cells:= [vi 7],ty:=33 })) n g2 (by simp) l2 h2 (by simp) (fun ρ' H' a b c=>⟨rfl,rfl,a,b,c⟩))
 have hn:g160.fn.ntmps=14:=rfl
 have u:=VR.undef β
 have hA2:ActR β (fa 14 (upd (rho0 [.pointer (some (ga g2 0 0))]) 5 (.iface 232 (.agg #[vi n]))) []) (({ tmps:= #[p2]++Array.replicate (g160.fn.ntmps - #[p2].size) undef,defers:= [] }:Act).put (some 5) pv):=by
  have h0:ActR β (fa 14 (rho0 [.pointer (some (ga g2 0 0))]) []) ({ tmps:= #[p2]++Array.replicate (g160.fn.ntmps - #[p2].size) undef,defers:= [] }:Act):=by
   rw [hn,fa_rho0 1 13 _ rfl]
   refine ⟨?_,.nil⟩
   simp only [Array.toList_append,Array.toList_replicate]
   exact (VRs.cons v2 .nil).append (VRs.replicate _ u)
  have h1:=h0.put (some 5) vp
  rw [fa_put] at h1
  exact h1
 refine wpIn_mono (hw β w _ none hR hA2 .none) fun e r w' hp=>?_
 obtain ⟨x,a',β',H',⟨ρ',m,rfl,rfl,rfl,k1,k2,k4⟩,hR',hE,hA',he⟩:=hp
 cases he
 have hd:r.defers= []:=by
  have:=hA'.marks
  generalize r.defers=ds at this
  cases this; rfl
 refine ⟨hd,_,rfl,.tuple #[],?_,rfl,rfl,β',H',hR',hE,k1,k2,k4⟩
 simp [results,g160]
theorem idle160':∃(id:Nat) (os:Array Oper) (c:Code),g160.fn.body=some (.seq (.region id os false) c)∧
  (∀(Q:Exit→Act→List Frame→World→Prop) (a:Act) (c₀ :Frame) (cs:List Frame) (w:World),c₀.mode=.returning→
   Q .normal (a.put (some 5) .nilIface) (c₀ ::cs) w→wpOpsSIn Fence.wide 0 Tryz.prog os Q (List.range os.size) a (c₀ ::cs) w)∧
  (∀(Q:Exit→Act→World→Prop) (t:Array Value) (w:World),14=t.size→t[5]?=some .nilIface→(∀a',a'.defers= []→Q .normal a' w)→c.wpIn Fence.wide 0 Tryz.prog Q { tmps:=t,defers:= [] } w):=by
 refine ⟨_,_,_,rfl,?_,?_⟩
 ·intro Q a c₀ cs w hu hq
  simp [wpOpsSIn,go_sem,recoverD,hu]
  exact hq
 ·intro Q t w ht h6 hq
  refine wpIn_block ?_
  refine wpIn_seq ?_
  refine wpIn_region ?_
  simp [wpOpsIn,go_sem,h6]
  refine wpIn_cond_true (by simp [Act.eval]; omega) ?_
  refine wpIn_region ?_
  simp [wpOpsIn,go_sem]
  exact hq _ rfl
theorem idle160 {w:World} {p2:Value}:
  CallsDIn Fence.wide 0 Tryz.prog 160 #[p2] .returning w fun e u' w'=>e=.returned (.tuple #[])∧u'=.returning∧w'=w:=by
 obtain ⟨id,os,c,hb,hA,hB⟩:=idle160'
 refine callsDIn_of_wpSIn fok160.fn hb trivial fun c₀ cs hu=>?_
 apply wpSIn_seq
 apply wpSIn_region
 refine hA _ _ c₀ cs w hu ?_
 show c.wpSIn _ _ _ _ _ _ _
 refine wpSIn_of_wpIn rfl ?_
 have hn:g160.fn.ntmps=14:=rfl
 refine hB _ _ w ?_ ?_ fun a' hd=>?_
 ·rw [hn]; simp
 ·rw [hn]; simp
 ·refine ⟨hd,.returning,?_,.tuple #[],?_,rfl,rfl,rfl⟩
  ·cases c₀; simp_all
  ·simp [results,g160]
theorem try_parts:∃(c0:Code) (i1 i2 i3:Nat) (o1 o2 o3:Array Oper),Tryz.f138.body=some (.seq c0 (.seq (.region i1 o1 false) (.seq (.region i2 o2 false) (.seq (.region i3 o3 false) .ret))))∧codeOk T [] c0=true∧
  (∀(H:GH) (ρ:Rho) (Q:VQ),Q .normal (upd ρ 2 (.pointer (some (ga H.next 0 0)))) [] (H.push (.arr { cells:= [vi 0],ty:=33 }))→wpC ⟨Tryz.prog,T,[],6,none⟩ c0 Q ρ [] H)∧
  (∀(Q:Exit→Act→World→Prop) (t:Array Value) (w:World) (p2:Value),6=t.size→t[2]?=some p2→(∀a',a'.defers= [{ target:=.fn (.func 160) #[p2],args:= #[] }]→a'.tmps.size=6→a'.tmps[0]?=t[0]?→a'.tmps[2]?=some p2→Q .normal a' w)→(Code.region i1 o1 false).wpIn Fence.wide 0 Tryz.prog Q { tmps:=t,defers:= [] } w)∧
  (∀(Q:Exit→Act→World→Prop) (a:Act) (w:World) (f:FuncId) (first cap:Array Value),6=a.tmps.size→a.tmps[0]?=some (.func (.func f) first cap)→Ent Tryz.prog f→
   CallsIn Fence.wide 0 Tryz.prog f (first++cap) w (fun e w'=>match e with
    | .returned _v=>∀a':Act,a'.defers=a.defers→a'.tmps.size=6→a'.tmps[2]?=a.tmps[2]?→Q .normal a' w'
    | .panicked ch=>∀a':Act,a'.defers=a.defers→a'.tmps.size=6→a'.tmps[2]?=a.tmps[2]?→Q (.panic ch) a' w'
    | .outgrown=>LetsOut Q)→(Code.region i2 o2 false).wpIn Fence.wide 0 Tryz.prog Q a w)∧
  (∀(Q:Exit→Act→World→Prop) (a:Act) (w:World) (β:Bm) (H:GH) (g2:Nat) (p2:Value),6=a.tmps.size→a.tmps[2]?=some p2→VR β (.pointer (some (ga g2 0 0))) p2→
   H.get g2=some (.arr { cells:= [vi 0],ty:=33 })→Rel β H w→
   (∀w' β',Rel β' (H.put g2 (.arr { cells:= [vi 0],ty:=33 })) w'→Ext β H w β' (H.put g2 (.arr { cells:= [vi 0],ty:=33 })) w'→Q .normal a w')→
   (Code.region i3 o3 false).wpIn Fence.wide 0 Tryz.prog Q a w):=by
 refine ⟨_,_,_,_,_,_,_,rfl,by kernel_rfl,?_,?_,?_,?_⟩
 ·intro H ρ Q hq
  simp
  exact hq
 ·intro Q t w p2 ht h2 hq
  refine wpIn_region ?_
  have hmf:∀(fn:Fn) (first cap:Array Value) (w:World),(Instr.makeFunc fn first cap).run Tryz.prog w=.ok (.func fn first cap) w:=fun _ _ _ _=>rfl
  have h4:3<t.size:=by omega
  simp [wpOpsIn,go_sem,h2,Oper.uponIn,h4]
  exact hq _ rfl (by simp; omega) (by simp) (by simp [h2])
 ·intro Q a w f first cap ht h0 hent hc
  refine wpIn_region ?_
  have h5:4<a.tmps.size:=by omega
  simp [wpOpsIn,go_sem,h0,Oper.uponIn,h5]
  refine ⟨trivial,?_⟩
  rw [hent]
  refine ⟨rfl,hc.mono ?_⟩
  intro e w' h
  cases e with
  |returned v=>exact h _ rfl (by simp; omega) (by simp)
  |panicked ch=>exact h _ rfl (by simp; omega) (by simp)
  |outgrown=>exact h
 ·intro Q a w β H g2 p2 ht h2 v2 hg2 hR hq
  refine wpIn_region ?_
  simp only [wpOpsIn,List.size_toArray,List.length_cons,List.length_nil,Nat.zero_add,List.range_succ,List.range_zero,List.nil_append]
  simp only [List.getElem?_toArray,List.getElem?_cons_zero,Region.wanted,if_true,Oper.wpIn]
  refine up_skip (st_skip rfl (by simp; rfl) rfl h2 v2 hg2 hR) fun w1 β1 hR1 hE1=>?_
  exact hq w1 β1 hR1 hE1
def TryN (H:GH) (R:GO→GH→Prop) (x:GO) (H1:GH):Prop:=
 H.next+1≤H1.next∧H1.get H.next=some box31∧match x with
  | .ret _=>R (.ret (vi 0)) (H1.put H.next box31)
  | .pan v=>∃n,v=.iface 232 (.agg #[vi n])∧∀H2,H1.next≤H2.next→(∀g,g<H1.next→g≠H.next→H2.get g=H1.get g)→R (.ret (vi 7)) H2
theorem res138 {t:Array Value} {p2:Value} (h2:t[2]?=some p2):results Tryz.f138 t=results Tryz.f138 #[undef,undef,p2,undef,undef,undef]:=by
 have hr:Tryz.f138.results= #[.cell 2 33]:=rfl
 simp [results,h2]
theorem res138_ok {t:Array Value} {p2:Value} (h2:t[2]?=some p2) {β:Bm} {H:GH} {w:World} {g2:Nat} {a:Int} (hR:Rel β H w) (v2:VR β (.pointer (some (ga g2 0 0))) p2)
  (k2:H.get g2=some (.arr { cells:= [vi a],ty:=33 })):∃v',(results Tryz.f138 t).run Tryz.prog w=.ok v' w∧VR β (vi a) v':=by
 rw [res138 h2]
 have u:=VR.undef β
 refine results_ok (P:=Tryz.prog) (vs:= [vi a]) tok hR (tm:= [undef,undef,.pointer (some (ga g2 0 0)),undef,undef,undef]) (.cons u (.cons u (.cons v2 (.cons u (.cons u (.cons u .nil)))))) ?_
 have hr:Tryz.f138.results.toList= [.cell 2 33]:=rfl
 rw [hr]
 simp [readResults,readResult,k2]
theorem try_con {f:FuncId} {first cap:Array Value} {H:GH} {R:GO→GH→Prop} (hf:GCall Tryz.prog f (first.toList++cap.toList) (H.push box31) (TryN H R)):
  GCall Tryz.prog 138 [.func (.func f) first cap] H R:=by
 have hname:(Tryz.f138.name== "runtime.NumGoroutine")=false:=by kernel_rfl
 have hfn:Tryz.prog.funcs[138]?=some Tryz.f138:=Tryz.func138
 obtain ⟨c0,i1,i2,i3,o1,o2,o3,hb,hok,hA,hB,hC,hD⟩:=try_parts
 refine ⟨fun xs w=>?_,fun β w args' hR hV=>?_⟩
 ·have h1:Tryz.f138.name≠ "runtime.NumGoroutine":=by simpa using hname
  simp [callFunc,hfn,h1,hb]
 refine callsIn_of_wp_marks hfn hb trivial ?_
 refine wpIn_seq ?_
 obtain ⟨v',rfl,hv⟩:∃v',args'= [v']∧VR β (.func (.func f) first cap) v':=by
  cases hV with
  |cons h t=>cases t; exact ⟨_,rfl,h⟩
 have hn:Tryz.f138.ntmps=6:=rfl
 have h0:ActR β (fa 6 (rho0 [.func (.func f) first cap]) []) ({ tmps:= [v'].toArray++Array.replicate (Tryz.f138.ntmps - [v'].toArray.size) undef,defers:= [] }:Act):=by
  rw [hn,fa_rho0 1 5 _ rfl]
  refine ⟨?_,.nil⟩
  simp only [Array.toList_append,Array.toList_replicate]
  exact (VRs.cons hv .nil).append (VRs.replicate _ (VR.undef β))
 have hw:=wpC_sound (X:=⟨Tryz.prog,T,[],6,none⟩) tok mix c0 hok (hA H (rho0 [.func (.func f) first cap]) (fun x ρ m H'=>x=.normal∧m= []∧H'=H.push box31∧ρ=upd (rho0 [.func (.func f) first cap]) 2 (.pointer (some (ga H.next 0 0)))) ⟨rfl,rfl,rfl,rfl⟩)
 refine wpIn_mono (hw β w _ none hR h0 .none) fun e r w1 hp=>?_
 obtain ⟨x,a',β1,H1,⟨ρ,m,rfl,rfl,rfl,rfl,rfl⟩,hR1,hE1,hA1,he⟩:=hp
 cases he
 have hsz:6=r.tmps.size:=by have:=hA1.tmps.length; simpa [fa] using this
 obtain ⟨f0,q0,vf⟩:=hA1.tmps.get? (i:=0) (v:=.func (.func f) first cap) (by simp [fa])
 obtain ⟨p2,q2,v2⟩:=hA1.tmps.get? (i:=2) (v:=.pointer (some (ga H.next 0 0))) (by simp [fa])
 simp only [Array.getElem?_toList] at q0 q2
 have hd:r.defers= []:=by
  have:=hA1.marks
  generalize r.defers=ds at this
  cases this; rfl
 obtain ⟨rt,rd⟩:=r
 simp only at hd hsz q0 q2
 subst hd
 show Code.wpIn _ _ _ _ _ _ _
 refine wpIn_seq ?_
 refine hB _ rt w1 p2 hsz q2 fun a1 k1 k2 k3 k4=>?_
 show Code.wpIn _ _ _ _ _ _ _
 refine wpIn_seq ?_
 obtain ⟨first',cap',rfl,hargs⟩:∃first' cap',f0=.func (.func f) first' cap'∧VRs β1 (first.toList++cap.toList) (first'.toList++cap'.toList):=by
  cases vf with
  |func hfn s1 x1 s2 x2=>
   cases hfn
   refine ⟨_,_,rfl,VRs.append (.of_getD (by simpa using s1) fun i hi=>?_) (.of_getD (by simpa using s2) fun i hi=>?_)⟩
   ·simpa using x1 i (by simpa using hi)
   ·simpa using x2 i (by simpa using hi)
 have hcall:=hf.2 β1 w1 _ hR1 hargs
 have harr:(first'.toList++cap'.toList).toArray=first'++cap':=by simp
 rw [harr] at hcall
 refine hC _ a1 w1 f first' cap' k2.symm (k3.trans q0) hf.1 (hcall.mono ?_)
 rintro e w2 ⟨x,β2,H2,hK,hR2,hE2,hEnd⟩
 obtain ⟨hK1,hK2,hK4⟩:=hK
 have v2':=v2.mono hE2.le
 have hent:Ent Tryz.prog 160:=fun xs w=>by
  have h1:Tryz.f160.name≠ "runtime.NumGoroutine":=by
   have:(Tryz.f160.name== "runtime.NumGoroutine")=false:=by kernel_rfl
   simpa using this
  obtain ⟨_,_,_,hb6,_⟩:=rest160
  have hb6':Tryz.f160.body=_:=hb6
  simp [callFunc,show Tryz.prog.funcs[160]?=some Tryz.f160 from Tryz.func160,h1,hb6']
 have hE02:=hE1.trans hR hE2
 cases hEnd with
 |ret hv2=>
  intro a3 d1 d2 d3
  show Code.wpIn _ _ _ _ _ _ _
  refine wpIn_seq ?_
  refine hD _ a3 w2 β2 H2 H.next p2 d2.symm (d3.trans k4) v2' hK2 hR2 fun w3 β3 hR3 hE3=>?_
  show Code.wpIn _ _ _ _ _ _ _
  refine wpIn_ret ?_
  show LeavesInM _ _ _ _ _ _ a3.defers _ _
  rw [d1,k1]
  refine ⟨by simp,.inr ⟨fun _=>by simp_all [Fence.wide],_,_,160,#[p2],rfl,?_,fun _ _=>trivial,idle160.mono ?_⟩⟩
  ·have:=hent #[p2] w3
   first|(simp [invoke]; done)|simpa [invoke] using this
  ·rintro e u' w' ⟨rfl,rfl,rfl⟩
   obtain ⟨v3r,hrun,hvr⟩:=res138_ok (t:=a3.tmps) (d3.trans k4) hR3 (v2'.mono hE3.le) (a:=0) (g2:=H.next) (by simp)
   exact ⟨v3r,hrun,_,β3,_,hK4,hR3,hE02.trans hR hE3,.ret hvr⟩
 |pan hv2=>
  intro a3 d1 d2 d3
  show LeavesInM _ _ _ _ _ _ a3.defers _ _
  rw [d1,k1]
  obtain ⟨n,rfl,hK5⟩:=hK4
  refine ⟨by simp,.inr ⟨fun _=>by simp_all [Fence.wide],_,_,160,#[p2],rfl,?_,fun _ _=>trivial,(catch160 hR2 v2' hv2 (by omega) hK2).mono ?_⟩⟩
  ·have:=hent #[p2] w2
   first|(simp [invoke]; done)|simpa [invoke] using this
  ·rintro e u' w' ⟨rfl,rfl,β3,H3,hR3,hE3,m1,m2,m4⟩
   obtain ⟨v3r,hrun,hvr⟩:=res138_ok (t:=a3.tmps) (d3.trans k4) hR3 (v2'.mono hE3.le) (a:=7) (g2:=H.next) m4
   exact ⟨v3r,hrun,_,β3,_,hK5 _ m1 m2,hR3,hE02.trans hR hE3,.ret hvr⟩
end Go.Gm.Tryz
end
section
namespace Go.Gm.Tryz
open Go.Proofs
@[simp] def encOut (c:Int):List Value:= [vi 0,vi c,vi 0]
@[simp,reducible] def outV (c:Int):Value:=.agg #[vi 0,vi c,vi 0]
@[simp,reducible] def treeC (I:Int) (a:Option Addr) (n f:Nat):List Value:= [vi I,.slice none 0 0,.slice a n f]
@[simp,reducible] def treeV (I:Int) (a:Option Addr) (n f:Nat):Value:=.agg (treeC I a n f).toArray
@[simp,reducible] def shdC (I:Int) (a:Option Addr) (n f:Nat) (s:Value):List Value:= [vi I,.slice none 0 0,.slice a n f,s]
@[simp,reducible] def shdV (I:Int) (a:Option Addr) (n f:Nat) (s:Value):Value:=.agg (shdC I a n f s).toArray
theorem din_con (x lo hi:Int) (H:GH):C 67 [vi x,vi lo,vi hi] H (.bool (inI x lo hi)) H:=by
 refine con_wp tok mix fok67 (F:=g67) (c:=_) rfl (n:=15) rfl (rs:= [.tmp 6]) rfl (anch_closed rfl) ?_
 simp
 refine contG_bool (fun h=>?_) (fun h=>?_)<;>(try simp only [decide_eq_true_eq,decide_eq_false_iff_not] at h)<;>simp [h,inI]
theorem dCups_con (n:Int) (H:GH):C 66 [vi n] H (.bool (inI n 0 200)) H:=by
 refine con_wp tok mix fok66 (F:=g66) (c:=_) rfl (n:=5) rfl (rs:= [.tmp 2]) rfl (anch_closed rfl) ?_
 simp
 refine (din_con _ _ _ _).go ?_
 simp
theorem dClass_con (n:Int) (H:GH):C 38 [vi n] H (.bool (inI n 0 3)) H:=by
 refine con_wp tok mix fok38 (F:=g38) (c:=_) rfl (n:=5) rfl (rs:= [.tmp 2]) rfl (anch_closed rfl) ?_
 simp
 refine (din_con _ _ _ _).go ?_
 simp
theorem indexOut_con (l:List Int) (hl:l.length<1000000) (a:Option Addr) (fl:Nat) (g:FuncId) (cap:Array Value) (p:Int→Bool) (H:GH) (hr:Elems H a 3 encOut l)
  (hp:∀i (h:i<l.length),C g (outV l[i]::cap.toList) H (.bool (p l[i])) H):C 105 [.slice a l.length fl,.func (.func g) #[] cap] H (vi (idxOf p l)) H:=by
 refine gcall_wp tok mix fok105 (F:=g105) (c:=_) rfl (n:=19) rfl (rs:= [.tmp 4]) rfl ?_
 simp
 refine wp_up tok mix (by kernel_rfl) l.length (fun i ρ m H'=>ρ 0=.slice a l.length fl∧ρ 1=.func (.func g) #[] cap∧ρ 7=vi l.length∧ρ 8=vi i∧m= []∧H'=H∧∀j (h:j<l.length),j<i→p l[j]=false) (i0:=0) (by omega) (by simp) ?_
 rintro i ρ m H' hi ⟨h0,h1,h7,h8,rfl,rfl,hj⟩
 simp [h7,h8]
 refine wpB_dec (fun hlt=>?_) (fun hge=>?_)
 ·obtain ⟨b,rfl,hb,hrd⟩:=hr.at i hlt
  simp (disch:=omega) [h0,h1,h8,hlt,hrd]
  refine (hp i hlt).go ?_
  simp
  refine wpB_bool (fun h=>?_) (fun h=>?_)
  ·simp [idxOf_at hlt h hj]
  ·simp (disch:=omega) [h0,h1,h7,h8,wrap64]
   intro j hjl hji
   by_cases hc:j=i
   ·subst hc; exact h
   ·exact hj j hjl (by omega)
 ·simp [idxOf_none (fun j h=>hj j h (by omega))]
theorem anyOut_con (l:List Int) (hl:l.length<1000000) (a:Option Addr) (fl:Nat) (g:FuncId) (cap:Array Value) (p:Int→Bool) (H:GH) (hr:Elems H a 3 encOut l)
  (hp:∀i (h:i<l.length),C g (outV l[i]::cap.toList) H (.bool (p l[i])) H):C 68 [.slice a l.length fl,.func (.func g) #[] cap] H (.bool (l.any p)) H:=by
 refine gcall_wp tok mix fok68 (F:=g68) (c:=_) rfl (n:=9) rfl (rs:= [.tmp 4]) rfl ?_
 simp
 refine (indexOut_con l hl a fl g cap p H hr hp).go ?_
 simp [←idxOf_any]
def outBad (c:Int):Bool:= !inI c 1 200
theorem outBad_con (I:Int) (a:Option Addr) (n f:Nat) (c:Int) (g:Nat) (H:GH) (hgn:g<H.next) (hg:H.get g=some (.arr { cells:=treeC I a n f,ty:=41 })):C 69 [outV c,.pointer (some (ga g 0 0))] H (.bool (outBad c)) H:=by
 refine con_wp tok mix fok69 (F:=g69) (c:=_) rfl (n:=28) rfl (rs:= [.tmp 3]) rfl (anch_closed rfl) ?_
 have hne:¬g=H.next:=by omega
 simp (disch:=omega) [hg]
 refine (din_con _ _ _ _).go ?_
 simp [inI]
 by_cases h:c<1
 ·have:¬(1≤c∧c≤200):=by omega
  simp [h,outBad,inI,this]
 simp [h]
 refine (dCups_con _ _).go ?_
 by_cases h2:c≤200
 ·have h3:inI c 0 200=true:=by simp [inI]; omega
  have h4:outBad c=false:=by simp [outBad,inI]; omega
  simp [h3,h4]
  refine (dClass_con _ _).go ?_
  simp [inI]
 ·have h3:inI c 0 200=false:=by simp [inI]; omega
  have h4:outBad c=true:=by simp [outBad,inI]; omega
  simp [h3,h4]
def isTreeB (I:Int) (cs:List Int):Bool:=inI I 0 200&&inI cs.length 1 8&& !cs.any outBad
theorem tree_ok {I:Int} {cs:List Int} (h:isTreeB I cs=true):0≤I∧I≤200∧1≤cs.length∧cs.length≤8∧∀c∈cs,1≤c∧c≤200:=by
 simp only [isTreeB,inI,Bool.and_eq_true,decide_eq_true_eq,Bool.not_eq_true',List.any_eq_false] at h
 refine ⟨by omega,by omega,by omega,by omega,fun c hc=>?_⟩
 have:=h.2 c hc
 simp [outBad,inI] at this
 omega
theorem isTree_con (I:Int) (cs:List Int) (hl:cs.length≤100) (a:Option Addr) (f:Nat) (H:GH) (hE:Elems H a 3 encOut cs):C 36 [treeV I a cs.length f] H (.bool (isTreeB I cs)) H:=by
 refine con_wp tok mix fok36 (F:=g36) (c:=_) rfl (n:=47) rfl (rs:= [.tmp 2]) rfl (anch_closed rfl) ?_
 simp
 generalize hH1:GH.push H _=H1
 have hs1:Sub H H1:=by subst hH1; exact Sub.push (.refl H) _
 have k1:H1.get H.next=some (.arr { cells:=treeC I a cs.length f,ty:=41 }):=by subst hH1; simp
 have hn1:H1.next=H.next+1:=by subst hH1; simp
 clear hH1
 refine (dCups_con _ _).go ?_
 simp
 cases h1:inI I 0 200
 ·simp [isTreeB,h1]
  exact hs1
 simp [k1]
 refine (din_con _ _ _ _).go ?_
 simp
 cases h2:inI cs.length 1 8
 ·simp [isTreeB,h1,h2]
  exact hs1
 simp [k1]
 refine wp_up tok mix (by kernel_rfl) 0 (fun i ρ m H'=>ρ 1=.pointer (some (ga H.next 0 0))∧ρ 24=vi 0∧ρ 25=vi i∧m= []∧H'=H1) (i0:=0) (by omega) (by simp) ?_
 rintro i ρ m H' hi ⟨e1,e24,e25,rfl,rfl⟩
 obtain rfl:i=0:=by omega
 simp [e1,e24,e25,k1]
 refine (anyOut_con cs (by omega) a f 69 #[.pointer (some (ga H.next 0 0))] outBad _ (hE.mono hs1) (fun i hi=>outBad_con I a _ f _ _ _ (by omega) k1)).go ?_
 simp [isTreeB,h1,h2]
 exact hs1
theorem dsum_con (l:List Int) (hl:partial_ok l) (a:Option Addr) (fl:Nat) (H:GH) (hr:Elems H a 1 encI l):C 172 [.slice a l.length fl] H (vi l.sum) H:=by
 have hlen:=hl.1
 refine con_wp tok mix fok172 (F:=g172) (c:=_) rfl (n:=17) rfl (rs:= [.tmp 2]) rfl (anch_closed rfl) ?_
 simp
 refine wp_up tok mix (by kernel_rfl) l.length (fun i ρ m H'=>ρ 6=.slice a l.length fl∧ρ 7=vi l.length∧ρ 8=vi i∧ρ 3=vi (l.take i).sum∧m= []∧H'=H) (i0:=0) (by omega) (by simp) ?_
 rintro i ρ m H' hi ⟨e6,e7,e8,e3,rfl,rfl⟩
 simp [e7,e8]
 refine wpB_dec (fun hlt=>?_) (fun hge=>?_)
 ·obtain ⟨b,rfl,hb,hrd⟩:=hr.at i hlt
  have:=sum_take l hl i hi
  have hx:=hl.2 _ (List.getElem_mem hlt)
  have e:(l.take (i+1)).sum=(l.take i).sum+l[i]:=by rw [List.take_succ_eq_append_getElem hlt,List.sum_append]; simp
  simp (disch:=omega) [e6,e7,e8,e3,hlt,hrd,wrap64,e]
 ·have:i=l.length:=by omega
  subst this
  simp [e3]
theorem cap_con (I:Int) (a:Option Addr) (n f:Nat) (H:GH):C 162 [treeV I a n f,vi 0] H (vi I) H:=by
 refine con_wp tok mix fok162 (F:=g162) (c:=_) rfl (n:=16) rfl (rs:= [.tmp 4]) rfl (anch_closed rfl) ?_
 simp
 try exact Sub.push (.refl H) _
end Go.Gm.Tryz
end
section
namespace Go.Gm.Tryz
open Go.Proofs
def nodeR (_:GH) (v:Value) (x:Int):Prop:=v=vi x
theorem up_iter {g3 g2:Nat} {H:GH} (k3:H.get g3=some (.arr { cells:= [vi 0],ty:=3 })) (n3:g3<H.next):
  Iter Tryz.prog 177 #[] #[.pointer (some (ga g3 0 0)),.pointer (some (ga g2 0 0))] H [(0:Int)] nodeR (fun g=>g=g3):=by
 intro l Hc Inv Stop O hs hY hSt hSt2 hI hO hP
 have k3:=(hs.2 _ n3).trans k3
 have n3:=Nat.lt_of_lt_of_le n3 hs.1
 have ho3:¬O g3:=fun hc=>hP _ hc rfl
 refine gcall_wp tok mix fok177 (F:=g177) (c:=_) rfl (n:=18) rfl (rs:= []) rfl ?_
 simp
 refine wp_loop tok mix (by kernel_rfl) (fun k ρ m H'=>ρ 0=.func (.yield l) #[] #[]∧ρ 1=.pointer (some (ga g3 0 0))∧m= []∧H'=Hc) (k:=0) (by simp) ?_
 rintro k ρ m H' ⟨e0,e1,rfl,rfl⟩
 simp [e0,e1,k3]
 refine (hY 0 (by simp) H' O _ hI rfl (by intro b hb; simp [valBlk] at hb)).mono ?_
 rintro x H2 ⟨O2,hf2,⟨rfl,h2⟩|⟨rfl,h2⟩⟩
 ·have k32:=(hf2.keep _ n3 ho3).trans k3
  simp [e1,k32]
  exact ⟨O2,hf2,.inl h2⟩
 ·simp
  exact ⟨O2,hf2,.inr h2⟩
theorem upn_con (I:Int) (a:Option Addr) (n f:Nat) (H:GH):C 171 [treeV I a n f,vi 0] H (.func (.func 177) #[] #[.pointer (some (ga (H.next+1) 0 0)),.pointer (some (ga H.next 0 0))])
  ((H.push (.arr { cells:=treeC I a n f,ty:=41 })).push (.arr { cells:= [vi 0],ty:=3 })):=by
 refine gcall_wp tok mix fok171 (F:=g171) (c:=_) rfl (n:=6) rfl (rs:= [.tmp 4]) rfl ?_
 simp
end Go.Gm.Tryz
end
section
namespace Go.Gm.Tryz
open Go.Proofs
def watersL (t:Tbl) (s:Int):List Int:=(List.range 361).map fun (n:Nat)=>waterI t s n
theorem watersL_len (t:Tbl) (s:Int):(watersL t s).length=361:=by simp [watersL]
theorem watersL_at {t:Tbl} {s:Int} {n:Nat} (h:n<(watersL t s).length):(watersL t s)[n]=waterI t s n:=by simp [watersL]
def watV (t:Tbl) (s:Int) (i:Nat) (n:Nat):Int:=match ((allSets t.rows.length).take i).find? (fun x=>decide (countsI t s x=n)) with|some x=>givesI t x|none=> -1
def watL (t:Tbl) (s:Int) (i:Nat):List Int:=(List.range 361).map (watV t s i)
theorem watL_len (t:Tbl) (s:Int) (i:Nat):(watL t s i).length=361:=by simp [watL]
theorem watL_at {t:Tbl} {s:Int} {i n:Nat} (h:n<(watL t s i).length):(watL t s i)[n]=watV t s i n:=by simp [watL]
theorem watL_zero (t:Tbl) (s:Int):watL t s 0=List.replicate 361 (-1):=by
 apply List.ext_getElem (by rw [watL_len,List.length_replicate])
 intro n h1 h2
 rw [watL_at,List.getElem_replicate]
 simp [watV]
theorem watL_all {t:Tbl} (ht:isTableB t=true) {s:Int} (hs:isSystemI s=true):watL t s (allSets t.rows.length).length=watersL t s:=by
 apply List.ext_getElem (by simp [watL,watersL])
 intro n h1 h2
 rw [watL_at,watersL_at]
 have hn:n<361:=by simpa [watL] using h1
 have hu:nisUnitsI n=true:=by simp [nisUnitsI,inI]; omega
 unfold watV waterI setArgs firstSet alikeSets
 rw [ht,hs,hu,List.take_length,List.head?_filter]
 rfl
theorem countsI_bd {t:Tbl} (h:isTableB t=true) {l:List Int} (hl:SetOk t l) (s:Int):0≤countsI t s l∧countsI t s l≤360:=by
 have h6:=hl.1
 have:∀ {l:List Int},(∀n∈l,0≤n∧n<t.rows.length)→0≤countsI t s l∧countsI t s l≤60*l.length:=by
  intro l
  induction l with
  |nil=>intro _; simp [countsI]
  |cons x l ih=>
   intro hm
   have h1:=ih fun n hn=>hm n (by simp [hn])
   have h2:=unit_bd h (hm x (by simp)).1 (hm x (by simp)).2 s
   unfold countsI at h1 ⊢
   simp only [List.map_cons,List.sum_cons,List.length_cons]
   omega
 have:=this hl.2
 omega
theorem watL_succ {t:Tbl} (ht:isTableB t=true) (s:Int) {i:Nat} (hi:i<(allSets t.rows.length).length):
  watL t s (i+1)=if watV t s i (countsI t s (allSets t.rows.length)[i]).toNat<0 then (watL t s i).set (countsI t s (allSets t.rows.length)[i]).toNat (givesI t (allSets t.rows.length)[i]) else watL t s i:=by
 have hok:=allSets_ok (t:=t) (List.getElem_mem hi)
 have hc:=countsI_bd ht hok s
 have htk:(allSets t.rows.length).take (i+1)=(allSets t.rows.length).take i++ [(allSets t.rows.length)[i]]:=List.take_succ_eq_append_getElem hi
 have hmem:∀n x,((allSets t.rows.length).take i).find? (fun x=>decide (countsI t s x=(n:Nat)))=some x→0≤givesI t x:=fun n x hx=>
  (givesI_bd ht (allSets_ok (List.mem_of_mem_take (List.mem_of_find?_eq_some hx)))).1
 have hv:∀n:Nat,watV t s (i+1) n=if watV t s i n<0∧countsI t s (allSets t.rows.length)[i]=n then givesI t (allSets t.rows.length)[i] else watV t s i n:=by
  intro n
  unfold watV
  rw [htk,List.find?_append]
  cases hf:((allSets t.rows.length).take i).find? (fun x=>decide (countsI t s x=n)) with
  |some x=>
   have:=hmem n x hf
   simp only [Option.some_or]
   rw [if_neg (by omega)]
  |none=>
   simp only [Option.none_or,List.find?_cons,List.find?_nil]
   by_cases hq:countsI t s (allSets t.rows.length)[i]=n
   ·simp [hq]
   ·simp [hq]
 obtain ⟨c,hcn⟩:=Int.eq_ofNat_of_zero_le hc.1
 rw [hcn] at hv hc ⊢
 simp only [Int.toNat_natCast]
 split
 ·rename_i hneg
  apply List.ext_getElem (by simp [watL])
  intro n h1 h2
  rw [watL_at,hv,List.getElem_set]
  by_cases hq:c=n
  ·subst hq; rw [if_pos ⟨hneg,rfl⟩,if_pos rfl]
  ·rw [if_neg (fun h=>hq (by have:=h.2; omega)),if_neg hq,watL_at]
 ·rename_i hneg
  apply List.ext_getElem (by simp [watL])
  intro n h1 h2
  rw [watL_at,hv,watL_at]
  rw [if_neg (fun h=>?_)]
  have:c=n:=by have:=h.2; omega
  subst this
  exact hneg h.1
theorem gop_makeSlice25 {ρ:Operand→Value} {H:GH} {x y:Operand} {n:Nat} (hx:ρ x=vi n) (hy:ρ y=vi n) (hn:n≤1000):
  gop T ρ H (.makeSlice 25 x y)=some (.val (.slice (some (ga H.next 0 0)) n 1) (H.push (.arr { cells:=replicateL n [vi 0],ty:=3 }))):=by
 have e:gop T ρ H (.makeSlice 25 x y)=gMakeSlice T ρ H 25 x y:=rfl
 rw [e]
 unfold gMakeSlice
 rw [hx,hy]
 simp [kindOf,limit]
 omega
theorem allSets_len {m:Nat} (hm:m≤4):(allSets m).length≤28672:=by
 have:∀j,j≤7→((List.range j).flatMap fun k=>setsFrom m k []).length≤j*4096:=by
  intro j
  induction j with
  |zero=>intro _; simp
  |succ j ih=>
   intro hj
   have:=ih (by omega)
   have h2:(setsFrom m j []).length≤4096:=Nat.le_trans (setsFrom_len j _) (pow_bd hm (by omega))
   rw [List.range_succ,List.flatMap_append]
   simp only [List.flatMap_cons,List.flatMap_nil,List.append_nil,List.length_append]
   omega
 exact this 7 (by omega)
set_option maxRecDepth 20000 in
theorem rwaters_con (l:TLoc) (t:Tbl) (ht:isTableB t=true) (hrows:t.rows.length≤4) (s:Int) (hs:isSystemI s=true) (H:GH) (hT:TblIn H l t):GCall Tryz.prog 110 [tblV l t,vi s] H fun x H'=>Sub H H'∧∃v,x=.ret v∧OwnL H' H.next v 3 1 encI (watersL t s):=by
 rcases l with ⟨⟨ra,rf⟩⟩
 refine gcall_wp tok mix fok110 (F:=g110) (c:=_) rfl (n:=50) rfl (rs:= [.tmp 4]) rfl ?_
 simp
 rw [gop_makeSlice25 (n:=361) (by simp) (by simp) (by omega)]
 generalize hH1:GH.push H _=H1
 have hs1:Sub H H1:=by subst hH1; exact Sub.push (.refl H) _
 have k1:H1.get H.next=some (.arr { cells:= [.slice ra t.rows.length rf,vi t.draw],ty:=24 }):=by subst hH1; simp
 have hn1:H1.next=H.next+1:=by subst hH1; simp
 clear hH1
 have hT1:=hT.mono hs1
 generalize hH2:GH.push H1 _=H2
 have hs2:Sub H1 H2:=by subst hH2; exact Sub.push (.refl H1) _
 have ho2:OwnL H2 H1.next (.slice (some (ga H1.next 0 0)) 361 1) 3 1 encI (List.replicate 361 (0:Int)):=by
  have hg:H2.get H1.next=some (.arr { cells:=(List.replicate 361 (0:Int)).flatMap encI,ty:=3 }):=by subst hH2; rw [GH.get_push_same,replicate_flat]; rfl
  have hn:H2.next=H1.next+1:=by subst hH2; rfl
  have:=OwnL.mk (N:=H1.next) (enc:=encI) (sz:=1) (l:=List.replicate 361 (0:Int)) (by decide) (Nat.le_refl _) (by omega) hg
  rwa [List.length_replicate] at this
 have hn2:H2.next=H1.next+1:=by subst hH2; rfl
 clear hH2
 generalize hR:List.replicate 361 (0:Int)=R at ho2
 have hRl:R.length=361:=by rw [←hR,List.length_replicate]
 have hRm:R.map (fun _=>(-1:Int))=watL t s 0:=by rw [watL_zero,←hR,List.map_replicate]
 clear hR
 have hadb:(ga H1.next 0 0).block=H1.next:=rfl
 generalize ga H1.next 0 0=ad at ho2 hadb ⊢
 simp
 refine wp_up tok mix (by kernel_rfl) R.length (fun i ρ m H'=>ρ 1=vi s∧ρ 2=.pointer (some (ga H.next 0 0))∧ρ 5=.slice (some ad) 361 1∧ρ 6=vi i∧m= []∧Sub H1 H'∧OwnL H' H1.next (.slice (some ad) 361 1) 3 1 encI (upto (fun _=>(-1:Int)) R i)) (i0:=0) (by omega)
  ⟨by simp,by simp,by simp,by simp,rfl,hs2,by rw [upto_zero]; exact ho2⟩ ?_
 rintro i ρ m H3 hi ⟨e1,e2,e5,e6,rfl,hs3,ho3⟩
 simp [e5,e6]
 rcases Nat.lt_or_ge i R.length with hlt|hge
 ·rw [hRl] at hlt
  obtain ⟨H4,hw4,ho4,hn4,hs4⟩:=ho3.wr (fun _=>rfl) (i:=i) (k:=0) (by rw [upto_len]; omega) (c:=vi (-1)) (new:= []) (by simp) (y:=(-1:Int)) (by simp [splice])
  rw [←upto_succ (fun _=>(-1:Int)) (by omega)] at ho4
  have hltI:(i:Int)<361:=by omega
  simp (disch:=omega) [hltI,e1,e2,e5,e6,hw4,wrap64]
  exact ⟨by omega,⟨by have:=hs3.1; omega,fun g hg=>by rw [hs4 g (by omega),hs3.2 g hg]⟩,ho4⟩
 have hlt:¬(i:Int)<361:=by omega
 simp [hlt]
 have:i=R.length:=by omega
 subst this
 rw [upto_all,hRm] at ho3
 have hg3:=(hs3.2 H.next (by omega)).trans k1
 have hlt3:H.next<H3.next:=by have:=hs3.1; omega
 simp (disch:=omega) [e2,hg3]
 have hSets:=r3Sets_con ⟨⟨ra,rf⟩⟩ t hrows H3 (hT1.mono hs3)
 refine hSets.mono ?_
 rintro x H4 ⟨hs4,v,rfl,hL⟩
 have ho4:=ho3.sub hs4
 have hlen:=allSets_len hrows
 obtain ⟨ls,hl1,hl2,hl3⟩:=hL
 obtain ⟨al,fl,rfl,hEl⟩:=hl1.elems (fun _=>rfl)
 have hll:ls.length=(allSets t.rows.length).length:=by rw [←hl2,List.length_map]
 simp
 refine wp_up tok mix (by kernel_rfl) ls.length (fun i ρ m H'=>ρ 1=vi s∧ρ 2=.pointer (some (ga H.next 0 0))∧ρ 5=.slice (some ad) 361 1∧ρ 7=.slice al ls.length fl∧ρ 8=vi i∧m= []∧H4.next≤H'.next∧(∀g,g<H4.next→g≠H1.next→H'.get g=H4.get g)∧OwnL H' H1.next (.slice (some ad) 361 1) 3 1 encI (watL t s i)) (i0:=0) (by omega)
  ⟨by simp [e1],by simp [e2],by simp [e5],by simp,by simp,rfl,Nat.le_refl _,fun _ _ _=>rfl,ho4⟩ ?_
 rintro i ρ m H5 hi ⟨d1,d2,d5,d7,d8,rfl,hn5,hk5,ho5⟩
 simp [d7,d8]
 have hs14:Sub H1 H4:=hs3.trans hs4
 have hs15:Sub H1 H5:=⟨by have:=hs14.1; omega,fun g hg=>by rw [hk5 g (by have:=hs14.1; omega) (by omega),hs14.2 g hg]⟩
 refine wpB_dec (fun hlt=>?_) (fun hge=>?_)
 ·have hk45:∀ {α:Type} {a:Option Addr} {sz:Nat} {enc:α→List Value} {x:List α},Elems H4 a sz enc x→(∀c,a=some c→c.block≠H1.next)→Elems H5 a sz enc x:=fun e hne=>by
   refine ⟨e.len,fun c hc=>?_,e.nil⟩
   obtain ⟨y1,y2⟩:=e.ok c hc
   refine ⟨by omega,?_⟩
   rw [←y2]
   simp only [GH.read]
   rw [hk5 _ y1 (hne c hc)]
  have hbo:=ho4.blk_some
  obtain ⟨B,hB1,hB2⟩:=ho4.blk_ty hbo
  rw [hadb] at hB1
  have hls5:Elems H5 al 1 encPL ls:=hk45 hEl fun c hc hcb=>by
   subst hc
   have:=hl1.blk_some
   obtain ⟨A,hA1,hA2⟩:=hl1.blk_ty this
   rw [hcb,hB1] at hA1
   cases hA1
   rw [hB2] at hA2
   cases hA2
  obtain ⟨b,rfl,hb,hrd⟩:=hls5.at i hlt
  have hps:(ls[i]).2=(allSets t.rows.length)[i]'(by omega):=by
   have:(ls.map Prod.snd)[i]'(by simpa using hlt)=(allSets t.rows.length)[i]'(by omega):=by simp only [hl2]
   rwa [List.getElem_map] at this
  have hil:i<(allSets t.rows.length).length:=by omega
  have hok:=allSets_ok (t:=t) (List.getElem_mem hil)
  have hcb:=countsI_bd ht hok s
  have hsu:=watL_succ ht s hil
  have hil4:=hl3 _ (List.getElem_mem hlt)
  have hI5:Elems H5 (ls[i]).1.a 1 encI (allSets t.rows.length)[i]:=by
   have:=hk45 hil4.1 fun c hc hcb=>by have:=(hil4.2 c hc).1; have:=(ho3.blk_lt ho3.blk_some).2; omega
   rwa [hps] at this
  have hg5:=(hs15.2 H.next (by omega)).trans k1
  have hlt5:H.next<H5.next:=by have:=hs15.1; omega
  have hil2:(ls[i]).2.length=((allSets t.rows.length)[i]'hil).length:=by rw [hps]
  have hcon:=r3Counts_con ⟨⟨ra,rf⟩⟩ t ht s _ hok (ls[i]).1.a (ls[i]).1.fl H5 (hT1.mono hs15) hI5
  have hgiv:=r3Gives_con ⟨⟨ra,rf⟩⟩ t ht _ hok (ls[i]).1.a (ls[i]).1.fl H5 (hT1.mono hs15) hI5
  rw [←hil2] at hcon hgiv
  obtain ⟨cn,hcn⟩:=Int.eq_ofNat_of_zero_le hcb.1
  rw [hcn] at hcon hcb hsu
  simp only [Int.toNat_natCast] at hsu
  obtain ⟨a5,ha5,hba5,hr5⟩:=(ho5.elems' (fun _=>rfl)).at cn (by rw [watL_len]; omega)
  rw [watL_at] at hr5
  cases ha5
  simp (disch:=omega) [d1,d2,d7,d8,hg5,hrd]
  refine hcon.go ?_
  simp (disch:=omega) [d5,hr5]
  have hk5':∀H6:GH,H6.next=H5.next→(∀g,g≠ad.block→H6.get g=H5.get g)→H4.next≤H6.next∧∀g,g<H4.next→g≠H1.next→H6.get g=H4.get g:=fun H6 h1 h2=>
   ⟨by omega,fun g hg hne=>by rw [h2 g (by omega),hk5 g hg hne]⟩
  refine wpB_bool (fun h6=>?_) (fun h6=>?_)<;>(try simp only [decide_eq_true_eq,decide_eq_false_iff_not] at h6)
  ·rw [if_pos h6] at hsu
   obtain ⟨H6,hw6,ho6,hn6,hs6⟩:=ho5.wr (fun _=>rfl) (i:=cn) (k:=0) (by rw [watL_len]; omega) (c:=vi (givesI t (allSets t.rows.length)[i])) (new:= []) (by simp) (y:=givesI t (allSets t.rows.length)[i]) (by simp [splice])
   rw [←hsu] at ho6
   simp (disch:=omega) [d2,d5,d7,d8,hg5,hrd]
   refine hgiv.go ?_
   simp (disch:=omega) [d1,d2,d5,d7,d8,hw6,wrap64]
   exact ⟨hlt,(hk5' H6 hn6 hs6).1,(hk5' H6 hn6 hs6).2,ho6⟩
  ·rw [if_neg h6] at hsu
   simp (disch:=omega) [d1,d2,d5,d7,d8,wrap64]
   exact ⟨hlt,hn5,hk5,by rw [hsu]; exact ho5⟩
 ·have:i=ls.length:=by omega
  subst this
  rw [hll,watL_all ht hs] at ho5
  simp [d5]
  exact ⟨hs1.trans hs15,ho5.weaken (by omega)⟩
end Go.Gm.Tryz
end
section
namespace Go.Gm.Tryz
open Go.Proofs
def ShOk (s:List Int):Prop:=s.length≤100∧∀x∈s,0≤x∧x≤1000
theorem sumSh_bd:∀ {s:List Int},(∀x∈s,0≤x∧x≤1000)→0≤s.sum∧s.sum≤1000*s.length
 | [],_=>by simp
 |a::s,h=>by
  have:=sumSh_bd (s:=s) fun x hx=>h x (by simp [hx])
  have:=h a (by simp)
  simp only [List.sum_cons,List.length_cons]
  omega
theorem ShOk.sum {s:List Int} (h:ShOk s) (i:Nat):0≤(s.take i).sum∧(s.take i).sum≤100000:=by
 have:=sumSh_bd (s:=s.take i) fun x hx=>h.2 x (List.mem_of_mem_take hx)
 have h1:(s.take i).length≤100:=by have:=h.1; simp; omega
 omega
theorem sum2_con (x y:Int) (hx:0≤x∧x≤1000000) (hy:0≤y∧y≤1000000) (a:Addr) (fl:Nat) (H:GH) (hb:a.block<H.next) (hr:H.read a 2=some [vi x,vi y]):C 172 [.slice (some a) 2 fl] H (vi (x+y)) H:=by
 have:=dsum_con [x,y] ⟨by simp,fun z hz=>by simp at hz; rcases hz with rfl|rfl<;>omega⟩ (some a) fl H ⟨fun _=>rfl,fun c hc=>by cases hc; exact ⟨hb,hr⟩,fun hc=>by cases hc⟩
 simpa using this
def Mks (lo:Nat) (H:GH) (m:List Nat):Prop:=m.Nodup∧∀x∈m,lo≤x∧x<H.next∧H.get x=some (.marks true)
theorem Mks.take {lo:Nat}:∀ {m:List Nat} {H:GH},Mks lo H m→∃H',takeMarks H m=some H'∧H.next≤H'.next∧∀g,g<lo→H'.get g=H.get g
 | [],H,_=>⟨H,rfl,Nat.le_refl _,fun _ _=>rfl⟩
 |x::m,H,⟨hn,hm⟩=>by
  obtain ⟨h1,h2,h3⟩:=hm x (by simp)
  have hn':=List.nodup_cons.1 hn
  obtain ⟨H',e1,e2,e3⟩:=Mks.take (lo:=lo) (m:=m) (H:=H.put x (.marks false)) ⟨hn'.2,fun y hy=>by
   obtain ⟨a,b,c⟩:=hm y (by simp [hy])
   have:y≠x:=fun hc=>hn'.1 (hc▸hy)
   refine ⟨a,by simpa using b,?_⟩
   simp [this,c]⟩
  refine ⟨H',by simp [h3,e1],by simpa using e2,fun g hg=>?_⟩
  rw [e3 g hg]
  simp
  intro hc
  omega
theorem Mks.keep {lo:Nat} {H H':GH} {m:List Nat} (h:Mks lo H m) (hn:H.next≤H'.next) (hk:∀g,lo≤g→g<H.next→H'.get g=H.get g):Mks lo H' m:=
 ⟨h.1,fun x hx=>by obtain ⟨a,b,c⟩:=h.2 x hx; exact ⟨a,by omega,(hk x a b).trans c⟩⟩
theorem Mks.cons {lo:Nat} {H:GH} {m:List Nat} (h:Mks lo H m) {x:Nat} (h1:lo≤x) (h2:x<H.next) (h3:H.get x=some (.marks true)) (h4:x∉m):Mks lo H (x::m):=
 ⟨List.nodup_cons.2 ⟨h4,h.1⟩,fun y hy=>by rcases List.mem_cons.1 hy with rfl|hy; exact ⟨h1,h2,h3⟩; exact h.2 y hy⟩
theorem flows_con (I:Int) (cs s:List Int) (hlen:s.length=cs.length) (hs:ShOk s) (a:Option Addr) (f:Nat) (sa:Option Addr) (sf:Nat) (H:GH) (hE:Elems H a 3 encOut cs) (hS:Elems H sa 1 encI s):
  GCall Tryz.prog 161 [treeV I a cs.length f,.slice sa s.length sf] H fun x H'=>Sub H H'∧∃v,x=.ret v∧OwnL H' H.next v 3 1 encI [s.sum]:=by
 have hl:=hs.1
 refine gcall_wp tok mix fok161 (F:=g161) (c:=_) rfl (n:=42) rfl (rs:= [.tmp 4]) rfl ?_
 simp (disch:=omega) [wrap64]
 rw [gop_makeSlice25 (n:=1) (by simp) (by simp) (by omega)]
 simp
 generalize hH1:GH.put _ _ _=H1
 have hs1:Sub H H1:=by subst hH1; exact ((((Sub.push (.refl H) _).push _).push _).push _).put (by omega) _
 have k2:H1.get H.next=some (.arr { cells:=treeC I a cs.length f,ty:=41 }):=by subst hH1; simp (disch:=omega)
 have k3:H1.get (H.next+1)=some (.arr { cells:= [.slice sa s.length sf],ty:=25 }):=by subst hH1; simp (disch:=omega)
 have k5:H1.get (H.next+3)=some (.arr { cells:= [.slice (some (ga (H.next+2) 0 0)) 1 1],ty:=25 }):=by subst hH1; simp (disch:=omega)
 have ko:H1.get (H.next+2)=some (.arr { cells:= [vi 0],ty:=3 }):=by subst hH1; simp (disch:=omega)
 have hn1:H1.next=H.next+4:=by subst hH1; simp (disch:=omega)
 clear hH1
 have hfr0:Frm (fun g=>g=H.next+2) (fun g=>g=H.next+2) H1 H1:=Frm.refl (by rintro g rfl; omega)
 have hal:∀b,a=some b→b.block<H.next:=fun b hb=>(hE.ok b hb).1
 have hsal:∀b,sa=some b→b.block<H.next:=fun b hb=>(hS.ok b hb).1
 refine wp_up tok mix (by kernel_rfl) cs.length (fun i ρ m H'=>ρ 2=.pointer (some (ga H.next 0 0))∧ρ 3=.pointer (some (ga (H.next+1) 0 0))∧ρ 5=.pointer (some (ga (H.next+3) 0 0))∧ρ 15=.slice a cs.length f∧ρ 16=vi cs.length∧ρ 17=vi i∧Mks H1.next H' m∧Frm (fun g=>g=H.next+2) (fun g=>g=H.next+2) H1 H'∧H'.get (H.next+2)=some (.arr { cells:= [vi (s.take i).sum],ty:=3 })) (i0:=0) (by omega) (by
  simp
  exact ⟨⟨List.nodup_nil,by simp⟩,hfr0,ko⟩) ?_
 rintro i ρ m H2 hi ⟨e2,e3,e5,e15,e16,e17,hmk,hf2,k4⟩
 have hn2:H1.next≤H2.next:=hf2.next
 have kk2:=(hf2.keep _ (by omega) (by omega)).trans k2
 have kk3:=(hf2.keep _ (by omega) (by omega)).trans k3
 have kk5:=(hf2.keep _ (by omega) (by omega)).trans k5
 have hE2:=Elems.frm (hE.mono hs1) hf2 (fun b hb=>by have:=hal b hb; omega)
 have hS2:=Elems.frm (hS.mono hs1) hf2 (fun b hb=>by have:=hsal b hb; omega)
 simp (disch:=omega) [e16,e17]
 refine wpB_dec (fun hlt=>?_) (fun hge=>?_)
 ·obtain ⟨b,rfl,hb,hrd⟩:=hE2.at i hlt
  obtain ⟨sb,rfl,hsb,hsrd⟩:=hS2.at i (by omega)
  have q1:¬H.next=H2.next+1:=by omega
  have q2:¬H.next=H2.next:=by omega
  simp (disch:=omega) [e2,e15,e17,hlt,hrd,kk2,q1]
  generalize hHb:GH.put (GH.put _ _ _) _ _=Hb
  have hsb:Sub H2 Hb:=by subst hHb; exact (((Sub.push (.refl H2) _).push _).put (by omega) _).put (by omega) _
  have kb6:Hb.get H2.next=some (.arr { cells:= [vi i],ty:=3 }):=by subst hHb; simp (disch:=omega)
  have kb7:Hb.get (H2.next+1)=some (.arr { cells:= [vi 0,vi cs[i],vi 0],ty:=51 }):=by subst hHb; simp (disch:=omega)
  have hnb:Hb.next=H2.next+2:=by subst hHb; simp (disch:=omega)
  clear hHb
  have kk2b:=(hsb.2 _ (by omega)).trans kk2
  have kk3b:=(hsb.2 _ (by omega)).trans kk3
  have kk5b:=(hsb.2 _ (by omega)).trans kk5
  have k4b:=(hsb.2 _ (by omega)).trans k4
  have hmkb:Mks H1.next Hb m:=hmk.keep hsb.1 fun g _ hg=>hsb.2 g hg
  have hmlt:∀x∈m,x<H2.next:=fun x hx=>(hmk.2 x hx).2.1
  with_reducible refine (upn_con I _ _ _ Hb).go ?_
  simp only [opsK_ret,wpOps_nil,seqQ_normal,putd_some]
  generalize hHd:GH.push (GH.push Hb _) _=Hd
  have hsd:Sub Hb Hd:=by subst hHd; exact (Sub.push (.refl Hb) _).push _
  have kd3:Hd.get (Hb.next+1)=some (.arr { cells:= [vi 0],ty:=3 }):=by subst hHd; simp
  have hnd:Hd.next=Hb.next+2:=by subst hHd; simp
  clear hHd
  have hl4:=hs.1
  refine wp_iterOut tok mix rfl rfl (gf:=177) (first:= #[]) (captured:= #[.pointer (some (ga (Hb.next+1) 0 0)),.pointer (some (ga Hb.next 0 0))]) (by simp) 161 (by kernel_rfl) (by kernel_rfl) (fun H v x l o o' a b c=>a)
   (up_iter kd3 (by omega))
   (fun k Hk Ok=>(∀g,Ok g↔g=H.next+2)∧Hk.get (H.next+2)=some (.arr { cells:= [vi ((s.take (i+k)).sum)],ty:=3 }))
   (fun x Hk Ok=>False)
   ?_ ?_ (fun g=>g=H.next+2) ?_ ?_ ?_ ⟨fun g=>Iff.rfl,(hsd.2 _ (by omega)).trans k4b⟩ 8 ?_ ?_ ?_ ?_
  ·rintro k Hx Hy Ok ⟨h2,h3⟩ h5 h6 h7
   exact ⟨h2,(h7 _ (h5 _ ((h2 _).2 rfl)) (.inl ((h2 _).2 rfl))).trans h3⟩
  ·rintro x Hx Hy Ok h; exact h.elim
  ·rintro g rfl; omega
  ·rintro g rfl h; omega
  ·rintro g rfl; omega
  ·intro l Hk v; simp
  ·rintro k hk Hk Ok v l d gt ⟨h2,h3⟩ hfr hv hvb hl1 hl2 hol hgl
   obtain rfl:k=0:=by simp at hk; omega
   obtain rfl:v=vi 0:=hv
   have hlk:Hd.next≤Hk.next:=hfr.next
   have kks:∀g,g<Hd.next→g≠H.next+2→Hk.get g=Hd.get g:=fun g h1 h2=>hfr.keep g h1 h2
   have j3:Hk.get (H.next+1)=some (.arr { cells:= [.slice (some sb) s.length sf],ty:=25 }):=(kks _ (by omega) (by omega)).trans ((hsd.2 _ (by omega)).trans kk3b)
   have j5:Hk.get (H.next+3)=some (.arr { cells:= [.slice (some (ga (H.next+2) 0 0)) 1 1],ty:=25 }):=(kks _ (by omega) (by omega)).trans ((hsd.2 _ (by omega)).trans kk5b)
   have j6:Hk.get H2.next=some (.arr { cells:= [vi i],ty:=3 }):=(kks _ (by omega) (by omega)).trans ((hsd.2 _ (by omega)).trans kb6)
   have hSk:Elems Hk (some sb) 1 encI s:=Elems.frm (hS2.mono (hsb.trans hsd)) hfr (fun b hb=>by have:=hsal b hb; omega)
   obtain ⟨sb',e,hsb',hsrk⟩:=hSk.at i (by omega)
   cases e
   simp at h3
   have hxi:=hs.2 _ (List.getElem_mem (show i<s.length by omega))
   simp (disch:=omega) [e3,e5,j3,j5,j6,h3,hsrk]
   have hsb1:=hs.sum i
   have hss:(s.take (i+1)).sum=(s.take i).sum+s[i]:=by rw [List.take_succ_eq_append_getElem (by omega),List.sum_append]; simp
   with_reducible refine (sum2_con (s.take i).sum s[i] (by omega) (by omega) _ 1 _ (by simp) (by simp)).go ?_
   simp (disch:=omega) [e5,j5,h3,hss]
   exact ⟨Ok,(Frm.of_sub hfr.lt (Sub.push (.refl Hk) _)).trans (Frm.put (fun g hg=>Nat.lt_of_lt_of_le (hfr.lt g hg) (by simp)) ((h2 _).2 rfl) _),h2⟩
  ·rintro H' O' mk hf hmk1 hmk2 hom hgm ⟨h2,h3⟩
   have hlk:Hd.next≤H'.next:=hf.next
   simp at h3
   simp (disch:=omega) [e15,e16,e17,wrap64]
   have hfd:Frm (fun g=>g=H.next+2) (fun g=>g=H.next+2) H1 H':=⟨by omega,fun g hg ho=>(hf.keep g (by omega) ho).trans (((hsb.trans hsd).2 g (by omega)).trans (hf2.keep g hg ho)),fun g hg=>.inl hg,by rintro g rfl; omega⟩
   refine ⟨e2,e3,e5,Mks.cons (hmkb.keep (by omega) fun g hg1 hg2=>(hf.keep g (by omega) (by omega)).trans (hsd.2 g hg2)) (by omega) hmk2 hgm (fun hc=>?_),hfd,h3⟩
   have:=hmlt _ hc
   omega
  ·rintro x H' O' mk hf hmk1 hmk2 hom hgm h; exact h.elim
 ·have:i=cs.length:=by omega
  subst this
  simp (disch:=omega) [e5,kk5]
  obtain ⟨H3,e3',hn3,hk3⟩:=hmk.take
  simp [e3']
  rw [List.take_of_length_le (by omega)] at k4
  refine ⟨⟨by omega,fun g hg=>?_⟩,OwnL.mk (g:=H.next+2) (l:= [s.sum]) (by omega) (by omega) (by omega) (szs:= []) ?_⟩
  ·rw [hk3 g (by omega),hf2.keep g (by omega) (by omega),hs1.2 g hg]
  ·exact (hk3 _ (by omega)).trans k4
end Go.Gm.Tryz
end
section
namespace Go.Gm.Tryz
open Go.Proofs
theorem carry_con (I:Int) (cs s:List Int) (hlen:s.length=cs.length) (hs:ShOk s) (a:Option Addr) (f:Nat) (sa:Option Addr) (sf:Nat) (H:GH) (hE:Elems H a 3 encOut cs) (hS:Elems H sa 1 encI s):
  GCall Tryz.prog 140 [treeV I a cs.length f,.slice sa s.length sf] H fun x H'=>Sub H H'∧((x=.ret (.tuple #[])∧s.sum≤I)∨(x=.pan (.iface 232 (.agg #[vi 0]))∧¬s.sum≤I)):=by
 refine gcall_wp tok mix fok140 (F:=g140) (c:=_) rfl (n:=24) rfl (rs:= []) rfl ?_
 simp
 generalize hH1:GH.push H _=H1
 have hs1:Sub H H1:=by subst hH1; exact Sub.push (.refl H) _
 have k1:H1.get H.next=some (.arr { cells:=treeC I a cs.length f,ty:=41 }):=by subst hH1; simp
 have hn1:H1.next=H.next+1:=by subst hH1; simp
 clear hH1
 refine (flows_con I cs s hlen hs a f sa sf H1 (hE.mono hs1) (hS.mono hs1)).mono ?_
 rintro x H2 ⟨hs2,v,rfl,hO⟩
 have k2:=(hs2.2 _ (by omega)).trans k1
 have hn2:=hs2.1
 obtain ⟨b,fl,rfl,hF⟩:=hO.elems (by simp)
 simp
 refine wp_up tok mix (by kernel_rfl) 1 (fun i ρ m H'=>ρ 2=.pointer (some (ga H.next 0 0))∧ρ 8=.slice b 1 fl∧ρ 9=vi 1∧ρ 10=vi i∧m= []∧Sub H2 H'∧(i=1→s.sum≤I)) (i0:=0) (by omega) (by simp) ?_
 rintro i ρ m H3 hi ⟨e2,e8,e9,e10,rfl,hs3,hI⟩
 have k3:=(hs3.2 _ (by omega)).trans k2
 simp [e9,e10]
 refine wpB_dec (fun hlt=>?_) (fun hge=>?_)
 ·obtain rfl:i=0:=by omega
  obtain ⟨b',e,hb,hrd⟩:=(hF.mono hs3).at 0 (by simp)
  subst e
  simp at hrd
  have hrd0:=hrd
  simp (disch:=omega) [e2,e8,e10,hrd,k3]
  refine (cap_con _ _ _ _ _).go ?_
  simp
  refine wpB_dec (fun h=>?_) (fun h=>?_)
  ·simp
   exact ⟨(hs1.trans hs2).trans hs3,h⟩
  ·simp (disch:=omega) [e2,e8,e9,e10,wrap64]
   exact ⟨hs3,by omega⟩
 ·have:i=1:=by omega
  subst this
  simp
  exact ⟨(hs1.trans hs2).trans hs3,hI rfl⟩
theorem fits1_con (I:Int) (cs s:List Int) (hlen:s.length=cs.length) (hs:ShOk s) (a:Option Addr) (f:Nat) (sa:Option Addr) (sf:Nat) (H:GH) (hE:Elems H a 3 encOut cs) (hS:Elems H sa 1 encI s) (g2 g3:Nat)
  (k2:H.get g2=some (.arr { cells:=treeC I a cs.length f,ty:=41 })) (k3:H.get g3=some (.arr { cells:= [.slice sa s.length sf],ty:=25 })):
  GCall Tryz.prog 139 [.pointer (some (ga g2 0 0)),.pointer (some (ga g3 0 0))] H fun x H'=>Sub H H'∧((x=.ret (.tuple #[])∧s.sum≤I)∨(x=.pan (.iface 232 (.agg #[vi 0]))∧¬s.sum≤I)):=by
 refine gcall_wp tok mix fok139 (F:=g139) (c:=_) rfl (n:=5) rfl (rs:= []) rfl ?_
 simp [k2,k3]
 refine (carry_con I cs s hlen hs a f sa sf H hE hS).mono ?_
 rintro x H' ⟨hs,⟨rfl,hF⟩|⟨rfl,hF⟩⟩
 ·simp
  exact ⟨hs,hF⟩
 ·simp
  exact ⟨hs,by omega⟩
theorem dfits_con (I:Int) (cs s:List Int) (hlen:s.length=cs.length) (hs:ShOk s) (a:Option Addr) (f:Nat) (sa:Option Addr) (sf:Nat) (H:GH) (hE:Elems H a 3 encOut cs) (hS:Elems H sa 1 encI s):
  C 108 [treeV I a cs.length f,.slice sa s.length sf] H (.bool (decide (s.sum≤I))) H:=by
 refine con_wp tok mix fok108 (F:=g108) (c:=_) rfl (n:=8) rfl (rs:= [.tmp 4]) rfl (anch_closed rfl) ?_
 simp
 generalize hH1:GH.push (GH.push H _) _=H1
 have hs1:Sub H H1:=by subst hH1; exact (Sub.push (.refl H) _).push _
 have k2:H1.get H.next=some (.arr { cells:=treeC I a cs.length f,ty:=41 }):=by subst hH1; simp
 have k3:H1.get (H.next+1)=some (.arr { cells:= [.slice sa s.length sf],ty:=25 }):=by subst hH1; simp
 have hn1:H1.next=H.next+2:=by subst hH1; simp
 clear hH1
 refine try_con (f:=139) (first:= #[]) (cap:= #[.pointer (some (ga H.next 0 0)),.pointer (some (ga (H.next+1) 0 0))]) ?_
 refine (fits1_con I cs s hlen hs a f sa sf _ ((hE.mono hs1).push _) ((hS.mono hs1).push _) H.next (H.next+1) (by rw [GH.get_push_lt _ _ (by omega)]; exact k2) (by rw [GH.get_push_lt _ _ (by omega)]; exact k3)).mono ?_
 rintro x H2 ⟨hs2,hx⟩
 have hn2:=hs2.1
 simp only [GH.next_push] at hn2
 have kb:H2.get H1.next=some box31:=by rw [hs2.2 _ (by simp)]; simp
 refine ⟨hn2,kb,?_⟩
 have hsub:∀g,g<H.next→H2.get g=H.get g:=fun g hg=>by rw [hs2.2 g (by simp; omega),GH.get_push_lt _ _ (by omega),hs1.2 g hg]
 rcases hx with ⟨rfl,hF⟩|⟨rfl,hF⟩
 ·simp [hF]
  exact ⟨by simp; omega,fun g hg=>by rw [GH.get_put_ne _ _ (by omega),hsub g hg]⟩
 ·refine ⟨0,rfl,fun H3 h1 h2=>?_⟩
  simp [hF]
  exact ⟨by omega,fun g hg=>by rw [h2 g (by omega) (by omega),hsub g hg]⟩
def areB (cs s:List Int):Bool:=(List.range cs.length).all fun i=>inI (s.getD i 0) 0 (cs.getD i 0)
theorem isOutlet_con (I:Int) (a:Option Addr) (n f:Nat) (hn:n≤100) (i:Int) (H:GH):C 137 [treeV I a n f,vi i] H (.bool (inI i 0 (n - 1))) H:=by
 refine con_wp tok mix fok137 (F:=g137) (c:=_) rfl (n:=11) rfl (rs:= [.tmp 4]) rfl (anch_closed rfl) ?_
 simp (disch:=omega) [wrap64]
 refine (din_con _ _ _ _).go ?_
 simp
theorem are_con (I:Int) (cs s:List Int) (hlen:s.length=cs.length) (hl:cs.length≤100) (a:Option Addr) (f:Nat) (sa:Option Addr) (sf:Nat) (H:GH) (hE:Elems H a 3 encOut cs) (hS:Elems H sa 1 encI s):
  C 107 [treeV I a cs.length f,.slice sa s.length sf] H (.bool (areB cs s)) H:=by
 refine con_wp tok mix fok107 (F:=g107) (c:=_) rfl (n:=36) rfl (rs:= [.tmp 4]) rfl (anch_closed rfl) ?_
 simp
 generalize hH1:GH.push H _=H1
 have hs1:Sub H H1:=by subst hH1; exact Sub.push (.refl H) _
 have k1:H1.get H.next=some (.arr { cells:=treeC I a cs.length f,ty:=41 }):=by subst hH1; simp
 have hn1:H1.next=H.next+1:=by subst hH1; simp
 clear hH1
 have hE1:=hE.mono hs1
 have hS1:=hS.mono hs1
 refine wp_up tok mix (by kernel_rfl) s.length (fun i ρ m H'=>ρ 1=.slice sa s.length sf∧ρ 2=.pointer (some (ga H.next 0 0))∧ρ 7=.slice sa s.length sf∧ρ 8=vi s.length∧ρ 9=vi i∧m= []∧H'=H1∧∀j,j<i→inI (s.getD j 0) 0 (cs.getD j 0)=true) (i0:=0) (by omega) (by simp) ?_
 rintro i ρ m H' hi ⟨e1,e2,e7,e8,e9,rfl,rfl,hj⟩
 simp [e8,e9]
 refine wpB_dec (fun hlt=>?_) (fun hge=>?_)
 ·obtain ⟨b,rfl,hb,hrd⟩:=hE1.at i (by omega)
  obtain ⟨sb,rfl,hsb,hsrd⟩:=hS1.at i hlt
  simp (disch:=omega) [e2,e7,e9,hlt,hsrd,k1]
  refine (isOutlet_con I _ _ _ hl _ _).go ?_
  have hin:inI (i:Int) 0 (cs.length - 1)=true:=by simp [inI]; omega
  have hlc:i<cs.length:=by omega
  simp (disch:=omega) [e2,hin,k1,hrd]
  refine (din_con _ _ _ _).go ?_
  have hgs:s.getD i 0=s[i]:=by simp [List.getD,hlt]
  have hgc:cs.getD i 0=cs[i]:=by simp [List.getD,hlc]
  simp
  cases hb:inI s[i] 0 cs[i]
  ·have:areB cs s=false:=by
    simp only [areB,List.all_eq_false]
    exact ⟨i,by simp; omega,by rw [hgs,hgc,hb]; decide⟩
   simp [this,hs1]
  ·simp (disch:=omega) [e1,e2,e7,e8,e9,wrap64]
   intro j hj'
   by_cases hc:j=i
   ·subst hc; simp [hlt,hlc,hb]
   ·exact hj j (by omega)
 ·have:i=cs.length:=by omega
  subst this
  have:areB cs s=true:=by
   simp only [areB,List.all_eq_true]
   intro j hjr
   exact hj j (by simpa using hjr)
  simp (disch:=omega) [e1,e2,k1,this,hlen]
  exact hs1
end Go.Gm.Tryz
end
section
namespace Go.Gm.Tryz
open Go.Proofs
def incS (s:List Int) (i:Nat):List Int:=s.set i (s.getD i 0+1)
def can (I:Int) (cs s:List Int) (i:Nat):Bool:=areB cs (incS s i)&&decide ((incS s i).sum≤I)
def raiseS (I:Int) (cs s:List Int) (i:Nat):List Int:=if can I cs s i then incS s i else s
theorem incS_len (s:List Int) (i:Nat):(incS s i).length=s.length:=by simp [incS]
theorem mem_incS {s:List Int} {i:Nat} (hi:i<s.length) {x:Int} (h:x∈incS s i):x∈s∨x=s[i]+1:=by
 rcases List.mem_or_eq_of_mem_set h with h|h
 ·exact .inl h
 ·refine .inr ?_
  rw [h]; simp [hi]
theorem raise_con (I:Int) (cs s:List Int) (hlen:s.length=cs.length) (hl:cs.length≤100) (hs:∀x∈s,0≤x∧x≤200) (a:Option Addr) (f N g5 g2:Nat) (ad:Addr) (i:Nat) (hi:i<cs.length) (H:GH)
  (k5:H.get g5=some (.arr { cells:=shdC I a cs.length f (.slice (some ad) cs.length 1),ty:=94 })) (k2:H.get g2=some (.arr { cells:=treeC I a cs.length f,ty:=41 }))
  (_n5:g5<H.next) (_n2:g2<H.next) (h5:g5≠ad.block) (h2:g2≠ad.block) (hal:∀b,a=some b→b.block≠ad.block) (hE:Elems H a 3 encOut cs) (ho:OwnL H N (.slice (some ad) cs.length 1) 3 1 encI s):
  GCall Tryz.prog 106 [vi i,.pointer (some (ga g5 0 0)),.pointer (some (ga g2 0 0))] H fun x H'=>H.next≤H'.next∧(∀g,g<H.next→g≠ad.block→H'.get g=H.get g)∧x=.ret (.bool (can I cs s i))∧OwnL H' N (.slice (some ad) cs.length 1) 3 1 encI (raiseS I cs s i):=by
 refine gcall_wp tok mix fok106 (F:=g106) (c:=_) rfl (n:=29) rfl (rs:= [.tmp 4]) rfl ?_
 have hE0:=ho.elems' (by simp)
 obtain ⟨b,e,hb,hrd⟩:=hE0.at i (by omega)
 cases e
 have hx:=hs _ (List.getElem_mem (show i<s.length by omega))
 have hgd:s.getD i 0=s[i]:=by simp [show i<s.length by omega]
 obtain ⟨H1,hw1,ho1,hn1,hk1⟩:=ho.wr (fun _=>rfl) (i:=i) (k:=0) (by omega) (c:=vi (s[i]+1)) (new:= []) (by simp) (y:=s[i]+1) (by simp [splice])
 have hinc:s.set i (s[i]+1)=incS s i:=by simp only [incS,hgd]
 rw [hinc] at ho1
 simp (disch:=omega) [k5,hrd,wrap64,hw1]
 have j5:=(hk1 _ h5).trans k5
 have j2:=(hk1 _ h2).trans k2
 have hE1:Elems H1 a 3 encOut cs:=⟨hE.len,fun c hc=>⟨by rw [hn1]; exact (hE.ok c hc).1,by rw [←(hE.ok c hc).2]; simp only [GH.read]; rw [hk1 _ (hal c hc)]⟩,hE.nil⟩
 have hS1:=ho1.elems' (by simp)
 have hil:=incS_len s i
 have hshk:ShOk (incS s i):=⟨by omega,fun x hx'=>by
  rcases mem_incS (show i<s.length by omega) hx' with h|h
  ·have:=hs _ h; omega
  ·omega⟩
 have hcl:cs.length=(incS s i).length:=by omega
 simp [j5,j2]
 obtain ⟨b,e,hb,hrd1⟩:=hS1.at i (by omega)
 cases e
 have hii:(incS s i)[i]'(by omega)=s[i]+1:=by simp [←hinc]
 rw [hii] at hrd1
 obtain ⟨H2,hw2,ho2,hn2,hk2⟩:=ho1.wr (fun _=>rfl) (i:=i) (k:=0) (by omega) (c:=vi s[i]) (new:= []) (by simp) (y:=s[i]) (by simp [splice])
 have hback:(incS s i).set i s[i]=s:=by rw [←hinc]; simp
 rw [hback] at ho2
 have e1:=are_con I cs (incS s i) (by omega) hl a f (some ad) 1 H1 hE1 hS1
 have e2:=dfits_con I cs (incS s i) (by omega) hshk a f (some ad) 1 H1 hE1 hS1
 rw [←hcl] at e1 e2
 refine e1.go ?_
 cases ha:areB cs (incS s i)
 ·simp (disch:=omega) [j5,hrd1,wrap64,hw2]
  simp [can,raiseS,ha,ho2]
  exact ⟨by omega,fun g hg hne=>by rw [hk2 g hne,hk1 g hne]⟩
 ·simp [j5,j2]
  refine e2.go ?_
  by_cases hd:(incS s i).sum≤I
  ·simp [hd]
   simp [can,raiseS,ha,hd,ho1]
   exact ⟨by omega,fun g hg hne=>hk1 g hne⟩
  ·simp (disch:=omega) [hd,j5,hrd1,wrap64,hw2]
   simp [can,raiseS,ha,hd,ho2]
   exact ⟨by omega,fun g hg hne=>by rw [hk2 g hne,hk1 g hne]⟩
end Go.Gm.Tryz
end
section
namespace Go.Gm.Tryz
open Go.Proofs
structure ValS (I:Int) (cs s:List Int):Prop where
 len:s.length=cs.length
 bd:∀i,i<cs.length→0≤s.getD i 0∧s.getD i 0≤cs.getD i 0
 sum:s.sum≤I
def FullS (I:Int) (cs s:List Int):Prop:=∀i,i<cs.length→can I cs s i=false
theorem set_sum:∀ {s:List Int} {i:Nat},i<s.length→∀x,(s.set i x).sum=s.sum+(x - s.getD i 0)
 |a::s,0,_,x=>by simp; omega
 |a::s,i+1,h,x=>by
  have:=set_sum (s:=s) (i:=i) (by simpa using h) x
  simp only [List.set_cons_succ,List.sum_cons,List.getD_cons_succ]
  omega
theorem incS_sum {s:List Int} {i:Nat} (h:i<s.length):(incS s i).sum=s.sum+1:=by
 rw [incS,set_sum h]; omega
theorem incS_get {s:List Int} {i j:Nat} (h:i<s.length):(incS s i).getD j 0=if i=j then s.getD i 0+1 else s.getD j 0:=by
 simp only [incS,List.getD_eq_getElem?_getD,List.getElem?_set]
 by_cases e:i=j
 ·subst e; simp [h]
 ·simp [e]
theorem areB_iff {cs s:List Int}:areB cs s=true↔∀i,i<cs.length→0≤s.getD i 0∧s.getD i 0≤cs.getD i 0:=by
 simp only [areB,List.all_eq_true,List.mem_range,inI,decide_eq_true_eq]
theorem can_iff {I:Int} {cs s:List Int} (h:ValS I cs s) {i:Nat} (hi:i<cs.length):can I cs s i=true↔s.getD i 0<cs.getD i 0∧s.sum<I:=by
 have his:i<s.length:=by rw [h.len]; exact hi
 simp only [can,Bool.and_eq_true,areB_iff,decide_eq_true_eq,incS_sum his]
 constructor
 ·rintro ⟨h1,h2⟩
  have:=h1 i hi
  rw [incS_get his,if_pos rfl] at this
  exact ⟨by omega,by omega⟩
 ·rintro ⟨h1,h2⟩
  refine ⟨fun j hj=>?_,by omega⟩
  rw [incS_get his]
  by_cases e:i=j
  ·subst e; rw [if_pos rfl]; have:=h.bd i hi; omega
  ·rw [if_neg e]; exact h.bd j hj
theorem raise_val {I:Int} {cs s:List Int} (h:ValS I cs s) {i:Nat} (hi:i<cs.length):ValS I cs (raiseS I cs s i):=by
 unfold raiseS
 split
 ·rename_i hc
  have his:i<s.length:=by rw [h.len]; exact hi
  simp only [can,Bool.and_eq_true,decide_eq_true_eq] at hc
  exact ⟨by rw [incS_len,h.len],areB_iff.1 hc.1,hc.2⟩
 ·exact h
theorem raise_sum {I:Int} {cs s:List Int} (h:ValS I cs s) {i:Nat} (hi:i<cs.length) (hc:can I cs s i=true):(raiseS I cs s i).sum=s.sum+1:=by
 rw [raiseS,if_pos hc,incS_sum (by rw [h.len]; exact hi)]
theorem raise_not {I:Int} {cs s:List Int} {i:Nat} (hc:can I cs s i=false):raiseS I cs s i=s:=by
 rw [raiseS,hc]; simp
theorem raise_full {I:Int} {cs s:List Int} {i:Nat} (hi:i<cs.length) (h:FullS I cs s):FullS I cs (raiseS I cs s i):=by
 rw [raise_not (h i hi)]; exact h
theorem val_zero {I:Int} (hI:0≤I) {cs:List Int} (hc:∀c∈cs,0≤c):ValS I cs (List.replicate cs.length 0):=by
 refine ⟨by simp,fun i hi=>?_,?_⟩
 ·simp [hi]; exact hc _ (List.getElem_mem hi)
 ·have:∀n:Nat,(List.replicate n (0:Int)).sum=0:=fun n=>by induction n with
   |zero=>rfl
   |succ n ih=>simp [List.replicate_succ,ih]
  rw [this]; exact hI
theorem ValS.nonneg {I:Int} {cs s:List Int} (h:ValS I cs s) (hc:∀c∈cs,c≤200):∀x∈s,0≤x∧x≤200:=by
 intro x hx
 obtain ⟨i,hi,rfl⟩:=List.getElem_of_mem hx
 have hi2:i<cs.length:=by rw [←h.len]; exact hi
 have:=h.bd i hi2
 simp [hi,hi2] at this
 have:=hc _ (List.getElem_mem hi2)
 omega
theorem sum_le_of:∀ {s cs:List Int},s.length=cs.length→(∀i,i<cs.length→s.getD i 0≤cs.getD i 0)→s.sum≤cs.sum∧(s.sum=cs.sum→s=cs)
 | [],[],_,_=>by simp
 |a::s,b::cs,hl,h=>by
  have h0:=h 0 (by simp)
  simp at h0
  obtain ⟨h1,h2⟩:=sum_le_of (s:=s) (cs:=cs) (by simpa using hl) fun i hi=>by simpa using h (i+1) (by simpa using hi)
  simp only [List.sum_cons]
  refine ⟨by omega,fun he=>?_⟩
  have:a=b:=by omega
  rw [this,h2 (by omega)]
theorem ex_lt {s cs:List Int} (hl:s.length=cs.length) (h:s.sum<cs.sum):∃i,i<cs.length∧s.getD i 0<cs.getD i 0:=by
 apply Classical.byContradiction
 intro hn
 have:∀i,i<s.length→cs.getD i 0≤s.getD i 0:=fun i hi=>by
  rcases Int.lt_or_le (s.getD i 0) (cs.getD i 0) with hc|hc
  ·exact absurd ⟨i,by omega,hc⟩ hn
  ·exact hc
 have:=(sum_le_of hl.symm this).1
 omega
theorem full_sum {I:Int} {cs s:List Int} (h:ValS I cs s) (hf:FullS I cs s):s.sum=min I cs.sum∧(cs.sum≤I→s=cs):=by
 obtain ⟨h1,h2⟩:=sum_le_of h.len fun i hi=>(h.bd i hi).2
 have h3:=h.sum
 have h4:s.sum<cs.sum→s.sum<I→False:=fun hc hI=>by
  obtain ⟨i,hi,hlt⟩:=ex_lt h.len hc
  have:=(can_iff h hi).2 ⟨hlt,hI⟩
  rw [hf i hi] at this
  cases this
 have h5:s.sum=min I cs.sum:=by
  rcases Int.lt_or_le s.sum cs.sum with ha|ha
  ·rcases Int.lt_or_le s.sum I with hb|hb
   ·exact (h4 ha hb).elim
   ·omega
  ·omega
 exact ⟨h5,fun hc=>h2 (by omega)⟩
end Go.Gm.Tryz
end
section
namespace Go.Gm.Tryz
open Go.Proofs
theorem replicate_val (n:Nat):replicateL n [vi 0]=(List.replicate n (0:Int)).flatMap encI:=by rw [replicate_flat]; rfl
def RndP (I:Int) (cs s:List Int) (cl:Int) (k i:Nat) (v:Value) (H':GH) (N:Nat) (ad:Addr):Prop:=
 ∃s' more,v=.bool more∧ValS I cs s'∧(0<k→FullS I cs s')∧OwnL H' N (.slice (some ad) cs.length 1) 3 1 encI s'∧(more=false→s'=s∧(cl=0→∀j,j<i→can I cs s j=false))∧(more=true→s.sum<s'.sum)
theorem ordered_con (I:Int) (hI:0≤I) (cs:List Int) (hl:cs.length≤100) (hc:∀c∈cs,1≤c∧c≤200) (a:Option Addr) (f:Nat) (oa:Option Addr) (ofl:Nat) (H:GH) (hE:Elems H a 3 encOut cs) (hO:Elems H oa 1 encI [(0:Int),1,2,3]):
  GCall Tryz.prog 70 [treeV I a cs.length f,.slice oa 4 ofl] H fun x H'=>Sub H H'∧∃s ad,x=.ret (shdV I a cs.length f (.slice (some ad) cs.length 1))∧OwnL H' H.next (.slice (some ad) cs.length 1) 3 1 encI s∧ValS I cs s∧FullS I cs s:=by
 refine gcall_wp tok mix fok70 (F:=g70) (c:=_) rfl (n:=50) rfl (rs:= [.cell 4 94]) rfl ?_
 simp
 rw [gop_makeSlice25 (n:=cs.length) (by simp) (by simp) (by omega)]
 rw [replicate_val]
 simp
 generalize hH1:GH.put _ _ _=H1
 have hs1:Sub H H1:=by subst hH1; exact ((((Sub.push (.refl H) _).push _).push _).push _).put (by omega) _
 have k2:H1.get H.next=some (.arr { cells:=treeC I a cs.length f,ty:=41 }):=by subst hH1; simp (disch:=omega)
 have k4:H1.get (H.next+1)=some (.arr { cells:= [vi 0,.slice none 0 0,.slice none 0 0,.slice none 0 0],ty:=94 }):=by subst hH1; simp (disch:=omega)
 have k5:H1.get (H.next+3)=some (.arr { cells:=shdC I a cs.length f (.slice (some (ga (H.next+2) 0 0)) cs.length 1),ty:=94 }):=by subst hH1; simp (disch:=omega)
 have ko:H1.get (H.next+2)=some (.arr { cells:=(List.replicate cs.length (0:Int)).flatMap encI,ty:=3 }):=by subst hH1; simp (disch:=omega)
 have hn1:H1.next=H.next+4:=by subst hH1; simp (disch:=omega)
 clear hH1
 have ho1:=OwnL.mk (N:=H.next) (enc:=encI) (sz:=1) (l:=List.replicate cs.length (0:Int)) (by decide) (by omega) (by omega) ko
 rw [List.length_replicate] at ho1
 have hadb:(ga (H.next+2) 0 0).block=H.next+2:=rfl
 generalize ga (H.next+2) 0 0=ad at ho1 hadb k5 ⊢
 have hz:=val_zero hI (cs:=cs) fun c h=>by have:=hc c h; omega
 have hal:∀b,a=some b→b.block<H.next:=fun b hb=>(hE.ok b hb).1
 have hoal:∀b,oa=some b→b.block<H.next:=fun b hb=>(hO.ok b hb).1
 refine wp_up tok mix (by kernel_rfl) 4 (fun k ρ m H'=>ρ 2=.pointer (some (ga H.next 0 0))∧ρ 4=.pointer (some (ga (H.next+1) 0 0))∧ρ 5=.pointer (some (ga (H.next+3) 0 0))∧ρ 6=.func (.func 106) #[] #[.pointer (some (ga (H.next+3) 0 0)),.pointer (some (ga H.next 0 0))]∧ρ 20=.slice oa 4 ofl∧ρ 21=vi 4∧ρ 22=vi k∧m= []∧H1.next≤H'.next∧(∀g,g<H1.next→g≠H.next+2→H'.get g=H1.get g)∧
  ∃s,ValS I cs s∧(0<k→FullS I cs s)∧OwnL H' H.next (.slice (some ad) cs.length 1) 3 1 encI s) (i0:=0) (by omega) (by
   simp
   exact ⟨_,hz,ho1⟩) ?_
 rintro k ρ m H2 hk ⟨e2,e4,e5,e6,e20,e21,e22,rfl,hn2,hk2,s,hv,hfu,ho2⟩
 simp [e21,e22]
 refine wpB_dec (fun hlt=>?_) (fun hge=>?_)
 ·have hO2:Elems H2 oa 1 encI [(0:Int),1,2,3]:=⟨hO.len,fun c h=>⟨by have:=hoal c h; omega,by rw [←(hO.ok c h).2]; simp only [GH.read]; rw [hk2 _ (by have:=hoal c h; omega) (by have:=hoal c h; omega),hs1.2 _ (hoal c h)]⟩,hO.nil⟩
  obtain ⟨b,rfl,hb,hrd⟩:=hO2.at k (by simp; omega)
  have hcl0:k=0→ [(0:Int),1,2,3][k]'(by simp; omega)=0:=by rintro rfl; rfl
  generalize [(0:Int),1,2,3][k]'(by simp; omega)=cl at hrd hcl0
  simp (disch:=omega) [e20,e22,hlt,hrd]
  have hE2:∀H',H1.next≤H'.next→(∀g,g<H1.next→g≠H.next+2→H'.get g=H1.get g)→Elems H' a 3 encOut cs:=fun H' h1 h2=>⟨hE.len,fun c h=>⟨by have:=hal c h; omega,by rw [←(hE.ok c h).2]; simp only [GH.read]; rw [h2 _ (by have:=hal c h; omega) (by have:=hal c h; omega),hs1.2 _ (hal c h)]⟩,hE.nil⟩
  refine wpC_mono (Q:=fun x ρ m H'=>x=.exit 2∧ρ 2=.pointer (some (ga H.next 0 0))∧ρ 4=.pointer (some (ga (H.next+1) 0 0))∧ρ 5=.pointer (some (ga (H.next+3) 0 0))∧ρ 6=.func (.func 106) #[] #[.pointer (some (ga (H.next+3) 0 0)),.pointer (some (ga H.next 0 0))]∧ρ 20=.slice (some b) 4 ofl∧ρ 21=vi 4∧ρ 22=vi k∧m= []∧H1.next≤H'.next∧(∀g,g<H1.next→g≠H.next+2→H'.get g=H1.get g)∧
   ∃s,ValS I cs s∧FullS I cs s∧OwnL H' H.next (.slice (some ad) cs.length 1) 3 1 encI s) ?_ ?_
  ·refine wp_loop tok mix (by kernel_rfl) (fun n ρ m H'=>ρ 2=.pointer (some (ga H.next 0 0))∧ρ 4=.pointer (some (ga (H.next+1) 0 0))∧ρ 5=.pointer (some (ga (H.next+3) 0 0))∧ρ 6=.func (.func 106) #[] #[.pointer (some (ga (H.next+3) 0 0)),.pointer (some (ga H.next 0 0))]∧ρ 20=.slice (some b) 4 ofl∧ρ 21=vi 4∧ρ 22=vi k∧ρ 8=vi cl∧m= []∧H1.next≤H'.next∧(∀g,g<H1.next→g≠H.next+2→H'.get g=H1.get g)∧
    ∃s,ValS I cs s∧(0<k→FullS I cs s)∧OwnL H' H.next (.slice (some ad) cs.length 1) 3 1 encI s∧n=(I - s.sum).toNat) (k:=(I - s.sum).toNat) (by
     simp [e2,e4,e5,e6,e20,e21,e22]
     exact ⟨hn2,hk2,s,hv,hfu,ho2,rfl⟩) ?_
   rintro n ρ m H3 ⟨e2,e4,e5,e6,e20,e21,e22,e8,rfl,hn3,hk3,s,hv,hfu,ho3,rfl⟩
   have j2:=(hk3 _ (by omega) (by omega)).trans k2
   simp (disch:=omega) [e2,j2]
   refine wp_up tok mix (by kernel_rfl) cs.length (fun i ρ m H'=>ρ 2=.pointer (some (ga H.next 0 0))∧ρ 4=.pointer (some (ga (H.next+1) 0 0))∧ρ 5=.pointer (some (ga (H.next+3) 0 0))∧ρ 6=.func (.func 106) #[] #[.pointer (some (ga (H.next+3) 0 0)),.pointer (some (ga H.next 0 0))]∧ρ 20=.slice (some b) 4 ofl∧ρ 21=vi 4∧ρ 22=vi k∧ρ 8=vi cl∧ρ 27=.slice a cs.length f∧ρ 28=vi cs.length∧ρ 29=vi i∧m= []∧H1.next≤H'.next∧(∀g,g<H1.next→g≠H.next+2→H'.get g=H1.get g)∧
    RndP I cs s cl k i (ρ 9) H' H.next ad) (i0:=0) (by omega) (by
     simp [e2,e4,e5,e6,e20,e21,e22,e8]
     exact ⟨hn3,hk3,s,false,rfl,hv,hfu,ho3,fun _=>⟨rfl,fun _ j hj=>absurd hj (by omega)⟩,by simp⟩) ?_
   rintro i ρ m H4 hi ⟨e2,e4,e5,e6,e20,e21,e22,e8,e27,e28,e29,rfl,hn4,hk4,s',more,e9,hv',hfu',ho4,hm1,hm2⟩
   simp [e28,e29]
   refine wpB_dec (fun hilt=>?_) (fun hige=>?_)
   ·have hE4:=hE2 H4 hn4 hk4
    obtain ⟨ab,rfl,hab,hrda⟩:=hE4.at i (by omega)
    have m5:=(hk4 _ (by omega) (by omega)).trans k5
    have m2:=(hk4 _ (by omega) (by omega)).trans k2
    simp (disch:=omega) [e8,e27,e29,hilt,hrda]
    generalize hHp:GH.put (GH.push H4 _) _ _=Hp
    have hsp:Sub H4 Hp:=by subst hHp; exact (Sub.push (.refl H4) _).put (by omega) _
    clear hHp
    by_cases hc0:0=cl
    ·simp (disch:=omega) [hc0.symm,e6]
     have hsp1:=hsp.1
     refine (raise_con I cs s' hv'.len hl (hv'.nonneg fun c h=>(hc c h).2) (some ab) f H.next (H.next+3) H.next ad i (by omega) Hp ((hsp.2 _ (by omega)).trans m5) ((hsp.2 _ (by omega)).trans m2) (by omega) (by omega) (by omega) (by omega) (fun c h=>by have:=hal c h; omega) (hE4.mono hsp) (ho4.sub hsp)).mono ?_
     rintro x H5 ⟨hn5,hk5,rfl,ho5⟩
     simp (disch:=omega) [e9]
     have hil:i<cs.length:=by omega
     have hcase:∀b:Bool,(b=true→more=true∨can I cs s' i=true)→(b=false→more=false∧can I cs s' i=false)→RndP I cs s 0 k (i+1) (.bool b) H5 H.next ad:=fun b h1 h2=>by
      refine ⟨raiseS I cs s' i,b,rfl,raise_val hv' hil,fun h=>raise_full hil (hfu' h),ho5,fun h=>?_,fun h=>?_⟩
      ·obtain ⟨q1,q2⟩:=h2 h
       obtain ⟨rfl,q3⟩:=hm1 q1
       refine ⟨raise_not q2,fun h0 j hj=>?_⟩
       by_cases hji:j=i
       ·subst hji; exact q2
       ·exact q3 hc0.symm j (by omega)
      ·have h0:s.sum≤s'.sum:=by
        cases hm:more
        ·rw [(hm1 hm).1]; omega
        ·have:=hm2 hm; omega
       cases hcn:can I cs s' i
       ·rw [raise_not hcn]
        rcases h1 h with h|h
        ·exact hm2 h
        ·rw [hcn] at h; cases h
       ·have:=raise_sum hv' hil hcn; omega
     have hfin:∀g,g<H1.next→g≠H.next+2→H5.get g=H1.get g:=fun g h1 h2=>by rw [hk5 g (by omega) (by omega),hsp.2 g (by omega),hk4 g h1 h2]
     cases more
     ·simp (disch:=omega) [hc0.symm,e2,e4,e5,e6,e20,e21,e22,e8,e27,e28,e29,wrap64]
      exact ⟨by omega,hfin,hcase _ (fun h=>.inr h) (fun h=>⟨rfl,h⟩)⟩
     ·simp (disch:=omega) [hc0.symm,e2,e4,e5,e6,e20,e21,e22,e8,e27,e28,e29,wrap64]
      exact ⟨by omega,hfin,hcase _ (fun _=>.inl rfl) (fun h=>by cases h)⟩
    ·simp (disch:=omega) [hc0,e2,e4,e5,e6,e9,e20,e21,e22,e8,e27,e28,e29,wrap64]
     refine ⟨by have:=hsp.1; omega,fun g h1 h2=>by rw [hsp.2 g (by omega),hk4 g h1 h2],s',more,rfl,hv',hfu',ho4.sub hsp,fun h=>⟨(hm1 h).1,fun h0=>absurd h0.symm hc0⟩,hm2⟩
   ·have:i=cs.length:=by omega
    subst this
    simp (disch:=omega) [e9]
    cases more
    ·obtain ⟨rfl,hcf⟩:=hm1 rfl
     simp [e2,e4,e5,e6,e20,e21,e22]
     refine ⟨hn4,hk4,s',hv',fun j hj=>?_,ho4⟩
     rcases Nat.eq_zero_or_pos k with h0|h0
     ·exact hcf (hcl0 h0) j hj
     ·exact hfu' h0 j hj
    ·have:=hm2 rfl
     have:=hv'.sum
     simp [e2,e4,e5,e6,e20,e21,e22,e8]
     exact ⟨(I - s'.sum).toNat,by omega,hn4,hk4,s',hv',hfu',ho4,rfl⟩
  ·rintro x ρ m H3 ⟨rfl,e2,e4,e5,e6,e20,e21,e22,rfl,hn3,hk3,s,hv,hfu,ho3⟩
   simp (disch:=omega) [e2,e4,e5,e6,e20,e21,e22,wrap64]
   exact ⟨by omega,hn3,hk3,s,hv,hfu,ho3⟩
 ·have:k=4:=by omega
  subst this
  have j5:=(hk2 _ (by omega) (by omega)).trans k5
  have j4:=(hk2 _ (by omega) (by omega)).trans k4
  simp (disch:=omega) [e4,e5,j4,j5]
  exact ⟨⟨by have:=hs1.1; simp; omega,fun g hg=>by rw [GH.get_put_ne _ _ (by omega),hk2 g (by omega) (by omega),hs1.2 g hg]⟩,s,ho2.frame (by simp) fun g hg=>by
   have:=(ho2.blk_lt hg)
   simp [blkOf,hadb] at hg
   rw [GH.get_put_ne _ _ (by omega)],hv,hfu (by omega)⟩
end Go.Gm.Tryz
end
section
namespace Go.Gm.Tryz
open Go.Proofs
def LawP (I:Int) (cs:List Int) (a:Option Addr) (f N:Nat) (x:GO) (H':GH):Prop:=
 ∃s ad,x=.ret (shdV I a cs.length f (.slice (some ad) cs.length 1))∧OwnL H' N (.slice (some ad) cs.length 1) 3 1 encI s∧ValS I cs s∧FullS I cs s
theorem law_con (I0 I:Int) (hI:0≤I) (cs:List Int) (hl:cs.length≤100) (hc:∀c∈cs,1≤c∧c≤200) (a:Option Addr) (f:Nat) (H:GH) (hE:Elems H a 3 encOut cs):
  GCall Tryz.prog 37 [treeV I0 a cs.length f,vi I] H fun x H'=>Sub H H'∧LawP I cs a f H.next x H':=by
 refine gcall_wp tok mix fok37 (F:=g37) (c:=_) rfl (n:=20) rfl (rs:= [.cell 4 94]) rfl ?_
 simp
 generalize hH1:GH.put _ _ _=H1
 have hs1:Sub H H1:=by subst hH1; exact ((Sub.push (.refl H) _).push _).put (by omega) _
 have k2:H1.get H.next=some (.arr { cells:=treeC I a cs.length f,ty:=41 }):=by subst hH1; simp (disch:=omega)
 have k4:H1.get (H.next+1)=some (.arr { cells:= [vi 0,.slice none 0 0,.slice none 0 0,.slice none 0 0],ty:=94 }):=by subst hH1; simp (disch:=omega)
 have hn1:H1.next=H.next+2:=by subst hH1; simp (disch:=omega)
 clear hH1
 have hal:∀b,a=some b→b.block<H.next:=fun b hb=>(hE.ok b hb).1
 refine wp_up tok mix (by kernel_rfl) 4 (fun k ρ m H'=>ρ 2=.pointer (some (ga H.next 0 0))∧ρ 4=.pointer (some (ga (H.next+1) 0 0))∧ρ 9=vi k∧m= []∧Sub H1 H'∧OwnL H' H1.next (ρ 5) 3 1 encI ([(0:Int),1,2,3].take k)) (i0:=0) (by omega) (by
   simp
   exact OwnL.nil) ?_
 rintro k ρ m H2 hk ⟨e2,e4,e9,rfl,hs2,ho2⟩
 have hn2:=hs2.1
 simp [e9]
 refine wpB_dec (fun hlt=>?_) (fun hge=>?_)
 ·simp (disch:=omega) [e9]
  obtain ⟨v',H3,happ,ho3,hn3,hf3,hb3⟩:=(ho2.push (.arr { cells:= [vi k],ty:=3 })).app (fun _=>rfl) (fun _=>rfl) (by decide) (k:Int) (by simp; omega)
  have hks:([(0:Int),1,2,3].take k)++ [(k:Int)]= [(0:Int),1,2,3].take (k+1):=by
   have:k=0∨k=1∨k=2∨k=3:=by omega
   rcases this with rfl|rfl|rfl|rfl<;>rfl
  rw [hks] at ho3
  simp only [encI] at happ
  have hlv:lenOfV (ρ 5)=k:=by rw [ho2.len]; simp; omega
  have hlim:8*(1+lenOfV (ρ 5))≤1000000∧1+lenOfV (ρ 5)≤1000000:=by omega
  simp (disch:=omega) [hlim,happ,e2,e4,e9,wrap64]
  simp at hn3
  exact ⟨by omega,⟨by omega,fun g hg=>by rw [hf3 g (by simp; omega) (fun hc=>by have:=(ho2.blk_lt hc).1; omega),GH.get_push_lt _ _ (by omega),hs2.2 g hg]⟩,ho3⟩
 ·have:k=4:=by omega
  subst this
  have j2:=(hs2.2 _ (by omega)).trans k2
  have j4:=(hs2.2 _ (by omega)).trans k4
  obtain ⟨oa,ofl,e5,hO⟩:=ho2.elems (by simp)
  simp at e5
  simp (disch:=omega) [e2,e5,j2]
  refine (ordered_con I hI cs hl hc a f oa ofl H2 ((hE.mono hs1).mono hs2) hO).mono ?_
  rintro x H3 ⟨hs3,s,ad,rfl,ho3,hv,hfu⟩
  have j4:=(hs3.2 _ (by omega)).trans j4
  simp (disch:=omega) [e4,j4]
  have hn3:=hs3.1
  exact ⟨⟨by simp; omega,fun g hg=>by rw [GH.get_put_ne _ _ (by omega),hs3.2 g (by omega),hs2.2 g (by omega),hs1.2 g hg]⟩,s,ad,rfl,(ho3.frame (by simp) fun g hg=>by
   have:=(ho3.blk_lt hg).1
   rw [GH.get_put_ne _ _ (by omega)]).weaken (by omega),hv,hfu⟩
theorem Shares_con (I:Int) (cs:List Int) (hl:cs.length≤100) (a:Option Addr) (f:Nat) (H:GH) (hE:Elems H a 3 encOut cs):
  GCall Tryz.prog 12 [treeV I a cs.length f] H fun x H'=>Sub H H'∧(isTreeB I cs=true→∃s ad,x=.ret (.tuple #[.slice (some ad) cs.length 1,vi 0])∧OwnL H' H.next (.slice (some ad) cs.length 1) 3 1 encI s∧ValS I cs s∧FullS I cs s):=by
 refine gcall_wp tok mix fok12 (F:=g12) (c:=_) rfl (n:=12) rfl (rs:= [.tmp 2,.tmp 3]) rfl ?_
 simp
 generalize hH1:GH.push H _=H1
 have hs1:Sub H H1:=by subst hH1; exact Sub.push (.refl H) _
 have k1:H1.get H.next=some (.arr { cells:=treeC I a cs.length f,ty:=41 }):=by subst hH1; simp
 have hn1:H1.next=H.next+1:=by subst hH1; simp
 clear hH1
 have hE1:=hE.mono hs1
 refine (isTree_con I cs hl a f H1 hE1).go ?_
 cases ht:isTreeB I cs
 ·simp
  exact hs1
 obtain ⟨t1,t2,t3,t4,t5⟩:=tree_ok ht
 simp [k1]
 refine (law_con I I t1 cs hl t5 a f H1 hE1).mono ?_
 rintro x H2 ⟨hs2,s,ad,rfl,ho,hv,hfu⟩
 simp
 exact ⟨hs1.trans hs2,s,ho.weaken (by omega),hv,hfu⟩
end Go.Gm.Tryz
end
section
namespace Go.Gm.Tryz
open Go.Proofs
def keepB (cs s:List Int):Bool:=(List.range cs.length).all fun i=> !decide (s.getD i 0<cs.getD i 0)
theorem keepB_iff {I:Int} {cs s:List Int} (h:ValS I cs s) (hf:FullS I cs s):keepB cs s=decide (cs.sum≤I):=by
 obtain ⟨h1,h2⟩:=full_sum h hf
 by_cases hc:cs.sum≤I
 ·rw [h2 hc]; simp [keepB,hc]
 ·have:s.sum<cs.sum:=by omega
  obtain ⟨i,hi,hlt⟩:=ex_lt h.len this
  have:keepB cs s=false:=by
   simp only [keepB,List.all_eq_false]
   exact ⟨i,by simpa using hi,by simp only [hlt,decide_true]; decide⟩
  simp [this,hc]
theorem keeps1_con (I:Int) (cs s:List Int) (hlen:s.length=cs.length) (hl:cs.length≤100) (a:Option Addr) (f:Nat) (J:Int) (sa:Option Addr) (sf:Nat) (g1 g2:Nat) (H:GH) (hE:Elems H a 3 encOut cs) (hS:Elems H sa 1 encI s)
  (k1:H.get g1=some (.arr { cells:=treeC J a cs.length f,ty:=41 })) (k2:H.get g2=some (.arr { cells:= [vi 0],ty:=3 })) (n1:g1<H.next) (n2:g2<H.next):
  C 40 [shdV I a cs.length f (.slice sa cs.length sf),.pointer (some (ga g1 0 0)),.pointer (some (ga g2 0 0))] H (.bool (keepB cs s)) H:=by
 refine con_wp tok mix fok40 (F:=g40) (c:=_) rfl (n:=30) rfl (rs:= [.tmp 4]) rfl (anch_closed rfl) ?_
 have q1:¬g1=H.next:=by omega
 simp (disch:=omega) [k1]
 generalize hH1:GH.push H _=H1
 have hs1:Sub H H1:=by subst hH1; exact Sub.push (.refl H) _
 have kb:H1.get H.next=some (.arr { cells:=shdC I a cs.length f (.slice sa cs.length sf),ty:=94 }):=by subst hH1; simp
 have hn1:H1.next=H.next+1:=by subst hH1; simp
 clear hH1
 have k2:=(hs1.2 _ n2).trans k2
 have hE1:=hE.mono hs1
 have hS1:=hS.mono hs1
 refine wp_up tok mix (by kernel_rfl) cs.length (fun i ρ m H'=>ρ 2=.pointer (some (ga g2 0 0))∧ρ 3=.pointer (some (ga H.next 0 0))∧ρ 8=.slice a cs.length f∧ρ 9=vi cs.length∧ρ 10=vi i∧m= []∧Sub H1 H'∧∀j,j<i→¬s.getD j 0<cs.getD j 0) (i0:=0) (by omega) (by simp) ?_
 rintro i ρ m H2 hi ⟨e2,e3,e8,e9,e10,rfl,hs2,hj⟩
 have hn2:=hs2.1
 simp [e9,e10]
 refine wpB_dec (fun hlt=>?_) (fun hge=>?_)
 ·obtain ⟨b,rfl,hb,hrd⟩:=(hE1.mono hs2).at i (by omega)
  obtain ⟨sb,rfl,hsb,hsrd⟩:=(hS1.mono hs2).at i (by omega)
  have m2:=(hs2.2 _ (by omega)).trans k2
  have mb:=(hs2.2 _ (by omega)).trans kb
  simp (disch:=omega) [e8,e10,hlt,hrd]
  generalize hHp:GH.put (GH.push H2 _) _ _=Hp
  have hsp:Sub H2 Hp:=by subst hHp; exact (Sub.push (.refl H2) _).put (by omega) _
  have kp:Hp.get H2.next=some (.arr { cells:= [vi 0,vi cs[i],vi 0],ty:=51 }):=by subst hHp; simp (disch:=omega)
  clear hHp
  have m2:=(hsp.2 _ (by omega)).trans m2
  have mb:=(hsp.2 _ (by omega)).trans mb
  obtain ⟨sb',e,hsb',hsrd'⟩:=(hS1.mono (hs2.trans hsp)).at i (by omega)
  cases e
  simp (disch:=omega) [e2,e3,m2,mb,kp,hsrd']
  have hlc:i<cs.length:=by omega
  have hls:i<s.length:=by omega
  have hgs:s.getD i 0=s[i]:=by simp [hls]
  have hgc:cs.getD i 0=cs[i]:=by simp [hlc]
  refine wpB_dec (fun h=>?_) (fun h=>?_)
  ·have:keepB cs s=false:=by
    simp only [keepB,List.all_eq_false]
    exact ⟨i,by simpa using hlc,by rw [hgs,hgc]; simp only [h,decide_true]; decide⟩
   simp [this]
   exact (hs1.trans hs2).trans hsp
  ·simp (disch:=omega) [e2,e3,e8,e9,e10,wrap64]
   refine ⟨hs2.trans hsp,fun j hj'=>?_⟩
   by_cases hji:j=i
   ·subst hji; simp [hls,hlc]; omega
   ·have:=hj j (by omega)
    simpa using this
 ·have:i=cs.length:=by omega
  subst this
  have:keepB cs s=true:=by
   simp only [keepB,List.all_eq_true]
   intro j hjr
   have:=hj j (by simpa using hjr)
   simp only [this,decide_false]; rfl
  simp [this]
  exact hs1.trans hs2
theorem gbin_half (t:TypeId) (a:Int):gbin T .quo t (vi a) (vi 2)=some (vi (IntKind.i64.wrap (Int.tdiv a 2))):=by
 simp [gbin,binOp,Op.intDiv,Sem.toPure,scal,pure]
theorem dfirst_con (I0:Int) (cs:List Int) (hl:cs.length≤100) (hc:∀c∈cs,1≤c∧c≤200) (hsum:cs.sum≤200) (a:Option Addr) (f:Nat) (J:Int) (g1 g2:Nat) (H:GH) (hE:Elems H a 3 encOut cs)
  (k1:H.get g1=some (.arr { cells:=treeC J a cs.length f,ty:=41 })) (k2:H.get g2=some (.arr { cells:= [vi 0],ty:=3 })) (n1:g1<H.next) (n2:g2<H.next):
  C 39 [treeV I0 a cs.length f,.func (.func 40) #[] #[.pointer (some (ga g1 0 0)),.pointer (some (ga g2 0 0))]] H (.tuple #[vi cs.sum,.bool true]) H:=by
 refine con_wp tok mix fok39 (F:=g39) (c:=_) rfl (n:=30) rfl (rs:= [.tmp 4,.tmp 5]) rfl (anch_tuple (l:= [vi cs.sum,.bool true]) (by simp; exact ⟨anch_closed rfl,anch_closed rfl⟩)) ?_
 simp
 generalize hH1:GH.push H _=H1
 have hs1:Sub H H1:=by subst hH1; exact Sub.push (.refl H) _
 have kb:H1.get H.next=some (.arr { cells:=treeC I0 a cs.length f,ty:=41 }):=by subst hH1; simp
 have hn1:H1.next=H.next+1:=by subst hH1; simp
 clear hH1
 have hs0:0≤cs.sum:=(sumSh_bd (s:=cs) fun x hx=>by have:=hc x hx; omega).1
 refine wp_loop tok mix (by kernel_rfl) (fun n ρ m H'=>ρ 1=.func (.func 40) #[] #[.pointer (some (ga g1 0 0)),.pointer (some (ga g2 0 0))]∧ρ 2=.pointer (some (ga H.next 0 0))∧m= []∧Sub H1 H'∧∃lo hi:Int,ρ 6=vi lo∧ρ 7=vi hi∧0≤lo∧lo≤cs.sum∧cs.sum≤hi∧hi≤200∧n=(hi - lo).toNat) (k:=200)
  ⟨by simp,by simp,rfl,.refl _,0,200,by simp,by simp,by omega,by omega,by omega,by omega,by omega⟩ ?_
 rintro n ρ m H2 ⟨e1,e2,rfl,hs2,lo,hi,e6,e7,h1,h2,h3,h4,rfl⟩
 have hn2:=hs2.1
 have j1:=(hs2.2 _ (by omega)).trans ((hs1.2 _ n1).trans k1)
 have j2:=(hs2.2 _ (by omega)).trans ((hs1.2 _ n2).trans k2)
 have jb:=(hs2.2 _ (by omega)).trans kb
 have hE2:=(hE.mono hs1).mono hs2
 simp [e6,e7]
 refine wpB_dec (fun hlt=>?_) (fun hge=>?_)
 ·have hmd:Int.tdiv (lo+hi) 2=(lo+hi)/2:=Int.tdiv_eq_ediv_of_nonneg (by omega)
  generalize hmid:(lo+hi)/2=mid at hmd
  have hm1:lo≤mid∧mid<hi:=by omega
  clear hmid
  simp (disch:=omega) [e1,e2,e6,e7,jb,gbin_half,hmd,wrap64]
  refine (law_con I0 mid (by omega) cs hl hc a f H2 hE2).mono ?_
  rintro x H3 ⟨hs3,s,ad,rfl,ho,hv,hfu⟩
  have hn3:=hs3.1
  simp
  have hk:=keepB_iff hv hfu
  refine (keeps1_con mid cs s hv.len hl a f J (some ad) 1 g1 g2 H3 (hE2.mono hs3) (ho.elems' (by simp)) ((hs3.2 _ (by omega)).trans j1) ((hs3.2 _ (by omega)).trans j2) (by omega) (by omega)).go ?_
  rw [hk]
  simp
  refine wpB_dec (fun h=>?_) (fun h=>?_)
  ·simp [e1,e2,e6]
   exact ⟨(mid - lo).toNat,by omega,hs2.trans hs3,by omega⟩
  ·simp (disch:=omega) [e1,e2,e7,wrap64]
   exact ⟨(hi - (mid+1)).toNat,by omega,hs2.trans hs3,by omega⟩
 ·have:lo=cs.sum:=by omega
  subst this
  simp [e1,e2,e6,jb]
  refine (law_con I0 cs.sum hs0 cs hl hc a f H2 hE2).mono ?_
  rintro x H3 ⟨hs3,s,ad,rfl,ho,hv,hfu⟩
  have hn3:=hs3.1
  simp
  have hk:=keepB_iff hv hfu
  refine (keeps1_con cs.sum cs s hv.len hl a f J (some ad) 1 g1 g2 H3 (hE2.mono hs3) (ho.elems' (by simp)) ((hs3.2 _ (by omega)).trans j1) ((hs3.2 _ (by omega)).trans j2) (by omega) (by omega)).go ?_
  simp [hk]
  exact (hs1.trans hs2).trans hs3
end Go.Gm.Tryz
end
section
namespace Go.Gm.Tryz
open Go.Proofs
theorem dKeeps_con (I:Int) (cs:List Int) (ht:isTreeB I cs=true) (hl:cs.length≤100) (hsum:cs.sum≤200) (a:Option Addr) (f:Nat) (H:GH) (hE:Elems H a 3 encOut cs):
  C 13 [treeV I a cs.length f,vi 0] H (.tuple #[vi cs.sum,vi 0]) H:=by
 refine con_wp tok mix fok13 (F:=g13) (c:=_) rfl (n:=25) rfl (rs:= [.tmp 4,.tmp 5]) rfl (anch_tuple (l:= [vi cs.sum,vi 0]) (by simp; exact ⟨anch_closed rfl,anch_closed rfl⟩)) ?_
 simp
 generalize hH1:GH.push (GH.push H _) _=H1
 have hs1:Sub H H1:=by subst hH1; exact (Sub.push (.refl H) _).push _
 have k1:H1.get H.next=some (.arr { cells:=treeC I a cs.length f,ty:=41 }):=by subst hH1; simp
 have k2:H1.get (H.next+1)=some (.arr { cells:= [vi 0],ty:=3 }):=by subst hH1; simp
 have hn1:H1.next=H.next+2:=by subst hH1; simp
 clear hH1
 have hE1:=hE.mono hs1
 refine (isTree_con I cs hl a f H1 hE1).go ?_
 obtain ⟨t1,t2,t3,t4,t5⟩:=tree_ok ht
 simp [ht,k2]
 refine (dClass_con _ _).go ?_
 simp [inI,k1]
 refine (dfirst_con I cs hl t5 hsum a f I H.next (H.next+1) H1 hE1 k1 k2 (by omega) (by omega)).go ?_
 simp
 exact hs1
theorem r7in_con (x lo hi:Int) (H:GH):C 32 [vi x,vi lo,vi hi] H (.bool (inI x lo hi)) H:=by
 refine con_wp tok mix fok32 (F:=g32) (c:=_) rfl (n:=15) rfl (rs:= [.tmp 6]) rfl (anch_closed rfl) ?_
 simp
 refine contG_bool (fun h=>?_) (fun h=>?_)<;>(try simp only [decide_eq_true_eq,decide_eq_false_iff_not] at h)<;>simp [h,inI]
theorem r7Cups_con (n:Int) (H:GH):C 33 [vi n] H (.bool (inI n 0 200)) H:=by
 refine con_wp tok mix fok33 (F:=g33) (c:=_) rfl (n:=5) rfl (rs:= [.tmp 2]) rfl (anch_closed rfl) ?_
 simp
 refine (r7in_con _ _ _ _).go ?_
 simp
theorem r7Class_con (n:Int) (H:GH):C 35 [vi n] H (.bool (inI n 0 3)) H:=by
 refine con_wp tok mix fok35 (F:=g35) (c:=_) rfl (n:=5) rfl (rs:= [.tmp 2]) rfl (anch_closed rfl) ?_
 simp
 refine (r7in_con _ _ _ _).go ?_
 simp
theorem r7Node_con (I:Int) (a:Option Addr) (n f:Nat) (x:Int) (H:GH):C 34 [treeV I a n f,vi x] H (.bool (inI x 0 0)) H:=by
 refine con_wp tok mix fok34 (F:=g34) (c:=_) rfl (n:=10) rfl (rs:= [.tmp 4]) rfl (anch_closed rfl) ?_
 simp
 refine (r7in_con _ _ _ _).go ?_
 simp
 try exact Sub.push (.refl H) _
def rtreeB (I:Int) (cs:List Int):Bool:=cs.all (fun c=>inI c 1 200)&&(inI I 0 200&&inI cs.length 1 8)
theorem r7Tree_con (I:Int) (cs:List Int) (hl:cs.length≤100) (a:Option Addr) (f:Nat) (H:GH) (hE:Elems H a 3 encOut cs):C 11 [treeV I a cs.length f] H (.bool (rtreeB I cs)) H:=by
 refine con_wp tok mix fok11 (F:=g11) (c:=_) rfl (n:=76) rfl (rs:= [.tmp 2]) rfl (anch_closed rfl) ?_
 simp
 generalize hH1:GH.push H _=H1
 have hs1:Sub H H1:=by subst hH1; exact Sub.push (.refl H) _
 have k1:H1.get H.next=some (.arr { cells:=treeC I a cs.length f,ty:=41 }):=by subst hH1; simp
 have hn1:H1.next=H.next+1:=by subst hH1; simp
 clear hH1
 have hE1:=hE.mono hs1
 refine wp_up tok mix (by kernel_rfl) 0 (fun i ρ m H'=>ρ 1=.pointer (some (ga H.next 0 0))∧ρ 3=vi i∧m= []∧H'=H1) (i0:=0) (by omega) (by simp) ?_
 rintro i ρ m H' hi ⟨e1,e3,rfl,rfl⟩
 obtain rfl:i=0:=by omega
 simp [e1,e3,k1]
 refine wp_up tok mix (by kernel_rfl) cs.length (fun i ρ m H2=>ρ 1=.pointer (some (ga H.next 0 0))∧ρ 4=vi i∧m= []∧Sub H' H2∧∀j (h:j<cs.length),j<i→inI cs[j] 1 200=true) (i0:=0) (by omega) (by simp [e1]) ?_
 rintro i ρ m H2 hi ⟨e1,e4,rfl,hs2,hj⟩
 have hn2:=hs2.1
 have k2:=(hs2.2 _ (by omega)).trans k1
 simp [e1,e4,k2]
 refine wpB_dec (fun hlt=>?_) (fun hge=>?_)
 ·obtain ⟨b,rfl,hb,hrd⟩:=(hE1.mono hs2).at i (by omega)
  simp (disch:=omega) [e1,e4,k2,hlt,hrd]
  generalize hHp:GH.put (GH.push H2 _) _ _=Hp
  have hsp:Sub H2 Hp:=by subst hHp; exact (Sub.push (.refl H2) _).put (by omega) _
  have kp:Hp.get H2.next=some (.arr { cells:= [vi 0,vi cs[i],vi 0],ty:=51 }):=by subst hHp; simp (disch:=omega)
  clear hHp
  have k3:=(hsp.2 _ (by omega)).trans k2
  refine (r7Node_con I (some b) cs.length f 0 Hp).go ?_
  simp (disch:=omega) [inI,kp]
  refine (r7in_con _ _ _ _).go ?_
  simp
  cases hci:inI cs[i] 1 200
  ·have:rtreeB I cs=false:=by
    have:cs.all (fun c=>inI c 1 200)=false:=List.all_eq_false.2 ⟨cs[i],List.getElem_mem (by omega),by rw [hci]; decide⟩
    rw [rtreeB,this]; rfl
   simp [this]
   exact (hs1.trans hs2).trans hsp
  ·simp [kp]
   refine (r7Class_con _ _).go ?_
   simp (disch:=omega) [inI,e1,e4,wrap64]
   refine ⟨hs2.trans hsp,fun j hjl hj'=>?_⟩
   by_cases hji:j=i
   ·subst hji; simpa [inI] using hci
   ·simpa [inI] using hj j hjl (by omega)
 ·have:i=cs.length:=by omega
  subst this
  have hall:cs.all (fun c=>inI c 1 200)=true:=List.all_eq_true.2 fun x hx=>by
   obtain ⟨j,h,rfl⟩:=List.getElem_of_mem hx
   exact hj j h h
  simp [e1,k2]
  refine (r7Cups_con _ _).go ?_
  cases hI:inI I 0 200
  ·simp [rtreeB,hI]
   exact hs1.trans hs2
  ·simp [e1,k2]
   refine (r7in_con _ _ _ _).go ?_
   simp [rtreeB,hI,hall]
   exact hs1.trans hs2
theorem r7With_con (I J:Int) (a:Option Addr) (n f:Nat) (H:GH):GCall Tryz.prog 14 [treeV I a n f,vi J] H fun x H'=>Sub H H'∧x=.ret (treeV J a n f):=by
 refine gcall_wp tok mix fok14 (F:=g14) (c:=_) rfl (n:=10) rfl (rs:= [.cell 4 41]) rfl ?_
 simp (disch:=omega)
 exact (((((Sub.push (.refl H) _).push _).push _).put (by omega) _).put (by omega) _).put (by omega) _
theorem r7List_con (I J:Int) (cs s:List Int) (hv:ValS J cs s) (hl:cs.length≤100) (a:Option Addr) (f:Nat) (sa:Option Addr) (sf:Nat) (H:GH) (hE:Elems H a 3 encOut cs) (hS:Elems H sa 1 encI s):
  C 16 [treeV I a cs.length f,.slice sa cs.length sf] H (.bool true) H:=by
 have hlen:=hv.len
 refine con_wp tok mix fok16 (F:=g16) (c:=_) rfl (n:=30) rfl (rs:= [.tmp 4]) rfl (anch_closed rfl) ?_
 simp
 generalize hH1:GH.push H _=H1
 have hs1:Sub H H1:=by subst hH1; exact Sub.push (.refl H) _
 have k1:H1.get H.next=some (.arr { cells:=treeC I a cs.length f,ty:=41 }):=by subst hH1; simp
 have hn1:H1.next=H.next+1:=by subst hH1; simp
 clear hH1
 have hE1:=hE.mono hs1
 have hS1:=hS.mono hs1
 try simp [k1]
 refine wp_up tok mix (by kernel_rfl) cs.length (fun i ρ m H'=>ρ 1=.slice sa cs.length sf∧ρ 2=.pointer (some (ga H.next 0 0))∧ρ 5=vi i∧m= []∧H'=H1) (i0:=0) (by omega) (by simp) ?_
 rintro i ρ m H' hi ⟨e1,e2,e5,rfl,rfl⟩
 simp [e1,e5]
 refine wpB_dec (fun hlt=>?_) (fun hge=>?_)
 ·obtain ⟨b,rfl,hb,hrd⟩:=hE1.at i (by omega)
  obtain ⟨sb,rfl,hsb,hsrd⟩:=hS1.at i (by omega)
  have hls:i<s.length:=by omega
  have hlc:i<cs.length:=by omega
  have hbd:=hv.bd i hlc
  simp [hls,hlc] at hbd
  simp (disch:=omega) [e1,e2,e5,k1,hlt,hrd,hsrd]
  refine (r7in_con _ _ _ _).go ?_
  have:inI s[i] 0 cs[i]=true:=by simp [inI]; omega
  simp (disch:=omega) [this,e1,e2,e5,wrap64]
 ·simp
  exact hs1
end Go.Gm.Tryz
end
section
namespace Go.Gm.Tryz
open Go.Proofs
def vecs (b:Book) (s:Stand) (bk dy:List Int) (v1 v2 vl vo vg va vw vb vd:Value):List OS:=
 [⟨v1,3,1,(watersL b.tbl 1).map encI⟩,⟨v2,3,1,(watersL b.tbl 2).map encI⟩,⟨vl,4,1,s.lives.map encB⟩,⟨vo,3,1,s.owners.map encI⟩,⟨vg,45,5,s.grants.map encSt⟩,⟨va,3,1,s.last.map encI⟩,⟨vw,3,1,s.waits.map encI⟩,⟨vb,3,1,bk.map encI⟩,⟨vd,3,1,dy.map encI⟩]
structure RIn (H:GH) (N:Nat) (l:BLoc) (b:Book) (sg:Nat) (s:Stand) (bk dy:List Int) (v1 v2 vl vo vg va vw vb vd:Value):Prop where
 r:RecIn H N sg 175 (bookC l b) (vecs b s bk dy v1 v2 vl vo vg va vw vb vd)
 book:BookIn H l b
 bt:∀a,l.t.rows.a=some a→a.block<N
 bo:∀a,l.owners.a=some a→a.block<N
 be:∀a,l.events.a=some a→a.block<N
def RegS (H:GH) (N:Nat) (l:BLoc) (b:Book) (sg:Nat) (s:Stand) (O:Nat→Prop):Prop:=
 ∃v1 v2 vl vo vg va vw vb vd,RIn H N l b sg s (s.fell.map Prod.fst) (s.fell.map Prod.snd) v1 v2 vl vo vg va vw vb vd∧∀g,O g↔RecOwn sg (vecs b s (s.fell.map Prod.fst) (s.fell.map Prod.snd) v1 v2 vl vo vg va vw vb vd) g
section
variable {H H1:GH} {N:Nat} {l:BLoc} {b:Book} {sg:Nat} {s s1:Stand} {bk dy bk1 dy1:List Int} {O:Nat→Prop} {v1 v2 vl vo vg va vw vb vd:Value}
theorem RIn.g (h:RIn H N l b sg s bk dy v1 v2 vl vo vg va vw vb vd):H.get sg=some (.arr { cells:=bookC l b++ [v1,v2,vl,vo,vg,va,vw,vb,vd],ty:=175 }):=h.r.g
theorem RIn.sgl (h:RIn H N l b sg s bk dy v1 v2 vl vo vg va vw vb vd):N≤sg∧sg<H.next:=h.r.sgl
theorem RIn.w1 (h:RIn H N l b sg s bk dy v1 v2 vl vo vg va vw vb vd):OwnL H N v1 3 1 encI (watersL b.tbl 1):=ownL_id.1 (h.r.at (k:=0) (show 0<9 by decide))
theorem RIn.w2 (h:RIn H N l b sg s bk dy v1 v2 vl vo vg va vw vb vd):OwnL H N v2 3 1 encI (watersL b.tbl 2):=ownL_id.1 (h.r.at (k:=1) (show 1<9 by decide))
theorem RIn.lives (h:RIn H N l b sg s bk dy v1 v2 vl vo vg va vw vb vd):OwnL H N vl 4 1 encB s.lives:=ownL_id.1 (h.r.at (k:=2) (show 2<9 by decide))
theorem RIn.owners (h:RIn H N l b sg s bk dy v1 v2 vl vo vg va vw vb vd):OwnL H N vo 3 1 encI s.owners:=ownL_id.1 (h.r.at (k:=3) (show 3<9 by decide))
theorem RIn.grants (h:RIn H N l b sg s bk dy v1 v2 vl vo vg va vw vb vd):OwnL H N vg 45 5 encSt s.grants:=ownL_id.1 (h.r.at (k:=4) (show 4<9 by decide))
theorem RIn.last (h:RIn H N l b sg s bk dy v1 v2 vl vo vg va vw vb vd):OwnL H N va 3 1 encI s.last:=ownL_id.1 (h.r.at (k:=5) (show 5<9 by decide))
theorem RIn.waits (h:RIn H N l b sg s bk dy v1 v2 vl vo vg va vw vb vd):OwnL H N vw 3 1 encI s.waits:=ownL_id.1 (h.r.at (k:=6) (show 6<9 by decide))
theorem RIn.back (h:RIn H N l b sg s bk dy v1 v2 vl vo vg va vw vb vd):OwnL H N vb 3 1 encI bk:=ownL_id.1 (h.r.at (k:=7) (show 7<9 by decide))
theorem RIn.days (h:RIn H N l b sg s bk dy v1 v2 vl vo vg va vw vb vd):OwnL H N vd 3 1 encI dy:=ownL_id.1 (h.r.at (k:=8) (show 8<9 by decide))
theorem RIn.ne (h:RIn H N l b sg s bk dy v1 v2 vl vo vg va vw vb vd) (k:Nat) (hk:k<9):blkOf ((vecs b s bk dy v1 v2 vl vo vg va vw vb vd)[k]'hk).v≠some sg:=h.r.ne hk
theorem RIn.own_ (_h:RIn H N l b sg s bk dy v1 v2 vl vo vg va vw vb vd) (k:Nat) (hk:k<9) {g:Nat} (hb:blkOf ((vecs b s bk dy v1 v2 vl vo vg va vw vb vd)[k]'hk).v=some g):RecOwn sg (vecs b s bk dy v1 v2 vl vo vg va vw vb vd) g:=.inr ⟨_,List.getElem_mem hk,hb⟩
theorem RIn.sub (h:RIn H N l b sg s bk dy v1 v2 vl vo vg va vw vb vd) (hs:Sub H H1):RIn H1 N l b sg s bk dy v1 v2 vl vo vg va vw vb vd:=⟨h.r.sub hs,h.book.mono hs,h.bt,h.bo,h.be⟩
theorem RegS.lt (h:RegS H N l b sg s O):∀g,O g→N≤g∧g<H.next:=by
 obtain ⟨v1,v2,vl,vo,vg,va,vw,vb,vd,h1,h2⟩:=h
 exact fun g hg=>h1.r.lt ((h2 g).1 hg)
theorem RegS.sub (h:RegS H N l b sg s O) (hs:Sub H H1):RegS H1 N l b sg s O∧Frm O O H H1:=by
 have hlt:=h.lt
 obtain ⟨v1,v2,vl,vo,vg,va,vw,vb,vd,h1,h2⟩:=h
 exact ⟨⟨_,_,_,_,_,_,_,_,_,h1.sub hs,h2⟩,Frm.of_sub (fun g hg=>(hlt g hg).2) hs⟩
theorem RIn.keep (h:RIn H N l b sg s bk dy v1 v2 vl vo vg va vw vb vd) (hn:H.next≤H1.next) (hs:∀k,k<N→H1.get k=H.get k):BookIn H1 l b:=
 ⟨Elems.below h.book.t h.bt hn hs,Elems.below h.book.owners h.bo hn hs,Elems.below h.book.events h.be hn hs⟩
theorem RIn.wr (h:RIn H N l b sg s bk dy v1 v2 vl vo vg va vw vb vd) (k:Nat) (hk:k<9) {ls:List (List Value)} (hn:H.next≤H1.next)
  (hx:OwnL H1 N ((vecs b s bk dy v1 v2 vl vo vg va vw vb vd)[k]'hk).v ((vecs b s bk dy v1 v2 vl vo vg va vw vb vd)[k]'hk).ty ((vecs b s bk dy v1 v2 vl vo vg va vw vb vd)[k]'hk).sz id ls)
  (hs:∀j,j<H.next→blkOf ((vecs b s bk dy v1 v2 vl vo vg va vw vb vd)[k]'hk).v≠some j→H1.get j=H.get j)
  (he:(vecs b s bk dy v1 v2 vl vo vg va vw vb vd).set k { (vecs b s bk dy v1 v2 vl vo vg va vw vb vd)[k]'hk with ls:=ls }=vecs b s1 bk1 dy1 v1 v2 vl vo vg va vw vb vd):RIn H1 N l b sg s1 bk1 dy1 v1 v2 vl vo vg va vw vb vd∧(∀g,RecOwn sg (vecs b s1 bk1 dy1 v1 v2 vl vo vg va vw vb vd) g↔RecOwn sg (vecs b s bk dy v1 v2 vl vo vg va vw vb vd) g):=by
 refine ⟨⟨by rw [←he]; exact h.r.wr hk hn hx hs,h.keep hn fun j hj=>hs j (by have:=h.sgl; omega) fun hc=>by have:=((h.r.at hk).blk_lt hc).1; omega,h.bt,h.bo,h.be⟩,fun g=>?_⟩
 rw [←he]
 exact RecOwn.wr hk
theorem RIn.upd (h:RIn H N l b sg s bk dy v1 v2 vl vo vg va vw vb vd) (k:Nat) (hk:k<9) {v:Value} {ls:List (List Value)} (hn:H.next≤H1.next)
  (hx:OwnL H1 N v ((vecs b s bk dy v1 v2 vl vo vg va vw vb vd)[k]'hk).ty ((vecs b s bk dy v1 v2 vl vo vg va vw vb vd)[k]'hk).sz id ls)
  (hs:∀j,j<H.next→blkOf ((vecs b s bk dy v1 v2 vl vo vg va vw vb vd)[k]'hk).v≠some j→H1.get j=H.get j)
  (hb:∀j,blkOf v=some j→blkOf ((vecs b s bk dy v1 v2 vl vo vg va vw vb vd)[k]'hk).v=some j∨H.next≤j)
  {w1 w2 wl wo wg wa ww wb wd:Value} (he:(vecs b s bk dy v1 v2 vl vo vg va vw vb vd).set k { (vecs b s bk dy v1 v2 vl vo vg va vw vb vd)[k]'hk with v:=v,ls:=ls }=vecs b s1 bk1 dy1 w1 w2 wl wo wg wa ww wb wd):
  RIn (H1.put sg (.arr { cells:=bookC l b++ [w1,w2,wl,wo,wg,wa,ww,wb,wd],ty:=175 })) N l b sg s1 bk1 dy1 w1 w2 wl wo wg wa ww wb wd∧(∀g,RecOwn sg (vecs b s1 bk1 dy1 w1 w2 wl wo wg wa ww wb wd) g→RecOwn sg (vecs b s bk dy v1 v2 vl vo vg va vw vb vd) g∨H.next≤g):=by
 have hr:=h.r.upd hk hn hx hs hb
 rw [he] at hr
 refine ⟨⟨hr,h.keep hn fun j hj=>?_,h.bt,h.bo,h.be⟩,fun g hg=>?_⟩
 ·rw [GH.get_put_ne _ _ (by have:=h.sgl; omega)]
  exact hs j (by have:=h.sgl; omega) fun hc=>by have:=((h.r.at hk).blk_lt hc).1; omega
 ·rw [←he] at hg
  exact RecOwn.upd hk hb hg
theorem RegS.of {w1 w2 wl wo wg wa ww wb wd:Value} (_h:RIn H N l b sg s bk dy v1 v2 vl vo vg va vw vb vd) (hO:∀g,O g↔RecOwn sg (vecs b s bk dy v1 v2 vl vo vg va vw vb vd) g) (h1:RIn H1 N l b sg s1 (s1.fell.map Prod.fst) (s1.fell.map Prod.snd) w1 w2 wl wo wg wa ww wb wd)
  (hn:H.next≤H1.next) (hs:∀g,g<H.next→¬O g→H1.get g=H.get g) (hown:∀g,RecOwn sg (vecs b s1 (s1.fell.map Prod.fst) (s1.fell.map Prod.snd) w1 w2 wl wo wg wa ww wb wd) g→RecOwn sg (vecs b s bk dy v1 v2 vl vo vg va vw vb vd) g∨H.next≤g):∃O',Frm O O' H H1∧RegS H1 N l b sg s1 O':=
 ⟨_,⟨hn,hs,fun g hg=>(hown g hg).imp (hO g).2 id,fun _g hg=>(h1.r.lt hg).2⟩,_,_,_,_,_,_,_,_,_,h1,fun _g=>Iff.rfl⟩
end
section
variable {H:GH} {N:Nat} {l:BLoc} {b:Book} {sg:Nat} {s:Stand} {bk dy:List Int} {O:Nat→Prop} {v1 v2 vl vo vg va vw vb vd:Value}
theorem rWater_con (h:RIn H N l b sg s bk dy v1 v2 vl vo vg va vw vb vd) {sys u:Int} (hs:isSystemI sys=true) (hu:0≤u∧u≤360):C 114 [.pointer (some (ga sg 0 0)),vi sys,vi u] H (vi (waterI b.tbl sys u)) H:=by
 rcases l with ⟨⟨⟨ra,rf⟩⟩,⟨oa,of'⟩,⟨va',vf'⟩⟩
 refine con_wp tok mix fok114 (F:=g114) (c:=_) rfl (n:=23) rfl (rs:= [.tmp 6]) rfl (anch_closed rfl) ?_
 have hg:=h.g
 obtain ⟨u,rfl⟩:=Int.eq_ofNat_of_zero_le hu.1
 simp only [isSystemI,decide_eq_true_eq] at hs
 obtain ⟨a1,f1,rfl,hE1⟩:=h.w1.elems (fun _=>rfl)
 obtain ⟨a2,f2,rfl,hE2⟩:=h.w2.elems (fun _=>rfl)
 simp only [watersL_len] at hg
 obtain ⟨a1,rfl,_,hr1⟩:=hE1.at u (by rw [watersL_len]; omega)
 obtain ⟨a2,rfl,_,hr2⟩:=hE2.at u (by rw [watersL_len]; omega)
 rw [watersL_at] at hr1 hr2
 simp
 by_cases h1:sys=1
 ·subst h1
  simp (disch:=omega) [hg,hr1]
 ·have h2:sys=2:=by omega
  subst h2
  simp (disch:=omega) [hg,hr2]
theorem used_take (b:Book) (s:Stand) {i:Nat} (h:i<s.grants.length):((s.grants.take (i+1)).map (useG b)).sum=((s.grants.take i).map (useG b)).sum+useG b s.grants[i]:=by
 rw [List.take_succ_eq_append_getElem h,List.map_append,List.sum_append]; simp
theorem rUsed_con (h:RIn H N l b sg s bk dy v1 v2 vl vo vg va vw vb vd) (hW:Wg b s) (hlen:s.grants.length≤1000):C 144 [.pointer (some (ga sg 0 0))] H (vi (usedI b s)) H:=by
 rcases l with ⟨⟨⟨ra,rf⟩⟩,⟨oa,of'⟩,⟨va',vf'⟩⟩
 refine con_wp tok mix fok144 (F:=g144) (c:=_) rfl (n:=44) rfl (rs:= [.tmp 2]) rfl (anch_closed rfl) ?_
 have hg:=h.g
 have hR:=h
 obtain ⟨ag,fg,rfl,hE⟩:=h.grants.elems (fun _=>rfl)
 simp
 refine wp_up tok mix (by kernel_rfl) s.grants.length (fun i ρ m H1=>ρ 0=.pointer (some (ga sg 0 0))∧ρ 3=vi ((s.grants.take i).map (useG b)).sum∧ρ 4=vi i∧m= []∧H1=H) (i0:=0) (by omega) (by simp) ?_
 rintro i ρ m H1 hi ⟨e0,e3,e4,rfl,rfl⟩
 simp (disch:=omega) [e0,e4,hg]
 refine wpB_dec (fun hlt=>?_) (fun hge=>?_)
 ·obtain ⟨a,rfl,hal,hrd⟩:=hE.at i hlt
  have hm:=hW.gr _ (List.getElem_mem hlt)
  have hb1:=used_bd b (s.grants.take i)
  have hb2:=useG_bd b s.grants[i]
  have hl:(s.grants.take i).length=i:=by simp; omega
  have hut:=used_take b s hlt
  simp (disch:=omega) [e0,e4,hg,hlt,hrd]
  refine wpB_bool (fun h5=>?_) (fun h5=>?_)<;>(try simp only [Bool.not_eq_true',Bool.not_eq_false',decide_eq_true_eq,decide_eq_false_iff_not] at h5)
  ·have hu:useG b s.grants[i]=waterI b.tbl s.grants[i].system s.grants[i].units:=by unfold useG; rw [if_neg h5]
   simp (disch:=omega) [e0,e3,e4,hg,hrd]
   refine (rWater_con hR hm.1 ⟨by omega,hm.2.2⟩).go ?_
   rw [←hu]
   rw [hl] at hb1
   simp (disch:=omega) [e0,e4,wrap64]
   simp only [List.map_take] at hb1 hut ⊢
   rw [wrap64 _ (by omega) (by omega)]
   exact hut.symm
  ·have hu:useG b s.grants[i]=0:=by unfold useG; rw [if_pos (by omega)]
   simp (disch:=omega) [e0,e3,e4,wrap64]
   simp only [List.map_take] at hut ⊢
   rw [hut,hu]; simp
 ·have:i=s.grants.length:=by omega
  subst this
  rw [List.take_length] at e3
  simp [e3,usedI]
theorem rFree_con (h:RIn H N l b sg s bk dy v1 v2 vl vo vg va vw vb vd) (hW:Wg b s) (hlen:s.grants.length≤1000) (hs:0≤b.supply∧b.supply≤10000):C 115 [.pointer (some (ga sg 0 0))] H (vi (freeI b s)) H:=by
 rcases l with ⟨⟨⟨ra,rf⟩⟩,⟨oa,of'⟩,⟨va',vf'⟩⟩
 refine con_wp tok mix fok115 (F:=g115) (c:=_) rfl (n:=11) rfl (rs:= [.tmp 2]) rfl (anch_closed rfl) ?_
 have hg:=h.g
 have hb:=used_bd b s.grants
 simp (disch:=omega) [hg]
 refine (rUsed_con h hW hlen).go ?_
 rw [freeI_eq hs hlen]
 unfold usedI
 simp (disch:=omega) [hg,wrap64]
end
end Go.Gm.Tryz
end
section
namespace Go.Gm.Tryz
open Go.Proofs
section
variable {H:GH} {N:Nat} {l:BLoc} {b:Book} {sg:Nat} {s:Stand} {O:Nat→Prop} {v1 v2 vl vo vg va vw vb vd:Value}
theorem rgrant_con (h:RegS H N l b sg s O) (hlen:s.grants.length≤1000) (hl2:s.last.length≤1000) (p e sy u:Int):
  GCall Tryz.prog 116 [.pointer (some (ga sg 0 0)),vi p,vi e,vi sy,vi u] H fun x H'=>x=.ret (.tuple #[])∧∃O',Frm O O' H H'∧RegS H' N l b sg (addG s p e sy u) O':=by
 rcases l with ⟨⟨⟨ra,rf⟩⟩,⟨oa,of'⟩,⟨va',vf'⟩⟩
 obtain ⟨v1,v2,vl,vo,vg,va,vw,vb,vd,h,hO⟩:=h
 refine gcall_wp tok mix fok116 (F:=g116) (c:=_) rfl (n:=33) rfl (rs:= []) rfl ?_
 have hg:=h.g
 have hsl:=h.sgl.2
 have hsN:=h.sgl.1
 have hlg:=h.grants.len
 have hla:=h.last.len
 obtain ⟨vg',H1,happ,ho1,hn1,hf1,hb1⟩:=(h.grants.push (.arr { cells:= [vi 1,vi p,vi e,vi sy,vi u],ty:=45 })).app (by simp) (by simp) (by decide) ⟨1,p,e,sy,u⟩ (by simp; omega)
 simp only [encSt] at happ
 have c8:40*(1+s.grants.length)≤1000000:=by omega
 have c9:1+s.grants.length≤1000000:=by omega
 have hbg:blkOf vg≠some sg:=h.ne 4 (by decide)
 have hg1:H1.get sg=some (.arr { cells:=bookC ⟨⟨⟨ra,rf⟩⟩,⟨oa,of'⟩,⟨va',vf'⟩⟩ b++ [v1,v2,vl,vo,vg,va,vw,vb,vd],ty:=175 }):=by
  rw [hf1 sg (by simp; omega) hbg,GH.get_push_lt _ _ hsl]; exact hg
 simp only [GH.next_push] at hn1
 obtain ⟨ag,fg,rfl⟩:=ho1.slice
 simp (disch:=omega) [hg,hlg,c8,c9,happ,hg1]
 obtain ⟨hS1,hW1⟩:=h.upd 4 (by decide) (H1:=H1) (s1:= { s with grants:=s.grants++ [⟨1,p,e,sy,u⟩] }) (by omega) (ownL_id.2 ho1) (fun k hk hne=>by rw [hf1 k (by simp; omega) hne,GH.get_push_lt _ _ hk]) (fun k hk=>(hb1 k hk).imp id fun h=>by simp at h; omega) rfl
 simp only [bookC,List.cons_append,List.nil_append,List.length_append,List.length_cons,List.length_nil,Nat.zero_add] at hS1 hW1 hb1
 generalize hH2:H1.put sg _=H2 at hS1 ⊢
 have hf2:∀k,k<H.next→¬O k→H2.get k=H.get k:=by
  intro k hk ho
  rw [hO] at ho
  subst hH2
  rw [GH.get_put_ne _ _ (fun hc=>ho (.inl hc)),hf1 k (by simp; omega) (fun hc=>ho (h.own_ 4 (by decide) (hc))),GH.get_push_lt _ _ hk]
 have hn2:H.next+1≤H2.next:=by subst hH2; exact hn1
 clear hH2 hf1 happ hg1
 have hg2:=hS1.g
 have hsl2:=hS1.sgl.2
 obtain ⟨va1,H3,happ3,ho3,hn3,hf3,hb3⟩:=(hS1.last.push (.arr { cells:= [vi 0],ty:=3 })).app (by simp) (by simp) (by decide) 0 (by simp; omega)
 simp only [encI] at happ3
 have d8:8*(1+s.last.length)≤1000000:=by omega
 have d9:1+s.last.length≤1000000:=by omega
 have hg3:=(hf3 sg (by simp; omega) (hS1.ne 5 (by decide))).trans ((GH.get_push_lt _ _ hsl2).trans hg2)
 simp only [GH.next_push] at hn3
 obtain ⟨aa,fa',rfl⟩:=ho3.slice
 simp (disch:=omega) [hla,d8,d9,happ3,hg3]
 obtain ⟨hS2,hW2⟩:=hS1.upd 5 (by decide) (H1:=H3) (s1:=addG s p e sy u) (by omega) (ownL_id.2 ho3) (fun k hk hne=>by rw [hf3 k (by simp; omega) hne,GH.get_push_lt _ _ hk]) (fun k hk=>(hb3 k hk).imp id fun h=>by simp at h; omega) rfl
 have hfin:=RegS.of h hO hS2 (by simp; omega) (fun k hk ho=>by
  have ho':=ho
  rw [hO] at ho'
  rw [GH.get_put_ne _ _ (fun hc=>ho' (.inl hc)),hf3 k (by simp; omega) (fun hc=>ho' (h.own_ 5 (by decide) (hc))),GH.get_push_lt _ _ (by omega),hf2 k hk ho]) (fun k hk=>(hW2 k hk).elim (hW1 k) fun h=>.inr (by omega))
 simpa [addG] using hfin
theorem rserve_con (h:RegS H N l b sg s O) (hw:Wf b s) (hG:Wg b s) (hsu:0≤b.supply∧b.supply≤10000):
  GCall Tryz.prog 119 [.pointer (some (ga sg 0 0))] H fun x H'=>x=.ret (.tuple #[])∧∃O',Frm O O' H H'∧RegS H' N l b sg (serve b s) O':=by
 rcases l with ⟨⟨⟨ra,rf⟩⟩,⟨oa,of'⟩,⟨va',vf'⟩⟩
 refine gcall_wp tok mix fok119 (F:=g119) (c:=_) rfl (n:=48) rfl (rs:= []) rfl ?_
 simp
 refine wp_loop tok mix (by kernel_rfl) (fun k ρ m H1=>∃s1 O1,k=s1.waits.length∧ρ 0=.pointer (some (ga sg 0 0))∧m= []∧Frm O O1 H H1∧RegS H1 N ⟨⟨⟨ra,rf⟩⟩,⟨oa,of'⟩,⟨va',vf'⟩⟩ b sg s1 O1∧serveS b k s1=serve b s∧Wf b s1∧Wg b s1) ⟨s,O,rfl,by simp,rfl,Frm.refl (fun g hg=>(h.lt g hg).2),h,rfl,hw,hG⟩ ?_
 rintro k ρ m H1 ⟨s1,O1,rfl,e0,rfl,hf,h1,hsv,hw1,hG1⟩
 have h1':=h1
 obtain ⟨v1,v2,vl,vo,vg,va,vw,vb,vd,h1,hO⟩:=h1
 have hg:=h1.g
 have hsl:=h1.sgl.2
 obtain ⟨aw,fw,rfl,hE⟩:=h1.waits.elems (fun _=>rfl)
 simp (disch:=omega) [e0,hg]
 cases hws:s1.waits with
 |nil=>
  simp
  rw [hws] at hsv
  exact ⟨O1,hf,by rw [←hsv]; exact h1'⟩
 |cons w ws=>
  have hpos:(0:Int)<(ws.length:Int)+1:=by omega
  obtain ⟨aw,rfl,hwl,hwr⟩:=hE.at 0 (by rw [hws]; simp)
  have hw0:s1.waits[0]'(by rw [hws]; simp)=w:=by simp [hws]
  rw [hw0] at hwr
  obtain ⟨hwn0,hwn1⟩:=hw1.w w (by rw [hws]; simp)
  have hwu:=hG1.wa w (by rw [hws]; simp)
  obtain ⟨av,rfl,hvl,hvr⟩:=h1.book.events.at w.toNat (by omega)
  have hev:evAt b w=b.events[w.toNat]:=getD_at (by omega)
  have hlw:s1.waits.length=ws.length+1:=by rw [hws]; rfl
  simp (disch:=omega) [hlw,e0,hg,hwr,hvr]
  generalize hH2:GH.put _ _ _=H2
  have hs2:Sub H1 H2:=by subst hH2; exact (Sub.push (.refl H1) _).put (Nat.le_refl _) _
  have hb2:H2.get H1.next=some (.arr { cells:=encEv (evAt b w),ty:=103 }):=by subst hH2; rw [hev]; simp
  have hl2:H1.next<H2.next:=by subst hH2; simp
  clear hH2
  have h2:=h1.sub hs2
  rw [←hev]
  have hlen100:=hw1.len
  refine (rWater_con h2 hwu.1 ⟨by omega,hwu.2.2⟩).go ?_
  simp (disch:=omega) [e0]
  refine (rFree_con h2 hG1 (by omega) hsu).go ?_
  obtain ⟨h4S,hf4⟩:=h1'.sub hs2
  simp
  refine wpB_bool (fun h5=>?_) (fun h5=>?_)<;>(try simp only [decide_eq_true_eq,decide_eq_false_iff_not] at h5)
  ·simp
   refine ⟨O1,hf.trans hf4,?_⟩
   have:serve b s=s1:=by rw [←hsv,hlw]; simp only [serveS,hws]; rw [if_pos h5]
   rw [this]
   exact h4S
  ·simp (disch:=omega) [e0,hb2]
   refine (rgrant_con h4S (by omega) (by have:=hw1.last; omega) _ _ _ _).mono ?_
   rintro x H5 ⟨rfl,O5,hf5,h5'⟩
   obtain ⟨u1,u2,ul,uo,ug,ua,uw,ub,ud,h6,hO5⟩:=h5'
   have hg6:=h6.g
   have hw6:=h6.waits
   have hsl6:=h6.sgl.2
   have hsN6:=h6.sgl.1
   obtain ⟨a6,f6,rfl⟩:=hw6.slice
   have hlw6:(addG s1 (evAt b w).person (-1) (evAt b w).system (evAt b w).units).waits=w::ws:=hws
   rw [hlw6] at hw6
   cases a6 with
   |none=>
    obtain ⟨_,_,h7,h8⟩:=hw6.elems (fun _=>rfl)
    cases h7
    have:=h8.nil rfl
    cases this
   |some a6=>
   obtain ⟨hfl,_,ht6⟩:=hw6.tail (fun _=>rfl)
   subst hfl
   simp only [List.length_cons,Nat.add_sub_cancel] at ht6
   have hrs:=(ht6.elems' (fun _=>rfl)).readS
   obtain ⟨v7,H7,happ7,ho7,hn7,hf7,hb7⟩:=(OwnL.nil (H:=H5) (N:=N) (ty:=3) (sz:=1) (enc:=encI)).apps (fun _=>rfl) (fun _=>rfl) (by decide) ws (by omega)
   simp only [List.nil_append] at ho7
   have hg7:H7.get sg=_:=(hf7 sg hsl6 (by simp)).trans hg6
   have hwl100:ws.length≤100:=by have:=hw1.len; omega
   have c1:(1:Int)≤(ws.length:Int)+1:=by omega
   have d8:8*ws.length≤1000000:=by omega
   have d9:ws.length≤1000000:=by omega
   obtain ⟨a7,f7,rfl⟩:=ho7.slice
   simp (disch:=omega) [e0,hg6,hlw6,c1,hrs,happ7,hg7,d8,d9]
   obtain ⟨hS6,hW6⟩:=h6.upd 6 (by decide) (H1:=H7) (s1:= { addG s1 (evAt b w).person (-1) (evAt b w).system (evAt b w).units with waits:=ws }) hn7 (ownL_id.2 ho7) (fun k hk _=>hf7 k hk (by simp)) (fun k hk=>(hb7 k hk).imp (fun h=>by simp at h) id) rfl
   simp only [bookC,List.cons_append,List.nil_append] at hS6
   have hfin:=RegS.of h6 hO5 hS6 (by simpa using hn7) (fun k hk ho=>by
    rw [hO5] at ho
    rw [GH.get_put_ne _ _ (fun hc=>ho (.inl hc)),hf7 k hk (by simp)]) hW6
   obtain ⟨O7,hf7',h7⟩:=hfin
   have hlt:freeI b s1≥waterI b.tbl (evAt b w).system (evAt b w).units:=by omega
   refine ⟨ws.length,by omega,_,rfl,O7,((hf.trans hf4).trans hf5).trans hf7',h7,?_,?_,Wg.serve1 s1 w ws hG1 hws⟩
   ·rw [←hsv,hlw]
    simp only [serveS,hws]
    rw [if_neg h5]
   ·refine ⟨fun n hn=>hw1.w n (by rw [hws]; exact List.mem_cons_of_mem _ hn),?_,?_,hw1.own,hw1.ev,?_⟩
    ·have:=hw1.len
     simp [addG]; omega
    ·have:=hw1.last
     simp [addG]; omega
    ·have:=hw1.fe
     simpa [addG] using this
end
end Go.Gm.Tryz
end
section
namespace Go.Gm.Tryz
open Go.Proofs
section
variable {H:GH} {N:Nat} {l:BLoc} {b:Book} {sg:Nat} {s:Stand} {O:Nat→Prop}
theorem rend_con (h:RegS H N l b sg s O) (hw:Wf b s) (hG:Wg b s) (hsu:0≤b.supply∧b.supply≤10000) (g:Nat) (hgl:g<s.grants.length) (hge3:(s.grants[g]).is≠3) (day:Int):
  GCall Tryz.prog 111 [.pointer (some (ga sg 0 0)),vi g,vi day] H fun x H'=>x=.ret (.tuple #[])∧∃O',Frm O O' H H'∧RegS H' N l b sg (endS b s g day) O':=by
 rcases l with ⟨⟨⟨ra,rf⟩⟩,⟨oa,of'⟩,⟨va',vf'⟩⟩
 obtain ⟨v1,v2,vl,vo,vg,va,vw,vb,vd,h,hO⟩:=h
 refine gcall_wp tok mix fok111 (F:=g111) (c:=_) rfl (n:=42) rfl (rs:= []) rfl ?_
 have hg:=h.g
 have hsl:=h.sgl.2
 have hsN:=h.sgl.1
 have hlb:=h.back.len
 have hld:=h.days.len
 rw [List.length_map] at hlb hld
 have hfe:s.fell.length≤1000:=by have:=hw.fe; have:=hw.len; have:=List.countP_le_length (p:=fun x:GSt=>decide (x.is=3)) (l:=s.grants); omega
 obtain ⟨ag,fg,rfl,hE⟩:=h.grants.elems (fun _=>rfl)
 obtain ⟨ag,rfl,hgb,_⟩:=hE.at g hgl
 have hge:s.grants.getD g default=s.grants[g]:=getD_at hgl
 have hbk:=h.grants.blk_some
 have hbgs:ag.block≠sg:=fun hc=>h.ne 4 (by decide) (hbk.trans (congrArg some hc))
 obtain ⟨H1,hw1,ho1,hn1,hs1⟩:=h.grants.wr (fun _=>rfl) (i:=g) (k:=0) hgl (c:=vi 3) (new:= []) (by simp) (y:= { s.grants[g] with is:=3 }) (by simp [splice])
 obtain ⟨H2,hw2,ho2,hn2,hs2⟩:=ho1.wr (fun _=>rfl) (i:=g) (k:=1) (by simpa using hgl) (c:=vi (-1)) (new:= []) (by simp) (y:= { s.grants[g] with is:=3,person:= -1 }) (by simp [splice])
 have hset:(s.grants.set g { s.grants[g] with is:=3 }).set g { s.grants[g] with is:=3,person:= -1 }=s.grants.set g { s.grants[g] with is:=3,person:= -1 }:=by simp
 rw [hset] at ho2
 have hg1:=(hs1 sg (Ne.symm hbgs)).trans hg
 have hg2:=(hs2 sg (Ne.symm hbgs)).trans hg1
 have hlt:(g:Int)<s.grants.length:=by omega
 obtain ⟨hS1,hW1⟩:=h.wr 4 (by decide) (H1:=H2) (s1:= { s with grants:=s.grants.set g { s.grants[g] with is:=3,person:= -1 } }) (by omega) (ownL_id.2 ho2) (fun k hk hne=>by
  have hka:k≠ag.block:=fun hc=>hne (hbk.trans (congrArg some hc.symm))
  rw [hs2 k hka,hs1 k hka]) rfl
 obtain ⟨vb',H3,happ,ho3,hn3,hf3,hb3⟩:=(hS1.back.push (.arr { cells:= [vi g],ty:=3 })).app (by simp) (by simp) (by decide) (g:Int) (by simp; omega)
 simp only [encI] at happ
 have d8:8*(1+s.fell.length)≤1000000:=by omega
 have d9:1+s.fell.length≤1000000:=by omega
 have hsl2:=hS1.sgl.2
 simp only [GH.next_push] at hn3
 have hg3:=(hf3 sg (by simp; omega) (hS1.ne 7 (by decide))).trans ((GH.get_push_lt _ _ hsl2).trans hS1.g)
 have hl3:=ho3.len
 obtain ⟨af,ff,rfl⟩:=ho3.slice
 obtain ⟨hS2,hW2⟩:=hS1.upd 7 (by decide) (H1:=H3) (s1:= { s with grants:=s.grants.set g { s.grants[g] with is:=3,person:= -1 } }) (bk1:=s.fell.map Prod.fst++ [(g:Int)]) (dy1:=s.fell.map Prod.snd) (by omega) (ownL_id.2 ho3) (fun k hk hne=>by rw [hf3 k (by simp; omega) hne,GH.get_push_lt _ _ hk]) (fun k hk=>(hb3 k hk).imp id fun h=>by simp at h; omega) rfl
 simp only [bookC,List.cons_append,List.nil_append,List.length_append,List.length_map,List.length_cons,List.length_nil,Nat.zero_add] at hS2 hW2 hb3
 generalize hH4:H3.put sg _=H4 at hS2
 have hf4:∀k,k<H.next→¬O k→H4.get k=H.get k:=by
  intro k hk ho
  rw [hO] at ho
  have hka:k≠ag.block:=fun hc=>ho (h.own_ 4 (by decide) (hbk.trans (congrArg some hc.symm)))
  subst hH4
  rw [GH.get_put_ne _ _ (fun hc=>ho (.inl hc)),hf3 k (by simp; omega) (fun hc=>ho (h.own_ 7 (by decide) (hc))),GH.get_push_lt _ _ (by omega),hs2 k hka,hs1 k hka]
 have hn4:H2.next+1≤H4.next:=by subst hH4; exact hn3
 have hsl4:=hS2.sgl.2
 have hsN4:=hS2.sgl.1
 obtain ⟨vd',H5,happ5,ho5,hn5,hf5,hb5⟩:=(hS2.days.push (.arr { cells:= [vi day],ty:=3 })).app (by simp) (by simp) (by decide) day (by simp; omega)
 simp only [encI] at happ5
 simp only [GH.next_push] at hn5
 have hg5:=(hf5 sg (by simp; omega) (hS2.ne 8 (by decide))).trans ((GH.get_push_lt _ _ hsl4).trans hS2.g)
 have hg4:=hS2.g
 obtain ⟨ad,fd,rfl⟩:=ho5.slice
 simp only [bookC,List.cons_append,List.nil_append] at hg3 hg4 hg5
 simp (disch:=omega) [hg,hw1,hg1,hw2,hg2,hlb,hld,d8,d9,happ,hg3,hH4,happ5,hg4,hg5]
 have he:({ s with grants:=s.grants.set g { s.grants[g] with is:=3,person:= -1 },fell:=s.fell++ [((g:Int),day)] }:Stand)=endG s g day:=by unfold endG; rw [hge]
 obtain ⟨hS5,hW5⟩:=hS2.upd 8 (by decide) (H1:=H5) (s1:= { s with grants:=s.grants.set g { s.grants[g] with is:=3,person:= -1 },fell:=s.fell++ [((g:Int),day)] }) (bk1:=s.fell.map Prod.fst++ [(g:Int)]) (dy1:=s.fell.map Prod.snd++ [day]) (by omega) (ownL_id.2 ho5) (fun k hk hne=>by rw [hf5 k (by simp; omega) hne,GH.get_push_lt _ _ hk]) (fun k hk=>(hb5 k hk).imp id fun h=>by simp at h; omega) rfl
 have eb:s.fell.map Prod.fst++ [(g:Int)]=(s.fell++ [((g:Int),day)]).map Prod.fst:=by simp
 have ed:s.fell.map Prod.snd++ [day]=(s.fell++ [((g:Int),day)]).map Prod.snd:=by simp
 simp only [bookC,List.cons_append,List.nil_append,List.length_append,List.length_map,List.length_cons,List.length_nil,Nat.zero_add] at hS5 hW5
 rw [eb,ed] at hS5
 have hn5':H.next≤H5.next:=by omega
 have hfin:=RegS.of h hO hS5 (by simpa using hn5') (fun k hk ho=>by
  have ho':=ho
  rw [hO] at ho'
  rw [GH.get_put_ne _ _ (fun hc=>ho' (.inl hc)),hf5 k (by simp; omega) (fun hc=>ho' (h.own_ 8 (by decide) hc)),GH.get_push_lt _ _ (by omega),hf4 k hk ho]) (fun k hk=>(hW5 k (by rw [eb,ed]; exact hk)).elim (fun h=>(hW2 k h).elim (fun h=>.inl ((hW1 k).1 h)) fun h=>.inr (by omega)) fun h=>.inr (by omega))
 obtain ⟨O4,hf4',h4⟩:=hfin
 rw [he] at h4
 refine (rserve_con h4 (endG_wf hw hgl hge3 day) (hG.endG hgl day) hsu).mono ?_
 rintro x H6 ⟨rfl,O6,hf6,h6⟩
 simp
 exact ⟨O6,hf4'.trans hf6,h6⟩
end
end Go.Gm.Tryz
end
section
namespace Go.Gm.Tryz
open Go.Proofs
section
variable {H : GH} {N : Nat} {l : BLoc} {b : Book} {sg : Nat} {s : Stand} {O : Nat → Prop} {bk dy : List Int} {v1 v2 vl vo vg va vw vb vd : Value}
theorem rowned_con (h : RIn H N l b sg s bk dy v1 v2 vl vo vg va vw vb vd) {n : Int} (hn : 0 ≤ n) : C 113 [.pointer (some (ga sg 0 0)), vi n] H (.bool (existsB s n)) H := by
  rcases l with ⟨⟨⟨ra, rf⟩⟩, ⟨oa, of'⟩, ⟨va', vf'⟩⟩
  refine con_wp tok mix fok113 (F := g113) (c := _) rfl (n := 22) rfl (rs := [.tmp 4]) rfl (anch_closed rfl) ?_
  have hg := h.g
  obtain ⟨ag, fg, rfl, hE⟩ := h.owners.elems (fun _ => rfl)
  simp (disch := omega) [hg]
  refine contG_bool (fun h5 => ?_) (fun h5 => ?_) <;> (try simp only [decide_eq_true_eq, decide_eq_false_iff_not] at h5)
  · obtain ⟨a, rfl, hal, hrd⟩ := hE.at n.toNat (by omega)
    have e : s.owners[n.toNat]?.getD 0 = s.owners[n.toNat] := by rw [List.getElem?_eq_getElem (by omega)]; rfl
    simp (disch := omega) [hg, h5, hrd, existsB]
  · simp [h5, existsB]
theorem rfits_con (h : RIn H N l b sg s bk dy v1 v2 vl vo vg va vw vb vd) (hw : Wf b s) (hG : Wg b s) (hsu : 0 ≤ b.supply ∧ b.supply ≤ 10000) (e : Ev) (hu : isSystemI e.system = true ∧ 1 ≤ e.units ∧ e.units ≤ 360) : C 112 [.pointer (some (ga sg 0 0)), evV e] H (.bool (fitsB b s e)) H := by
  rcases l with ⟨⟨⟨ra, rf⟩⟩, ⟨oa, of'⟩, ⟨va', vf'⟩⟩
  refine con_wp tok mix fok112 (F := g112) (c := _) rfl (n := 28) rfl (rs := [.tmp 4]) rfl (anch_closed rfl) ?_
  simp
  have hlen := hw.len
  have h1 := h.sub (Sub.push (.refl H) (.arr { cells := [vi e.kind, vi e.day, vi e.person, vi e.other, vi e.estate, vi e.grant, vi e.system, vi e.units], ty := 103 }))
  refine (rWater_con h1 hu.1 ⟨by omega, hu.2.2⟩).go ?_
  simp
  refine contG_bool (fun h5 => ?_) (fun h5 => ?_) <;> (try simp only [decide_eq_true_eq, decide_eq_false_iff_not] at h5)
  · simp [h5]
    refine (rFree_con h1 hG (by omega) hsu).go ?_
    simp
    refine contG_bool (fun h6 => ?_) (fun h6 => ?_) <;> (try simp only [decide_eq_true_eq, decide_eq_false_iff_not] at h6)
    · have hg3 := h1.g
      have hsl := h1.sgl.2
      obtain ⟨aw, fw, rfl, _⟩ := h1.waits.elems (fun _ => rfl)
      simp [h6, hg3]
      simp [fitsB, h5, h6]
    · simp [h6]
      simp [fitsB, h6]
  · simp [h5]
    simp [fitsB, h5]
theorem rown_con (h : RIn H N l b sg s bk dy v1 v2 vl vo vg va vw vb vd) (hO : ∀ g, O g ↔ RecOwn sg (vecs b s bk dy v1 v2 vl vo vg va vw vb vd) g) (hlen : s.grants.length ≤ 1000) (n : Nat) (hn : n < s.owners.length) (p : Int) :
    GCall Tryz.prog 118 [.pointer (some (ga sg 0 0)), vi n, vi p] H fun x H' => x = .ret (.tuple #[]) ∧ Frm O O H H' ∧ RIn H' N l b sg (ownS s n p) bk dy v1 v2 vl vo vg va vw vb vd ∧ (∀ g, O g ↔ RecOwn sg (vecs b (ownS s n p) bk dy v1 v2 vl vo vg va vw vb vd) g) := by
  rcases l with ⟨⟨⟨ra, rf⟩⟩, ⟨oa, of'⟩, ⟨va', vf'⟩⟩
  refine gcall_wp tok mix fok118 (F := g118) (c := _) rfl (n := 41) rfl (rs := []) rfl ?_
  have hg := h.g
  have hsl := h.sgl.2
  obtain ⟨ao, fo, rfl, hE⟩ := h.owners.elems (fun _ => rfl)
  obtain ⟨ao, rfl, hob, _⟩ := hE.at n hn
  obtain ⟨ag, fg, rfl, hEg⟩ := h.grants.elems (fun _ => rfl)
  have hbk := h.owners.blk_some
  obtain ⟨H1, hw1, ho1, hn1, hs1⟩ := h.owners.wr (fun _ => rfl) (i := n) (k := 0) hn (c := vi p) (new := []) (by simp) (y := p) (by simp [splice])
  have hOo : O ao.block := (hO _).2 (h.own_ 3 (by decide) (hbk))
  have hbgs : ao.block ≠ sg := fun hc => h.ne 3 (by decide) (hbk.trans (congrArg some hc))
  have hg1 := (hs1 sg (Ne.symm hbgs)).trans hg
  have hlt : (n : Int) < s.owners.length := by omega
  have hOlt : ∀ g, O g → g < H.next := fun g hg => (h.r.lt ((hO g).1 hg)).2
  simp (disch := omega) [hg, hw1]
  obtain ⟨hS1, hW1⟩ := h.wr 3 (by decide) (H1 := H1) (s1 := { s with owners := s.owners.set n p }) (bk1 := bk) (dy1 := dy) (by omega) (ownL_id.2 ho1) (fun k hk hne => hs1 k fun hc => hne (hbk.trans (congrArg some hc.symm))) rfl
  refine wp_up tok mix (by kernel_rfl) s.grants.length (fun i ρ m H2 => ρ 0 = .pointer (some (ga sg 0 0)) ∧ ρ 1 = vi n ∧ ρ 2 = vi p ∧ ρ 6 = vi i ∧ m = [] ∧ Frm O O H H2 ∧
    RIn H2 N ⟨⟨⟨ra, rf⟩⟩, ⟨oa, of'⟩, ⟨va', vf'⟩⟩ b sg { s with owners := s.owners.set n p, grants := upto (fun x => if x.estate = (n : Int) then { x with person := p } else x) s.grants i } bk dy v1 v2 vl (.slice (some ao) s.owners.length fo) (.slice ag s.grants.length fg) va vw vb vd ∧
    (∀ g, O g ↔ RecOwn sg (vecs b { s with owners := s.owners.set n p, grants := upto (fun x => if x.estate = (n : Int) then { x with person := p } else x) s.grants i } bk dy v1 v2 vl (.slice (some ao) s.owners.length fo) (.slice ag s.grants.length fg) va vw vb vd) g)) (i0 := 0) (by omega)
    ⟨by simp, by simp, by simp, by simp, rfl, Frm.wr hOlt hOo hn1 hs1, by simpa [upto_zero] using hS1, fun g => by rw [hO g]; simpa [upto_zero] using (hW1 g).symm⟩ ?_
  rintro i ρ m H2 hi ⟨e0, e1, e2, e6, rfl, hf2, h2, hO2⟩
  have hg2 := h2.g
  simp (disch := omega) [e0, e6, hg2]
  refine wpB_dec (fun hlt2 => ?_) (fun hge => ?_)
  · obtain ⟨a2, rfl, hab, hrd⟩ := (h2.grants.elems' (fun _ => rfl)).at i (by rw [upto_len]; exact hlt2)
    rw [upto_at _ hlt2] at hrd
    have hltI : (i : Int) < s.grants.length := by omega
    have hbk2 := h2.grants.blk_some
    have hOg : O a2.block := (hO2 _).2 (h2.own_ 4 (by decide) hbk2)
    have hsu := upto_succ (fun x : GSt => if x.estate = (n : Int) then { x with person := p } else x) hlt2
    simp (disch := omega) [e0, e1, e6, hg2, hrd]
    refine wpB_bool (fun h5 => ?_) (fun h5 => ?_) <;> (try simp only [decide_eq_true_eq, decide_eq_false_iff_not] at h5)
    · obtain ⟨H4, hw4, ho4, hn4, hs4⟩ := h2.grants.wr (fun _ => rfl) (i := i) (k := 1) (by rw [upto_len]; exact hlt2) (c := vi p) (new := []) (by simp) (y := { s.grants[i] with person := p }) (by rw [upto_at _ hlt2]; simp [splice])
      simp (disch := omega) [e0, e2, e6, hg2, hw4]
      obtain ⟨h4, hW4⟩ := h2.wr 4 (by decide) (H1 := H4) (s1 := { s with owners := s.owners.set n p, grants := upto (fun x => if x.estate = (n : Int) then { x with person := p } else x) s.grants (i + 1) }) (bk1 := bk) (dy1 := dy) (by omega) (ownL_id.2 ho4) (fun k hk hne => hs4 k fun hc => hne (hbk2.trans (congrArg some hc.symm))) (by rw [hsu, if_pos h5]; simp [vecs])
      simp (disch := omega) [e1, hlt2, wrap64]
      exact ⟨hf2.trans (Frm.wr hf2.lt hOg hn4 hs4), h4, fun g => (hO2 g).trans (hW4 g).symm⟩
    · simp (disch := omega) [e0, e1, e2, e6, hlt2, wrap64]
      have : (upto (fun x : GSt => if x.estate = (n : Int) then { x with person := p } else x) s.grants i).set i s.grants[i] = upto (fun x : GSt => if x.estate = (n : Int) then { x with person := p } else x) s.grants i := by
        conv => lhs; rw [← upto_at (fun x : GSt => if x.estate = (n : Int) then { x with person := p } else x) hlt2]
        exact List.set_getElem_self _
      rw [hsu, if_neg h5, this]
      exact ⟨hf2, h2, hO2⟩
  · have : i = s.grants.length := by omega
    subst this
    rw [upto_all] at h2 hO2
    simp
    exact ⟨hf2, h2, hO2⟩
theorem rpass_con (h:RegS H N l b sg s O) (hw:Wf b s) (hG:Wg b s) (hsu:0≤b.supply∧b.supply≤10000) (day:Int):
  GCall Tryz.prog 79 [.pointer (some (ga sg 0 0)),vi day] H fun x H'=>x=.ret (.tuple #[])∧∃O',Frm O O' H H'∧RegS H' N l b sg (pass b s day) O':=by
 rcases l with ⟨⟨⟨ra,rf⟩⟩,⟨oa,of'⟩,⟨va',vf'⟩⟩
 refine gcall_wp tok mix fok79 (F:=g79) (c:=_) rfl (n:=70) rfl (rs:= []) rfl ?_
 simp
 refine wp_loop tok mix (by kernel_rfl) (fun k ρ m H1=>∃s1 O1,k=opens s1∧ρ 0=.pointer (some (ga sg 0 0))∧ρ 1=vi day∧m= []∧Frm O O1 H H1∧RegS H1 N ⟨⟨⟨ra,rf⟩⟩,⟨oa,of'⟩,⟨va',vf'⟩⟩ b sg s1 O1∧passS b day k s1=pass b s day∧Wf b s1∧Wg b s1) ⟨s,O,rfl,by simp,by simp,rfl,Frm.refl (fun g hg=>(h.lt g hg).2),h,rfl,hw,hG⟩ ?_
 rintro k ρ m H1 ⟨s1,O1,rfl,e0,e1,rfl,hf,h1,hps,hw1,hG1⟩
 have h1':=h1
 obtain ⟨v1,v2,vl,vo,vg,va,vw,vb,vd,h1,hO⟩:=h1
 have hg:=h1.g
 obtain ⟨ag,fg,rfl,hEg⟩:=h1.grants.elems (fun _=>rfl)
 obtain ⟨al,fl,rfl,hEl⟩:=h1.last.elems (fun _=>rfl)
 have hlen:=hw1.len
 have hlast:=hw1.last
 simp (disch:=omega)
 refine wp_up tok mix (by kernel_rfl) s1.grants.length (fun i ρ m H2=>ρ 0=.pointer (some (ga sg 0 0))∧ρ 1=vi day∧ρ 5=vi i∧ρ 4=vi ((List.range i).foldl (findStep s1 day) (-1))∧m= []∧H2=H1) (i0:=0) (by omega) (by simp [e0,e1]) ?_
 rintro i ρ m H2 hi ⟨f0,f1,f5,f4,rfl,rfl⟩
 obtain ⟨p1,p2,p3⟩:=find_upto s1 day i hi
 have psucc:(List.range (i+1)).foldl (findStep s1 day) (-1)=findStep s1 day ((List.range i).foldl (findStep s1 day) (-1)) i:=by rw [List.range_succ,List.foldl_append]; rfl
 generalize hat:(List.range i).foldl (findStep s1 day) (-1)=at_ at f4 p1 p2 p3 psucc
 simp (disch:=omega) [f0,f5,hg]
 refine wpB_dec (fun hlt=>?_) (fun hge=>?_)
 ·obtain ⟨a2,rfl,hab,hrd⟩:=hEg.at i hlt
  obtain ⟨a3,rfl,hlb,hlr⟩:=hEl.at i (by omega)
  have hltI:(i:Int)<s1.grants.length:=by omega
  have hltL:(i:Int)<s1.last.length:=by omega
  have hgi:s1.grants.getD i default=s1.grants[i]:=getD_at hlt
  have hli:lastAt s1 i=s1.last[i]'(by omega):=by unfold lastAt; rw [Int.toNat_natCast]; exact getD_at (by omega)
  simp (disch:=omega) [f0,f5,hg,hrd]
  have skip:((s1.grants[i]).is≠2∨lastAt s1 i≥day)→(List.range (i+1)).foldl (findStep s1 day) (-1)=at_:=fun hc=>by
   rw [psucc]; unfold findStep; rw [if_pos (by rw [hgi]; exact hc)]
  refine planG_bool (fun h2=>?_) (fun h2=>?_)<;>(try simp only [decide_eq_true_eq,decide_eq_false_iff_not] at h2)
  ·simp (disch:=omega) [f0,f1,f5,hg,hlr,h2]
   refine planG_bool (fun h3=>?_) (fun h3=>?_)<;>(try simp only [decide_eq_true_eq,decide_eq_false_iff_not] at h3)
   ·simp (disch:=omega) [f4,h3]
    have h3':¬((s1.grants[i]).is≠2∨lastAt s1 i≥day):=by rw [hli]; omega
    by_cases h4:at_<0
    ·simp (disch:=omega) [f0,f1,f5,h4,wrap64]
     refine ⟨hlt,?_⟩
     rw [psucc]; unfold findStep; rw [if_neg (by rw [hgi]; exact h3'),if_pos (.inl h4)]
    ·obtain ⟨j,rfl⟩:=Int.eq_ofNat_of_zero_le (show 0≤at_ by omega)
     have hjL:j<s1.last.length:=by omega
     have hj0:¬((j:Int)<0):=by omega
     have hjI:(j:Int)<s1.last.length:=by omega
     obtain ⟨a4,ha4,hjb,hjr⟩:=hEl.at j hjL
     cases ha4
     have hlj:lastAt s1 j=s1.last[j]:=by unfold lastAt; rw [Int.toNat_natCast]; exact getD_at hjL
     simp (disch:=omega) [f0,f4,f5,h4,hg,hlr,hjr]
     refine wpB_dec (fun h5=>?_) (fun h5=>?_)
     ·simp (disch:=omega) [f0,f1,f5,wrap64]
      refine ⟨hlt,?_⟩
      rw [psucc]; unfold findStep; rw [if_neg (by rw [hgi]; exact h3'),if_pos (.inr (by rw [hli,hlj]; exact h5))]
     ·simp (disch:=omega) [f0,f1,f4,f5,wrap64]
      refine ⟨hlt,?_⟩
      rw [psucc]; unfold findStep; rw [if_neg (by rw [hgi]; exact h3'),if_neg (by rw [hli,hlj]; omega)]
   ·simp (disch:=omega) [f0,f1,f4,f5,h3,wrap64]
    exact ⟨hlt,(skip (.inr (by rw [hli]; omega))).symm⟩
  ·simp (disch:=omega) [f0,f1,f4,f5,h2,wrap64]
   exact ⟨hlt,(skip (.inl h2)).symm⟩
 ·have:i=s1.grants.length:=by omega
  subst this
  have hfa:findAt s1 day=at_:=hat
  simp [f4]
  refine wpB_dec (fun h4=>?_) (fun h4=>?_)
  ·simp
   refine ⟨O1,hf,?_⟩
   have:passS b day (opens s1) s1=s1:=by
    cases opens s1 with
    |zero=>rfl
    |succ n=>simp only [passS]; rw [if_pos (by omega)]
   rw [←hps,this]; exact h1'
  ·obtain ⟨j,rfl⟩:=Int.eq_ofNat_of_zero_le (show 0≤at_ by omega)
   have hjL:j<s1.last.length:=by omega
   have hjG:j<s1.grants.length:=by omega
   have hjI:(j:Int)<s1.last.length:=by omega
   obtain ⟨a4,rfl,hjb,hjr⟩:=hEl.at j hjL
   have hlj:lastAt s1 j=s1.last[j]:=by unfold lastAt; rw [Int.toNat_natCast]; exact getD_at hjL
   have hj2:(s1.grants[j]).is=2:=by have:=p3 (by omega); rwa [Int.toNat_natCast,getD_at hjG] at this
   have hop:=endS_opens (b:=b) hjG hj2 (IntKind.i64.wrap (lastAt s1 j+1))
   have hps2:passS b day (opens (endS b s1 j (IntKind.i64.wrap (lastAt s1 j+1)))) (endS b s1 j (IntKind.i64.wrap (lastAt s1 j+1)))=pass b s day:=by
    rw [←hps,←hop]; simp only [passS]; rw [hfa,if_neg (by omega)]; rfl
   have hw2:=endS_wf (b:=b) hw1 hjG (by rw [hj2]; decide) (IntKind.i64.wrap (lastAt s1 j+1))
   simp (disch:=omega) [f0,f4,hg,hjr]
   rw [←hlj]
   refine (rend_con h1' hw1 hG1 hsu j hjG (by rw [hj2]; decide) _).mono ?_
   rintro x H5 ⟨rfl,O5,hf5,h5⟩
   simp [f0,f1]
   exact ⟨opens (endS b s1 j (IntKind.i64.wrap (lastAt s1 j+1))),by omega,endS b s1 j (IntKind.i64.wrap (lastAt s1 j+1)),rfl,O5,hf.trans hf5,h5,hps2,hw2,hG1.endS hjG _⟩
end
end Go.Gm.Tryz
end
section
namespace Go.Gm.Tryz
open Go.Proofs
section
variable {H:GH} {N:Nat} {l:BLoc} {b:Book} {sg:Nat} {s:Stand} {O:Nat→Prop} {bk dy:List Int} {v1 v2 vl vo vg va vw vb vd:Value}
theorem rGoes1 (h:RIn H N l b sg s bk dy v1 v2 vl vo vg va vw vb vd) (hw:Wf b s) (hG:Wg b s) (hsu:0≤b.supply∧b.supply≤10000) {e:Ev} (k1:e.kind=1) (he:EvOk b s e) (hev:isEventB b e=true):C 80 [.pointer (some (ga sg 0 0)),evV e] H (.bool (goesB b s e)) H:=by
 rcases l with ⟨⟨⟨ra,rf⟩⟩,⟨oa,of'⟩,⟨va',vf'⟩⟩
 refine con_wp tok mix fok80 (F:=g80) (c:=_) rfl (n:=274) rfl (rs:= [.tmp 4]) rfl (anch_closed rfl) ?_
 have h1:=h.sub (Sub.push (.refl H) (.arr { cells:= [vi e.kind,vi e.day,vi e.person,vi e.other,vi e.estate,vi e.grant,vi e.system,vi e.units],ty:=103 }))
 have hge:(H.push (.arr { cells:= [vi e.kind,vi e.day,vi e.person,vi e.other,vi e.estate,vi e.grant,vi e.system,vi e.units],ty:=103 })).get H.next=some (.arr { cells:= [vi e.kind,vi e.day,vi e.person,vi e.other,vi e.estate,vi e.grant,vi e.system,vi e.units],ty:=103 }):=by simp
 have hs1:Sub H (H.push (.arr { cells:= [vi e.kind,vi e.day,vi e.person,vi e.other,vi e.estate,vi e.grant,vi e.system,vi e.units],ty:=103 })):=Sub.push (.refl H) _
 have hn1:H.next<(H.push (.arr { cells:= [vi e.kind,vi e.day,vi e.person,vi e.other,vi e.estate,vi e.grant,vi e.system,vi e.units],ty:=103 })).next:=by simp
 generalize hH1:H.push (.arr { cells:= [vi e.kind,vi e.day,vi e.person,vi e.other,vi e.estate,vi e.grant,vi e.system,vi e.units],ty:=103 })=H1 at*
 have hg:=h1.g
 have hsl:=h1.sgl.2
 have hlen:=hw.len
 have hkk:=he.kind
 obtain ⟨al,fl,rfl,hEl⟩:=h1.lives.elems (fun _=>rfl)
 obtain ⟨ao,fo,rfl,hEo⟩:=h1.owners.elems (fun _=>rfl)
 obtain ⟨ag,fg,rfl,hEg⟩:=h1.grants.elems (fun _=>rfl)
 have hex:=fun (n:Int) (hn:0≤n)=>rowned_con h1 hn
 unfold goesB
 simp (disch:=omega) [hH1,hge]
 have hp:=he.person (by omega) (by omega)
 obtain ⟨a,rfl,hal,hrd⟩:=hEl.at e.person.toNat (by omega)
 have e1:s.lives[e.person.toNat]?.getD false=s.lives[e.person.toNat]:=by rw [List.getElem?_eq_getElem (by omega)]; rfl
 simp (disch:=omega) [k1,hg,hge,hrd]
 refine planG_bool (fun h5=>?_) (fun h5=>?_)
 ·simp (disch:=omega) [h5,hge]
  refine (rfits_con h1 hw hG hsu e (ev_units hev (.inl k1))).go ?_
  simp
  exact hs1
 ·simp [h5]
  exact hs1
theorem rGoes2 (h:RIn H N l b sg s bk dy v1 v2 vl vo vg va vw vb vd) (hw:Wf b s) (hG:Wg b s) (hsu:0≤b.supply∧b.supply≤10000) {e:Ev} (k2:e.kind=2) (he:EvOk b s e) (hev:isEventB b e=true):C 80 [.pointer (some (ga sg 0 0)),evV e] H (.bool (goesB b s e)) H:=by
 rcases l with ⟨⟨⟨ra,rf⟩⟩,⟨oa,of'⟩,⟨va',vf'⟩⟩
 refine con_wp tok mix fok80 (F:=g80) (c:=_) rfl (n:=274) rfl (rs:= [.tmp 4]) rfl (anch_closed rfl) ?_
 have h1:=h.sub (Sub.push (.refl H) (.arr { cells:= [vi e.kind,vi e.day,vi e.person,vi e.other,vi e.estate,vi e.grant,vi e.system,vi e.units],ty:=103 }))
 have hge:(H.push (.arr { cells:= [vi e.kind,vi e.day,vi e.person,vi e.other,vi e.estate,vi e.grant,vi e.system,vi e.units],ty:=103 })).get H.next=some (.arr { cells:= [vi e.kind,vi e.day,vi e.person,vi e.other,vi e.estate,vi e.grant,vi e.system,vi e.units],ty:=103 }):=by simp
 have hs1:Sub H (H.push (.arr { cells:= [vi e.kind,vi e.day,vi e.person,vi e.other,vi e.estate,vi e.grant,vi e.system,vi e.units],ty:=103 })):=Sub.push (.refl H) _
 have hn1:H.next<(H.push (.arr { cells:= [vi e.kind,vi e.day,vi e.person,vi e.other,vi e.estate,vi e.grant,vi e.system,vi e.units],ty:=103 })).next:=by simp
 generalize hH1:H.push (.arr { cells:= [vi e.kind,vi e.day,vi e.person,vi e.other,vi e.estate,vi e.grant,vi e.system,vi e.units],ty:=103 })=H1 at*
 have hg:=h1.g
 have hsl:=h1.sgl.2
 have hlen:=hw.len
 have hkk:=he.kind
 obtain ⟨al,fl,rfl,hEl⟩:=h1.lives.elems (fun _=>rfl)
 obtain ⟨ao,fo,rfl,hEo⟩:=h1.owners.elems (fun _=>rfl)
 obtain ⟨ag,fg,rfl,hEg⟩:=h1.grants.elems (fun _=>rfl)
 have hex:=fun (n:Int) (hn:0≤n)=>rowned_con h1 hn
 unfold goesB
 simp (disch:=omega) [hH1,hge]
 simp (disch:=omega) [k2,hge]
 refine (hex _ he.estate).go ?_
 simp
 refine contG_bool (fun h5=>?_) (fun h5=>?_)
 ·simp (disch:=omega) [h5,hge]
  refine (rfits_con h1 hw hG hsu e (ev_units hev (.inr (.inl k2)))).go ?_
  simp
  exact hs1
 ·simp [h5]
  exact hs1
theorem rGoes3 (h:RIn H N l b sg s bk dy v1 v2 vl vo vg va vw vb vd) (hw:Wf b s) (_hG:Wg b s) (_hsu:0≤b.supply∧b.supply≤10000) {e:Ev} (k3:e.kind=3) (he:EvOk b s e) (_hev:isEventB b e=true):C 80 [.pointer (some (ga sg 0 0)),evV e] H (.bool (goesB b s e)) H:=by
 rcases l with ⟨⟨⟨ra,rf⟩⟩,⟨oa,of'⟩,⟨va',vf'⟩⟩
 refine con_wp tok mix fok80 (F:=g80) (c:=_) rfl (n:=274) rfl (rs:= [.tmp 4]) rfl (anch_closed rfl) ?_
 have h1:=h.sub (Sub.push (.refl H) (.arr { cells:= [vi e.kind,vi e.day,vi e.person,vi e.other,vi e.estate,vi e.grant,vi e.system,vi e.units],ty:=103 }))
 have hge:(H.push (.arr { cells:= [vi e.kind,vi e.day,vi e.person,vi e.other,vi e.estate,vi e.grant,vi e.system,vi e.units],ty:=103 })).get H.next=some (.arr { cells:= [vi e.kind,vi e.day,vi e.person,vi e.other,vi e.estate,vi e.grant,vi e.system,vi e.units],ty:=103 }):=by simp
 have hs1:Sub H (H.push (.arr { cells:= [vi e.kind,vi e.day,vi e.person,vi e.other,vi e.estate,vi e.grant,vi e.system,vi e.units],ty:=103 })):=Sub.push (.refl H) _
 have hn1:H.next<(H.push (.arr { cells:= [vi e.kind,vi e.day,vi e.person,vi e.other,vi e.estate,vi e.grant,vi e.system,vi e.units],ty:=103 })).next:=by simp
 generalize hH1:H.push (.arr { cells:= [vi e.kind,vi e.day,vi e.person,vi e.other,vi e.estate,vi e.grant,vi e.system,vi e.units],ty:=103 })=H1 at*
 have hg:=h1.g
 have hsl:=h1.sgl.2
 have hlen:=hw.len
 have hkk:=he.kind
 obtain ⟨al,fl,rfl,hEl⟩:=h1.lives.elems (fun _=>rfl)
 obtain ⟨ao,fo,rfl,hEo⟩:=h1.owners.elems (fun _=>rfl)
 obtain ⟨ag,fg,rfl,hEg⟩:=h1.grants.elems (fun _=>rfl)
 have hex:=fun (n:Int) (hn:0≤n)=>rowned_con h1 hn
 unfold goesB
 simp (disch:=omega) [hH1,hge]
 have hp:=he.person (by omega) (by omega)
 have ho:=he.other k3
 obtain ⟨a,rfl,hal,hrd⟩:=hEl.at e.person.toNat (by omega)
 have e1:s.lives[e.person.toNat]?.getD false=s.lives[e.person.toNat]:=by rw [List.getElem?_eq_getElem (by omega)]; rfl
 obtain ⟨a',ha',hal',hrd'⟩:=hEl.at e.other.toNat (by omega)
 cases ha'
 have e2:s.lives[e.other.toNat]?.getD false=s.lives[e.other.toNat]:=by rw [List.getElem?_eq_getElem (by omega)]; rfl
 simp (disch:=omega) [k3,hg,hge,hrd]
 refine planG_bool (fun h5=>?_) (fun h5=>?_)
 ·simp (disch:=omega) [h5,hg,hge,hrd']
  refine planG_bool (fun h6=>?_) (fun h6=>?_)
  ·simp (disch:=omega) [h6,hge]
   exact hs1
  ·simp [h6]
   exact hs1
 ·simp [h5]
  exact hs1
theorem rGoes4 (h:RIn H N l b sg s bk dy v1 v2 vl vo vg va vw vb vd) (hw:Wf b s) (_hG:Wg b s) (_hsu:0≤b.supply∧b.supply≤10000) {e:Ev} (k4:e.kind=4) (he:EvOk b s e) (_hev:isEventB b e=true):C 80 [.pointer (some (ga sg 0 0)),evV e] H (.bool (goesB b s e)) H:=by
 rcases l with ⟨⟨⟨ra,rf⟩⟩,⟨oa,of'⟩,⟨va',vf'⟩⟩
 refine con_wp tok mix fok80 (F:=g80) (c:=_) rfl (n:=274) rfl (rs:= [.tmp 4]) rfl (anch_closed rfl) ?_
 have h1:=h.sub (Sub.push (.refl H) (.arr { cells:= [vi e.kind,vi e.day,vi e.person,vi e.other,vi e.estate,vi e.grant,vi e.system,vi e.units],ty:=103 }))
 have hge:(H.push (.arr { cells:= [vi e.kind,vi e.day,vi e.person,vi e.other,vi e.estate,vi e.grant,vi e.system,vi e.units],ty:=103 })).get H.next=some (.arr { cells:= [vi e.kind,vi e.day,vi e.person,vi e.other,vi e.estate,vi e.grant,vi e.system,vi e.units],ty:=103 }):=by simp
 have hs1:Sub H (H.push (.arr { cells:= [vi e.kind,vi e.day,vi e.person,vi e.other,vi e.estate,vi e.grant,vi e.system,vi e.units],ty:=103 })):=Sub.push (.refl H) _
 have hn1:H.next<(H.push (.arr { cells:= [vi e.kind,vi e.day,vi e.person,vi e.other,vi e.estate,vi e.grant,vi e.system,vi e.units],ty:=103 })).next:=by simp
 generalize hH1:H.push (.arr { cells:= [vi e.kind,vi e.day,vi e.person,vi e.other,vi e.estate,vi e.grant,vi e.system,vi e.units],ty:=103 })=H1 at*
 have hg:=h1.g
 have hsl:=h1.sgl.2
 have hlen:=hw.len
 have hkk:=he.kind
 obtain ⟨al,fl,rfl,hEl⟩:=h1.lives.elems (fun _=>rfl)
 obtain ⟨ao,fo,rfl,hEo⟩:=h1.owners.elems (fun _=>rfl)
 obtain ⟨ag,fg,rfl,hEg⟩:=h1.grants.elems (fun _=>rfl)
 have hex:=fun (n:Int) (hn:0≤n)=>rowned_con h1 hn
 unfold goesB
 simp (disch:=omega) [hH1,hge]
 have hp:=he.person (by omega) (by omega)
 obtain ⟨a,rfl,hal,hrd⟩:=hEl.at e.person.toNat (by omega)
 have e1:s.lives[e.person.toNat]?.getD false=s.lives[e.person.toNat]:=by rw [List.getElem?_eq_getElem (by omega)]; rfl
 simp (disch:=omega) [k4,hge]
 refine (hex _ he.estate).go ?_
 simp
 refine planG_bool (fun h5=>?_) (fun h5=>?_)
 ·have h5':=h5
  simp only [existsB,Bool.and_eq_true,decide_eq_true_eq] at h5'
  have hes:=he.estate
  obtain ⟨ao,rfl,hao,hro⟩:=hEo.at e.estate.toNat (by omega)
  have e2:s.owners[e.estate.toNat]?.getD 0=s.owners[e.estate.toNat]'(by omega):=by rw [List.getElem?_eq_getElem (by omega)]; rfl
  simp (disch:=omega) [h5,hg,hge,hrd]
  refine planG_bool (fun h6=>?_) (fun h6=>?_)
  ·simp (disch:=omega) [h6,hg,hge,hro]
   exact hs1
  ·simp [h6]
   exact hs1
 ·simp [h5]
  exact hs1
theorem rGoes5 (h:RIn H N l b sg s bk dy v1 v2 vl vo vg va vw vb vd) (hw:Wf b s) (hG:Wg b s) (hsu:0≤b.supply∧b.supply≤10000) {e:Ev} (k5:e.kind=5) (he:EvOk b s e) (hev:isEventB b e=true):C 80 [.pointer (some (ga sg 0 0)),evV e] H (.bool (goesB b s e)) H:=by
 rcases l with ⟨⟨⟨ra,rf⟩⟩,⟨oa,of'⟩,⟨va',vf'⟩⟩
 refine con_wp tok mix fok80 (F:=g80) (c:=_) rfl (n:=274) rfl (rs:= [.tmp 4]) rfl (anch_closed rfl) ?_
 have h1:=h.sub (Sub.push (.refl H) (.arr { cells:= [vi e.kind,vi e.day,vi e.person,vi e.other,vi e.estate,vi e.grant,vi e.system,vi e.units],ty:=103 }))
 have hge:(H.push (.arr { cells:= [vi e.kind,vi e.day,vi e.person,vi e.other,vi e.estate,vi e.grant,vi e.system,vi e.units],ty:=103 })).get H.next=some (.arr { cells:= [vi e.kind,vi e.day,vi e.person,vi e.other,vi e.estate,vi e.grant,vi e.system,vi e.units],ty:=103 }):=by simp
 have hs1:Sub H (H.push (.arr { cells:= [vi e.kind,vi e.day,vi e.person,vi e.other,vi e.estate,vi e.grant,vi e.system,vi e.units],ty:=103 })):=Sub.push (.refl H) _
 have hn1:H.next<(H.push (.arr { cells:= [vi e.kind,vi e.day,vi e.person,vi e.other,vi e.estate,vi e.grant,vi e.system,vi e.units],ty:=103 })).next:=by simp
 generalize hH1:H.push (.arr { cells:= [vi e.kind,vi e.day,vi e.person,vi e.other,vi e.estate,vi e.grant,vi e.system,vi e.units],ty:=103 })=H1 at*
 have hg:=h1.g
 have hsl:=h1.sgl.2
 have hlen:=hw.len
 have hkk:=he.kind
 obtain ⟨al,fl,rfl,hEl⟩:=h1.lives.elems (fun _=>rfl)
 obtain ⟨ao,fo,rfl,hEo⟩:=h1.owners.elems (fun _=>rfl)
 obtain ⟨ag,fg,rfl,hEg⟩:=h1.grants.elems (fun _=>rfl)
 have hex:=fun (n:Int) (hn:0≤n)=>rowned_con h1 hn
 unfold goesB
 simp (disch:=omega) [hH1,hge]
 have hu5:=ev_units5 hev k5
 have hp:=he.person (by omega) (by omega)
 have hgr:=he.grant
 obtain ⟨a,rfl,hal,hrd⟩:=hEl.at e.person.toNat (by omega)
 have e1:s.lives[e.person.toNat]?.getD false=s.lives[e.person.toNat]:=by rw [List.getElem?_eq_getElem (by omega)]; rfl
 simp (disch:=omega) [k5,hg,hge]
 refine planG_bool (fun h5=>?_) (fun h5=>?_)<;>(try simp only [Bool.not_eq_true',Bool.not_eq_false',decide_eq_true_eq,decide_eq_false_iff_not] at h5)
 ·have hgl:e.grant<s.grants.length:=by omega
  obtain ⟨ag,rfl,hag,hrg⟩:=hEg.at e.grant.toNat (by omega)
  have e2:s.grants[e.grant.toNat]?.getD default=s.grants[e.grant.toNat]'(by omega):=by rw [List.getElem?_eq_getElem (by omega)]; rfl
  have hm:=hG.gr _ (List.getElem_mem (show e.grant.toNat<s.grants.length by omega))
  generalize hGG:s.grants[e.grant.toNat]'(by omega)=G at hrg e2 hm
  simp (disch:=omega) [h5,hg,hge,hrg]
  refine planG_bool (fun h6=>?_) (fun h6=>?_)<;>(try simp only [Bool.not_eq_true',Bool.not_eq_false',decide_eq_true_eq,decide_eq_false_iff_not] at h6)
  ·have h6':0≤G.estate:=by omega
   simp (disch:=omega) [h6,hg,hge,hrg]
   refine planG_bool (fun h7=>?_) (fun h7=>?_)<;>(try simp only [Bool.not_eq_true',Bool.not_eq_false',decide_eq_true_eq,decide_eq_false_iff_not] at h7)
   ·have h7':e.units<G.units:=by omega
    simp (disch:=omega) [h7,hg,hge,hrd]
    refine wpB_bool (fun h8=>?_) (fun h8=>?_)<;>(try simp only [Bool.not_eq_true',Bool.not_eq_false'] at h8)
    ·simp [divB,h6',h7',h8,hgl,e2,e1]
     exact hs1
    ·simp (disch:=omega) [hg,hge,hrg,h8]
     generalize hH2:GH.put _ _ _=H2
     have hs2:Sub H1 H2:=by subst hH2; exact (Sub.push (.refl _) _).put (Nat.le_refl _) _
     have hb2:H2.get H1.next=some (.arr { cells:=encSt G,ty:=45 }):=by subst hH2; simp
     have he2:=(hs2.2 H.next hn1).trans hge
     have hn2:H1.next<H2.next:=by subst hH2; simp
     clear hH2
     have h2:=h1.sub hs2
     have hwr:IntKind.i64.wrap (G.units - e.units)=G.units - e.units:=wrap64 _ (by omega) (by omega)
     have hs12:=hs1.trans hs2
     refine (rWater_con h2 hm.1 ⟨by omega,by omega⟩).go ?_
     have hpre:divB b s e=partB b s G.system G.units e.units:=by simp [divB,h6',h7',h8,hgl,e2,e1]
     rw [hpre]
     simp (disch:=omega) [hb2,he2,hwr]
     refine (rWater_con h2 hm.1 ⟨by omega,by omega⟩).go ?_
     simp (disch:=omega)
     refine contG_bool (fun h9=>?_) (fun h9=>?_)<;>(try simp only [decide_eq_true_eq,decide_eq_false_iff_not] at h9)
     ·simp [h9]
      refine contG_bool (fun h10=>?_) (fun h10=>?_)<;>(try simp only [decide_eq_true_eq,decide_eq_false_iff_not] at h10)
      ·simp (disch:=omega) [h10,hb2]
       refine (rWater_con h2 hm.1 ⟨by omega,by omega⟩).go ?_
       simp
       refine (rFree_con h2 hG (by omega) hsu).go ?_
       simp [partB,h9,h10,hwr]
       exact hs12
      ·simp [h10,partB,hwr]
       exact hs12
     ·simp [h9,partB]
      exact hs12
   ·have hF:divB b s e=false:=Bool.eq_false_iff.2 fun h=>by simp [divB,e2] at h; omega
    simp [h7,hF]
    exact hs1
  ·have hF:divB b s e=false:=Bool.eq_false_iff.2 fun h=>by simp [divB,e2] at h; omega
   simp [h6,hF]
   exact hs1
 ·have hF:divB b s e=false:=Bool.eq_false_iff.2 fun h=>by simp [divB] at h; omega
  simp [h5,hF]
  exact hs1
theorem rGoes6 (h:RIn H N l b sg s bk dy v1 v2 vl vo vg va vw vb vd) (hw:Wf b s) (_hG:Wg b s) (_hsu:0≤b.supply∧b.supply≤10000) {e:Ev} (k6:e.kind=6) (he:EvOk b s e) (_hev:isEventB b e=true):C 80 [.pointer (some (ga sg 0 0)),evV e] H (.bool (goesB b s e)) H:=by
 rcases l with ⟨⟨⟨ra,rf⟩⟩,⟨oa,of'⟩,⟨va',vf'⟩⟩
 refine con_wp tok mix fok80 (F:=g80) (c:=_) rfl (n:=274) rfl (rs:= [.tmp 4]) rfl (anch_closed rfl) ?_
 have h1:=h.sub (Sub.push (.refl H) (.arr { cells:= [vi e.kind,vi e.day,vi e.person,vi e.other,vi e.estate,vi e.grant,vi e.system,vi e.units],ty:=103 }))
 have hge:(H.push (.arr { cells:= [vi e.kind,vi e.day,vi e.person,vi e.other,vi e.estate,vi e.grant,vi e.system,vi e.units],ty:=103 })).get H.next=some (.arr { cells:= [vi e.kind,vi e.day,vi e.person,vi e.other,vi e.estate,vi e.grant,vi e.system,vi e.units],ty:=103 }):=by simp
 have hs1:Sub H (H.push (.arr { cells:= [vi e.kind,vi e.day,vi e.person,vi e.other,vi e.estate,vi e.grant,vi e.system,vi e.units],ty:=103 })):=Sub.push (.refl H) _
 have hn1:H.next<(H.push (.arr { cells:= [vi e.kind,vi e.day,vi e.person,vi e.other,vi e.estate,vi e.grant,vi e.system,vi e.units],ty:=103 })).next:=by simp
 generalize hH1:H.push (.arr { cells:= [vi e.kind,vi e.day,vi e.person,vi e.other,vi e.estate,vi e.grant,vi e.system,vi e.units],ty:=103 })=H1 at*
 have hg:=h1.g
 have hsl:=h1.sgl.2
 have hlen:=hw.len
 have hkk:=he.kind
 obtain ⟨al,fl,rfl,hEl⟩:=h1.lives.elems (fun _=>rfl)
 obtain ⟨ao,fo,rfl,hEo⟩:=h1.owners.elems (fun _=>rfl)
 obtain ⟨ag,fg,rfl,hEg⟩:=h1.grants.elems (fun _=>rfl)
 have hex:=fun (n:Int) (hn:0≤n)=>rowned_con h1 hn
 unfold goesB
 simp (disch:=omega) [hH1,hge]
 have hes:=he.estate
 have hot:=he.other0
 simp (disch:=omega) [k6,hge]
 refine (hex _ he.estate).go ?_
 simp
 refine planG_bool (fun h5=>?_) (fun h5=>?_)
 ·simp (disch:=omega) [h5,hge]
  refine (hex _ he.other0).go ?_
  simp
  refine planG_bool (fun h6=>?_) (fun h6=>?_)
  ·have h5':=h5
   have h6':=h6
   simp only [existsB,Bool.and_eq_true,decide_eq_true_eq] at h5' h6'
   obtain ⟨ao,rfl,hao,hro⟩:=hEo.at e.estate.toNat (by omega)
   obtain ⟨ao',ha',hao',hro'⟩:=hEo.at e.other.toNat (by omega)
   cases ha'
   have e1:s.owners[e.estate.toNat]?.getD 0=s.owners[e.estate.toNat]'(by omega):=by rw [List.getElem?_eq_getElem (by omega)]; rfl
   have e2:s.owners[e.other.toNat]?.getD 0=s.owners[e.other.toNat]'(by omega):=by rw [List.getElem?_eq_getElem (by omega)]; rfl
   simp (disch:=omega) [h6,hge]
   refine planG_bool (fun h7=>?_) (fun h7=>?_)<;>(try simp only [Bool.not_eq_true',Bool.not_eq_false',decide_eq_true_eq,decide_eq_false_iff_not] at h7)
   ·simp (disch:=omega) [h7,hg,hge,hro,hro']
    exact hs1
   ·simp [h7]
    exact hs1
  ·simp [h6]
   exact hs1
 ·simp [h5]
  exact hs1
theorem rGoes7 (h:RIn H N l b sg s bk dy v1 v2 vl vo vg va vw vb vd) (hw:Wf b s) (_hG:Wg b s) (_hsu:0≤b.supply∧b.supply≤10000) {e:Ev} (k7:e.kind=7) (he:EvOk b s e) (_hev:isEventB b e=true):C 80 [.pointer (some (ga sg 0 0)),evV e] H (.bool (goesB b s e)) H:=by
 rcases l with ⟨⟨⟨ra,rf⟩⟩,⟨oa,of'⟩,⟨va',vf'⟩⟩
 refine con_wp tok mix fok80 (F:=g80) (c:=_) rfl (n:=274) rfl (rs:= [.tmp 4]) rfl (anch_closed rfl) ?_
 have h1:=h.sub (Sub.push (.refl H) (.arr { cells:= [vi e.kind,vi e.day,vi e.person,vi e.other,vi e.estate,vi e.grant,vi e.system,vi e.units],ty:=103 }))
 have hge:(H.push (.arr { cells:= [vi e.kind,vi e.day,vi e.person,vi e.other,vi e.estate,vi e.grant,vi e.system,vi e.units],ty:=103 })).get H.next=some (.arr { cells:= [vi e.kind,vi e.day,vi e.person,vi e.other,vi e.estate,vi e.grant,vi e.system,vi e.units],ty:=103 }):=by simp
 have hs1:Sub H (H.push (.arr { cells:= [vi e.kind,vi e.day,vi e.person,vi e.other,vi e.estate,vi e.grant,vi e.system,vi e.units],ty:=103 })):=Sub.push (.refl H) _
 have hn1:H.next<(H.push (.arr { cells:= [vi e.kind,vi e.day,vi e.person,vi e.other,vi e.estate,vi e.grant,vi e.system,vi e.units],ty:=103 })).next:=by simp
 generalize hH1:H.push (.arr { cells:= [vi e.kind,vi e.day,vi e.person,vi e.other,vi e.estate,vi e.grant,vi e.system,vi e.units],ty:=103 })=H1 at*
 have hg:=h1.g
 have hsl:=h1.sgl.2
 have hlen:=hw.len
 have hkk:=he.kind
 obtain ⟨al,fl,rfl,hEl⟩:=h1.lives.elems (fun _=>rfl)
 obtain ⟨ao,fo,rfl,hEo⟩:=h1.owners.elems (fun _=>rfl)
 obtain ⟨ag,fg,rfl,hEg⟩:=h1.grants.elems (fun _=>rfl)
 have hex:=fun (n:Int) (hn:0≤n)=>rowned_con h1 hn
 unfold goesB
 simp (disch:=omega) [hH1,hge]
 have hgr:=he.grant
 simp (disch:=omega) [k7,hg,hge]
 refine planG_bool (fun h5=>?_) (fun h5=>?_)<;>(try simp only [decide_eq_true_eq,decide_eq_false_iff_not] at h5)
 ·obtain ⟨ag,rfl,hag,hrg⟩:=hEg.at e.grant.toNat (by omega)
  have e1:s.grants[e.grant.toNat]?.getD default=s.grants[e.grant.toNat]'(by omega):=by rw [List.getElem?_eq_getElem (by omega)]; rfl
  simp (disch:=omega) [h5,hg,hge,hrg]
  refine planG_bool (fun h6=>?_) (fun h6=>?_)<;>(try simp only [decide_eq_true_eq,decide_eq_false_iff_not] at h6)
  ·simp (disch:=omega) [h6,hg,hge,hrg]
   exact hs1
  ·simp [h6]
   exact hs1
 ·simp [h5]
  exact hs1
theorem rGoes8 (h:RIn H N l b sg s bk dy v1 v2 vl vo vg va vw vb vd) (hw:Wf b s) (_hG:Wg b s) (_hsu:0≤b.supply∧b.supply≤10000) {e:Ev} (k8:e.kind=8) (he:EvOk b s e) (hev:isEventB b e=true):C 80 [.pointer (some (ga sg 0 0)),evV e] H (.bool (goesB b s e)) H:=by
 rcases l with ⟨⟨⟨ra,rf⟩⟩,⟨oa,of'⟩,⟨va',vf'⟩⟩
 refine con_wp tok mix fok80 (F:=g80) (c:=_) rfl (n:=274) rfl (rs:= [.tmp 4]) rfl (anch_closed rfl) ?_
 have h1:=h.sub (Sub.push (.refl H) (.arr { cells:= [vi e.kind,vi e.day,vi e.person,vi e.other,vi e.estate,vi e.grant,vi e.system,vi e.units],ty:=103 }))
 have hge:(H.push (.arr { cells:= [vi e.kind,vi e.day,vi e.person,vi e.other,vi e.estate,vi e.grant,vi e.system,vi e.units],ty:=103 })).get H.next=some (.arr { cells:= [vi e.kind,vi e.day,vi e.person,vi e.other,vi e.estate,vi e.grant,vi e.system,vi e.units],ty:=103 }):=by simp
 have hs1:Sub H (H.push (.arr { cells:= [vi e.kind,vi e.day,vi e.person,vi e.other,vi e.estate,vi e.grant,vi e.system,vi e.units],ty:=103 })):=Sub.push (.refl H) _
 have hn1:H.next<(H.push (.arr { cells:= [vi e.kind,vi e.day,vi e.person,vi e.other,vi e.estate,vi e.grant,vi e.system,vi e.units],ty:=103 })).next:=by simp
 generalize hH1:H.push (.arr { cells:= [vi e.kind,vi e.day,vi e.person,vi e.other,vi e.estate,vi e.grant,vi e.system,vi e.units],ty:=103 })=H1 at*
 have hg:=h1.g
 have hsl:=h1.sgl.2
 have hlen:=hw.len
 have hkk:=he.kind
 obtain ⟨al,fl,rfl,hEl⟩:=h1.lives.elems (fun _=>rfl)
 obtain ⟨ao,fo,rfl,hEo⟩:=h1.owners.elems (fun _=>rfl)
 obtain ⟨ag,fg,rfl,hEg⟩:=h1.grants.elems (fun _=>rfl)
 have hex:=fun (n:Int) (hn:0≤n)=>rowned_con h1 hn
 unfold goesB
 simp (disch:=omega) [hH1,hge]
 have hp:=he.person (by omega) (by omega)
 obtain ⟨a,rfl,hal,hrd⟩:=hEl.at e.person.toNat (by omega)
 have e1:s.lives[e.person.toNat]?.getD false=s.lives[e.person.toNat]:=by rw [List.getElem?_eq_getElem (by omega)]; rfl
 have hu:=ev_units hev (.inr (.inr k8))
 simp (disch:=omega) [k8,hg,hge,hrd]
 refine planG_bool (fun h5=>?_) (fun h5=>?_)
 ·simp (disch:=omega) [h5,hge]
  refine (rWater_con h1 hu.1 ⟨by omega,hu.2.2⟩).go ?_
  simp
  exact hs1
 ·simp [h5]
  exact hs1
theorem rGoes_con (h:RIn H N l b sg s bk dy v1 v2 vl vo vg va vw vb vd) (hw:Wf b s) (hG:Wg b s) (hsu:0≤b.supply∧b.supply≤10000) {e:Ev} (he:EvOk b s e) (hev:isEventB b e=true):C 80 [.pointer (some (ga sg 0 0)),evV e] H (.bool (goesB b s e)) H:=by
 have hk:=he.kind
 have:e.kind=1∨e.kind=2∨e.kind=3∨e.kind=4∨e.kind=5∨e.kind=6∨e.kind=7∨e.kind=8:=by omega
 rcases this with k|k|k|k|k|k|k|k
 ·exact rGoes1 h hw hG hsu k he hev
 ·exact rGoes2 h hw hG hsu k he hev
 ·exact rGoes3 h hw hG hsu k he hev
 ·exact rGoes4 h hw hG hsu k he hev
 ·exact rGoes5 h hw hG hsu k he hev
 ·exact rGoes6 h hw hG hsu k he hev
 ·exact rGoes7 h hw hG hsu k he hev
 ·exact rGoes8 h hw hG hsu k he hev
end
end Go.Gm.Tryz
end
section
namespace Go.Gm.Tryz
open Go.Proofs
section
variable {H:GH} {N:Nat} {l:BLoc} {b:Book} {sg:Nat} {s:Stand} {O:Nat→Prop} {bk dy:List Int} {v1 v2 vl vo vg va vw vb vd:Value}
theorem ownStep_fell (e:Ev) (s:Stand) (i:Nat):((List.range i).foldl (ownStep e) s).fell=s.fell:=by
 induction i with
 |zero=>rfl
 |succ i ih=>
  rw [range_fold]
  unfold ownStep
  split
  ·exact ih
  ·exact ih
theorem rdies_con (h:RegS H N l b sg s O) (hw:Wf b s) (hG:Wg b s) (hsu:0≤b.supply∧b.supply≤10000) (e:Ev) (he:0≤e.person∧e.person<s.lives.length):
  GCall Tryz.prog 117 [.pointer (some (ga sg 0 0)),evV e] H fun x H'=>x=.ret (.tuple #[])∧∃O',Frm O O' H H'∧RegS H' N l b sg (dieS b s e) O':=by
 rcases l with ⟨⟨⟨ra,rf⟩⟩,⟨oa,of'⟩,⟨va',vf'⟩⟩
 refine gcall_wp tok mix fok117 (F:=g117) (c:=_) rfl (n:=191) rfl (rs:= []) rfl ?_
 obtain ⟨h1,f1⟩:=h.sub (Sub.push (.refl H) (.arr { cells:= [vi e.kind,vi e.day,vi e.person,vi e.other,vi e.estate,vi e.grant,vi e.system,vi e.units],ty:=103 }))
 have hle:=hw.len
 have hlo:=hw.own
 have hl1:=fun g ho=>(h1.lt g ho).2
 have hge:(H.push (.arr { cells:= [vi e.kind,vi e.day,vi e.person,vi e.other,vi e.estate,vi e.grant,vi e.system,vi e.units],ty:=103 })).get H.next=some (.arr { cells:= [vi e.kind,vi e.day,vi e.person,vi e.other,vi e.estate,vi e.grant,vi e.system,vi e.units],ty:=103 }):=by simp
 have hOl:∀g,O g→g<H.next:=fun g hg=>(h.lt g hg).2
 have hnx:(H.push (.arr { cells:= [vi e.kind,vi e.day,vi e.person,vi e.other,vi e.estate,vi e.grant,vi e.system,vi e.units],ty:=103 })).next=H.next+1:=by simp
 generalize hH1:H.push (.arr { cells:= [vi e.kind,vi e.day,vi e.person,vi e.other,vi e.estate,vi e.grant,vi e.system,vi e.units],ty:=103 })=H1 at*
 obtain ⟨v1,v2,vl,vo,vg,va,vw,vb,vd,h1,hO⟩:=h1
 have hg:=h1.g
 have hsl:=h1.sgl.2
 obtain ⟨al,fl,rfl,hEl⟩:=h1.lives.elems (fun _=>rfl)
 obtain ⟨al,rfl,hal,hrl⟩:=hEl.at e.person.toNat (by omega)
 obtain ⟨ao,fo,rfl,hEo⟩:=h1.owners.elems (fun _=>rfl)
 have hbk:=h1.lives.blk_some
 have hbgs:al.block≠sg:=fun hc=>h1.ne 2 (by decide) (hbk.trans (congrArg some hc))
 have hOo:O al.block:=(hO _).2 (h1.own_ 2 (by decide) hbk)
 obtain ⟨H2,hw2,ho2,hn2,hs2⟩:=h1.lives.wr (fun _=>rfl) (i:=e.person.toNat) (k:=0) (by omega) (c:=.bool false) (new:= []) (by simp) (y:=false) (by simp [splice])
 have hg2:=(hs2 sg (Ne.symm hbgs)).trans hg
 have he2:=(hs2 H.next (fun hc=>by have:=hOl _ hOo; omega)).trans hge
 obtain ⟨hS2,hW2⟩:=h1.wr 2 (by decide) (H1:=H2) (s1:=dieA s e) (bk1:=s.fell.map Prod.fst) (dy1:=s.fell.map Prod.snd) (by omega) (ownL_id.2 ho2) (fun k hk hne=>hs2 k fun hc=>hne (hbk.trans (congrArg some hc.symm))) rfl
 have f2:Frm O O H1 H2:=Frm.wr hl1 hOo hn2 hs2
 have hwA:=dieA_wf hw e
 have hGA:Wg b (dieA s e):=⟨hG.gr,hG.wa⟩
 simp (disch:=omega) [hH1]
 simp (disch:=omega) [hg,hge,hw2]
 refine wp_up tok mix (by kernel_rfl) s.owners.length (fun i ρ m H3=>ρ 0=.pointer (some (ga sg 0 0))∧ρ 3=.pointer (some (ga H.next 0 0))∧ρ 4=vi i∧m= []∧Frm O O H1 H3∧
  RIn H3 N ⟨⟨⟨ra,rf⟩⟩,⟨oa,of'⟩,⟨va',vf'⟩⟩ b sg ((List.range i).foldl (ownStep e) (dieA s e)) (s.fell.map Prod.fst) (s.fell.map Prod.snd) v1 v2 (.slice (some al) s.lives.length fl) (.slice ao s.owners.length fo) vg va vw vb vd∧
  (∀g,O g↔RecOwn sg (vecs b ((List.range i).foldl (ownStep e) (dieA s e)) (s.fell.map Prod.fst) (s.fell.map Prod.snd) v1 v2 (.slice (some al) s.lives.length fl) (.slice ao s.owners.length fo) vg va vw vb vd) g)∧Wg b ((List.range i).foldl (ownStep e) (dieA s e))) (i0:=0) (by omega)
  ⟨by simp,by simp,by simp,by simp,f2,hS2,fun g=>(hO g).trans (hW2 g).symm,hGA⟩ ?_
 rintro i ρ m H3 hi ⟨e0,e3,e4,rfl,f3,h3,hO3,hG3⟩
 have hg3:=h3.g
 have he3:=(f3.keep H.next (by omega) (fun hc=>by have:=hOl _ hc; omega)).trans hge
 have hn3:=f3.next
 obtain ⟨hw3,ho3,hgl3,hww3⟩:=ownFold_ok (e:=e) hwA i
 simp (disch:=omega) [e0,e4,hg3]
 refine wpB_dec (fun hlt2=>?_) (fun hge1=>?_)
 ·have hrf:=range_fold (ownStep e) (dieA s e) i
  generalize hcur:(List.range i).foldl (ownStep e) (dieA s e)=c at*
  have hol:c.owners.length=s.owners.length:=ho3
  have hltI:(i:Int)<s.owners.length:=by omega
  obtain ⟨a2,rfl,hab,hrd⟩:=(h3.owners.elems' (fun _=>rfl)).at i (by omega)
  have hoa:oAt c i=c.owners[i]'(by omega):=getD_at (by omega)
  simp (disch:=omega) [e0,e3,e4,hg3,hrd,he3]
  refine wpB_dec (fun h5=>?_) (fun h5=>?_)
  ·simp (disch:=omega) [e0,e3,e4,he3]
   refine (rown_con h3 hO3 (by have:=hw3.len; omega) i (by omega) e.other).mono ?_
   rintro x H4 ⟨rfl,f4,h4,hO4⟩
   simp (disch:=omega) [e0,e3,e4,hlt2,wrap64]
   have hst:ownStep e c i=ownS c i e.other:=by unfold ownStep; rw [if_pos (by rw [hoa]; exact h5)]
   rw [hrf,hst]
   exact ⟨f3.trans f4,h4,hO4,hG3.own _ _⟩
  ·simp (disch:=omega) [e0,e3,e4,hlt2,wrap64]
   have hst:ownStep e c i=c:=by unfold ownStep; rw [if_neg (by rw [hoa]; exact h5)]
   rw [hrf,hst]
   exact ⟨f3,h3,hO3,hG3⟩
 ·have:i=s.owners.length:=by omega
  subst this
  obtain ⟨sB,hsB⟩:∃sB,dieB (dieA s e) e=sB:=⟨_,rfl⟩
  change RIn H3 N _ b sg (dieB (dieA s e) e) _ _ _ _ _ _ _ _ _ _ _ at h3
  change Wf b (dieB (dieA s e) e) at hw3
  change Wg b (dieB (dieA s e) e) at hG3
  change (dieB (dieA s e) e).waits=s.waits at hww3
  change (dieB (dieA s e) e).grants.length=s.grants.length at hgl3
  have hO3':∀g,O g↔RecOwn sg (vecs b (dieB (dieA s e) e) (s.fell.map Prod.fst) (s.fell.map Prod.snd) v1 v2 (.slice (some al) s.lives.length fl) (.slice ao s.owners.length fo) vg va vw vb vd) g:=hO3
  have hfB:(dieB (dieA s e) e).fell=s.fell:=ownStep_fell e (dieA s e) _
  rw [hsB] at h3 hw3 hG3 hww3 hgl3 hO3' hfB
  clear hO3
  obtain ⟨aw,fw,rfl,hEw⟩:=h3.waits.elems (fun _=>rfl)
  rw [hww3] at h3 hO3'
  have hg3:=h3.g
  have hn31:H1.next≤H3.next:=f3.next
  simp
  refine wp_up tok mix (by kernel_rfl) s.waits.length (fun i ρ m H4=>ρ 0=.pointer (some (ga sg 0 0))∧ρ 3=.pointer (some (ga H.next 0 0))∧ρ 6=vi i∧m= []∧Sub H3 H4∧
   OwnL H4 H3.next (ρ 5) 3 1 encI ((s.waits.take i).filter (notOf b e))) (i0:=0) (by omega)
   ⟨by simp [e0],by simp [e3],by simp,by simp,.refl _,by simpa using OwnL.nil⟩ ?_
  rintro i ρ m H4 hi ⟨d0,d3,d6,rfl,hs4,hv4⟩
  have h4:=h3.sub hs4
  have hg4:=h4.g
  have he4:=(hs4.2 H.next (by omega)).trans he3
  have hn4:=hs4.1
  generalize hv8:ρ 5=v8 at hv4
  have hl8:=hv4.len
  have htl:((s.waits.take i).filter (notOf b e)).length≤100:=by
   have:=List.length_filter_le (notOf b e) (s.waits.take i)
   simp at this ⊢; omega
  simp (disch:=omega) [d0,d6,hg4]
  refine wpB_dec (fun hlt2=>?_) (fun hge2=>?_)
  ·have hltI:(i:Int)<s.waits.length:=by omega
   have hil:i<sB.waits.length:=by rw [hww3]; exact hlt2
   obtain ⟨a2,ha2,hab,hrd⟩:=(hEw.mono hs4).at i hil
   cases ha2
   obtain ⟨w,hW⟩:∃w,s.waits[i]=w:=⟨_,rfl⟩
   have hwi:sB.waits[i]=w:=by rw [←hW]; congr 1
   rw [hwi] at hrd
   have hwr:=hw.w w (hW▸List.getElem_mem hlt2)
   obtain ⟨a3,rfl,hbb,hrb⟩:=h4.book.events.at w.toNat (by omega)
   have hev:evAt b w=b.events[w.toNat]'(by omega):=getD_at (by omega)
   have htk:s.waits.take (i+1)=s.waits.take i++ [w]:=by rw [←hW]; exact List.take_succ_eq_append_getElem hlt2
   simp (disch:=omega) [d0,d3,d6,hrd,he4,hg4,hrb]
   refine wpB_bool (fun h5=>?_) (fun h5=>?_)<;>(try simp only [Bool.not_eq_true',Bool.not_eq_false',decide_eq_true_eq,decide_eq_false_iff_not] at h5)
   ·obtain ⟨v8',H5,happ,ho5,hn5,hf5,hb5⟩:=(hv4.push (.arr { cells:= [vi w],ty:=3 })).app (by simp) (by simp) (by decide) w (by simp; omega)
    simp only [encI] at happ
    generalize hF:((s.waits.take i).filter (notOf b e))=F at*
    have d8:8*(1+F.length)≤1000000:=by omega
    have d9:1+F.length≤1000000:=by omega
    obtain ⟨a8,f8,rfl⟩:=ho5.slice
    simp (disch:=omega) [d0,d3,d6,hg4,hrd,hv8,hl8,d8,d9,happ,hlt2,wrap64]
    simp only [GH.next_push] at hn5
    refine ⟨⟨by omega,fun g hg=>?_⟩,?_⟩
    ·rw [hf5 g (by simp; omega) (fun hc=>by have:=(hv4.blk_lt hc).1; omega),GH.get_push_lt _ _ (by omega),hs4.2 g hg]
    ·rw [htk,List.filter_append,hF]
     have: [w].filter (notOf b e)= [w]:=by simp [notOf,hev,h5]
     rw [this]
     simpa using ho5
   ·simp (disch:=omega) [d0,d3,d6,hlt2,wrap64]
    refine ⟨hs4,?_⟩
    rw [htk,List.filter_append]
    have: [w].filter (notOf b e)= []:=by simp [notOf,hev,h5]
    rw [this,List.append_nil,hv8]; exact hv4
  ·have:i=s.waits.length:=by omega
   subst this
   rw [List.take_length] at hv4
   have hC:({ sB with waits:=s.waits.filter (notOf b e) }:Stand)=dieC b sB e:=by simp only [dieC,hww3]
   have hfC:(dieC b sB e).fell=s.fell:=hfB
   have hbC:∀k,k<H3.next→H4.get k=H3.get k:=hs4.2
   obtain ⟨hS5,hW5⟩:=h3.upd 6 (by decide) (H1:=H4) (s1:= { sB with waits:=s.waits.filter (notOf b e) }) (bk1:=s.fell.map Prod.fst) (dy1:=s.fell.map Prod.snd) hs4.1 (ownL_id.2 (hv4.weaken (by have:=h3.sgl; omega))) (fun k hk _=>hs4.2 k hk) (fun k hk=>.inr (hv4.blk_lt hk).1) rfl
   rw [hC] at hS5 hW5
   rw [←hfC] at hS5
   obtain ⟨O5,f5,h5⟩:=RegS.of h3 hO3' hS5 (by simpa using hs4.1) (fun k hk ho=>by
    rw [hO3'] at ho
    rw [GH.get_put_ne _ _ (fun hc=>ho (.inl hc)),hs4.2 k hk]) (fun k hk=>hW5 k (by rw [hfC] at hk; exact hk))
   have hwC:=dieC_wf hw3 e
   have hGC:Wg b (dieC b sB e):=⟨hG3.gr,fun w hw=>hG3.wa w (List.mem_filter.1 hw).1⟩
   obtain ⟨a8,f8,rfl⟩:=hv4.slice
   obtain ⟨ag,fg,rfl,hEg⟩:=hS5.grants.elems (fun _=>rfl)
   have hgC:=hS5.g
   have hslC:=hS5.sgl.2
   have hglC:(dieC b sB e).grants.length=sB.grants.length:=rfl
   simp only [bookC,List.cons_append,List.nil_append] at hgC hslC f5 h5
   simp (disch:=omega) [d0,hg4,hv8]
   generalize hHC:H4.put sg _=HC at f5 h5 hgC hslC ⊢
   generalize hsC:dieC b sB e=sC at*
   have hC100:sC.grants.length≤100:=by have:=hwC.len; omega
   refine wp_up tok mix (by kernel_rfl) sC.grants.length (fun i ρ m H6=>ρ 0=.pointer (some (ga sg 0 0))∧ρ 3=.pointer (some (ga H.next 0 0))∧ρ 7=vi sC.grants.length∧ρ 8=vi i∧m= []∧
    ∃O6,Frm O O6 H1 H6∧RegS H6 N ⟨⟨⟨ra,rf⟩⟩,⟨oa,of'⟩,⟨va',vf'⟩⟩ b sg ((List.range i).foldl (endStep b e) sC) O6∧Wf b ((List.range i).foldl (endStep b e) sC)∧Wg b ((List.range i).foldl (endStep b e) sC)∧sC.grants.length≤((List.range i).foldl (endStep b e) sC).grants.length) (i0:=0) (by omega)
    ⟨by simp [d0],by simp [d3],by simp,by simp,by simp,O5,f3.trans f5,h5,hwC,hGC,Nat.le_refl _⟩ ?_
   rintro i ρ m H6 hi ⟨c0,c3,c7,c8,rfl,O6,f6,h6,hw6,hG6,hl6⟩
   have he6:=(f6.keep H.next (by omega) (fun hc=>by have:=hOl _ hc; omega)).trans hge
   simp [c7,c8]
   refine wpB_dec (fun hlt3=>?_) (fun hge3=>?_)
   ·have hrf:=range_fold (endStep b e) sC i
    generalize hcur:(List.range i).foldl (endStep b e) sC=c at*
    have hil:i<c.grants.length:=by omega
    obtain ⟨hwn,hln⟩:=endStep_ok (e:=e) hw6 hil
    have hGn:Wg b (endStep b e c i):=by
     unfold endStep
     split
     ·exact hG6.endS hil _
     ·exact hG6
    rw [←hrf] at hwn hln hGn
    have hga:gAt c i=c.grants[i]:=getD_at hil
    have h6s:=h6
    obtain ⟨_,_,_,_,vg6,_,_,_,_,h6',hO6⟩:=h6
    have hg6:=h6'.g
    have hsl6:=h6'.sgl.2
    obtain ⟨a6,q6,rfl,hE6⟩:=h6'.grants.elems (fun _=>rfl)
    obtain ⟨a6,rfl,hab6,hrd6⟩:=hE6.at i hil
    have hilI:(i:Int)<c.grants.length:=by omega
    simp (disch:=omega) [c0,c8,hg6,hrd6]
    refine planG_bool (fun h8=>?_) (fun h8=>?_)<;>(try simp only [decide_eq_true_eq,decide_eq_false_iff_not] at h8)
    ·simp (disch:=omega) [c0,c3,c8,hg6,hrd6,he6,h8]
     refine wpB_dec (fun h9=>?_) (fun h9=>?_)
     ·simp (disch:=omega) [c0,c3,c8,he6]
      refine (rend_con h6s hw6 hG6 hsu i hil (by rw [h8]; decide) e.day).mono ?_
      rintro x H8 ⟨rfl,O8,f8',h8'⟩
      have hcs:endStep b e c i=endS b c i e.day:=by unfold endStep; rw [if_pos ⟨by rw [hga]; exact h8,by rw [hga]; exact h9⟩]
      rw [hcs] at hrf
      rw [←hrf] at h8'
      simp (disch:=omega) [c0,c3,c7,c8,wrap64]
      exact ⟨hlt3,O8,f6.trans f8',h8',hwn,hGn,by omega⟩
     ·have hcs:endStep b e c i=c:=by unfold endStep; rw [if_neg (fun hc=>h9 (by rw [←hga]; exact hc.2))]
      rw [hcs] at hrf
      rw [←hrf] at h6s
      simp (disch:=omega) [c0,c3,c7,c8,wrap64]
      exact ⟨hlt3,O6,f6,h6s,hwn,hGn,by omega⟩
    ·have hcs:endStep b e c i=c:=by unfold endStep; rw [if_neg (fun hc=>h8 (by rw [←hga]; exact hc.1))]
     rw [hcs] at hrf
     rw [←hrf] at h6s
     simp (disch:=omega) [c0,c3,c7,c8,wrap64,h8]
     exact ⟨hlt3,O6,f6,h6s,hwn,hGn,by omega⟩
   ·have:i=sC.grants.length:=by omega
    subst this
    change RegS H6 N _ b sg (dieD b sC e) O6 at h6
    change Wf b (dieD b sC e) at hw6
    change Wg b (dieD b sC e) at hG6
    have hfin:dieS b s e=dieE b (dieD b sC e) e:=by rw [←hsC,←hsB]; rfl
    generalize hsD:dieD b sC e=sD at*
    have hD100:sD.grants.length≤100:=by have:=hw6.len; omega
    have hO6l:=fun g ho=>(h6.lt g ho).2
    have hlD:=hw6.last
    obtain ⟨u1,u2,ul,uo,ug,ua,uw,ub,ud,h6',hO6⟩:=h6
    have hg6:=h6'.g
    have hsl6:=h6'.sgl.2
    obtain ⟨a6,q6,rfl,hE6⟩:=h6'.grants.elems (fun _=>rfl)
    obtain ⟨aa6,qa6,rfl,hEa6⟩:=h6'.last.elems (fun _=>rfl)
    have hst0:∀i,((List.range i).foldl (heirStep b e) sD).fell=sD.fell:=by
     intro i
     induction i with
     |zero=>rfl
     |succ i ih=>
      rw [range_fold]
      unfold heirStep
      split
      ·exact ih
      ·exact ih
    simp
    refine wp_up tok mix (by kernel_rfl) sD.grants.length (fun i ρ m H7=>ρ 0=.pointer (some (ga sg 0 0))∧ρ 3=.pointer (some (ga H.next 0 0))∧ρ 9=vi i∧m= []∧
     Frm O6 O6 H6 H7∧RIn H7 N ⟨⟨⟨ra,rf⟩⟩,⟨oa,of'⟩,⟨va',vf'⟩⟩ b sg ((List.range i).foldl (heirStep b e) sD) (sD.fell.map Prod.fst) (sD.fell.map Prod.snd) u1 u2 ul uo (.slice a6 sD.grants.length q6) (.slice aa6 sD.last.length qa6) uw ub ud∧
     (∀g,O6 g↔RecOwn sg (vecs b ((List.range i).foldl (heirStep b e) sD) (sD.fell.map Prod.fst) (sD.fell.map Prod.snd) u1 u2 ul uo (.slice a6 sD.grants.length q6) (.slice aa6 sD.last.length qa6) uw ub ud) g)∧((List.range i).foldl (heirStep b e) sD).grants.length=sD.grants.length∧((List.range i).foldl (heirStep b e) sD).last.length=sD.last.length) (i0:=0) (by omega)
     ⟨by simp [c0],by simp [c3],by simp,by simp,Frm.refl hO6l,h6',hO6,rfl,rfl⟩ ?_
    rintro i ρ m H7 hi ⟨b0,b3,b9,rfl,f7,h7,hO7,hgl7,hll7⟩
    have f17:=f6.trans f7
    have he7:=(f17.keep H.next (by omega) (fun hc=>by have:=hOl _ hc; omega)).trans hge
    have hg7:=h7.g
    have hsl7:=h7.sgl.2
    simp (disch:=omega) [b0,b9,hg7]
    refine wpB_dec (fun hlt3=>?_) (fun hge3=>?_)
    ·have hrf:=range_fold (heirStep b e) sD i
     generalize hcur:(List.range i).foldl (heirStep b e) sD=c at*
     have hil:i<c.grants.length:=by omega
     have hga:gAt c i=c.grants[i]:=getD_at hil
     obtain ⟨a7,ha7,hab7,hrd7⟩:=(h7.grants.elems' (fun _=>rfl)).at i hil
     subst ha7
     have hilI:(i:Int)<sD.grants.length:=by omega
     have hskip:¬((gAt c i).is=1∧(gAt c i).estate<0∧(gAt c i).person=e.person)→heirStep b e c i=c:=fun hc=>by unfold heirStep; rw [if_neg hc]
     simp (disch:=omega) [b0,b9,hg7,hrd7]
     refine planG_bool (fun k1=>?_) (fun k1=>?_)<;>(try simp only [decide_eq_true_eq,decide_eq_false_iff_not] at k1)
     ·simp (disch:=omega) [b0,b9,hg7,hrd7,k1]
      refine planG_bool (fun k2=>?_) (fun k2=>?_)<;>(try simp only [decide_eq_true_eq,decide_eq_false_iff_not] at k2)
      ·simp (disch:=omega) [b0,b3,b9,hg7,hrd7,he7,k1,k2]
       refine wpB_dec (fun k3=>?_) (fun k3=>?_)
       ·have hst:heirStep b e c i= { c with grants:=c.grants.set i { c.grants[i] with is:=2,person:=e.other },last:=c.last.set i (IntKind.i64.wrap (e.day+b.term)) }:=by
         unfold heirStep; rw [if_pos (by rw [hga]; exact ⟨k1,k2,k3⟩),hga]
        have hbk7:=h7.grants.blk_some
        obtain ⟨aa7,haa,_,_⟩:=(h7.last.elems' (fun _=>rfl)).at i (by omega)
        subst haa
        have hbka:=h7.last.blk_some
        obtain ⟨Ha,hwa,hoa,hna,hsa⟩:=h7.grants.wr (fun _=>rfl) (i:=i) (k:=0) hil (c:=vi 2) (new:= []) (by simp) (y:= { c.grants[i] with is:=2 }) (by simp [splice])
        obtain ⟨Hb,hwb,hob,hnb,hsb⟩:=hoa.wr (fun _=>rfl) (i:=i) (k:=1) (by simpa using hil) (c:=vi e.other) (new:= []) (by simp) (y:= { c.grants[i] with is:=2,person:=e.other }) (by simp [splice])
        simp only [List.set_set] at hob
        have hne1:a7.block≠sg:=fun hc=>h7.ne 4 (by decide) (hbk7.trans (congrArg some hc))
        have hne2:aa7.block≠sg:=fun hc=>h7.ne 5 (by decide) (hbka.trans (congrArg some hc))
        have hOg:O6 a7.block:=(hO7 _).2 (h7.own_ 4 (by decide) hbk7)
        have hOa:O6 aa7.block:=(hO7 _).2 (h7.own_ 5 (by decide) hbka)
        obtain ⟨hSb,hWb⟩:=h7.wr 4 (by decide) (H1:=Hb) (s1:= { c with grants:=c.grants.set i { c.grants[i] with is:=2,person:=e.other } }) (bk1:=sD.fell.map Prod.fst) (dy1:=sD.fell.map Prod.snd) (by omega) (ownL_id.2 hob) (fun k hk hne=>by
         have hka:k≠a7.block:=fun hc=>hne (hbk7.trans (congrArg some hc.symm))
         rw [hsb k hka,hsa k hka]) rfl
        obtain ⟨Hc,hwc,hoc,hnc,hsc⟩:=hSb.last.wr (fun _=>rfl) (i:=i) (k:=0) (by show i<c.last.length; omega) (c:=vi (IntKind.i64.wrap (e.day+b.term))) (new:= []) (by simp) (y:=IntKind.i64.wrap (e.day+b.term)) (by simp [splice])
        obtain ⟨hSc,hWc⟩:=hSb.wr 5 (by decide) (H1:=Hc) (s1:= { c with grants:=c.grants.set i { c.grants[i] with is:=2,person:=e.other },last:=c.last.set i (IntKind.i64.wrap (e.day+b.term)) }) (bk1:=sD.fell.map Prod.fst) (dy1:=sD.fell.map Prod.snd) (by omega) (ownL_id.2 hoc) (fun k hk hne=>hsc k fun hc=>hne (hbka.trans (congrArg some hc.symm))) rfl
        have f9:Frm O6 O6 H7 Ha:=Frm.wr f7.lt hOg hna hsa
        have f10:Frm O6 O6 Ha Hb:=Frm.wr f9.lt hOg hnb hsb
        have f11:Frm O6 O6 Hb Hc:=Frm.wr f10.lt hOa hnc hsc
        have hnO:¬O6 H.next:=fun hc=>by
         rcases f6.own _ hc with h|h
         ·have:=hOl _ h; omega
         ·omega
        have hn7:=f17.next
        have hea:Ha.get H.next=_:=(f9.keep H.next (by omega) hnO).trans he7
        have heb:Hb.get H.next=_:=(f10.keep H.next (by omega) hnO).trans hea
        have hga7:Ha.get sg=_:=(hsa sg (Ne.symm hne1)).trans hg7
        have hgb7:Hb.get sg=_:=(hsb sg (Ne.symm hne1)).trans hga7
        have hilL:(i:Int)<sD.last.length:=by omega
        simp (disch:=omega) [b0,b3,b9,hg7,hwa,hga7,hea,hwb,hgb7,heb,hwc,wrap64]
        refine ⟨hlt3,f7.trans (f9.trans (f10.trans f11)),?_,?_,?_,?_⟩
        ·rw [hrf,hst]; exact hSc
        ·rw [hrf,hst]; exact fun g=>((hO7 g).trans (hWb g).symm).trans (hWc g).symm
        ·rw [hrf,hst]; simpa using hgl7
        ·rw [hrf,hst]; simpa using hll7
       ·rw [hskip (fun hc=>k3 (by rw [←hga]; exact hc.2.2))] at hrf
        simp (disch:=omega) [b0,b3,b9,wrap64]
        exact ⟨hlt3,f7,by rw [hrf]; exact h7,by rw [hrf]; exact hO7,by rw [hrf]; exact hgl7,by rw [hrf]; exact hll7⟩
      ·rw [hskip (fun hc=>k2 (by rw [←hga]; exact hc.2.1))] at hrf
       simp (disch:=omega) [b0,b3,b9,wrap64,k2]
       exact ⟨hlt3,f7,by rw [hrf]; exact h7,by rw [hrf]; exact hO7,by rw [hrf]; exact hgl7,by rw [hrf]; exact hll7⟩
     ·rw [hskip (fun hc=>k1 (by rw [←hga]; exact hc.1))] at hrf
      simp (disch:=omega) [b0,b3,b9,wrap64,k1]
      exact ⟨hlt3,f7,by rw [hrf]; exact h7,by rw [hrf]; exact hO7,by rw [hrf]; exact hgl7,by rw [hrf]; exact hll7⟩
    ·have:i=sD.grants.length:=by omega
     subst this
     simp
     have hfE:=hst0 sD.grants.length
     rw [hfin]
     change RIn H7 N _ b sg (dieE b sD e) _ _ _ _ _ _ _ _ _ _ _ at h7
     have hO7':∀g,O6 g↔RecOwn sg (vecs b (dieE b sD e) (sD.fell.map Prod.fst) (sD.fell.map Prod.snd) u1 u2 ul uo (.slice a6 sD.grants.length q6) (.slice aa6 sD.last.length qa6) uw ub ud) g:=hO7
     change (dieE b sD e).fell=sD.fell at hfE
     rw [←hfE] at h7 hO7'
     exact ⟨O6,f1.trans (f6.trans f7),_,_,_,_,_,_,_,_,_,h7,hO7'⟩
end
end Go.Gm.Tryz
end
section
namespace Go.Gm.Tryz
open Go.Proofs
section
variable {H:GH} {N:Nat} {l:BLoc} {b:Book} {sg:Nat} {s:Stand} {O:Nat→Prop}
theorem rdo1 (h:RegS H N l b sg s O) (hw:Wf b s) (_hG:Wg b s) (hsu:0≤b.supply∧b.supply≤10000) {i:Nat} (hi:i<b.events.length) {e:Ev} (hE:b.events[i]=e) (k:e.kind=1) (_he:EvOk b s e) (_hgo:goesB b s e=true) (hwd:Wf b (doS b s e i)) (hGd:Wg b (doS b s e i)):
  GCall Tryz.prog 81 [.pointer (some (ga sg 0 0)),vi i] H fun x H'=>x=.ret (.tuple #[])∧∃O',Frm O O' H H'∧RegS H' N l b sg (serve b (doS b s e i)) O':=by
 rcases l with ⟨⟨⟨ra,rf⟩⟩,⟨oa,of'⟩,⟨va',vf'⟩⟩
 refine gcall_wp tok mix fok81 (F:=g81) (c:=_) rfl (n:=168) rfl (rs:= []) rfl ?_
 have hs1:Sub H ((H.push (.arr { cells:= [vi 0,vi 0,vi 0,vi 0,vi 0,vi 0,vi 0,vi 0],ty:=103 })).put H.next (.arr { cells:= [vi e.kind,vi e.day,vi e.person,vi e.other,vi e.estate,vi e.grant,vi e.system,vi e.units],ty:=103 })):=(Sub.push (.refl H) _).put (Nat.le_refl _) _
 obtain ⟨h1S,f1⟩:=h.sub hs1
 have hge:((H.push (.arr { cells:= [vi 0,vi 0,vi 0,vi 0,vi 0,vi 0,vi 0,vi 0],ty:=103 })).put H.next (.arr { cells:= [vi e.kind,vi e.day,vi e.person,vi e.other,vi e.estate,vi e.grant,vi e.system,vi e.units],ty:=103 })).get H.next=some (.arr { cells:= [vi e.kind,vi e.day,vi e.person,vi e.other,vi e.estate,vi e.grant,vi e.system,vi e.units],ty:=103 }):=by simp
 have hnx:((H.push (.arr { cells:= [vi 0,vi 0,vi 0,vi 0,vi 0,vi 0,vi 0,vi 0],ty:=103 })).put H.next (.arr { cells:= [vi e.kind,vi e.day,vi e.person,vi e.other,vi e.estate,vi e.grant,vi e.system,vi e.units],ty:=103 })).next=H.next+1:=by simp
 have hOl:∀g,O g→g<H.next:=fun g hg=>(h.lt g hg).2
 have hlen:=hw.len
 have hla:=hw.last
 have hlo:=hw.own
 have hltI:(i:Int)<b.events.length:=by omega
 obtain ⟨_,_,_,_,_,_,_,_,_,h0,_⟩:=h
 have hg0:=h0.g
 obtain ⟨ae,rfl,haeb,hrev⟩:=h0.book.events.at i hi
 rw [hE] at hrev
 simp (disch:=omega) [hg0,hrev]
 generalize hH1:GH.put (GH.push H _) H.next (.arr { cells:= [vi e.kind,vi e.day,vi e.person,vi e.other,vi e.estate,vi e.grant,vi e.system,vi e.units],ty:=103 })=H1 at*
 have hdo:doS b s e i=giveS s e:=by unfold doS; simp [k]
 rw [hdo] at hwd hGd ⊢
 simp (disch:=omega) [hge,k]
 refine (rgrant_con h1S (by omega) (by omega) _ _ _ _).mono ?_
 rintro x H5 ⟨rfl,O5,f5,h5⟩
 simp
 refine (rserve_con h5 hwd hGd hsu).mono ?_
 rintro x H6 ⟨rfl,O6,f6,h6⟩
 simp
 exact ⟨O6,f1.trans (f5.trans f6),h6⟩
theorem rdo2 (h:RegS H N l b sg s O) (hw:Wf b s) (_hG:Wg b s) (hsu:0≤b.supply∧b.supply≤10000) {i:Nat} (hi:i<b.events.length) {e:Ev} (hE:b.events[i]=e) (k:e.kind=2) (he:EvOk b s e) (hgo:goesB b s e=true) (hwd:Wf b (doS b s e i)) (hGd:Wg b (doS b s e i)):
  GCall Tryz.prog 81 [.pointer (some (ga sg 0 0)),vi i] H fun x H'=>x=.ret (.tuple #[])∧∃O',Frm O O' H H'∧RegS H' N l b sg (serve b (doS b s e i)) O':=by
 rcases l with ⟨⟨⟨ra,rf⟩⟩,⟨oa,of'⟩,⟨va',vf'⟩⟩
 refine gcall_wp tok mix fok81 (F:=g81) (c:=_) rfl (n:=168) rfl (rs:= []) rfl ?_
 have hs1:Sub H ((H.push (.arr { cells:= [vi 0,vi 0,vi 0,vi 0,vi 0,vi 0,vi 0,vi 0],ty:=103 })).put H.next (.arr { cells:= [vi e.kind,vi e.day,vi e.person,vi e.other,vi e.estate,vi e.grant,vi e.system,vi e.units],ty:=103 })):=(Sub.push (.refl H) _).put (Nat.le_refl _) _
 obtain ⟨h1S,f1⟩:=h.sub hs1
 have hge:((H.push (.arr { cells:= [vi 0,vi 0,vi 0,vi 0,vi 0,vi 0,vi 0,vi 0],ty:=103 })).put H.next (.arr { cells:= [vi e.kind,vi e.day,vi e.person,vi e.other,vi e.estate,vi e.grant,vi e.system,vi e.units],ty:=103 })).get H.next=some (.arr { cells:= [vi e.kind,vi e.day,vi e.person,vi e.other,vi e.estate,vi e.grant,vi e.system,vi e.units],ty:=103 }):=by simp
 have hnx:((H.push (.arr { cells:= [vi 0,vi 0,vi 0,vi 0,vi 0,vi 0,vi 0,vi 0],ty:=103 })).put H.next (.arr { cells:= [vi e.kind,vi e.day,vi e.person,vi e.other,vi e.estate,vi e.grant,vi e.system,vi e.units],ty:=103 })).next=H.next+1:=by simp
 have hOl:∀g,O g→g<H.next:=fun g hg=>(h.lt g hg).2
 have hlen:=hw.len
 have hla:=hw.last
 have hlo:=hw.own
 have hltI:(i:Int)<b.events.length:=by omega
 obtain ⟨_,_,_,_,_,_,_,_,_,h0,_⟩:=h
 have hg0:=h0.g
 obtain ⟨ae,rfl,haeb,hrev⟩:=h0.book.events.at i hi
 rw [hE] at hrev
 simp (disch:=omega) [hg0,hrev]
 generalize hH1:GH.put (GH.push H _) H.next (.arr { cells:= [vi e.kind,vi e.day,vi e.person,vi e.other,vi e.estate,vi e.grant,vi e.system,vi e.units],ty:=103 })=H1 at*
 have hdo:doS b s e i=attachS s e:=by unfold doS; simp [k]
 rw [hdo] at hwd hGd ⊢
 have hes:=he.estate
 have hgo':=hgo
 simp [goesB,k,existsB] at hgo'
 obtain ⟨v1,v2,vl,vo,vg,va,vw,vb,vd,h1,hO⟩:=h1S
 have hg:=h1.g
 have hsl:=h1.sgl.2
 obtain ⟨ao,fo,rfl,hEo⟩:=h1.owners.elems (fun _=>rfl)
 obtain ⟨ao,rfl,hao,hro⟩:=hEo.at e.estate.toNat (by omega)
 have e2:s.owners.getD e.estate.toNat 0=s.owners[e.estate.toNat]'(by omega):=getD_at (by omega)
 have hlt:e.estate<s.owners.length:=by omega
 simp (disch:=omega) [hge,k,hg,hro]
 unfold attachS at hwd hGd ⊢
 rw [e2] at hwd hGd ⊢
 refine (rgrant_con ⟨_,_,_,_,_,_,_,_,_,h1,hO⟩ (by omega) (by omega) _ _ _ _).mono ?_
 rintro x H5 ⟨rfl,O5,f5,h5⟩
 simp
 refine (rserve_con h5 hwd hGd hsu).mono ?_
 rintro x H6 ⟨rfl,O6,f6,h6⟩
 simp
 exact ⟨O6,f1.trans (f5.trans f6),h6⟩
theorem rdo3 (h:RegS H N l b sg s O) (hw:Wf b s) (hG:Wg b s) (hsu:0≤b.supply∧b.supply≤10000) {i:Nat} (hi:i<b.events.length) {e:Ev} (hE:b.events[i]=e) (k:e.kind=3) (he:EvOk b s e) (_hgo:goesB b s e=true) (hwd:Wf b (doS b s e i)) (hGd:Wg b (doS b s e i)):
  GCall Tryz.prog 81 [.pointer (some (ga sg 0 0)),vi i] H fun x H'=>x=.ret (.tuple #[])∧∃O',Frm O O' H H'∧RegS H' N l b sg (serve b (doS b s e i)) O':=by
 rcases l with ⟨⟨⟨ra,rf⟩⟩,⟨oa,of'⟩,⟨va',vf'⟩⟩
 refine gcall_wp tok mix fok81 (F:=g81) (c:=_) rfl (n:=168) rfl (rs:= []) rfl ?_
 have hs1:Sub H ((H.push (.arr { cells:= [vi 0,vi 0,vi 0,vi 0,vi 0,vi 0,vi 0,vi 0],ty:=103 })).put H.next (.arr { cells:= [vi e.kind,vi e.day,vi e.person,vi e.other,vi e.estate,vi e.grant,vi e.system,vi e.units],ty:=103 })):=(Sub.push (.refl H) _).put (Nat.le_refl _) _
 obtain ⟨h1S,f1⟩:=h.sub hs1
 have hge:((H.push (.arr { cells:= [vi 0,vi 0,vi 0,vi 0,vi 0,vi 0,vi 0,vi 0],ty:=103 })).put H.next (.arr { cells:= [vi e.kind,vi e.day,vi e.person,vi e.other,vi e.estate,vi e.grant,vi e.system,vi e.units],ty:=103 })).get H.next=some (.arr { cells:= [vi e.kind,vi e.day,vi e.person,vi e.other,vi e.estate,vi e.grant,vi e.system,vi e.units],ty:=103 }):=by simp
 have hnx:((H.push (.arr { cells:= [vi 0,vi 0,vi 0,vi 0,vi 0,vi 0,vi 0,vi 0],ty:=103 })).put H.next (.arr { cells:= [vi e.kind,vi e.day,vi e.person,vi e.other,vi e.estate,vi e.grant,vi e.system,vi e.units],ty:=103 })).next=H.next+1:=by simp
 have hOl:∀g,O g→g<H.next:=fun g hg=>(h.lt g hg).2
 have hlen:=hw.len
 have hla:=hw.last
 have hlo:=hw.own
 have hltI:(i:Int)<b.events.length:=by omega
 obtain ⟨_,_,_,_,_,_,_,_,_,h0,_⟩:=h
 have hg0:=h0.g
 obtain ⟨ae,rfl,haeb,hrev⟩:=h0.book.events.at i hi
 rw [hE] at hrev
 simp (disch:=omega) [hg0,hrev]
 generalize hH1:GH.put (GH.push H _) H.next (.arr { cells:= [vi e.kind,vi e.day,vi e.person,vi e.other,vi e.estate,vi e.grant,vi e.system,vi e.units],ty:=103 })=H1 at*
 have hdo:doS b s e i=dieS b s e:=by unfold doS; simp [k]
 rw [hdo] at hwd hGd ⊢
 simp (disch:=omega) [hge,k]
 have hd:=rdies_con h1S hw hG hsu e (he.person (by omega) (by omega))
 simp only [evV,k] at hd
 refine hd.mono ?_
 rintro x H5 ⟨rfl,O5,f5,h5⟩
 simp
 refine (rserve_con h5 hwd hGd hsu).mono ?_
 rintro x H6 ⟨rfl,O6,f6,h6⟩
 simp
 exact ⟨O6,f1.trans (f5.trans f6),h6⟩
theorem rdo4 (h:RegS H N l b sg s O) (hw:Wf b s) (_hG:Wg b s) (hsu:0≤b.supply∧b.supply≤10000) {i:Nat} (hi:i<b.events.length) {e:Ev} (hE:b.events[i]=e) (k:e.kind=4) (he:EvOk b s e) (hgo:goesB b s e=true) (hwd:Wf b (doS b s e i)) (hGd:Wg b (doS b s e i)):
  GCall Tryz.prog 81 [.pointer (some (ga sg 0 0)),vi i] H fun x H'=>x=.ret (.tuple #[])∧∃O',Frm O O' H H'∧RegS H' N l b sg (serve b (doS b s e i)) O':=by
 rcases l with ⟨⟨⟨ra,rf⟩⟩,⟨oa,of'⟩,⟨va',vf'⟩⟩
 refine gcall_wp tok mix fok81 (F:=g81) (c:=_) rfl (n:=168) rfl (rs:= []) rfl ?_
 have hs1:Sub H ((H.push (.arr { cells:= [vi 0,vi 0,vi 0,vi 0,vi 0,vi 0,vi 0,vi 0],ty:=103 })).put H.next (.arr { cells:= [vi e.kind,vi e.day,vi e.person,vi e.other,vi e.estate,vi e.grant,vi e.system,vi e.units],ty:=103 })):=(Sub.push (.refl H) _).put (Nat.le_refl _) _
 obtain ⟨h1S,f1⟩:=h.sub hs1
 have hge:((H.push (.arr { cells:= [vi 0,vi 0,vi 0,vi 0,vi 0,vi 0,vi 0,vi 0],ty:=103 })).put H.next (.arr { cells:= [vi e.kind,vi e.day,vi e.person,vi e.other,vi e.estate,vi e.grant,vi e.system,vi e.units],ty:=103 })).get H.next=some (.arr { cells:= [vi e.kind,vi e.day,vi e.person,vi e.other,vi e.estate,vi e.grant,vi e.system,vi e.units],ty:=103 }):=by simp
 have hnx:((H.push (.arr { cells:= [vi 0,vi 0,vi 0,vi 0,vi 0,vi 0,vi 0,vi 0],ty:=103 })).put H.next (.arr { cells:= [vi e.kind,vi e.day,vi e.person,vi e.other,vi e.estate,vi e.grant,vi e.system,vi e.units],ty:=103 })).next=H.next+1:=by simp
 have hOl:∀g,O g→g<H.next:=fun g hg=>(h.lt g hg).2
 have hlen:=hw.len
 have hla:=hw.last
 have hlo:=hw.own
 have hltI:(i:Int)<b.events.length:=by omega
 obtain ⟨_,_,_,_,_,_,_,_,_,h0,_⟩:=h
 have hg0:=h0.g
 obtain ⟨ae,rfl,haeb,hrev⟩:=h0.book.events.at i hi
 rw [hE] at hrev
 simp (disch:=omega) [hg0,hrev]
 generalize hH1:GH.put (GH.push H _) H.next (.arr { cells:= [vi e.kind,vi e.day,vi e.person,vi e.other,vi e.estate,vi e.grant,vi e.system,vi e.units],ty:=103 })=H1 at*
 have hdo:doS b s e i=ownS s e.estate.toNat e.person:=by unfold doS; simp [k]
 rw [hdo] at hwd hGd ⊢
 have hes:=he.estate
 have hgo':=hgo
 simp [goesB,k,existsB] at hgo'
 obtain ⟨en,hen⟩:=Int.eq_ofNat_of_zero_le hes
 obtain ⟨v1,v2,vl,vo,vg,va,vw,vb,vd,h1,hO⟩:=h1S
 simp (disch:=omega) [hge,k]
 have ho:=rown_con h1 hO (by omega) en (by omega) e.person
 rw [←hen,show en=e.estate.toNat by omega] at ho
 refine (ho.mono (R':=fun x H'=>x=.ret (.tuple #[])∧∃O',Frm O O' H1 H'∧RegS H' N ⟨⟨⟨ra,rf⟩⟩,⟨oa,of'⟩,⟨some ae,vf'⟩⟩ b sg (ownS s e.estate.toNat e.person) O') (fun x H' hx=>⟨hx.1,O,hx.2.1,_,_,_,_,_,_,_,_,_,hx.2.2.1,hx.2.2.2⟩)).mono ?_
 rintro x H5 ⟨rfl,O5,f5,h5⟩
 simp
 refine (rserve_con h5 hwd hGd hsu).mono ?_
 rintro x H6 ⟨rfl,O6,f6,h6⟩
 simp
 exact ⟨O6,f1.trans (f5.trans f6),h6⟩
theorem rdo5 (h:RegS H N l b sg s O) (hw:Wf b s) (_hG:Wg b s) (hsu:0≤b.supply∧b.supply≤10000) {i:Nat} (hi:i<b.events.length) {e:Ev} (hE:b.events[i]=e) (k:e.kind=5) (he:EvOk b s e) (hgo:goesB b s e=true) (hwd:Wf b (doS b s e i)) (hGd:Wg b (doS b s e i)):
  GCall Tryz.prog 81 [.pointer (some (ga sg 0 0)),vi i] H fun x H'=>x=.ret (.tuple #[])∧∃O',Frm O O' H H'∧RegS H' N l b sg (serve b (doS b s e i)) O':=by
 rcases l with ⟨⟨⟨ra,rf⟩⟩,⟨oa,of'⟩,⟨va',vf'⟩⟩
 refine gcall_wp tok mix fok81 (F:=g81) (c:=_) rfl (n:=168) rfl (rs:= []) rfl ?_
 have hs1:Sub H ((H.push (.arr { cells:= [vi 0,vi 0,vi 0,vi 0,vi 0,vi 0,vi 0,vi 0],ty:=103 })).put H.next (.arr { cells:= [vi e.kind,vi e.day,vi e.person,vi e.other,vi e.estate,vi e.grant,vi e.system,vi e.units],ty:=103 })):=(Sub.push (.refl H) _).put (Nat.le_refl _) _
 obtain ⟨h1S,f1⟩:=h.sub hs1
 have hge:((H.push (.arr { cells:= [vi 0,vi 0,vi 0,vi 0,vi 0,vi 0,vi 0,vi 0],ty:=103 })).put H.next (.arr { cells:= [vi e.kind,vi e.day,vi e.person,vi e.other,vi e.estate,vi e.grant,vi e.system,vi e.units],ty:=103 })).get H.next=some (.arr { cells:= [vi e.kind,vi e.day,vi e.person,vi e.other,vi e.estate,vi e.grant,vi e.system,vi e.units],ty:=103 }):=by simp
 have hnx:((H.push (.arr { cells:= [vi 0,vi 0,vi 0,vi 0,vi 0,vi 0,vi 0,vi 0],ty:=103 })).put H.next (.arr { cells:= [vi e.kind,vi e.day,vi e.person,vi e.other,vi e.estate,vi e.grant,vi e.system,vi e.units],ty:=103 })).next=H.next+1:=by simp
 have hOl:∀g,O g→g<H.next:=fun g hg=>(h.lt g hg).2
 have hlen:=hw.len
 have hla:=hw.last
 have hlo:=hw.own
 have hltI:(i:Int)<b.events.length:=by omega
 obtain ⟨_,_,_,_,_,_,_,_,_,h0,_⟩:=h
 have hg0:=h0.g
 obtain ⟨ae,rfl,haeb,hrev⟩:=h0.book.events.at i hi
 rw [hE] at hrev
 simp (disch:=omega) [hg0,hrev]
 generalize hH1:GH.put (GH.push H _) H.next (.arr { cells:= [vi e.kind,vi e.day,vi e.person,vi e.other,vi e.estate,vi e.grant,vi e.system,vi e.units],ty:=103 })=H1 at*
 have hdo:doS b s e i=divideS s e:=by unfold doS; simp [k]
 rw [hdo] at hwd hGd ⊢
 have hgr:=he.grant
 have hgo':=hgo
 simp [goesB,k,divB] at hgo'
 have hlt:e.grant<s.grants.length:=hgo'.1
 obtain ⟨v1,v2,vl,vo,vg,va,vw,vb,vd,h1,hO⟩:=h1S
 have hg:=h1.g
 have hsl:=h1.sgl.2
 have hsN:=h1.sgl.1
 have hlow:=h1.owners.len
 obtain ⟨ag,fg,rfl,hEg⟩:=h1.grants.elems (fun _=>rfl)
 obtain ⟨ag,rfl,hag,_⟩:=hEg.at e.grant.toNat (by omega)
 have e2:s.grants.getD e.grant.toNat default=s.grants[e.grant.toNat]'(by omega):=getD_at (by omega)
 obtain ⟨vo',H3,happ,ho3,hn3,hf3,hb3⟩:=(h1.owners.push (.arr { cells:= [vi e.person],ty:=3 })).app (by simp) (by simp) (by decide) e.person (by simp; omega)
 simp only [encI] at happ
 simp only [GH.next_push] at hn3
 have d8:8*(1+s.owners.length)≤1000000:=by omega
 have d9:1+s.owners.length≤1000000:=by omega
 have hg3:=(hf3 sg (by simp; omega) (h1.ne 3 (by decide))).trans ((GH.get_push_lt _ _ hsl).trans hg)
 have he3:=(hf3 H.next (by simp; omega) (fun hc=>by have:=hOl _ ((hO _).2 (h1.own_ 3 (by decide) hc)); omega)).trans ((GH.get_push_lt _ _ (by omega)).trans hge)
 obtain ⟨ao,fo,rfl⟩:=ho3.slice
 obtain ⟨hS3,hW3⟩:=h1.upd 3 (by decide) (H1:=H3) (s1:= { s with owners:=s.owners++ [e.person] }) (bk1:=s.fell.map Prod.fst) (dy1:=s.fell.map Prod.snd) (by omega) (ownL_id.2 ho3) (fun k hk hne=>by rw [hf3 k (by simp; omega) hne,GH.get_push_lt _ _ hk]) (fun k hk=>(hb3 k hk).imp id fun h=>by simp at h; omega) rfl
 simp only [bookC,List.cons_append,List.nil_append,List.length_append,List.length_cons,List.length_nil,Nat.zero_add] at hS3 hW3
 have hne:H.next≠sg:=by have:=hOl _ ((hO sg).2 (.inl rfl)); omega
 generalize hH4:H3.put sg _=H4 at hS3
 have hf4:∀g,g<H1.next→¬O g→H4.get g=H1.get g:=fun k hk ho=>by
  rw [hO] at ho
  subst hH4
  rw [GH.get_put_ne _ _ (fun hc=>ho (.inl hc)),hf3 k (by simp; omega) (fun hc=>ho (h1.own_ 3 (by decide) hc)),GH.get_push_lt _ _ (by omega)]
 have hn4:H1.next+1≤H4.next:=by subst hH4; simp; omega
 have he4:H4.get H.next=some (.arr { cells:= [vi e.kind,vi e.day,vi e.person,vi e.other,vi e.estate,vi e.grant,vi e.system,vi e.units],ty:=103 }):=by subst hH4; exact (GH.get_put_ne _ _ hne).trans he3
 obtain ⟨O4,f4,h4⟩:=RegS.of h1 hO hS3 (by omega) hf4 hW3
 have hrg:=(hS3.grants.elems' (fun _=>rfl)).at e.grant.toNat (by show e.grant.toNat<s.grants.length; omega)
 obtain ⟨ag',hag',hagb,hrg⟩:=hrg
 cases hag'
 have hg4:=hS3.g
 simp only [bookC,List.cons_append,List.nil_append] at hg3 hg4
 simp (disch:=omega) [hge,k,hg,hlow,d8,d9,happ,hg3,hH4,hg4,he4,hrg]
 generalize hH5:GH.put (GH.push H4 _) H4.next _=H5
 have hs5:Sub H4 H5:=by subst hH5; exact (Sub.push (.refl H4) _).put (Nat.le_refl _) _
 have hb5:H5.get H4.next=some (.arr { cells:=encSt (s.grants[e.grant.toNat]'(by omega)),ty:=45 }):=by subst hH5; simp
 have hn5:H4.next<H5.next:=by subst hH5; simp
 clear hH5
 have he5:=(hs5.2 H.next (by omega)).trans he4
 have hS5:=hS3.sub hs5
 have hg5:=hS5.g
 have hsl5:=hS5.sgl.2
 have hbk:=hS5.grants.blk_some
 have hbgs:ag.block≠sg:=fun hc=>hS5.ne 4 (by decide) (hbk.trans (congrArg some hc))
 have hagO:O ag.block:=(hO _).2 (h1.own_ 4 (by decide) (h1.grants.blk_some))
 obtain ⟨H6,hw6,ho6,hn6,hs6⟩:=hS5.grants.wr (fun _=>rfl) (i:=e.grant.toNat) (k:=4) (by show e.grant.toNat<s.grants.length; omega) (c:=vi (IntKind.i64.wrap ((s.grants[e.grant.toNat]'(by omega)).units - e.units))) (new:= []) (by simp) (y:= { s.grants[e.grant.toNat]'(by omega) with units:=IntKind.i64.wrap ((s.grants[e.grant.toNat]'(by omega)).units - e.units) }) (by simp [splice])
 obtain ⟨hS6,hW6⟩:=hS5.wr 4 (by decide) (H1:=H6) (s1:= { s with owners:=s.owners++ [e.person],grants:=s.grants.set e.grant.toNat { s.grants[e.grant.toNat]'(by omega) with units:=IntKind.i64.wrap ((s.grants[e.grant.toNat]'(by omega)).units - e.units) } }) (bk1:=s.fell.map Prod.fst) (dy1:=s.fell.map Prod.snd) (by omega) (ownL_id.2 ho6) (fun k hk hne=>hs6 k fun hc=>hne (hbk.trans (congrArg some hc.symm))) rfl
 have he6:=(hs6 H.next (fun hc=>by have:=hOl _ hagO; omega)).trans he5
 have hb6:=(hs6 H4.next (fun hc=>by have:=hOl _ hagO; omega)).trans hb5
 have hg6:=(hs6 sg (Ne.symm hbgs)).trans hg5
 simp only [bookC,List.cons_append,List.nil_append] at hg5 hg6
 have hlen3:IntKind.i64.wrap (s.owners.length:Int)=s.owners.length:=by simp (disch:=omega) [wrap64]
 simp (disch:=omega) [hw6,hg6,he6,hb6,hlen3]
 obtain ⟨O6,f6,h6⟩:=RegS.of h1 hO hS6 (by omega) (fun g hg ho=>by
  rw [hs6 g (fun hc=>ho (by rw [hc]; exact hagO)),hs5.2 g (by omega),hf4 g hg ho]) (fun g hg=>hW3 g ((hW6 g).1 hg))
 have hds:divideS s e=addG { s with owners:=s.owners++ [e.person],grants:=s.grants.set e.grant.toNat { s.grants[e.grant.toNat]'(by omega) with units:=IntKind.i64.wrap ((s.grants[e.grant.toNat]'(by omega)).units - e.units) } } e.person s.owners.length (s.grants[e.grant.toNat]'(by omega)).system e.units:=by unfold divideS; rw [e2]
 rw [hds] at hwd hGd ⊢
 refine (rgrant_con h6 (by simp; omega) (by show s.last.length≤1000; omega) _ _ _ _).mono ?_
 rintro x H7 ⟨rfl,O7,f7,h7⟩
 simp
 refine (rserve_con h7 hwd hGd hsu).mono ?_
 rintro x H8 ⟨rfl,O8,f8,h8⟩
 simp
 exact ⟨O8,f1.trans (f6.trans (f7.trans f8)),h8⟩
theorem rdo6 (h:RegS H N l b sg s O) (hw:Wf b s) (_hG:Wg b s) (hsu:0≤b.supply∧b.supply≤10000) {i:Nat} (hi:i<b.events.length) {e:Ev} (hE:b.events[i]=e) (k:e.kind=6) (he:EvOk b s e) (hgo:goesB b s e=true) (hwd:Wf b (doS b s e i)) (hGd:Wg b (doS b s e i)):
  GCall Tryz.prog 81 [.pointer (some (ga sg 0 0)),vi i] H fun x H'=>x=.ret (.tuple #[])∧∃O',Frm O O' H H'∧RegS H' N l b sg (serve b (doS b s e i)) O':=by
 rcases l with ⟨⟨⟨ra,rf⟩⟩,⟨oa,of'⟩,⟨va',vf'⟩⟩
 refine gcall_wp tok mix fok81 (F:=g81) (c:=_) rfl (n:=168) rfl (rs:= []) rfl ?_
 have hs1:Sub H ((H.push (.arr { cells:= [vi 0,vi 0,vi 0,vi 0,vi 0,vi 0,vi 0,vi 0],ty:=103 })).put H.next (.arr { cells:= [vi e.kind,vi e.day,vi e.person,vi e.other,vi e.estate,vi e.grant,vi e.system,vi e.units],ty:=103 })):=(Sub.push (.refl H) _).put (Nat.le_refl _) _
 obtain ⟨h1S,f1⟩:=h.sub hs1
 have hge:((H.push (.arr { cells:= [vi 0,vi 0,vi 0,vi 0,vi 0,vi 0,vi 0,vi 0],ty:=103 })).put H.next (.arr { cells:= [vi e.kind,vi e.day,vi e.person,vi e.other,vi e.estate,vi e.grant,vi e.system,vi e.units],ty:=103 })).get H.next=some (.arr { cells:= [vi e.kind,vi e.day,vi e.person,vi e.other,vi e.estate,vi e.grant,vi e.system,vi e.units],ty:=103 }):=by simp
 have hnx:((H.push (.arr { cells:= [vi 0,vi 0,vi 0,vi 0,vi 0,vi 0,vi 0,vi 0],ty:=103 })).put H.next (.arr { cells:= [vi e.kind,vi e.day,vi e.person,vi e.other,vi e.estate,vi e.grant,vi e.system,vi e.units],ty:=103 })).next=H.next+1:=by simp
 have hOl:∀g,O g→g<H.next:=fun g hg=>(h.lt g hg).2
 have hlen:=hw.len
 have hla:=hw.last
 have hlo:=hw.own
 have hltI:(i:Int)<b.events.length:=by omega
 obtain ⟨_,_,_,_,_,_,_,_,_,h0,_⟩:=h
 have hg0:=h0.g
 obtain ⟨ae,rfl,haeb,hrev⟩:=h0.book.events.at i hi
 rw [hE] at hrev
 simp (disch:=omega) [hg0,hrev]
 generalize hH1:GH.put (GH.push H _) H.next (.arr { cells:= [vi e.kind,vi e.day,vi e.person,vi e.other,vi e.estate,vi e.grant,vi e.system,vi e.units],ty:=103 })=H1 at*
 have hdo:doS b s e i=joinS s e:=by unfold doS; simp [k]
 rw [hdo] at hwd hGd ⊢
 have hot:=he.other0
 have hgo':=hgo
 simp [goesB,k,existsB] at hgo'
 have hlt:e.other<s.owners.length:=hgo'.2.2.1.1
 obtain ⟨v1,v2,vl,vo,vg,va,vw,vb,vd,h1,hO⟩:=h1S
 have hg:=h1.g
 have hsl:=h1.sgl.2
 obtain ⟨ao,fo,rfl,hEo⟩:=h1.owners.elems (fun _=>rfl)
 obtain ⟨ao,rfl,hao,hro⟩:=hEo.at e.other.toNat (by omega)
 obtain ⟨ag,fg,rfl,hEg⟩:=h1.grants.elems (fun _=>rfl)
 have hbk:=h1.owners.blk_some
 have hbgs:ao.block≠sg:=fun hc=>h1.ne 3 (by decide) (hbk.trans (congrArg some hc))
 have hOo:O ao.block:=(hO _).2 (h1.own_ 3 (by decide) hbk)
 obtain ⟨H2,hw2,ho2,hn2,hs2⟩:=h1.owners.wr (fun _=>rfl) (i:=e.other.toNat) (k:=0) (by omega) (c:=vi (-1)) (new:= []) (by simp) (y:=(-1:Int)) (by simp [splice])
 have hg2:=(hs2 sg (Ne.symm hbgs)).trans hg
 obtain ⟨hS2,hW2⟩:=h1.wr 3 (by decide) (H1:=H2) (s1:= { s with owners:=s.owners.set e.other.toNat (-1) }) (bk1:=s.fell.map Prod.fst) (dy1:=s.fell.map Prod.snd) (by omega) (ownL_id.2 ho2) (fun k hk hne=>hs2 k fun hc=>hne (hbk.trans (congrArg some hc.symm))) rfl
 have f2:Frm O O H1 H2:=Frm.wr f1.lt hOo hn2 hs2
 simp (disch:=omega) [hge,k,hg,hw2]
 refine wp_up tok mix (by kernel_rfl) s.grants.length (fun i ρ m H3=>ρ 0=.pointer (some (ga sg 0 0))∧ρ 4=.pointer (some (ga H.next 0 0))∧ρ 6=vi i∧m= []∧Frm O O H1 H3∧
  RIn H3 N ⟨⟨⟨ra,rf⟩⟩,⟨oa,of'⟩,⟨some ae,vf'⟩⟩ b sg { s with owners:=s.owners.set e.other.toNat (-1),grants:=upto (joinF e) s.grants i } (s.fell.map Prod.fst) (s.fell.map Prod.snd) v1 v2 vl (.slice (some ao) s.owners.length fo) (.slice ag s.grants.length fg) va vw vb vd∧
  (∀g,O g↔RecOwn sg (vecs b { s with owners:=s.owners.set e.other.toNat (-1),grants:=upto (joinF e) s.grants i } (s.fell.map Prod.fst) (s.fell.map Prod.snd) v1 v2 vl (.slice (some ao) s.owners.length fo) (.slice ag s.grants.length fg) va vw vb vd) g)) (i0:=0) (by omega)
  ⟨by simp,by simp,by simp,by simp,f2,by rw [upto_zero]; exact hS2,by rw [upto_zero]; exact fun g=>(hO g).trans (hW2 g).symm⟩ ?_
 rintro j ρ m H3 hj ⟨e0,e4,e6,rfl,f3,h3,hO3⟩
 have hg3:=h3.g
 have he3:=(f3.keep H.next (by omega) (fun hc=>by have:=hOl _ hc; omega)).trans hge
 have hn3:=f3.next
 simp (disch:=omega) [e0,e6,hg3]
 refine wpB_dec (fun hlt2=>?_) (fun hge2=>?_)
 ·obtain ⟨a2,rfl,hab,hrd⟩:=(h3.grants.elems' (fun _=>rfl)).at j (by rw [upto_len]; exact hlt2)
  rw [upto_at _ hlt2] at hrd
  have hltI2:(j:Int)<s.grants.length:=by omega
  have hbk2:=h3.grants.blk_some
  have hOg:O a2.block:=(hO3 _).2 (h3.own_ 4 (by decide) hbk2)
  have hsu2:=upto_succ (joinF e) hlt2
  simp (disch:=omega) [e0,e4,e6,hg3,hrd,he3]
  refine wpB_bool (fun h5=>?_) (fun h5=>?_)<;>(try simp only [decide_eq_true_eq,decide_eq_false_iff_not] at h5)
  ·obtain ⟨H4,hw4,ho4,hn4,hs4⟩:=h3.grants.wr (fun _=>rfl) (i:=j) (k:=2) (by rw [upto_len]; exact hlt2) (c:=vi e.estate) (new:= []) (by simp) (y:= { s.grants[j] with estate:=e.estate }) (by rw [upto_at _ hlt2]; simp [splice])
   simp (disch:=omega) [e0,e4,e6,hg3,he3,hw4]
   have hjf:joinF e s.grants[j]= { s.grants[j] with estate:=e.estate }:=by unfold joinF; rw [if_pos h5]
   obtain ⟨h4,hW4⟩:=h3.wr 4 (by decide) (H1:=H4) (s1:= { s with owners:=s.owners.set e.other.toNat (-1),grants:=upto (joinF e) s.grants (j+1) }) (bk1:=s.fell.map Prod.fst) (dy1:=s.fell.map Prod.snd) (by omega) (ownL_id.2 ho4) (fun k hk hne=>hs4 k fun hc=>hne (hbk2.trans (congrArg some hc.symm))) (by rw [hsu2,hjf]; rfl)
   simp (disch:=omega) [hlt2,wrap64]
   exact ⟨f3.trans (Frm.wr f3.lt hOg hn4 hs4),h4,fun g=>(hO3 g).trans (hW4 g).symm⟩
  ·simp (disch:=omega) [e0,e4,e6,hlt2,wrap64]
   have hjf:joinF e s.grants[j]=s.grants[j]:=by unfold joinF; rw [if_neg h5]
   have:(upto (joinF e) s.grants j).set j s.grants[j]=upto (joinF e) s.grants j:=by
    conv=>lhs; rw [←upto_at (joinF e) hlt2]
    exact List.set_getElem_self _
   rw [hsu2,hjf,this]
   exact ⟨f3,h3,hO3⟩
 ·have:j=s.grants.length:=by omega
  subst this
  rw [upto_all] at h3 hO3
  simp [e0]
  refine (rserve_con ⟨_,_,_,_,_,_,_,_,_,h3,hO3⟩ hwd hGd hsu).mono ?_
  rintro x H6 ⟨rfl,O6,f6,h6⟩
  simp
  exact ⟨O6,f1.trans (f3.trans f6),h6⟩
theorem rdo7 (h:RegS H N l b sg s O) (hw:Wf b s) (_hG:Wg b s) (hsu:0≤b.supply∧b.supply≤10000) {i:Nat} (hi:i<b.events.length) {e:Ev} (hE:b.events[i]=e) (k:e.kind=7) (he:EvOk b s e) (hgo:goesB b s e=true) (hwd:Wf b (doS b s e i)) (hGd:Wg b (doS b s e i)):
  GCall Tryz.prog 81 [.pointer (some (ga sg 0 0)),vi i] H fun x H'=>x=.ret (.tuple #[])∧∃O',Frm O O' H H'∧RegS H' N l b sg (serve b (doS b s e i)) O':=by
 rcases l with ⟨⟨⟨ra,rf⟩⟩,⟨oa,of'⟩,⟨va',vf'⟩⟩
 refine gcall_wp tok mix fok81 (F:=g81) (c:=_) rfl (n:=168) rfl (rs:= []) rfl ?_
 have hs1:Sub H ((H.push (.arr { cells:= [vi 0,vi 0,vi 0,vi 0,vi 0,vi 0,vi 0,vi 0],ty:=103 })).put H.next (.arr { cells:= [vi e.kind,vi e.day,vi e.person,vi e.other,vi e.estate,vi e.grant,vi e.system,vi e.units],ty:=103 })):=(Sub.push (.refl H) _).put (Nat.le_refl _) _
 obtain ⟨h1S,f1⟩:=h.sub hs1
 have hge:((H.push (.arr { cells:= [vi 0,vi 0,vi 0,vi 0,vi 0,vi 0,vi 0,vi 0],ty:=103 })).put H.next (.arr { cells:= [vi e.kind,vi e.day,vi e.person,vi e.other,vi e.estate,vi e.grant,vi e.system,vi e.units],ty:=103 })).get H.next=some (.arr { cells:= [vi e.kind,vi e.day,vi e.person,vi e.other,vi e.estate,vi e.grant,vi e.system,vi e.units],ty:=103 }):=by simp
 have hnx:((H.push (.arr { cells:= [vi 0,vi 0,vi 0,vi 0,vi 0,vi 0,vi 0,vi 0],ty:=103 })).put H.next (.arr { cells:= [vi e.kind,vi e.day,vi e.person,vi e.other,vi e.estate,vi e.grant,vi e.system,vi e.units],ty:=103 })).next=H.next+1:=by simp
 have hOl:∀g,O g→g<H.next:=fun g hg=>(h.lt g hg).2
 have hlen:=hw.len
 have hla:=hw.last
 have hlo:=hw.own
 have hltI:(i:Int)<b.events.length:=by omega
 obtain ⟨_,_,_,_,_,_,_,_,_,h0,_⟩:=h
 have hg0:=h0.g
 obtain ⟨ae,rfl,haeb,hrev⟩:=h0.book.events.at i hi
 rw [hE] at hrev
 simp (disch:=omega) [hg0,hrev]
 generalize hH1:GH.put (GH.push H _) H.next (.arr { cells:= [vi e.kind,vi e.day,vi e.person,vi e.other,vi e.estate,vi e.grant,vi e.system,vi e.units],ty:=103 })=H1 at*
 have hdo:doS b s e i=renewS s e:=by unfold doS; simp [k]
 rw [hdo] at hwd hGd ⊢
 have hgr:=he.grant
 have hgo':=hgo
 simp [goesB,k] at hgo'
 obtain ⟨v1,v2,vl,vo,vg,va,vw,vb,vd,h1,hO⟩:=h1S
 have hg:=h1.g
 have hsl:=h1.sgl.2
 obtain ⟨ag,fg,rfl,hEg⟩:=h1.grants.elems (fun _=>rfl)
 obtain ⟨ag,rfl,hag,hrg⟩:=hEg.at e.grant.toNat (by omega)
 have hbk:=h1.grants.blk_some
 have e2:s.grants.getD e.grant.toNat default=s.grants[e.grant.toNat]'(by omega):=getD_at (by omega)
 have hlt:e.grant<s.grants.length:=by omega
 obtain ⟨H2,hw2,ho2,hn2,hs2⟩:=h1.grants.wr (fun _=>rfl) (i:=e.grant.toNat) (k:=0) (by omega) (c:=vi 1) (new:= []) (by simp) (y:= { s.grants[e.grant.toNat]'(by omega) with is:=1 }) (by simp [splice])
 obtain ⟨hS2,hW2⟩:=h1.wr 4 (by decide) (H1:=H2) (s1:= { s with grants:=s.grants.set e.grant.toNat { s.grants[e.grant.toNat]'(by omega) with is:=1 } }) (bk1:=s.fell.map Prod.fst) (dy1:=s.fell.map Prod.snd) (by omega) (ownL_id.2 ho2) (fun k hk hne=>hs2 k fun hc=>hne (hbk.trans (congrArg some hc.symm))) rfl
 have f2:Frm O O H1 H2:=Frm.wr f1.lt ((hO _).2 (h1.own_ 4 (by decide) hbk)) hn2 hs2
 simp (disch:=omega) [hge,k,hg,hw2]
 unfold renewS at hwd hGd ⊢
 rw [e2] at hwd hGd ⊢
 refine (rserve_con ⟨_,_,_,_,_,_,_,_,_,hS2,fun g=>(hO g).trans (hW2 g).symm⟩ hwd hGd hsu).mono ?_
 rintro x H6 ⟨rfl,O6,f6,h6⟩
 simp
 exact ⟨O6,f1.trans (f2.trans f6),h6⟩
theorem rdo8 (h:RegS H N l b sg s O) (hw:Wf b s) (_hG:Wg b s) (hsu:0≤b.supply∧b.supply≤10000) {i:Nat} (hi:i<b.events.length) {e:Ev} (hE:b.events[i]=e) (k:e.kind=8) (_he:EvOk b s e) (_hgo:goesB b s e=true) (hwd:Wf b (doS b s e i)) (hGd:Wg b (doS b s e i)):
  GCall Tryz.prog 81 [.pointer (some (ga sg 0 0)),vi i] H fun x H'=>x=.ret (.tuple #[])∧∃O',Frm O O' H H'∧RegS H' N l b sg (serve b (doS b s e i)) O':=by
 rcases l with ⟨⟨⟨ra,rf⟩⟩,⟨oa,of'⟩,⟨va',vf'⟩⟩
 refine gcall_wp tok mix fok81 (F:=g81) (c:=_) rfl (n:=168) rfl (rs:= []) rfl ?_
 have hs1:Sub H ((H.push (.arr { cells:= [vi 0,vi 0,vi 0,vi 0,vi 0,vi 0,vi 0,vi 0],ty:=103 })).put H.next (.arr { cells:= [vi e.kind,vi e.day,vi e.person,vi e.other,vi e.estate,vi e.grant,vi e.system,vi e.units],ty:=103 })):=(Sub.push (.refl H) _).put (Nat.le_refl _) _
 obtain ⟨h1S,f1⟩:=h.sub hs1
 have hge:((H.push (.arr { cells:= [vi 0,vi 0,vi 0,vi 0,vi 0,vi 0,vi 0,vi 0],ty:=103 })).put H.next (.arr { cells:= [vi e.kind,vi e.day,vi e.person,vi e.other,vi e.estate,vi e.grant,vi e.system,vi e.units],ty:=103 })).get H.next=some (.arr { cells:= [vi e.kind,vi e.day,vi e.person,vi e.other,vi e.estate,vi e.grant,vi e.system,vi e.units],ty:=103 }):=by simp
 have hnx:((H.push (.arr { cells:= [vi 0,vi 0,vi 0,vi 0,vi 0,vi 0,vi 0,vi 0],ty:=103 })).put H.next (.arr { cells:= [vi e.kind,vi e.day,vi e.person,vi e.other,vi e.estate,vi e.grant,vi e.system,vi e.units],ty:=103 })).next=H.next+1:=by simp
 have hOl:∀g,O g→g<H.next:=fun g hg=>(h.lt g hg).2
 have hlen:=hw.len
 have hla:=hw.last
 have hlo:=hw.own
 have hltI:(i:Int)<b.events.length:=by omega
 obtain ⟨_,_,_,_,_,_,_,_,_,h0,_⟩:=h
 have hg0:=h0.g
 obtain ⟨ae,rfl,haeb,hrev⟩:=h0.book.events.at i hi
 rw [hE] at hrev
 simp (disch:=omega) [hg0,hrev]
 generalize hH1:GH.put (GH.push H _) H.next (.arr { cells:= [vi e.kind,vi e.day,vi e.person,vi e.other,vi e.estate,vi e.grant,vi e.system,vi e.units],ty:=103 })=H1 at*
 have hdo:doS b s e i=askS s i:=by unfold doS; simp [k]
 rw [hdo] at hwd hGd ⊢
 obtain ⟨v1,v2,vl,vo,vg,va,vw,vb,vd,h1,hO⟩:=h1S
 have hg:=h1.g
 have hsl:=h1.sgl.2
 have hsN:=h1.sgl.1
 have hlw:=h1.waits.len
 obtain ⟨vw',H3,happ,ho3,hn3,hf3,hb3⟩:=(h1.waits.push (.arr { cells:= [vi i],ty:=3 })).app (by simp) (by simp) (by decide) (i:Int) (by simp; omega)
 simp only [encI] at happ
 simp only [GH.next_push] at hn3
 have d8:8*(1+s.waits.length)≤1000000:=by omega
 have d9:1+s.waits.length≤1000000:=by omega
 have hg3:=(hf3 sg (by simp; omega) (h1.ne 6 (by decide))).trans ((GH.get_push_lt _ _ hsl).trans hg)
 obtain ⟨a3,q3,rfl⟩:=ho3.slice
 simp (disch:=omega) [k,hg,hlw,d8,d9,happ,hg3]
 obtain ⟨hS3,hW3⟩:=h1.upd 6 (by decide) (H1:=H3) (s1:=askS s i) (bk1:=s.fell.map Prod.fst) (dy1:=s.fell.map Prod.snd) (by omega) (ownL_id.2 ho3) (fun k hk hne=>by rw [hf3 k (by simp; omega) hne,GH.get_push_lt _ _ hk]) (fun k hk=>(hb3 k hk).imp id fun h=>by simp at h; omega) rfl
 simp only [bookC,List.cons_append,List.nil_append,List.length_append,List.length_cons,List.length_nil,Nat.zero_add] at hS3 hW3
 obtain ⟨O3,f3,h3⟩:=RegS.of h1 hO hS3 (by simp; omega) (fun k hk ho=>by
  rw [hO] at ho
  rw [GH.get_put_ne _ _ (fun hc=>ho (.inl hc)),hf3 k (by simp; omega) (fun hc=>ho (h1.own_ 6 (by decide) hc)),GH.get_push_lt _ _ (by omega)]) hW3
 refine (rserve_con h3 hwd hGd hsu).mono ?_
 rintro x H6 ⟨rfl,O6,f6,h6⟩
 simp
 exact ⟨O6,f1.trans (f3.trans f6),h6⟩
theorem rdo_con (h:RegS H N l b sg s O) (hw:Wf b s) (hG:Wg b s) (hsu:0≤b.supply∧b.supply≤10000) {i:Nat} (hi:i<b.events.length) {e:Ev} (hE:b.events[i]=e) (he:EvOk b s e) (hgo:goesB b s e=true) (hwd:Wf b (doS b s e i)) (hGd:Wg b (doS b s e i)):
  GCall Tryz.prog 81 [.pointer (some (ga sg 0 0)),vi i] H fun x H'=>x=.ret (.tuple #[])∧∃O',Frm O O' H H'∧RegS H' N l b sg (serve b (doS b s e i)) O':=by
 have hk:=he.kind
 have:e.kind=1∨e.kind=2∨e.kind=3∨e.kind=4∨e.kind=5∨e.kind=6∨e.kind=7∨e.kind=8:=by omega
 rcases this with k|k|k|k|k|k|k|k
 ·exact rdo1 h hw hG hsu hi hE k he hgo hwd hGd
 ·exact rdo2 h hw hG hsu hi hE k he hgo hwd hGd
 ·exact rdo3 h hw hG hsu hi hE k he hgo hwd hGd
 ·exact rdo4 h hw hG hsu hi hE k he hgo hwd hGd
 ·exact rdo5 h hw hG hsu hi hE k he hgo hwd hGd
 ·exact rdo6 h hw hG hsu hi hE k he hgo hwd hGd
 ·exact rdo7 h hw hG hsu hi hE k he hgo hwd hGd
 ·exact rdo8 h hw hG hsu hi hE k he hgo hwd hGd
end
end Go.Gm.Tryz
end
section
namespace Go.Gm.Tryz
open Go.Proofs
theorem upFrom_ok {b:Book} {d:Int}:∀ {es:List Ev} {n:Nat} {s t:Stand},runS b es n s=.inr t→∃u,upFrom b d es n s=.inr u:=by
 intro es
 induction es with
 |nil=>intro n s t _; exact ⟨_,rfl⟩
 |cons e es ih=>
  intro n s t h
  simp only [runS] at h
  simp only [upFrom]
  split
  ·exact ⟨_,rfl⟩
  ·split at h
   ·rename_i hg; rw [if_pos hg]; exact ih h
   ·cases h
theorem wrong_none {b:Book} (hB:isBookB b=true) (hw:wrongO b=none):∃t,runS b b.events 0 (start b)=.inr t:=by
 rw [wrong_run hB] at hw
 cases h:runS b b.events 0 (start b) with
 |inl k=>rw [h] at hw; cases hw
 |inr t=>exact ⟨t,rfl⟩
theorem right_up {b:Book} (hB:isBookB b=true) (hw:wrongO b=none) (d:Int):∃s,upS b d=.inr s:=by
 obtain ⟨t,ht⟩:=wrong_none hB hw
 exact upFrom_ok ht
theorem out_right {b:Book} (hB:isBookB b=true) (hw:wrongO b=none) {d:Int} {s:Stand} (hs:upS b d=.inr s) (hd:isDayI d=true) {ok:Bool} (hk:ok=true):outS b d ok=.ok s:=by
 subst hk
 unfold outS rightOk rightS
 obtain ⟨t,ht⟩:=right_up hB hw 36500
 rw [hB,hd,ht,hs]
 rfl
end Go.Gm.Tryz
end
section
namespace Go.Gm.Tryz
open Go.Proofs
def mkG (b:Book) (w:Int):GSt:=⟨1,(evAt b w).person,-1,(evAt b w).system,(evAt b w).units⟩
theorem serve_app (b:Book) (s:Stand):∃ws rest,s.waits=ws++rest∧serve b s= { s with grants:=s.grants++ws.map (mkG b),last:=s.last++ws.map (fun _=>0),waits:=rest }:=by
 have:∀(n:Nat) (s:Stand),∃ws rest,s.waits=ws++rest∧serveS b n s= { s with grants:=s.grants++ws.map (mkG b),last:=s.last++ws.map (fun _=>0),waits:=rest }:=by
  intro n
  induction n with
  |zero=>intro s; exact ⟨[],s.waits,rfl,by simp [serveS]⟩
  |succ n ih=>
   intro s
   simp only [serveS]
   cases hw:s.waits with
   |nil=>exact ⟨[],[],rfl,by cases s; simp at hw; subst hw; simp⟩
   |cons w ws=>
    simp only
    split
    ·exact ⟨[],w::ws,rfl,by cases s; simp at hw; subst hw; simp⟩
    ·obtain ⟨xs,rest,h1,h2⟩:=ih { addG s (evAt b w).person (-1) (evAt b w).system (evAt b w).units with waits:=ws }
     refine ⟨w::xs,rest,by simp at h1; rw [h1]; rfl,?_⟩
     rw [h2]
     simp [addG,mkG]
 exact this _ s
def Liv (b:Book) (s:Stand) (p:Int):Prop:=0≤p∧p<b.persons∧s.lives.getD p.toNat false=true
structure JX (b:Book) (s:Stand) (XO XW X1 X2:Int→Prop):Prop where
 own:∀i,i<s.owners.length→oAt s i= -1∨XO (oAt s i)
 wt:∀w∈s.waits,XW (evAt b w).person
 gr:∀g∈s.grants,(g.is=3∧g.person= -1∧g.estate= -1)∨(g.is=2∧X2 g.person∧g.estate= -1)∨(g.is=1∧g.estate= -1∧X1 g.person)∨
  (g.is=1∧0≤g.estate∧g.estate<s.owners.length∧oAt s g.estate.toNat=g.person∧g.person≠ -1)
section
variable {b:Book} {s:Stand} {XO XW X1 X2:Int→Prop}
theorem JX.mono (h:JX b s XO XW X1 X2) {YO YW Y1 Y2:Int→Prop} (a:∀p,XO p→YO p) (b':∀p,XW p→YW p) (c:∀p,X1 p→Y1 p) (d:∀p,X2 p→Y2 p):JX b s YO YW Y1 Y2:=
 ⟨fun i hi=>(h.own i hi).imp id (a _),fun w hw=>b' _ (h.wt w hw),fun g hg=>by
  rcases h.gr g hg with h|h|h|h
  ·exact .inl h
  ·exact .inr (.inl ⟨h.1,d _ h.2.1,h.2.2⟩)
  ·exact .inr (.inr (.inl ⟨h.1,h.2.1,c _ h.2.2⟩))
  ·exact .inr (.inr (.inr h))⟩
theorem JX.serve (h:JX b s XO XW X1 X2) (hx:∀p,XW p→X1 p):JX b (serve b s) XO XW X1 X2:=by
 obtain ⟨ws,rest,hw,e⟩:=serve_app b s
 rw [e]
 refine ⟨h.own,fun w hw'=>h.wt w (by rw [hw]; exact List.mem_append_right _ hw'),fun g hg=>?_⟩
 rcases List.mem_append.1 hg with hg|hg
 ·exact h.gr g hg
 ·obtain ⟨w,hm,rfl⟩:=List.mem_map.1 hg
  exact .inr (.inr (.inl ⟨rfl,rfl,hx _ (h.wt w (by rw [hw]; exact List.mem_append_left _ hm))⟩))
theorem JX.set (h:JX b s XO XW X1 X2) {i:Nat} {y:GSt} (hy:(y.is=3∧y.person= -1∧y.estate= -1)∨(y.is=2∧X2 y.person∧y.estate= -1)∨(y.is=1∧y.estate= -1∧X1 y.person)∨
  (y.is=1∧0≤y.estate∧y.estate<s.owners.length∧oAt s y.estate.toNat=y.person∧y.person≠ -1)) {l:List Int} {f:List (Int×Int)}:JX b { s with grants:=s.grants.set i y,last:=l,fell:=f } XO XW X1 X2:=
 ⟨h.own,h.wt,fun g hg=>by
  rcases List.mem_or_eq_of_mem_set hg with hg|rfl
  ·exact h.gr g hg
  ·exact hy⟩
theorem JX.open_ (h:JX b s XO XW X1 X2) {g:Nat} (hg:g<s.grants.length) (h2:(gAt s g).is=2):X2 (gAt s g).person∧(gAt s g).estate= -1:=by
 rcases h.gr _ (gAt_mem hg) with k|k|k|k
 ·omega
 ·exact k.2
 ·omega
 ·omega
theorem JX.endG (h:JX b s XO XW X1 X2) {g:Nat} (hg:g<s.grants.length) (h2:(gAt s g).is=2) (d:Int):JX b (endG s g d) XO XW X1 X2:=
 h.set (i:=g) (y:= { s.grants.getD g default with is:=3,person:= -1 }) (.inl ⟨rfl,rfl,(h.open_ hg h2).2⟩)
theorem JX.pass (h:JX b s XO XW X1 X2) (hx:∀p,XW p→X1 p) (d:Int):JX b (pass b s d) XO XW X1 X2:=
 pass_ind (I:=fun t=>JX b t XO XW X1 X2) (fun s w ws h hw _=>by
  refine ⟨h.own,fun v hv=>h.wt v (by rw [hw]; exact List.mem_cons_of_mem _ hv),fun g hg=>?_⟩
  simp only [addG,List.mem_append,List.mem_singleton] at hg
  rcases hg with hg|rfl
  ·exact h.gr g hg
  ·exact .inr (.inr (.inl ⟨rfl,rfl,hx _ (h.wt w (by rw [hw]; simp))⟩))) (fun s g h hg h2 _=>h.endG hg h2 _) h
theorem oAt_set {s:Stand} {n i:Nat} {p:Int} (hn:n<s.owners.length) {t:Stand} (ht:t.owners=s.owners.set n p):oAt t i=if i=n then p else oAt s i:=by
 unfold oAt
 rw [ht,List.getD_eq_getElem?_getD,List.getD_eq_getElem?_getD,List.getElem?_set]
 by_cases h:n=i
 ·subst h; simp [hn]
 ·simp [h,Ne.symm h]
theorem JX.own_ (h:JX b s XO XW X1 X2) {n:Nat} (hn:n<s.owners.length) {p:Int} (hp:XO p) (hp1:p≠ -1):JX b (ownS s n p) XO XW X1 X2:=by
 have ho:∀i,oAt (ownS s n p) i=if i=n then p else oAt s i:=fun i=>oAt_set hn rfl
 have hl:(ownS s n p).owners.length=s.owners.length:=by simp [ownS]
 refine ⟨fun i hi=>?_,h.wt,fun g hg=>?_⟩
 ·rw [ho]
  split
  ·exact .inr hp
  ·exact h.own i (by omega)
 ·obtain ⟨x,hx,rfl⟩:=List.mem_map.1 hg
  rw [hl]
  by_cases hc:x.estate=(n:Int)
  ·rw [if_pos hc]
   rcases h.gr x hx with k|k|k|k
   ·omega
   ·omega
   ·omega
   ·refine .inr (.inr (.inr ⟨k.1,k.2.1,k.2.2.1,?_,hp1⟩))
    rw [ho]
    simp only
    rw [if_pos (by omega)]
  ·rw [if_neg hc]
   rcases h.gr x hx with k|k|k|k
   ·exact .inl k
   ·exact .inr (.inl k)
   ·exact .inr (.inr (.inl k))
   ·refine .inr (.inr (.inr ⟨k.1,k.2.1,k.2.2.1,?_,k.2.2.2.2⟩))
    rw [ho,if_neg (by omega)]
    exact k.2.2.2.1
theorem JX.add1 (h:JX b s XO XW X1 X2) {p:Int} (hp:X1 p) (sy u:Int):JX b (addG s p (-1) sy u) XO XW X1 X2:=by
 refine ⟨h.own,h.wt,fun g hg=>?_⟩
 simp only [addG,List.mem_append,List.mem_singleton] at hg
 rcases hg with hg|rfl
 ·exact h.gr g hg
 ·exact .inr (.inr (.inl ⟨rfl,rfl,hp⟩))
end
structure J (b:Book) (done:List Ev) (s:Stand):Prop where
 wf:Wf b s
 ll:s.lives.length=b.persons.toNat
 dead:∀e∈done,e.kind=3→s.lives.getD e.person.toNat false=false
 jx:JX b s (Liv b s) (Liv b s) (Liv b s) (Liv b s)
 sz:size s≤done.length
 ow:s.owners.length≤b.owners.length+done.length
section
variable {b:Book} {s:Stand} {done:List Ev} {p:Int}
theorem serve_lives (b:Book) (s:Stand):(serve b s).lives=s.lives:=by obtain ⟨_,_,_,e⟩:=serve_app b s; rw [e]
theorem pass_lives (b:Book) (s:Stand) (d:Int):(pass b s d).lives=s.lives:=
 pass_ind (I:=fun t=>t.lives=s.lives) (fun _t _w _ws h _ _=>h) (fun _t _g h _ _ _=>h) rfl
theorem Liv.congr {s t:Stand} (h:t.lives=s.lives):Liv b t=Liv b s:=by funext p; unfold Liv; rw [h]
theorem J.serve (h:J b done s):J b done (serve b s):=by
 have hl:=serve_lives b s
 have h1:=(serve_sh b s).size
 have h2:=(serve_sh b s).own
 have h3:=h.sz
 have h4:=h.ow
 exact ⟨serve_wf h.wf,by rw [hl]; exact h.ll,by rw [hl]; exact h.dead,by rw [Liv.congr hl]; exact h.jx.serve fun _ h=>h,by omega,by omega⟩
theorem J.pass (h:J b done s) (d:Int):J b done (pass b s d):=by
 have hl:=pass_lives b s d
 have h1:=(pass_sh b s d).size
 have h2:=(pass_sh b s d).own
 have h3:=h.sz
 have h4:=h.ow
 exact ⟨pass_wf h.wf,by rw [hl]; exact h.ll,by rw [hl]; exact h.dead,by rw [Liv.congr hl]; exact h.jx.pass (fun _ h=>h) d,by omega,by omega⟩
theorem Liv.ne (h:Liv b s p):p≠ -1:=by have:=h.1; omega
def Ex (P:Int→Prop) (q:Int) (p:Int):Prop:=P p∨p=q
theorem endS_at {b:Book} {s:Stand} {g:Nat} {d:Int} {j:Nat} (hj:j<(endS b s g d).grants.length):(j<s.grants.length→j≠g→gAt (endS b s g d) j=gAt s j)∧(j=g→g<s.grants.length→(gAt (endS b s g d) j).is=3)∧(s.grants.length≤j→(gAt (endS b s g d) j).is=1):=by
 unfold endS at*
 obtain ⟨ws,rest,hw,e⟩:=serve_app b (endG s g d)
 rw [e] at hj ⊢
 have hl:(endG s g d).grants.length=s.grants.length:=by simp [endG]
 unfold gAt
 simp only [List.getD_eq_getElem?_getD]
 refine ⟨fun h1 h2=>?_,fun h1 h2=>?_,fun h1=>?_⟩
 ·rw [List.getElem?_append_left (by omega)]
  simp only [endG]
  rw [List.getElem?_set_ne (Ne.symm h2)]
 ·subst h1
  rw [List.getElem?_append_left (by omega)]
  simp [endG,h2]
 ·rw [List.getElem?_append_right (by omega)]
  simp only [List.length_append,List.length_map] at hj
  rw [List.getElem?_map,List.getElem?_eq_getElem (by omega)]
  rfl
theorem endS_lives (b:Book) (s:Stand) (g:Nat) (d:Int):(endS b s g d).lives=s.lives:=serve_lives b (endG s g d)
theorem J.die (h:J b done s) {e:Ev} (hk:e.kind=3) (hq:0≤e.person∧e.person<b.persons) (ho:Liv b s e.other) (hne:e.person≠e.other):J b (done++ [e]) (dieS b s e):=by
 have hqn:e.person.toNat<s.lives.length:=by rw [h.ll]; omega
 obtain ⟨hwf,hsh⟩:=dieS_ok h.wf e
 obtain ⟨L,hLd⟩:∃L:Int→Prop,L=Liv b (dieA s e):=⟨_,rfl⟩
 have hL:∀p,Liv b s p→Ex L e.person p:=fun p hp=>by
  by_cases hc:p=e.person
  ·exact .inr hc
  ·left
   rw [hLd]
   refine ⟨hp.1,hp.2.1,?_⟩
   have:=hp.2.2
   have h0:=hp.1
   simp only [dieA,List.getD_eq_getElem?_getD] at this ⊢
   rw [List.getElem?_set_ne (by omega)]
   exact this
 have hLo:L e.other:=(hL _ ho).resolve_right (Ne.symm hne)
 have hnq:∀p,Ex L e.person p→p≠e.person→L p:=fun p hp hc=>hp.resolve_right hc
 have j0:JX b (dieA s e) (Ex L e.person) (Ex L e.person) (Ex L e.person) (Ex L e.person):=JX.mono (s:=dieA s e) ⟨h.jx.own,h.jx.wt,h.jx.gr⟩ hL hL hL hL
 have j1:JX b (dieB (dieA s e) e) (Ex L e.person) (Ex L e.person) (Ex L e.person) (Ex L e.person)∧(dieB (dieA s e) e).lives=(dieA s e).lives∧∀j,j<(dieB (dieA s e) e).owners.length→oAt (dieB (dieA s e) e) j≠e.person:=by
  have:∀i,i≤(dieA s e).owners.length→JX b ((List.range i).foldl (ownStep e) (dieA s e)) (Ex L e.person) (Ex L e.person) (Ex L e.person) (Ex L e.person)∧((List.range i).foldl (ownStep e) (dieA s e)).lives=(dieA s e).lives∧
    ((List.range i).foldl (ownStep e) (dieA s e)).owners.length=(dieA s e).owners.length∧∀j,j<i→oAt ((List.range i).foldl (ownStep e) (dieA s e)) j≠e.person:=by
   intro i
   induction i with
   |zero=>intro _; exact ⟨j0,rfl,rfl,fun j hj=>by omega⟩
   |succ i ih=>
    intro hi
    obtain ⟨i1,i2,i3,i4⟩:=ih (by omega)
    rw [range_fold]
    generalize (List.range i).foldl (ownStep e) (dieA s e)=t at i1 i2 i3 i4 ⊢
    unfold ownStep
    split
    ·rename_i hc
     have hlt:i<t.owners.length:=by omega
     refine ⟨i1.own_ hlt (.inl hLo) (Liv.ne ho),i2,by simp only [ownS,List.length_set]; exact i3,fun j hj=>?_⟩
     rw [oAt_set hlt (t:=ownS t i e.other) rfl]
     split
     ·exact Ne.symm hne
     ·exact i4 j (by omega)
    ·rename_i hc
     refine ⟨i1,i2,i3,fun j hj=>?_⟩
     by_cases hji:j=i
     ·subst hji; exact hc
     ·exact i4 j (by omega)
  obtain ⟨i1,i2,i3,i4⟩:=this _ (Nat.le_refl _)
  exact ⟨i1,i2,fun j hj=>i4 j (by unfold dieB at hj; rw [i3] at hj; exact hj)⟩
 have hS:dieS b s e=dieE b (dieD b (dieC b (dieB (dieA s e) e) e) e) e:=rfl
 obtain ⟨j1,l1,n1⟩:=j1
 generalize dieB (dieA s e) e=s1 at j1 l1 n1 hS
 have j1':JX b s1 L (Ex L e.person) (Ex L e.person) (Ex L e.person):=⟨fun i hi=>(j1.own i hi).imp id fun hx=>hnq _ hx (n1 i hi),j1.wt,j1.gr⟩
 have j2:JX b (dieC b s1 e) L L (Ex L e.person) (Ex L e.person):=⟨j1'.own,fun w hw=>by
  obtain ⟨h1,h2⟩:=List.mem_filter.1 hw
  exact hnq _ (j1'.wt w h1) (by simpa [notOf] using h2),j1'.gr⟩
 have l2:(dieC b s1 e).lives=(dieA s e).lives:=l1
 generalize dieC b s1 e=s2 at j2 l2 hS
 have j3:JX b (dieD b s2 e) L L (Ex L e.person) L∧(dieD b s2 e).lives=(dieA s e).lives:=by
  have:∀i,i≤s2.grants.length→JX b ((List.range i).foldl (endStep b e) s2) L L (Ex L e.person) (Ex L e.person)∧((List.range i).foldl (endStep b e) s2).lives=(dieA s e).lives∧
    s2.grants.length≤((List.range i).foldl (endStep b e) s2).grants.length∧∀j,j<((List.range i).foldl (endStep b e) s2).grants.length→(j<i∨s2.grants.length≤j)→¬((gAt ((List.range i).foldl (endStep b e) s2) j).is=2∧(gAt ((List.range i).foldl (endStep b e) s2) j).person=e.person):=by
   intro i
   induction i with
   |zero=>intro _; exact ⟨j2,l2,Nat.le_refl _,fun j h1 h2=>by simp at h1; omega⟩
   |succ i ih=>
    intro hi
    obtain ⟨i1,i2,i3,i4⟩:=ih (by omega)
    rw [range_fold]
    generalize (List.range i).foldl (endStep b e) s2=t at i1 i2 i3 i4 ⊢
    unfold endStep
    split
    ·rename_i hc
     refine ⟨(i1.endG (by omega) hc.1 e.day).serve (fun p hp=>.inl hp),by rw [endS_lives]; exact i2,Nat.le_trans i3 (endS_len b t i e.day),fun j h1 h2=>?_⟩
     obtain ⟨a1,a2,a3⟩:=endS_at h1
     by_cases hji:j=i
     ·have:=a2 hji (by omega); omega
     ·by_cases hjl:j<t.grants.length
      ·rw [a1 hjl hji]
       exact i4 j hjl (by omega)
      ·have:=a3 (by omega); omega
    ·rename_i hc
     refine ⟨i1,i2,i3,fun j h1 h2=>?_⟩
     by_cases hji:j=i
     ·subst hji; exact hc
     ·exact i4 j h1 (by omega)
  obtain ⟨i1,i2,i3,i4⟩:=this _ (Nat.le_refl _)
  refine ⟨⟨i1.own,i1.wt,fun g hg=>?_⟩,i2⟩
  rcases i1.gr g hg with k|k|k|k
  ·exact .inl k
  ·obtain ⟨j,hj,rfl⟩:=List.mem_iff_getElem.1 hg
   have hgj:gAt (dieD b s2 e) j=(dieD b s2 e).grants[j]:=getD_at hj
   refine .inr (.inl ⟨k.1,hnq _ k.2.1 fun hc=>?_,k.2.2⟩)
   exact i4 j hj (by omega) (by
    have:gAt ((List.range s2.grants.length).foldl (endStep b e) s2) j=(dieD b s2 e).grants[j]:=hgj
    rw [this]; exact ⟨k.1,hc⟩)
  ·exact .inr (.inr (.inl k))
  ·exact .inr (.inr (.inr k))
 obtain ⟨j3,l3⟩:=j3
 generalize dieD b s2 e=s3 at j3 l3 hS
 have j4:JX b (dieE b s3 e) L L L L∧(dieE b s3 e).lives=(dieA s e).lives:=by
  have:∀i,i≤s3.grants.length→JX b ((List.range i).foldl (heirStep b e) s3) L L (Ex L e.person) L∧((List.range i).foldl (heirStep b e) s3).lives=(dieA s e).lives∧
    ((List.range i).foldl (heirStep b e) s3).grants.length=s3.grants.length∧∀j,j<i→¬((gAt ((List.range i).foldl (heirStep b e) s3) j).is=1∧(gAt ((List.range i).foldl (heirStep b e) s3) j).estate<0∧(gAt ((List.range i).foldl (heirStep b e) s3) j).person=e.person):=by
   intro i
   induction i with
   |zero=>intro _; exact ⟨j3,l3,rfl,fun j hj=>by omega⟩
   |succ i ih=>
    intro hi
    obtain ⟨i1,i2,i3,i4⟩:=ih (by omega)
    rw [range_fold]
    generalize (List.range i).foldl (heirStep b e) s3=t at i1 i2 i3 i4 ⊢
    unfold heirStep
    split
    ·rename_i hc
     have hm:=i1.gr _ (gAt_mem (show i<t.grants.length by omega))
     refine ⟨i1.set (.inr (.inl ⟨rfl,hLo,?_⟩)),i2,by simp only [List.length_set]; exact i3,fun j hj=>?_⟩
     ·show (gAt t i).estate= -1
      rcases hm with k|k|k|k<;>omega
     ·by_cases hji:j=i
      ·subst hji
       have:(gAt { t with grants:=t.grants.set j { gAt t j with is:=2,person:=e.other },last:=t.last.set j (IntKind.i64.wrap (e.day+b.term)) } j).is=2:=by
        unfold gAt
        simp only [List.getD_eq_getElem?_getD]
        rw [List.getElem?_set_self (by omega)]
        rfl
       rw [this]
       omega
      ·have:gAt { t with grants:=t.grants.set i { gAt t i with is:=2,person:=e.other },last:=t.last.set i (IntKind.i64.wrap (e.day+b.term)) } j=gAt t j:=by
        unfold gAt
        simp only [List.getD_eq_getElem?_getD]
        rw [List.getElem?_set_ne (Ne.symm hji)]
       rw [this]
       exact i4 j (by omega)
    ·rename_i hc
     refine ⟨i1,i2,i3,fun j hj=>?_⟩
     by_cases hji:j=i
     ·subst hji; exact hc
     ·exact i4 j (by omega)
  obtain ⟨i1,i2,i3,i4⟩:=this _ (Nat.le_refl _)
  refine ⟨⟨i1.own,i1.wt,fun g hg=>?_⟩,i2⟩
  rcases i1.gr g hg with k|k|k|k
  ·exact .inl k
  ·exact .inr (.inl k)
  ·obtain ⟨j,hj,rfl⟩:=List.mem_iff_getElem.1 hg
   have hgj:gAt ((List.range s3.grants.length).foldl (heirStep b e) s3) j=(dieE b s3 e).grants[j]:=getD_at hj
   have hj':j<s3.grants.length:=by rw [←i3]; exact hj
   refine .inr (.inr (.inl ⟨k.1,k.2.1,hnq _ k.2.2 fun hc=>?_⟩))
   refine i4 j hj' ?_
   rw [hgj]
   exact ⟨k.1,by have:=k.2.1; omega,hc⟩
  ·exact .inr (.inr (.inr k))
 rw [←hS] at j4
 obtain ⟨j4,l4⟩:=j4
 have hLL:L=Liv b (dieS b s e):=by rw [hLd]; exact (Liv.congr l4).symm
 rw [hLL] at j4
 have h1:=hsh.size
 have h2:=hsh.own
 have h3:=h.sz
 have h4:=h.ow
 refine ⟨hwf,hsh.liv.trans h.ll,fun x hx hxk=>?_,j4,by simp; omega,by simp; omega⟩
 rw [l4]
 simp only [dieA,List.getD_eq_getElem?_getD]
 by_cases hc:x.person.toNat=e.person.toNat
 ·rw [hc,List.getElem?_set_self hqn]; rfl
 ·rw [List.getElem?_set_ne (Ne.symm hc),←List.getD_eq_getElem?_getD]
  rcases List.mem_append.1 hx with hx|hx
  ·exact h.dead x hx hxk
  ·simp at hx; subst hx; exact absurd rfl hc
theorem J.start (hB:isBookB b=true):J b [] (Tryz.start b):=by
 have hbo:=book_ok hB
 refine ⟨start_wf hbo,by simp [Tryz.start],fun e he=>by simp at he,⟨fun i hi=>.inr ?_,fun w hw=>by simp [Tryz.start] at hw,fun g hg=>by simp [Tryz.start] at hg⟩,by simp [size,Tryz.start],by simp [Tryz.start]⟩
 have hi':i<b.owners.length:=hi
 have ho:oAt (Tryz.start b) i=b.owners[i]:=getD_at hi'
 rw [ho]
 have hp:isPersonI b b.owners[i]=true:=by
  simp only [isBookB,Bool.and_eq_true,Bool.not_eq_true',List.any_eq_false] at hB
  have:=hB.2 _ (List.getElem_mem hi')
  simpa using this
 have h1:=isPerson_ok hp hbo.persons
 refine ⟨h1.1,by omega,?_⟩
 simp only [Tryz.start,List.getD_eq_getElem?_getD]
 rw [List.getElem?_eq_getElem (by simp; omega)]
 simp
theorem J.do_ (h:J b done s) (hB:BookOk b) {e:Ev} (he:isEventB b e=true) (hg:goesB b s e=true) {n:Nat} (hn:evAt b n=e) (hnl:n<b.events.length) (hd:done.length<100) (hod:s.owners.length<100):J b (done++ [e]) (doS b s e n):=by
 have hev:=event_ok (s:=s) hB.persons h.ll he
 have hdone:∀x∈done++ [e],x.kind=3→e.kind≠3→s.lives.getD x.person.toNat false=false:=fun x hx hk hk3=>by
  rcases List.mem_append.1 hx with hx|hx
  ·exact h.dead x hx hk
  ·simp at hx; subst hx; exact absurd hk hk3
 have hsz:=h.sz
 have how:=h.ow
 have hs100:size s<100:=by omega
 have liv:∀p:Int,0≤p∧p<s.lives.length→s.lives.getD p.toNat false=true→Liv b s p:=fun p hp hl=>⟨hp.1,by have:=h.ll; omega,hl⟩
 unfold goesB at hg
 unfold doS
 by_cases k1:e.kind=1
 ·rw [if_pos k1] at hg ⊢
  simp only [Bool.and_eq_true] at hg
  have hl:=liv _ (hev.person (by omega) (by omega)) hg.1
  have hs:=addG_sh s e.person (-1) e.system e.units
  have:=hs.size; have:=hs.own
  exact ⟨addG_wf h.wf hs100 ..,h.ll,fun x hx hk=>hdone x hx hk (by omega),h.jx.add1 hl _ _,by simp [giveS]; omega,by simp [giveS,addG]; omega⟩
 rw [if_neg k1] at hg ⊢
 by_cases k2:e.kind=2
 ·rw [if_pos k2] at hg ⊢
  simp only [Bool.and_eq_true,existsB,decide_eq_true_eq] at hg
  have hs:=addG_sh s (s.owners.getD e.estate.toNat 0) e.estate e.system e.units
  have:=hs.size; have:=hs.own
  refine ⟨addG_wf h.wf hs100 ..,h.ll,fun x hx hk=>hdone x hx hk (by omega),⟨h.jx.own,h.jx.wt,fun g hgm=>?_⟩,by show size (addG s (s.owners.getD e.estate.toNat 0) e.estate e.system e.units)≤_; simp only [List.length_append,List.length_cons,List.length_nil]; omega,by simp [attachS,addG]; omega⟩
  simp only [attachS,addG,List.mem_append,List.mem_singleton] at hgm
  rcases hgm with hgm|rfl
  ·exact h.jx.gr g hgm
  ·exact .inr (.inr (.inr ⟨rfl,hev.estate,hg.1.1,rfl,by simp only; omega⟩))
 rw [if_neg k2] at hg ⊢
 by_cases k3:e.kind=3
 ·rw [if_pos k3] at hg ⊢
  simp only [Bool.and_eq_true,decide_eq_true_eq] at hg
  have hp:=hev.person (by omega) (by omega)
  exact h.die k3 ⟨hp.1,by have:=h.ll; omega⟩ (liv _ (hev.other k3) hg.2.2) hg.1
 rw [if_neg k3] at hg ⊢
 by_cases k4:e.kind=4
 ·rw [if_pos k4] at hg ⊢
  simp only [Bool.and_eq_true,existsB,decide_eq_true_eq] at hg
  have hl:=liv _ (hev.person (by omega) (by omega)) hg.2.1
  have hs:=ownS_sh s e.estate.toNat e.person
  have:=hs.size; have:=hs.own
  have:=hev.estate
  exact ⟨ownS_wf h.wf _ _,h.ll,fun x hx hk=>hdone x hx hk (by omega),h.jx.own_ (by omega) hl (Liv.ne hl),by simp; omega,by simp [ownS]; omega⟩
 rw [if_neg k4] at hg ⊢
 by_cases k5:e.kind=5
 ·rw [if_pos k5] at hg ⊢
  have hl0:=hev.person (by omega) (by omega)
  simp [divB] at hg
  obtain ⟨g1,g2,g3,g4,_⟩:=hg
  have hl:Liv b s e.person:=liv _ hl0 (by simpa using g4)
  have hgd:s.grants[e.grant.toNat]?.getD default=gAt s e.grant.toNat:=by simp [gAt]
  rw [hgd] at g2
  have hge:=hev.grant
  have hs:=divideS_sh s e
  have:=hs.size; have:=hs.own
  have hm:=h.jx.gr _ (gAt_mem (show e.grant.toNat<s.grants.length by omega))
  have hoa:∀i,i<s.owners.length→(s.owners++ [e.person]).getD i 0=oAt s i:=fun i hi=>by
   unfold oAt
   rw [List.getD_eq_getElem?_getD,List.getD_eq_getElem?_getD,List.getElem?_append_left hi]
  have hol:(s.owners++ [e.person]).getD s.owners.length 0=e.person:=by
   rw [List.getD_eq_getElem?_getD]; simp
  have keep:∀g:GSt,(g.is=3∧g.person= -1∧g.estate= -1)∨(g.is=2∧Liv b s g.person∧g.estate= -1)∨(g.is=1∧g.estate= -1∧Liv b s g.person)∨(g.is=1∧0≤g.estate∧g.estate<s.owners.length∧oAt s g.estate.toNat=g.person∧g.person≠ -1)→
    (g.is=3∧g.person= -1∧g.estate= -1)∨(g.is=2∧Liv b s g.person∧g.estate= -1)∨(g.is=1∧g.estate= -1∧Liv b s g.person)∨(g.is=1∧0≤g.estate∧g.estate<(divideS s e).owners.length∧oAt (divideS s e) g.estate.toNat=g.person∧g.person≠ -1):=fun g hgg=>by
   rcases hgg with k|k|k|k
   ·exact .inl k
   ·exact .inr (.inl k)
   ·exact .inr (.inr (.inl k))
   ·refine .inr (.inr (.inr ⟨k.1,k.2.1,by simp [divideS,addG]; omega,?_,k.2.2.2.2⟩))
    show (s.owners++ [e.person]).getD g.estate.toNat 0=_
    rw [hoa _ (by omega)]
    exact k.2.2.2.1
  refine ⟨divideS_wf h.wf hs100 hod e (by omega),h.ll,fun x hx hk=>hdone x hx hk (by omega),⟨fun i hi=>?_,h.jx.wt,fun g hgm=>?_⟩,by simp; omega,by simp [divideS,addG]; omega⟩
  ·have hi':i<s.owners.length+1:=by simpa [divideS,addG] using hi
   show (s.owners++ [e.person]).getD i 0= -1∨Liv b s ((s.owners++ [e.person]).getD i 0)
   by_cases hc:i<s.owners.length
   ·rw [hoa i hc]; exact h.jx.own i hc
   ·have:i=s.owners.length:=by omega
    subst this
    rw [hol]
    exact .inr hl
  ·simp only [divideS,addG,List.mem_append,List.mem_singleton] at hgm
   rcases hgm with hgm|rfl
   ·rcases List.mem_or_eq_of_mem_set hgm with hgm|rfl
    ·exact keep g (h.jx.gr g hgm)
    ·exact keep _ (by exact hm)
   ·refine .inr (.inr (.inr ⟨rfl,by simp only; omega,by simp [divideS,addG]; omega,?_,Liv.ne hl⟩))
    show (s.owners++ [e.person]).getD (Int.toNat s.owners.length) 0=e.person
    rw [Int.toNat_natCast,hol]
 rw [if_neg k5] at hg ⊢
 by_cases k6:e.kind=6
 ·rw [if_pos k6] at hg ⊢
  simp only [Bool.and_eq_true,existsB,decide_eq_true_eq] at hg
  obtain ⟨g1,⟨g2,g3⟩,⟨g4,g5⟩,g6⟩:=hg
  have he0:=hev.estate
  have ho0:=hev.other0
  have hs:=joinS_sh s e
  have:=hs.size; have:=hs.own
  have hoj:∀i,oAt (joinS s e) i=if i=e.other.toNat then -1 else oAt s i:=fun i=>oAt_set (by omega) rfl
  have hlj:(joinS s e).owners.length=s.owners.length:=by simp [joinS]
  refine ⟨joinS_wf h.wf e,h.ll,fun x hx hk=>hdone x hx hk (by omega),⟨fun i hi=>?_,h.jx.wt,fun g hgm=>?_⟩,by simp; omega,by simp [joinS]; omega⟩
  ·rw [hoj]
   split
   ·exact .inl rfl
   ·exact h.jx.own i (by omega)
  ·obtain ⟨x,hx,rfl⟩:=List.mem_map.1 hgm
   rw [hlj]
   unfold joinF
   by_cases hc:x.estate=e.other
   ·rw [if_pos hc]
    rcases h.jx.gr x hx with k|k|k|k
    ·omega
    ·omega
    ·omega
    ·refine .inr (.inr (.inr ⟨k.1,he0,g2,?_,k.2.2.2.2⟩))
     simp only
     rw [hoj,if_neg (by omega)]
     have e1:oAt s e.estate.toNat=oAt s e.other.toNat:=g6
     rw [e1,←hc]
     exact k.2.2.2.1
   ·rw [if_neg hc]
    rcases h.jx.gr x hx with k|k|k|k
    ·exact .inl k
    ·exact .inr (.inl k)
    ·exact .inr (.inr (.inl k))
    ·refine .inr (.inr (.inr ⟨k.1,k.2.1,k.2.2.1,?_,k.2.2.2.2⟩))
     rw [hoj,if_neg (by omega)]
     exact k.2.2.2.1
 rw [if_neg k6] at hg ⊢
 by_cases k7:e.kind=7
 ·rw [if_pos k7] at hg ⊢
  simp only [Bool.and_eq_true,decide_eq_true_eq] at hg
  obtain ⟨g1,g2,g3⟩:=hg
  have hge:=hev.grant
  have hlt:e.grant.toNat<s.grants.length:=by omega
  have hs:=renewS_sh s e
  have:=hs.size; have:=hs.own
  have hop:=h.jx.open_ hlt g2
  exact ⟨renewS_wf h.wf e hlt (by rw [←g2]; exact (congrArg GSt.is (getD_at hlt)).symm),h.ll,fun x hx hk=>hdone x hx hk (by omega),h.jx.set (i:=e.grant.toNat) (y:= { s.grants.getD e.grant.toNat default with is:=1 }) (.inr (.inr (.inl ⟨rfl,hop.2,hop.1⟩))),by simp; omega,by simp [renewS]; omega⟩
 rw [if_neg k7] at hg ⊢
 simp only [Bool.and_eq_true] at hg
 have hl:=liv _ (hev.person (by omega) (by omega)) hg.1
 have hs:=askS_sh s n
 have:=hs.size; have:=hs.own
 refine ⟨askS_wf h.wf hs100 hnl,h.ll,fun x hx hk=>hdone x hx hk (by omega),⟨h.jx.own,fun w hw=>?_,h.jx.gr⟩,by simp; omega,by simp [askS]; omega⟩
 simp only [askS,List.mem_append,List.mem_singleton] at hw
 rcases hw with hw|rfl
 ·exact h.jx.wt w hw
 ·rw [hn]; exact hl
end
end Go.Gm.Tryz
end
section
namespace Go.Gm.Tryz
open Go.Proofs
theorem day_ev {b:Book} (hB:isBookB b=true) {e:Ev} (he:e∈b.events):0≤e.day∧e.day≤36500:=by
 obtain ⟨i,hi,rfl⟩:=List.mem_iff_getElem.1 he
 have:=(book_ok hB).ev i hi
 unfold isEventB at this
 simp [isDayI,inI] at this
 exact this.1
structure Cut (b:Book) (d:Int) (n:Nat):Prop where
 le:n≤b.events.length
 lo:∀e∈b.events.take n,e.day≤d
 hi:∀h:n<b.events.length,d<b.events[n].day
theorem up_ind {b:Book} {d:Int} {I:List Ev→Stand→Prop} (h0:I [] (start b)) (hs:∀(n:Nat) (hn:n<b.events.length) (s:Stand),b.events[n].day≤d→I (b.events.take n) s→goesB b (pass b s b.events[n].day) b.events[n]=true→I (b.events.take n++ [b.events[n]]) (serve b (doS b (pass b s b.events[n].day) b.events[n] n))) {u:Stand} (h:upS b d=.inr u):
  ∃n t,Cut b d n∧I (b.events.take n) t∧u=pass b t d:=by
 have:∀(es:List Ev) (n:Nat) (s:Stand),es=b.events.drop n→n≤b.events.length→I (b.events.take n) s→(∀e∈b.events.take n,e.day≤d)→upFrom b d es n s=.inr u→∃n t,Cut b d n∧I (b.events.take n) t∧u=pass b t d:=by
  intro es
  induction es with
  |nil=>
   intro n s he hn hI hd hu
   have hl:=congrArg List.length he
   simp only [List.length_drop,List.length_nil] at hl
   simp only [upFrom] at hu
   cases hu
   exact ⟨n,s,⟨hn,hd,fun h=>by omega⟩,hI,rfl⟩
  |cons e es ih=>
   intro n s he hn hI hd hu
   have hl:=congrArg List.length he
   simp only [List.length_drop,List.length_cons] at hl
   have hlt:n<b.events.length:=by omega
   rw [List.drop_eq_getElem_cons hlt] at he
   cases he
   simp only [upFrom] at hu
   split at hu
   ·rename_i hgt
    cases hu
    exact ⟨n,s,⟨hn,hd,fun _=>hgt⟩,hI,rfl⟩
   ·rename_i hgt
    split at hu
    ·rename_i hg
     have htk:b.events.take (n+1)=b.events.take n++ [b.events[n]]:=List.take_succ_eq_append_getElem hlt
     refine ih (n+1) _ rfl (by omega) (by rw [htk]; exact hs n hlt s (by omega) hI hg) (fun x hx=>?_) hu
     rw [htk] at hx
     rcases List.mem_append.1 hx with hx|hx
     ·exact hd x hx
     ·simp at hx; subst hx; omega
    ·cases hu
 exact this b.events 0 (start b) rfl (Nat.zero_le _) h0 (fun e he=>by simp at he) h
theorem evAt_lt {b:Book} {n:Nat} (h:n<b.events.length):evAt b n=b.events[n]:=by
 unfold evAt
 rw [Int.toNat_natCast]
 exact getD_at h
def diedB (b:Book) (p d:Int):Bool:=b.events.any fun e=>decide (e.kind=3∧e.day≤d∧e.person=p)
end Go.Gm.Tryz
end
section
namespace Go.Gm.Tryz
open Go.Proofs
def El (s:Stand) (d:Int) (i:Nat):Prop:=(gAt s i).is=2∧lastAt s i<d
theorem gAt_set {s t:Stand} {i j:Nat} {y:GSt} (hi:i<s.grants.length) (h:t.grants=s.grants.set i y):gAt t j=if j=i then y else gAt s j:=by
 unfold gAt
 rw [h,List.getD_eq_getElem?_getD,List.getD_eq_getElem?_getD]
 by_cases hc:j=i
 ·subst hc; rw [List.getElem?_set_self hi,if_pos rfl]; rfl
 ·rw [List.getElem?_set_ne (Ne.symm hc),if_neg hc]
theorem gAt_app {s t:Stand} {j:Nat} {y:GSt} (h:t.grants=s.grants++ [y]) (hj:j≤s.grants.length):gAt t j=if j=s.grants.length then y else gAt s j:=by
 unfold gAt
 rw [h,List.getD_eq_getElem?_getD,List.getD_eq_getElem?_getD]
 by_cases hc:j=s.grants.length
 ·subst hc; rw [if_pos rfl]; simp
 ·rw [List.getElem?_append_left (by omega),if_neg hc]
theorem gAt_map {s t:Stand} {f:GSt→GSt} {j:Nat} (h:t.grants=s.grants.map f) (hj:j<s.grants.length):gAt t j=f (gAt s j):=by
 unfold gAt
 rw [h,List.getD_eq_getElem?_getD,List.getD_eq_getElem?_getD,List.getElem?_map,List.getElem?_eq_getElem hj]
 rfl
theorem last_app {s t:Stand} {j:Nat} (h:t.last=s.last++ [0]) (hj:j<s.last.length):lastAt t j=lastAt s j:=by
 unfold lastAt
 rw [h,List.getD_eq_getElem?_getD,List.getD_eq_getElem?_getD,List.getElem?_append_left (by simpa using hj)]
theorem last_set {s t:Stand} {i j:Nat} {x:Int} (hi:i<s.last.length) (h:t.last=s.last.set i x):lastAt t j=if j=i then x else lastAt s j:=by
 unfold lastAt
 rw [h,List.getD_eq_getElem?_getD,List.getD_eq_getElem?_getD]
 simp only [Int.toNat_natCast]
 by_cases hc:j=i
 ·subst hc; rw [List.getElem?_set_self hi,if_pos rfl]; rfl
 ·rw [List.getElem?_set_ne (Ne.symm hc),if_neg hc]
structure Fd (b:Book) (done:List Ev) (s:Stand):Prop where
 ll:s.last.length=s.grants.length
 es:∀i,i<s.grants.length→ -1≤(gAt s i).estate∧((gAt s i).is=1∨(gAt s i).estate= -1)
 st:∀i,i<s.grants.length→(gAt s i).is=1→(gAt s i).estate= -1→∃e∈done,e.person=(gAt s i).person∧(e.kind=1∨e.kind=8∨(e.kind=7∧e.grant=i))
 op:∀i,i<s.grants.length→(gAt s i).is=2→∃e∈done,e.kind=3∧e.other=(gAt s i).person∧lastAt s i=e.day+b.term
 wt:∀w∈s.waits,evAt b w∈done∧(evAt b w).kind=8
section
variable {b:Book} {s:Stand} {done:List Ev}
theorem Fd.more (h:Fd b done s) (e:Ev):Fd b (done++ [e]) s:=
 ⟨h.ll,h.es,fun i hi h1 h2=>by obtain ⟨x,hx,k⟩:=h.st i hi h1 h2; exact ⟨x,List.mem_append_left _ hx,k⟩,
  fun i hi h1=>by obtain ⟨x,hx,k⟩:=h.op i hi h1; exact ⟨x,List.mem_append_left _ hx,k⟩,fun w hw=>⟨List.mem_append_left _ (h.wt w hw).1,(h.wt w hw).2⟩⟩
theorem Fd.add (h:Fd b done s) {p es sy u:Int} (h1: -1≤es) (h2:es= -1→∃e∈done,e.person=p∧(e.kind=1∨e.kind=8)) {t:Stand} (hg:t.grants=s.grants++ [⟨1,p,es,sy,u⟩]) (hl:t.last=s.last++ [0]) (hw:∀w∈t.waits,w∈s.waits):Fd b done t:=by
 have hlen:t.grants.length=s.grants.length+1:=by rw [hg]; simp
 have hll:=h.ll
 refine ⟨by rw [hl,hlen]; simp [hll],fun i hi=>?_,fun i hi k1 k2=>?_,fun i hi k1=>?_,fun w hw'=>h.wt w (hw w hw')⟩
 ·rw [gAt_app hg (by omega)]
  split
  ·exact ⟨h1,.inl rfl⟩
  ·exact h.es i (by omega)
 ·rw [gAt_app hg (by omega)] at k1 k2 ⊢
  split at k1
  ·rename_i hc
   rw [if_pos hc] at k2 ⊢
   obtain ⟨e,he,a1,a2⟩:=h2 k2
   exact ⟨e,he,a1,a2.elim .inl fun h=>.inr (.inl h)⟩
  ·rename_i hc
   rw [if_neg hc] at k2 ⊢
   exact h.st i (by omega) k1 k2
 ·rw [gAt_app hg (by omega)] at k1 ⊢
  split at k1
  ·cases k1
  ·rename_i hc
   rw [if_neg hc]
   rw [last_app hl (by omega)]
   exact h.op i (by omega) k1
theorem Fd.serve (h:Fd b done s):Fd b done (serve b s):=
 serve_ind (I:=Fd b done) (fun s w ws h hw _=>h.add (by omega) (fun _=>⟨evAt b w,(h.wt w (by rw [hw]; simp)).1,rfl,.inr (h.wt w (by rw [hw]; simp)).2⟩) rfl rfl fun v hv=>by rw [hw]; exact List.mem_cons_of_mem _ hv) h
theorem Fd.endG (h:Fd b done s) {g:Nat} (hg:g<s.grants.length) (h2:(gAt s g).is=2) (d:Int):Fd b done (endG s g d):=by
 have hgr:(Tryz.endG s g d).grants=s.grants.set g { gAt s g with is:=3,person:= -1 }:=rfl
 have hlen:(Tryz.endG s g d).grants.length=s.grants.length:=by rw [hgr]; simp
 have he:=h.es g hg
 refine ⟨by rw [hlen]; exact h.ll,fun i hi=>?_,fun i hi k1 k2=>?_,fun i hi k1=>?_,h.wt⟩
 ·rw [gAt_set hg hgr]
  split
  ·exact ⟨he.1,.inr (by simp only; omega)⟩
  ·exact h.es i (by omega)
 ·rw [gAt_set hg hgr] at k1 k2 ⊢
  split at k1
  ·cases k1
  ·rename_i hc
   rw [if_neg hc] at k2 ⊢
   exact h.st i (by omega) k1 k2
 ·rw [gAt_set hg hgr] at k1 ⊢
  split at k1
  ·cases k1
  ·rename_i hc
   rw [if_neg hc]
   exact h.op i (by omega) k1
theorem Fd.pass (h:Fd b done s) (d:Int):Fd b done (pass b s d):=
 pass_ind (I:=Fd b done) (fun s w ws h hw _=>h.add (by omega) (fun _=>⟨evAt b w,(h.wt w (by rw [hw]; simp)).1,rfl,.inr (h.wt w (by rw [hw]; simp)).2⟩) rfl rfl fun v hv=>by rw [hw]; exact List.mem_cons_of_mem _ hv) (fun s g h hg h2 _=>h.endG hg h2 _) h
theorem Fd.lands (h:Fd b done s) {f:GSt→GSt} (hf:∀g,(f g).is=g.is∧(g.estate= -1→f g=g)∧(-1≤g.estate→g.estate≠ -1→ -1<(f g).estate)) {t:Stand} (ht:t.grants=s.grants.map f) (hl:t.last=s.last) (hw:t.waits=s.waits):Fd b done t:=by
 have hlen:t.grants.length=s.grants.length:=by rw [ht]; simp
 have key:∀i,i<s.grants.length→((gAt t i).estate= -1→gAt t i=gAt s i∧(gAt s i).estate= -1):=fun i hi k=>by
  rw [gAt_map ht hi] at k ⊢
  by_cases hc:(gAt s i).estate= -1
  ·exact ⟨(hf _).2.1 hc,hc⟩
  ·have:=(hf (gAt s i)).2.2 (h.es i hi).1 hc
   omega
 refine ⟨by rw [hl,hlen]; exact h.ll,fun i hi=>?_,fun i hi k1 k2=>?_,fun i hi k1=>?_,fun w hw'=>h.wt w (hw▸hw')⟩
 ·rw [hlen] at hi
  have he:=h.es i hi
  by_cases hc:(gAt s i).estate= -1
  ·rw [gAt_map ht hi,(hf _).2.1 hc]
   exact he
  ·rw [gAt_map ht hi,(hf _).1]
   have:=(hf (gAt s i)).2.2 he.1 hc
   exact ⟨by omega,.inl (by omega)⟩
 ·rw [hlen] at hi
  obtain ⟨a1,a2⟩:=key i hi k2
  rw [a1] at k1 ⊢
  exact h.st i hi k1 a2
 ·rw [hlen] at hi
  have k1':=k1
  rw [gAt_map ht hi,(hf _).1] at k1'
  have he:=(h.es i hi).2
  have hc:(gAt s i).estate= -1:=by omega
  rw [gAt_map ht hi,(hf _).2.1 hc]
  have:lastAt t i=lastAt s i:=by unfold lastAt; rw [hl]
  rw [this]
  exact h.op i hi k1'
theorem Fd.own (h:Fd b done s) (n:Nat) (p:Int):Fd b done (ownS s n p):=
 h.lands (f:=fun x=>if x.estate=(n:Int) then { x with person:=p } else x) (fun g=>by
  split
  ·exact ⟨rfl,fun hc=>by omega,fun _ _=>by simp only; omega⟩
  ·exact ⟨rfl,fun _=>rfl,fun _ _=>by omega⟩) rfl rfl rfl
theorem Fd.set (h:Fd b done s) {i:Nat} (hi:i<s.grants.length) {y:GSt} {x:Int} (h1: -1≤y.estate∧(y.is=1∨y.estate= -1)) (h2:y.is=1→y.estate= -1→∃e∈done,e.person=y.person∧(e.kind=1∨e.kind=8∨(e.kind=7∧e.grant=i)))
  (h3:y.is=2→∃e∈done,e.kind=3∧e.other=y.person∧x=e.day+b.term) {t:Stand} (hg:t.grants=s.grants.set i y) (hl:t.last=s.last.set i x) (hw:t.waits=s.waits):Fd b done t:=by
 have hlen:t.grants.length=s.grants.length:=by rw [hg]; simp
 have hll:=h.ll
 refine ⟨by rw [hl,hlen]; simp [hll],fun j hj=>?_,fun j hj k1 k2=>?_,fun j hj k1=>?_,fun w hw'=>h.wt w (hw▸hw')⟩
 ·rw [gAt_set hi hg]
  split
  ·exact h1
  ·exact h.es j (by omega)
 ·rw [gAt_set hi hg] at k1 k2 ⊢
  split at k1
  ·rename_i hc
   rw [if_pos hc] at k2 ⊢
   subst hc
   exact h2 k1 k2
  ·rename_i hc
   rw [if_neg hc] at k2 ⊢
   exact h.st j (by omega) k1 k2
 ·rw [gAt_set hi hg] at k1 ⊢
  rw [last_set (by omega) hl]
  split at k1
  ·rename_i hc
   rw [if_pos hc,if_pos hc]
   exact h3 k1
  ·rename_i hc
   rw [if_neg hc,if_neg hc]
   exact h.op j (by omega) k1
theorem last_self {s:Stand} {i:Nat} (h:i<s.last.length):s.last=s.last.set i (lastAt s i):=by
 have:lastAt s i=s.last[i]:=by unfold lastAt; rw [Int.toNat_natCast]; exact getD_at h
 rw [this,List.set_getElem_self]
theorem Fd.do_ (h:Fd b done s) {e:Ev} (hev:EvOk b s e) (hd:0≤e.day∧e.day≤36500) (ht:0≤b.term∧b.term≤1000) (hg:goesB b s e=true) {n:Nat} (hn:evAt b n=e):Fd b (done++ [e]) (doS b s e n):=by
 have hm:e∈done++ [e]:=by simp
 have h':=h.more e
 unfold goesB at hg
 unfold doS
 by_cases k1:e.kind=1
 ·rw [if_pos k1]
  exact h'.add (by omega) (fun _=>⟨e,hm,rfl,.inl k1⟩) rfl rfl fun w hw=>hw
 rw [if_neg k1] at hg ⊢
 by_cases k2:e.kind=2
 ·rw [if_pos k2]
  have:=hev.estate
  exact h'.add (by omega) (fun hc=>by omega) rfl rfl fun w hw=>hw
 rw [if_neg k2] at hg ⊢
 by_cases k3:e.kind=3
 ·rw [if_pos k3]
  refine die_ind (I:=Fd b (done++ [e])) (fun s h=>⟨h.ll,h.es,h.st,h.op,h.wt⟩) (fun s i h _ _=>h.own i e.other) (fun s h=>⟨h.ll,h.es,h.st,h.op,fun w hw=>h.wt w (List.mem_filter.1 hw).1⟩)
   (fun s i h hi h2 _=>(h.endG hi h2 e.day).serve) (fun s i h hi h1 h2 h3=>?_) h'
  have he:=h.es i hi
  refine h.set hi (y:= { gAt s i with is:=2,person:=e.other }) (x:=IntKind.i64.wrap (e.day+b.term)) ⟨he.1,.inr (by simp only; omega)⟩ (fun hc=>by cases hc) (fun _=>⟨e,hm,k3,rfl,wrap64 _ (by omega) (by omega)⟩) rfl rfl rfl
 rw [if_neg k3] at hg ⊢
 by_cases k4:e.kind=4
 ·rw [if_pos k4]; exact h'.own _ _
 rw [if_neg k4] at hg ⊢
 by_cases k5:e.kind=5
 ·rw [if_pos k5] at hg ⊢
  simp [divB] at hg
  obtain ⟨g1,g2,g3,g4,_⟩:=hg
  have hge:=hev.grant
  have hgd:s.grants[e.grant.toNat]?.getD default=gAt s e.grant.toNat:=by simp [gAt]
  rw [hgd] at g2
  have hlt:e.grant.toNat<s.grants.length:=by omega
  have he:=h.es _ hlt
  have hll:=h.ll
  refine Fd.add (s:= { s with owners:=s.owners++ [e.person],grants:=s.grants.set e.grant.toNat { s.grants.getD e.grant.toNat default with units:=IntKind.i64.wrap ((s.grants.getD e.grant.toNat default).units - e.units) } }) ?_ (p:=e.person) (es:=s.owners.length) (sy:=(s.grants.getD e.grant.toNat default).system) (u:=e.units) (by omega) (fun hc=>by omega) rfl rfl fun w hw=>hw
  refine h'.set hlt (y:= { gAt s e.grant.toNat with units:=IntKind.i64.wrap ((gAt s e.grant.toNat).units - e.units) }) (x:=lastAt s e.grant.toNat) he (fun _ hc=>?_) (fun hc=>?_) rfl (last_self (s:=s) (i:=e.grant.toNat) (by omega)) rfl
  ·simp only at hc; omega
  ·simp only at hc; omega
 rw [if_neg k5] at hg ⊢
 by_cases k6:e.kind=6
 ·rw [if_pos k6]
  have h0:=hev.estate
  have h1:=hev.other0
  refine h'.lands (f:=joinF e) (fun g=>?_) rfl rfl rfl
  unfold joinF
  split
  ·exact ⟨rfl,fun hc=>by omega,fun _ _=>by simp only; omega⟩
  ·exact ⟨rfl,fun _=>rfl,fun _ _=>by omega⟩
 rw [if_neg k6] at hg ⊢
 by_cases k7:e.kind=7
 ·rw [if_pos k7] at hg ⊢
  simp only [Bool.and_eq_true,decide_eq_true_eq] at hg
  obtain ⟨g1,g2,g3⟩:=hg
  have hge:=hev.grant
  have hlt:e.grant.toNat<s.grants.length:=by omega
  have he:=h.es _ hlt
  have hll:=h.ll
  exact h'.set hlt (y:= { gAt s e.grant.toNat with is:=1 }) (x:=lastAt s e.grant.toNat) ⟨he.1,.inl rfl⟩ (fun _ _=>⟨e,hm,g3.symm,.inr (.inr ⟨k7,by omega⟩)⟩) (fun hc=>by cases hc) rfl (last_self (s:=s) (i:=e.grant.toNat) (by omega)) rfl
 rw [if_neg k7] at hg ⊢
 have k8:e.kind=8:=by have:=hev.kind; omega
 refine ⟨h'.ll,h'.es,h'.st,h'.op,fun w hw=>?_⟩
 simp only [askS,List.mem_append,List.mem_singleton] at hw
 rcases hw with hw|rfl
 ·exact h'.wt w hw
 ·rw [hn]; exact ⟨hm,k8⟩
theorem Fd.start (b:Book):Fd b [] (start b):=⟨rfl,fun i hi=>by simp [Tryz.start] at hi,fun i hi=>by simp [Tryz.start] at hi,fun i hi=>by simp [Tryz.start] at hi,fun w hw=>by simp [Tryz.start] at hw⟩
end
theorem book_term {b:Book} (hB:isBookB b=true):0≤b.term∧b.term≤1000:=by
 simp only [isBookB,Bool.and_eq_true,inI,decide_eq_true_eq] at hB
 exact hB.1.1.1.1.1.2
theorem book_supply {b:Book} (hB:isBookB b=true):0≤b.supply∧b.supply≤10000:=by
 simp only [isBookB,Bool.and_eq_true,inI,decide_eq_true_eq] at hB
 exact hB.1.1.1.1.1.1.2
theorem book_tbl {b:Book} (hB:isBookB b=true):isTableB b.tbl=true:=by
 simp only [isBookB,Bool.and_eq_true] at hB
 exact hB.1.1.1.1.1.1.1
theorem upJ_ind {b:Book} (hB:isBookB b=true) {d:Int} {I I':List Ev→Stand→Prop} (h0:I [] (start b)) (hp:∀done s d',d'≤d→J b done s→I done s→I done (pass b s d')) (hsv:∀done s,I' done s→I done (serve b s))
  (hd:∀(n:Nat) (hn:n<b.events.length) (s:Stand),b.events[n].day≤d→J b (b.events.take n) s→I (b.events.take n) s→EvOk b s b.events[n]→isEventB b b.events[n]=true→goesB b s b.events[n]=true→evAt b n=b.events[n]→I' (b.events.take n++ [b.events[n]]) (doS b s b.events[n] n))
  {u:Stand} (h:upS b d=.inr u):∃n t,Cut b d n∧J b (b.events.take n) t∧I (b.events.take n) t∧u=pass b t d:=by
 have hbo:=book_ok hB
 have h12:=hbo.events
 have h6:=hbo.owners
 obtain ⟨n,t,h1,h2,rfl⟩:=up_ind (I:=fun done s=>J b done s∧I done s) ⟨J.start hB,h0⟩ (fun n hn s hdn ⟨hJ,hI⟩ hg=>by
  have hJ':=hJ.pass b.events[n].day
  have ho:=hJ'.ow
  have hlen:(b.events.take n).length=n:=by simp; omega
  have hev:=event_ok (s:=pass b s b.events[n].day) hbo.persons hJ'.ll (hbo.ev n hn)
  exact ⟨(hJ'.do_ hbo (hbo.ev n hn) hg (evAt_lt hn) hn (by omega) (by omega)).serve,hsv _ _ (hd n hn _ hdn hJ' (hp _ _ _ hdn hJ hI) hev (hbo.ev n hn) hg (evAt_lt hn))⟩) h
 exact ⟨n,t,h1,h2.1,h2.2,rfl⟩
def cameB (b:Book) (p:Int) (i:Nat) (d:Int):Bool:=b.events.any fun x=>decide (x.day≤d∧x.person=p∧(x.kind=1∨x.kind=8∨(x.kind=7∧x.grant=i)))
def leftB (b:Book) (p d:Int):Bool:=b.events.any fun x=>decide (x.kind=3∧x.other=p∧x.day≤d∧d≤x.day+b.term)
end Go.Gm.Tryz
end
section
namespace Go.Gm.Tryz
open Go.Proofs
def noneV:Value:=.slice none 0 0
theorem vecs_dis {b:Book} {s:Stand} {H:GH} {N M:Nat} {v1 v2:Value} {x y:List Int} (_h1:OwnL H N v1 3 1 encI x) (_h2:OwnL H M v2 3 1 encI y) (hd:∀k,blkOf v1=some k→blkOf v2≠some k):
  ∀(i j:Nat) (hi:i<(vecs b s [] [] v1 v2 noneV noneV noneV noneV noneV noneV noneV).length) (hj:j<(vecs b s [] [] v1 v2 noneV noneV noneV noneV noneV noneV noneV).length),i≠j→∀k,blkOf (vecs b s [] [] v1 v2 noneV noneV noneV noneV noneV noneV noneV)[i].v=some k→blkOf (vecs b s [] [] v1 v2 noneV noneV noneV noneV noneV noneV noneV)[j].v≠some k:=by
 have hb:∀(i:Nat) (hi:i<9),2≤i→blkOf ((vecs b s [] [] v1 v2 noneV noneV noneV noneV noneV noneV noneV)[i]'hi).v=none:=by
  intro i hi h2
  have:i=2∨i=3∨i=4∨i=5∨i=6∨i=7∨i=8:=by omega
  rcases this with rfl|rfl|rfl|rfl|rfl|rfl|rfl<;>rfl
 intro i j hi hj hij k hk hc
 have hi9:i<9:=hi
 have hj9:j<9:=hj
 by_cases h2i:2≤i
 ·have:=(hb i hi9 h2i).symm.trans hk; cases this
 by_cases h2j:2≤j
 ·have:=(hb j hj9 h2j).symm.trans hc; cases this
 have:(i=0∧j=1)∨(i=1∧j=0):=by omega
 rcases this with ⟨rfl,rfl⟩|⟨rfl,rfl⟩
 ·exact hd k hk hc
 ·exact hd k hc hk
theorem RIn.reg {H:GH} {N:Nat} {l:BLoc} {b:Book} {sg:Nat} {s t:Stand} {v1 v2 vl vo vg va vw vb vd:Value} (h:RIn H N l b sg s (s.fell.map Prod.fst) (s.fell.map Prod.snd) v1 v2 vl vo vg va vw vb vd) (e:t=s):∃O,RegS H N l b sg t O:=by
 subst e
 exact ⟨_,_,_,_,_,_,_,_,_,_,h,fun g=>Iff.rfl⟩
theorem rbegin_con {H:GH} {l:BLoc} {b:Book} (hb:BookIn H l b) (hB:isBookB b=true) (hrows:b.tbl.rows.length≤4):
  GCall Tryz.prog 78 [bookV l b] H fun x H'=>Sub H H'∧∃N sg O,H.next≤N∧x=.ret (.pointer (some (ga sg 0 0)))∧RegS H' N l b sg (start b) O:=by
 rcases l with ⟨⟨⟨ra,rf⟩⟩,⟨oa,of'⟩,⟨va',vf'⟩⟩
 have hbo:=book_ok hB
 have hp:=hbo.persons
 have ho:=hbo.owners
 refine gcall_wp tok mix fok78 (F:=g78) (c:=_) rfl (n:=40) rfl (rs:= [.tmp 2]) rfl ?_
 simp
 generalize hH1:GH.push _ _=H1
 have hs1:Sub H H1:=by subst hH1; exact Sub.push (.refl H) _
 have hb1:H1.get H.next=some (.arr { cells:= [.slice ra b.tbl.rows.length rf,vi b.tbl.draw,vi b.supply,vi b.term,vi b.persons,.slice oa b.owners.length of',.slice va' b.events.length vf'],ty:=28 }):=by
  subst hH1; simp
 have hn1:H1.next=H.next+1:=by subst hH1; simp
 clear hH1
 have hbi:=hb.mono hs1
 have hw1:=rwaters_con ⟨⟨ra,rf⟩⟩ b.tbl (book_tbl hB) hrows 1 rfl H1 hbi.t
 refine hw1.mono ?_
 rintro x H2 ⟨hs2,v1,rfl,ho1⟩
 have hn2:=hs2.1
 have hb2:=(hs2.2 H.next (by omega)).trans hb1
 have hw2:=rwaters_con ⟨⟨ra,rf⟩⟩ b.tbl (book_tbl hB) hrows 2 rfl H2 (hbi.mono hs2).t
 simp (disch:=omega) [hb2]
 refine hw2.mono ?_
 rintro x H3 ⟨hs3,v2,rfl,ho2⟩
 have hn3:=hs3.1
 have hb3:=(hs3.2 H.next (by omega)).trans hb2
 obtain ⟨a1,q1,rfl⟩:=ho1.slice
 obtain ⟨a2,q2,rfl⟩:=ho2.slice
 obtain ⟨P,hP⟩:∃P:Nat,b.persons=P:=⟨b.persons.toNat,by omega⟩
 simp (disch:=omega) [hb3]
 generalize hH4:GH.push H3 _=H4
 have hs4:Sub H3 H4:=by subst hH4; exact Sub.push (.refl H3) _
 have hn4:H4.next=H3.next+1:=by subst hH4; simp
 have hsub:=hs1.trans (hs2.trans (hs3.trans hs4))
 have hR4:RIn H4 H1.next ⟨⟨⟨ra,rf⟩⟩,⟨oa,of'⟩,⟨va',vf'⟩⟩ b H3.next ⟨[],[],[],[],[],[]⟩ [] [] (.slice a1 (watersL b.tbl 1).length q1) (.slice a2 (watersL b.tbl 2).length q2) noneV noneV noneV noneV noneV noneV noneV:=by
  have hnil:∀ {ty sz:Nat},OwnL H4 H1.next noneV ty sz id []:=.inl ⟨rfl,rfl⟩
  refine ⟨⟨?_,⟨by omega,by omega⟩,?_,vecs_dis (ho1.sub (hs3.trans hs4)) (ho2.sub hs4) fun k hk hc=>?_⟩,hb.mono hsub,fun a ha=>?_,fun a ha=>?_,fun a ha=>?_⟩
  ·subst hH4; rw [GH.get_push_same]; rfl
  ·intro o hom
   simp only [vecs,List.mem_cons,List.mem_nil_iff,or_false] at hom
   rcases hom with rfl|rfl|rfl|rfl|rfl|rfl|rfl|rfl|rfl
   ·exact ⟨ownL_id.2 (ho1.sub (hs3.trans hs4)),by simp⟩
   ·exact ⟨ownL_id.2 ((ho2.sub hs4).weaken (by omega)),by simp⟩
   all_goals exact ⟨hnil,by simp⟩
  ·have:=(ho1.blk_lt hk).2
   have:=(ho2.blk_lt hc).1
   omega
  ·have:=(hb.t.ok a ha).1; omega
  ·have:=(hb.owners.ok a ha).1; omega
  ·have:=(hb.events.ok a ha).1; omega
 have hb4:=(hs4.2 H.next (by omega)).trans hb3
 clear hH4
 refine wp_up tok mix (by kernel_rfl) P (fun i ρ m H5=>ρ 1=.pointer (some (ga H.next 0 0))∧ρ 3=.pointer (some (ga H3.next 0 0))∧ρ 4=vi i∧m= []∧Sub H H5∧H5.get H.next=H4.get H.next∧
  ∃vl,RIn H5 H1.next ⟨⟨⟨ra,rf⟩⟩,⟨oa,of'⟩,⟨va',vf'⟩⟩ b H3.next ⟨List.replicate i true,[],[],[],[],[]⟩ [] [] (.slice a1 (watersL b.tbl 1).length q1) (.slice a2 (watersL b.tbl 2).length q2) vl noneV noneV noneV noneV noneV noneV) (i0:=0) (by omega)
  ⟨by simp,by simp,by simp,rfl,hsub,rfl,_,hR4⟩ ?_
 rintro i ρ m H5 hi ⟨e1,e3,e4,rfl,hs5,hk5,vl,h5⟩
 have hb5:=hk5.trans hb4
 have hg5:=h5.g
 have hsl5:=h5.sgl.2
 have hsN5:=h5.sgl.1
 have hlt5:H.next<H5.next:=by omega
 simp only [bookC,List.cons_append,List.nil_append] at hg5
 simp (disch:=omega) [e1,e4,hb5]
 by_cases hlt:i<P
 ·have hltI:(i:Int)<b.persons:=by omega
  have hlv:=h5.lives.len
  simp only [List.length_replicate] at hlv
  obtain ⟨vl',H6,happ,ho6,hn6,hf6,hb6⟩:=(h5.lives.push (.arr { cells:= [.bool true],ty:=4 })).app (by simp) (by simp) (by decide) true (by simp; omega)
  simp only [encB] at happ
  have d8:1*(1+i)≤1000000:=by omega
  have d9:1+i≤1000000:=by omega
  have hg6:=(hf6 H3.next (by simp; omega) (h5.ne 2 (by decide))).trans ((GH.get_push_lt _ _ hsl5).trans hg5)
  have hb6':=(hf6 H.next (by simp; omega) (fun hc=>by have:=(h5.lives.blk_lt hc).1; omega)).trans (GH.get_push_lt _ _ hlt5)
  simp only [GH.next_push] at hn6
  obtain ⟨al,fl,rfl⟩:=ho6.slice
  simp (disch:=omega) [hltI,e1,e3,e4,hg5,hlv,d9,happ,hg6,wrap64]
  obtain ⟨hS6,_⟩:=h5.upd 2 (by decide) (H1:=H6) (s1:=⟨List.replicate i true++ [true],[],[],[],[],[]⟩) (bk1:= []) (dy1:= []) (by omega) (ownL_id.2 ho6) (fun k hk hne=>by rw [hf6 k (by simp; omega) hne,GH.get_push_lt _ _ hk]) (fun k hk=>(hb6 k hk).imp id fun h=>by simp at h; omega) rfl
  simp only [bookC,List.cons_append,List.nil_append,List.length_append,List.length_cons,List.length_nil,Nat.zero_add,List.length_replicate] at hS6
  have hrep:List.replicate i true++ [true]=List.replicate (i+1) true:=by rw [List.replicate_succ']
  rw [hrep] at hS6
  refine ⟨hlt,⟨?_,fun g hg=>?_⟩,?_,_,hS6⟩
  ·have:=hs5.1; simp; omega
  ·rw [GH.get_put_ne _ _ (by omega),hf6 g (by have:=hs5.1; simp; omega) (fun hc=>by have:=(h5.lives.blk_lt hc).1; omega),GH.get_push_lt _ _ (by have:=hs5.1; omega),hs5.2 g hg]
  ·rw [hb6',hk5]
 ·have hge:¬(i:Int)<b.persons:=by omega
  have:i=P:=by omega
  subst this
  have hbo5:=(hb.owners.mono hs5)
  have hrs:=hbo5.readS
  obtain ⟨v7,H7,happ7,ho7,hn7,hf7,hb7⟩:=(OwnL.nil (H:=H5) (N:=H1.next) (ty:=3) (sz:=1) (enc:=encI)).apps (fun _=>rfl) (fun _=>rfl) (by decide) b.owners (by omega)
  simp only [List.nil_append] at ho7
  have hg7:=(hf7 H3.next hsl5 (by simp)).trans hg5
  have d8:8*b.owners.length≤1000000:=by omega
  have d9:b.owners.length≤1000000:=by omega
  obtain ⟨a7,f7,rfl⟩:=ho7.slice
  simp (disch:=omega) [hge,e1,e3,hg5,hb5,noneV,hrs,d8,d9,happ7,hg7]
  obtain ⟨hS7,_⟩:=h5.upd 3 (by decide) (H1:=H7) (s1:=⟨List.replicate i true,b.owners,[],[],[],[]⟩) (bk1:= []) (dy1:= []) hn7 (ownL_id.2 ho7) (fun k hk _=>hf7 k hk (by simp)) (fun k hk=>(hb7 k hk).imp (fun h=>by simp at h) id) rfl
  simp only [bookC,List.cons_append,List.nil_append] at hS7
  have hst:start b=⟨List.replicate i true,b.owners,[],[],[],[]⟩:=by unfold start; rw [hP,Int.toNat_natCast]
  have hRS:=hS7.reg (s:=⟨List.replicate i true,b.owners,[],[],[],[]⟩) hst
  refine ⟨⟨?_,fun g hg=>?_⟩,H1.next,by omega,H3.next,rfl,hRS⟩
  ·have:=hs5.1; simp; omega
  ·rw [GH.get_put_ne _ _ (by omega),hf7 g (by have:=hs5.1; omega) (by simp),hs5.2 g hg]
end Go.Gm.Tryz
end
section
namespace Go.Gm.Tryz
open Go.Proofs
def UpR (H:GH) (l:BLoc) (b:Book) (day:Int) (x:GO) (H':GH):Prop:=match upS b day with
 | .inr s=>∃N sg O,H.next≤N∧x=.ret (.tuple #[.pointer (some (ga sg 0 0)),vi (-1)])∧RegS H' N l b sg s O∧Wf b s∧Wg b s
 | .inl n=>∃sg,x=.ret (.tuple #[.pointer (some (ga sg 0 0)),vi n])
theorem rup_con {H:GH} {l:BLoc} {b:Book} (hb:BookIn H l b) (hB:isBookB b=true) (hrows:b.tbl.rows.length≤4) (day:Int):
  GCall Tryz.prog 44 [bookV l b,vi day] H fun x H'=>Sub H H'∧UpR H l b day x H':=by
 rcases l with ⟨⟨⟨ra,rf⟩⟩,⟨oa,of'⟩,⟨va',vf'⟩⟩
 have hbo:=book_ok hB
 have hp:=hbo.persons
 have ho:=hbo.owners
 have hv:=hbo.events
 have hsu:=book_supply hB
 refine gcall_wp tok mix fok44 (F:=g44) (c:=_) rfl (n:=52) rfl (rs:= [.tmp 4,.tmp 5]) rfl ?_
 simp
 generalize hH1:H.push _=H1
 have hs1:Sub H H1:=by subst hH1; exact Sub.push (.refl H) _
 have hb1:H1.get H.next=some (.arr { cells:= [.slice ra b.tbl.rows.length rf,vi b.tbl.draw,vi b.supply,vi b.term,vi b.persons,.slice oa b.owners.length of',.slice va' b.events.length vf'],ty:=28 }):=by subst hH1; simp
 have hn1:H1.next=H.next+1:=by subst hH1; simp
 clear hH1
 have hbi:=hb.mono hs1
 refine (rbegin_con hbi hB hrows).mono ?_
 rintro x H2 ⟨hs2,N,sg,O2,hN,rfl,h2⟩
 have hn2:=hs2.1
 have hb2:=(hs2.2 H.next (by omega)).trans hb1
 simp
 refine wp_up tok mix (by kernel_rfl) b.events.length (fun i ρ m H3=>ρ 1=vi day∧ρ 2=.pointer (some (ga H.next 0 0))∧ρ 6=.pointer (some (ga sg 0 0))∧ρ 7=vi i∧m= []∧
  ∃s O3,Frm O2 O3 H2 H3∧RegS H3 N ⟨⟨⟨ra,rf⟩⟩,⟨oa,of'⟩,⟨va',vf'⟩⟩ b sg s O3∧J b (b.events.take i) s∧Wg b s∧upFrom b day (b.events.drop i) i s=upS b day) (i0:=0) (by omega)
  ⟨by simp,by simp,by simp,by simp,by simp,start b,O2,Frm.refl (fun g hg=>(h2.lt g hg).2),h2,J.start hB,Wg.start b,rfl⟩ ?_
 rintro i ρ m H3 hi ⟨e1,e2,e6,e7,rfl,s,O3,f3,h3,hJ3,hG3,hup⟩
 have hw3:=hJ3.wf
 have hkeep:∀ {O4:Nat→Prop} {H4:GH},Frm O2 O4 H2 H4→Sub H H4:=fun {O4 H4} f=>
  ⟨Nat.le_trans hs1.1 (Nat.le_trans hs2.1 f.next),fun g hg=>by rw [f.keep g (by omega) (fun hc=>by have:=(h2.lt g hc).1; omega),hs2.2 g (by omega),hs1.2 g hg]⟩
 have hbk:∀ {O4:Nat→Prop} {H4:GH},Frm O2 O4 H2 H4→H4.get H.next=some (.arr { cells:= [.slice ra b.tbl.rows.length rf,vi b.tbl.draw,vi b.supply,vi b.term,vi b.persons,.slice oa b.owners.length of',.slice va' b.events.length vf'],ty:=28 })∧H.next<H4.next:=fun {O4 H4} f=>
  ⟨(f.keep H.next (by omega) (fun hc=>by have:=(h2.lt _ hc).1; omega)).trans hb2,by have:=f.next; omega⟩
 obtain ⟨hb3,hlt3⟩:=hbk f3
 simp (disch:=omega) [e2,e7,hb3]
 have hend:∀(O4:Nat→Prop) (H4:GH) (t:Stand),Frm O2 O4 H2 H4→RegS H4 N ⟨⟨⟨ra,rf⟩⟩,⟨oa,of'⟩,⟨va',vf'⟩⟩ b sg t O4→Wf b t→Wg b t→Sum.inr t=upS b day→Sub H H4∧UpR H ⟨⟨⟨ra,rf⟩⟩,⟨oa,of'⟩,⟨va',vf'⟩⟩ b day (.ret (.tuple #[.pointer (some (ga sg 0 0)),vi (-1)])) H4:=fun O4 H4 t f4 h4 hw hg ht=>
  ⟨hkeep f4,by unfold UpR; rw [←ht]; exact ⟨N,sg,O4,by omega,rfl,h4,hw,hg⟩⟩
 by_cases hlt:i<b.events.length
 ·have hltI:(i:Int)<b.events.length:=by omega
  obtain ⟨a,ha,hab,hrd⟩:=(hb.mono (hkeep f3)).events.at i hlt
  simp only at ha
  subst ha
  rw [List.drop_eq_getElem_cons hlt,upFrom] at hup
  have hev:=event_ok (s:=pass b s b.events[i].day) hbo.persons (hJ3.pass b.events[i].day).ll (hbo.ev i hlt)
  have hevB:=hbo.ev i hlt
  have hati:=evAt_lt hlt
  obtain ⟨e,hE⟩:∃e,b.events[i]=e:=⟨_,rfl⟩
  rw [hE] at hup hev hrd hevB hati
  simp (disch:=omega) [e1,e2,e7,hb3,hlt,hrd]
  refine wpB_dec (fun hd=>?_) (fun hd=>?_)
  ·rw [if_neg (by omega)] at hup
   simp (disch:=omega) [e2,e6,e7,hb3,hrd]
   refine (rpass_con h3 hw3 hG3 hsu e.day).mono ?_
   rintro x H5 ⟨rfl,O5,f5,h5⟩
   have f25:=f3.trans f5
   obtain ⟨hb5,hlt5⟩:=hbk f25
   have hw5:Wf b (pass b s e.day):=pass_wf hw3
   have hG5:Wg b (pass b s e.day):=hG3.pass e.day
   have hsh5:=pass_sh b s e.day
   obtain ⟨a5,ha5,hab5,hrd5⟩:=(hb.mono (hkeep f25)).events.at i hlt
   simp only at ha5
   cases ha5
   rw [hE] at hrd5
   have h5':=h5
   obtain ⟨v1,v2,vl,vo,vg,va,vw,vb,vd,h5i,_⟩:=h5'
   simp (disch:=omega) [e2,e6,e7,hb5,hrd5]
   refine (rGoes_con h5i hw5 hG5 hsu hev hevB).go ?_
   simp
   cases hgo:goesB b (pass b s e.day) e with
   |false=>
    rw [if_neg (by rw [hgo]; decide)] at hup
    simp [e6,e7]
    exact ⟨hkeep f25,by unfold UpR; rw [←hup]; exact ⟨sg,rfl⟩⟩
   |true=>
    rw [if_pos hgo] at hup
    have hJ5:=hJ3.pass e.day
    have ho5:=hJ5.ow
    have htl:(b.events.take i).length=i:=by simp; omega
    have hJ6:=hJ5.do_ hbo hevB hgo hati hlt (by omega) (by omega)
    have hG6:=hG5.do_ hevB hgo hev.kind hev.grant hati
    have htk:b.events.take (i+1)=b.events.take i++ [e]:=by rw [←hE]; exact List.take_succ_eq_append_getElem hlt
    simp [e6,e7]
    refine (rdo_con h5 hw5 hG5 hsu hlt hE hev hgo hJ6.wf hG6).mono ?_
    rintro x H6 ⟨rfl,O6,f6,h6⟩
    simp (disch:=omega) [e1,e2,e6,e7,wrap64]
    exact ⟨_,O6,f25.trans f6,h6,by rw [htk]; exact hJ6.serve,hG6.serve,hup⟩
  ·rw [if_pos (by omega)] at hup
   simp (disch:=omega) [e1,e6]
   refine (rpass_con h3 hw3 hG3 hsu day).mono ?_
   rintro x H5 ⟨rfl,O5,f5,h5⟩
   simp [e6]
   exact hend O5 H5 _ (f3.trans f5) h5 (pass_wf hw3) (hG3.pass day) hup
 ·have hnI:¬(i:Int)<b.events.length:=by omega
  have:i=b.events.length:=by omega
  subst this
  rw [List.drop_length,upFrom] at hup
  simp (disch:=omega) [e1,e6,hlt]
  refine (rpass_con h3 hw3 hG3 hsu day).mono ?_
  rintro x H5 ⟨rfl,O5,f5,h5⟩
  simp [e6]
  exact hend O5 H5 _ (f3.trans f5) h5 (pass_wf hw3) (hG3.pass day) hup
def rightB (b:Book):Bool:=isBookB b&&(wrongO b).isNone
theorem rWrong_con (l:BLoc) (b:Book) (H:GH) (hb:BookIn H l b) (hB:isBookB b=true) (hrows:b.tbl.rows.length≤4):C 18 [bookV l b] H (vi (match wrongO b with|some n=>n|none=> -1)) H:=by
 rcases l with ⟨⟨⟨ra,rf⟩⟩,⟨oa,of'⟩,⟨va',vf'⟩⟩
 refine con_wp tok mix fok18 (F:=g18) (c:=_) rfl (n:=11) rfl (rs:= [.tmp 2]) rfl (anch_closed rfl) ?_
 simp
 generalize hH1:H.push _=H1
 have hs1:Sub H H1:=by subst hH1; exact Sub.push (.refl H) _
 clear hH1
 refine (rup_con (hb.mono hs1) hB hrows 36500).mono ?_
 rintro x H2 ⟨hs2,hu⟩
 unfold UpR at hu
 unfold wrongO
 cases hU:upS b 36500 with
 |inl n=>
  rw [hU] at hu
  obtain ⟨sg,rfl⟩:=hu
  simp
  exact hs1.trans hs2
 |inr s=>
  rw [hU] at hu
  obtain ⟨N,sg,O,_,rfl,_⟩:=hu
  simp
  exact hs1.trans hs2
theorem rRight_con (l:BLoc) (b:Book) (H:GH) (hb:BookIn H l b) (hsh:shortB b=true):C 4 [bookV l b] H (.bool (rightB b)) H:=by
 have h15:b.tbl.rows.length≤15:=by simp [shortB] at hsh; omega
 rcases l with ⟨⟨⟨ra,rf⟩⟩,⟨oa,of'⟩,⟨va',vf'⟩⟩
 refine con_wp tok mix fok4 (F:=g4) (c:=_) rfl (n:=10) rfl (rs:= [.tmp 2]) rfl (anch_closed rfl) ?_
 simp
 generalize hH1:H.push _=H1
 have hs1:Sub H H1:=by subst hH1; exact Sub.push (.refl H) _
 have hb1:H1.get H.next=some (.arr { cells:= [.slice ra b.tbl.rows.length rf,vi b.tbl.draw,vi b.supply,vi b.term,vi b.persons,.slice oa b.owners.length of',.slice va' b.events.length vf'],ty:=28 }):=by subst hH1; simp
 have hn1:H.next<H1.next:=by subst hH1; simp
 clear hH1
 have hbi:=hb.mono hs1
 with_reducible refine (rBook_con ⟨⟨⟨_,_⟩⟩,⟨_,_⟩,⟨_,_⟩⟩ b _ hbi (by omega)).go ?_
 simp
 cases hB:isBookB b
 ·simp [rightB,hB]
  exact hs1
 ·have hrows:b.tbl.rows.length≤4:=by
   have ht:=book_tbl hB
   simp [shortB,ht] at hsh
   omega
  simp (disch:=omega) [hb1]
  with_reducible refine (rWrong_con ⟨⟨⟨_,_⟩⟩,⟨_,_⟩,⟨_,_⟩⟩ b _ hbi hB hrows).go ?_
  simp
  cases hw:wrongO b with
  |none=>simp [rightB,hB,hw]; exact hs1
  |some n=>
   have:=wrongO_nonneg hw
   have hn:¬n<0:=by omega
   simp [rightB,hB,hw,hn]
   exact hs1
end Go.Gm.Tryz
end
section
namespace Go.Gm.Tryz
open Go.Proofs
theorem rightB_of {b:Book} (h:rightB b=true):isBookB b=true∧wrongO b=none:=by
 simp only [rightB,Bool.and_eq_true,Option.isNone_iff_eq_none] at h
 exact h
end Go.Gm.Tryz
end
section
namespace Go.Gm.Tryz
open Go.Proofs
end Go.Gm.Tryz
end
section
namespace Go.Gm.Tryz
open Go.Proofs
structure Wa (b:Book) (s:Stand):Prop where
 gw:∀g∈s.grants,g.is≠3→0≤waterI b.tbl g.system g.units
 fr:usedI b s≤b.supply
 ww:∀w∈s.waits,0≤waterI b.tbl (evAt b w).system (evAt b w).units
 ln:s.grants.length+s.waits.length≤100
theorem sum_set {f:GSt→Int}:∀ {l:List GSt} {i:Nat} {y:GSt} (h:i<l.length),((l.set i y).map f).sum=(l.map f).sum - f l[i]+f y:=by
 intro l
 induction l with
 |nil=>intro i y h; simp at h
 |cons x l ih=>
  intro i y h
  cases i with
  |zero=>simp; omega
  |succ i=>
   simp only [List.length_cons] at h
   have:=ih (i:=i) (y:=y) (by omega)
   simp only [List.set_cons_succ,List.map_cons,List.sum_cons,List.getElem_cons_succ,this]
   omega
section
variable {b:Book} {s:Stand}
theorem Wa.use (h:Wa b s) {i:Nat} (hi:i<s.grants.length):0≤useG b (gAt s i):=by
 unfold useG
 split
 ·omega
 ·rename_i h3; exact h.gw _ (gAt_mem hi) h3
theorem used_set {s t:Stand} {i:Nat} {y:GSt} (hi:i<s.grants.length) (h:t.grants=s.grants.set i y):usedI b t=usedI b s - useG b (gAt s i)+useG b y:=by
 unfold usedI
 rw [h,sum_set hi,gAt,getD_at hi]
theorem used_app {s t:Stand} {y:GSt} (h:t.grants=s.grants++ [y]):usedI b t=usedI b s+useG b y:=by
 unfold usedI
 rw [h,List.map_append,List.sum_append]
 simp
theorem Wa.add (h:Wa b s) (hs:0≤b.supply∧b.supply≤10000) {p e sy u:Int} (h0:0≤waterI b.tbl sy u) (h1:waterI b.tbl sy u≤freeI b s) {t:Stand} (hg:t.grants=s.grants++ [⟨1,p,e,sy,u⟩]) (hw:∀w∈t.waits,w∈s.waits) (hl:s.grants.length+1+t.waits.length≤100):Wa b t:=by
 have hln:=h.ln
 rw [freeI_eq hs (by omega)] at h1
 refine ⟨fun g hgm h3=>?_,?_,fun w hw'=>h.ww w (hw w hw'),by rw [hg]; simp; omega⟩
 ·rw [hg] at hgm
  rcases List.mem_append.1 hgm with hgm|hgm
  ·exact h.gw g hgm h3
  ·simp at hgm; subst hgm; exact h0
 ·rw [used_app hg]
  simp only [useG]
  rw [if_neg (by decide)]
  omega
theorem Wa.serve1 (hs:0≤b.supply∧b.supply≤10000) (s:Stand) (w:Int) (ws:List Int) (h:Wa b s) (hw:s.waits=w::ws) (hf:waterI b.tbl (evAt b w).system (evAt b w).units≤freeI b s):Wa b { addG s (evAt b w).person (-1) (evAt b w).system (evAt b w).units with waits:=ws }:=by
 have hln:=h.ln
 rw [hw] at hln
 simp only [List.length_cons] at hln
 exact h.add hs (h.ww w (by rw [hw]; simp)) hf rfl (fun v hv=>by rw [hw]; exact List.mem_cons_of_mem _ hv) (by simp only; omega)
theorem Wa.serve (hs:0≤b.supply∧b.supply≤10000) (h:Wa b s):Wa b (serve b s):=serve_ind (I:=Wa b) (fun s w ws h hw hf=>Wa.serve1 hs s w ws h hw hf) h
theorem Wa.set (h:Wa b s) {i:Nat} (hi:i<s.grants.length) {y:GSt} (hy:y.is≠3→0≤waterI b.tbl y.system y.units) (hu:useG b y≤useG b (gAt s i)) {t:Stand} (hg:t.grants=s.grants.set i y) (hw:t.waits=s.waits):Wa b t:=
 ⟨fun g hgm h3=>by
  rw [hg] at hgm
  rcases List.mem_or_eq_of_mem_set hgm with hgm|rfl
  ·exact h.gw g hgm h3
  ·exact hy h3,by have:=h.fr; rw [used_set hi hg]; omega,fun w hw'=>h.ww w (hw▸hw'),by have:=h.ln; rw [hg,hw]; simpa using this⟩
theorem Wa.endG (h:Wa b s) {g:Nat} (hg:g<s.grants.length) (d:Int):Wa b (endG s g d):=
 h.set hg (y:= { gAt s g with is:=3,person:= -1 }) (fun hc=>absurd rfl hc) (by
  have:=h.use hg
  have e:useG b { gAt s g with is:=3,person:= -1 }=0:=by simp [useG]
  omega) rfl rfl
theorem Wa.pass (hs:0≤b.supply∧b.supply≤10000) (h:Wa b s) (d:Int):Wa b (pass b s d):=
 pass_ind (I:=Wa b) (fun s w ws h hw hf=>Wa.serve1 hs s w ws h hw hf) (fun _s _g h hg _ _=>h.endG hg _) h
theorem Wa.map (h:Wa b s) {f:GSt→GSt} (hf:∀g,(f g).is=g.is∧(f g).system=g.system∧(f g).units=g.units) {t:Stand} (ht:t.grants=s.grants.map f) (hw:t.waits=s.waits):Wa b t:=by
 have hu:usedI b t=usedI b s:=by
  unfold usedI
  rw [ht,List.map_map]
  congr 2
  funext g
  simp only [Function.comp,useG,(hf g).1,(hf g).2.1,(hf g).2.2]
 refine ⟨fun g hgm h3=>?_,by rw [hu]; exact h.fr,fun w hw'=>h.ww w (hw▸hw'),by have:=h.ln; rw [ht,hw]; simpa using this⟩
 rw [ht] at hgm
 obtain ⟨x,hx,rfl⟩:=List.mem_map.1 hgm
 rw [(hf x).1] at h3
 rw [(hf x).2.1,(hf x).2.2]
 exact h.gw x hx h3
theorem Wa.own (h:Wa b s) (n:Nat) (p:Int):Wa b (ownS s n p):=
 h.map (f:=fun x=>if x.estate=(n:Int) then { x with person:=p } else x) (fun g=>by split<;>exact ⟨rfl,rfl,rfl⟩) rfl rfl
theorem useG_of {g h:GSt} (h1:(g.is=3)↔(h.is=3)) (h2:g.system=h.system) (h3:g.units=h.units):useG b g=useG b h:=by
 unfold useG
 simp only [h1,h2,h3]
theorem Wa.do_ (hs:0≤b.supply∧b.supply≤10000) (h:Wa b s) (hW:Wg b s) {e:Ev} (hev:EvOk b s e) (he:isEventB b e=true) (hl:s.grants.length+s.waits.length<100) (hes:∀i,i<s.grants.length→(gAt s i).is=1∨(gAt s i).estate= -1) (hg:goesB b s e=true) {n:Nat} (hn:evAt b n=e):Wa b (doS b s e n):=by
 unfold goesB at hg
 unfold doS
 by_cases k1:e.kind=1
 ·rw [if_pos k1] at hg ⊢
  simp only [Bool.and_eq_true,fitsB,decide_eq_true_eq] at hg
  exact h.add hs hg.2.1 hg.2.2.1 rfl (fun w hw=>hw) (by simp only [giveS,addG]; omega)
 rw [if_neg k1] at hg ⊢
 by_cases k2:e.kind=2
 ·rw [if_pos k2] at hg ⊢
  simp only [Bool.and_eq_true,fitsB,decide_eq_true_eq] at hg
  exact h.add hs hg.2.1 hg.2.2.1 rfl (fun w hw=>hw) (by simp only [attachS,addG]; omega)
 rw [if_neg k2] at hg ⊢
 by_cases k3:e.kind=3
 ·rw [if_pos k3]
  exact die_ind (I:=Wa b) (fun s h=>⟨h.gw,h.fr,h.ww,h.ln⟩) (fun s i h _ _=>h.own i e.other) (fun s h=>⟨h.gw,h.fr,fun w hw=>h.ww w (List.mem_filter.1 hw).1,by
    have:=List.length_filter_le (notOf b e) s.waits
    have:=h.ln
    simp only [dieC]; omega⟩)
   (fun s i h hi _ _=>(h.endG hi e.day).serve hs) (fun s i h hi h1 h2 h3=>h.set hi (y:= { gAt s i with is:=2,person:=e.other }) (fun _=>h.gw (gAt s i) (gAt_mem hi) (by omega)) (by
    rw [useG_of (g:= { gAt s i with is:=2,person:=e.other }) (h:=gAt s i) (by simp only; omega) rfl rfl]
    exact Int.le_refl _) rfl rfl) h
 rw [if_neg k3] at hg ⊢
 by_cases k4:e.kind=4
 ·rw [if_pos k4]; exact h.own _ _
 rw [if_neg k4] at hg ⊢
 by_cases k5:e.kind=5
 ·rw [if_pos k5] at hg ⊢
  have hu:=ev_units5 he k5
  simp [divB,partB] at hg
  obtain ⟨g1,g2,g3,g4,g5,g6,g7⟩:=hg
  have hge:=hev.grant
  have hgd:s.grants[e.grant.toNat]?.getD default=gAt s e.grant.toNat:=by simp [gAt]
  rw [hgd] at g2 g3 g5 g6 g7
  have hlt:e.grant.toNat<s.grants.length:=by omega
  have hm:=hW.gr _ (gAt_mem hlt)
  have hwr:IntKind.i64.wrap ((gAt s e.grant.toNat).units - e.units)=(gAt s e.grant.toNat).units - e.units:=wrap64 _ (by omega) (by omega)
  rw [hwr] at g6 g7
  have w1:=waterI_bd b.tbl (gAt s e.grant.toNat).system e.units
  have w2:=waterI_bd b.tbl (gAt s e.grant.toNat).system ((gAt s e.grant.toNat).units - e.units)
  have w3:=waterI_bd b.tbl (gAt s e.grant.toNat).system (gAt s e.grant.toNat).units
  have q1:IntKind.i64.wrap (waterI b.tbl (gAt s e.grant.toNat).system e.units+waterI b.tbl (gAt s e.grant.toNat).system ((gAt s e.grant.toNat).units - e.units))=waterI b.tbl (gAt s e.grant.toNat).system e.units+waterI b.tbl (gAt s e.grant.toNat).system ((gAt s e.grant.toNat).units - e.units):=wrap64 _ (by omega) (by omega)
  rw [q1] at g7
  have q2:IntKind.i64.wrap (waterI b.tbl (gAt s e.grant.toNat).system e.units+waterI b.tbl (gAt s e.grant.toNat).system ((gAt s e.grant.toNat).units - e.units) - waterI b.tbl (gAt s e.grant.toNat).system (gAt s e.grant.toNat).units)=waterI b.tbl (gAt s e.grant.toNat).system e.units+waterI b.tbl (gAt s e.grant.toNat).system ((gAt s e.grant.toNat).units - e.units) - waterI b.tbl (gAt s e.grant.toNat).system (gAt s e.grant.toNat).units:=wrap64 _ (by omega) (by omega)
  rw [q2] at g7
  have hln:=h.ln
  rw [freeI_eq hs (by omega)] at g7
  have hsu:=used_set (b:=b) (s:=s) (t:= { s with owners:=s.owners++ [e.person],grants:=s.grants.set e.grant.toNat { gAt s e.grant.toNat with units:=IntKind.i64.wrap ((gAt s e.grant.toNat).units - e.units) } }) hlt rfl
  have hds:(divideS s e).grants=s.grants.set e.grant.toNat { gAt s e.grant.toNat with units:=IntKind.i64.wrap ((gAt s e.grant.toNat).units - e.units) }++ [⟨1,e.person,s.owners.length,(gAt s e.grant.toNat).system,e.units⟩]:=rfl
  refine ⟨fun g hgm h3=>?_,?_,h.ww,by rw [hds]; simp [divideS,addG]; omega⟩
  ·rw [hds] at hgm
   rcases List.mem_append.1 hgm with hgm|hgm
   ·rcases List.mem_or_eq_of_mem_set hgm with hgm|rfl
    ·exact h.gw g hgm h3
    ·simp only [hwr]; exact g6
   ·simp at hgm; subst hgm; exact g5
  ·have hap:=used_app (b:=b) (s:= { s with owners:=s.owners++ [e.person],grants:=s.grants.set e.grant.toNat { gAt s e.grant.toNat with units:=IntKind.i64.wrap ((gAt s e.grant.toNat).units - e.units) } }) (t:=divideS s e) hds
   rw [hap,hsu]
   have hus:=h.use hlt
   have e3:useG b (⟨1,e.person,s.owners.length,(gAt s e.grant.toNat).system,e.units⟩:GSt)=waterI b.tbl (gAt s e.grant.toNat).system e.units:=by simp [useG]
   rw [e3]
   have hfr:=h.fr
   have his:(gAt s e.grant.toNat).is=1:=by have:=hes _ hlt; omega
   have e4:useG b (gAt s e.grant.toNat)=waterI b.tbl (gAt s e.grant.toNat).system (gAt s e.grant.toNat).units:=by unfold useG; rw [if_neg (by omega)]
   have e5:useG b { gAt s e.grant.toNat with units:=IntKind.i64.wrap ((gAt s e.grant.toNat).units - e.units) }=waterI b.tbl (gAt s e.grant.toNat).system ((gAt s e.grant.toNat).units - e.units):=by
    unfold useG; simp only; rw [if_neg (by omega),hwr]
   rw [e4,e5]
   omega
 rw [if_neg k5] at hg ⊢
 by_cases k6:e.kind=6
 ·rw [if_pos k6]; exact h.map (f:=joinF e) (fun g=>by unfold joinF; split<;>exact ⟨rfl,rfl,rfl⟩) rfl rfl
 rw [if_neg k6] at hg ⊢
 by_cases k7:e.kind=7
 ·rw [if_pos k7] at hg ⊢
  simp only [Bool.and_eq_true,decide_eq_true_eq] at hg
  have hge:=hev.grant
  have hlt:e.grant.toNat<s.grants.length:=by omega
  have h2:(gAt s e.grant.toNat).is=2:=hg.2.1
  exact h.set hlt (y:= { gAt s e.grant.toNat with is:=1 }) (fun _=>h.gw (gAt s e.grant.toNat) (gAt_mem hlt) (by omega)) (by
   rw [useG_of (g:= { gAt s e.grant.toNat with is:=1 }) (h:=gAt s e.grant.toNat) (by simp only; omega) rfl rfl]
   exact Int.le_refl _) rfl rfl
 rw [if_neg k7] at hg ⊢
 simp only [Bool.and_eq_true,decide_eq_true_eq] at hg
 refine ⟨h.gw,h.fr,fun w hw=>?_,by simp [askS]; omega⟩
 simp only [askS,List.mem_append,List.mem_singleton] at hw
 rcases hw with hw|rfl
 ·exact h.ww w hw
 ·rw [hn]; exact hg.2
end
def Srv (b:Book) (s:Stand):Prop:=∀w ws,s.waits=w::ws→freeI b s<waterI b.tbl (evAt b w).system (evAt b w).units
theorem serve_done (b:Book) (s:Stand):Srv b (serve b s):=by
 have:∀(n:Nat) (s:Stand),s.waits.length≤n→Srv b (serveS b n s):=by
  intro n
  induction n with
  |zero=>
   intro s hn w ws hw
   have h0:s.waits=w::ws:=hw
   rw [h0] at hn
   simp at hn
  |succ n ih=>
   intro s hn
   simp only [serveS]
   cases hw:s.waits with
   |nil=>
    intro w ws h
    simp only at h
    rw [hw] at h; cases h
   |cons w ws=>
    simp only
    split
    ·rename_i hf
     intro v vs h
     rw [hw] at h; cases h
     exact hf
    ·rw [hw] at hn
     simp only [List.length_cons] at hn
     exact ih _ (by simp only; omega)
 exact this _ s (Nat.le_refl _)
theorem Srv.pass {b:Book} {s:Stand} (h:Srv b s) (d:Int):Srv b (pass b s d):=by
 have:∀(n:Nat) (s:Stand),Srv b s→Srv b (passS b d n s):=by
  intro n
  induction n with
  |zero=>intro s h; exact h
  |succ n ih=>
   intro s h
   simp only [passS]
   split
   ·exact h
   ·exact ih _ (serve_done b _)
 exact this _ s h
theorem Wa.start {b:Book} (hs:0≤b.supply∧b.supply≤10000):Wa b (start b):=⟨fun g hg=>by simp [Tryz.start] at hg,by simp [usedI,Tryz.start]; omega,fun w hw=>by simp [Tryz.start] at hw,by simp [Tryz.start]⟩
end Go.Gm.Tryz
end
section
namespace Go.Gm.Tryz
open Go.Proofs
structure Fe (b:Book) (d:Int) (s:Stand):Prop where
 cnt:∀i:Nat,(s.fell.map Prod.fst).count (i:Int)=if i<s.grants.length∧(gAt s i).is=3 then 1 else 0
 rng:∀p∈s.fell,0≤p.1∧0≤p.2∧p.2≤d
section
variable {b:Book} {s:Stand} {d:Int} {done:List Ev}
def Lo (m:Int) (s:Stand):Prop:=∀i,i<s.grants.length→(gAt s i).is=2→m≤lastAt s i
end
structure Kp (u:List (Int×Int)) (m:Int) (s:Stand):Prop where
 ln:s.last.length=s.grants.length
 lo:Lo m s
 fe:∃more,s.fell=u++more∧∀p∈more,m<p.2
section
variable {b:Book} {s:Stand} {u:List (Int×Int)} {m:Int}
end
end Go.Gm.Tryz
end
section
namespace Go.Gm.Tryz
open Go.Proofs
end Go.Gm.Tryz
end
section
namespace Go.Gm
end Go.Gm
namespace Go.Gm.Tryz
open Go.Proofs
end Go.Gm.Tryz
end
section
namespace Go.Gm.Tryz
open Go.Proofs
def diedTo (b:Book) (p d:Int) (i:Nat):Bool:=(b.events.take i).any fun e=>decide (e.kind=3∧e.day≤d∧e.person=p)
end Go.Gm.Tryz
end
section
namespace Go.Gm.Tryz
open Go.Proofs
def anyTo (f:Ev→Bool) (l:List Ev) (i:Nat):Bool:=(l.take i).any f
end Go.Gm.Tryz
end
section
namespace Go.Gm.Tryz
open Go.Proofs
theorem water_some {t:Tbl} {sys u:Int} (h:0≤waterI t sys u):isTableB t=true∧setArgs t sys u=true∧∃l,firstSet t sys u=some l∧isSetB t l=true∧givesI t l=waterI t sys u:=by
 unfold waterI at h ⊢
 by_cases ha:setArgs t sys u=true
 ·rw [if_pos ha] at h ⊢
  have ht:isTableB t=true:=by simp only [setArgs,Bool.and_eq_true] at ha; exact ha.1.1
  cases hf:firstSet t sys u with
  |none=>rw [hf] at h; simp at h
  |some l=>exact ⟨ht,ha,l,rfl,allSets_set (by have:=(table_rows ht).1; omega) (firstSet_mem hf).1,rfl⟩
 ·rw [if_neg ha] at h
  omega
def usedTo (b:Book) (l:List GSt) (i:Nat):Int:=((l.take i).map (useG b)).sum
theorem usedTo_all {b:Book} {l:List GSt}:usedTo b l l.length=(l.map (useG b)).sum:=by rw [usedTo,List.take_length]
theorem usedTo_succ {b:Book} {l:List GSt} {i:Nat} (h:i<l.length):usedTo b l (i+1)=usedTo b l i+useG b l[i]:=by
 unfold usedTo
 rw [List.take_succ_eq_append_getElem h,List.map_append,List.sum_append]
 simp
end Go.Gm.Tryz
end
section
namespace Go.Gm.Tryz
open Go.Proofs
end Go.Gm.Tryz
end
section
namespace Go.Gm.Tryz
open Go.Proofs
theorem WaG_up {b:Book} (hB:isBookB b=true) {d:Int} {u:Stand} (h:upS b d=.inr u):∃n,Cut b d n∧J b (b.events.take n) u∧Fd b (b.events.take n) u∧Wa b u∧Srv b u∧Wg b u:=by
 have hs:=book_supply hB
 have h12:=(book_ok hB).events
 obtain ⟨n,t,h1,h2,⟨h3,h4,h5,h6⟩,rfl⟩:=upJ_ind hB (I:=fun done s=>Fd b done s∧Wg b s∧Wa b s∧Srv b s) (I':=fun done s=>Fd b done s∧Wg b s∧Wa b s) ⟨Fd.start b,Wg.start b,Wa.start hs,fun w ws h=>by simp [start] at h⟩ (fun _ _ d _ _ h=>⟨h.1.pass d,h.2.1.pass d,h.2.2.1.pass hs d,h.2.2.2.pass d⟩)
  (fun _ s h=>⟨h.1.serve,h.2.1.serve,h.2.2.serve hs,serve_done b s⟩)
  (fun n hn s _ hJ ⟨hF,hG,hA,_⟩ hev he hg hn'=>by
   have hlen:(b.events.take n).length=n:=by simp; omega
   have hsz:=hJ.sz
   unfold size at hsz
   exact ⟨hF.do_ hev (day_ev hB (List.getElem_mem hn)) (book_term hB) hg hn',hG.do_ he hg hev.kind hev.grant hn',hA.do_ hs hG hev he (by omega) (fun i hi=>(hF.es i hi).2) hg hn'⟩) h
 exact ⟨n,h1,h2.pass d,h3.pass d,h5.pass hs d,h6.pass d,h4.pass d⟩
def claimOf (b:Book) (g:GSt):List Int:=if g.is=3 then [] else [waterI b.tbl g.system g.units]
def claimsTo (b:Book) (l:List GSt) (i:Nat):List Int:=(l.take i).flatMap (claimOf b)
theorem claimsTo_succ {b:Book} {l:List GSt} {i:Nat} (h:i<l.length):claimsTo b l (i+1)=claimsTo b l i++claimOf b l[i]:=by
 unfold claimsTo
 rw [List.take_succ_eq_append_getElem h,List.flatMap_append]
 simp
theorem gives_pos {t:Tbl} (h:isTableB t=true) {l:List Int} (hl:SetOk t l) (hne:l≠ []):1≤givesI t l:=by
 cases l with
 |nil=>exact absurd rfl hne
 |cons x l=>
  have h0:=hl.2 x (by simp)
  have h1:=(table_rows h).2.2 _ (row_mem h0.1 h0.2)
  have h2:=(givesI_bd h (l:=l) ⟨by have:=hl.1; simp at this; omega,fun n hn=>hl.2 n (by simp [hn])⟩).1
  have e:givesI t (x::l)=(rowAt t x).gives+givesI t l:=by simp [givesI]
  omega
theorem water_pos {t:Tbl} {sys u:Int} (h:0≤waterI t sys u) (hu:1≤u):1≤waterI t sys u∧waterI t sys u≤6000:=by
 obtain ⟨ht,ha,l,hf,hs,hg⟩:=water_some h
 have hset:=setOk_of hs
 rw [←hg]
 refine ⟨gives_pos ht hset ?_,(givesI_bd ht hset).2⟩
 rintro rfl
 have:=(firstSet_mem hf).2
 have h0:countsI t sys []=0:=by simp [countsI]
 rw [h0] at this
 omega
theorem claimsTo_ok {b:Book} {l:List GSt} (hw:∀g∈l,g.is≠3→0≤waterI b.tbl g.system g.units) (hu:∀g∈l,1≤g.units):∀i,i≤l.length→(claimsTo b l i).length≤i∧(∀c∈claimsTo b l i,1≤c∧c≤6000)∧(claimsTo b l i).sum=usedTo b l i:=by
 intro i
 induction i with
 |zero=>intro _; simp [claimsTo,usedTo]
 |succ i ih=>
  intro hi
  obtain ⟨h1,h2,h3⟩:=ih (by omega)
  have hlt:i<l.length:=by omega
  rw [claimsTo_succ hlt,usedTo_succ hlt,List.length_append,List.sum_append,h3]
  unfold claimOf useG
  by_cases c:l[i].is=3
  ·simp only [c,if_true,List.length_nil,List.append_nil,List.sum_nil]
   exact ⟨by omega,h2,trivial⟩
  ·have hp:=water_pos (hw _ (List.getElem_mem hlt) c) (hu _ (List.getElem_mem hlt))
   simp only [c,if_false,List.length_cons,List.length_nil,List.sum_cons,List.sum_nil]
   refine ⟨by omega,fun x hx=>?_,by omega⟩
   rcases List.mem_append.1 hx with hx|hx
   ·exact h2 x hx
   ·simp at hx; subst hx; exact hp
theorem sum_ge:∀ {l:List Int},(∀c∈l,1≤c)→(l.length:Int)≤l.sum∧∀c∈l,c≤l.sum
 | [],_=>by simp
 |a::l,h=>by
  obtain ⟨h1,h2⟩:=sum_ge (l:=l) fun c hc=>h c (by simp [hc])
  have h0:=h a (by simp)
  refine ⟨by simp only [List.length_cons,List.sum_cons]; omega,fun c hc=>?_⟩
  rcases List.mem_cons.1 hc with rfl|hc
  ·simp only [List.sum_cons]; omega
  ·have:=h2 c hc; simp only [List.sum_cons]; omega
theorem rtree_is {I:Int} {cs:List Int} (h:rtreeB I cs=true):isTreeB I cs=true:=by
 simp only [rtreeB,Bool.and_eq_true,List.all_eq_true] at h
 simp only [isTreeB,Bool.and_eq_true,Bool.not_eq_true',List.any_eq_false]
 exact ⟨⟨h.2.1,h.2.2⟩,fun c hc=>by simp [outBad,h.1 c hc]⟩
theorem rtree_few {I:Int} {cs:List Int} (_hI:0≤I∧I≤200) (hc:∀c∈cs,1≤c) (hs:cs.sum≤200) (h:rtreeB I cs=false):(cs.length≠0)=(cs.sum≠0):=by
 obtain ⟨h1,h2⟩:=sum_ge hc
 cases cs with
 |nil=>simp
 |cons a l=>
  simp only [List.length_cons] at h1
  have:(a::l).sum≠0:=by omega
  simp only [List.length_cons,ne_eq,this,not_false_eq_true]
  simp
theorem gbin_same (a:Bool):gbin T .eql 4 (.bool a) (.bool a)=some (.bool true):=by
 cases a<;>simp [gbin,gequal]
theorem gappend_fx {H H':GH} {e:TypeId} {es n:Nat} {s v:Value} {new:List Value} (h:gappend H e es s n new=some (v,H')):H'.fx=H.fx:=by
 unfold gappend at h
 split at h
 ·cases h
 ·split at h
  ·split at h
   ·cases h; rfl
   ·cases h; rfl
  ·split at h
   ·cases h; rfl
   ·split at h
    ·split at h
     ·cases h; rfl
     ·cases h
    ·split at h
     ·cases h
     ·split at h
      ·split at h
       ·cases h; rfl
       ·cases h
      ·cases h
  ·cases h
end Go.Gm.Tryz
end
section
namespace Go.Gm.Tryz
open Go.Proofs
set_option maxHeartbeats 1600000 in
theorem granted_law {H:GH} (hfx:FxOk H.fx) {l:BLoc} {b:Book} (hb:BookIn H l b) (day less:Int):C 3 [bookV l b,vi day,vi less] H (.bool true) H:=by
 refine con_wp tok mix fok3 (F:=g3) (c:=_) rfl (n:=238) rfl (rs:= [.tmp 6]) rfl (anch_closed rfl) ?_
 rcases l with ⟨⟨⟨ra,rf⟩⟩,⟨oa,of'⟩,⟨va,vf⟩⟩
 simp
 generalize hH1:GH.push H _=H1
 have hs1:Sub H H1:=by subst hH1; exact Sub.push (.refl H) _
 have fx1:FxOk H1.fx:=by subst hH1; exact hfx
 have k0:H1.get H.next=some (.arr { cells:=bookC ⟨⟨⟨ra,rf⟩⟩,⟨oa,of'⟩,⟨va,vf⟩⟩ b,ty:=28 }):=by subst hH1; simp
 have hn1:H1.next=H.next+1:=by subst hH1; simp
 have hb1:=hb.mono hs1
 clear hH1
 by_cases c1:(8:Int)<b.owners.length
 ·simp [c1]
  refine (known11_con _ fx1).go ?_
  simp
  exact hs1
 simp [c1,k0]
 by_cases c2:(14:Int)<b.events.length
 ·simp [c2]
  refine (known11_con _ fx1).go ?_
  simp
  exact hs1
 simp [c2,k0]
 by_cases c3:(4:Int)<b.tbl.rows.length
 ·simp [c3]
  refine (known11_con _ fx1).go ?_
  simp
  exact hs1
 simp [c3,k0]
 have hsh:shortB b=true:=by
  simp only [shortB,Bool.and_eq_true,Bool.or_eq_true,decide_eq_true_eq]
  exact ⟨by omega,by omega,by omega,.inl (by omega)⟩
 with_reducible refine (rRight_con ⟨⟨⟨_,_⟩⟩,⟨_,_⟩,⟨_,_⟩⟩ b _ hb1 hsh).go ?_
 simp
 cases hR:rightB b
 ·simp
  refine (known11_con _ fx1).go ?_
  simp
  exact hs1
 simp
 refine (rDay_con _ _).go ?_
 simp
 cases hd:isDayI day
 ·simp
  refine (known11_con _ fx1).go ?_
  simp
  exact hs1
 simp [k0]
 by_cases c4:(200:Int)<b.supply
 ·simp [c4]
  refine (known11_con _ fx1).go ?_
  simp
  exact hs1
 simp [c4]
 by_cases c5:less<0
 ·simp [c5]
  refine (known11_con _ fx1).go ?_
  simp
  exact hs1
 simp [c5,k0]
 by_cases c6:b.supply<less
 ·simp [c6]
  refine (known11_con _ fx1).go ?_
  simp
  exact hs1
 obtain ⟨hB,hwr⟩:=rightB_of hR
 obtain ⟨s,hs⟩:=right_up hB hwr day
 have ho:=out_right hB hwr hs hd (ok:=true) rfl
 obtain ⟨n,hn,hJ,hF,hW,hV,hG⟩:=WaG_up hB hs
 simp (disch:=omega) [c6,k0]
 refine (States_con hb1 day).fx.mono ?_
 rintro x H2 ⟨⟨s2,v,rfl,hv⟩,f2⟩
 have fx2:FxOk H2.fx:=by rw [f2]; exact fx1
 have k2:=(s2.2 H.next (by omega)).trans k0
 have hn2:=s2.1
 have hs2:=hs1.trans s2
 have hb2:=hb.mono hs2
 have hsu:=book_supply hB
 have hln:=hJ.wf.len
 have hfree:freeI b s=b.supply - usedI b s:=freeI_eq hsu (by omega)
 have hub:=used_bd b s.grants
 have hu1:usedI b s=(s.grants.map (useG b)).sum:=rfl
 have hfr:=hW.fr
 have hwrap:IntKind.i64.wrap (b.supply - freeI b s)=usedI b s:=by
  rw [hfree,show b.supply - (b.supply - usedI b s)=usedI b s by omega]; simp (disch:=omega) only [wrap64]
 simp (disch:=omega) [k2]
 refine (Water_con hb2 day).go ?_
 rw [ho] at hv ⊢
 obtain ⟨a1,q1,rfl,hE1⟩:=hv
 simp only [statesR,waterR,hwrap] at hE1 ⊢
 have L0:s.grants.length+s.waits.length≤b.events.length:=by have:=hJ.sz; have:=List.length_take_le n b.events; have:=List.length_take_le' n b.events; simp only [size] at*; omega
 have L1:¬b.events.length<s.grants.length:=by omega
 have hcl:=claimsTo_ok (b:=b) (l:=s.grants) hW.gw (fun g hg=>(hG.gr g hg).2.1)
 have hsum:(claimsTo b s.grants s.grants.length).sum=usedI b s:=by rw [(hcl _ (Nat.le_refl _)).2.2,usedTo_all,←hu1]
 have hgeC:=sum_ge (l:=claimsTo b s.grants s.grants.length) fun c hc=>((hcl _ (Nat.le_refl _)).2.1 c hc).1
 have L2:¬usedI b s<0:=by omega
 have L3:¬b.supply<usedI b s:=by omega
 simp (disch:=omega) [k2,L1,L2,L3]
 generalize hH3:GH.put (GH.push H2 _) _ _=H3
 have hs3:Sub H2 H3:=by subst hH3; exact (Sub.push (.refl H2) _).put (by omega) _
 have fx3:FxOk H3.fx:=by subst hH3; exact fx2
 have kt3:H3.get H2.next=some (.arr { cells:= [vi b.supply,.slice none 0 0,.slice none 0 0],ty:=41 }):=by subst hH3; simp (disch:=omega)
 have hn3:H3.next=H2.next+1:=by subst hH3; simp (disch:=omega)
 clear hH3
 have hb3:=hb2.mono hs3
 have hE3:=hE1.mono hs3
 have k3:=(hs3.2 H.next (by omega)).trans k2
 have hfull:∀g,g<H2.next→H3.get g=H2.get g:=hs3.2
 refine wp_up tok mix (by kernel_rfl) s.grants.length (fun i ρ m H'=>ρ 2=vi less∧ρ 3=.pointer (some (ga H.next 0 0))∧ρ 7=.slice a1 s.grants.length q1∧ρ 9=vi (usedI b s)∧ρ 12=.pointer (some (ga H2.next 0 0))∧ρ 14=vi i∧m= []∧H3.next≤H'.next∧(∀g,g<H3.next→g≠H2.next→H'.get g=H3.get g)∧FxOk H'.fx∧OwnL H' H3.next (ρ 13) 3 1 encI (claimsTo b s.grants i)∧
  ∃v,H'.get H2.next=some (.arr { cells:= [vi b.supply,.slice none 0 0,v],ty:=41 })∧OwnL H' H3.next v 51 3 encOut (claimsTo b s.grants i)) (i0:=0) (by omega) (by
   simp [claimsTo]
   exact ⟨fx3,OwnL.nil,_,kt3,OwnL.nil⟩) ?_
 rintro i ρ m H4 hi ⟨e2,e3,e7,e9,e12,e14,rfl,hn4,hk4,fx4,hown,tv,kt4,hto⟩
 have hs24:∀g,g<H2.next→H4.get g=H2.get g:=fun g hg=>by rw [hk4 g (by omega) (by omega),hs3.2 g hg]
 have hs4:Sub H2 H4:=⟨by omega,hs24⟩
 have hb4:=hb2.mono hs4
 have k4:=(hs4.2 H.next (by omega)).trans k2
 simp (disch:=omega) [e7,e14]
 refine wpB_dec (fun hlt=>?_) (fun hge=>?_)
 ·obtain ⟨a,rfl,hab,hrd⟩:=(hE1.mono hs4).at i hlt
  have hlt':(i:Int)<s.grants.length:=by omega
  simp (disch:=omega) [e7,e14,hrd]
  by_cases c3:s.grants[i].is=3
  ·have hz:claimOf b s.grants[i]= []:=by simp [claimOf,c3]
   simp (disch:=omega) [c3,e2,e3,e7,e9,e12,e14,wrap64]
   rw [claimsTo_succ hlt,hz,List.append_nil]
   exact ⟨hlt,hn4,hk4,fx4,hown,tv,kt4,hto⟩
  have hw0:=hW.gw _ (List.getElem_mem hlt) c3
  have hwp:=water_pos hw0 (hG.gr _ (List.getElem_mem hlt)).2.1
  obtain ⟨ht,hsa,sl,hfs,hset,hgi⟩:=water_some hw0
  have hz:claimOf b s.grants[i]= [waterI b.tbl s.grants[i].system s.grants[i].units]:=by simp [claimOf,c3]
  simp (disch:=omega) [c3,e3,e7,e14,hrd,k4]
  with_reducible refine (Set_con ⟨⟨_,_⟩⟩ b.tbl _ _ _ hb4.t).fx.mono ?_
  rintro x H5 ⟨⟨s5,v5,r5,rfl,h5⟩,f5⟩
  rw [if_pos hsa,hfs] at h5
  obtain ⟨rfl,a5,q5,rfl,hE5⟩:=h5
  have k5:=(s5.2 H.next (by omega)).trans k4
  have kt5:=(s5.2 H2.next (by omega)).trans kt4
  simp (disch:=omega) [e3,k5]
  with_reducible refine (Gives_con ⟨⟨_,_⟩⟩ b.tbl sl _ _ _ (hb4.mono s5).t hE5).go ?_
  rw [ht,hset,hgi]
  have fx5:FxOk H5.fx:=by rw [f5]; exact fx4
  have hn5:=s5.1
  have hown5:=hown.sub s5
  have hto5:=hto.sub s5
  have hlen:=hown.len
  have hlent:=hto.len
  have hcn:=(hcl i hi).1
  generalize hw:waterI b.tbl s.grants[i].system s.grants[i].units=w at hz hwp hw0 hgi
  obtain ⟨v',H6,happ,hown6,hn6,hf6,hb6⟩:=(hown5.push (.arr { cells:= [vi w],ty:=3 })).app (fun _=>rfl) (fun _=>rfl) (by decide) w (by simp; omega)
  simp only [encI] at happ
  simp only [GH.next_push] at hn6 hf6
  have hf6x:=gappend_fx happ
  have hk6:∀g,g<H5.next→blkOf (ρ 13)≠some g→H6.get g=H5.get g:=fun g h1 h2=>by rw [hf6 g (by omega) h2,GH.get_push_lt _ _ h1]
  have ne13:blkOf (ρ 13)≠some H2.next:=fun hc=>by have:=(hown.blk_lt hc).1; omega
  have kt6:=(hk6 H2.next (by omega) ne13).trans kt5
  have hto6:OwnL H6 H3.next tv 51 3 encOut (claimsTo b s.grants i):=hto5.frame (by omega) fun g hg=>by
   refine hk6 g (by have:=(hto5.blk_lt hg).2; omega) fun hc=>?_
   obtain ⟨A,hA1,hA2⟩:=hown5.blk_ty hc
   obtain ⟨B,hB1,hB2⟩:=hto5.blk_ty hg
   rw [hA1] at hB1
   cases hB1
   rw [hA2] at hB2
   cases hB2
  obtain ⟨tv',H7,happ7,hto7,hn7,hf7,hb7⟩:=(hto6.push (.arr { cells:= [vi 0,vi w,vi 0],ty:=51 })).app (by simp) (by simp [one]) (by decide) w (by simp; omega)
  simp only [encOut] at happ7
  simp only [GH.next_push] at hn7 hf7
  have hf7x:=gappend_fx happ7
  have hk7:∀g,g<H6.next→blkOf tv≠some g→H7.get g=H6.get g:=fun g h1 h2=>by rw [hf7 g (by omega) h2,GH.get_push_lt _ _ h1]
  have net:blkOf tv≠some H2.next:=fun hc=>by have:=(hto.blk_lt hc).1; omega
  have kt7:=(hk7 H2.next (by omega) net).trans kt6
  obtain ⟨ta',tf',rfl⟩:=hto7.slice
  have fx7:FxOk H7.fx:=by
   have y1:H7.fx=H6.fx:=hf7x
   have y2:H6.fx=H5.fx:=hf6x
   rw [y1,y2]; exact fx5
  have hown7:OwnL H7 H3.next v' 3 1 encI (claimsTo b s.grants i++ [w]):=hown6.frame (by omega) fun g hg=>by
   refine hk7 g (hown6.blk_lt hg).2 fun hc=>?_
   obtain ⟨A,hA1,hA2⟩:=hown6.blk_ty hg
   obtain ⟨B,hB1,hB2⟩:=hto6.blk_ty hc
   rw [hA1] at hB1
   cases hB1
   rw [hA2] at hB2
   cases hB2
  have hl1:(claimsTo b s.grants i++ [w]).length=(claimsTo b s.grants i).length+1:=by simp
  rw [hl1] at hto7
  have c8:8*(1+(claimsTo b s.grants i).length)≤1000000∧1+(claimsTo b s.grants i).length≤1000000:=by omega
  have c9:24*(1+(claimsTo b s.grants i).length)≤1000000∧1+(claimsTo b s.grants i).length≤1000000:=by omega
  simp (disch:=omega) [hlen,hlent,c8,c9,happ,happ7,e2,e3,e7,e9,e12,e14,kt6,kt7,wrap64]
  rw [claimsTo_succ hlt,hz]
  refine ⟨hlt,by omega,fun g h1 h2=>?_,fx7,hown7.frame (by simp) fun g hg=>?_,hto7.frame (by simp) fun g hg=>?_⟩
  ·rw [if_neg h2,hk7 g (by omega) (fun hc=>by have:=(hto.blk_lt hc).1; omega),hk6 g (by omega) (fun hc=>by have:=(hown.blk_lt hc).1; omega),s5.2 g (by omega),hk4 g h1 h2]
  ·rw [GH.get_put_ne _ _ (by have:=(hown7.blk_lt hg).1; omega)]
  ·rw [GH.get_put_ne _ _ (by have:=(hto7.blk_lt hg).1; omega)]
 have:i=s.grants.length:=by omega
 subst this
 have hs4':=hs2.trans hs4
 obtain ⟨hcn,hcp,_⟩:=hcl s.grants.length (Nat.le_refl _)
 generalize claimsTo b s.grants s.grants.length=cs at hown hto hcn hcp hsum hgeC
 obtain ⟨xa,xf,e13,hEx⟩:=hown.elems (fun _=>rfl)
 obtain ⟨ta,tf,rfl,hEt⟩:=hto.elems (fun _=>rfl)
 have hl100:cs.length≤100:=by omega
 have hc200:cs.sum≤200:=by omega
 simp (disch:=omega) [e12,kt4]
 with_reducible refine (r7Tree_con b.supply cs hl100 ta tf H4 hEt).go ?_
 cases hT:rtreeB b.supply cs
 ·have hfew:=rtree_few ⟨hsu.1,by omega⟩ (fun c hc=>(hcp c hc).1) hc200 hT
  by_cases hc0:cs= []
  ·have hu0:usedI b s=0:=by rw [←hsum,hc0]; rfl
   simp (disch:=omega) [e13,e9,hc0,hu0,gbin_same]
   refine (known11_con _ fx4).go ?_
   simp
   exact hs4'
  ·have hu0:¬usedI b s=0:=by
    have h1:cs.length≠0:=by simpa using hc0
    rw [hfew] at h1
    rwa [hsum] at h1
   simp (disch:=omega) [e13,e9,hc0,hu0,gbin_same]
   refine (known11_con _ fx4).go ?_
   simp
   exact hs4'
 have hT2:=rtree_is hT
 simp (disch:=omega) [e12,kt4]
 with_reducible refine (Shares_con b.supply cs hl100 ta tf H4 hEt).fx.mono ?_
 rintro x H5 ⟨⟨s5,hx⟩,f5⟩
 obtain ⟨sh,ad,rfl,ho5,hv5,hf5⟩:=hx hT2
 have fx5:FxOk H5.fx:=by rw [f5]; exact fx4
 have hn5:=s5.1
 have kt5:=(s5.2 H2.next (by omega)).trans kt4
 have hEt5:=hEt.mono s5
 obtain ⟨hsh1,hsh2⟩:=full_sum hv5 hf5
 have hsh:=hsh2 (by omega)
 subst hsh
 simp (disch:=omega) [e12,kt5]
 with_reducible refine (dKeeps_con b.supply sh hT2 hl100 hc200 ta tf H5 hEt5).go ?_
 simp (disch:=omega) [e12,kt5,e2]
 refine (r7With_con b.supply less ta sh.length tf H5).fx.mono ?_
 rintro x H6 ⟨⟨s6,rfl⟩,f6⟩
 have fx6:FxOk H6.fx:=by rw [f6]; exact fx5
 have hn6:=s6.1
 have hT3:isTreeB less sh=true:=by
  obtain ⟨t1,t2,t3,t4,t5⟩:=tree_ok hT2
  simp only [isTreeB,Bool.and_eq_true] at hT2 ⊢
  refine ⟨⟨?_,hT2.1.2⟩,hT2.2⟩
  simp [inI]; omega
 simp
 refine (Shares_con less sh hl100 ta tf H6 (hEt5.mono s6)).fx.mono ?_
 rintro x H7 ⟨⟨s7,hx7⟩,f7⟩
 obtain ⟨sf,ad7,rfl,ho7,hv7,hf7⟩:=hx7 hT3
 have fx7:FxOk H7.fx:=by rw [f7]; exact fx6
 have hn7:=s7.1
 obtain ⟨hsf1,_⟩:=full_sum hv7 hf7
 have s57:=s6.trans s7
 have hsh7:=(ho5.sub s57).elems' (fun _=>rfl)
 have hcl7:=hEx.mono (s5.trans s57)
 have hsf7:=ho7.elems' (fun _=>rfl)
 have hEt7:=hEt5.mono s57
 have kt7:=(s57.2 H2.next (by omega)).trans kt5
 simp (disch:=omega) [e13]
 refine (same1_con sh sh (by omega) (some ad) xa 1 xf H7 hsh7 hcl7).go ?_
 simp (disch:=omega) [hsum,e9,e12,kt7]
 have hlf:=hv7.len
 have hcn7:(0:Int)≤sf.sum∧sf.sum≤200:=by omega
 refine (r7List_con b.supply less sh sf hv7 hl100 ta tf (some ad7) 1 H7 hEt7 hsf7).go ?_
 simp (disch:=omega)
 refine wp_up tok mix (by kernel_rfl) sf.length (fun i ρ m H'=>ρ 2=vi less∧ρ 9=vi (usedI b s)∧ρ 23=.slice (some ad7) sh.length 1∧ρ 25=vi (sf.take i).sum∧ρ 26=vi i∧m= []∧H'=H7) (i0:=0) (by omega) (by simp [e2,e9]) ?_
 clear e2 e3 e7 e9 e12 e13 e14
 rintro i ρ m H' hi ⟨e2,e9,e23,e25,e26,rfl,rfl⟩
 simp (disch:=omega) [e23,e26]
 refine wpB_dec (fun hlt=>?_) (fun hge=>?_)
 ·obtain ⟨c,e,hcb,hrc⟩:=hsf7.at i (by omega)
  cases e
  have hlt':(i:Int)<sh.length:=by omega
  have hss:(sf.take (i+1)).sum=(sf.take i).sum+sf[i]:=by rw [List.take_succ_eq_append_getElem (by omega),List.sum_append]; simp
  have hsb:ShOk sf:=⟨by omega,fun x hx=>by have:=(hv7.nonneg (fun c hc=>by have:=hgeC.2 c hc; omega)) x hx; omega⟩
  have hb0:=hsb.sum i
  have hb1':=hsb.sum (i+1)
  simp (disch:=omega) [e2,e9,e23,e25,e26,hrc,hss,wrap64]
  try omega
 ·have:i=sf.length:=by omega
  subst this
  rw [List.take_length] at e25
  have hm:(if usedI b s<less then usedI b s else less)=sf.sum:=by
   rw [hsum] at hsf1
   split<;>omega
  simp (disch:=omega) [e2,e9,e25,hm]
  refine (known11_con _ fx7).go ?_
  simp
  exact ((hs4'.trans s5).trans s57)
end Go.Gm.Tryz
end
end
