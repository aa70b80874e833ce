/- Part 4 of the proof: Gc17, Gc18, Gc19, Gc20, Gc21, Gc22, Gc23, Gc24, Gc25, Gc26, Gc27, Gc28, Gc29, Gc30, Gc31, Gc32, Gc33, Gc34, Gc35, Gc36, Gc37, Gc38, Gc39, GmImport, Gc51, Gd1, Gd2, Gd3, GcP, Gp1, Gd4, GbP, Lf1, GmShelf, Ic1, GmRec, Gp2, Gr1, Gr2, Ic2, Ic3, GmTryzF, Ka1, Ic4, Ic5, Ic6, Ka3, Ka4, Ka2. -/
import Derived.Test.YthfchbkbhcageaaGreatDoorDa3
import Derived.RecoverIn
import Derived.Tactics
import Derived.RegionIn
import Derived.ControlIn
import Derived.Test.YthfchbkbhcageaaGreatDoorRows
import Derived.LaidLaws
import Derived.Lay
import Derived.MakeChecks
import Derived.Shelf.LaysM
import Derived.Shelf.Strconv.Itoa3
import Derived.Test.YthfchbkbhcageaaGreatDoorProg
import Derived.KernelRfl
noncomputable section
section
namespace Go.Gm.Tryz
open Go.Proofs
abbrev Goes (f:FuncId) (H:GH) (N:Nat) (l:BLoc) (b:Book) (sg kn:Nat) (s:Stand) (O:Nat→Prop) (e:Ev) (r:Bool):Prop:=
 GCall Tryz.prog f [evV e,.pointer (some (ga sg 0 0))] H fun x H'=>x=.ret (.bool r)∧Frm O O H H'∧StandIn H' N l b sg kn s O
def fitsB (b:Book) (s:Stand) (e:Ev):Bool:=decide (0≤waterI b.tbl e.system e.units)&&(decide (waterI b.tbl e.system e.units≤freeI b s)&&decide (s.waits= []))
section
variable {H:GH} {N:Nat} {l:BLoc} {b:Book} {sg kn:Nat} {s:Stand} {O:Nat→Prop}
theorem StandIn.st (h:StandIn H N l b sg kn s O):∃vl vo vg va vw vf,StIn H N l b sg kn s vl vo vg va vw vf:=by
 obtain ⟨_,_,_,_,_,_,h,_⟩:=h
 exact ⟨_,_,_,_,_,_,h⟩
theorem water_st (h:StandIn H N l b sg kn s O) (sys u:Int):GCall Tryz.prog 54 [.pointer (some (ga sg 0 0)),vi sys,vi u] H fun x H'=>x=.ret (vi (waterI b.tbl sys u))∧Frm O O H H'∧StandIn H' N l b sg kn s O:=by
 obtain ⟨_,_,_,_,_,_,h'⟩:=h.st
 refine (water_con h' sys u).mono ?_
 rintro x H' ⟨rfl,hk⟩
 have:=h.kstep hk
 exact ⟨rfl,this.2,this.1⟩
theorem free_st (h:StandIn H N l b sg kn s O) (hw:Wf b s):GCall Tryz.prog 25 [.pointer (some (ga sg 0 0))] H fun x H'=>x=.ret (vi (freeI b s))∧Frm O O H H'∧StandIn H' N l b sg kn s O:=by
 obtain ⟨_,_,_,_,_,_,h'⟩:=h.st
 refine (free_con h' (by have:=hw.len; omega)).mono ?_
 rintro x H' ⟨rfl,hk⟩
 have:=h.kstep hk
 exact ⟨rfl,this.2,this.1⟩
def existsB (s:Stand) (n:Int):Bool:=decide (n<s.owners.length)&&decide (0≤s.owners.getD n.toNat 0)
theorem exists_st (h:StandIn H N l b sg kn s O) {n:Int} (hn:0≤n):C 217 [.pointer (some (ga sg 0 0)),vi n] H (.bool (existsB s n)) H:=by
 obtain ⟨_,_,_,_,_,_,h'⟩:=h.st
 exact exists_con h' n hn
theorem fits_con (h:StandIn H N l b sg kn s O) (hw:Wf b s) (e:Ev):
  GCall Tryz.prog 214 [.pointer (some (ga sg 0 0)),evV e] H fun x H'=>x=.ret (.bool (fitsB b s e))∧Frm O O H H'∧StandIn H' N l b sg kn s O:=by
 rcases l with ⟨⟨⟨ra,rf⟩⟩,⟨oa,of'⟩,⟨va',vf'⟩⟩
 refine gcall_wp tok mix fok214 (F:=g214) (c:=_) rfl (n:=28) rfl (rs:= [.tmp 4]) rfl ?_
 simp
 obtain ⟨h1,f1⟩:=h.sub (Sub.push (.refl H) (.arr { cells:= [vi e.kind,vi e.day,vi e.person,vi e.other,vi e.estate,vi e.grant,vi e.system,vi e.units],ty:=103 }))
 refine (water_st h1 e.system e.units).mono ?_
 rintro x H2 ⟨rfl,f2,h2⟩
 simp
 refine contG_bool (fun h5=>?_) (fun h5=>?_)<;>(try simp only [decide_eq_true_eq,decide_eq_false_iff_not] at h5)
 ·simp [h5]
  refine (free_st h2 hw).mono ?_
  rintro x H3 ⟨rfl,f3,h3⟩
  simp
  have hf3:=f1.trans (f2.trans f3)
  refine contG_bool (fun h6=>?_) (fun h6=>?_)<;>(try simp only [decide_eq_true_eq,decide_eq_false_iff_not] at h6)
  ·obtain ⟨_,_,_,_,vw,_,h3'⟩:=h3.st
   have hg3:=h3'.g
   have hsl:=h3'.sgl.2
   obtain ⟨aw,fw,rfl,_⟩:=h3'.waits.elems (fun _=>rfl)
   simp [h6,hg3]
   exact ⟨by simp [fitsB,h5,h6],hf3,h3⟩
  ·simp [h6]
   exact ⟨by simp [fitsB,h6],hf3,h3⟩
 ·simp [h5]
  exact ⟨by simp [fitsB,h5],f1.trans f2,h2⟩
theorem give_goes (h:StandIn H N l b sg kn s O) (hw:Wf b s) (e:Ev) (hp:0≤e.person∧e.person<s.lives.length):
  Goes 213 H N l b sg kn s O e (s.lives.getD e.person.toNat false&&fitsB b s e):=by
 rcases l with ⟨⟨⟨ra,rf⟩⟩,⟨oa,of'⟩,⟨va',vf'⟩⟩
 refine gcall_wp tok mix fok213 (F:=g213) (c:=_) rfl (n:=20) rfl (rs:= [.tmp 4]) rfl ?_
 obtain ⟨h1,f1⟩:=h.sub (Sub.push (.refl H) (.arr { cells:= [vi e.kind,vi e.day,vi e.person,vi e.other,vi e.estate,vi e.grant,vi e.system,vi e.units],ty:=186 }))
 obtain ⟨_,_,_,_,_,_,h1'⟩:=h1.st
 have hg1:=h1'.g
 have hsl:=h1'.sgl.2
 obtain ⟨al,fl,rfl,hE⟩:=h1'.lives.elems (fun _=>rfl)
 obtain ⟨a,rfl,hal,hrd⟩:=hE.at e.person.toNat (by omega)
 have e1:s.lives[e.person.toNat]?.getD false=s.lives[e.person.toNat]:=by rw [List.getElem?_eq_getElem (by omega)]; rfl
 simp (disch:=omega) [hg1,hrd]
 refine planG_bool (fun h5=>?_) (fun h5=>?_)
 ·simp [h5]
  refine (fits_con h1 hw e).mono ?_
  rintro x H3 ⟨rfl,f3,h3⟩
  simp
  exact ⟨f1.trans f3,h3⟩
 ·simp [h5]
  exact ⟨f1,h1⟩
theorem attach_goes (h:StandIn H N l b sg kn s O) (hw:Wf b s) (e:Ev) (hp:0≤e.estate):
  Goes 216 H N l b sg kn s O e (existsB s e.estate&&fitsB b s e):=by
 rcases l with ⟨⟨⟨ra,rf⟩⟩,⟨oa,of'⟩,⟨va',vf'⟩⟩
 refine gcall_wp tok mix fok216 (F:=g216) (c:=_) rfl (n:=16) rfl (rs:= [.tmp 4]) rfl ?_
 obtain ⟨h1,f1⟩:=h.sub (Sub.push (.refl H) (.arr { cells:= [vi e.kind,vi e.day,vi e.person,vi e.other,vi e.estate,vi e.grant,vi e.system,vi e.units],ty:=187 }))
 obtain ⟨_,_,_,_,_,_,h1'⟩:=h1.st
 have hg1:=h1'.g
 have hsl:=h1'.sgl.2
 simp (disch:=omega)
 refine (exists_st h1 hp).go ?_
 simp
 refine contG_bool (fun h5=>?_) (fun h5=>?_)
 ·simp [h5]
  refine (fits_con h1 hw e).mono ?_
  rintro x H3 ⟨rfl,f3,h3⟩
  simp
  exact ⟨f1.trans f3,h3⟩
 ·simp [h5]
  exact ⟨f1,h1⟩
theorem die_goes (h:StandIn H N l b sg kn s O) (_hw:Wf b s) (e:Ev) (hp:0≤e.person∧e.person<s.lives.length) (ho:0≤e.other∧e.other<s.lives.length):
  Goes 219 H N l b sg kn s O e (decide (e.person≠e.other)&&(s.lives.getD e.person.toNat false&&s.lives.getD e.other.toNat false)):=by
 rcases l with ⟨⟨⟨ra,rf⟩⟩,⟨oa,of'⟩,⟨va',vf'⟩⟩
 refine gcall_wp tok mix fok219 (F:=g219) (c:=_) rfl (n:=34) rfl (rs:= [.tmp 4]) rfl ?_
 obtain ⟨h1,f1⟩:=h.sub (Sub.push (.refl H) (.arr { cells:= [vi e.kind,vi e.day,vi e.person,vi e.other,vi e.estate,vi e.grant,vi e.system,vi e.units],ty:=188 }))
 obtain ⟨_,_,_,_,_,_,h1'⟩:=h1.st
 have hg1:=h1'.g
 have hsl:=h1'.sgl.2
 obtain ⟨al,fl,rfl,hE⟩:=h1'.lives.elems (fun _=>rfl)
 obtain ⟨a,rfl,hal,hrd⟩:=hE.at e.person.toNat (by omega)
 have e1:s.lives[e.person.toNat]?.getD false=s.lives[e.person.toNat]:=by rw [List.getElem?_eq_getElem (by omega)]; rfl
 obtain ⟨a',ha',hal',hrd'⟩:=hE.at e.other.toNat (by omega)
 cases ha'
 have e2:s.lives[e.other.toNat]?.getD false=s.lives[e.other.toNat]:=by rw [List.getElem?_eq_getElem (by omega)]; rfl
 simp (disch:=omega)
 by_cases h5:e.person=e.other
 ·simp [h5]
  rw [h5] at f1 h1
  exact ⟨f1,h1⟩
 ·simp (disch:=omega) [h5,hg1,hrd]
  refine planG_bool (fun h6=>?_) (fun h6=>?_)
  ·simp (disch:=omega) [h6,hg1,hrd']
   exact ⟨f1,h1⟩
  ·simp [h6]
   exact ⟨f1,h1⟩
theorem ask_goes (h:StandIn H N l b sg kn s O) (_hw:Wf b s) (e:Ev) (hp:0≤e.person∧e.person<s.lives.length):
  Goes 230 H N l b sg kn s O e (s.lives.getD e.person.toNat false&&decide (0≤waterI b.tbl e.system e.units)):=by
 rcases l with ⟨⟨⟨ra,rf⟩⟩,⟨oa,of'⟩,⟨va',vf'⟩⟩
 refine gcall_wp tok mix fok230 (F:=g230) (c:=_) rfl (n:=25) rfl (rs:= [.tmp 4]) rfl ?_
 obtain ⟨h1,f1⟩:=h.sub (Sub.push (.refl H) (.arr { cells:= [vi e.kind,vi e.day,vi e.person,vi e.other,vi e.estate,vi e.grant,vi e.system,vi e.units],ty:=193 }))
 obtain ⟨_,_,_,_,_,_,h1'⟩:=h1.st
 have hg1:=h1'.g
 have hsl:=h1'.sgl.2
 obtain ⟨al,fl,rfl,hE⟩:=h1'.lives.elems (fun _=>rfl)
 obtain ⟨a,rfl,hal,hrd⟩:=hE.at e.person.toNat (by omega)
 have e1:s.lives[e.person.toNat]?.getD false=s.lives[e.person.toNat]:=by rw [List.getElem?_eq_getElem (by omega)]; rfl
 simp (disch:=omega) [hg1,hrd]
 refine planG_bool (fun h5=>?_) (fun h5=>?_)
 ·simp [h5]
  refine (water_st h1 e.system e.units).mono ?_
  rintro x H3 ⟨rfl,f3,h3⟩
  simp
  exact ⟨f1.trans f3,h3⟩
 ·simp [h5]
  exact ⟨f1,h1⟩
theorem sell_goes (h:StandIn H N l b sg kn s O) (_hw:Wf b s) (e:Ev) (hp:0≤e.person∧e.person<s.lives.length) (ho:0≤e.estate):
  Goes 222 H N l b sg kn s O e (existsB s e.estate&&(s.lives.getD e.person.toNat false&&decide (s.owners.getD e.estate.toNat 0≠e.person))):=by
 rcases l with ⟨⟨⟨ra,rf⟩⟩,⟨oa,of'⟩,⟨va',vf'⟩⟩
 refine gcall_wp tok mix fok222 (F:=g222) (c:=_) rfl (n:=36) rfl (rs:= [.tmp 4]) rfl ?_
 obtain ⟨h1,f1⟩:=h.sub (Sub.push (.refl H) (.arr { cells:= [vi e.kind,vi e.day,vi e.person,vi e.other,vi e.estate,vi e.grant,vi e.system,vi e.units],ty:=189 }))
 obtain ⟨_,_,_,_,_,_,h1'⟩:=h1.st
 have hg1:=h1'.g
 have hsl:=h1'.sgl.2
 obtain ⟨al,fl,rfl,hE⟩:=h1'.lives.elems (fun _=>rfl)
 obtain ⟨a,rfl,hal,hrd⟩:=hE.at e.person.toNat (by omega)
 have e1:s.lives[e.person.toNat]?.getD false=s.lives[e.person.toNat]:=by rw [List.getElem?_eq_getElem (by omega)]; rfl
 obtain ⟨ao,fo,rfl,hO⟩:=h1'.owners.elems (fun _=>rfl)
 simp (disch:=omega)
 refine (exists_st h1 ho).go ?_
 simp
 refine planG_bool (fun h5=>?_) (fun h5=>?_)
 ·have h5':=h5
  simp only [existsB,Bool.and_eq_true,decide_eq_true_eq] at h5'
  obtain ⟨ao,rfl,hao,hro⟩:=hO.at e.estate.toNat (by omega)
  have e2:s.owners[e.estate.toNat]?.getD 0=s.owners[e.estate.toNat]'(by omega):=by rw [List.getElem?_eq_getElem (by omega)]; rfl
  simp (disch:=omega) [h5,hg1,hrd]
  refine planG_bool (fun h6=>?_) (fun h6=>?_)
  ·simp (disch:=omega) [h6,hg1,hro]
   exact ⟨f1,h1⟩
  ·simp [h6]
   exact ⟨f1,h1⟩
 ·simp [h5]
  exact ⟨f1,h1⟩
theorem renew_goes (h:StandIn H N l b sg kn s O) (_hw:Wf b s) (e:Ev) (hp:0≤e.grant):
  Goes 228 H N l b sg kn s O e (decide (e.grant<s.grants.length)&&(decide ((s.grants.getD e.grant.toNat default).is=2)&&decide ((s.grants.getD e.grant.toNat default).person=e.person))):=by
 rcases l with ⟨⟨⟨ra,rf⟩⟩,⟨oa,of'⟩,⟨va',vf'⟩⟩
 refine gcall_wp tok mix fok228 (F:=g228) (c:=_) rfl (n:=43) rfl (rs:= [.tmp 4]) rfl ?_
 obtain ⟨h1,f1⟩:=h.sub (Sub.push (.refl H) (.arr { cells:= [vi e.kind,vi e.day,vi e.person,vi e.other,vi e.estate,vi e.grant,vi e.system,vi e.units],ty:=192 }))
 obtain ⟨_,_,_,_,_,_,h1'⟩:=h1.st
 have hg1:=h1'.g
 have hsl:=h1'.sgl.2
 obtain ⟨ag,fg,rfl,hG⟩:=h1'.grants.elems (fun _=>rfl)
 simp (disch:=omega) [hg1]
 refine planG_bool (fun h5=>?_) (fun h5=>?_)<;>(try simp only [decide_eq_true_eq,decide_eq_false_iff_not] at h5)
 ·obtain ⟨ag,rfl,hag,hrg⟩:=hG.at e.grant.toNat (by omega)
  have e1:s.grants[e.grant.toNat]?.getD default=s.grants[e.grant.toNat]'(by omega):=by rw [List.getElem?_eq_getElem (by omega)]; rfl
  simp (disch:=omega) [h5,hg1,hrg]
  refine planG_bool (fun h6=>?_) (fun h6=>?_)<;>(try simp only [decide_eq_true_eq,decide_eq_false_iff_not] at h6)
  ·simp (disch:=omega) [h6,hg1,hrg]
   exact ⟨f1,h1⟩
  ·simp [h6]
   exact ⟨f1,h1⟩
 ·simp [h5]
  exact ⟨f1,h1⟩
theorem join_goes (h:StandIn H N l b sg kn s O) (_hw:Wf b s) (e:Ev) (ho:0≤e.other) (hp:0≤e.estate):
  Goes 226 H N l b sg kn s O e (decide (e.estate≠e.other)&&(existsB s e.estate&&(existsB s e.other&&decide (s.owners.getD e.estate.toNat 0=s.owners.getD e.other.toNat 0)))):=by
 rcases l with ⟨⟨⟨ra,rf⟩⟩,⟨oa,of'⟩,⟨va',vf'⟩⟩
 refine gcall_wp tok mix fok226 (F:=g226) (c:=_) rfl (n:=47) rfl (rs:= [.tmp 4]) rfl ?_
 obtain ⟨h1,f1⟩:=h.sub (Sub.push (.refl H) (.arr { cells:= [vi e.kind,vi e.day,vi e.person,vi e.other,vi e.estate,vi e.grant,vi e.system,vi e.units],ty:=191 }))
 obtain ⟨_,_,_,_,_,_,h1'⟩:=h1.st
 have hg1:=h1'.g
 have hsl:=h1'.sgl.2
 obtain ⟨ao,fo,rfl,hO⟩:=h1'.owners.elems (fun _=>rfl)
 have hx:=exists_st h1 hp
 have hy:=exists_st h1 ho
 simp (disch:=omega)
 refine planG_bool (fun h4=>?_) (fun h4=>?_)<;>(try simp only [Bool.not_eq_true',Bool.not_eq_false',decide_eq_true_eq,decide_eq_false_iff_not] at h4)
 ·simp [h4]
  refine hx.go ?_
  simp
  refine planG_bool (fun h5=>?_) (fun h5=>?_)
  ·simp [h5]
   refine hy.go ?_
   simp
   refine planG_bool (fun h6=>?_) (fun h6=>?_)
   ·have h5':=h5
    have h6':=h6
    simp only [existsB,Bool.and_eq_true,decide_eq_true_eq] at h5' h6'
    obtain ⟨ao,rfl,hao,hro⟩:=hO.at e.estate.toNat (by omega)
    obtain ⟨ao',ha',hao',hro'⟩:=hO.at e.other.toNat (by omega)
    cases ha'
    have e1:s.owners[e.estate.toNat]?.getD 0=s.owners[e.estate.toNat]'(by omega):=by rw [List.getElem?_eq_getElem (by omega)]; rfl
    have e2:s.owners[e.other.toNat]?.getD 0=s.owners[e.other.toNat]'(by omega):=by rw [List.getElem?_eq_getElem (by omega)]; rfl
    simp (disch:=omega) [h6,hg1,hro,hro']
    exact ⟨f1,h1⟩
   ·simp [h6]
    exact ⟨f1,h1⟩
  ·simp [h5]
   exact ⟨f1,h1⟩
 ·simp [h4]
  rw [h4] at f1 h1
  exact ⟨f1,h1⟩
def partB (b:Book) (s:Stand) (sys all one:Int):Bool:=
 decide (0≤waterI b.tbl sys one)&&(decide (0≤waterI b.tbl sys (IntKind.i64.wrap (all - one)))&&
  decide (IntKind.i64.wrap (IntKind.i64.wrap (waterI b.tbl sys one+waterI b.tbl sys (IntKind.i64.wrap (all - one))) - waterI b.tbl sys all)≤freeI b s))
def divB (b:Book) (s:Stand) (e:Ev):Bool:=
 decide (e.grant<s.grants.length)&&(decide (0≤(s.grants.getD e.grant.toNat default).estate)&&(decide (e.units<(s.grants.getD e.grant.toNat default).units)&&(s.lives.getD e.person.toNat false&&
  partB b s (s.grants.getD e.grant.toNat default).system (s.grants.getD e.grant.toNat default).units e.units)))
theorem divide_goes (h:StandIn H N l b sg kn s O) (hw:Wf b s) (e:Ev) (hp:0≤e.person∧e.person<s.lives.length) (hg:0≤e.grant):
  Goes 224 H N l b sg kn s O e (divB b s e):=by
 rcases l with ⟨⟨⟨ra,rf⟩⟩,⟨oa,of'⟩,⟨va',vf'⟩⟩
 refine gcall_wp tok mix fok224 (F:=g224) (c:=_) rfl (n:=105) rfl (rs:= [.tmp 4]) rfl ?_
 obtain ⟨h1,f1⟩:=h.sub (Sub.push (.refl H) (.arr { cells:= [vi e.kind,vi e.day,vi e.person,vi e.other,vi e.estate,vi e.grant,vi e.system,vi e.units],ty:=190 }))
 obtain ⟨_,_,_,_,_,_,h1'⟩:=h1.st
 have hg1:=h1'.g
 have hsl:=h1'.sgl.2
 obtain ⟨al,fl,rfl,hE⟩:=h1'.lives.elems (fun _=>rfl)
 obtain ⟨a,rfl,hal,hrd⟩:=hE.at e.person.toNat (by omega)
 have e1:s.lives[e.person.toNat]?.getD false=s.lives[e.person.toNat]:=by rw [List.getElem?_eq_getElem (by omega)]; rfl
 obtain ⟨ag,fg,rfl,hG⟩:=h1'.grants.elems (fun _=>rfl)
 simp (disch:=omega) [hg1]
 refine planG_bool (fun h5=>?_) (fun h5=>?_)<;>(try simp only [Bool.not_eq_true',Bool.not_eq_false',decide_eq_true_eq,decide_eq_false_iff_not] at h5)
 ·have hgl:e.grant<s.grants.length:=by omega
  obtain ⟨ag,rfl,hag,hrg⟩:=hG.at e.grant.toNat (by omega)
  have e2:s.grants[e.grant.toNat]?.getD default=s.grants[e.grant.toNat]'(by omega):=by rw [List.getElem?_eq_getElem (by omega)]; rfl
  generalize hG:s.grants[e.grant.toNat]'(by omega)=G at hrg e2
  simp (disch:=omega) [h5,hg1,hrg]
  refine planG_bool (fun h6=>?_) (fun h6=>?_)<;>(try simp only [Bool.not_eq_true',Bool.not_eq_false',decide_eq_true_eq,decide_eq_false_iff_not] at h6)
  ·have h6':0≤G.estate:=by omega
   simp (disch:=omega) [h6,hg1,hrg]
   refine planG_bool (fun h7=>?_) (fun h7=>?_)<;>(try simp only [Bool.not_eq_true',Bool.not_eq_false',decide_eq_true_eq,decide_eq_false_iff_not] at h7)
   ·have h7':e.units<G.units:=by omega
    simp (disch:=omega) [h7,hg1,hrd]
    refine wpB_bool (fun h8=>?_) (fun h8=>?_)<;>(try simp only [Bool.not_eq_true',Bool.not_eq_false'] at h8)
    ·simp [divB,h6',h7',h8,hgl,e2,e1]
     exact ⟨f1,h1⟩
    ·have hO1:∀g,O g→g<H.next:=fun g ho=>(h.lt g ho).2
     simp (disch:=omega) [hg1,hrg,h8]
     generalize hH2:GH.put _ _ _=H2
     have hs2:Sub (H.push (.arr { cells:= [vi e.kind,vi e.day,vi e.person,vi e.other,vi e.estate,vi e.grant,vi e.system,vi e.units],ty:=190 })) H2:=by
      subst hH2; exact (Sub.push (.refl _) _).put (Nat.le_refl _) _
     have hb2:H2.get (H.next+1)=some (.arr { cells:=encSt G,ty:=45 }):=by subst hH2; simp
     have he2:H2.get H.next=some (.arr { cells:= [vi e.kind,vi e.day,vi e.person,vi e.other,vi e.estate,vi e.grant,vi e.system,vi e.units],ty:=190 }):=by rw [hs2.2 _ (by simp)]; simp
     have hn2:H.next+1<H2.next:=by subst hH2; simp
     clear hH2
     obtain ⟨h2,f2⟩:=h1.sub hs2
     refine (water_st h2 G.system e.units).mono ?_
     rintro x H3 ⟨rfl,f3,h3⟩
     have hb3:=(f3.keep _ hn2 fun ho=>by have:=hO1 _ ho; omega).trans hb2
     have he3:=(f3.keep _ (show H.next<H2.next by omega) fun ho=>by have:=hO1 _ ho; omega).trans he2
     simp (disch:=omega) [hb3,he3]
     refine (water_st h3 G.system _).mono ?_
     rintro x H4 ⟨rfl,f4,h4⟩
     have hb4:=(f4.keep _ (show H.next+1<H3.next by have:=f3.next; omega) fun ho=>by have:=hO1 _ ho; omega).trans hb3
     have he4:=(f4.keep _ (show H.next<H3.next by have:=f3.next; omega) fun ho=>by have:=hO1 _ ho; omega).trans he3
     have hf4:=f1.trans (f2.trans (f3.trans f4))
     have hpre:divB b s e=partB b s G.system G.units e.units:=by simp [divB,h6',h7',h8,hgl,e2,e1]
     rw [hpre]
     simp (disch:=omega)
     refine contG_bool (fun h9=>?_) (fun h9=>?_)<;>(try simp only [decide_eq_true_eq,decide_eq_false_iff_not] at h9)
     ·simp [h9]
      refine contG_bool (fun h10=>?_) (fun h10=>?_)<;>(try simp only [decide_eq_true_eq,decide_eq_false_iff_not] at h10)
      ·simp (disch:=omega) [h10,hb4]
       refine (water_st h4 G.system G.units).mono ?_
       rintro x H5 ⟨rfl,f5,h5⟩
       simp
       refine (free_st h5 hw).mono ?_
       rintro x H6 ⟨rfl,f6,h6⟩
       simp
       exact ⟨by simp [partB,h9,h10],hf4.trans (f5.trans f6),h6⟩
      ·simp [h10]
       exact ⟨by simp [partB,h10],hf4,h4⟩
     ·simp [h9]
      exact ⟨by simp [partB,h9],hf4,h4⟩
   ·have h7':¬e.units<G.units:=by omega
    simp [divB,h6',h7,h7',hgl,e2]
    exact ⟨f1,h1⟩
  ·have h6':¬0≤G.estate:=by omega
   simp [divB,h6,h6',hgl,e2]
   exact ⟨f1,h1⟩
 ·have hgl:¬e.grant<s.grants.length:=by omega
  simp [divB,h5,hgl]
  exact ⟨f1,h1⟩
end
end Go.Gm.Tryz
end
section
namespace Go.Gm.Tryz
open Go.Proofs
abbrev Does (f:FuncId) (H:GH) (N:Nat) (l:BLoc) (b:Book) (sg kn:Nat) (O:Nat→Prop) (e:Ev) (n:Nat) (s':Stand):Prop:=
 GCall Tryz.prog f [evV e,.pointer (some (ga sg 0 0)),vi n] H fun x H'=>x=.ret (.tuple #[])∧∃O',Frm O O' H H'∧StandIn H' N l b sg kn s' O'
section
variable {H:GH} {N:Nat} {l:BLoc} {b:Book} {sg kn:Nat} {s:Stand} {O:Nat→Prop}
def giveS (s:Stand) (e:Ev):Stand:=addG s e.person (-1) e.system e.units
theorem give_do (h:StandIn H N l b sg kn s O) (hw:Wf b s) (e:Ev) (n:Nat):Does 212 H N l b sg kn O e n (giveS s e):=by
 rcases l with ⟨⟨⟨ra,rf⟩⟩,⟨oa,of'⟩,⟨va',vf'⟩⟩
 refine gcall_wp tok mix fok212 (F:=g212) (c:=_) rfl (n:=17) rfl (rs:= []) rfl ?_
 obtain ⟨h1,f1⟩:=h.sub (Sub.push (.refl H) (.arr { cells:= [vi e.kind,vi e.day,vi e.person,vi e.other,vi e.estate,vi e.grant,vi e.system,vi e.units],ty:=186 }))
 simp
 refine (add_con h1 (by have:=hw.len; omega) (by have:=hw.len; have:=hw.last; omega) _ _ _ _).mono ?_
 rintro x H3 ⟨rfl,O3,f3,h3⟩
 simp
 exact ⟨O3,f1.trans f3,h3⟩
def attachS (s:Stand) (e:Ev):Stand:=addG s (s.owners.getD e.estate.toNat 0) e.estate e.system e.units
theorem attach_do (h:StandIn H N l b sg kn s O) (hw:Wf b s) (e:Ev) (n:Nat) (he:0≤e.estate∧e.estate<s.owners.length):Does 215 H N l b sg kn O e n (attachS s e):=by
 rcases l with ⟨⟨⟨ra,rf⟩⟩,⟨oa,of'⟩,⟨va',vf'⟩⟩
 refine gcall_wp tok mix fok215 (F:=g215) (c:=_) rfl (n:=26) rfl (rs:= []) rfl ?_
 obtain ⟨h1,f1⟩:=h.sub (Sub.push (.refl H) (.arr { cells:= [vi e.kind,vi e.day,vi e.person,vi e.other,vi e.estate,vi e.grant,vi e.system,vi e.units],ty:=187 }))
 obtain ⟨_,_,_,_,_,_,h1'⟩:=h1.st
 have hg1:=h1'.g
 have hsl:=h1'.sgl.2
 obtain ⟨ao,fo,rfl,hO⟩:=h1'.owners.elems (fun _=>rfl)
 obtain ⟨ao,rfl,hao,hro⟩:=hO.at e.estate.toNat (by omega)
 have e2:s.owners.getD e.estate.toNat 0=s.owners[e.estate.toNat]'(by omega):=getD_at (by omega)
 simp (disch:=omega) [hg1,hro]
 refine (add_con h1 (by have:=hw.len; omega) (by have:=hw.len; have:=hw.last; omega) _ _ _ _).mono ?_
 rintro x H3 ⟨rfl,O3,f3,h3⟩
 simp
 exact ⟨O3,f1.trans f3,by unfold attachS; rw [e2]; exact h3⟩
theorem sell_do (h:StandIn H N l b sg kn s O) (hw:Wf b s) (e:Ev) (n:Nat) (he:0≤e.estate∧e.estate<s.owners.length):Does 221 H N l b sg kn O e n (ownS s e.estate.toNat e.person):=by
 rcases l with ⟨⟨⟨ra,rf⟩⟩,⟨oa,of'⟩,⟨va',vf'⟩⟩
 refine gcall_wp tok mix fok221 (F:=g221) (c:=_) rfl (n:=14) rfl (rs:= []) rfl ?_
 obtain ⟨h1,f1⟩:=h.sub (Sub.push (.refl H) (.arr { cells:= [vi e.kind,vi e.day,vi e.person,vi e.other,vi e.estate,vi e.grant,vi e.system,vi e.units],ty:=189 }))
 simp
 have:=own_con h1 (by have:=hw.len; omega) e.estate.toNat (by omega) e.person
 rw [Int.toNat_of_nonneg he.1] at this
 refine this.mono ?_
 rintro x H3 ⟨rfl,O3,f3,h3⟩
 simp
 exact ⟨O3,f1.trans f3,h3⟩
theorem Frm.wr {O:Nat→Prop} {H H1:GH} {k:Nat} (hO:∀g,O g→g<H.next) (ho:O k) (hn:H1.next=H.next) (hs:∀g,g≠k→H1.get g=H.get g):Frm O O H H1:=
 ⟨by omega,fun g _ h=>hs g fun hc=>h (hc▸ho),fun g hg=>.inl hg,fun g hg=>by rw [hn]; exact hO g hg⟩
def renewS (s:Stand) (e:Ev):Stand:= { s with grants:=s.grants.set e.grant.toNat { s.grants.getD e.grant.toNat default with is:=1 } }
theorem renew_do (h:StandIn H N l b sg kn s O) (_hw:Wf b s) (e:Ev) (n:Nat) (he:0≤e.grant∧e.grant<s.grants.length):Does 227 H N l b sg kn O e n (renewS s e):=by
 rcases l with ⟨⟨⟨ra,rf⟩⟩,⟨oa,of'⟩,⟨va',vf'⟩⟩
 refine gcall_wp tok mix fok227 (F:=g227) (c:=_) rfl (n:=15) rfl (rs:= []) rfl ?_
 obtain ⟨h1,f1⟩:=h.sub (Sub.push (.refl H) (.arr { cells:= [vi e.kind,vi e.day,vi e.person,vi e.other,vi e.estate,vi e.grant,vi e.system,vi e.units],ty:=192 }))
 have hl1:=fun g ho=>(h1.lt g ho).2
 obtain ⟨_,_,_,_,_,_,h1',hO1⟩:=h1
 have hg1:=h1'.g
 have hsl:=h1'.sgl.2
 obtain ⟨ag,fg,rfl,hG⟩:=h1'.grants.elems (fun _=>rfl)
 obtain ⟨ag,rfl,hag,hrg⟩:=hG.at e.grant.toNat (by omega)
 have hbk:=h1'.grants.blk_some
 have e2:s.grants.getD e.grant.toNat default=s.grants[e.grant.toNat]'(by omega):=getD_at (by omega)
 obtain ⟨H2,hw2,ho2,hn2,hs2⟩:=h1'.grants.wr (fun _=>rfl) (i:=e.grant.toNat) (k:=0) (by omega) (c:=vi 1) (new:= []) (by simp) (y:= { s.grants[e.grant.toNat]'(by omega) with is:=1 }) (by simp [splice])
 have hS2:=h1'.wr_grants (H1:=H2) (by omega) ho2 (fun k hk hne=>hs2 k fun hc=>hne (by rw [hbk,hc]))
 simp (disch:=omega) [hg1,hw2]
 exact ⟨O,f1.trans (Frm.wr hl1 ((hO1 _).2 (.inr (.inr (.inr (.inr (.inl hbk)))))) hn2 hs2),by unfold renewS; rw [e2]; exact ⟨_,_,_,_,_,_,hS2,hO1⟩⟩
def askS (s:Stand) (n:Int):Stand:= { s with waits:=s.waits++ [n] }
theorem ask_do (h:StandIn H N l b sg kn s O) (hw:Wf b s) (e:Ev) (n:Nat):Does 229 H N l b sg kn O e n (askS s n):=by
 rcases l with ⟨⟨⟨ra,rf⟩⟩,⟨oa,of'⟩,⟨va',vf'⟩⟩
 refine gcall_wp tok mix fok229 (F:=g229) (c:=_) rfl (n:=16) rfl (rs:= []) rfl ?_
 obtain ⟨h1,f1⟩:=h.sub (Sub.push (.refl H) (.arr { cells:= [vi e.kind,vi e.day,vi e.person,vi e.other,vi e.estate,vi e.grant,vi e.system,vi e.units],ty:=193 }))
 obtain ⟨vl,vo,vg,va,vw,vf,h1',hO1⟩:=h1
 have hg1:=h1'.g
 have hsl:=h1'.sgl.2
 have hsN:=h1'.sgl.1
 have hlw:=h1'.waits.len
 have hle:=hw.len
 generalize hH1:H.push _=H1 at*
 have hn1:H1.next=H.next+1:=by rw [←hH1]; simp
 have hge:H1.get H.next=some (.arr { cells:= [vi e.kind,vi e.day,vi e.person,vi e.other,vi e.estate,vi e.grant,vi e.system,vi e.units],ty:=193 }):=by rw [←hH1]; simp
 obtain ⟨vw',H2,happ,ho2,hn2,hf2,hb2⟩:=(h1'.waits.push (.arr { cells:= [vi n],ty:=3 })).app (by simp) (by simp) (by decide) (n:Int) (by simp; omega)
 simp only [encI] at happ
 have d8:8*(1+s.waits.length)≤1000000:=by omega
 have d9:1+s.waits.length≤1000000:=by omega
 have hg2:=(hf2 sg (by simp; omega) (h1'.sg_ne h1'.waits (by decide))).trans ((GH.get_push_lt _ _ hsl).trans hg1)
 simp only [GH.next_push] at hn2
 obtain ⟨aw,fw,rfl⟩:=ho2.slice
 simp (disch:=omega) [hH1]
 simp (disch:=omega) [hg1,hlw,d8,d9,happ,hg2]
 have hS2:=h1'.upd_waits (by omega) ho2 (fun k hk hne=>by rw [hf2 k (by simp; omega) hne,GH.get_push_lt _ _ hk]) (fun k hk=>(hb2 k hk).imp id fun h=>by simp at h; omega)
 simp only [bookC,List.cons_append,List.nil_append,List.length_append,List.length_cons,List.length_nil,Nat.zero_add] at hS2 hb2
 obtain ⟨O3,f3,h3⟩:=StandIn.of h1' hO1 hS2 (by simp; omega) (fun k hk ho=>by
  rw [hO1] at ho
  rw [GH.get_put_ne _ _ (fun hc=>ho (.inl hc)),hf2 k (by simp; omega) (fun hc=>ho (.inr (.inr (.inr (.inr (.inr (.inr (.inl hc)))))))),GH.get_push_lt _ _ (by omega)])
  (fun k hk=>.inl hk) (fun k hk=>.inl hk) (fun k hk=>.inl hk) (fun k hk=>.inl hk) (fun k hk=>(hb2 k hk).imp id fun h=>by simp at h; omega) (fun k hk=>.inl hk)
 exact ⟨O3,f1.trans f3,h3⟩
def joinF (e:Ev) (x:GSt):GSt:=if x.estate=e.other then { x with estate:=e.estate } else x
def joinS (s:Stand) (e:Ev):Stand:= { s with owners:=s.owners.set e.other.toNat (-1),grants:=s.grants.map (joinF e) }
theorem join_do (h:StandIn H N l b sg kn s O) (hw:Wf b s) (e:Ev) (n:Nat) (he:0≤e.other∧e.other<s.owners.length):Does 225 H N l b sg kn O e n (joinS s e):=by
 rcases l with ⟨⟨⟨ra,rf⟩⟩,⟨oa,of'⟩,⟨va',vf'⟩⟩
 refine gcall_wp tok mix fok225 (F:=g225) (c:=_) rfl (n:=43) rfl (rs:= []) rfl ?_
 obtain ⟨h1,f1⟩:=h.sub (Sub.push (.refl H) (.arr { cells:= [vi e.kind,vi e.day,vi e.person,vi e.other,vi e.estate,vi e.grant,vi e.system,vi e.units],ty:=191 }))
 have hle:=hw.len
 have hl1:=fun g ho=>(h1.lt g ho).2
 have hge:(H.push (.arr { cells:= [vi e.kind,vi e.day,vi e.person,vi e.other,vi e.estate,vi e.grant,vi e.system,vi e.units],ty:=191 })).get H.next=some (.arr { cells:= [vi e.kind,vi e.day,vi e.person,vi e.other,vi e.estate,vi e.grant,vi e.system,vi e.units],ty:=191 }):=by simp
 have hOl:∀g,O g→g<H.next:=fun g hg=>(h.lt g hg).2
 have hnx:(H.push (.arr { cells:= [vi e.kind,vi e.day,vi e.person,vi e.other,vi e.estate,vi e.grant,vi e.system,vi e.units],ty:=191 })).next=H.next+1:=by simp
 generalize hH1:H.push _=H1 at*
 obtain ⟨vl,vo,vg,va,vw,vf,h1,hO⟩:=h1
 have hg:=h1.g
 have hsl:=h1.sgl.2
 obtain ⟨ao,fo,rfl,hE⟩:=h1.owners.elems (fun _=>rfl)
 obtain ⟨ao,rfl,hob,_⟩:=hE.at e.other.toNat (by omega)
 obtain ⟨ag,fg,rfl,hEg⟩:=h1.grants.elems (fun _=>rfl)
 have hbk:=h1.owners.blk_some
 obtain ⟨H2,hw2,ho2,hn2,hs2⟩:=h1.owners.wr (fun _=>rfl) (i:=e.other.toNat) (k:=0) (by omega) (c:=vi (-1)) (new:= []) (by simp) (y:=(-1:Int)) (by simp [splice])
 have hbgs:ao.block≠sg:=fun hc=>h1.sg_ne h1.owners (by decide) (by rw [hbk,hc])
 have hOo:O ao.block:=(hO _).2 (.inr (.inr (.inr (.inl hbk))))
 have hg2:=(hs2 sg (Ne.symm hbgs)).trans hg
 have he2:=(hs2 H.next (fun hc=>by have:=hOl _ hOo; omega)).trans hge
 have hS2:=h1.wr_owners (H1:=H2) (by omega) ho2 (fun k hk hne=>hs2 k fun hc=>hne (by rw [hbk,hc]))
 have f2:Frm O O H1 H2:=Frm.wr hl1 hOo hn2 hs2
 simp (disch:=omega) [hH1]
 simp (disch:=omega) [hg,hge,hw2,hg2]
 refine wp_up tok mix (by kernel_rfl) s.grants.length (fun i ρ m H3=>ρ 1=.pointer (some (ga sg 0 0))∧ρ 3=.pointer (some (ga H.next 0 0))∧ρ 19=.slice ag s.grants.length fg∧ρ 20=vi s.grants.length∧ρ 21=vi i∧m= []∧Frm O O H2 H3∧
  StIn H3 N ⟨⟨⟨ra,rf⟩⟩,⟨oa,of'⟩,⟨va',vf'⟩⟩ b sg kn { s with owners:=s.owners.set e.other.toNat (-1),grants:=upto (joinF e) s.grants i } vl (.slice (some ao) s.owners.length fo) (.slice ag s.grants.length fg) va vw vf) (i0:=0) (by omega)
  ⟨by simp,by simp,by simp,by simp,by simp,by simp,Frm.refl f2.lt,by simpa [upto_zero] using hS2⟩ ?_
 rintro i ρ m H3 hi ⟨e1,e3,e19,e20,e21,rfl,f3,h3⟩
 have hg3:=h3.g
 have he3:=(f3.keep H.next (by omega) (fun hc=>by have:=hOl _ hc; omega)).trans he2
 have hn3:=f3.next
 simp [e20,e21]
 refine wpB_dec (fun hlt2=>?_) (fun hge=>?_)
 ·obtain ⟨a2,rfl,hab,hrd⟩:=(h3.grants.elems' (fun _=>rfl)).at i (by rw [upto_len]; exact hlt2)
  rw [upto_at _ hlt2] at hrd
  have hltI:(i:Int)<s.grants.length:=by omega
  have hbk2:=h3.grants.blk_some
  simp (disch:=omega) [e3,e19,e21,hrd,he3]
  have hsu:=upto_succ (joinF e) hlt2
  generalize hH4:GH.put _ _ _=H4
  have hs4:Sub H3 H4:=by subst hH4; exact (Sub.push (.refl H3) _).put (Nat.le_refl _) _
  have hb4:H4.get H3.next=some (.arr { cells:=encSt s.grants[i],ty:=45 }):=by subst hH4; simp
  have he4:=(hs4.2 H.next (by omega)).trans he3
  have hl4:H3.next<H4.next:=by subst hH4; simp
  clear hH4
  have h4:=h3.sub hs4
  have hg4:=h4.g
  have hsl4:=h4.sgl.2
  have f4:Frm O O H3 H4:=Frm.of_sub f3.lt hs4
  try simp (disch:=omega) [hb4,he4,e1,e3]
  refine wpB_dec (fun h5=>?_) (fun h5=>?_)
  ·obtain ⟨H5,hw5,ho5,hn5,hs5⟩:=h4.grants.wr (fun _=>rfl) (i:=i) (k:=2) (by rw [upto_len]; exact hlt2) (c:=vi e.estate) (new:= []) (by simp) (y:= { s.grants[i] with estate:=e.estate }) (by rw [upto_at _ hlt2]; simp [splice])
   simp (disch:=omega) [e1,e3,hg4,he4,hw5]
   have h5':=h4.wr_grants (H1:=H5) (by omega) ho5 (fun k hk hne=>hs5 k fun hc=>hne (by rw [hbk2,hc]))
   have f5:Frm O O H4 H5:=Frm.wr f4.lt ((hO _).2 (.inr (.inr (.inr (.inr (.inl hbk2)))))) hn5 hs5
   simp (disch:=omega) [e1,e3,e19,e20,e21,hlt2,wrap64]
   refine ⟨f3.trans (f4.trans f5),?_⟩
   rw [hsu]; unfold joinF; rw [if_pos h5]; exact h5'
  ·simp (disch:=omega) [e1,e3,e19,e20,e21,hlt2,wrap64]
   refine ⟨f3.trans f4,?_⟩
   rw [hsu]
   have:(upto (joinF e) s.grants i).set i (joinF e s.grants[i])=upto (joinF e) s.grants i:=by
    have hj:joinF e s.grants[i]=s.grants[i]:=by unfold joinF; rw [if_neg h5]
    rw [hj]
    conv=>lhs; rw [←upto_at (joinF e) hlt2]
    exact List.set_getElem_self _
   rw [this]; exact h4
 ·have:i=s.grants.length:=by omega
  subst this
  rw [upto_all] at h3
  simp
  exact ⟨O,f1.trans (f2.trans f3),_,_,_,_,_,_,h3,hO⟩
end
end Go.Gm.Tryz
end
section
namespace Go.Gm.Tryz
open Go.Proofs
section
variable {H:GH} {N:Nat} {l:BLoc} {b:Book} {sg kn:Nat} {s:Stand} {O:Nat→Prop}
def divideS (s:Stand) (e:Ev):Stand:=
 addG { s with owners:=s.owners++ [e.person],grants:=s.grants.set e.grant.toNat { s.grants.getD e.grant.toNat default with units:=IntKind.i64.wrap ((s.grants.getD e.grant.toNat default).units - e.units) } }
  e.person s.owners.length (s.grants.getD e.grant.toNat default).system e.units
theorem divide_do (h:StandIn H N l b sg kn s O) (hw:Wf b s) (e:Ev) (n:Nat) (he:0≤e.grant∧e.grant<s.grants.length):Does 223 H N l b sg kn O e n (divideS s e):=by
 rcases l with ⟨⟨⟨ra,rf⟩⟩,⟨oa,of'⟩,⟨va',vf'⟩⟩
 refine gcall_wp tok mix fok223 (F:=g223) (c:=_) rfl (n:=57) rfl (rs:= []) rfl ?_
 obtain ⟨h1,f1⟩:=h.sub (Sub.push (.refl H) (.arr { cells:= [vi e.kind,vi e.day,vi e.person,vi e.other,vi e.estate,vi e.grant,vi e.system,vi e.units],ty:=190 }))
 have hle:=hw.len
 have hlo:=hw.own
 have hla:=hw.last
 have hl1:=fun g ho=>(h1.lt g ho).2
 have hge:(H.push (.arr { cells:= [vi e.kind,vi e.day,vi e.person,vi e.other,vi e.estate,vi e.grant,vi e.system,vi e.units],ty:=190 })).get H.next=some (.arr { cells:= [vi e.kind,vi e.day,vi e.person,vi e.other,vi e.estate,vi e.grant,vi e.system,vi e.units],ty:=190 }):=by simp
 have hOl:∀g,O g→g<H.next:=fun g hg=>(h.lt g hg).2
 have hnx:(H.push (.arr { cells:= [vi e.kind,vi e.day,vi e.person,vi e.other,vi e.estate,vi e.grant,vi e.system,vi e.units],ty:=190 })).next=H.next+1:=by simp
 generalize hH1:H.push _=H1 at*
 obtain ⟨vl,vo,vg,va,vw,vf,h1,hO⟩:=h1
 have hg:=h1.g
 have hsl:=h1.sgl.2
 obtain ⟨ag,fg,rfl,hEg⟩:=h1.grants.elems (fun _=>rfl)
 obtain ⟨ag,rfl,hag,hrg⟩:=hEg.at e.grant.toNat (by omega)
 have e2:s.grants.getD e.grant.toNat default=s.grants[e.grant.toNat]'(by omega):=getD_at (by omega)
 have hbk:=h1.grants.blk_some
 have hbgs:ag.block≠sg:=fun hc=>h1.sg_ne h1.grants (by decide) (by rw [hbk,hc])
 obtain ⟨H2,hw2,ho2,hn2,hs2⟩:=h1.grants.wr (fun _=>rfl) (i:=e.grant.toNat) (k:=4) (by omega) (c:=vi (IntKind.i64.wrap ((s.grants[e.grant.toNat]'(by omega)).units - e.units))) (new:= []) (by simp) (y:= { s.grants[e.grant.toNat]'(by omega) with units:=IntKind.i64.wrap ((s.grants[e.grant.toNat]'(by omega)).units - e.units) }) (by simp [splice])
 obtain ⟨a2,ha2,hab2,hrg2⟩:=(ho2.elems' (fun _=>rfl)).at e.grant.toNat (by simp; omega)
 cases ha2
 rw [List.getElem_set_self] at hrg2
 have hOo:O ag.block:=(hO _).2 (.inr (.inr (.inr (.inr (.inl hbk)))))
 have hg2:=(hs2 sg (Ne.symm hbgs)).trans hg
 have he2:=(hs2 H.next (fun hc=>by have:=hOl _ hOo; omega)).trans hge
 have hS2:=h1.wr_grants (H1:=H2) (by omega) ho2 (fun k hk hne=>hs2 k fun hc=>hne (by rw [hbk,hc]))
 have f2:Frm O O H1 H2:=Frm.wr hl1 hOo hn2 hs2
 have hlow:=hS2.owners.len
 obtain ⟨vo',H3,happ,ho3,hn3,hf3,hb3⟩:=(hS2.owners.push (.arr { cells:= [vi e.person],ty:=3 })).app (by simp) (by simp) (by decide) e.person (by have:=hS2.sgl; simp; omega)
 simp only [encI] at happ
 have d8:8*(1+s.owners.length)≤1000000:=by omega
 have d9:1+s.owners.length≤1000000:=by omega
 have hg3:=(hf3 sg (by have:=hS2.sgl; simp; omega) (hS2.sg_ne hS2.owners (by decide))).trans ((GH.get_push_lt _ _ hS2.sgl.2).trans hg2)
 simp only [GH.next_push] at hn3
 have he3:=(hf3 H.next (by simp; omega) (fun hc=>by have:=hOl _ ((hO _).2 (.inr (.inr (.inr (.inl hc))))); omega)).trans ((GH.get_push_lt _ _ (by omega)).trans he2)
 obtain ⟨ao,fo,rfl⟩:=ho3.slice
 have hne:¬H.next=sg:=by have:=hOl _ ((hO sg).2 (.inl rfl)); omega
 have hlen1:IntKind.i64.wrap (IntKind.i64.wrap ((s.owners.length:Int)+1) - 1)=s.owners.length:=by simp (disch:=omega) [wrap64]
 have hlen3:IntKind.i64.wrap (s.owners.length:Int)=s.owners.length:=by simp (disch:=omega) [wrap64]
 have hlen2:IntKind.i64.wrap ((s.owners.length:Int)+1 - 1)=s.owners.length:=by simp (disch:=omega) [wrap64]
 simp (disch:=omega) [hH1]
 simp (disch:=omega) [hg,hge,hw2,hg2,he2,hrg,hrg2,hlow,d8,d9,happ,hg3,he3,hlen3]
 have hS3:=hS2.upd_owners (by omega) ho3 (fun k hk hne=>by rw [hf3 k (by simp; omega) hne,GH.get_push_lt _ _ hk]) (fun k hk=>(hb3 k hk).imp id fun h=>by simp at h; omega)
 simp only [bookC,List.cons_append,List.nil_append,List.length_append,List.length_cons,List.length_nil,Nat.zero_add] at hS3 hb3
 obtain ⟨O3,f3,h3⟩:=StandIn.of hS2 hO hS3 (by simp; omega) (fun k hk ho=>by
  rw [hO] at ho
  rw [GH.get_put_ne _ _ (fun hc=>ho (.inl hc)),hf3 k (by simp; omega) (fun hc=>ho (.inr (.inr (.inr (.inl hc))))),GH.get_push_lt _ _ (by omega)])
  (fun k hk=>.inl hk) (fun k hk=>(hb3 k hk).imp id fun h=>by simp at h; omega) (fun k hk=>.inl hk) (fun k hk=>.inl hk) (fun k hk=>.inl hk) (fun k hk=>.inl hk)
 refine (add_con h3 (by simp; omega) (by simp; omega) _ _ _ _).mono ?_
 rintro x H5 ⟨rfl,O5,f5,h5⟩
 simp
 refine ⟨O5,f1.trans (f2.trans (f3.trans f5)),?_⟩
 unfold divideS
 rw [e2]
 exact h5
end
end Go.Gm.Tryz
end
section
namespace Go.Gm.Tryz
open Go.Proofs
theorem ownI_con {H:GH} {N:Nat} {l:BLoc} {b:Book} {sg kn:Nat} {s:Stand} {vl vo vg va vw vf:Value} {O:Nat→Prop} (h:StIn H N l b sg kn s vl vo vg va vw vf) (hO:∀g,O g↔g=sg∨g=kn∨blkOf vl=some g∨blkOf vo=some g∨blkOf vg=some g∨blkOf va=some g∨blkOf vw=some g∨blkOf vf=some g) (hlen:s.grants.length≤1000) (n:Nat) (hn:n<s.owners.length) (p:Int):
  GCall Tryz.prog 220 [.pointer (some (ga sg 0 0)),vi n,vi p] H fun x H'=>x=.ret (.tuple #[])∧Frm O O H H'∧StIn H' N l b sg kn (ownS s n p) vl vo vg va vw vf:=by
 rcases l with ⟨⟨⟨ra,rf⟩⟩,⟨oa,of'⟩,⟨va',vf'⟩⟩
 refine gcall_wp tok mix fok220 (F:=g220) (c:=_) rfl (n:=38) rfl (rs:= []) rfl ?_
 have hg:=h.g
 have hsl:=h.sgl.2
 obtain ⟨ao,fo,rfl,hE⟩:=h.owners.elems (fun _=>rfl)
 obtain ⟨ao,rfl,hob,_⟩:=hE.at n hn
 obtain ⟨ag,fg,rfl,hEg⟩:=h.grants.elems (fun _=>rfl)
 have hbk:=h.owners.blk_some
 obtain ⟨H1,hw1,ho1,hn1,hs1⟩:=h.owners.wr (fun _=>rfl) (i:=n) (k:=0) hn (c:=vi p) (new:= []) (by simp) (y:=p) (by simp [splice])
 have hbgs:ao.block≠sg:=fun hc=>h.sg_ne h.owners (by decide) (by rw [hbk,hc])
 have hg1:=(hs1 sg (Ne.symm hbgs)).trans hg
 have hlt:(n:Int)<s.owners.length:=by omega
 simp (disch:=omega) [hg,hw1,hg1]
 have hS1:=h.wr_owners (H1:=H1) (by omega) ho1 (fun k hk hne=>hs1 k fun hc=>hne (by rw [hbk,hc]))
 refine wp_up tok mix (by kernel_rfl) s.grants.length (fun i ρ m H2=>ρ 0=.pointer (some (ga sg 0 0))∧ρ 1=vi n∧ρ 2=vi p∧ρ 18=.slice ag s.grants.length fg∧ρ 19=vi s.grants.length∧ρ 20=vi i∧m= []∧H.next≤H2.next∧(∀g,g<H.next→¬O g→H2.get g=H.get g)∧
  StIn H2 N ⟨⟨⟨ra,rf⟩⟩,⟨oa,of'⟩,⟨va',vf'⟩⟩ b sg kn { s with owners:=s.owners.set n p,grants:=upto (fun x=>if x.estate=(n:Int) then { x with person:=p } else x) s.grants i } vl (.slice (some ao) s.owners.length fo) (.slice ag s.grants.length fg) va vw vf) (i0:=0) (by omega)
  ⟨by simp,by simp,by simp,by simp,by simp,by simp,rfl,by omega,fun g hg ho=>hs1 g fun hc=>ho ((hO g).2 (.inr (.inr (.inr (.inl (by rw [hbk,hc])))))),by simpa [upto_zero] using hS1⟩ ?_
 rintro i ρ m H2 hi ⟨e0,e1,e2,e18,e19,e20,rfl,hn2,hs2,h2⟩
 have hg2:=h2.g
 simp [e19,e20]
 refine wpB_dec (fun hlt2=>?_) (fun hge=>?_)
 ·obtain ⟨a2,rfl,hab,hrd⟩:=(h2.grants.elems' (fun _=>rfl)).at i (by rw [upto_len]; exact hlt2)
  rw [upto_at _ hlt2] at hrd
  have hltI:(i:Int)<s.grants.length:=by omega
  have hbk2:=h2.grants.blk_some
  simp (disch:=omega) [e1,e18,e20,hrd]
  have hsu:=upto_succ (fun x:GSt=>if x.estate=(n:Int) then { x with person:=p } else x) hlt2
  generalize hH3:GH.put _ _ _=H3
  have hs3:Sub H2 H3:=by subst hH3; exact (Sub.push (.refl H2) _).put (Nat.le_refl _) _
  have hb3:H3.get H2.next=some (.arr { cells:=encSt s.grants[i],ty:=45 }):=by subst hH3; simp
  have hl3:H2.next<H3.next:=by subst hH3; simp
  clear hH3
  have h3:=h2.sub hs3
  have hg3:=h3.g
  have hsl3:=h3.sgl.2
  have hs23:∀g,g<H.next→¬O g→H3.get g=H.get g:=fun g hg ho=>by rw [hs3.2 g (by omega),hs2 g hg ho]
  try simp (disch:=omega) [hb3,e1]
  refine wpB_bool (fun h5=>?_) (fun h5=>?_)<;>(try simp only [decide_eq_true_eq,decide_eq_false_iff_not] at h5)
  ·obtain ⟨H4,hw4,ho4,hn4,hs4⟩:=h3.grants.wr (fun _=>rfl) (i:=i) (k:=1) (by rw [upto_len]; exact hlt2) (c:=vi p) (new:= []) (by simp) (y:= { s.grants[i] with person:=p }) (by rw [upto_at _ hlt2]; simp [splice])
   simp (disch:=omega) [e0,e2,hg3,hw4]
   have h4:=h3.wr_grants (H1:=H4) (by omega) ho4 (fun k hk hne=>hs4 k fun hc=>hne (by rw [hbk2,hc]))
   simp (disch:=omega) [e0,e1,e2,e18,e19,e20,hlt2,wrap64]
   refine ⟨by omega,fun g hg ho=>?_,?_⟩
   ·rw [hs4 g fun hc=>ho ((hO g).2 (.inr (.inr (.inr (.inr (.inl (by rw [hbk2,hc])))))))]
    exact hs23 g hg ho
   ·rw [hsu,if_pos h5]; exact h4
  ·simp (disch:=omega) [e0,e1,e2,e18,e19,e20,hlt2,wrap64]
   refine ⟨by omega,hs23,?_⟩
   rw [hsu,if_neg h5]
   have:(upto (fun x:GSt=>if x.estate=(n:Int) then { x with person:=p } else x) s.grants i).set i s.grants[i]=upto (fun x:GSt=>if x.estate=(n:Int) then { x with person:=p } else x) s.grants i:=by
    conv=>lhs; rw [←upto_at (fun x:GSt=>if x.estate=(n:Int) then { x with person:=p } else x) hlt2]
    exact List.set_getElem_self _
   rw [this]; exact h3
 ·have:i=s.grants.length:=by omega
  subst this
  rw [upto_all] at h2
  simp
  exact ⟨⟨hn2,hs2,fun g hg=>.inl hg,fun g hg=>Nat.lt_of_lt_of_le (h.own_lt ((hO g).1 hg)).2 hn2⟩,h2⟩
end Go.Gm.Tryz
end
section
namespace Go.Gm.Tryz
open Go.Proofs
def dieA (s:Stand) (e:Ev):Stand:= { s with lives:=s.lives.set e.person.toNat false }
def oAt (s:Stand) (i:Nat):Int:=s.owners.getD i 0
def gAt (s:Stand) (i:Nat):GSt:=s.grants.getD i default
def ownStep (e:Ev) (s:Stand) (i:Nat):Stand:=if oAt s i=e.person then ownS s i e.other else s
def dieB (s:Stand) (e:Ev):Stand:=(List.range s.owners.length).foldl (ownStep e) s
def notOf (b:Book) (e:Ev) (w:Int):Bool:=decide ((evAt b w).person≠e.person)
def dieC (b:Book) (s:Stand) (e:Ev):Stand:= { s with waits:=s.waits.filter (notOf b e) }
def endStep (b:Book) (e:Ev) (s:Stand) (i:Nat):Stand:=if (gAt s i).is=2∧(gAt s i).person=e.person then endS b s i e.day else s
def dieD (b:Book) (s:Stand) (e:Ev):Stand:=(List.range s.grants.length).foldl (endStep b e) s
def heirStep (b:Book) (e:Ev) (s:Stand) (i:Nat):Stand:=
 if (gAt s i).is=1∧(gAt s i).estate<0∧(gAt s i).person=e.person then { s with grants:=s.grants.set i { gAt s i with is:=2,person:=e.other },last:=s.last.set i (IntKind.i64.wrap (e.day+b.term)) } else s
def dieE (b:Book) (s:Stand) (e:Ev):Stand:=(List.range s.grants.length).foldl (heirStep b e) s
def dieS (b:Book) (s:Stand) (e:Ev):Stand:=dieE b (dieD b (dieC b (dieB (dieA s e) e) e) e) e
theorem range_fold {α:Type} (f:α→Nat→α) (s:α) (i:Nat):(List.range (i+1)).foldl f s=f ((List.range i).foldl f s) i:=by rw [List.range_succ,List.foldl_append]; rfl
theorem ownS_wf {b:Book} {s:Stand} (h:Wf b s) (n:Nat) (p:Int):Wf b (ownS s n p):=by
 refine ⟨h.w,by simpa [ownS] using h.len,by simpa [ownS] using h.last,by simpa [ownS] using h.own,h.ev,?_⟩
 have h1:=h.fe
 simp only [ownS]
 rw [List.countP_map]
 refine Nat.le_trans h1 (Nat.le_of_eq ?_)
 congr 1
 funext x
 simp only [Function.comp]
 split<;>rfl
theorem ownStep_ok {b:Book} {e:Ev} {s:Stand} (h:Wf b s) (i:Nat):Wf b (ownStep e s i)∧(ownStep e s i).owners.length=s.owners.length∧(ownStep e s i).grants.length=s.grants.length∧(ownStep e s i).waits=s.waits:=by
 unfold ownStep
 split
 ·exact ⟨ownS_wf h _ _,by simp [ownS],by simp [ownS],rfl⟩
 ·exact ⟨h,rfl,rfl,rfl⟩
theorem ownFold_ok {b:Book} {e:Ev} {s:Stand} (h:Wf b s) (i:Nat):Wf b ((List.range i).foldl (ownStep e) s)∧((List.range i).foldl (ownStep e) s).owners.length=s.owners.length∧((List.range i).foldl (ownStep e) s).grants.length=s.grants.length∧((List.range i).foldl (ownStep e) s).waits=s.waits:=by
 induction i with
 |zero=>exact ⟨h,rfl,rfl,rfl⟩
 |succ i ih=>
  rw [range_fold]
  obtain ⟨a,b',c,d⟩:=ownStep_ok ih.1 (e:=e) i
  exact ⟨a,b'.trans ih.2.1,c.trans ih.2.2.1,d.trans ih.2.2.2⟩
theorem dieA_wf {b:Book} {s:Stand} (h:Wf b s) (e:Ev):Wf b (dieA s e):=⟨h.w,h.len,h.last,h.own,h.ev,h.fe⟩
theorem dieC_wf {b:Book} {s:Stand} (h:Wf b s) (e:Ev):Wf b (dieC b s e):=by
 refine ⟨fun n hn=>h.w n (List.mem_filter.1 hn).1,?_,h.last,h.own,h.ev,h.fe⟩
 have h1:=h.len
 have:=List.length_filter_le (notOf b e) s.waits
 simp only [dieC]; omega
theorem serveS_len {b:Book}:∀ {n:Nat} {s:Stand},s.grants.length≤(serveS b n s).grants.length:=by
 intro n
 induction n with
 |zero=>intro s; exact Nat.le_refl _
 |succ n ih=>
  intro s
  simp only [serveS]
  cases hws:s.waits with
  |nil=>exact Nat.le_refl _
  |cons w ws=>
   simp only
   split
   ·exact Nat.le_refl _
   ·refine Nat.le_trans ?_ ih
    simp [addG]
theorem endS_len (b:Book) (s:Stand) (g:Nat) (d:Int):s.grants.length≤(endS b s g d).grants.length:=by
 refine Nat.le_trans ?_ (serveS_len (b:=b))
 simp [endG]
theorem endStep_ok {b:Book} {e:Ev} {s:Stand} (h:Wf b s) {i:Nat} (hi:i<s.grants.length):Wf b (endStep b e s i)∧s.grants.length≤(endStep b e s i).grants.length:=by
 unfold endStep
 split
 ·rename_i h2
  have:gAt s i=s.grants[i]:=getD_at hi
  rw [this] at h2
  exact ⟨endS_wf h hi (by rw [h2.1]; decide) _,endS_len ..⟩
 ·exact ⟨h,Nat.le_refl _⟩
section
variable {H:GH} {N:Nat} {l:BLoc} {b:Book} {sg kn:Nat} {s:Stand} {O:Nat→Prop}
theorem die_do (h:StandIn H N l b sg kn s O) (hw:Wf b s) (e:Ev) (n:Nat) (he:0≤e.person∧e.person<s.lives.length):Does 218 H N l b sg kn O e n (dieS b s e):=by
 rcases l with ⟨⟨⟨ra,rf⟩⟩,⟨oa,of'⟩,⟨va',vf'⟩⟩
 refine gcall_wp tok mix fok218 (F:=g218) (c:=_) rfl (n:=168) rfl (rs:= []) rfl ?_
 obtain ⟨h1,f1⟩:=h.sub (Sub.push (.refl H) (.arr { cells:= [vi e.kind,vi e.day,vi e.person,vi e.other,vi e.estate,vi e.grant,vi e.system,vi e.units],ty:=188 }))
 have hle:=hw.len
 have hlo:=hw.own
 have hl1:=fun g ho=>(h1.lt g ho).2
 have hge:(H.push (.arr { cells:= [vi e.kind,vi e.day,vi e.person,vi e.other,vi e.estate,vi e.grant,vi e.system,vi e.units],ty:=188 })).get H.next=some (.arr { cells:= [vi e.kind,vi e.day,vi e.person,vi e.other,vi e.estate,vi e.grant,vi e.system,vi e.units],ty:=188 }):=by simp
 have hOl:∀g,O g→g<H.next:=fun g hg=>(h.lt g hg).2
 have hnx:(H.push (.arr { cells:= [vi e.kind,vi e.day,vi e.person,vi e.other,vi e.estate,vi e.grant,vi e.system,vi e.units],ty:=188 })).next=H.next+1:=by simp
 generalize hH1:H.push _=H1 at*
 obtain ⟨vl,vo,vg,va,vw,vf,h1,hO⟩:=h1
 have hg:=h1.g
 have hsl:=h1.sgl.2
 obtain ⟨al,fl,rfl,hEl⟩:=h1.lives.elems (fun _=>rfl)
 obtain ⟨al,rfl,hal,hrl⟩:=hEl.at e.person.toNat (by omega)
 obtain ⟨ao,fo,rfl,hEo⟩:=h1.owners.elems (fun _=>rfl)
 have hbk:=h1.lives.blk_some
 have hbgs:al.block≠sg:=fun hc=>h1.sg_ne h1.lives (by decide) (by rw [hbk,hc])
 have hOo:O al.block:=(hO _).2 (.inr (.inr (.inl hbk)))
 obtain ⟨H2,hw2,ho2,hn2,hs2⟩:=h1.lives.wr (fun _=>rfl) (i:=e.person.toNat) (k:=0) (by omega) (c:=.bool false) (new:= []) (by simp) (y:=false) (by simp [splice])
 have hg2:=(hs2 sg (Ne.symm hbgs)).trans hg
 have he2:=(hs2 H.next (fun hc=>by have:=hOl _ hOo; omega)).trans hge
 have hS2:=h1.wr_lives (H1:=H2) (by omega) ho2 (fun k hk hne=>hs2 k fun hc=>hne (by rw [hbk,hc]))
 have f2:Frm O O H1 H2:=Frm.wr hl1 hOo hn2 hs2
 have hwA:=dieA_wf hw e
 have hA:({ s with lives:=s.lives.set e.person.toNat false }:Stand)=dieA s e:=rfl
 rw [hA] at hS2
 simp (disch:=omega) [hH1]
 simp (disch:=omega) [hg,hge,hw2,hg2]
 refine wp_up tok mix (by kernel_rfl) s.owners.length (fun i ρ m H3=>ρ 1=.pointer (some (ga sg 0 0))∧ρ 3=.pointer (some (ga H.next 0 0))∧ρ 26=.slice ao s.owners.length fo∧ρ 27=vi s.owners.length∧ρ 28=vi i∧m= []∧Frm O O H1 H3∧
  StIn H3 N ⟨⟨⟨ra,rf⟩⟩,⟨oa,of'⟩,⟨va',vf'⟩⟩ b sg kn ((List.range i).foldl (ownStep e) (dieA s e)) (.slice (some al) s.lives.length fl) (.slice ao s.owners.length fo) vg va vw vf) (i0:=0) (by omega)
  ⟨by simp,by simp,by simp,by simp,by simp,by simp,f2,hS2⟩ ?_
 rintro i ρ m H3 hi ⟨e1,e3,e26,e27,e28,rfl,f3,h3⟩
 have hg3:=h3.g
 have he3:=(f3.keep H.next (by omega) (fun hc=>by have:=hOl _ hc; omega)).trans hge
 have hn3:=f3.next
 obtain ⟨hw3,ho3,hgl3,hww3⟩:=ownFold_ok (e:=e) hwA i
 simp [e27,e28]
 refine wpB_dec (fun hlt2=>?_) (fun hge1=>?_)
 ·have hrf:=range_fold (ownStep e) (dieA s e) i
  generalize hcur:(List.range i).foldl (ownStep e) (dieA s e)=c at*
  have hol:c.owners.length=s.owners.length:=ho3
  have hltI:(i:Int)<s.owners.length:=by omega
  obtain ⟨a2,rfl,hab,hrd⟩:=(h3.owners.elems' (fun _=>rfl)).at i (by omega)
  have hoa:oAt c i=c.owners[i]'(by omega):=getD_at (by omega)
  simp (disch:=omega) [e3,e26,e28,hrd,he3]
  refine wpB_dec (fun h5=>?_) (fun h5=>?_)
  ·simp (disch:=omega) [e1,e3,he3]
   refine (ownI_con h3 hO (by have:=hw3.len; omega) i (by omega) e.other).mono ?_
   rintro x H4 ⟨rfl,f4,h4⟩
   simp (disch:=omega) [e1,e3,e26,e27,e28,hlt2,wrap64]
   refine ⟨f3.trans f4,?_⟩
   rw [hrf]; unfold ownStep; rw [if_pos (by rw [hoa]; exact h5)]; exact h4
  ·simp (disch:=omega) [e1,e3,e26,e27,e28,hlt2,wrap64]
   refine ⟨f3,?_⟩
   rw [hrf]; unfold ownStep; rw [if_neg (by rw [hoa]; exact h5)]; exact h3
 ·have:i=s.owners.length:=by omega
  subst this
  change StIn H3 N _ b sg kn (dieB (dieA s e) e) _ _ _ _ _ _ at h3
  change Wf b (dieB (dieA s e) e) at hw3
  change (dieB (dieA s e) e).waits=s.waits at hww3
  obtain ⟨aw,fw,rfl,hEw⟩:=h3.waits.elems (fun _=>rfl)
  rw [hww3] at h3 hEw hO
  have hgw:=h3.g
  have hsl3:=h3.sgl.2
  simp (disch:=omega) [e1,hgw]
  have hlw:s.waits.length≤100:=by omega
  generalize hB:dieB (dieA s e) e=sB at*
  refine wp_up tok mix (by kernel_rfl) s.waits.length (fun i ρ m H4=>ρ 1=.pointer (some (ga sg 0 0))∧ρ 3=.pointer (some (ga H.next 0 0))∧ρ 48=.slice aw s.waits.length fw∧ρ 49=vi s.waits.length∧ρ 50=vi i∧m= []∧Sub H3 H4∧
   OwnL H4 H3.next (ρ 8) 3 1 encI ((s.waits.take i).filter (notOf b e))) (i0:=0) (by omega)
   ⟨by simp [e1],by simp [e3],by simp,by simp,by simp,by simp,.refl _,by simpa using OwnL.nil⟩ ?_
  rintro i ρ m H4 hi ⟨d1,d3,d48,d49,d50,rfl,hs4,hv4⟩
  have h4:=h3.sub hs4
  have hg4:=h4.g
  have he4:=(hs4.2 H.next (by omega)).trans he3
  have hn4:=hs4.1
  generalize hv8:ρ 8=v8 at hv4
  have hl8:=hv4.len
  have htl:((s.waits.take i).filter (notOf b e)).length≤100:=by
   have:=List.length_filter_le (notOf b e) (s.waits.take i)
   simp at this ⊢; omega
  simp [d49,d50]
  refine wpB_dec (fun hlt2=>?_) (fun hge2=>?_)
  ·have hltI:(i:Int)<s.waits.length:=by omega
   obtain ⟨a2,rfl,hab,hrd⟩:=(h4.waits.elems' (fun _=>rfl)).at i (by rw [hww3]; omega)
   obtain ⟨w,hW⟩:∃w,s.waits[i]=w:=⟨_,rfl⟩
   have hwi:sB.waits[i]'(by rw [hww3]; exact hlt2)=w:=by rw [←hW]; congr 1
   rw [hwi] at hrd
   have hwr:=hw.w w (hW▸List.getElem_mem hlt2)
   obtain ⟨a3,rfl,hbb,hrb⟩:=h4.book.events.at w.toNat (by omega)
   have hev:evAt b w=b.events[w.toNat]'(by omega):=getD_at (by omega)
   have htk:s.waits.take (i+1)=s.waits.take i++ [w]:=by rw [←hW]; exact List.take_succ_eq_append_getElem hlt2
   simp (disch:=omega) [d1,d3,d48,d50,hrd,he4,hg4,hrb]
   refine wpB_bool (fun h5=>?_) (fun h5=>?_)<;>(try simp only [Bool.not_eq_true',Bool.not_eq_false',decide_eq_true_eq,decide_eq_false_iff_not] at h5)
   ·obtain ⟨v8',H5,happ,ho5,hn5,hf5,hb5⟩:=(hv4.push (.arr { cells:= [vi w],ty:=3 })).app (by simp) (by simp) (by decide) w (by simp; omega)
    simp only [encI] at happ
    generalize hF:((s.waits.take i).filter (notOf b e))=F at*
    have d8:8*(1+F.length)≤1000000:=by omega
    have d9:1+F.length≤1000000:=by omega
    obtain ⟨a8,f8,rfl⟩:=ho5.slice
    simp (disch:=omega) [d1,d3,d48,d49,d50,hv8,hl8,d8,d9,happ,hlt2,wrap64]
    simp only [GH.next_push] at hn5
    refine ⟨⟨by omega,fun g hg=>?_⟩,?_⟩
    ·rw [hf5 g (by simp; omega) (fun hc=>by have:=(hv4.blk_lt hc).1; omega),GH.get_push_lt _ _ (by omega),hs4.2 g hg]
    ·rw [htk,List.filter_append,hF]
     have: [w].filter (notOf b e)= [w]:=by simp [notOf,hev,h5]
     rw [this]
     simpa using ho5
   ·simp (disch:=omega) [d1,d3,d48,d49,d50,hlt2,wrap64]
    refine ⟨hs4,?_⟩
    rw [htk,List.filter_append]
    have: [w].filter (notOf b e)= []:=by simp [notOf,hev,h5]
    rw [this,List.append_nil,hv8]; exact hv4
  ·have:i=s.waits.length:=by omega
   subst this
   rw [List.take_length] at hv4
   have hS5:=h3.upd_waits hs4.1 (hv4.weaken (by have:=h3.sgl; omega)) (fun k hk _=>hs4.2 k hk) (fun k hk=>.inr (hv4.blk_lt hk).1)
   have hC:({ sB with waits:=s.waits.filter (notOf b e) }:Stand)=dieC b sB e:=by simp only [dieC,hww3]
   rw [hC] at hS5
   obtain ⟨O5,f5,h5⟩:=StandIn.of h3 hO hS5 (by simp; omega) (fun k hk ho=>by
    rw [hO] at ho
    rw [GH.get_put_ne _ _ (fun hc=>ho (.inl hc)),hs4.2 k hk])
    (fun k hk=>.inl hk) (fun k hk=>.inl hk) (fun k hk=>.inl hk) (fun k hk=>.inl hk) (fun k hk=>.inr (hv4.blk_lt hk).1) (fun k hk=>.inl hk)
   have hwC:=dieC_wf hw3 e
   obtain ⟨a8,f8,rfl⟩:=hv4.slice
   obtain ⟨ag,fg,rfl,hEg⟩:=hS5.grants.elems (fun _=>rfl)
   have hgC:=hS5.g
   have hslC:=hS5.sgl.2
   have hglC:(dieC b sB e).grants.length=sB.grants.length:=rfl
   simp only [bookC,List.cons_append,List.nil_append] at hgC hslC hS5 f5 h5
   simp (disch:=omega) [d1,hg4,hv8]
   generalize hHC:H4.put sg _=HC at f5 h5 ⊢
   generalize hsC:dieC b sB e=sC at*
   have hC100:sC.grants.length≤100:=by have:=hwC.len; omega
   refine wp_up tok mix (by kernel_rfl) sC.grants.length (fun i ρ m H6=>ρ 1=.pointer (some (ga sg 0 0))∧ρ 3=.pointer (some (ga H.next 0 0))∧ρ 80=vi sC.grants.length∧ρ 81=vi i∧m= []∧
    ∃O6,Frm O O6 H1 H6∧StandIn H6 N ⟨⟨⟨ra,rf⟩⟩,⟨oa,of'⟩,⟨va',vf'⟩⟩ b sg kn ((List.range i).foldl (endStep b e) sC) O6∧Wf b ((List.range i).foldl (endStep b e) sC)∧sC.grants.length≤((List.range i).foldl (endStep b e) sC).grants.length) (i0:=0) (by omega)
    ⟨by simp [d1],by simp [d3],by simp,by simp,by simp,O5,f3.trans f5,h5,hwC,Nat.le_refl _⟩ ?_
   rintro i ρ m H6 hi ⟨c1,c3,c80,c81,rfl,O6,f6,h6,hw6,hl6⟩
   have he6:=(f6.keep H.next (by omega) (fun hc=>by have:=hOl _ hc; omega)).trans hge
   simp [c80,c81]
   refine wpB_dec (fun hlt3=>?_) (fun hge3=>?_)
   ·have hrf:=range_fold (endStep b e) sC i
    generalize hcur:(List.range i).foldl (endStep b e) sC=c at*
    have hil:i<c.grants.length:=by omega
    obtain ⟨hwn,hln⟩:=endStep_ok (e:=e) hw6 hil
    rw [←hrf] at hwn hln
    have hga:gAt c i=c.grants[i]:=getD_at hil
    obtain ⟨_,_,vg6,_,_,_,h6',hO6⟩:=h6
    have hg6:=h6'.g
    have hsl6:=h6'.sgl.2
    obtain ⟨a6,q6,rfl,hE6⟩:=h6'.grants.elems (fun _=>rfl)
    obtain ⟨a6,rfl,hab6,hrd6⟩:=hE6.at i hil
    have hilI:(i:Int)<c.grants.length:=by omega
    simp (disch:=omega) [c1,c81,hg6,hrd6]
    generalize hH7:GH.put _ _ _=H7
    have hs7:Sub H6 H7:=by subst hH7; exact (Sub.push (.refl H6) _).put (Nat.le_refl _) _
    have hb7:H7.get H6.next=some (.arr { cells:=encSt c.grants[i],ty:=45 }):=by subst hH7; simp
    have hn6:=f6.next
    have he7:=(hs7.2 H.next (by omega)).trans he6
    have hl7:H6.next<H7.next:=by subst hH7; simp
    clear hH7
    have h6s:StandIn H6 N ⟨⟨⟨ra,rf⟩⟩,⟨oa,of'⟩,⟨va',vf'⟩⟩ b sg kn c O6:=⟨_,_,_,_,_,_,h6',hO6⟩
    obtain ⟨h7,f7⟩:=h6s.sub hs7
    have f7:Frm O O6 H1 H7:=f6.trans f7
    refine contG_bool (fun h8=>?_) (fun h8=>?_)<;>(try simp only [decide_eq_true_eq,decide_eq_false_iff_not] at h8)
    ·simp (disch:=omega) [c3,hb7,he7,h8]
     refine wpB_dec (fun h9=>?_) (fun h9=>?_)
     ·simp (disch:=omega) [c1,c3,he7]
      refine (ends_con h7 hw6 i hil (by rw [h8]; decide) e.day).mono ?_
      rintro x H8 ⟨rfl,O8,f8',h8'⟩
      have hcs:endStep b e c i=endS b c i e.day:=by unfold endStep; rw [if_pos ⟨by rw [hga]; exact h8,by rw [hga]; exact h9⟩]
      rw [hcs] at hrf
      rw [←hrf] at h8'
      simp (disch:=omega) [c1,c3,c80,c81,wrap64]
      exact ⟨hlt3,O8,f7.trans f8',h8',hwn,by omega⟩
     ·have hcs:endStep b e c i=c:=by unfold endStep; rw [if_neg (fun hc=>h9 (by rw [←hga]; exact hc.2))]
      rw [hcs] at hrf
      rw [←hrf] at h7
      simp (disch:=omega) [c1,c3,c80,c81,wrap64]
      exact ⟨hlt3,O6,f7,h7,hwn,by omega⟩
    ·have hcs:endStep b e c i=c:=by unfold endStep; rw [if_neg (fun hc=>h8 (by rw [←hga]; exact hc.1))]
     rw [hcs] at hrf
     rw [←hrf] at h7
     simp (disch:=omega) [c1,c3,c80,c81,wrap64,h8]
     exact ⟨hlt3,O6,f7,h7,hwn,by omega⟩
   ·have:i=sC.grants.length:=by omega
    subst this
    change StandIn H6 N _ b sg kn (dieD b sC e) O6 at h6
    change Wf b (dieD b sC e) at hw6
    generalize hsD:dieD b sC e=sD at*
    have hD100:sD.grants.length≤100:=by have:=hw6.len; omega
    have hO6l:=fun g ho=>(h6.lt g ho).2
    obtain ⟨vl6,vo6,vg6,va6,vw6,vf6,h6',hO6⟩:=h6
    have hg6:=h6'.g
    have hsl6:=h6'.sgl.2
    have hlD:=hw6.last
    obtain ⟨a6,q6,rfl,hE6⟩:=h6'.grants.elems (fun _=>rfl)
    obtain ⟨aa6,qa6,rfl,hEa6⟩:=h6'.last.elems (fun _=>rfl)
    simp [c1,hg6]
    refine wp_up tok mix (by kernel_rfl) sD.grants.length (fun i ρ m H7=>ρ 1=.pointer (some (ga sg 0 0))∧ρ 3=.pointer (some (ga H.next 0 0))∧ρ 112=.slice a6 sD.grants.length q6∧ρ 113=vi sD.grants.length∧ρ 114=vi i∧m= []∧
     Frm O6 O6 H6 H7∧StIn H7 N ⟨⟨⟨ra,rf⟩⟩,⟨oa,of'⟩,⟨va',vf'⟩⟩ b sg kn ((List.range i).foldl (heirStep b e) sD) vl6 vo6 (.slice a6 sD.grants.length q6) (.slice aa6 sD.last.length qa6) vw6 vf6∧((List.range i).foldl (heirStep b e) sD).grants.length=sD.grants.length∧((List.range i).foldl (heirStep b e) sD).last.length=sD.last.length) (i0:=0) (by omega)
     ⟨by simp [c1],by simp [c3],by simp,by simp,by simp,by simp,Frm.refl hO6l,h6',rfl,rfl⟩ ?_
    rintro i ρ m H7 hi ⟨b1,b3,b112,b113,b114,rfl,f7,h7,hgl7,hll7⟩
    have f17:=f6.trans f7
    have he7:=(f17.keep H.next (by omega) (fun hc=>by have:=hOl _ hc; omega)).trans hge
    simp [b113,b114]
    refine wpB_dec (fun hlt3=>?_) (fun hge3=>?_)
    ·have hrf:=range_fold (heirStep b e) sD i
     generalize hcur:(List.range i).foldl (heirStep b e) sD=c at*
     have hil:i<c.grants.length:=by omega
     have hga:gAt c i=c.grants[i]:=getD_at hil
     have hg7:=h7.g
     have hsl7:=h7.sgl.2
     obtain ⟨a7,ha7,hab7,hrd7⟩:=(h7.grants.elems' (fun _=>rfl)).at i hil
     subst ha7
     have hilI:(i:Int)<sD.grants.length:=by omega
     simp (disch:=omega) [b112,b114,hrd7]
     have hO7l:=f7.lt
     have f1h:=f1
     generalize hH8:GH.put _ _ _=H8
     have hs8:Sub H7 H8:=by subst hH8; exact (Sub.push (.refl H7) _).put (Nat.le_refl _) _
     have hb8:H8.get H7.next=some (.arr { cells:=encSt c.grants[i],ty:=45 }):=by subst hH8; simp
     have hn7:=f17.next
     have he8:=(hs8.2 H.next (by omega)).trans he7
     have hl8':H7.next<H8.next:=by subst hH8; simp
     clear hH8
     have h8:=h7.sub hs8
     have f8:Frm O6 O6 H6 H8:=f7.trans (Frm.of_sub hO7l hs8)
     have hskip:¬((gAt c i).is=1∧(gAt c i).estate<0∧(gAt c i).person=e.person)→heirStep b e c i=c:=fun hc=>by unfold heirStep; rw [if_neg hc]
     refine contG_bool (fun k1=>?_) (fun k1=>?_)<;>(try simp only [decide_eq_true_eq,decide_eq_false_iff_not] at k1)
     ·simp (disch:=omega) [hb8,k1]
      refine contG_bool (fun k2=>?_) (fun k2=>?_)<;>(try simp only [decide_eq_true_eq,decide_eq_false_iff_not] at k2)
      ·simp (disch:=omega) [b3,hb8,he8,k1,k2]
       refine wpB_dec (fun k3=>?_) (fun k3=>?_)
       ·have hst:heirStep b e c i= { c with grants:=c.grants.set i { c.grants[i] with is:=2,person:=e.other },last:=c.last.set i (IntKind.i64.wrap (e.day+b.term)) }:=by
         unfold heirStep; rw [if_pos (by rw [hga]; exact ⟨k1,k2,k3⟩),hga]
        have hbk8:=h8.grants.blk_some
        obtain ⟨aa7,haa,_,_⟩:=(h8.last.elems' (fun _=>rfl)).at i (by omega)
        subst haa
        have hbka:=h8.last.blk_some
        have hg8:=h8.g
        obtain ⟨Ha,hwa,hoa,hna,hsa⟩:=h8.grants.wr (fun _=>rfl) (i:=i) (k:=0) hil (c:=vi 2) (new:= []) (by simp) (y:= { c.grants[i] with is:=2 }) (by simp [splice])
        obtain ⟨Hb,hwb,hob,hnb,hsb⟩:=hoa.wr (fun _=>rfl) (i:=i) (k:=1) (by simpa using hil) (c:=vi e.other) (new:= []) (by simp) (y:= { c.grants[i] with is:=2,person:=e.other }) (by simp [splice])
        simp only [List.set_set] at hob
        have hne1:a7.block≠sg:=fun hc=>h8.sg_ne h8.grants (by decide) (by rw [hbk8,hc])
        have hOg:O6 a7.block:=(hO6 _).2 (.inr (.inr (.inr (.inr (.inl hbk8)))))
        have hOa:O6 aa7.block:=(hO6 _).2 (.inr (.inr (.inr (.inr (.inr (.inl hbka))))))
        have hSb:=h8.wr_grants (H1:=Hb) (by omega) hob (fun k hk hne=>by
         have hka:k≠a7.block:=fun hc=>hne (by rw [hbk8,hc])
         rw [hsb k hka,hsa k hka])
        obtain ⟨Hc,hwc,hoc,hnc,hsc⟩:=hSb.last.wr (fun _=>rfl) (i:=i) (k:=0) (by simp; omega) (c:=vi (IntKind.i64.wrap (e.day+b.term))) (new:= []) (by simp) (y:=IntKind.i64.wrap (e.day+b.term)) (by simp [splice])
        have hSc:=hSb.wr_last (H1:=Hc) (by omega) hoc (fun k hk hne=>hsc k fun hc=>hne (by rw [hbka,hc]))
        have f9:Frm O6 O6 H8 Ha:=Frm.wr f8.lt hOg hna hsa
        have f10:Frm O6 O6 Ha Hb:=Frm.wr f9.lt hOg hnb hsb
        have f11:Frm O6 O6 Hb Hc:=Frm.wr f10.lt hOa hnc hsc
        have hnO:¬O6 H.next:=fun hc=>by
         rcases f6.own _ hc with h|h
         ·have:=hOl _ h; omega
         ·omega
        have hea:Ha.get H.next=_:=((Frm.wr f8.lt hOg hna hsa).keep H.next (by omega) hnO).trans he8
        have heb:Hb.get H.next=_:=(f10.keep H.next (by omega) hnO).trans hea
        have hga8:Ha.get sg=_:=(hsa sg (Ne.symm hne1)).trans hg8
        have hgb8:Hb.get sg=_:=(hsb sg (Ne.symm hne1)).trans hga8
        have hilL:(i:Int)<sD.last.length:=by omega
        simp (disch:=omega) [b1,b3,hg8,he8,hwa,hwb,hgb8,heb,hea,hwc,b112,b113,b114,wrap64]
        refine ⟨hlt3,f8.trans (f9.trans (f10.trans f11)),?_,?_,?_⟩
        ·rw [hrf,hst]; exact hSc
        ·rw [hrf,hst]; simpa using hgl7
        ·rw [hrf,hst]; simpa using hll7
       ·rw [hskip (fun hc=>k3 (by rw [←hga]; exact hc.2.2))] at hrf
        simp (disch:=omega) [b1,b3,b112,b113,b114,wrap64]
        exact ⟨hlt3,f8,by rw [hrf]; exact h8,by rw [hrf]; exact hgl7,by rw [hrf]; exact hll7⟩
      ·rw [hskip (fun hc=>k2 (by rw [←hga]; exact hc.2.1))] at hrf
       simp (disch:=omega) [b1,b3,b112,b113,b114,wrap64,k2]
       exact ⟨hlt3,f8,by rw [hrf]; exact h8,by rw [hrf]; exact hgl7,by rw [hrf]; exact hll7⟩
     ·rw [hskip (fun hc=>k1 (by rw [←hga]; exact hc.1))] at hrf
      simp (disch:=omega) [b1,b3,b112,b113,b114,wrap64,k1]
      exact ⟨hlt3,f8,by rw [hrf]; exact h8,by rw [hrf]; exact hgl7,by rw [hrf]; exact hll7⟩
    ·have:i=sD.grants.length:=by omega
     subst this
     simp
     exact ⟨O6,f1.trans (f6.trans f7),by
      have hS:dieS b s e=(List.range sD.grants.length).foldl (heirStep b e) sD:=by unfold dieS; rw [hB,hsC,hsD]; rfl
      rw [hS]; exact ⟨_,_,_,_,_,_,h7,hO6⟩⟩
end
end Go.Gm.Tryz
end
section
namespace Go.Gm.Tryz
open Go.Proofs
def start (b:Book):Stand:=⟨List.replicate b.persons.toNat true,b.owners,[],[],[],[]⟩
theorem begin_con {H:GH} {l:BLoc} {b:Book} (hb:BookIn H l b) (hp:0≤b.persons∧b.persons≤100) (ho:b.owners.length≤100):
  GCall Tryz.prog 94 [bookV l b] H fun x H'=>∃sg kn O,x=.ret (.pointer (some (ga sg 0 0)))∧H.next≤H'.next∧(∀g,g<H.next→H'.get g=H.get g)∧StandIn H' H.next l b sg kn (start b) O:=by
 rcases l with ⟨⟨⟨ra,rf⟩⟩,⟨oa,of'⟩,⟨va',vf'⟩⟩
 refine gcall_wp tok mix fok94 (F:=g94) (c:=_) rfl (n:=26) rfl (rs:= [.tmp 2]) rfl ?_
 simp
 generalize hH2:GH.push (GH.push _ _) _=H2
 have hs2:Sub H H2:=by subst hH2; exact (Sub.push (.refl H) _).push _
 have hb2:H2.get H.next=some (.arr { cells:= [.slice ra b.tbl.rows.length rf,vi b.tbl.draw,vi b.supply,vi b.term,vi b.persons,.slice oa b.owners.length of',.slice va' b.events.length vf'],ty:=28 }):=by
  subst hH2; rw [GH.get_push_lt _ _ (by simp)]; simp
 have hk2:H2.get (H.next+1)=some (.map [] 0):=by subst hH2; simp
 have hn2:H2.next=H.next+2:=by subst hH2; simp
 clear hH2
 refine (cloneI_con b.owners (by omega) oa of' H2 (hb.owners.mono hs2)).mono ?_
 rintro x H3 ⟨v,rfl,hs3,hv3⟩
 have hb3:=(hs3.2 H.next (by omega)).trans hb2
 have hk3:=(hs3.2 (H.next+1) (by omega)).trans hk2
 have hn3:=hs3.1
 obtain ⟨av,fv,rfl⟩:=hv3.slice
 obtain ⟨P,hP⟩:∃P:Nat,b.persons=P:=⟨b.persons.toNat,by omega⟩
 simp (disch:=omega) [hb3]
 generalize hH4:GH.push H3 _=H4
 have hs4:Sub H3 H4:=by subst hH4; exact Sub.push (.refl H3) _
 have hn4:H4.next=H3.next+1:=by subst hH4; simp
 have hS4:StandIn H4 H.next ⟨⟨⟨ra,rf⟩⟩,⟨oa,of'⟩,⟨va',vf'⟩⟩ b H3.next (H.next+1) ⟨[],b.owners,[],[],[],[]⟩ (fun g=>g=H3.next∨g=H.next+1∨blkOf (.slice none 0 0)=some g∨blkOf (.slice av b.owners.length fv)=some g∨blkOf (.slice none 0 0)=some g∨blkOf (.slice none 0 0)=some g∨blkOf (.slice none 0 0)=some g∨blkOf (.slice none 0 0)=some g):=by
  refine ⟨_,_,_,_,_,_,⟨?_,⟨by omega,by omega⟩,?_,?_,?_,?_,⟨[],0,(hs4.2 _ (by omega)).trans hk3,by intro e he; cases he⟩,⟨by omega,by omega⟩,.nil,(hv3.sub hs4).weaken (by omega),.nil,.nil,.nil,.nil,?_,?_,?_⟩,fun g=>Iff.rfl⟩
  ·subst hH4; simp
  ·have hsub:=hs2.trans (hs3.trans hs4)
   exact ⟨hb.t.mono hsub,hb.owners.mono hsub,hb.events.mono hsub⟩
  ·exact fun a ha=>(hb.t.ok a ha).1
  ·exact fun a ha=>(hb.owners.ok a ha).1
  ·exact fun a ha=>(hb.events.ok a ha).1
  ·intro k _ h; simp at h
  ·intro k _ h; simp at h
  ·intro k _ h; simp at h
 clear hH4
 refine wp_up tok mix (by kernel_rfl) P (fun i ρ m H5=>ρ 3=.pointer (some (ga H3.next 0 0))∧ρ 12=vi b.persons∧ρ 13=vi i∧m= []∧Sub H H5∧
  ∃O5,StandIn H5 H.next ⟨⟨⟨ra,rf⟩⟩,⟨oa,of'⟩,⟨va',vf'⟩⟩ b H3.next (H.next+1) ⟨List.replicate i true,b.owners,[],[],[],[]⟩ O5) (i0:=0) (by omega)
  ⟨by simp,by simp,by simp,by simp,hs2.trans (hs3.trans hs4),_,hS4⟩ ?_
 rintro i ρ m H5 hi ⟨e3,e12,e13,rfl,hs5,O5,h5⟩
 rw [hP] at e12
 simp [e12,e13]
 refine wpB_dec (fun hlt=>?_) (fun hge=>?_)
 ·obtain ⟨vl,vo,vg,va,vw,vf,h5',hO⟩:=h5
  have hg5:=h5'.g
  have hsl5:=h5'.sgl.2
  have hlv:=h5'.lives.len
  simp only [List.length_replicate] at hlv
  obtain ⟨vl',H6,happ,ho6,hn6,hf6,hb6⟩:=(h5'.lives.push (.arr { cells:= [.bool true],ty:=4 })).app (by simp) (by simp) (by decide) true (by have:=h5'.sgl; simp; omega)
  simp only [encB] at happ
  have d8:1*(1+i)≤1000000:=by omega
  have d9:1+i≤1000000:=by omega
  have hg6:=(hf6 H3.next (by simp; omega) (h5'.sg_ne h5'.lives (by decide))).trans ((GH.get_push_lt _ _ hsl5).trans hg5)
  simp only [GH.next_push] at hn6
  obtain ⟨al,fl,rfl⟩:=ho6.slice
  simp (disch:=omega) [e3,e12,e13,hg5,hlv,d9,happ,hg6,wrap64,hlt]
  have hS6:=h5'.upd_lives (by omega) ho6 (fun k hk hne=>by rw [hf6 k (by simp; omega) hne,GH.get_push_lt _ _ hk]) (fun k hk=>(hb6 k hk).imp id fun h=>by simp at h; omega)
  simp only [bookC,List.cons_append,List.nil_append,List.length_append,List.length_cons,List.length_nil,Nat.zero_add,List.length_replicate] at hS6 hb6
  obtain ⟨O6,f6,h6⟩:=StandIn.of h5' hO hS6 (by simp; omega) (fun k hk ho=>by
   rw [hO] at ho
   rw [GH.get_put_ne _ _ (fun hc=>ho (.inl hc)),hf6 k (by simp; omega) (fun hc=>ho (.inr (.inr (.inl hc)))),GH.get_push_lt _ _ (by omega)])
   (fun k hk=>(hb6 k hk).imp id fun h=>by simp at h; omega) (fun k hk=>.inl hk) (fun k hk=>.inl hk) (fun k hk=>.inl hk) (fun k hk=>.inl hk) (fun k hk=>.inl hk)
  have hrep:List.replicate i true++ [true]=List.replicate (i+1) true:=by rw [List.replicate_succ']
  rw [hrep] at h6
  refine ⟨hP.symm,⟨Nat.le_trans hs5.1 f6.next,fun g hg=>?_⟩,O6,h6⟩
  rw [f6.keep g (Nat.lt_of_lt_of_le hg hs5.1) (fun hc=>by have:=(h5'.own_lt ((hO g).1 hc)).1; omega),hs5.2 g hg]
 ·have:i=P:=by omega
  subst this
  simp [e3]
  refine ⟨H3.next,rfl,hs5.1,hs5.2,H.next+1,O5,?_⟩
  unfold start
  rw [hP]
  simpa using h5
end Go.Gm.Tryz
end
section
namespace Go.Gm.Tryz
open Go.Proofs
def hapTy (k:Int):Nat:=if k=1 then 186 else if k=2 then 187 else if k=3 then 188 else if k=4 then 189 else if k=5 then 190 else if k=6 then 191 else if k=7 then 192 else 193
theorem happening_con (e:Ev) (H:GH):GCall Tryz.prog 96 [evV e] H fun x H'=>x=.ret (.iface (hapTy e.kind) (evV e))∧Sub H H':=by
 refine gcall_wp tok mix fok96 (F:=g96) (c:=_) rfl (n:=43) rfl (rs:= [.tmp 2]) rfl ?_
 simp
 repeat' (first
  |(refine wpB_dec (fun h=>?_) (fun h=>?_)<;>simp [*,hapTy]))
end Go.Gm.Tryz
end
section
namespace Go.Gm.Tryz
open Go.Proofs
def size (s:Stand):Nat:=s.grants.length+s.waits.length
structure Sh (k j:Nat) (s s':Stand):Prop where
 size:size s'≤size s+k
 own:s'.owners.length≤s.owners.length+j
 liv:s'.lives.length=s.lives.length
theorem Sh.refl (s:Stand):Sh 0 0 s s:=⟨Nat.le_refl _,Nat.le_refl _,rfl⟩
theorem Sh.trans {k j k' j':Nat} {a b c:Stand} (x:Sh k j a b) (y:Sh k' j' b c):Sh (k+k') (j+j') a c:=
 ⟨by have:=x.size; have:=y.size; omega,by have:=x.own; have:=y.own; omega,y.liv.trans x.liv⟩
theorem Sh.t0 {k j:Nat} {a b c:Stand} (x:Sh k j a b) (y:Sh 0 0 b c):Sh k j a c:=x.trans y
theorem Sh.t0' {k j:Nat} {a b c:Stand} (x:Sh 0 0 a b) (y:Sh k j b c):Sh k j a c:=by have:=x.trans y; simpa using this
theorem serveS_sh {b:Book}:∀ {n:Nat} {s:Stand},Sh 0 0 s (serveS b n s):=by
 intro n
 induction n with
 |zero=>intro s; exact .refl _
 |succ n ih=>
  intro s
  simp only [serveS]
  cases hws:s.waits with
  |nil=>exact .refl _
  |cons w ws=>
   simp only
   split
   ·exact .refl _
   ·refine Sh.t0' ?_ ih
    refine ⟨?_,Nat.le_refl _,rfl⟩
    simp [size,addG,hws]; omega
theorem serve_sh (b:Book) (s:Stand):Sh 0 0 s (serve b s):=serveS_sh
theorem endS_sh (b:Book) (s:Stand) (g:Nat) (d:Int):Sh 0 0 s (endS b s g d):=by
 refine Sh.t0' ?_ (serve_sh b _)
 exact ⟨by simp [size,endG],Nat.le_refl _,rfl⟩
theorem passS_sh {b:Book} {d:Int}:∀ {n:Nat} {s:Stand},Sh 0 0 s (passS b d n s):=by
 intro n
 induction n with
 |zero=>intro s; exact .refl _
 |succ n ih=>
  intro s
  simp only [passS]
  split
  ·exact .refl _
  ·exact (endS_sh ..).t0' ih
theorem pass_sh (b:Book) (s:Stand) (d:Int):Sh 0 0 s (pass b s d):=passS_sh
theorem addG_sh (s:Stand) (p e sy u:Int):Sh 1 0 s (addG s p e sy u):=⟨by simp [size,addG]; omega,Nat.le_refl _,rfl⟩
theorem addG_wf {b:Book} {s:Stand} (h:Wf b s) (hs:size s<100) (p e sy u:Int):Wf b (addG s p e sy u):=by
 refine ⟨h.w,?_,?_,h.own,h.ev,?_⟩
 ·simp only [size] at hs; simp [addG]; omega
 ·have:=h.last; simp [addG]; omega
 ·have:=h.fe; simpa [addG] using this
theorem ownS_sh (s:Stand) (n:Nat) (p:Int):Sh 0 0 s (ownS s n p):=⟨by simp [size,ownS],by simp [ownS],rfl⟩
theorem set_fe {l:List GSt} {i:Nat} {y:GSt} (hi:i<l.length) (h:y.is=l[i].is):(l.set i y).countP (fun x=>decide (x.is=3))=l.countP (fun x=>decide (x.is=3)):=by
 have h2:=countP_set (p:=fun x:GSt=>decide (x.is=3)) (y:=y) hi
 rw [h] at h2; omega
theorem divideS_sh (s:Stand) (e:Ev):Sh 1 1 s (divideS s e):=⟨by simp [size,divideS,addG]; omega,by simp [divideS,addG],rfl⟩
theorem divideS_wf {b:Book} {s:Stand} (h:Wf b s) (hs:size s<100) (ho:s.owners.length<100) (e:Ev) (he:e.grant.toNat<s.grants.length):Wf b (divideS s e):=by
 unfold divideS
 refine addG_wf ?_ (by simpa [size] using hs) _ _ _ _
 refine ⟨h.w,by have:=h.len; simpa using this,by have:=h.last; simpa using this,by simp; omega,h.ev,?_⟩
 have hg:s.grants.getD e.grant.toNat default=s.grants[e.grant.toNat]:=getD_at he
 have:=h.fe
 simp only [hg]
 refine Nat.le_trans this (Nat.le_of_eq (set_fe he ?_).symm)
 rfl
theorem renewS_sh (s:Stand) (e:Ev):Sh 0 0 s (renewS s e):=⟨by simp [size,renewS],Nat.le_refl _,rfl⟩
theorem renewS_wf {b:Book} {s:Stand} (h:Wf b s) (e:Ev) (he:e.grant.toNat<s.grants.length) (h2:(s.grants[e.grant.toNat]).is=2):Wf b (renewS s e):=by
 refine ⟨h.w,by have:=h.len; simpa [renewS] using this,by have:=h.last; simpa [renewS] using this,h.own,h.ev,?_⟩
 have h3:=countP_set (p:=fun x:GSt=>decide (x.is=3)) (y:= { s.grants[e.grant.toNat] with is:=1 }) he
 have hg:s.grants.getD e.grant.toNat default=s.grants[e.grant.toNat]:=getD_at he
 have:=h.fe
 simp [h2] at h3
 simp only [renewS,hg]
 omega
theorem joinS_sh (s:Stand) (e:Ev):Sh 0 0 s (joinS s e):=⟨by simp [size,joinS],by simp [joinS],rfl⟩
theorem joinS_wf {b:Book} {s:Stand} (h:Wf b s) (e:Ev):Wf b (joinS s e):=by
 refine ⟨h.w,by simpa [joinS] using h.len,by simpa [joinS] using h.last,by simpa [joinS] using h.own,h.ev,?_⟩
 have h1:=h.fe
 simp only [joinS]
 rw [List.countP_map]
 refine Nat.le_trans h1 (Nat.le_of_eq ?_)
 congr 1
 funext x
 simp only [Function.comp,joinF]
 split<;>rfl
theorem askS_sh (s:Stand) (n:Int):Sh 1 0 s (askS s n):=⟨by simp [size,askS]; omega,Nat.le_refl _,rfl⟩
theorem askS_wf {b:Book} {s:Stand} (h:Wf b s) (hs:size s<100) {n:Nat} (hn:n<b.events.length):Wf b (askS s n):=by
 refine ⟨fun m hm=>?_,by simp only [size] at hs; simp [askS]; omega,h.last,h.own,h.ev,h.fe⟩
 rcases List.mem_append.1 hm with hm|hm
 ·exact h.w m hm
 ·simp at hm; omega
theorem ownFold_sh (e:Ev) (s:Stand) (i:Nat):Sh 0 0 s ((List.range i).foldl (ownStep e) s):=by
 induction i with
 |zero=>exact .refl _
 |succ i ih=>
  rw [range_fold]
  refine ih.t0 ?_
  unfold ownStep
  split
  ·exact ownS_sh ..
  ·exact .refl _
theorem endFold_sh (b:Book) (e:Ev) (s:Stand) (i:Nat):Sh 0 0 s ((List.range i).foldl (endStep b e) s):=by
 induction i with
 |zero=>exact .refl _
 |succ i ih=>
  rw [range_fold]
  refine ih.t0 ?_
  unfold endStep
  split
  ·exact endS_sh ..
  ·exact .refl _
theorem endFold_wf {b:Book} {e:Ev} {s:Stand} (h:Wf b s) {i:Nat} (hi:i≤s.grants.length):Wf b ((List.range i).foldl (endStep b e) s)∧s.grants.length≤((List.range i).foldl (endStep b e) s).grants.length:=by
 induction i with
 |zero=>exact ⟨h,Nat.le_refl _⟩
 |succ i ih=>
  obtain ⟨h1,h2⟩:=ih (by omega)
  rw [range_fold]
  obtain ⟨h3,h4⟩:=endStep_ok (e:=e) h1 (i:=i) (by omega)
  exact ⟨h3,Nat.le_trans h2 h4⟩
theorem heirStep_ok {b:Book} {e:Ev} {s:Stand} (h:Wf b s) {i:Nat} (hi:i<s.grants.length):Wf b (heirStep b e s i)∧Sh 0 0 s (heirStep b e s i)∧(heirStep b e s i).grants.length=s.grants.length:=by
 unfold heirStep
 split
 ·rename_i hc
  refine ⟨⟨h.w,by have:=h.len; simpa using this,by have:=h.last; simpa using this,h.own,h.ev,?_⟩,⟨by simp [size],Nat.le_refl _,rfl⟩,by simp⟩
  have hg:gAt s i=s.grants[i]:=getD_at hi
  rw [hg] at hc ⊢
  have h3:=countP_set (p:=fun x:GSt=>decide (x.is=3)) (y:= { s.grants[i] with is:=2,person:=e.other }) hi
  have:=h.fe
  simp [hc.1] at h3
  rw [←h3] at this
  exact this
 ·exact ⟨h,.refl _,rfl⟩
theorem heirFold_ok {b:Book} {e:Ev} {s:Stand} (h:Wf b s) {i:Nat} (hi:i≤s.grants.length):Wf b ((List.range i).foldl (heirStep b e) s)∧Sh 0 0 s ((List.range i).foldl (heirStep b e) s)∧((List.range i).foldl (heirStep b e) s).grants.length=s.grants.length:=by
 induction i with
 |zero=>exact ⟨h,.refl _,rfl⟩
 |succ i ih=>
  obtain ⟨h1,h2,h2'⟩:=ih (by omega)
  rw [range_fold]
  obtain ⟨h3,h4,h5⟩:=heirStep_ok (e:=e) h1 (i:=i) (by omega)
  exact ⟨h3,h2.t0 h4,h5.trans h2'⟩
theorem dieS_ok {b:Book} {s:Stand} (h:Wf b s) (e:Ev):Wf b (dieS b s e)∧Sh 0 0 s (dieS b s e):=by
 unfold dieS
 have h1:=dieA_wf h e
 have s1:Sh 0 0 s (dieA s e):=⟨Nat.le_refl _,Nat.le_refl _,by simp [dieA]⟩
 have h2:Wf b (dieB (dieA s e) e):=(ownFold_ok (e:=e) h1 _).1
 have s2:Sh 0 0 s (dieB (dieA s e) e):=s1.t0 (ownFold_sh e _ _)
 have h3:Wf b (dieC b (dieB (dieA s e) e) e):=dieC_wf h2 e
 have s3:Sh 0 0 s (dieC b (dieB (dieA s e) e) e):=s2.t0 ⟨by
  have:=List.length_filter_le (notOf b e) (dieB (dieA s e) e).waits
  simp only [size,dieC]; omega,Nat.le_refl _,rfl⟩
 have h4:Wf b (dieD b (dieC b (dieB (dieA s e) e) e) e):=(endFold_wf (e:=e) h3 (Nat.le_refl _)).1
 have s4:Sh 0 0 s (dieD b (dieC b (dieB (dieA s e) e) e) e):=s3.t0 (endFold_sh ..)
 have h5:=heirFold_ok (e:=e) h4 (Nat.le_refl _)
 exact ⟨h5.1,s4.t0 h5.2.1⟩
end Go.Gm.Tryz
end
section
namespace Go.Gm.Tryz
open Go.Proofs
def goesB (b:Book) (s:Stand) (e:Ev):Bool:=
 if e.kind=1 then s.lives.getD e.person.toNat false&&fitsB b s e
 else if e.kind=2 then existsB s e.estate&&fitsB b s e
 else if e.kind=3 then decide (e.person≠e.other)&&(s.lives.getD e.person.toNat false&&s.lives.getD e.other.toNat false)
 else if e.kind=4 then existsB s e.estate&&(s.lives.getD e.person.toNat false&&decide (s.owners.getD e.estate.toNat 0≠e.person))
 else if e.kind=5 then divB b s e
 else if e.kind=6 then decide (e.estate≠e.other)&&(existsB s e.estate&&(existsB s e.other&&decide (s.owners.getD e.estate.toNat 0=s.owners.getD e.other.toNat 0)))
 else if e.kind=7 then decide (e.grant<s.grants.length)&&(decide ((s.grants.getD e.grant.toNat default).is=2)&&decide ((s.grants.getD e.grant.toNat default).person=e.person))
 else s.lives.getD e.person.toNat false&&decide (0≤waterI b.tbl e.system e.units)
def doS (b:Book) (s:Stand) (e:Ev) (n:Nat):Stand:=
 if e.kind=1 then giveS s e
 else if e.kind=2 then attachS s e
 else if e.kind=3 then dieS b s e
 else if e.kind=4 then ownS s e.estate.toNat e.person
 else if e.kind=5 then divideS s e
 else if e.kind=6 then joinS s e
 else if e.kind=7 then renewS s e
 else askS s n
def upFrom (b:Book) (day:Int):List Ev→Nat→Stand→Nat⊕Stand
 | [],_,s=>.inr (pass b s day)
 |e::es,n,s=>if e.day>day then .inr (pass b s day) else
  if goesB b (pass b s e.day) e then upFrom b day es (n+1) (serve b (doS b (pass b s e.day) e n)) else .inl n
def upS (b:Book) (day:Int):Nat⊕Stand:=upFrom b day b.events 0 (start b)
structure EvOk (b:Book) (s:Stand) (e:Ev):Prop where
 kind:1≤e.kind∧e.kind≤8
 person:e.kind≠2→e.kind≠6→0≤e.person∧e.person<s.lives.length
 other:e.kind=3→0≤e.other∧e.other<s.lives.length
 estate:0≤e.estate
 grant:0≤e.grant
 other0:0≤e.other
theorem isPerson_ok {b:Book} {n:Int} (h:isPersonI b n=true) (hb:1≤b.persons∧b.persons≤8):0≤n∧n<b.persons.toNat:=by
 simp (disch:=omega) only [isPersonI,inI,wrap64,decide_eq_true_eq] at h
 omega
theorem event_ok {b:Book} {s:Stand} {e:Ev} (hb:1≤b.persons∧b.persons≤8) (hl:s.lives.length=b.persons.toNat) (h:isEventB b e=true):EvOk b s e:=by
 unfold isEventB at h
 simp only [Bool.and_eq_true] at h
 obtain ⟨_,h⟩:=h
 have hp:∀ {n:Int},isPersonI b n=true→0≤n∧n<s.lives.length:=fun h=>by rw [hl]; exact isPerson_ok h hb
 by_cases k1:e.kind=1∨e.kind=8
 ·simp [k1,emptyB] at h
  have:=hp h.1.1
  exact ⟨by omega,fun _ _=>this,by omega,by omega,by omega,by omega⟩
 by_cases k2:e.kind=2
 ·simp [k2,emptyB,isEstateI,inI] at h
  exact ⟨by omega,by omega,by omega,by omega,by omega,by omega⟩
 by_cases k3:e.kind=3
 ·simp [k3,emptyB] at h
  have:=hp h.1.1
  have h2:=hp h.1.2
  exact ⟨by omega,fun _ _=>this,fun _=>h2,by omega,by omega,by omega⟩
 by_cases k4:e.kind=4
 ·simp [k4,emptyB,isEstateI,inI] at h
  have:=hp h.1.2
  exact ⟨by omega,fun _ _=>this,by omega,by omega,by omega,by omega⟩
 by_cases k5:e.kind=5
 ·simp [k5,emptyB,isGrantI,inI] at h
  have:=hp h.1.2
  exact ⟨by omega,fun _ _=>this,by omega,by omega,by omega,by omega⟩
 by_cases k6:e.kind=6
 ·simp [k6,emptyB,isEstateI,inI] at h
  exact ⟨by omega,by omega,by omega,by omega,by omega,by omega⟩
 by_cases k7:e.kind=7
 ·simp [k7,emptyB,isGrantI,inI] at h
  have:=hp h.1.2
  exact ⟨by omega,fun _ _=>this,by omega,by omega,by omega,by omega⟩
 simp [k1,k2,k3,k4,k5,k6,k7] at h
end Go.Gm.Tryz
end
section
namespace Go.Gm.Tryz
open Go.Proofs
def goesF (k:Int):FuncId:=if k=1 then 213 else if k=2 then 216 else if k=3 then 219 else if k=4 then 222 else if k=5 then 224 else if k=6 then 226 else if k=7 then 228 else 230
def doF (k:Int):FuncId:=if k=1 then 212 else if k=2 then 215 else if k=3 then 218 else if k=4 then 221 else if k=5 then 223 else if k=6 then 225 else if k=7 then 227 else 229
theorem hap_cases (k:Int):(k=1∨k=2∨k=3∨k=4∨k=5∨k=6∨k=7∨(k≠1∧k≠2∧k≠3∧k≠4∧k≠5∧k≠6∧k≠7)):=by omega
theorem iv_goes (k:Int) (v:Value) (l:List Value) (H:GH):ivR (T.get (hapTy k)) "quinaria/grant.goes" v l H=some (.enter (goesF k) (v::l) H):=by
 rcases hap_cases k with h|h|h|h|h|h|h|h<;>simp [hapTy,goesF,h]
theorem iv_do (k:Int) (v:Value) (l:List Value) (H:GH):ivR (T.get (hapTy k)) "quinaria/grant.do" v l H=some (.enter (doF k) (v::l) H):=by
 rcases hap_cases k with h|h|h|h|h|h|h|h<;>simp [hapTy,doF,h]
section
variable {H:GH} {N:Nat} {l:BLoc} {b:Book} {sg kn:Nat} {s:Stand} {O:Nat→Prop}
theorem goes_con (h:StandIn H N l b sg kn s O) (hw:Wf b s) {e:Ev} (he:EvOk b s e):Goes (goesF e.kind) H N l b sg kn s O e (goesB b s e):=by
 have hk:=he.kind
 unfold goesB goesF
 by_cases k1:e.kind=1
 ·rw [if_pos k1,if_pos k1]; exact give_goes h hw e (he.person (by omega) (by omega))
 rw [if_neg k1,if_neg k1]
 by_cases k2:e.kind=2
 ·rw [if_pos k2,if_pos k2]; exact attach_goes h hw e he.estate
 rw [if_neg k2,if_neg k2]
 by_cases k3:e.kind=3
 ·rw [if_pos k3,if_pos k3]; exact die_goes h hw e (he.person (by omega) (by omega)) (he.other k3)
 rw [if_neg k3,if_neg k3]
 by_cases k4:e.kind=4
 ·rw [if_pos k4,if_pos k4]; exact sell_goes h hw e (he.person (by omega) (by omega)) he.estate
 rw [if_neg k4,if_neg k4]
 by_cases k5:e.kind=5
 ·rw [if_pos k5,if_pos k5]; exact divide_goes h hw e (he.person (by omega) (by omega)) he.grant
 rw [if_neg k5,if_neg k5]
 by_cases k6:e.kind=6
 ·rw [if_pos k6,if_pos k6]; exact join_goes h hw e he.other0 he.estate
 rw [if_neg k6,if_neg k6]
 by_cases k7:e.kind=7
 ·rw [if_pos k7,if_pos k7]; exact renew_goes h hw e he.grant
 rw [if_neg k7,if_neg k7]
 exact ask_goes h hw e (he.person (by omega) (by omega))
theorem do_con (h:StandIn H N l b sg kn s O) (hw:Wf b s) {e:Ev} (he:EvOk b s e) (hg:goesB b s e=true) (n:Nat) (hn:n<b.events.length) (hs:size s<100) (ho:s.owners.length<100):
  Does (doF e.kind) H N l b sg kn O e n (doS b s e n)∧Wf b (doS b s e n)∧Sh 1 1 s (doS b s e n):=by
 have hk:=he.kind
 have up:∀ {k j:Nat} {s':Stand},k≤1→j≤1→Sh k j s s'→Sh 1 1 s s':=fun hk hj x=>⟨by have:=x.size; omega,by have:=x.own; omega,x.liv⟩
 unfold goesB at hg
 unfold doS doF
 by_cases k1:e.kind=1
 ·rw [if_pos k1,if_pos k1]; exact ⟨give_do h hw e n,addG_wf hw hs _ _ _ _,up (by omega) (by omega) (addG_sh ..)⟩
 rw [if_neg k1] at hg
 rw [if_neg k1,if_neg k1]
 by_cases k2:e.kind=2
 ·rw [if_pos k2] at hg
  simp only [existsB,Bool.and_eq_true,decide_eq_true_eq] at hg
  rw [if_pos k2,if_pos k2]; exact ⟨attach_do h hw e n ⟨he.estate,hg.1.1⟩,addG_wf hw hs _ _ _ _,up (by omega) (by omega) (addG_sh ..)⟩
 rw [if_neg k2] at hg
 rw [if_neg k2,if_neg k2]
 by_cases k3:e.kind=3
 ·rw [if_pos k3,if_pos k3]; have:=dieS_ok hw e; exact ⟨die_do h hw e n (he.person (by omega) (by omega)),this.1,up (by omega) (by omega) this.2⟩
 rw [if_neg k3] at hg
 rw [if_neg k3,if_neg k3]
 by_cases k4:e.kind=4
 ·rw [if_pos k4] at hg
  simp only [existsB,Bool.and_eq_true,decide_eq_true_eq] at hg
  rw [if_pos k4,if_pos k4]; exact ⟨sell_do h hw e n ⟨he.estate,hg.1.1⟩,ownS_wf hw _ _,up (by omega) (by omega) (ownS_sh ..)⟩
 rw [if_neg k4] at hg
 rw [if_neg k4,if_neg k4]
 by_cases k5:e.kind=5
 ·rw [if_pos k5] at hg
  simp only [divB,Bool.and_eq_true,decide_eq_true_eq] at hg
  have hgr:=he.grant
  rw [if_pos k5,if_pos k5]; exact ⟨divide_do h hw e n ⟨he.grant,hg.1⟩,divideS_wf hw hs ho e (by omega),up (by omega) (by omega) (divideS_sh ..)⟩
 rw [if_neg k5] at hg
 rw [if_neg k5,if_neg k5]
 by_cases k6:e.kind=6
 ·rw [if_pos k6] at hg
  simp only [existsB,Bool.and_eq_true,decide_eq_true_eq] at hg
  rw [if_pos k6,if_pos k6]; exact ⟨join_do h hw e n ⟨he.other0,hg.2.2.1.1⟩,joinS_wf hw e,up (by omega) (by omega) (joinS_sh ..)⟩
 rw [if_neg k6] at hg
 rw [if_neg k6,if_neg k6]
 by_cases k7:e.kind=7
 ·rw [if_pos k7] at hg
  simp only [Bool.and_eq_true,decide_eq_true_eq] at hg
  have hgr:=he.grant
  have hl:e.grant.toNat<s.grants.length:=by omega
  have h2:=hg.2.1
  rw [getD_at hl] at h2
  rw [if_pos k7,if_pos k7]; exact ⟨renew_do h hw e n ⟨he.grant,hg.1⟩,renewS_wf hw e hl h2,up (by omega) (by omega) (renewS_sh ..)⟩
 rw [if_neg k7,if_neg k7]
 exact ⟨ask_do h hw e n,askS_wf hw hs hn,up (by omega) (by omega) (askS_sh ..)⟩
end
end Go.Gm.Tryz
end
section
namespace Go.Gm.Tryz
open Go.Proofs
structure BookOk (b:Book):Prop where
 persons:1≤b.persons∧b.persons≤8
 owners:b.owners.length≤6
 events:b.events.length≤12
 ev:∀(i:Nat) (h:i<b.events.length),isEventB b b.events[i]=true
theorem book_ok {b:Book} (h:isBookB b=true):BookOk b:=by
 simp only [isBookB,Bool.and_eq_true,inI,decide_eq_true_eq,List.all_eq_true,List.mem_range,badAt,Bool.not_eq_true',Bool.or_eq_false_iff,Bool.not_eq_false'] at h
 refine ⟨h.1.1.1.1.2,h.1.1.1.2,h.1.1.2,fun i hi=>?_⟩
 have:=(h.1.2 i hi).1
 rwa [getD_at hi] at this
theorem start_wf {b:Book} (h:BookOk b):Wf b (start b):=by
 have h1:=h.owners
 have h2:=h.events
 exact ⟨fun n hn=>by simp [start] at hn,by simp [start],rfl,by simp [start]; omega,by omega,by simp [start]⟩
theorem up_con {H:GH} {l:BLoc} {b:Book} (hb:BookIn H l b) (hB:BookOk b) (day:Int):
  GCall Tryz.prog 53 [bookV l b,vi day] H fun x H'=>H.next≤H'.next∧(∀g,g<H.next→H'.get g=H.get g)∧match upS b day with
   | .inr s=>∃N sg kn O,H.next≤N∧x=.ret (.pointer (some (ga sg 0 0)))∧StandIn H' N l b sg kn s O∧Wf b s
   | .inl n=>x=.pan (.iface 155 (.agg #[vi n])):=by
 rcases l with ⟨⟨⟨ra,rf⟩⟩,⟨oa,of'⟩,⟨va',vf'⟩⟩
 have hp:=hB.persons
 have ho:=hB.owners
 have hv:=hB.events
 refine gcall_wp tok mix fok53 (F:=g53) (c:=_) rfl (n:=47) rfl (rs:= [.tmp 4]) rfl ?_
 simp
 generalize hH1:H.push _=H1
 have hs1:Sub H H1:=by subst hH1; exact Sub.push (.refl H) _
 have hb1:H1.get H.next=some (.arr { cells:= [.slice ra b.tbl.rows.length rf,vi b.tbl.draw,vi b.supply,vi b.term,vi b.persons,.slice oa b.owners.length of',.slice va' b.events.length vf'],ty:=28 }):=by subst hH1; simp
 have hn1:H1.next=H.next+1:=by subst hH1; simp
 clear hH1
 have hbi:BookIn H1 ⟨⟨⟨ra,rf⟩⟩,⟨oa,of'⟩,⟨va',vf'⟩⟩ b:=⟨hb.t.mono hs1,hb.owners.mono hs1,hb.events.mono hs1⟩
 refine (begin_con hbi (by omega) (by omega)).mono ?_
 rintro x H2 ⟨sg,kn,O2,rfl,hn2,hk2,h2⟩
 have hs2:Sub H1 H2:=⟨hn2,hk2⟩
 have hb2:=(hk2 H.next (by omega)).trans hb1
 simp (disch:=omega) [hb2]
 refine wp_up tok mix (by kernel_rfl) b.events.length (fun i ρ m H3=>ρ 1=vi day∧ρ 5=.pointer (some (ga sg 0 0))∧ρ 12=.slice va' b.events.length vf'∧ρ 13=vi b.events.length∧ρ 14=vi i∧m= []∧
  ∃s O3,Frm O2 O3 H2 H3∧StandIn H3 H1.next ⟨⟨⟨ra,rf⟩⟩,⟨oa,of'⟩,⟨va',vf'⟩⟩ b sg kn s O3∧Wf b s∧size s≤i∧s.owners.length≤6+i∧s.lives.length=b.persons.toNat∧upFrom b day (b.events.drop i) i s=upS b day) (i0:=0) (by omega)
  ⟨by simp,by simp,by simp,by simp,by simp,by simp,start b,O2,Frm.refl (fun g hg=>(h2.lt g hg).2),h2,start_wf hB,by simp [size,start],by simp [start]; omega,by simp [start],rfl⟩ ?_
 rintro i ρ m H3 hi ⟨e1,e5,e12,e13,e14,rfl,s,O3,f3,h3,hw3,hz,hoi,hl,hup⟩
 have hkeep:∀ {O4:Nat→Prop} {H4:GH},Frm O2 O4 H2 H4→H.next≤H4.next∧∀g,g<H.next→H4.get g=H.get g:=fun {O4 H4} f=>
  ⟨Nat.le_trans hs1.1 (Nat.le_trans hs2.1 f.next),fun g hg=>by rw [f.keep g (by omega) (fun hc=>by have:=(h2.lt g hc).1; omega),hs2.2 g (by omega),hs1.2 g hg]⟩
 simp [e13,e14]
 refine wpB_dec (fun hlt=>?_) (fun hge=>?_)
 ·obtain ⟨_,_,_,_,_,_,h3'⟩:=h3.st
  obtain ⟨a,rfl,hab,hrd⟩:=h3'.book.events.at i hlt
  have hltI:(i:Int)<b.events.length:=by omega
  rw [List.drop_eq_getElem_cons hlt,upFrom] at hup
  have hev:=event_ok (s:=pass b s b.events[i].day) hB.persons ((pass_sh b s b.events[i].day).liv.trans hl) (hB.ev i hlt)
  obtain ⟨e,hE⟩:∃e,b.events[i]=e:=⟨_,rfl⟩
  rw [hE] at hup hev hrd
  simp (disch:=omega) [e1,e12,e14,hrd]
  generalize hH4:GH.put _ _ _=H4
  have hs4:Sub H3 H4:=by subst hH4; exact (Sub.push (.refl H3) _).put (Nat.le_refl _) _
  have hb4:H4.get H3.next=some (.arr { cells:=encEv e,ty:=103 }):=by subst hH4; simp
  have hn4:H3.next<H4.next:=by subst hH4; simp
  clear hH4
  obtain ⟨h4,f4⟩:=h3.sub hs4
  have hO3:∀g,O3 g→g<H3.next:=fun g hg=>(h3.lt g hg).2
  refine wpB_dec (fun hd=>?_) (fun hd=>?_)
  ·rw [if_pos hd] at hup
   simp [e1,e5]
   refine (pass_con h4 hw3 day).mono ?_
   rintro x H5 ⟨rfl,O5,f5,h5⟩
   have:=hkeep (f3.trans (f4.trans f5))
   simp [e5,←hup]
   exact ⟨this.1,this.2,H1.next,by omega,sg,rfl,⟨_,_,h5⟩,pass_wf hw3⟩
  ·rw [if_neg hd] at hup
   simp (disch:=omega) [e5,hb4]
   refine (pass_con h4 hw3 e.day).mono ?_
   rintro x H5 ⟨rfl,O5,f5,h5⟩
   have hb5:=(f5.keep H3.next hn4 (fun hc=>by have:=hO3 _ hc; omega)).trans hb4
   have hn5:=f5.next
   have hw5:Wf b (pass b s e.day):=pass_wf hw3
   have hsh5:=pass_sh b s e.day
   simp (disch:=omega) [hb5]
   refine (happening_con e H5).mono ?_
   rintro x H6 ⟨rfl,hs6⟩
   obtain ⟨h6,f6⟩:=h5.sub hs6
   simp [e5,iv_goes]
   refine (goes_con h6 hw5 hev).mono ?_
   rintro x H7 ⟨rfl,f7,h7⟩
   have f27:=f3.trans (f4.trans (f5.trans (f6.trans f7)))
   simp
   cases hgo:goesB b (pass b s e.day) e with
   |false=>
    rw [if_neg (by rw [hgo]; decide)] at hup
    have:=hkeep f27
    simp [←hup]
    exact ⟨this.1,this.2⟩
   |true=>
    rw [if_pos hgo] at hup
    have z5:=hsh5.size
    have o5:=hsh5.own
    obtain ⟨hdo,hwd,hsd⟩:=do_con h7 hw5 hev hgo i (by omega) (by omega) (by omega)
    simp [e5,iv_do]
    refine hdo.mono ?_
    rintro x H8 ⟨rfl,O8,f8,h8⟩
    simp [e5]
    refine (serve_con h8 hwd).mono ?_
    rintro x H9 ⟨rfl,O9,f9,h9⟩
    have z9:=(hsd.t0 (serve_sh b _)).size
    have o9:=(hsd.t0 (serve_sh b _)).own
    have l9:=(hsh5.t0' (hsd.t0 (serve_sh b _))).liv
    simp (disch:=omega) [e1,e5,e12,e13,e14,wrap64]
    exact ⟨hlt,serve b (doS b (pass b s e.day) e i),O9,f27.trans (f8.trans f9),h9,serve_wf hwd,by omega,by omega,l9.trans hl,hup⟩
 ·have:i=b.events.length:=by omega
  subst this
  rw [List.drop_length,upFrom] at hup
  simp [e1,e5]
  refine (pass_con h3 hw3 day).mono ?_
  rintro x H5 ⟨rfl,O5,f5,h5⟩
  have:=hkeep (f3.trans f5)
  simp [e5,←hup]
  exact ⟨this.1,this.2,H1.next,by omega,sg,rfl,⟨_,_,h5⟩,pass_wf hw3⟩
end Go.Gm.Tryz
end
section
namespace Go.Gm.Tryz
open Go.Proofs
theorem eql_iface (t:TypeId) (v:Value):gbin T .eql 20 (.iface t v) .nilIface=some (.bool false):=by
 have:gequal T 20 (.iface t v) .nilIface=some false:=nrfl rfl
 simp [gbin,this]
theorem rest136:∃(id:Nat) (os:Array Oper) (c:Code),g93.fn.body=some (.seq (.region id os false) c)∧codeOk T g93.plans c=true∧
  (∀(Q:Exit→Act→List Frame→World→Prop) (a:Act) (c₀ :Frame) (cs:List Frame) (w:World) (pv:Value),c₀.mode=.panicking [{ v:=pv,recovered:=false }]→
   Q .normal (a.put (some 6) pv) ({ c₀ with mode:=.panicking [{ v:=pv,recovered:=true }] }::cs) w→wpOpsSIn Fence.wide 0 Tryz.prog os Q (List.range os.size) a (c₀ ::cs) w)∧
  (∀(ρ:Rho) (H:GH) (Q:VQ) (n:Int) (g2 g3:Nat),ρ 0=.pointer (some (ga g2 0 0))→ρ 1=.pointer (some (ga g3 0 0))→g2≠g3→g2<H.next→g3<H.next→
   H.get g2=some (.arr { cells:= [vi 0],ty:=3 })→H.get g3=some (.arr { cells:= [vi 0],ty:=33 })→ρ 6=.iface 155 (.agg #[vi n])→
   (∀ρ' H',H.next≤H'.next→(∀g,g<H.next→g≠g2→g≠g3→H'.get g=H.get g)→H'.get g2=some (.arr { cells:= [vi n],ty:=3 })→H'.get g3=some (.arr { cells:= [vi 7],ty:=33 })→Q .normal ρ' [] H')→
   wpC ⟨Tryz.prog,T,g93.plans,17,none⟩ c Q ρ [] H):=by
 refine ⟨_,_,_,rfl,by kernel_rfl,?_,?_⟩
 ·intro Q a c₀ cs w pv hu hq
  simp [wpOpsSIn,go_sem,recoverD,hu]
  first|exact hq|exact ⟨fun _ _=>trivial,hq⟩
 intro ρ H Q n g2 g3 e0 e1 hne l2 l3 h2 h3 e6 hq
 simp (disch:=omega) [e0,e1,e6,h2,h3,eql_iface]
 refine hq _ _ (by simp) (fun g hg k2 k3=>?_) ?_ ?_
 ·rw [GH.get_put_ne _ _ k3,GH.get_put_ne _ _ k2,GH.get_put_ne _ _ (by omega),GH.get_push_lt _ _ hg]
 ·simp (disch:=omega)
 ·simp (disch:=omega)
theorem fa_rho0 (a b:Nat) (args:List Value) (ha:args.length=a):fa (a+b) (rho0 args) []= { tmps:=args++List.replicate b undef }:=by
 unfold fa rho0
 simp only [GA.mk.injEq,and_true]
 apply List.ext_getElem?
 intro j
 subst ha
 by_cases h1:j<args.length
 ·rw [List.getElem?_append_left h1]
  have:j<args.length+b:=by omega
  simp [this,h1]
 ·rw [List.getElem?_append_right (by omega)]
  by_cases h2:j<args.length+b
  ·have h3:j - args.length<b:=by omega
   simp [h2,h1,h3]
  ·have h3:¬j - args.length<b:=by omega
   simp [h2,h3]
theorem catch136 {β:Bm} {H:GH} {w:World} {n:Int} {g2 g3:Nat} {p2 p3 pv:Value} (hR:Rel β H w) (v2:VR β (.pointer (some (ga g2 0 0))) p2) (v3:VR β (.pointer (some (ga g3 0 0))) p3)
  (vp:VR β (.iface 155 (.agg #[vi n])) pv) (hne:g2≠g3) (l2:g2<H.next) (l3:g3<H.next) (h2:H.get g2=some (.arr { cells:= [vi 0],ty:=3 })) (h3:H.get g3=some (.arr { cells:= [vi 0],ty:=33 })):
  CallsDIn Fence.wide 0 Tryz.prog 93 #[p2,p3] (.panicking [{ v:=pv,recovered:=false }]) w fun e u' w'=>e=.returned (.tuple #[])∧u'=.panicking [{ v:=pv,recovered:=true }]∧
   ∃β' H',Rel β' H' w'∧Ext β H w β' H' w'∧H.next≤H'.next∧(∀g,g<H.next→g≠g2→g≠g3→H'.get g=H.get g)∧H'.get g2=some (.arr { cells:= [vi n],ty:=3 })∧H'.get g3=some (.arr { cells:= [vi 7],ty:=33 }):=by
 obtain ⟨id,os,c,hb,hok,hA,hB⟩:=rest136
 refine callsDIn_of_wpSIn fok93.fn hb trivial fun c₀ cs hu=>?_
 apply wpSIn_seq
 apply wpSIn_region
 refine hA _ _ c₀ cs w pv hu ?_
 show c.wpSIn _ _ _ _ _ _ _
 refine wpSIn_of_wpIn rfl ?_
 have hw:=wpC_sound (X:=⟨Tryz.prog,T,g93.plans,17,none⟩) tok mix c hok (hB (upd (rho0 [.pointer (some (ga g2 0 0)),.pointer (some (ga g3 0 0))]) 6 (.iface 155 (.agg #[vi n]))) H
  (fun x _ m H'=>x=.normal∧m= []∧H.next≤H'.next∧(∀g,g<H.next→g≠g2→g≠g3→H'.get g=H.get g)∧H'.get g2=some (.arr { cells:= [vi n],ty:=3 })∧H'.get g3=some (.arr { cells:= [vi 7],ty:=33 })) n g2 g3 (by simp) (by simp) hne l2 l3 h2 h3 (by simp) (fun ρ' H' a b c d=>⟨rfl,rfl,a,b,c,d⟩))
 have hn:g93.fn.ntmps=17:=rfl
 have u:=VR.undef β
 have hA2:ActR β (fa 17 (upd (rho0 [.pointer (some (ga g2 0 0)),.pointer (some (ga g3 0 0))]) 6 (.iface 155 (.agg #[vi n]))) []) (({ tmps:= #[p2,p3]++Array.replicate (g93.fn.ntmps - #[p2,p3].size) undef,defers:= [] }:Act).put (some 6) pv):=by
  have h0:ActR β (fa 17 (rho0 [.pointer (some (ga g2 0 0)),.pointer (some (ga g3 0 0))]) []) ({ tmps:= #[p2,p3]++Array.replicate (g93.fn.ntmps - #[p2,p3].size) undef,defers:= [] }:Act):=by
   rw [hn,fa_rho0 2 15 _ rfl]
   refine ⟨?_,.nil⟩
   simp only [Array.toList_append,Array.toList_replicate]
   exact (VRs.cons v2 (.cons v3 .nil)).append (VRs.replicate _ u)
  have h1:=h0.put (some 6) vp
  rw [fa_put] at h1
  exact h1
 refine wpIn_mono (hw β w _ none hR hA2 .none) fun e r w' hp=>?_
 obtain ⟨x,a',β',H',⟨ρ',m,rfl,rfl,rfl,k1,k2,k3,k4⟩,hR',hE,hA',he⟩:=hp
 cases he
 have hd:r.defers= []:=by
  have:=hA'.marks
  generalize r.defers=ds at this
  cases this; rfl
 refine ⟨hd,_,rfl,.tuple #[],?_,rfl,rfl,β',H',hR',hE,k1,k2,k3,k4⟩
 simp [results,g93]
end Go.Gm.Tryz
end
section
namespace Go.Gm.Tryz
open Go.Proofs
theorem idle136':∃(id:Nat) (os:Array Oper) (c:Code),g93.fn.body=some (.seq (.region id os false) c)∧
  (∀(Q:Exit→Act→List Frame→World→Prop) (a:Act) (c₀ :Frame) (cs:List Frame) (w:World),c₀.mode=.returning→
   Q .normal (a.put (some 6) .nilIface) (c₀ ::cs) w→wpOpsSIn Fence.wide 0 Tryz.prog os Q (List.range os.size) a (c₀ ::cs) w)∧
  (∀(Q:Exit→Act→World→Prop) (t:Array Value) (w:World),17=t.size→t[6]?=some .nilIface→(∀a',a'.defers= []→Q .normal a' w)→c.wpIn Fence.wide 0 Tryz.prog Q { tmps:=t,defers:= [] } w):=by
 refine ⟨_,_,_,rfl,?_,?_⟩
 ·intro Q a c₀ cs w hu hq
  simp [wpOpsSIn,go_sem,recoverD,hu]
  exact hq
 ·intro Q t w ht h6 hq
  refine wpIn_block ?_
  refine wpIn_seq ?_
  refine wpIn_region ?_
  simp [wpOpsIn,go_sem,h6]
  refine wpIn_cond_true (by simp [Act.eval]; omega) ?_
  refine wpIn_region ?_
  simp [wpOpsIn,go_sem]
  exact hq _ rfl
theorem idle136 {w:World} {p2 p3:Value}:
  CallsDIn Fence.wide 0 Tryz.prog 93 #[p2,p3] .returning w fun e u' w'=>e=.returned (.tuple #[])∧u'=.returning∧w'=w:=by
 obtain ⟨id,os,c,hb,hA,hB⟩:=idle136'
 refine callsDIn_of_wpSIn fok93.fn hb trivial fun c₀ cs hu=>?_
 apply wpSIn_seq
 apply wpSIn_region
 refine hA _ _ c₀ cs w hu ?_
 show c.wpSIn _ _ _ _ _ _ _
 refine wpSIn_of_wpIn rfl ?_
 have hn:g93.fn.ntmps=17:=rfl
 refine hB _ _ w ?_ ?_ fun a' hd=>?_
 ·rw [hn]; simp
 ·rw [hn]; simp
 ·refine ⟨hd,.returning,?_,.tuple #[],?_,rfl,rfl,rfl⟩
  ·cases c₀; simp_all
  ·simp [results,g93]
end Go.Gm.Tryz
end
section
namespace Go.Gm.Tryz
open Go.Proofs
theorem attempt_parts:∃(c0:Code) (i1 i2 i3:Nat) (o1 o2 o3:Array Oper),Tryz.f51.body=some (.seq c0 (.seq (.region i1 o1 false) (.seq (.region i2 o2 false) (.seq (.region i3 o3 false) .ret))))∧codeOk T [] c0=true∧
  (∀(H:GH) (ρ:Rho) (Q:VQ),Q .normal (upd (upd ρ 2 (.pointer (some (ga H.next 0 0)))) 3 (.pointer (some (ga (H.next+1) 0 0)))) [] ((H.push (.arr { cells:= [vi 0],ty:=3 })).push (.arr { cells:= [vi 0],ty:=33 }))→wpC ⟨Tryz.prog,T,[],7,none⟩ c0 Q ρ [] H)∧
  (∀(Q:Exit→Act→World→Prop) (t:Array Value) (w:World) (p2 p3:Value),7=t.size→t[2]?=some p2→t[3]?=some p3→(∀a',a'.defers= [{ target:=.fn (.func 93) #[p2,p3],args:= #[] }]→a'.tmps.size=7→a'.tmps[0]?=t[0]?→a'.tmps[2]?=some p2→a'.tmps[3]?=some p3→Q .normal a' w)→(Code.region i1 o1 false).wpIn Fence.wide 0 Tryz.prog Q { tmps:=t,defers:= [] } w)∧
  (∀(Q:Exit→Act→World→Prop) (a:Act) (w:World) (f:FuncId) (first cap:Array Value),7=a.tmps.size→a.tmps[0]?=some (.func (.func f) first cap)→Ent Tryz.prog f→
   CallsIn Fence.wide 0 Tryz.prog f (first++cap) w (fun e w'=>match e with
    | .returned _v=>∀a':Act,a'.defers=a.defers→a'.tmps.size=7→a'.tmps[2]?=a.tmps[2]?→a'.tmps[3]?=a.tmps[3]?→Q .normal a' w'
    | .panicked ch=>∀a':Act,a'.defers=a.defers→a'.tmps.size=7→a'.tmps[2]?=a.tmps[2]?→a'.tmps[3]?=a.tmps[3]?→Q (.panic ch) a' w'
    | .outgrown=>LetsOut Q)→(Code.region i2 o2 false).wpIn Fence.wide 0 Tryz.prog Q a w):=by
 refine ⟨_,_,_,_,_,_,_,rfl,by kernel_rfl,?_,?_,?_⟩
 ·intro H ρ Q hq
  simp
  exact hq
 ·intro Q t w p2 p3 ht h2 h3 hq
  refine wpIn_region ?_
  have hmf:∀(fn:Fn) (first cap:Array Value) (w:World),(Instr.makeFunc fn first cap).run Tryz.prog w=.ok (.func fn first cap) w:=fun _ _ _ _=>rfl
  have h4:4<t.size:=by omega
  simp [wpOpsIn,go_sem,h2,h3,Oper.uponIn,h4]
  exact hq _ rfl (by simp; omega) (by simp) (by simp [h2]) (by simp [h3])
 ·intro Q a w f first cap ht h0 hent hc
  refine wpIn_region ?_
  have h5:5<a.tmps.size:=by omega
  simp [wpOpsIn,go_sem,h0,Oper.uponIn,h5]
  refine ⟨trivial,?_⟩
  rw [hent]
  refine ⟨rfl,hc.mono ?_⟩
  intro e w' h
  cases e with
  |returned v=>exact h _ rfl (by simp; omega) (by simp) (by simp)
  |panicked ch=>exact h _ rfl (by simp; omega) (by simp) (by simp)
  |outgrown=>exact h
end Go.Gm.Tryz
end
section
namespace Go.Gm.Tryz
open Go.Proofs
theorem st_skip {o:Oper} {t k:Nat} (ho:o.op=.store t (.tmp k) (.const (vi 0))) {r:TRow} (hr:T.get t=some r) (hsz:r.size=1) {a:Act} {p:Value} (hk:a.tmps[k]?=some p) {g:Nat} {β:Bm} {H:GH} {w:World}
  (v:VR β (.pointer (some (ga g 0 0))) p) (hg:H.get g=some (.arr { cells:= [vi 0],ty:=t })) (hR:Rel β H w):Skips Tryz.prog β H w (execOp a.eval o) (H.put g (.arr { cells:= [vi 0],ty:=t })):=
 s_store (ρ:=fun x=>match x with| .const c=>c|_=>.pointer (some (ga g 0 0))) tok hR t (.tmp k) (.const (vi 0)) ho hr (a:=ga g 0 0) rfl (by
  have e2:a.eval (.tmp k)=p:=by simp [Act.eval,hk]
  rw [e2]; exact v) (.int _ _) (by rw [hsz]; rfl) rfl (by simp [hg])
theorem up_skip {o:Oper} {a:Act} {next:Act→World→Prop} {Q:Exit→Act→World→Prop} {β:Bm} {H H':GH} {w:World} (h:Skips Tryz.prog β H w (execOp a.eval o) H')
  (k:∀w' β',Rel β' H' w'→Ext β H w β' H' w'→next (a.put o.dst undef) w'):Oper.wpIn Fence.wide 0 Tryz.prog o a w next Q:=by
 obtain ⟨β',w',hr,hR,hE⟩:=h
 refine ⟨fun _ _=>trivial,?_⟩
 rw [show Fence.wide.round=none from rfl,Oper.semAt_none,hr]
 exact k w' β' hR hE
theorem attempt_ret:∃(c0:Code) (i1 i2 i3:Nat) (o1 o2 o3:Array Oper),Tryz.f51.body=some (.seq c0 (.seq (.region i1 o1 false) (.seq (.region i2 o2 false) (.seq (.region i3 o3 false) .ret))))∧
  (∀(Q:Exit→Act→World→Prop) (a:Act) (w:World) (β:Bm) (H:GH) (g2 g3:Nat) (p2 p3:Value),7=a.tmps.size→a.tmps[2]?=some p2→a.tmps[3]?=some p3→VR β (.pointer (some (ga g2 0 0))) p2→VR β (.pointer (some (ga g3 0 0))) p3→g2≠g3→
   H.get g2=some (.arr { cells:= [vi 0],ty:=3 })→H.get g3=some (.arr { cells:= [vi 0],ty:=33 })→Rel β H w→
   (∀w' β',Rel β' ((H.put g2 (.arr { cells:= [vi 0],ty:=3 })).put g3 (.arr { cells:= [vi 0],ty:=33 })) w'→Ext β H w β' ((H.put g2 (.arr { cells:= [vi 0],ty:=3 })).put g3 (.arr { cells:= [vi 0],ty:=33 })) w'→Q .normal a w')→
   (Code.region i3 o3 false).wpIn Fence.wide 0 Tryz.prog Q a w):=by
 refine ⟨_,_,_,_,_,_,_,rfl,?_⟩
 intro Q a w β H g2 g3 p2 p3 ht h2 h3 v2 v3 hne hg2 hg3 hR hq
 refine wpIn_region ?_
 simp only [wpOpsIn,List.size_toArray,List.length_cons,List.length_nil,Nat.zero_add,List.range_succ,List.range_zero,List.nil_append,List.cons_append]
 simp only [List.getElem?_toArray,List.getElem?_cons_zero,List.getElem?_cons_succ,Region.wanted,if_true,Oper.wpIn]
 refine up_skip (st_skip rfl (by simp; rfl) rfl h2 v2 hg2 hR) fun w1 β1 hR1 hE1=>?_
 refine up_skip (st_skip rfl (by simp; rfl) rfl h3 (v3.mono hE1.le) ((GH.get_put_ne _ _ (Ne.symm hne)).trans hg3) hR1) fun w2 β2 hR2 hE2=>?_
 exact hq w2 β2 hR2 (hE1.trans hR hE2)
end Go.Gm.Tryz
end
section
namespace Go.Gm.Tryz
open Go.Proofs
abbrev box3:GObj:=.arr { cells:= [vi 0],ty:=3 }
abbrev box31:GObj:=.arr { cells:= [vi 0],ty:=33 }
structure But (g2 g3:Nat) (H H':GH):Prop where
 next:H.next≤H'.next
 keep:∀g,g<H.next→g≠g2→g≠g3→H'.get g=H.get g
def TryK (H:GH) (R:GO→GH→Prop) (x:GO) (H1:GH):Prop:=
 H.next+2≤H1.next∧H1.get H.next=some box3∧H1.get (H.next+1)=some box31∧match x with
  | .ret _=>∀H2,But H.next (H.next+1) H1 H2→R (.ret (.tuple #[vi 0,vi 0])) H2
  | .pan v=>∃n,v=.iface 155 (.agg #[vi n])∧∀H2,But H.next (H.next+1) H1 H2→R (.ret (.tuple #[vi n,vi 7])) H2
def TryX (H:GH) (R:GO→GH→Prop) (x:GO) (H1:GH):Prop:=
 H.next+2≤H1.next∧H1.get H.next=some box3∧H1.get (H.next+1)=some box31∧match x with
  | .ret _=>R (.ret (.tuple #[vi 0,vi 0])) ((H1.put H.next box3).put (H.next+1) box31)
  | .pan v=>∃n,v=.iface 155 (.agg #[vi n])∧∀H2,But H.next (H.next+1) H1 H2→R (.ret (.tuple #[vi n,vi 7])) H2
theorem TryK.x {H:GH} {R:GO→GH→Prop} {x:GO} {H1:GH} (h:TryK H R x H1):TryX H R x H1:=by
 obtain ⟨a,b,c,d⟩:=h
 refine ⟨a,b,c,?_⟩
 cases x with
 |ret v=>exact d _ ⟨by simp,fun g hg k1 k2=>by rw [GH.get_put_ne _ _ k2,GH.get_put_ne _ _ k1]⟩
 |pan v=>exact d
theorem res83 {t:Array Value} {p2 p3:Value} (h2:t[2]?=some p2) (h3:t[3]?=some p3):results Tryz.f51 t=results Tryz.f51 #[undef,undef,p2,p3,undef,undef,undef]:=by
 have hr:Tryz.f51.results= #[.cell 2 3,.cell 3 33]:=rfl
 simp [results,h2,h3]
theorem res83_ok {t:Array Value} {p2 p3:Value} (h2:t[2]?=some p2) (h3:t[3]?=some p3) {β:Bm} {H:GH} {w:World} {g2 g3:Nat} {a b:Int} (hR:Rel β H w) (v2:VR β (.pointer (some (ga g2 0 0))) p2) (v3:VR β (.pointer (some (ga g3 0 0))) p3)
  (k2:H.get g2=some (.arr { cells:= [vi a],ty:=3 })) (k3:H.get g3=some (.arr { cells:= [vi b],ty:=33 })):∃v',(results Tryz.f51 t).run Tryz.prog w=.ok v' w∧VR β (.tuple #[vi a,vi b]) v':=by
 rw [res83 h2 h3]
 have u:=VR.undef β
 refine results_ok (P:=Tryz.prog) (vs:= [vi a,vi b]) tok hR (tm:= [undef,undef,.pointer (some (ga g2 0 0)),.pointer (some (ga g3 0 0)),undef,undef,undef]) (.cons u (.cons u (.cons v2 (.cons v3 (.cons u (.cons u (.cons u .nil))))))) ?_
 have hr:Tryz.f51.results.toList= [.cell 2 3,.cell 3 33]:=rfl
 rw [hr]
 simp [readResults,readResult,k2,k3]
theorem attempt_conX {f:FuncId} {first cap:Array Value} {H:GH} {R:GO→GH→Prop} (hf:GCall Tryz.prog f (first.toList++cap.toList) ((H.push box3).push box31) (TryX H R)):
  GCall Tryz.prog 51 [.func (.func f) first cap] H R:=by
 have hname:(Tryz.f51.name== "runtime.NumGoroutine")=false:=by kernel_rfl
 have hfn:Tryz.prog.funcs[51]?=some Tryz.f51:=Tryz.func51
 obtain ⟨c0,i1,i2,i3,o1,o2,o3,hb,hok,hA,hB,hC⟩:=attempt_parts
 obtain ⟨c0',i1',i2',i3',o1',o2',o3',hb',hD⟩:=attempt_ret
 rw [hb] at hb'
 cases hb'
 refine ⟨fun xs w=>?_,fun β w args' hR hV=>?_⟩
 ·have h1:Tryz.f51.name≠ "runtime.NumGoroutine":=by simpa using hname
  simp [callFunc,hfn,h1,hb]
 refine callsIn_of_wp_marks hfn hb trivial ?_
 refine wpIn_seq ?_
 obtain ⟨v',rfl,hv⟩:∃v',args'= [v']∧VR β (.func (.func f) first cap) v':=by
  cases hV with
  |cons h t=>cases t; exact ⟨_,rfl,h⟩
 have hn:Tryz.f51.ntmps=7:=rfl
 have h0:ActR β (fa 7 (rho0 [.func (.func f) first cap]) []) ({ tmps:= [v'].toArray++Array.replicate (Tryz.f51.ntmps - [v'].toArray.size) undef,defers:= [] }:Act):=by
  rw [hn,fa_rho0 1 6 _ rfl]
  refine ⟨?_,.nil⟩
  simp only [Array.toList_append,Array.toList_replicate]
  exact (VRs.cons hv .nil).append (VRs.replicate _ (VR.undef β))
 have hw:=wpC_sound (X:=⟨Tryz.prog,T,[],7,none⟩) tok mix c0 hok (hA H (rho0 [.func (.func f) first cap]) (fun x ρ m H'=>x=.normal∧m= []∧H'=(H.push box3).push box31∧ρ=upd (upd (rho0 [.func (.func f) first cap]) 2 (.pointer (some (ga H.next 0 0)))) 3 (.pointer (some (ga (H.next+1) 0 0)))) ⟨rfl,rfl,rfl,rfl⟩)
 refine wpIn_mono (hw β w _ none hR h0 .none) fun e r w1 hp=>?_
 obtain ⟨x,a',β1,H1,⟨ρ,m,rfl,rfl,rfl,rfl,rfl⟩,hR1,hE1,hA1,he⟩:=hp
 cases he
 have hsz:7=r.tmps.size:=by have:=hA1.tmps.length; simpa [fa] using this
 obtain ⟨f0,q0,vf⟩:=hA1.tmps.get? (i:=0) (v:=.func (.func f) first cap) (by simp [fa])
 obtain ⟨p2,q2,v2⟩:=hA1.tmps.get? (i:=2) (v:=.pointer (some (ga H.next 0 0))) (by simp [fa])
 obtain ⟨p3,q3,v3⟩:=hA1.tmps.get? (i:=3) (v:=.pointer (some (ga (H.next+1) 0 0))) (by simp [fa])
 simp only [Array.getElem?_toList] at q0 q2 q3
 have hd:r.defers= []:=by
  have:=hA1.marks
  generalize r.defers=ds at this
  cases this; rfl
 obtain ⟨rt,rd⟩:=r
 simp only at hd hsz q0 q2 q3
 subst hd
 show Code.wpIn _ _ _ _ _ _ _
 refine wpIn_seq ?_
 refine hB _ rt w1 p2 p3 hsz q2 q3 fun a1 k1 k2 k3 k4 k5=>?_
 show Code.wpIn _ _ _ _ _ _ _
 refine wpIn_seq ?_
 obtain ⟨first',cap',rfl,hargs⟩:∃first' cap',f0=.func (.func f) first' cap'∧VRs β1 (first.toList++cap.toList) (first'.toList++cap'.toList):=by
  cases vf with
  |func hfn s1 x1 s2 x2=>
   cases hfn
   refine ⟨_,_,rfl,VRs.append (.of_getD (by simpa using s1) fun i hi=>?_) (.of_getD (by simpa using s2) fun i hi=>?_)⟩
   ·simpa using x1 i (by simpa using hi)
   ·simpa using x2 i (by simpa using hi)
 have hcall:=hf.2 β1 w1 _ hR1 hargs
 have harr:(first'.toList++cap'.toList).toArray=first'++cap':=by simp
 rw [harr] at hcall
 refine hC _ a1 w1 f first' cap' k2.symm (k3.trans q0) hf.1 (hcall.mono ?_)
 rintro e w2 ⟨x,β2,H2,hK,hR2,hE2,hEnd⟩
 obtain ⟨hK1,hK2,hK3,hK4⟩:=hK
 have v2':=v2.mono hE2.le
 have v3':=v3.mono hE2.le
 have hent:Ent Tryz.prog 93:=fun xs w=>by
  have h1:Tryz.f93.name≠ "runtime.NumGoroutine":=by
   have:(Tryz.f93.name== "runtime.NumGoroutine")=false:=by kernel_rfl
   simpa using this
  obtain ⟨_,_,_,hb6,_⟩:=rest136
  have hb6':Tryz.f93.body=_:=hb6
  simp [callFunc,show Tryz.prog.funcs[93]?=some Tryz.f93 from Tryz.func93,h1,hb6']
 have hE02:=hE1.trans hR hE2
 cases hEnd with
 |ret hv2=>
  intro a3 d1 d2 d3 d4
  show Code.wpIn _ _ _ _ _ _ _
  refine wpIn_seq ?_
  refine hD _ a3 w2 β2 H2 H.next (H.next+1) p2 p3 d2.symm (d3.trans k4) (d4.trans k5) v2' v3' (by omega) hK2 hK3 hR2 fun w3 β3 hR3 hE3=>?_
  show Code.wpIn _ _ _ _ _ _ _
  refine wpIn_ret ?_
  show LeavesInM _ _ _ _ _ _ a3.defers _ _
  rw [d1,k1]
  refine ⟨by simp,.inr ⟨fun _=>by simp_all [Fence.wide],_,_,93,#[p2,p3],rfl,?_,fun _ _=>trivial,idle136.mono ?_⟩⟩
  ·have:=hent #[p2,p3] w3
   first|(simp [invoke]; done)|simpa [invoke] using this
  ·rintro e u' w' ⟨rfl,rfl,rfl⟩
   obtain ⟨v3r,hrun,hvr⟩:=res83_ok (t:=a3.tmps) (d3.trans k4) (d4.trans k5) hR3 (v2'.mono hE3.le) (v3'.mono hE3.le) (a:=0) (b:=0) (g2:=H.next) (g3:=H.next+1) (by rw [GH.get_put_ne _ _ (by omega)]; simp) (by simp)
   exact ⟨v3r,hrun,_,β3,_,hK4,hR3,hE02.trans hR hE3,.ret hvr⟩
 |pan hv2=>
  intro a3 d1 d2 d3 d4
  show LeavesInM _ _ _ _ _ _ a3.defers _ _
  rw [d1,k1]
  obtain ⟨n,rfl,hK5⟩:=hK4
  refine ⟨by simp,.inr ⟨fun _=>by simp_all [Fence.wide],_,_,93,#[p2,p3],rfl,?_,fun _ _=>trivial,(catch136 hR2 v2' v3' hv2 (by omega) (by omega) (by omega) hK2 hK3).mono ?_⟩⟩
  ·have:=hent #[p2,p3] w2
   first|(simp [invoke]; done)|simpa [invoke] using this
  ·rintro e u' w' ⟨rfl,rfl,β3,H3,hR3,hE3,m1,m2,m3,m4⟩
   obtain ⟨v3r,hrun,hvr⟩:=res83_ok (t:=a3.tmps) (d3.trans k4) (d4.trans k5) hR3 (v2'.mono hE3.le) (v3'.mono hE3.le) (a:=n) (b:=7) (g2:=H.next) (g3:=H.next+1) m3 m4
   exact ⟨v3r,hrun,_,β3,_,hK5 _ ⟨m1,m2⟩,hR3,hE02.trans hR hE3,.ret hvr⟩
theorem attempt_con {f:FuncId} {first cap:Array Value} {H:GH} {R:GO→GH→Prop} (hf:GCall Tryz.prog f (first.toList++cap.toList) ((H.push box3).push box31) (TryK H R)):
  GCall Tryz.prog 51 [.func (.func f) first cap] H R:=attempt_conX (hf.mono fun _ _ h=>h.x)
end Go.Gm.Tryz
end
section
namespace Go.Gm.Tryz
open Go.Proofs
def rightS (b:Book) (day:Int):Nat⊕Stand:=match upS b 36500 with| .inl n=>.inl n| .inr _=>upS b day
structure LocBut (l:BLoc) (g:Nat):Prop where
 t:∀a,l.t.rows.a=some a→a.block≠g
 o:∀a,l.owners.a=some a→a.block≠g
 e:∀a,l.events.a=some a→a.block≠g
theorem StandIn.put_low {H:GH} {N:Nat} {l:BLoc} {b:Book} {sg kn:Nat} {s:Stand} {O:Nat→Prop} (h:StandIn H N l b sg kn s O) {g:Nat} (hg:g<N) (o:GObj) (hl:LocBut l g):StandIn (H.put g o) N l b sg kn s O:=by
 obtain ⟨vl,vo,vg,va,vw,vf,h,hO⟩:=h
 have hk:∀k,N≤k→(H.put g o).get k=H.get k:=fun k hk=>GH.get_put_ne _ _ (by omega)
 have ho:∀ {α:Type} {v:Value} {ty sz:Nat} {e:α→List Value} {x:List α},OwnL H N v ty sz e x→OwnL (H.put g o) N v ty sz e x:=fun w=>w.frame (Nat.le_refl _) fun k hk'=>hk k (w.blk_lt hk').1
 refine ⟨vl,vo,vg,va,vw,vf,⟨(hk sg h.sgl.1).trans h.g,h.sgl,⟨h.book.t.put o hl.t,h.book.owners.put o hl.o,h.book.events.put o hl.e⟩,h.bt,h.bo,h.be,?_,h.kl,ho h.lives,ho h.owners,ho h.grants,ho h.last,ho h.waits,ho h.fell,h.oa,h.ow,h.aw⟩,hO⟩
 obtain ⟨es,c,h1,h2⟩:=h.kno
 exact ⟨es,c,(hk kn h.kl.1).trans h1,h2⟩
theorem right1_con {H:GH} {l:BLoc} {b:Book} (hb:BookIn H l b) (hB:BookOk b) (day:Int) {g0 g1 g2:Nat} (hlb:LocBut l g2) (l0:g0<H.next) (l1:g1<H.next) (l2:g2<H.next)
  (k0:H.get g0=some (.arr { cells:=bookC l b,ty:=28 })) (k1:H.get g1=some (.arr { cells:= [vi day],ty:=3 })) (k2:H.get g2=some (.arr { cells:= [.pointer none],ty:=75 })):
  GCall Tryz.prog 52 [.pointer (some (ga g0 0 0)),.pointer (some (ga g1 0 0)),.pointer (some (ga g2 0 0))] H fun x H'=>H.next≤H'.next∧(∀g,g<H.next→g≠g2→H'.get g=H.get g)∧match rightS b day with
   | .inr s=>∃N sg kn O,H.next≤N∧x=.ret (.tuple #[])∧H'.get g2=some (.arr { cells:= [.pointer (some (ga sg 0 0))],ty:=75 })∧StandIn H' N l b sg kn s O∧Wf b s
   | .inl n=>x=.pan (.iface 155 (.agg #[vi n]))∧H'.get g2=H.get g2:=by
 rcases l with ⟨⟨⟨ra,rf⟩⟩,⟨oa,of'⟩,⟨va',vf'⟩⟩
 simp only [bookC] at k0
 refine gcall_wp tok mix fok52 (F:=g52) (c:=_) rfl (n:=8) rfl (rs:= []) rfl ?_
 simp (disch:=omega) [k0,k2]
 refine (up_con hb hB 36500).mono ?_
 rintro x H1 ⟨n1,s1,hu⟩
 unfold rightS
 cases hup:upS b 36500 with
 |inl n=>
  rw [hup] at hu
  subst hu
  simp
  exact ⟨n1,fun g hg _=>s1 g hg,(s1 _ l2).trans k2⟩
 |inr s0=>
  rw [hup] at hu
  obtain ⟨_,sg0,_,_,_,rfl,_,_⟩:=hu
  simp (disch:=omega) [s1 g0 l0,s1 g1 l1,k0,k1]
  have hs1:Sub H H1:=⟨n1,s1⟩
  have hbi:BookIn H1 ⟨⟨⟨ra,rf⟩⟩,⟨oa,of'⟩,⟨va',vf'⟩⟩ b:=⟨hb.t.mono hs1,hb.owners.mono hs1,hb.events.mono hs1⟩
  refine (up_con hbi hB day).mono ?_
  rintro x H2 ⟨n2,s2,hu⟩
  cases hup2:upS b day with
  |inl n=>
   rw [hup2] at hu
   subst hu
   simp
   exact ⟨by omega,fun g hg _=>(s2 g (by omega)).trans (s1 g hg),(s2 _ (by omega)).trans ((s1 _ l2).trans k2)⟩
  |inr s0=>
   rw [hup2] at hu
   obtain ⟨N,sg,kn,O,hN,rfl,hS,hW⟩:=hu
   have hg2:H2.get g2=_:=(s2 _ (by omega)).trans ((s1 _ l2).trans k2)
   simp (disch:=omega) [hg2]
   refine ⟨by omega,fun g hg hne=>?_,N,by omega,sg,rfl,⟨kn,O,hS.put_low (by omega) _ hlb⟩,hW⟩
   rw [if_neg hne,s2 g (by omega),s1 g hg]
end Go.Gm.Tryz
end
section
namespace Go.Gm.Tryz
open Go.Proofs
theorem StandIn.but {H H':GH} {N:Nat} {l:BLoc} {b:Book} {sg kn:Nat} {s:Stand} {O:Nat→Prop} (h:StandIn H N l b sg kn s O) {g2 g3:Nat} (l2:g2<N) (l3:g3<N) (k:But g2 g3 H H') (hl2:LocBut l g2) (hl3:LocBut l g3):StandIn H' N l b sg kn s O:=by
 obtain ⟨vl,vo,vg,va,vw,vf,h,hO⟩:=h
 have hk:∀k,N≤k→k<H.next→H'.get k=H.get k:=fun j hj hn=>k.keep j hn (by omega) (by omega)
 have ho:∀ {α:Type} {v:Value} {ty sz:Nat} {e:α→List Value} {x:List α},OwnL H N v ty sz e x→OwnL H' N v ty sz e x:=fun w=>w.frame k.next fun j hj=>hk j (w.blk_lt hj).1 (w.blk_lt hj).2
 have he:∀ {α:Type} {a:Option Addr} {sz:Nat} {e:α→List Value} {x:List α},Elems H a sz e x→(∀c,a=some c→c.block≠g2)→(∀c,a=some c→c.block≠g3)→Elems H' a sz e x:=fun w x2 x3=>by
  refine ⟨w.len,fun c hc=>?_,w.nil⟩
  obtain ⟨y1,y2⟩:=w.ok c hc
  refine ⟨Nat.lt_of_lt_of_le y1 k.next,?_⟩
  rw [←y2]
  simp only [GH.read]
  rw [k.keep _ y1 (x2 c hc) (x3 c hc)]
 refine ⟨vl,vo,vg,va,vw,vf,⟨(hk sg h.sgl.1 h.sgl.2).trans h.g,⟨h.sgl.1,Nat.lt_of_lt_of_le h.sgl.2 k.next⟩,⟨he h.book.t hl2.t hl3.t,he h.book.owners hl2.o hl3.o,he h.book.events hl2.e hl3.e⟩,h.bt,h.bo,h.be,?_,⟨h.kl.1,Nat.lt_of_lt_of_le h.kl.2 k.next⟩,ho h.lives,ho h.owners,ho h.grants,ho h.last,ho h.waits,ho h.fell,h.oa,h.ow,h.aw⟩,hO⟩
 obtain ⟨es,c,h1,h2⟩:=h.kno
 exact ⟨es,c,(hk kn h.kl.1 h.kl.2).trans h1,h2⟩
theorem bookBut {H:GH} {l:BLoc} {b:Book} (h:BookIn H l b) {g:Nat} (hg:H.next≤g):LocBut l g:=
 ⟨fun a ha hc=>by have:=(h.t.ok a ha).1; omega,fun a ha hc=>by have:=(h.owners.ok a ha).1; omega,fun a ha hc=>by have:=(h.events.ok a ha).1; omega⟩
def rightOk (b:Book) (day:Int) (ok:Bool):Bool:=isBookB b&&(isDayI day&&ok)
theorem right_con {H:GH} {l:BLoc} {b:Book} (hb:BookIn H l b) (day:Int) (ok:Bool):
  GCall Tryz.prog 24 [bookV l b,vi day,.bool ok] H fun x H'=>H.next≤H'.next∧(∀g,g<H.next→H'.get g=H.get g)∧
   if rightOk b day ok then match rightS b day with
    | .inr s=>∃N sg kn O,H.next≤N∧x=.ret (.tuple #[.pointer (some (ga sg 0 0)),vi 0])∧StandIn H' N l b sg kn s O∧Wf b s
    | .inl _n=>x=.ret (.tuple #[.pointer none,vi 7])
   else x=.ret (.tuple #[.pointer none,vi 2]):=by
 rcases l with ⟨⟨⟨ra,rf⟩⟩,⟨oa,of'⟩,⟨va',vf'⟩⟩
 refine gcall_wp tok mix fok24 (F:=g24) (c:=_) rfl (n:=30) rfl (rs:= [.tmp 6,.tmp 7]) rfl ?_
 simp
 generalize hH2:GH.push (GH.push _ _) _=H2
 have hs2:Sub H H2:=by subst hH2; exact (Sub.push (.refl H) _).push _
 have k0:H2.get H.next=some (.arr { cells:= [.slice ra b.tbl.rows.length rf,vi b.tbl.draw,vi b.supply,vi b.term,vi b.persons,.slice oa b.owners.length of',.slice va' b.events.length vf'],ty:=28 }):=by
  subst hH2; rw [GH.get_push_lt _ _ (by simp)]; simp
 have k1:H2.get (H.next+1)=some (.arr { cells:= [vi day],ty:=3 }):=by subst hH2; simp
 have hn2:H2.next=H.next+2:=by subst hH2; simp
 clear hH2
 have hbi:BookIn H2 ⟨⟨⟨ra,rf⟩⟩,⟨oa,of'⟩,⟨va',vf'⟩⟩ b:=⟨hb.t.mono hs2,hb.owners.mono hs2,hb.events.mono hs2⟩
 refine (isBook_con ⟨⟨⟨ra,rf⟩⟩,⟨oa,of'⟩,⟨va',vf'⟩⟩ b H2 hbi).go ?_
 simp
 unfold rightOk
 cases hB:isBookB b with
 |false=>simp; exact ⟨hs2.1,hs2.2⟩
 |true=>
  simp [k1]
  refine (isDay_con _ _).go ?_
  simp
  cases hD:isDayI day with
  |false=>simp; exact ⟨hs2.1,hs2.2⟩
  |true=>
   cases ok with
   |false=>simp; exact ⟨hs2.1,hs2.2⟩
   |true=>
    simp
    have hBk:=book_ok hB
    let l:BLoc:=⟨⟨⟨ra,rf⟩⟩,⟨oa,of'⟩,⟨va',vf'⟩⟩
    generalize hH3:H2.push _=H3
    have hs3:Sub H2 H3:=by subst hH3; exact Sub.push (.refl H2) _
    have k3:H3.get H2.next=some (.arr { cells:= [.pointer none],ty:=75 }):=by subst hH3; simp
    have hn3:H3.next=H2.next+1:=by subst hH3; simp
    clear hH3
    have hat:=attempt_con (f:=52) (first:= #[]) (cap:= #[.pointer (some (ga H.next 0 0)),.pointer (some (ga (H.next+1) 0 0)),.pointer (some (ga H2.next 0 0))]) (H:=H3)
     (R:=fun x H'=>H3.next≤H'.next∧(∀g,g<H2.next→H'.get g=H3.get g)∧match rightS b day with
      | .inr s=>∃N sg kn O,H2.next≤N∧x=.ret (.tuple #[vi 0,vi 0])∧H'.get H2.next=some (.arr { cells:= [.pointer (some (ga sg 0 0))],ty:=75 })∧StandIn H' N l b sg kn s O∧Wf b s
      | .inl n=>x=.ret (.tuple #[vi n,vi 7])∧H'.get H2.next=some (.arr { cells:= [.pointer none],ty:=75 })) ?_
    ·refine hat.mono ?_
     rintro x H4 ⟨n4,s4,hu⟩
     have hkeep:∀g,g<H.next→H4.get g=H.get g:=fun g hg=>by rw [s4 g (by omega),hs3.2 g (by omega),hs2.2 g hg]
     cases hr:rightS b day with
     |inl n=>
      rw [hr] at hu
      obtain ⟨rfl,hg⟩:=hu
      simp [hg]
      exact ⟨by omega,hkeep⟩
     |inr s0=>
      rw [hr] at hu
      obtain ⟨N,sg,kn,O,hN,rfl,hg,hS,hW⟩:=hu
      simp [hg]
      exact ⟨by omega,hkeep,N,by omega,sg,rfl,⟨kn,O,hS⟩,hW⟩
    ·generalize hH5:(H3.push box3).push box31=H5
     have hs5:Sub H3 H5:=by subst hH5; exact (Sub.push (.refl H3) _).push _
     have b3:H5.get H3.next=some box3:=by subst hH5; rw [GH.get_push_lt _ _ (by simp)]; simp
     have b31:H5.get (H3.next+1)=some box31:=by subst hH5; simp
     have hn5:H5.next=H3.next+2:=by subst hH5; simp
     have hs:=hs2.trans (hs3.trans hs5)
     have hb5:BookIn H5 l b:=⟨hb.t.mono hs,hb.owners.mono hs,hb.events.mono hs⟩
     refine (right1_con hb5 hBk day (g0:=H.next) (g1:=H.next+1) (g2:=H2.next) (bookBut hb (by omega)) (by omega) (by omega) (by omega) ((hs5.2 _ (by omega)).trans ((hs3.2 _ (by omega)).trans k0)) ((hs5.2 _ (by omega)).trans ((hs3.2 _ (by omega)).trans k1)) ((hs5.2 _ (by omega)).trans k3)).mono ?_
     rintro x H6 ⟨n6,s6,hu⟩
     refine ⟨by omega,(s6 _ (by omega) (by omega)).trans b3,(s6 _ (by omega) (by omega)).trans b31,?_⟩
     have hkeep:∀ {H7:GH},But H3.next (H3.next+1) H6 H7→H3.next≤H7.next∧∀g,g<H2.next→H7.get g=H3.get g:=fun k=>⟨by have:=k.next; omega,fun g hg=>by rw [k.keep g (by omega) (by omega) (by omega),s6 g (by omega) (by omega),hs5.2 g (by omega)]⟩
     cases hr:rightS b day with
     |inl n=>
      rw [hr] at hu
      obtain ⟨rfl,hu⟩:=hu
      refine ⟨n,rfl,fun H7 k=>?_⟩
      exact ⟨(hkeep k).1,(hkeep k).2,rfl,by rw [k.keep _ (by omega) (by omega) (by omega),hu,hs5.2 _ (by omega)]; exact k3⟩
     |inr s0=>
      rw [hr] at hu
      obtain ⟨N,sg,kn,O,hN,rfl,hg,hS,hW⟩:=hu
      intro H7 k
      exact ⟨(hkeep k).1,(hkeep k).2,N,sg,kn,O,by omega,rfl,by rw [k.keep _ (by omega) (by omega) (by omega)]; exact hg,hS.but (by omega) (by omega) k (bookBut hb (by omega)) (bookBut hb (by omega)),hW⟩
end Go.Gm.Tryz
end
section
namespace Go.Gm.Tryz
open Go.Proofs
@[simp] def attV:Option Int→Value
 |none=>.tuple #[vi 0,vi 0]
 |some n=>.tuple #[vi n,vi 7]
def wrongO (b:Book):Option Int:=match upS b 36500 with| .inl n=>some (n:Int)| .inr _=>none
def wrongR (b:Book):Int×Int:=if isBookB b then match wrongO b with|some n=>(n,0)|none=>(0,5) else (0,2)
end Go.Gm.Tryz
end
section
namespace Go.Gm
def ListR {α:Type} (H:GH) (v:Value) (sz:Nat) (enc:α→List Value) (l:List α):Prop:=∃a fl,v=.slice a l.length fl∧Elems H a sz enc l
theorem ListR.nil {α:Type} {H:GH} {sz:Nat} {enc:α→List Value} (hs:∀x,(enc x).length=sz):ListR H (.slice none 0 0) sz enc ([]:List α):=⟨none,0,rfl,⟨hs,(fun b hb=>by cases hb),fun _=>rfl⟩⟩
theorem OwnL.listR {α:Type} {H:GH} {N:Nat} {v:Value} {ty:TypeId} {sz:Nat} {enc:α→List Value} {l:List α} (h:OwnL H N v ty sz enc l) (hs:∀x,(enc x).length=sz):ListR H v sz enc l:=h.elems hs
end Go.Gm
namespace Go.Gm.Tryz
open Go.Proofs
inductive Out where
 |ok (s:Stand)
 |err (e:Int)
def outS (b:Book) (day:Int) (ok:Bool):Out:=if rightOk b day ok then (match rightS b day with| .inr s=>.ok s| .inl _=>.err 7) else .err 2
theorem right_out {H:GH} {l:BLoc} {b:Book} (hb:BookIn H l b) (day:Int) (ok:Bool):
  GCall Tryz.prog 24 [bookV l b,vi day,.bool ok] H fun x H'=>Sub H H'∧((∃s N sg kn O,outS b day ok=.ok s∧H.next≤N∧x=.ret (.tuple #[.pointer (some (ga sg 0 0)),vi 0])∧StandIn H' N l b sg kn s O∧Wf b s)∨
   ∃e,outS b day ok=.err e∧e≠0∧x=.ret (.tuple #[.pointer none,vi e])):=by
 refine (right_con hb day ok).mono ?_
 rintro x H1 ⟨n1,s1,hx⟩
 refine ⟨⟨n1,s1⟩,?_⟩
 unfold outS
 cases hr:rightOk b day ok with
 |false=>rw [hr] at hx; right; exact ⟨2,rfl,by decide,hx⟩
 |true=>
  rw [hr] at hx
  simp only [if_true] at hx ⊢
  cases hR:rightS b day with
  |inl n=>rw [hR] at hx; right; exact ⟨7,rfl,by decide,hx⟩
  |inr s=>rw [hR] at hx; obtain ⟨N,sg,kn,O,h1,h2,h3,h4⟩:=hx; left; exact ⟨s,N,sg,kn,O,rfl,h1,h2,h3,h4⟩
def statesR (o:Out):List GSt×Int:=match o with| .ok s=>(s.grants,0)| .err e=>([],e)
def estatesR (o:Out):List Int×Int:=match o with| .ok s=>(s.owners,0)| .err e=>([],e)
def waitingR (o:Out):List Int×Int:=match o with| .ok s=>(s.waits,0)| .err e=>([],e)
def waterR (b:Book) (o:Out):Int×Int×Int:=match o with| .ok s=>(IntKind.i64.wrap (b.supply - freeI b s),freeI b s,0)| .err e=>(0,0,e)
section
variable {H:GH} {l:BLoc} {b:Book}
theorem States_con (hb:BookIn H l b) (day:Int):
  GCall Tryz.prog 7 [bookV l b,vi day] H fun x H'=>Sub H H'∧∃v,x=.ret (.tuple #[v,vi (statesR (outS b day true)).2])∧ListR H' v 5 encSt (statesR (outS b day true)).1:=by
 rcases l with ⟨⟨⟨ra,rf⟩⟩,⟨oa,of'⟩,⟨va',vf'⟩⟩
 refine gcall_wp tok mix fok7 (F:=g7) (c:=_) rfl (n:=21) rfl (rs:= [.tmp 4,.tmp 5]) rfl ?_
 simp
 generalize hH2:GH.push _ _=H2
 have hs2:Sub H H2:=by subst hH2; exact Sub.push (.refl H) _
 clear hH2
 refine (right_out (hb.mono hs2) day true).mono ?_
 rintro x H3 ⟨h3,⟨s,N,sg,kn,O,ho,hN,rfl,⟨vl,vo,vg,va,vw,vf,hS,_⟩,hW⟩|⟨e,ho,he,rfl⟩⟩
 ·have hg:=hS.g
  have hl:=hS.sgl.2
  simp only [bookC] at hg
  simp (disch:=omega) [ho,hg,statesR]
  exact ⟨hs2.trans h3,hS.grants.listR (fun _=>rfl)⟩
 ·simp [ho,he,statesR]
  exact ⟨hs2.trans h3,ListR.nil (fun _=>rfl)⟩
theorem Water_con (hb:BookIn H l b) (day:Int):
  C 8 [bookV l b,vi day] H (.tuple #[vi (waterR b (outS b day true)).1,vi (waterR b (outS b day true)).2.1,vi (waterR b (outS b day true)).2.2]) H:=by
 rcases l with ⟨⟨⟨ra,rf⟩⟩,⟨oa,of'⟩,⟨va',vf'⟩⟩
 refine con_wp tok mix fok8 (F:=g8) (c:=_) rfl (n:=26) rfl (rs:= [.tmp 4,.tmp 5,.tmp 6]) rfl (anch_tuple (by simp; exact ⟨anch_closed rfl,anch_closed rfl,anch_closed rfl⟩)) ?_
 simp
 generalize hH2:GH.push _ _=H2
 have hs2:Sub H H2:=by subst hH2; exact Sub.push (.refl H) _
 have k0:H2.get H.next=some (.arr { cells:= [.slice ra b.tbl.rows.length rf,vi b.tbl.draw,vi b.supply,vi b.term,vi b.persons,.slice oa b.owners.length of',.slice va' b.events.length vf'],ty:=28 }):=by
  subst hH2; simp
 have hn2:H2.next=H.next+1:=by subst hH2; simp
 clear hH2
 refine (right_out (hb.mono hs2) day true).mono ?_
 rintro x H3 ⟨h3,⟨s,N,sg,kn,O,ho,hN,rfl,⟨vl,vo,vg,va,vw,vf,hS,_⟩,hW⟩|⟨e,ho,he,rfl⟩⟩
 ·simp
  refine (free_con hS (by have:=hW.len; omega)).mono ?_
  rintro x H4 ⟨rfl,h4⟩
  have hk:kn<H3.next∧N≤kn:=⟨hS.kl.2,hS.kl.1⟩
  have k4:H4.get H.next=some (.arr { cells:= [.slice ra b.tbl.rows.length rf,vi b.tbl.draw,vi b.supply,vi b.term,vi b.persons,.slice oa b.owners.length of',.slice va' b.events.length vf'],ty:=28 }):=by
   rw [h4.same _ (by have:=h3.1; omega) (by omega),h3.2 _ (by omega)]; exact k0
  have hn4:=h4.next
  have hn3:=h3.1
  simp (disch:=omega) [k4,ho,waterR]
  exact ⟨by omega,fun g hg=>by rw [h4.same _ (by omega) (by omega),h3.2 _ (by omega),hs2.2 _ hg]⟩
 ·simp [ho,he,waterR]
  exact hs2.trans h3
end
end Go.Gm.Tryz
end
section
namespace Go.Gm.Tryz
open Go.Proofs
def fellL (s:Stand) (from_ to:Int):List Int:=(s.fell.filter fun p=>inI p.2 from_ to).map Prod.fst
def fellR (o:Out) (from_ to:Int):List Int×Int:=match o with| .ok s=>(fellL s from_ to,0)| .err e=>([],e)
section
variable {H:GH} {l:BLoc} {b:Book}
end
end Go.Gm.Tryz
end
section
namespace Go.Gm.Tryz
open Go.Proofs
def otherI (s:Int):Int:=3 - s
def turnStep (t:Tbl) (sys:Int) (o:Option (Int×Int)) (s:List Int):Option (Int×Int):=
 match o with
 |none=>some (countsI t (otherI sys) s,countsI t (otherI sys) s)
 |some (a,b)=>some (if countsI t (otherI sys) s<a then countsI t (otherI sys) s else a,if countsI t (otherI sys) s>b then countsI t (otherI sys) s else b)
def turnO (t:Tbl) (sys u:Int):Option (Int×Int):=(alikeSets t sys u).foldl (turnStep t sys) none
def turnAt (t:Tbl) (sys u:Int) (k:Nat):Option (Int×Int):=((alikeSets t sys u).take k).foldl (turnStep t sys) none
def turnR (t:Tbl) (sys u:Int):Int×Int×Int:=if setArgs t sys u then (match turnO t sys u with|some (a,b)=>(a,b,0)|none=>(0,0,5)) else (0,0,2)
end Go.Gm.Tryz
end
section
namespace Go.Gm.Tryz
open Go.Proofs
@[simp,reducible] def countedV (l:TLoc) (t:Tbl) (g:GSt):Value:=.agg #[.slice l.rows.a t.rows.length l.rows.fl,vi t.draw,vi g.is,vi g.person,vi g.estate,vi g.system,vi g.units]
def holdN (b:Book) (sys:Int) (g:GSt):Int×Int:=if g.system=sys then (g.units,g.units) else ((turnR b.tbl g.system g.units).1,(turnR b.tbl g.system g.units).2.1)
def holdStep (b:Book) (person sys:Int) (acc:Int×Int) (g:GSt):Int×Int:=
 if g.is=1∧g.person=person then (IntKind.i64.wrap (acc.1+(holdN b sys g).1),IntKind.i64.wrap (acc.2+(holdN b sys g).2)) else acc
def holdS (b:Book) (s:Stand) (person sys:Int):Int×Int:=s.grants.foldl (holdStep b person sys) (0,0)
def holdsR (b:Book) (o:Out) (person sys:Int):Int×Int×Int:=match o with| .ok s=>((holdS b s person sys).1,(holdS b s person sys).2,0)| .err e=>(0,0,e)
section
variable {H:GH} {l:BLoc} {b:Book}
end
end Go.Gm.Tryz
end
section
namespace Go.Gm
theorem closed_eq {β:Bm} {c r:Value} (h:VR β c r):closedV c=true→r=c:=by
 induction h with
 |iface _ ih=>intro hc; rw [ih hc]
 |slice=>intro hc; simp [closedV] at hc
 |slice0=>intro hc; simp [closedV] at hc
 |_=>intro hc; first|rfl|(cases hc)
theorem closed_to {β β':Bm} {c r:Value} (h:VR β c r) (hc:closedV c=true):VR β' c r:=by rw [closed_eq h hc]; exact closed_ok hc
def oneH (fx:List (Nat×Obj)) (cs:List Value) (ty:TypeId):GH:=(GH.emp fx).push (.arr { cells:=cs,ty:=ty,ro:=true })
def oneB (L:Loc):Bm:=fun g v=>if g=0∧v=0 then some L else none
section
variable {β β':Bm} {H Hc:GH} {cs:List Value} {ty:TypeId} {w w':World} {L:Loc}
end
structure Imp (n0:Nat) (β0:Bm) (H0:GH) (β:Bm) (H:GH) (w':World):Prop where
 rel:Rel β H w'
 le:β0.le β
 sub:Sub H0 H
 low:∀g v L o,β g v=some L→H.get g=some o→o.rw=true→L.blk<n0
 new:∀g v L,β g v=some L→β0 g v=some L∨n0≤L.blk
 un:∀g,g<H0.next→(∀v,β0 g v=none)→∀v,β g v=none
 fx:H.fx=H0.fx
def sliceIs (H:GH) (v:Value) (fl:Nat) (exp:List Value):Bool:=
 match v with
 | .slice (some ⟨g,off,some ver⟩) n fl'=>Nat.beq fl' fl&&(!Nat.beq g 0&&(Nat.beq (n*fl) exp.length&&(match H.get g with
  |some (.arr B)=>Nat.ble (off+n*fl) (B.rd ver)&&veq.veqs (veq 2) ((B.cells.drop off).take (n*fl)) exp
  |_=>false)))
 |_=>false
end Go.Gm
end
section
namespace Go.Gm.Tryz
open Go.Proofs
theorem list_eq_of {α:Type} {a b:List α} (hl:a.length=b.length) (h:∀i (h1:i<a.length) (h2:i<b.length),a[i]=b[i]):a=b:=List.ext_getElem hl h
theorem same1_con (a b:List Int) (hl:a.length≤1000000) (a1 b1:Option Addr) (f1 f2:Nat) (H:GH) (ha:Elems H a1 1 encI a) (hb:Elems H b1 1 encI b):C 15 [.slice a1 a.length f1,.slice b1 b.length f2] H (.bool (decide (a=b))) H:=by
 refine con_wp tok mix fok15 (F:=g15) (c:=_) rfl (n:=26) rfl (rs:= [.tmp 4]) rfl (anch_closed rfl) ?_
 by_cases hlen:a.length=b.length
 ·have hli:(a.length:Int)=b.length:=by omega
  simp [hlen]
  refine wp_up tok mix (by kernel_rfl) b.length (fun i ρ m H'=>ρ 0=.slice a1 b.length f1∧ρ 1=.slice b1 b.length f2∧ρ 5=vi i∧m= []∧H'=H∧∀j (h1:j<a.length) (h2:j<b.length),j<i→a[j]=b[j]) (i0:=0) (by omega) (by simp) ?_
  rintro i ρ m H' hi ⟨e0,e1,e5,rfl,rfl,hj⟩
  simp [e0,e5]
  refine wpB_dec (fun hlt=>?_) (fun hge=>?_)
  ·obtain ⟨c1,rfl,hc1,hr1⟩:=ha.at i (by omega)
   obtain ⟨c2,rfl,hc2,hr2⟩:=hb.at i hlt
   by_cases hc:a[i]=b[i]
   ·simp (disch:=omega) [e0,e1,e5,hlt,hr1,hr2,hc,wrap64]
    intro j h1 h2 hji
    by_cases hq:j=i
    ·subst hq; exact hc
    ·exact hj j h1 h2 (by omega)
   ·have hne:¬a=b:=fun h=>hc (by simp [h])
    simp (disch:=omega) [e0,e1,e5,hlt,hr1,hr2,hc,hne]
  ·have he:a=b:=list_eq_of hlen fun j h1 h2=>hj j h1 h2 (by omega)
   simp [he]
 ·have hli:¬(a.length:Int)=b.length:=by omega
  have hne:¬a=b:=fun h=>hlen (by rw [h])
  simp [hli,hne]
end Go.Gm.Tryz
end
section
namespace Go.Gm.Tryz
open Go.Proofs
theorem rin_con (x lo hi:Int) (H:GH):C 19 [vi x,vi lo,vi hi] H (.bool (inI x lo hi)) H:=by
 refine con_wp tok mix fok19 (F:=g19) (c:=_) rfl (n:=15) rfl (rs:= [.tmp 6]) rfl (anch_closed rfl) ?_
 simp
 refine contG_bool (fun h=>?_) (fun h=>?_)<;>(try simp only [decide_eq_true_eq,decide_eq_false_iff_not] at h)<;>simp [h,inI]
theorem r3in_con (x lo hi:Int) (H:GH):C 71 [vi x,vi lo,vi hi] H (.bool (inI x lo hi)) H:=by
 refine con_wp tok mix fok71 (F:=g71) (c:=_) rfl (n:=15) rfl (rs:= [.tmp 6]) rfl (anch_closed rfl) ?_
 simp
 refine contG_bool (fun h=>?_) (fun h=>?_)<;>(try simp only [decide_eq_true_eq,decide_eq_false_iff_not] at h)<;>simp [h,inI]
theorem rDay_con (n:Int) (H:GH):C 5 [vi n] H (.bool (isDayI n)) H:=by
 refine con_wp tok mix fok5 (F:=g5) (c:=_) rfl (n:=5) rfl (rs:= [.tmp 2]) rfl (anch_closed rfl) ?_
 simp
 refine (rin_con _ _ _ _).go ?_
 simp [isDayI]
theorem rGrant_con (n:Int) (H:GH):C 75 [vi n] H (.bool (isGrantI n)) H:=by
 refine con_wp tok mix fok75 (F:=g75) (c:=_) rfl (n:=5) rfl (rs:= [.tmp 2]) rfl (anch_closed rfl) ?_
 simp
 refine (rin_con _ _ _ _).go ?_
 simp [isGrantI]
theorem rNumber_con (n:Int) (H:GH):C 109 [vi n] H (.bool (nisUnitsI n)) H:=by
 refine con_wp tok mix fok109 (F:=g109) (c:=_) rfl (n:=5) rfl (rs:= [.tmp 2]) rfl (anch_closed rfl) ?_
 simp
 refine (r3in_con _ _ _ _).go ?_
 simp [nisUnitsI]
theorem runits_con (n:Int) (H:GH):C 77 [vi n] H (.bool (isUnitsI n)) H:=by
 refine con_wp tok mix fok77 (F:=g77) (c:=_) rfl (n:=9) rfl (rs:= [.tmp 2]) rfl (anch_closed rfl) ?_
 simp
 refine contG_bool (fun h=>?_) (fun h=>?_)<;>(try simp only [decide_eq_true_eq,decide_eq_false_iff_not] at h)
 ·simp [h]
  refine (rNumber_con _ _).go ?_
  have:nisUnitsI n=isUnitsI n:=by
   unfold nisUnitsI isUnitsI inI
   rw [Bool.eq_iff_iff]; simp; omega
  simp [this]
 ·have:isUnitsI n=false:=by unfold isUnitsI inI; simp; omega
  simp [h,this]
theorem restate_con (n:Int) (H:GH):C 74 [vi n] H (.bool (isEstateI n)) H:=by
 refine con_wp tok mix fok74 (F:=g74) (c:=_) rfl (n:=5) rfl (rs:= [.tmp 2]) rfl (anch_closed rfl) ?_
 simp
 refine (rin_con _ _ _ _).go ?_
 simp [isEstateI]
theorem r3System_con (n:Int) (H:GH):C 76 [vi n] H (.bool (isSystemI n)) H:=by
 refine con_wp tok mix fok76 (F:=g76) (c:=_) rfl (n:=9) rfl (rs:= [.tmp 2]) rfl (anch_closed rfl) ?_
 simp
 refine contG_bool (fun h=>?_) (fun h=>?_)<;>(try simp only [Bool.not_eq_true',Bool.not_eq_false',decide_eq_true_eq,decide_eq_false_iff_not] at h)<;>simp [h,isSystemI]
theorem rPerson_con (l:BLoc) (b:Book) (n:Int) (H:GH):C 42 [bookV l b,vi n] H (.bool (isPersonI b n)) H:=by
 refine con_wp tok mix fok42 (F:=g42) (c:=_) rfl (n:=10) rfl (rs:= [.tmp 4]) rfl (anch_closed rfl) ?_
 simp
 refine (rin_con _ _ _ _).go ?_
 simp [isPersonI]
def hasS (k:Int):ByteArray:=
 if k=1 then ⟨#[112,115,117]⟩ else if k=2 then ⟨#[101,115,117]⟩ else if k=3 then ⟨#[112,111]⟩ else if k=4 then ⟨#[101,112]⟩
 else if k=5 then ⟨#[103,117,112]⟩ else if k=6 then ⟨#[101,102]⟩ else if k=7 then ⟨#[103,112]⟩ else if k=8 then ⟨#[112,115,117]⟩ else ⟨#[]⟩
theorem has_none {k:Int} (h:k<1∨8<k):hasS k=⟨#[]⟩:=by unfold hasS; repeat rw [if_neg (by omega)]
theorem has_sel {k:Int} (h:k=1∨k=2∨k=3∨k=4∨k=5∨k=6∨k=7∨k=8):List.take 1 (List.drop (k.toNat - 1) [Value.string ⟨#[112,115,117]⟩,.string ⟨#[101,115,117]⟩,.string ⟨#[112,111]⟩,.string ⟨#[101,112]⟩,.string ⟨#[103,117,112]⟩,.string ⟨#[101,102]⟩,.string ⟨#[103,112]⟩,.string ⟨#[112,115,117]⟩])= [.string (hasS k)]:=by
 rcases h with rfl|rfl|rfl|rfl|rfl|rfl|rfl|rfl<;>rfl
theorem has_con (k:Int) (H:GH):C 72 [vi k] H (.string (hasS k)) H:=by
 refine con_wp tok mix fok72 (F:=g72) (c:=_) rfl (n:=16) rfl (rs:= [.tmp 2]) rfl (anch_closed rfl) ?_
 simp
 refine contG_bool (fun h1=>?_) (fun h1=>?_)<;>(try simp only [Bool.not_eq_true',Bool.not_eq_false',decide_eq_true_eq,decide_eq_false_iff_not] at h1)
 ·simp [h1]
  refine wpB_bool (fun h2=>?_) (fun h2=>?_)<;>(try simp only [decide_eq_true_eq,decide_eq_false_iff_not] at h2)
  ·rw [has_none (.inr h2)]; simp
  ·simp (disch:=omega) [wrap64]
   have:k=1∨k=2∨k=3∨k=4∨k=5∨k=6∨k=7∨k=8:=by omega
   have hk:k≤8:=by omega
   rw [if_pos hk,has_sel this]
   simp
 ·rw [has_none (.inl h1)]; simp [h1]
def withB (s:ByteArray) (c:Int):Bool:=s.data.toList.any fun b=>decide ((b.toNat:Int)=c)
theorem with_con (s:ByteArray) (hs:s.size≤1000000) (c:Int) (H:GH):C 73 [.string s,.int .u8 c] H (.bool (withB s c)) H:=by
 refine con_wp tok mix fok73 (F:=g73) (c:=_) rfl (n:=17) rfl (rs:= [.tmp 4]) rfl (anch_closed rfl) ?_
 simp
 refine wp_up tok mix (by kernel_rfl) s.size (fun i ρ m H'=>ρ 0=.string s∧ρ 1=.int .u8 c∧ρ 5=vi i∧m= []∧H'=H∧∀j (h:j<s.data.size),j<i→¬((s.data[j].toNat:Int)=c)) (i0:=0) (by omega) (by simp) ?_
 rintro i ρ m H' hi ⟨e0,e1,e5,rfl,rfl,hj⟩
 simp [e0,e5]
 have hsz:s.data.size=s.size:=rfl
 refine wpB_dec (fun hlt=>?_) (fun hge=>?_)
 ·have hlt':i<s.data.size:=by omega
  have hat:s.data[i]?=some s.data[i]:=Array.getElem?_eq_getElem hlt'
  by_cases hc:((s.data[i].toNat:Int)=c)
  ·have:withB s c=true:=List.any_eq_true.2 ⟨s.data[i],by simp,by simpa using hc⟩
   rw [this]
   simp (disch:=omega) [e0,e1,e5,hlt,ixS,hc]
  ·simp (disch:=omega) [e0,e1,e5,hlt,ixS,wrap64,hc]
   intro j h hji
   by_cases hq:j=i
   ·subst hq; exact hc
   ·exact hj j h (by omega)
 ·have:withB s c=false:=by
   unfold withB
   rw [List.any_eq_false]
   intro x hx
   obtain ⟨j,hjl,rfl⟩:=List.mem_iff_getElem.1 hx
   simp at hjl ⊢
   exact hj j hjl (by omega)
  simp [this]
end Go.Gm.Tryz
end
section
namespace Go.Gm
theorem wp_mid {X:Cx} {a:Code} {K:Rho→List Nat→GH→Prop} {Q:VQ} {ρ:Rho} {m:List Nat} {H:GH} (P:Rho→List Nat→GH→Prop) (h:wpC X a (fun x ρ m H=>x=.normal∧P ρ m H) ρ m H) (hk:∀ρ m H,P ρ m H→K ρ m H):wpC X a (seqQ K Q) ρ m H:=
 wpC_mono h fun x ρ m H hx=>by obtain ⟨rfl,hp⟩:=hx; exact hk _ _ _ hp
end Go.Gm
namespace Go.Gm.Tryz
open Go.Proofs
theorem hasS_size (k:Int):(hasS k).size≤1000000:=by
 unfold hasS
 repeat' split
 all_goals decide
def fieldB (s:ByteArray) (c:Int) (ok:Bool) (n:Int):Bool:=(withB s c&&ok)||(!withB s c&&decide (n=0))
def evRef (b:Book) (x:Ev):Bool:=
 let s:=hasS x.kind
 if s.data= #[] then false else isDayI x.day&&(fieldB s 112 (isPersonI b x.person) x.person&&
  ((withB s 111&&isPersonI b x.other||(withB s 102&&isEstateI x.other||(!withB s 111&&(!withB s 102&&decide (x.other=0)))))&&
  (fieldB s 101 (isEstateI x.estate) x.estate&&(fieldB s 103 (isGrantI x.grant) x.grant&&(fieldB s 115 (isSystemI x.system) x.system&&fieldB s 117 (isUnitsI x.units) x.units)))))
theorem rEvent_con (l:BLoc) (b:Book) (x:Ev) (H:GH):C 43 [bookV l b,evV x] H (.bool (evRef b x)) H:=by
 refine con_wp tok mix fok43 (F:=g43) (c:=_) rfl (n:=157) rfl (rs:= [.tmp 4]) rfl (anch_closed rfl) ?_
 simp
 refine (has_con _ _).go ?_
 simp
 generalize hs:hasS x.kind=s
 have hsz:s.size≤1000000:=by rw [←hs]; exact hasS_size _
 refine contG_bool (fun h1=>?_) (fun h1=>?_)<;>(try simp only [Bool.not_eq_true',Bool.not_eq_false',decide_eq_true_eq,decide_eq_false_iff_not] at h1)
 ·simp [h1]
  refine (rDay_con _ _).go ?_
  simp
  generalize hH1:GH.push (GH.push H _) _=H1
  have k0:H1.get H.next=some (.arr { cells:=bookC l b,ty:=28 }):=by subst hH1; simp
  have k1:H1.get (H.next+1)=some (.arr { cells:=encEv x,ty:=103 }):=by subst hH1; simp
  have hsub:Sub H H1:=by subst hH1; exact (Sub.push (.refl H) _).push _
  clear hH1
  refine wpB_bool (fun h2=>?_) (fun h2=>?_)<;>(try simp only [Bool.not_eq_true',Bool.not_eq_false'] at h2)
  ·have hF:evRef b x=false:=by simp [evRef,hs,h1,h2]
   simp [hF]
   exact hsub
  refine wp_mid (fun ρ m H'=>ρ 2=.pointer (some (ga H.next 0 0))∧ρ 3=.pointer (some (ga (H.next+1) 0 0))∧ρ 5=.string s∧ρ 6=.bool (fieldB s 112 (isPersonI b x.person) x.person)∧m= []∧H'=H1) ?_ ?_
  ·have hf:fieldB s 112 (isPersonI b x.person) x.person=(withB s 112&&isPersonI b x.person|| !withB s 112&&decide (x.person=0)):=rfl
   cases hw:withB s 112<;>cases hp:isPersonI b x.person<;>simp only [hw,hp] at hf<;>simp [*]
   repeat' (first
    |(with_reducible refine (with_con s hsz _ _).go ?_; simp [*])
    |(with_reducible refine (rPerson_con l b _ _).go ?_; simp [*])
    |(with_reducible refine (restate_con _ _).go ?_; simp [*])
    |(with_reducible refine (rGrant_con _ _).go ?_; simp [*])
    |(with_reducible refine (r3System_con _ _).go ?_; simp [*])
    |(with_reducible refine (runits_con _ _).go ?_; simp [*]))
  rintro ρ m H1 ⟨e2,e3,e5,e6,rfl,rfl⟩
  refine wp_mid (fun ρ m H'=>ρ 2=.pointer (some (ga H.next 0 0))∧ρ 3=.pointer (some (ga (H.next+1) 0 0))∧ρ 5=.string s∧ρ 6=.bool (fieldB s 112 (isPersonI b x.person) x.person)∧ρ 7=.bool (withB s 111&&isPersonI b x.other||(withB s 102&&isEstateI x.other||(!withB s 111&&(!withB s 102&&decide (x.other=0)))))∧m= []∧H'=H1) ?_ ?_
  ·cases hw:withB s 111<;>cases hw2:withB s 102<;>cases hp:isPersonI b x.other<;>cases hp2:isEstateI x.other<;>simp [*]
   repeat' (first
    |(with_reducible refine (with_con s hsz _ _).go ?_; simp [*])
    |(with_reducible refine (rPerson_con l b _ _).go ?_; simp [*])
    |(with_reducible refine (restate_con _ _).go ?_; simp [*])
    |(with_reducible refine (rGrant_con _ _).go ?_; simp [*])
    |(with_reducible refine (r3System_con _ _).go ?_; simp [*])
    |(with_reducible refine (runits_con _ _).go ?_; simp [*]))
  rintro ρ m H1 ⟨e2,e3,e5,e6,e7,rfl,rfl⟩
  refine wp_mid (fun ρ m H'=>ρ 2=.pointer (some (ga H.next 0 0))∧ρ 3=.pointer (some (ga (H.next+1) 0 0))∧ρ 5=.string s∧ρ 6=.bool (fieldB s 112 (isPersonI b x.person) x.person)∧ρ 7=.bool (withB s 111&&isPersonI b x.other||(withB s 102&&isEstateI x.other||(!withB s 111&&(!withB s 102&&decide (x.other=0)))))∧ρ 8=.bool (fieldB s 101 (isEstateI x.estate) x.estate)∧m= []∧H'=H1) ?_ ?_
  ·have hf:fieldB s 101 (isEstateI x.estate) x.estate=(withB s 101&&isEstateI x.estate|| !withB s 101&&decide (x.estate=0)):=rfl
   cases hw:withB s 101<;>cases hp:isEstateI x.estate<;>simp only [hw,hp] at hf<;>simp [*]
   repeat' (first
    |(with_reducible refine (with_con s hsz _ _).go ?_; simp [*])
    |(with_reducible refine (rPerson_con l b _ _).go ?_; simp [*])
    |(with_reducible refine (restate_con _ _).go ?_; simp [*])
    |(with_reducible refine (rGrant_con _ _).go ?_; simp [*])
    |(with_reducible refine (r3System_con _ _).go ?_; simp [*])
    |(with_reducible refine (runits_con _ _).go ?_; simp [*]))
  rintro ρ m H1 ⟨e2,e3,e5,e6,e7,e8,rfl,rfl⟩
  refine wp_mid (fun ρ m H'=>ρ 2=.pointer (some (ga H.next 0 0))∧ρ 3=.pointer (some (ga (H.next+1) 0 0))∧ρ 5=.string s∧ρ 6=.bool (fieldB s 112 (isPersonI b x.person) x.person)∧ρ 7=.bool (withB s 111&&isPersonI b x.other||(withB s 102&&isEstateI x.other||(!withB s 111&&(!withB s 102&&decide (x.other=0)))))∧ρ 8=.bool (fieldB s 101 (isEstateI x.estate) x.estate)∧ρ 9=.bool (fieldB s 103 (isGrantI x.grant) x.grant)∧m= []∧H'=H1) ?_ ?_
  ·have hf:fieldB s 103 (isGrantI x.grant) x.grant=(withB s 103&&isGrantI x.grant|| !withB s 103&&decide (x.grant=0)):=rfl
   cases hw:withB s 103<;>cases hp:isGrantI x.grant<;>simp only [hw,hp] at hf<;>simp [*]
   repeat' (first
    |(with_reducible refine (with_con s hsz _ _).go ?_; simp [*])
    |(with_reducible refine (rPerson_con l b _ _).go ?_; simp [*])
    |(with_reducible refine (restate_con _ _).go ?_; simp [*])
    |(with_reducible refine (rGrant_con _ _).go ?_; simp [*])
    |(with_reducible refine (r3System_con _ _).go ?_; simp [*])
    |(with_reducible refine (runits_con _ _).go ?_; simp [*]))
  rintro ρ m H1 ⟨e2,e3,e5,e6,e7,e8,e9,rfl,rfl⟩
  refine wp_mid (fun ρ m H'=>ρ 2=.pointer (some (ga H.next 0 0))∧ρ 3=.pointer (some (ga (H.next+1) 0 0))∧ρ 5=.string s∧ρ 6=.bool (fieldB s 112 (isPersonI b x.person) x.person)∧ρ 7=.bool (withB s 111&&isPersonI b x.other||(withB s 102&&isEstateI x.other||(!withB s 111&&(!withB s 102&&decide (x.other=0)))))∧ρ 8=.bool (fieldB s 101 (isEstateI x.estate) x.estate)∧ρ 9=.bool (fieldB s 103 (isGrantI x.grant) x.grant)∧ρ 10=.bool (fieldB s 115 (isSystemI x.system) x.system)∧m= []∧H'=H1) ?_ ?_
  ·have hf:fieldB s 115 (isSystemI x.system) x.system=(withB s 115&&isSystemI x.system|| !withB s 115&&decide (x.system=0)):=rfl
   cases hw:withB s 115<;>cases hp:isSystemI x.system<;>simp only [hw,hp] at hf<;>simp [*]
   repeat' (first
    |(with_reducible refine (with_con s hsz _ _).go ?_; simp [*])
    |(with_reducible refine (rPerson_con l b _ _).go ?_; simp [*])
    |(with_reducible refine (restate_con _ _).go ?_; simp [*])
    |(with_reducible refine (rGrant_con _ _).go ?_; simp [*])
    |(with_reducible refine (r3System_con _ _).go ?_; simp [*])
    |(with_reducible refine (runits_con _ _).go ?_; simp [*]))
  rintro ρ m H1 ⟨e2,e3,e5,e6,e7,e8,e9,e10,rfl,rfl⟩
  refine wp_mid (fun ρ m H'=>ρ 2=.pointer (some (ga H.next 0 0))∧ρ 3=.pointer (some (ga (H.next+1) 0 0))∧ρ 5=.string s∧ρ 6=.bool (fieldB s 112 (isPersonI b x.person) x.person)∧ρ 7=.bool (withB s 111&&isPersonI b x.other||(withB s 102&&isEstateI x.other||(!withB s 111&&(!withB s 102&&decide (x.other=0)))))∧ρ 8=.bool (fieldB s 101 (isEstateI x.estate) x.estate)∧ρ 9=.bool (fieldB s 103 (isGrantI x.grant) x.grant)∧ρ 10=.bool (fieldB s 115 (isSystemI x.system) x.system)∧ρ 11=.bool (fieldB s 117 (isUnitsI x.units) x.units)∧m= []∧H'=H1) ?_ ?_
  ·have hf:fieldB s 117 (isUnitsI x.units) x.units=(withB s 117&&isUnitsI x.units|| !withB s 117&&decide (x.units=0)):=rfl
   cases hw:withB s 117<;>cases hp:isUnitsI x.units<;>simp only [hw,hp] at hf<;>simp [*]
   repeat' (first
    |(with_reducible refine (with_con s hsz _ _).go ?_; simp [*])
    |(with_reducible refine (rPerson_con l b _ _).go ?_; simp [*])
    |(with_reducible refine (restate_con _ _).go ?_; simp [*])
    |(with_reducible refine (rGrant_con _ _).go ?_; simp [*])
    |(with_reducible refine (r3System_con _ _).go ?_; simp [*])
    |(with_reducible refine (runits_con _ _).go ?_; simp [*]))
  rintro ρ m H1 ⟨e2,e3,e5,e6,e7,e8,e9,e10,e11,rfl,rfl⟩
  have hev:evRef b x=(fieldB s 112 (isPersonI b x.person) x.person&&((withB s 111&&isPersonI b x.other||(withB s 102&&isEstateI x.other||(!withB s 111&&(!withB s 102&&decide (x.other=0)))))&&(fieldB s 101 (isEstateI x.estate) x.estate&&(fieldB s 103 (isGrantI x.grant) x.grant&&(fieldB s 115 (isSystemI x.system) x.system&&fieldB s 117 (isUnitsI x.units) x.units))))):=by
   simp [evRef,hs,h1,h2]
  rw [hev]
  generalize fieldB s 112 (isPersonI b x.person) x.person=a1 at e6 ⊢
  generalize (withB s 111&&isPersonI b x.other||(withB s 102&&isEstateI x.other||(!withB s 111&&(!withB s 102&&decide (x.other=0)))))=a2 at e7 ⊢
  generalize fieldB s 101 (isEstateI x.estate) x.estate=a3 at e8 ⊢
  generalize fieldB s 103 (isGrantI x.grant) x.grant=a4 at e9 ⊢
  generalize fieldB s 115 (isSystemI x.system) x.system=a5 at e10 ⊢
  generalize fieldB s 117 (isUnitsI x.units) x.units=a6 at e11 ⊢
  cases a1<;>cases a2<;>cases a3<;>cases a4<;>cases a5<;>simp [*]
 ·have hF:evRef b x=false:=by simp [evRef,hs,h1]
  simp [h1,hF]
theorem evRef_eq (b:Book) (x:Ev):evRef b x=isEventB b x:=by
 by_cases hk:x.kind<1∨8<x.kind
 ·have e1:evRef b x=false:=by simp [evRef,has_none hk]
  have e2:isEventB b x=false:=by
   unfold isEventB
   repeat rw [if_neg (by omega)]
   simp
  rw [e1,e2]
 ·have:x.kind=1∨x.kind=2∨x.kind=3∨x.kind=4∨x.kind=5∨x.kind=6∨x.kind=7∨x.kind=8:=by omega
  unfold evRef isEventB
  rcases this with h|h|h|h|h|h|h|h<;>rw [h]<;>simp [hasS,fieldB,withB,emptyB,Bool.and_assoc]
  all_goals ac_rfl
end Go.Gm.Tryz
end
section
namespace Go.Gm.Tryz
open Go.Proofs
theorem r3Table_con (l:TLoc) (t:Tbl) (H:GH) (ht:TblIn H l t) (hl:t.rows.length≤1000000):C 41 [tblV l t] H (.bool (isTableB t)) H:=by
 rcases l with ⟨⟨ra,rf⟩⟩
 refine con_wp tok mix fok41 (F:=g41) (c:=_) rfl (n:=42) rfl (rs:= [.tmp 2]) rfl (anch_closed rfl) ?_
 simp
 generalize hH1:GH.push H _=H1
 have k0:H1.get H.next=some (.arr { cells:= [.slice ra t.rows.length rf,vi t.draw],ty:=24 }):=by subst hH1; simp
 have hsub:Sub H H1:=by subst hH1; exact Sub.push (.refl H) _
 have hn1:H.next<H1.next:=by subst hH1; simp
 have ht1:=ht.mono hsub
 clear hH1
 refine wp_up tok mix (by kernel_rfl) t.rows.length (fun i ρ m H'=>ρ 1=.pointer (some (ga H.next 0 0))∧ρ 3=vi i∧m= []∧Sub H1 H'∧∀j (h:j<t.rows.length),j<i→rowBad t.rows[j]=false) (i0:=0) (by omega) (by simp) ?_
 rintro i ρ m H' hi ⟨e1,e3,rfl,hs,hj⟩
 have hg:=hs.2 H.next hn1
 rw [k0] at hg
 have hn:H.next<H'.next:=by have:=hs.1; omega
 simp [e1,e3,hg]
 refine wpB_dec (fun hlt=>?_) (fun hge=>?_)
 ·obtain ⟨a,ha,hal,hrd⟩:=(ht1.mono hs).at i hlt
  simp only at ha
  subst ha
  simp (disch:=omega) [e1,e3,hg,hlt,hrd]
  refine (r3in_con _ _ _ _).go ?_
  simp
  have hlater:∀j (h:j<t.rows.length),rowBad t.rows[i]=false→j<i+1→rowBad t.rows[j]=false:=fun j h hb hji=>by
   by_cases hq:j=i
   ·subst hq; exact hb
   ·exact hj j h (by omega)
  have hbadT:rowBad t.rows[i]=true→isTableB t=false:=fun hb=>by
   have:t.rows.any rowBad=true:=List.any_eq_true.2 ⟨_,List.getElem_mem hlt,hb⟩
   simp [isTableB,this]
  cases q1:inI t.rows[i].first 1 60
  ·rw [hbadT (by simp [rowBad,q1])]
   simp
   exact hsub.trans ((hs.push _).put hs.1 _)
  simp (disch:=omega)
  refine (r3in_con _ _ _ _).go ?_
  simp
  cases q2:inI t.rows[i].second 1 60
  ·rw [hbadT (by simp [rowBad,q2])]
   simp
   exact hsub.trans ((hs.push _).put hs.1 _)
  simp (disch:=omega)
  refine (r3in_con _ _ _ _).go ?_
  simp
  cases q3:inI t.rows[i].gives 1 1000
  ·rw [hbadT (by simp [rowBad,q3])]
   simp
   exact hsub.trans ((hs.push _).put hs.1 _)
  simp (disch:=omega) [e1,e3,wrap64]
  exact ⟨(hs.push _).put hs.1 _,fun j h hji=>hlater j h (by simp [rowBad,q1,q2,q3]) hji⟩
 ·have hnb:t.rows.any rowBad=false:=by
   rw [List.any_eq_false]
   intro x hx
   obtain ⟨j,hjl,rfl⟩:=List.mem_iff_getElem.1 hx
   rw [hj j hjl (by omega)]; simp
  simp [e1,hg]
  refine (r3in_con _ _ _ _).go ?_
  simp
  cases q1:inI (t.rows.length:Int) 1 12
  ·simp [isTableB,q1]
   exact hsub.trans hs
  simp [e1,hg]
  refine (r3in_con _ _ _ _).go ?_
  simp [isTableB,q1,hnb]
  exact hsub.trans hs
theorem rBook_con (l:BLoc) (b:Book) (H:GH) (hb:BookIn H l b) (hl:b.tbl.rows.length≤1000000):C 17 [bookV l b] H (.bool (isBookB b)) H:=by
 rcases l with ⟨⟨⟨ra,rf⟩⟩,⟨oa,of'⟩,⟨va,vf⟩⟩
 refine con_wp tok mix fok17 (F:=g17) (c:=_) rfl (n:=89) rfl (rs:= [.tmp 2]) rfl (anch_closed rfl) ?_
 simp
 generalize hH1:GH.push H _=H1
 have hs1:Sub H H1:=by subst hH1; exact Sub.push (.refl H) _
 have hg1:H1.get H.next=some (.arr { cells:=bookC ⟨⟨⟨ra,rf⟩⟩,⟨oa,of'⟩,⟨va,vf⟩⟩ b,ty:=28 }):=by subst hH1; simp
 have hn1:H.next<H1.next:=by subst hH1; simp
 have hb1:=hb.mono hs1
 clear hH1
 have hst:∀H',Sub H1 H'→Sub H H':=fun H' h=>hs1.trans h
 with_reducible refine (r3Table_con ⟨⟨_,_⟩⟩ b.tbl _ hb1.t hl).go ?_
 simp
 cases ht:isTableB b.tbl
 case false=>simp [isBookB,ht]; exact hs1
 simp [hg1]
 with_reducible refine (rin_con _ _ _ _).go ?_
 simp
 cases h1:inI b.supply 0 10000
 case false=>simp [h1,isBookB]; exact hs1
 simp [hg1]
 with_reducible refine (rin_con _ _ _ _).go ?_
 simp
 cases h2:inI b.term 0 1000
 case false=>simp [h2,isBookB]; exact hs1
 simp [hg1]
 with_reducible refine (rin_con _ _ _ _).go ?_
 simp
 cases h3:inI b.persons 1 8
 case false=>simp [h3,isBookB]; exact hs1
 simp [hg1]
 refine contG_bool (fun h4=>?_) (fun h4=>?_)<;>(try simp only [Bool.not_eq_true',Bool.not_eq_false',decide_eq_true_eq,decide_eq_false_iff_not] at h4)
 case refine_2=>
  have:¬b.owners.length≤6:=by omega
  simp [h4,isBookB,this]; exact hs1
 simp [h4,hg1]
 refine wpB_bool (fun h5=>?_) (fun h5=>?_)<;>(try simp only [decide_eq_true_eq,decide_eq_false_iff_not] at h5)
 ·have:¬b.events.length≤12:=by omega
  simp [h5,isBookB,this]; exact hs1
 simp [h5]
 refine wp_up tok mix (by kernel_rfl) b.owners.length (fun i ρ m H'=>ρ 1=.pointer (some (ga H.next 0 0))∧ρ 3=vi i∧m= []∧H'=H1∧∀j (h:j<b.owners.length),j<i→isPersonI b b.owners[j]=true) (i0:=0) (by omega) (by simp) ?_
 rintro i ρ m H1 hi ⟨e1,e3,rfl,rfl,hj⟩
 simp [e1,e3,hg1]
 refine wpB_dec (fun hlt=>?_) (fun hge=>?_)
 ·obtain ⟨a,ha,hal,hrd⟩:=hb1.owners.at i hlt
  simp only at ha
  subst ha
  simp (disch:=omega) [e1,e3,hg1,hlt,hrd]
  with_reducible refine (rPerson_con ⟨⟨⟨_,_⟩⟩,⟨_,_⟩,⟨_,_⟩⟩ b b.owners[i] _).go ?_
  simp (disch:=omega)
  cases hp:isPersonI b b.owners[i]
  ·have hF:isBookB b=false:=by
    have:b.owners.any (fun n=> !isPersonI b n)=true:=List.any_eq_true.2 ⟨_,List.getElem_mem hlt,by simp [hp]⟩
    simp [isBookB,this]
   simp [hF]; exact hs1
  ·simp (disch:=omega) [e1,e3,wrap64]
   intro j h hji
   by_cases hq:j=i
   ·subst hq; exact hp
   ·exact hj j h (by omega)
 have hown:b.owners.any (fun n=> !isPersonI b n)=false:=by
  rw [List.any_eq_false]
  intro x hx
  obtain ⟨j,hjl,rfl⟩:=List.mem_iff_getElem.1 hx
  rw [hj j hjl (by omega)]; simp
 clear hj
 simp
 refine wp_up tok mix (by kernel_rfl) b.events.length (fun i ρ m H'=>ρ 1=.pointer (some (ga H.next 0 0))∧ρ 4=vi i∧m= []∧H'=H1∧∀j,j<i→badAt b j=false) (i0:=0) (by omega) (by simp [e1]) ?_
 rintro i ρ m H1 hi ⟨e1,e4,rfl,rfl,hj⟩
 simp [e1,e4,hg1]
 refine wpB_dec (fun hlt=>?_) (fun hge=>?_)
 case refine_2=>
  have h6:b.owners.length≤6:=by omega
  have h7:b.events.length≤12:=by omega
  have h8:(List.range b.events.length).all (fun i=> !badAt b i)=true:=by
   rw [List.all_eq_true]
   intro j hjm
   rw [hj j (by have:=List.mem_range.1 hjm; omega)]; rfl
  simp [isBookB,ht,h1,h2,h3,h6,h7,h8,hown]
  exact hs1
 have hbadF:badAt b i=true→isBookB b=false:=fun hb=>by
  have:(List.range b.events.length).all (fun i=> !badAt b i)=false:=by
   rw [List.all_eq_false]
   exact ⟨i,List.mem_range.2 hlt,by simp [hb]⟩
  simp [isBookB,this]
 have hnext:badAt b i=false→∀j,j<i+1→badAt b j=false:=fun hb j hji=>by
  by_cases hq:j=i
  ·subst hq; exact hb
  ·exact hj j (by omega)
 have hbad:badAt b i=(!isEventB b b.events[i]||(decide (0<i)&&decide (b.events[i].day<(b.events.getD (i - 1) default).day))):=by
  unfold badAt
  rw [getD_at hlt]
 obtain ⟨a,ha,hal,hrd⟩:=hb1.events.at i hlt
 simp only at ha
 subst ha
 simp (disch:=omega) [e1,e4,hg1,hlt,hrd]
 with_reducible refine (rEvent_con ⟨⟨⟨_,_⟩⟩,⟨_,_⟩,⟨_,_⟩⟩ b b.events[i] _).go ?_
 rw [evRef_eq]
 simp (disch:=omega)
 cases hev:isEventB b b.events[i]
 ·rw [hbadF (by rw [hbad,hev]; rfl)]
  simp; exact hs1
 simp (disch:=omega) [e4]
 refine planG_bool (fun h6=>?_) (fun h6=>?_)<;>(try simp only [decide_eq_true_eq,decide_eq_false_iff_not] at h6)
 ·have hi0:0<i:=by omega
  obtain ⟨a',ha',_,hr'⟩:=hb1.events.at (i - 1) (by omega)
  simp only at ha'
  cases ha'
  have e9:((i:Int) - 1).toNat=i - 1:=by omega
  have hgd:b.events[i - 1]=b.events.getD (i - 1) default:=(getD_at (by omega)).symm
  simp (disch:=omega) [e1,e4,hg1,hrd,wrap64,e9,hr',h6]
  refine wpB_bool (fun h7=>?_) (fun h7=>?_)<;>(try simp only [decide_eq_true_eq,decide_eq_false_iff_not] at h7)
  ·rw [hbadF (by rw [hbad,hev,←hgd]; simp [hi0,h7])]
   simp; exact hs1
  ·simp (disch:=omega) [e1,e4,wrap64]
   exact hnext (by rw [hbad,hev,←hgd]; simp [h7])
 ·simp (disch:=omega) [e1,e4,h6,wrap64]
  exact hnext (by rw [hbad,hev]; simp [h6])
def shortB (b:Book):Bool:=decide (b.tbl.rows.length≤15)&&(decide (b.owners.length≤8)&&(decide (b.events.length≤14)&&(decide (b.tbl.rows.length≤4)|| !isTableB b.tbl)))
end Go.Gm.Tryz
end
section
namespace Go.Gm.Tryz
open Go.Proofs
theorem book_days {x:Book} (h:isBookB x=true):∀e∈x.events,e.day≤36500:=by
 intro e he
 obtain ⟨i,hi,rfl⟩:=List.mem_iff_getElem.1 he
 unfold isBookB at h
 simp only [Bool.and_eq_true,List.all_eq_true,List.mem_range] at h
 have h1:=h.1.2 i hi
 unfold badAt at h1
 rw [getD_at hi] at h1
 simp at h1
 have h2:=h1.1
 unfold isEventB at h2
 simp [isDayI,inI] at h2
 omega
theorem replicate_flat {α:Type} (enc:α→List Value) (x:α):∀n:Nat,(List.replicate n x).flatMap enc=replicateL n (enc x):=by
 intro n
 induction n with
 |zero=>rfl
 |succ n ih=>rw [List.replicate_succ,List.flatMap_cons,ih]; rfl
end Go.Gm.Tryz
end
section
namespace Go.Gm.Tryz
open Go.Proofs
structure Agr (N:Nat) (b c:Book):Prop where
 tbl:b.tbl=c.tbl
 sup:b.supply=c.supply
 term:b.term=c.term
 per:b.persons=c.persons
 own:b.owners=c.owners
 ev:∀n:Int,n.toNat<N→evAt b n=evAt c n
def LtW (N:Nat) (s:Stand):Prop:=∀w∈s.waits,w.toNat<N
def runS (b:Book):List Ev→Nat→Stand→Nat⊕Stand
 | [],_,s=>.inr s
 |e::es,n,s=>if goesB b (pass b s e.day) e then runS b es (n+1) (serve b (doS b (pass b s e.day) e n)) else .inl n
theorem upFrom_run {b:Book} {d:Int}:∀ {es:List Ev} {n:Nat} {s:Stand},(∀e∈es,e.day≤d)→upFrom b d es n s=match runS b es n s with| .inl k=>.inl k| .inr t=>.inr (pass b t d):=by
 intro es
 induction es with
 |nil=>intro n s _; rfl
 |cons e es ih=>
  intro n s hd
  have h1:¬e.day>d:=by have:=hd e (by simp); omega
  simp only [upFrom,runS,if_neg h1]
  split
  ·exact ih fun x hx=>hd x (by simp [hx])
  ·rfl
theorem wrong_run {b:Book} (hB:isBookB b=true):wrongO b=match runS b b.events 0 (start b) with| .inl k=>some (k:Int)| .inr _=>none:=by
 unfold wrongO upS
 rw [upFrom_run (book_days hB)]
 cases runS b b.events 0 (start b)<;>rfl
theorem wrongO_nonneg {b:Book} {n:Int} (h:wrongO b=some n):0≤n:=by
 unfold wrongO at h
 split at h
 ·cases h; omega
 ·cases h
end Go.Gm.Tryz
end
section
namespace Go.Gm.Tryz
open Go.Proofs
def SlOk (s:SLoc) (sz:Nat):Prop:=(s.a=none∧s.fl=0)∨∃a,s.a=some a∧s.fl=sz
end Go.Gm.Tryz
end
section
namespace Go.Gm.Tryz
open Go.Proofs Go.Proofs.YthfchbkbhcageaaGreatDoor
theorem own:ownKnob Tryz.prog.godebug=none:=by kernel_rfl
theorem laidOut:laidOutB Tryz.prog=true:=by kernel_rfl
theorem and_tt {a b:Bool} (h:a=true) (k:b=true):(a&&b)=true:=by rw [h,k]; rfl
abbrev dI:DT:=.int .i64
def dRow:DT:=.struct (.cons dI (.cons dI (.cons dI .nil)))
def dTbl:DT:=.struct (.cons (.slice dRow) (.cons dI .nil))
def dEv:DT:=.struct (.cons dI (.cons dI (.cons dI (.cons dI (.cons dI (.cons dI (.cons dI (.cons dI .nil))))))))
def dBook:DT:=.struct (.cons dTbl (.cons dI (.cons dI (.cons dI (.cons (.slice dI) (.cons (.slice dEv) .nil))))))
theorem fitI:Fit Tryz.prog dI 3:=.int Tryz.underlying3
theorem fitRow:Fit Tryz.prog dRow 124:=.struct Tryz.underlying124 (by kernel_rfl) (.cons rfl (by kernel_rfl) fitI (.cons rfl (by kernel_rfl) fitI (.cons rfl (by kernel_rfl) fitI .nil)))
theorem fitTbl:Fit Tryz.prog dTbl 24:=.struct Tryz.underlying24 (by kernel_rfl) (.cons rfl (by kernel_rfl) (.slice Tryz.underlying22 (by kernel_rfl) (by decide) fitRow) (.cons rfl (by kernel_rfl) fitI .nil))
theorem fitEv:Fit Tryz.prog dEv 103:=.struct Tryz.underlying103 (by kernel_rfl) (.cons rfl (by kernel_rfl) (.int Tryz.underlying101) (.cons rfl (by kernel_rfl) fitI (.cons rfl (by kernel_rfl) fitI (.cons rfl (by kernel_rfl) fitI (.cons rfl (by kernel_rfl) fitI (.cons rfl (by kernel_rfl) fitI (.cons rfl (by kernel_rfl) (.int Tryz.underlying43) (.cons rfl (by kernel_rfl) fitI .nil))))))))
theorem fitBook:Fit Tryz.prog dBook 28:=.struct Tryz.underlying28 (by kernel_rfl) (.cons rfl (by kernel_rfl) fitTbl (.cons rfl (by kernel_rfl) fitI (.cons rfl (by kernel_rfl) fitI (.cons rfl (by kernel_rfl) fitI
 (.cons rfl (by kernel_rfl) (.slice Tryz.underlying25 (by kernel_rfl) (by decide) fitI) (.cons rfl (by kernel_rfl) (.slice Tryz.underlying26 (by kernel_rfl) (by decide) fitEv) .nil))))))
theorem lie_elems {α:Type} {H:GH} {e:DT} {enc:α→List Value} {sz:Nat} (hsz:e.sz=sz) (hl:∀x,(enc x).length=sz) (hdec:∀cs,Lie H e cs→∃x,cs=enc x) {cs:List Value} (h:Lie H (.slice e) cs):
  ∃(s:SLoc) (l:List α),cs= [.slice s.a l.length s.fl]∧Elems H s.a sz enc l∧SlOk s sz:=by
 subst hsz
 rcases h with rfl|⟨a,ls,rfl,hm,hb,hr,hx⟩
 ·exact ⟨⟨none,0⟩,[],rfl,⟨hl,fun c hc=>(by cases hc),fun _=>rfl⟩,.inl ⟨rfl,rfl⟩⟩
 ·have hex:∃l:List α,ls=l.map enc:=by
   clear hr hm
   induction ls with
   |nil=>exact ⟨[],rfl⟩
   |cons c ls ih=>
    obtain ⟨l,rfl⟩:=ih fun x hxm=>hx x (List.mem_cons_of_mem _ hxm)
    obtain ⟨x,rfl⟩:=hdec c (hx c (List.mem_cons_self ..)).2
    exact ⟨x::l,rfl⟩
  obtain ⟨l,rfl⟩:=hex
  refine ⟨⟨some a,e.sz⟩,l,by simp,⟨hl,fun c hc=>?_,fun hc=>by cases hc⟩,.inr ⟨a,rfl,rfl⟩⟩
  cases hc
  rw [List.length_map] at hr
  exact ⟨hb,by rw [hr,List.flatMap_def]⟩
theorem lie_cons {H:GH} {d r:DT} {cs:List Value} (h:Lie H (.cons d r) cs):∃a b,cs=a++b∧Lie H d a∧Lie H r b:=by
 obtain ⟨a,b,e,_,h1,h2⟩:=h; exact ⟨a,b,e,h1,h2⟩
theorem lie_int {H:GH} {cs:List Value} (h:Lie H dI cs):∃n,cs= [vi n]:=by obtain ⟨n,e,_⟩:=h; exact ⟨n,e⟩
theorem lie_I (H:GH) (cs:List Value) (h:Lie H dI cs):∃n,cs=encI n:=lie_int h
theorem lie_row (H:GH) (cs:List Value) (h:Lie H dRow cs):∃x,cs=encRow x:=by
 obtain ⟨_,_,rfl,h1,h⟩:=lie_cons h
 obtain ⟨_,_,rfl,h2,h⟩:=lie_cons h
 obtain ⟨_,_,rfl,h3,h⟩:=lie_cons h
 obtain rfl:_= []:=h
 obtain ⟨a,rfl⟩:=lie_int h1
 obtain ⟨b,rfl⟩:=lie_int h2
 obtain ⟨c,rfl⟩:=lie_int h3
 exact ⟨⟨a,b,c⟩,rfl⟩
theorem lie_ev (H:GH) (cs:List Value) (h:Lie H dEv cs):∃x,cs=encEv x:=by
 obtain ⟨_,_,rfl,h1,h⟩:=lie_cons h
 obtain ⟨_,_,rfl,h2,h⟩:=lie_cons h
 obtain ⟨_,_,rfl,h3,h⟩:=lie_cons h
 obtain ⟨_,_,rfl,h4,h⟩:=lie_cons h
 obtain ⟨_,_,rfl,h5,h⟩:=lie_cons h
 obtain ⟨_,_,rfl,h6,h⟩:=lie_cons h
 obtain ⟨_,_,rfl,h7,h⟩:=lie_cons h
 obtain ⟨_,_,rfl,h8,h⟩:=lie_cons h
 obtain rfl:_= []:=h
 obtain ⟨a1,rfl⟩:=lie_int h1
 obtain ⟨a2,rfl⟩:=lie_int h2
 obtain ⟨a3,rfl⟩:=lie_int h3
 obtain ⟨a4,rfl⟩:=lie_int h4
 obtain ⟨a5,rfl⟩:=lie_int h5
 obtain ⟨a6,rfl⟩:=lie_int h6
 obtain ⟨a7,rfl⟩:=lie_int h7
 obtain ⟨a8,rfl⟩:=lie_int h8
 exact ⟨⟨a1,a2,a3,a4,a5,a6,a7,a8⟩,rfl⟩
theorem lie_book {H:GH} {cs:List Value} (h:Lie H dBook cs):∃l b,argV dBook cs=bookV l b∧BookIn H l b∧SlOk l.t.rows 3∧SlOk l.owners 1∧SlOk l.events 8:=by
 obtain ⟨_,_,rfl,ht,h⟩:=lie_cons h
 obtain ⟨_,_,rfl,h2,h⟩:=lie_cons h
 obtain ⟨_,_,rfl,h3,h⟩:=lie_cons h
 obtain ⟨_,_,rfl,h4,h⟩:=lie_cons h
 obtain ⟨_,_,rfl,h5,h⟩:=lie_cons h
 obtain ⟨_,_,rfl,h6,h⟩:=lie_cons h
 obtain rfl:_= []:=h
 obtain ⟨_,_,rfl,hr,ht⟩:=lie_cons ht
 obtain ⟨_,_,rfl,hd,ht⟩:=lie_cons ht
 obtain rfl:_= []:=ht
 obtain ⟨dr,rfl⟩:=lie_int hd
 obtain ⟨su,rfl⟩:=lie_int h2
 obtain ⟨te,rfl⟩:=lie_int h3
 obtain ⟨pe,rfl⟩:=lie_int h4
 obtain ⟨s1,l1,rfl,e1,k1⟩:=lie_elems (sz:=3) rfl (fun _=>rfl) (lie_row H) hr
 obtain ⟨s2,l2,rfl,e2,k2⟩:=lie_elems (sz:=1) rfl (fun _=>rfl) (lie_I H) h5
 obtain ⟨s3,l3,rfl,e3,k3⟩:=lie_elems (sz:=8) rfl (fun _=>rfl) (lie_ev H) h6
 exact ⟨⟨⟨s1⟩,s2,s3⟩,⟨⟨l1,dr⟩,su,te,pe,l2,l3⟩,rfl,⟨e1,e2,e3⟩,k1,k2,k3⟩
end Go.Gm.Tryz
end
section
namespace Go.Gm.Tryz
open Go.Proofs
theorem rest148:∃(id:Nat) (os:Array Oper) (c:Code),g148.fn.body=some (.seq (.region id os false) c)∧codeOk T g148.plans c=true∧
  (∀(Q:Exit→Act→List Frame→World→Prop) (a:Act) (c₀ :Frame) (cs:List Frame) (w:World) (pv:Value),c₀.mode=.panicking [{ v:=pv,recovered:=false }]→
   Q .normal (a.put (some 5) pv) ({ c₀ with mode:=.panicking [{ v:=pv,recovered:=true }] }::cs) w→wpOpsSIn Fence.wide 0 Tryz.prog os Q (List.range os.size) a (c₀ ::cs) w)∧
  (∀(ρ:Rho) (H:GH) (Q:VQ) (n:Int) (g2:Nat),ρ 0=.pointer (some (ga g2 0 0))→g2<H.next→
   H.get g2=some (.arr { cells:= [vi 0],ty:=33 })→ρ 5=.iface 206 (.agg #[vi n])→
   (∀ρ' H',H.next≤H'.next→(∀g,g<H.next→g≠g2→H'.get g=H.get g)→H'.get g2=some (.arr { cells:= [vi 7],ty:=33 })→Q .normal ρ' [] H')→
   wpC ⟨Tryz.prog,T,g148.plans,14,none⟩ c Q ρ [] H):=by
 refine ⟨_,_,_,rfl,by kernel_rfl,?_,?_⟩
 ·intro Q a c₀ cs w pv hu hq
  simp [wpOpsSIn,go_sem,recoverD,hu]
  first|exact hq|exact ⟨fun _ _=>trivial,hq⟩
 intro ρ H Q n g2 e0 l2 h2 e5 hq
 simp (disch:=omega) [e0,e5,h2,eql_iface]
 refine hq _ _ (by simp) (fun g hg k2=>?_) ?_
 ·rw [GH.get_put_ne _ _ k2,GH.get_put_ne _ _ (by omega),GH.get_push_lt _ _ hg]
 ·simp (disch:=omega)
theorem catch148 {β:Bm} {H:GH} {w:World} {n:Int} {g2:Nat} {p2 pv:Value} (hR:Rel β H w) (v2:VR β (.pointer (some (ga g2 0 0))) p2)
  (vp:VR β (.iface 206 (.agg #[vi n])) pv) (l2:g2<H.next) (h2:H.get g2=some (.arr { cells:= [vi 0],ty:=33 })):
  CallsDIn Fence.wide 0 Tryz.prog 148 #[p2] (.panicking [{ v:=pv,recovered:=false }]) w fun e u' w'=>e=.returned (.tuple #[])∧u'=.panicking [{ v:=pv,recovered:=true }]∧
   ∃β' H',Rel β' H' w'∧Ext β H w β' H' w'∧H.next≤H'.next∧(∀g,g<H.next→g≠g2→H'.get g=H.get g)∧H'.get g2=some (.arr { cells:= [vi 7],ty:=33 }):=by
 obtain ⟨id,os,c,hb,hok,hA,hB⟩:=rest148
 refine callsDIn_of_wpSIn fok148.fn hb trivial fun c₀ cs hu=>?_
 apply wpSIn_seq
 apply wpSIn_region
 refine hA _ _ c₀ cs w pv hu ?_
 show c.wpSIn _ _ _ _ _ _ _
 refine wpSIn_of_wpIn rfl ?_
 have hw:=wpC_sound (X:=⟨Tryz.prog,T,g148.plans,14,none⟩) tok mix c hok (hB (upd (rho0 [.pointer (some (ga g2 0 0))]) 5 (.iface 206 (.agg #[vi n]))) H
  (fun x _ m H'=>x=.normal∧m= []∧H.next≤H'.next∧(∀g,g<H.next→g≠g2→H'.get g=H.get g)∧H'.get g2=some (.arr { cells:= [vi 7],ty:=33 })) n g2 (by simp) l2 h2 (by simp) (fun ρ' H' a b c=>⟨rfl,rfl,a,b,c⟩))
 have hn:g148.fn.ntmps=14:=rfl
 have u:=VR.undef β
 have hA2:ActR β (fa 14 (upd (rho0 [.pointer (some (ga g2 0 0))]) 5 (.iface 206 (.agg #[vi n]))) []) (({ tmps:= #[p2]++Array.replicate (g148.fn.ntmps - #[p2].size) undef,defers:= [] }:Act).put (some 5) pv):=by
  have h0:ActR β (fa 14 (rho0 [.pointer (some (ga g2 0 0))]) []) ({ tmps:= #[p2]++Array.replicate (g148.fn.ntmps - #[p2].size) undef,defers:= [] }:Act):=by
   rw [hn,fa_rho0 1 13 _ rfl]
   refine ⟨?_,.nil⟩
   simp only [Array.toList_append,Array.toList_replicate]
   exact (VRs.cons v2 .nil).append (VRs.replicate _ u)
  have h1:=h0.put (some 5) vp
  rw [fa_put] at h1
  exact h1
 refine wpIn_mono (hw β w _ none hR hA2 .none) fun e r w' hp=>?_
 obtain ⟨x,a',β',H',⟨ρ',m,rfl,rfl,rfl,k1,k2,k4⟩,hR',hE,hA',he⟩:=hp
 cases he
 have hd:r.defers= []:=by
  have:=hA'.marks
  generalize r.defers=ds at this
  cases this; rfl
 refine ⟨hd,_,rfl,.tuple #[],?_,rfl,rfl,β',H',hR',hE,k1,k2,k4⟩
 simp [results,g148]
theorem idle148':∃(id:Nat) (os:Array Oper) (c:Code),g148.fn.body=some (.seq (.region id os false) c)∧
  (∀(Q:Exit→Act→List Frame→World→Prop) (a:Act) (c₀ :Frame) (cs:List Frame) (w:World),c₀.mode=.returning→
   Q .normal (a.put (some 5) .nilIface) (c₀ ::cs) w→wpOpsSIn Fence.wide 0 Tryz.prog os Q (List.range os.size) a (c₀ ::cs) w)∧
  (∀(Q:Exit→Act→World→Prop) (t:Array Value) (w:World),14=t.size→t[5]?=some .nilIface→(∀a',a'.defers= []→Q .normal a' w)→c.wpIn Fence.wide 0 Tryz.prog Q { tmps:=t,defers:= [] } w):=by
 refine ⟨_,_,_,rfl,?_,?_⟩
 ·intro Q a c₀ cs w hu hq
  simp [wpOpsSIn,go_sem,recoverD,hu]
  exact hq
 ·intro Q t w ht h6 hq
  refine wpIn_block ?_
  refine wpIn_seq ?_
  refine wpIn_region ?_
  simp [wpOpsIn,go_sem,h6]
  refine wpIn_cond_true (by simp [Act.eval]; omega) ?_
  refine wpIn_region ?_
  simp [wpOpsIn,go_sem]
  exact hq _ rfl
theorem idle148 {w:World} {p2:Value}:
  CallsDIn Fence.wide 0 Tryz.prog 148 #[p2] .returning w fun e u' w'=>e=.returned (.tuple #[])∧u'=.returning∧w'=w:=by
 obtain ⟨id,os,c,hb,hA,hB⟩:=idle148'
 refine callsDIn_of_wpSIn fok148.fn hb trivial fun c₀ cs hu=>?_
 apply wpSIn_seq
 apply wpSIn_region
 refine hA _ _ c₀ cs w hu ?_
 show c.wpSIn _ _ _ _ _ _ _
 refine wpSIn_of_wpIn rfl ?_
 have hn:g148.fn.ntmps=14:=rfl
 refine hB _ _ w ?_ ?_ fun a' hd=>?_
 ·rw [hn]; simp
 ·rw [hn]; simp
 ·refine ⟨hd,.returning,?_,.tuple #[],?_,rfl,rfl,rfl⟩
  ·cases c₀; simp_all
  ·simp [results,g148]
theorem latt_parts:∃(c0:Code) (i1 i2 i3:Nat) (o1 o2 o3:Array Oper),Tryz.f121.body=some (.seq c0 (.seq (.region i1 o1 false) (.seq (.region i2 o2 false) (.seq (.region i3 o3 false) .ret))))∧codeOk T [] c0=true∧
  (∀(H:GH) (ρ:Rho) (Q:VQ),Q .normal (upd ρ 2 (.pointer (some (ga H.next 0 0)))) [] (H.push (.arr { cells:= [vi 0],ty:=33 }))→wpC ⟨Tryz.prog,T,[],6,none⟩ c0 Q ρ [] H)∧
  (∀(Q:Exit→Act→World→Prop) (t:Array Value) (w:World) (p2:Value),6=t.size→t[2]?=some p2→(∀a',a'.defers= [{ target:=.fn (.func 148) #[p2],args:= #[] }]→a'.tmps.size=6→a'.tmps[0]?=t[0]?→a'.tmps[2]?=some p2→Q .normal a' w)→(Code.region i1 o1 false).wpIn Fence.wide 0 Tryz.prog Q { tmps:=t,defers:= [] } w)∧
  (∀(Q:Exit→Act→World→Prop) (a:Act) (w:World) (f:FuncId) (first cap:Array Value),6=a.tmps.size→a.tmps[0]?=some (.func (.func f) first cap)→Ent Tryz.prog f→
   CallsIn Fence.wide 0 Tryz.prog f (first++cap) w (fun e w'=>match e with
    | .returned _v=>∀a':Act,a'.defers=a.defers→a'.tmps.size=6→a'.tmps[2]?=a.tmps[2]?→Q .normal a' w'
    | .panicked ch=>∀a':Act,a'.defers=a.defers→a'.tmps.size=6→a'.tmps[2]?=a.tmps[2]?→Q (.panic ch) a' w'
    | .outgrown=>LetsOut Q)→(Code.region i2 o2 false).wpIn Fence.wide 0 Tryz.prog Q a w)∧
  (∀(Q:Exit→Act→World→Prop) (a:Act) (w:World) (β:Bm) (H:GH) (g2:Nat) (p2:Value),6=a.tmps.size→a.tmps[2]?=some p2→VR β (.pointer (some (ga g2 0 0))) p2→
   H.get g2=some (.arr { cells:= [vi 0],ty:=33 })→Rel β H w→
   (∀w' β',Rel β' (H.put g2 (.arr { cells:= [vi 0],ty:=33 })) w'→Ext β H w β' (H.put g2 (.arr { cells:= [vi 0],ty:=33 })) w'→Q .normal a w')→
   (Code.region i3 o3 false).wpIn Fence.wide 0 Tryz.prog Q a w):=by
 refine ⟨_,_,_,_,_,_,_,rfl,by kernel_rfl,?_,?_,?_,?_⟩
 ·intro H ρ Q hq
  simp
  exact hq
 ·intro Q t w p2 ht h2 hq
  refine wpIn_region ?_
  have hmf:∀(fn:Fn) (first cap:Array Value) (w:World),(Instr.makeFunc fn first cap).run Tryz.prog w=.ok (.func fn first cap) w:=fun _ _ _ _=>rfl
  have h4:3<t.size:=by omega
  simp [wpOpsIn,go_sem,h2,Oper.uponIn,h4]
  exact hq _ rfl (by simp; omega) (by simp) (by simp [h2])
 ·intro Q a w f first cap ht h0 hent hc
  refine wpIn_region ?_
  have h5:4<a.tmps.size:=by omega
  simp [wpOpsIn,go_sem,h0,Oper.uponIn,h5]
  refine ⟨trivial,?_⟩
  rw [hent]
  refine ⟨rfl,hc.mono ?_⟩
  intro e w' h
  cases e with
  |returned v=>exact h _ rfl (by simp; omega) (by simp)
  |panicked ch=>exact h _ rfl (by simp; omega) (by simp)
  |outgrown=>exact h
 ·intro Q a w β H g2 p2 ht h2 v2 hg2 hR hq
  refine wpIn_region ?_
  simp only [wpOpsIn,List.size_toArray,List.length_cons,List.length_nil,Nat.zero_add,List.range_succ,List.range_zero,List.nil_append]
  simp only [List.getElem?_toArray,List.getElem?_cons_zero,Region.wanted,if_true,Oper.wpIn]
  refine up_skip (st_skip rfl (by simp; rfl) rfl h2 v2 hg2 hR) fun w1 β1 hR1 hE1=>?_
  exact hq w1 β1 hR1 hE1
def LTryN (H:GH) (R:GO→GH→Prop) (x:GO) (H1:GH):Prop:=
 H.next+1≤H1.next∧H1.get H.next=some box31∧match x with
  | .ret _=>R (.ret (vi 0)) (H1.put H.next box31)
  | .pan v=>∃n,v=.iface 206 (.agg #[vi n])∧∀H2,H1.next≤H2.next→(∀g,g<H1.next→g≠H.next→H2.get g=H1.get g)→R (.ret (vi 7)) H2
theorem res121 {t:Array Value} {p2:Value} (h2:t[2]?=some p2):results Tryz.f121 t=results Tryz.f121 #[undef,undef,p2,undef,undef,undef]:=by
 have hr:Tryz.f121.results= #[.cell 2 33]:=rfl
 simp [results,h2]
theorem res121_ok {t:Array Value} {p2:Value} (h2:t[2]?=some p2) {β:Bm} {H:GH} {w:World} {g2:Nat} {a:Int} (hR:Rel β H w) (v2:VR β (.pointer (some (ga g2 0 0))) p2)
  (k2:H.get g2=some (.arr { cells:= [vi a],ty:=33 })):∃v',(results Tryz.f121 t).run Tryz.prog w=.ok v' w∧VR β (vi a) v':=by
 rw [res121 h2]
 have u:=VR.undef β
 refine results_ok (P:=Tryz.prog) (vs:= [vi a]) tok hR (tm:= [undef,undef,.pointer (some (ga g2 0 0)),undef,undef,undef]) (.cons u (.cons u (.cons v2 (.cons u (.cons u (.cons u .nil)))))) ?_
 have hr:Tryz.f121.results.toList= [.cell 2 33]:=rfl
 rw [hr]
 simp [readResults,readResult,k2]
theorem latt_con {f:FuncId} {first cap:Array Value} {H:GH} {R:GO→GH→Prop} (hf:GCall Tryz.prog f (first.toList++cap.toList) (H.push box31) (LTryN H R)):
  GCall Tryz.prog 121 [.func (.func f) first cap] H R:=by
 have hname:(Tryz.f121.name== "runtime.NumGoroutine")=false:=by kernel_rfl
 have hfn:Tryz.prog.funcs[121]?=some Tryz.f121:=Tryz.func121
 obtain ⟨c0,i1,i2,i3,o1,o2,o3,hb,hok,hA,hB,hC,hD⟩:=latt_parts
 refine ⟨fun xs w=>?_,fun β w args' hR hV=>?_⟩
 ·have h1:Tryz.f121.name≠ "runtime.NumGoroutine":=by simpa using hname
  simp [callFunc,hfn,h1,hb]
 refine callsIn_of_wp_marks hfn hb trivial ?_
 refine wpIn_seq ?_
 obtain ⟨v',rfl,hv⟩:∃v',args'= [v']∧VR β (.func (.func f) first cap) v':=by
  cases hV with
  |cons h t=>cases t; exact ⟨_,rfl,h⟩
 have hn:Tryz.f121.ntmps=6:=rfl
 have h0:ActR β (fa 6 (rho0 [.func (.func f) first cap]) []) ({ tmps:= [v'].toArray++Array.replicate (Tryz.f121.ntmps - [v'].toArray.size) undef,defers:= [] }:Act):=by
  rw [hn,fa_rho0 1 5 _ rfl]
  refine ⟨?_,.nil⟩
  simp only [Array.toList_append,Array.toList_replicate]
  exact (VRs.cons hv .nil).append (VRs.replicate _ (VR.undef β))
 have hw:=wpC_sound (X:=⟨Tryz.prog,T,[],6,none⟩) tok mix c0 hok (hA H (rho0 [.func (.func f) first cap]) (fun x ρ m H'=>x=.normal∧m= []∧H'=H.push box31∧ρ=upd (rho0 [.func (.func f) first cap]) 2 (.pointer (some (ga H.next 0 0)))) ⟨rfl,rfl,rfl,rfl⟩)
 refine wpIn_mono (hw β w _ none hR h0 .none) fun e r w1 hp=>?_
 obtain ⟨x,a',β1,H1,⟨ρ,m,rfl,rfl,rfl,rfl,rfl⟩,hR1,hE1,hA1,he⟩:=hp
 cases he
 have hsz:6=r.tmps.size:=by have:=hA1.tmps.length; simpa [fa] using this
 obtain ⟨f0,q0,vf⟩:=hA1.tmps.get? (i:=0) (v:=.func (.func f) first cap) (by simp [fa])
 obtain ⟨p2,q2,v2⟩:=hA1.tmps.get? (i:=2) (v:=.pointer (some (ga H.next 0 0))) (by simp [fa])
 simp only [Array.getElem?_toList] at q0 q2
 have hd:r.defers= []:=by
  have:=hA1.marks
  generalize r.defers=ds at this
  cases this; rfl
 obtain ⟨rt,rd⟩:=r
 simp only at hd hsz q0 q2
 subst hd
 show Code.wpIn _ _ _ _ _ _ _
 refine wpIn_seq ?_
 refine hB _ rt w1 p2 hsz q2 fun a1 k1 k2 k3 k4=>?_
 show Code.wpIn _ _ _ _ _ _ _
 refine wpIn_seq ?_
 obtain ⟨first',cap',rfl,hargs⟩:∃first' cap',f0=.func (.func f) first' cap'∧VRs β1 (first.toList++cap.toList) (first'.toList++cap'.toList):=by
  cases vf with
  |func hfn s1 x1 s2 x2=>
   cases hfn
   refine ⟨_,_,rfl,VRs.append (.of_getD (by simpa using s1) fun i hi=>?_) (.of_getD (by simpa using s2) fun i hi=>?_)⟩
   ·simpa using x1 i (by simpa using hi)
   ·simpa using x2 i (by simpa using hi)
 have hcall:=hf.2 β1 w1 _ hR1 hargs
 have harr:(first'.toList++cap'.toList).toArray=first'++cap':=by simp
 rw [harr] at hcall
 refine hC _ a1 w1 f first' cap' k2.symm (k3.trans q0) hf.1 (hcall.mono ?_)
 rintro e w2 ⟨x,β2,H2,hK,hR2,hE2,hEnd⟩
 obtain ⟨hK1,hK2,hK4⟩:=hK
 have v2':=v2.mono hE2.le
 have hent:Ent Tryz.prog 148:=fun xs w=>by
  have h1:Tryz.f148.name≠ "runtime.NumGoroutine":=by
   have:(Tryz.f148.name== "runtime.NumGoroutine")=false:=by kernel_rfl
   simpa using this
  obtain ⟨_,_,_,hb6,_⟩:=rest148
  have hb6':Tryz.f148.body=_:=hb6
  simp [callFunc,show Tryz.prog.funcs[148]?=some Tryz.f148 from Tryz.func148,h1,hb6']
 have hE02:=hE1.trans hR hE2
 cases hEnd with
 |ret hv2=>
  intro a3 d1 d2 d3
  show Code.wpIn _ _ _ _ _ _ _
  refine wpIn_seq ?_
  refine hD _ a3 w2 β2 H2 H.next p2 d2.symm (d3.trans k4) v2' hK2 hR2 fun w3 β3 hR3 hE3=>?_
  show Code.wpIn _ _ _ _ _ _ _
  refine wpIn_ret ?_
  show LeavesInM _ _ _ _ _ _ a3.defers _ _
  rw [d1,k1]
  refine ⟨by simp,.inr ⟨fun _=>by simp_all [Fence.wide],_,_,148,#[p2],rfl,?_,fun _ _=>trivial,idle148.mono ?_⟩⟩
  ·have:=hent #[p2] w3
   first|(simp [invoke]; done)|simpa [invoke] using this
  ·rintro e u' w' ⟨rfl,rfl,rfl⟩
   obtain ⟨v3r,hrun,hvr⟩:=res121_ok (t:=a3.tmps) (d3.trans k4) hR3 (v2'.mono hE3.le) (a:=0) (g2:=H.next) (by simp)
   exact ⟨v3r,hrun,_,β3,_,hK4,hR3,hE02.trans hR hE3,.ret hvr⟩
 |pan hv2=>
  intro a3 d1 d2 d3
  show LeavesInM _ _ _ _ _ _ a3.defers _ _
  rw [d1,k1]
  obtain ⟨n,rfl,hK5⟩:=hK4
  refine ⟨by simp,.inr ⟨fun _=>by simp_all [Fence.wide],_,_,148,#[p2],rfl,?_,fun _ _=>trivial,(catch148 hR2 v2' hv2 (by omega) hK2).mono ?_⟩⟩
  ·have:=hent #[p2] w2
   first|(simp [invoke]; done)|simpa [invoke] using this
  ·rintro e u' w' ⟨rfl,rfl,β3,H3,hR3,hE3,m1,m2,m4⟩
   obtain ⟨v3r,hrun,hvr⟩:=res121_ok (t:=a3.tmps) (d3.trans k4) hR3 (v2'.mono hE3.le) (a:=7) (g2:=H.next) m4
   exact ⟨v3r,hrun,_,β3,_,hK5 _ m1 m2,hR3,hE02.trans hR hE3,.ret hvr⟩
end Go.Gm.Tryz
end
section
namespace Go.Proofs
open Go.Shelf
def Tryz.laysM171_ren:Go.Shelf.Ren:=⟨fun|171=>180|243=>182|246=>183|283=>184|284=>185|285=>186|286=>187|129=>189|317=>188|318=>190|319=>191|320=>192|337=>193|338=>194|n=>n,fun|3=>3|9=>9|2=>2|4=>4|171=>266|0=>0|53=>257|37=>269|5=>5|173=>270|212=>273|51=>254|20=>20|213=>274|46=>243|232=>277|233=>278|n=>n,fun|17=>0|18=>1|19=>2|n=>n⟩
theorem Tryz.laysM171:Go.Proofs.LaysM.n171 Tryz.prog Tryz.laysM171_ren:= {
 mixed:=by kernel_rfl
 f129:=Tryz.func189.trans (congrArg some (by kernel_rfl))
 f171:=Tryz.func180.trans (congrArg some (by kernel_rfl))
 f243:=Tryz.func182.trans (congrArg some (by kernel_rfl))
 f246:=Tryz.func183.trans (congrArg some (by kernel_rfl))
 f283:=Tryz.func184.trans (congrArg some (by kernel_rfl))
 f284:=Tryz.func185.trans (congrArg some (by kernel_rfl))
 f285:=Tryz.func186.trans (congrArg some (by kernel_rfl))
 f286:=Tryz.func187.trans (congrArg some (by kernel_rfl))
 f317:=Tryz.func188.trans (congrArg some (by kernel_rfl))
 f318:=Tryz.func190.trans (congrArg some (by kernel_rfl))
 f319:=Tryz.func191.trans (congrArg some (by kernel_rfl))
 f320:=Tryz.func192.trans (congrArg some (by kernel_rfl))
 f337:=Tryz.func193.trans (congrArg some (by kernel_rfl))
 f338:=Tryz.func194.trans (congrArg some (by kernel_rfl))
 t0:=Tryz.underlying0
 a0:=Tryz.isAgg0
 z0:=Tryz.sizeOf0
 v0:=Tryz.zeroValue0
 t2:=Tryz.underlying2
 a2:=Tryz.isAgg2
 z2:=Tryz.sizeOf2
 v2:=Tryz.zeroValue2
 t3:=Tryz.underlying3
 a3:=Tryz.isAgg3
 z3:=Tryz.sizeOf3
 v3:=Tryz.zeroValue3
 t4:=Tryz.underlying4
 a4:=Tryz.isAgg4
 z4:=Tryz.sizeOf4
 v4:=Tryz.zeroValue4
 t5:=Tryz.underlying5
 a5:=Tryz.isAgg5
 z5:=Tryz.sizeOf5
 v5:=Tryz.zeroValue5
 t9:=Tryz.underlying9
 a9:=Tryz.isAgg9
 z9:=Tryz.sizeOf9
 v9:=Tryz.zeroValue9
 t20:=Tryz.underlying20
 a20:=Tryz.isAgg20
 z20:=Tryz.sizeOf20
 v20:=Tryz.zeroValue20
 t37:=Tryz.underlying269
 a37:=Tryz.isAgg269
 z37:=Tryz.sizeOf269
 v37:=Tryz.zeroValue269
 t46:=Tryz.underlying243
 a46:=Tryz.isAgg243
 z46:=Tryz.sizeOf243
 v46:=Tryz.zeroValue243
 t51:=Tryz.underlying254
 a51:=Tryz.isAgg254
 z51:=Tryz.sizeOf254
 v51:=Tryz.zeroValue254
 t53:=Tryz.underlying257
 a53:=Tryz.isAgg257
 z53:=Tryz.sizeOf257
 v53:=Tryz.zeroValue257
 t171:=Tryz.underlying266
 a171:=Tryz.isAgg266
 z171:=Tryz.sizeOf266
 v171:=Tryz.zeroValue266
 t173:=Tryz.underlying270
 a173:=Tryz.isAgg270
 z173:=Tryz.sizeOf270
 v173:=Tryz.zeroValue270
 t212:=Tryz.underlying273
 a212:=Tryz.isAgg273
 z212:=Tryz.sizeOf273
 v212:=Tryz.zeroValue273
 t213:=Tryz.underlying274
 a213:=Tryz.isAgg274
 z213:=Tryz.sizeOf274
 t232:=Tryz.underlying277
 a232:=Tryz.isAgg277
 z232:=Tryz.sizeOf277
 v232:=Tryz.zeroValue277
 t233:=Tryz.underlying278
 a233:=Tryz.isAgg278
 z233:=Tryz.sizeOf278
 v233:=Tryz.zeroValue278
 g17:=by kernel_rfl
 g18:=by kernel_rfl
 g19:=by kernel_rfl
 i0:=by kernel_rfl
 i2:=by kernel_rfl
 i3:=by kernel_rfl
 i4:=by kernel_rfl
 i5:=by kernel_rfl
 i9:=by kernel_rfl
 i20:=by kernel_rfl
 i37:=by kernel_rfl
 i46:=by kernel_rfl
 i51:=by kernel_rfl
 i53:=by kernel_rfl
 i171:=by kernel_rfl
 i173:=by kernel_rfl
 i212:=by kernel_rfl
 i232:=by kernel_rfl
 i233:=by kernel_rfl
 m17:=by kernel_rfl
 m18:=by kernel_rfl
 m19:=by kernel_rfl }
open Go.RowKit Go.Sort Go.Lib in
theorem Tryz.strconv_Itoa (n:Int) (h0: -9223372036854775808≤n) (h1:n≤9223372036854775807) (w:World) (htab:Lib.TabIs Tryz.prog w "internal/strconv.uint64pow10" .u64 Lib.pow10Tab):
  Calls Tryz.prog 180 #[.int .i64 n] w fun e w'=>e=.returned (.string ⟨(Lib.itoa n).toArray⟩)∧∃k os,w'=grow (w.drewN k) os:=Any.strconv_Itoa Tryz.laysM171 n h0 h1 w htab
end Go.Proofs
end
section
namespace Go.Gm
theorem Rel.later {β:Bm} {H:GH} {w w':World} (h:Rel β H w) (hs:w.heap.size≤w'.heap.size) (hk:∀k,k<w.heap.size→w'.heap[k]?=w.heap[k]?) (ho:w'.os=w.os) (ht:w'.tape=w.tape) (hu:w'.output=w.output):Rel β H w'∧Ext β H w β H w':=by
 have hc:∀g v L,β g v=some L→w'.heap[L.blk]?=w.heap[L.blk]?:=fun g v L hb=>hk _ (h.lt g v L hb)
 refine ⟨⟨fun g v L hb=>Nat.lt_of_lt_of_le (h.lt g v L hb) hs,h.dom,h.top,h.ver,?_,?_,?_,h.inj,?_⟩,⟨Bm.le_refl β,Nat.le_refl _,fun _ _ _ hb=>.inl hb,fun _ o ho _=>⟨o,ho,rfl⟩,fun _ _ hu=>⟨rfl,hu⟩,hs,ho,ht,hu,fun k hk' _=>hk k hk',rfl⟩⟩
 ·intro g A v L i r hA hb hi hr
  obtain ⟨rv,h1,h2⟩:=h.cell g A v L i r hA hb hi hr
  exact ⟨rv,(cell_of_heap (hc _ _ _ hb)).trans h1,h2⟩
 ·intro g A L hA hro hb
  obtain ⟨rc,fr,h1,h2⟩:=h.row g A L hA hro hb
  exact ⟨rc,fr,(hc _ _ _ hb).trans h1,h2⟩
 ·intro g o L ho hia hb
  obtain ⟨r,h1,h2⟩:=h.obj g o L ho hia hb
  exact ⟨r,(hc _ _ _ hb).trans h1,h2⟩
 ·intro k r hr
  obtain ⟨h1,h2⟩:=h.fix k r hr
  exact ⟨(hk k (lt_of_get h1)).trans h1,h2⟩
theorem ent_fok {P:Program} {T:Tab} {f:FuncId} {F:GF} (hF:FnOk P T f F) {c:Code} (hb:F.fn.body=some c):Ent P f:=fun xs w=>by
 have h1:F.fn.name≠ "runtime.NumGoroutine":=by simpa using hF.name
 simp [callFunc,hF.fn,h1,hb]
end Go.Gm
namespace Go.Gm.Tryz
open Go.Proofs Go.Sort
structure FxOk (fx:List (Nat×Obj)):Prop where
 tab:∀w:World,(∀k r,(k,r)∈fx→w.heap[k]?=some r)→Lib.TabIs Tryz.prog w "internal/strconv.uint64pow10" .u64 Lib.pow10Tab
def itoaS (n:Int):ByteArray:=⟨(Lib.itoa n).toArray⟩
theorem itoa_con {H:GH} (hfx:FxOk H.fx) (n:Int) (h0: -9223372036854775808≤n) (h1:n≤9223372036854775807):C 180 [vi n] H (.string (itoaS n)) H:=by
 refine ⟨ent_fok fok180 rfl,fun β w args' hR hA=>callsIn_wide.2 ?_⟩
 obtain ⟨rfl⟩:args'= [vi n]:=by
  cases hA with
  |cons h t=>cases t; cases h; rfl
 refine Calls.mono (Tryz.strconv_Itoa n h0 h1 w (hfx.tab w fun k r hk=>(hR.fix k r hk).1)) ?_
 rintro e w' ⟨rfl,k,os,rfl⟩
 obtain ⟨a,b⟩:=hR.later (w':=grow (w.drewN k) os) (by simp [grow,World.drewN]) (fun j hj=>by simp [grow,World.drewN,Array.getElem?_append_left hj]) rfl rfl rfl
 exact ⟨_,β,H,⟨rfl,rfl⟩,a,b,.ret (.string _)⟩
end Go.Gm.Tryz
end
section
namespace Go.Gm
structure OS where
 v:Value
 ty:TypeId
 sz:Nat
 ls:List (List Value)
def OS.In (H:GH) (N:Nat) (o:OS):Prop:=OwnL H N o.v o.ty o.sz id o.ls
theorem flatMap_id_map {α:Type} (enc:α→List Value) (l:List α):(l.map enc).flatMap id=l.flatMap enc:=by
 rw [List.flatMap_def,List.flatMap_def,List.map_id]
theorem ownL_id {α:Type} {H:GH} {N:Nat} {v:Value} {ty:TypeId} {sz:Nat} {enc:α→List Value} {l:List α}:OwnL H N v ty sz id (l.map enc)↔OwnL H N v ty sz enc l:=by
 unfold OwnL
 rw [flatMap_id_map,List.length_map,List.map_eq_nil_iff]
structure RecIn (H:GH) (N sg:Nat) (ty:TypeId) (pre:List Value) (os:List OS):Prop where
 g:H.get sg=some (.arr { cells:=pre++os.map (·.v),ty:=ty })
 sgl:N≤sg∧sg<H.next
 own:∀o∈os,o.In H N∧o.ty≠ty
 dis:∀(i j:Nat) (hi:i<os.length) (hj:j<os.length),i≠j→∀k,blkOf os[i].v=some k→blkOf os[j].v≠some k
def RecOwn (sg:Nat) (os:List OS) (g:Nat):Prop:=g=sg∨∃o∈os,blkOf o.v=some g
section
variable {H H1:GH} {N sg:Nat} {ty:TypeId} {pre:List Value} {os:List OS}
theorem RecIn.at (h:RecIn H N sg ty pre os) {k:Nat} (hk:k<os.length):os[k].In H N:=(h.own _ (List.getElem_mem hk)).1
theorem RecIn.ne (h:RecIn H N sg ty pre os) {k:Nat} (hk:k<os.length):blkOf os[k].v≠some sg:=by
 intro hc
 obtain ⟨A,h1,h2⟩:=(h.at hk).blk_ty hc
 rw [h.g] at h1; cases h1
 exact (h.own _ (List.getElem_mem hk)).2 h2.symm
theorem RecIn.lt (h:RecIn H N sg ty pre os) {g:Nat} (hg:RecOwn sg os g):N≤g∧g<H.next:=by
 rcases hg with rfl|⟨o,ho,hb⟩
 ·exact h.sgl
 ·exact (h.own o ho).1.blk_lt hb
theorem RecIn.frame (h:RecIn H N sg ty pre os) (hn:H.next≤H1.next) (hs:∀g,RecOwn sg os g→H1.get g=H.get g):RecIn H1 N sg ty pre os:=
 ⟨by rw [hs sg (.inl rfl)]; exact h.g,⟨h.sgl.1,Nat.lt_of_lt_of_le h.sgl.2 hn⟩,fun o ho=>⟨(h.own o ho).1.frame hn fun g hg=>hs g (.inr ⟨o,ho,hg⟩),(h.own o ho).2⟩,h.dis⟩
theorem RecIn.sub (h:RecIn H N sg ty pre os) (hs:Sub H H1):RecIn H1 N sg ty pre os:=h.frame hs.1 fun g hg=>hs.2 g (h.lt hg).2
theorem set_at {α:Type} {l:List α} {k j:Nat} {x:α} (hj:j<(l.set k x).length):(l.set k x)[j]=if k=j then x else l[j]'(by simpa using hj):=by
 rw [List.getElem_set]
theorem RecIn.wr (h:RecIn H N sg ty pre os) {k:Nat} (hk:k<os.length) {ls:List (List Value)} (hn:H.next≤H1.next) (hx:OwnL H1 N os[k].v os[k].ty os[k].sz id ls) (hs:∀j,j<H.next→blkOf os[k].v≠some j→H1.get j=H.get j):
  RecIn H1 N sg ty pre (os.set k { os[k] with ls:=ls }):=by
 have hv:(os.set k { os[k] with ls:=ls }).map (·.v)=os.map (·.v):=by
  apply List.ext_getElem (by simp)
  intro j h1 h2
  simp only [List.getElem_map,set_at]
  split
  ·rename_i e; subst e; rfl
  ·rfl
 have hvj:∀j (hj:j<(os.set k { os[k] with ls:=ls }).length),((os.set k { os[k] with ls:=ls })[j]).v=(os[j]'(by simpa using hj)).v:=fun j hj=>by
  rw [set_at]; split
  ·rename_i e; subst e; rfl
  ·rfl
 refine ⟨by rw [hv,hs sg h.sgl.2 (h.ne hk)]; exact h.g,⟨h.sgl.1,Nat.lt_of_lt_of_le h.sgl.2 hn⟩,fun o ho=>?_,fun i j hi hj hij g hg=>?_⟩
 ·obtain ⟨j,hj,rfl⟩:=List.mem_iff_getElem.1 ho
  have hj':j<os.length:=by simpa using hj
  rw [set_at]
  split
  ·exact ⟨hx,(h.own _ (List.getElem_mem hk)).2⟩
  ·rename_i hkj
   exact ⟨(h.at hj').frame hn fun g hg=>hs g ((h.at hj').blk_lt hg).2 (h.dis j k hj' hk (Ne.symm hkj) g hg),(h.own _ (List.getElem_mem hj')).2⟩
 ·rw [hvj] at hg ⊢
  exact h.dis i j (by simpa using hi) (by simpa using hj) hij g hg
theorem RecIn.upd (h:RecIn H N sg ty pre os) {k:Nat} (hk:k<os.length) {v:Value} {ls:List (List Value)} (hn:H.next≤H1.next) (hx:OwnL H1 N v os[k].ty os[k].sz id ls) (hs:∀j,j<H.next→blkOf os[k].v≠some j→H1.get j=H.get j) (hb:∀j,blkOf v=some j→blkOf os[k].v=some j∨H.next≤j):
  RecIn (H1.put sg (.arr { cells:=pre++(os.set k { os[k] with v:=v,ls:=ls }).map (·.v),ty:=ty })) N sg ty pre (os.set k { os[k] with v:=v,ls:=ls }):=by
 have hself:∀j,blkOf v=some j→j≠sg:=fun j hj hc=>(hb j hj).elim (fun h1=>h.ne hk (by rw [←hc]; exact h1)) fun h1=>by have:=h.sgl; omega
 have hoth:∀j (hj:j<os.length),k≠j→∀g,blkOf os[j].v=some g→blkOf v≠some g:=fun j hj hkj g hg hc=>
  (hb g hc).elim (h.dis j k hj hk (Ne.symm hkj) g hg) fun h1=>by have:=((h.at hj).blk_lt hg).2; omega
 refine ⟨GH.get_put_same _ _,⟨h.sgl.1,Nat.lt_of_lt_of_le h.sgl.2 hn⟩,fun o ho=>?_,fun i j hi hj hij g hg=>?_⟩
 ·obtain ⟨j,hj,rfl⟩:=List.mem_iff_getElem.1 ho
  have hj':j<os.length:=by simpa using hj
  rw [set_at]
  split
  ·exact ⟨OwnL.frame hx (Nat.le_refl _) fun g hg=>GH.get_put_ne _ _ (hself g hg),(h.own _ (List.getElem_mem hk)).2⟩
  ·rename_i hkj
   refine ⟨(h.at hj').frame hn fun g hg=>?_,(h.own _ (List.getElem_mem hj')).2⟩
   rw [GH.get_put_ne _ _ (fun hc=>h.ne hj' (by rw [←hc]; exact hg))]
   exact hs g ((h.at hj').blk_lt hg).2 (h.dis j k hj' hk (Ne.symm hkj) g hg)
 ·rw [set_at] at hg ⊢
  have hi':i<os.length:=by simpa using hi
  have hj':j<os.length:=by simpa using hj
  split at hg
  ·rename_i e1
   subst e1
   rw [if_neg hij]
   exact fun hc=>hoth j hj' hij g hc hg
  ·rename_i e1
   split
   ·exact hoth i hi' e1 g hg
   ·exact h.dis i j hi' hj' hij g hg
theorem RecOwn.upd {k:Nat} (hk:k<os.length) {v:Value} {ls:List (List Value)} {M:Nat} (hb:∀j,blkOf v=some j→blkOf os[k].v=some j∨M≤j) {g:Nat} (hg:RecOwn sg (os.set k { os[k] with v:=v,ls:=ls }) g):RecOwn sg os g∨M≤g:=by
 rcases hg with hg|⟨o,ho,hg⟩
 ·exact .inl (.inl hg)
 ·rcases List.mem_or_eq_of_mem_set ho with ho|rfl
  ·exact .inl (.inr ⟨o,ho,hg⟩)
  ·exact (hb g hg).imp (fun h=>.inr ⟨_,List.getElem_mem hk,h⟩) id
theorem RecOwn.wr {k:Nat} (hk:k<os.length) {ls:List (List Value)} {g:Nat}:RecOwn sg (os.set k { os[k] with ls:=ls }) g↔RecOwn sg os g:=by
 have hvj:∀j (hj:j<os.length),((os.set k { os[k] with ls:=ls })[j]'(by simpa using hj)).v=os[j].v:=fun j hj=>by
  rw [set_at]; split
  ·rename_i e; subst e; rfl
  ·rfl
 constructor
 ·rintro (hg|⟨o,ho,hg⟩)
  ·exact .inl hg
  ·obtain ⟨j,hj,rfl⟩:=List.mem_iff_getElem.1 ho
   have hj':j<os.length:=by simpa using hj
   rw [hvj j hj'] at hg
   exact .inr ⟨_,List.getElem_mem hj',hg⟩
 ·rintro (hg|⟨o,ho,hg⟩)
  ·exact .inl hg
  ·obtain ⟨j,hj,rfl⟩:=List.mem_iff_getElem.1 ho
   exact .inr ⟨_,List.getElem_mem (by simpa using hj:j<(os.set k { os[k] with ls:=ls }).length),by rw [hvj j hj]; exact hg⟩
end
end Go.Gm
end
section
namespace Go.Gm.Tryz
open Go.Proofs
theorem sum_bd:∀ {l:List Int},(∀x∈l,0≤x∧x≤1000)→0≤l.sum∧l.sum≤1000*l.length:=by
 intro l
 induction l with
 |nil=>intro _; simp
 |cons x l ih=>
  intro h
  have h1:=h x (by simp)
  have h2:=ih fun y hy=>h y (by simp [hy])
  simp only [List.sum_cons,List.length_cons]
  omega
theorem givesI_bd {t:Tbl} (h:isTableB t=true) {l:List Int} (hl:SetOk t l):0≤givesI t l∧givesI t l≤6000:=by
 have h1:=hl.1
 have:=sum_bd (l:=l.map fun n=>(rowAt t n).gives) (fun x hx=>by
  obtain ⟨n,hn,rfl⟩:=List.mem_map.1 hx
  have h2:=hl.2 n hn
  have:=(table_rows h).2.2 _ (row_mem h2.1 h2.2)
  omega)
 simp only [List.length_map] at this
 unfold givesI
 omega
theorem allSets_ok {t:Tbl} {s:List Int} (h:s∈allSets t.rows.length):SetOk t s:=allSets_mem h
theorem waterI_bd (t:Tbl) (sys u:Int): -1≤waterI t sys u∧waterI t sys u≤6000:=by
 unfold waterI
 split
 ·rename_i hs
  simp only [setArgs,Bool.and_eq_true] at hs
  split
  ·rename_i s hf
   have:=givesI_bd hs.1.1 (allSets_ok (firstSet_mem hf).1)
   omega
  ·omega
 ·omega
def useG (b:Book) (g:GSt):Int:=if g.is=3 then 0 else waterI b.tbl g.system g.units
def usedI (b:Book) (s:Stand):Int:=(s.grants.map (useG b)).sum
theorem useG_bd (b:Book) (g:GSt): -1≤useG b g∧useG b g≤6000:=by
 unfold useG
 split
 ·omega
 ·exact waterI_bd _ _ _
theorem used_bd (b:Book):∀l:List GSt,-(l.length:Int)≤(l.map (useG b)).sum∧(l.map (useG b)).sum≤6000*l.length:=by
 intro l
 induction l with
 |nil=>simp
 |cons g l ih=>
  have:=useG_bd b g
  simp only [List.map_cons,List.sum_cons,List.length_cons]
  omega
theorem free_fold (b:Book):∀(l:List GSt) (n:Int),l.length≤1000→ -7000000≤n - 6000*l.length→n+l.length≤7000000→l.foldl (freeStep b) n=n - (l.map (useG b)).sum:=by
 intro l
 induction l with
 |nil=>intro n _ _ _; simp
 |cons g l ih=>
  intro n hl h1 h2
  simp only [List.length_cons] at hl h1 h2
  have hb:=useG_bd b g
  simp only [List.foldl_cons,List.map_cons,List.sum_cons]
  have e:freeStep b n g=n - useG b g:=by
   unfold freeStep useG at*
   split
   ·omega
   ·rename_i h3
    rw [if_neg h3] at hb
    rw [wrap64 _ (by omega) (by omega)]
  rw [e,ih _ (by omega) (by omega) (by omega)]
  omega
theorem freeI_eq {b:Book} (hs:0≤b.supply∧b.supply≤10000) {s:Stand} (hl:s.grants.length≤1000):freeI b s=b.supply - usedI b s:=
 free_fold b s.grants b.supply hl (by omega) (by omega)
theorem serve_ind {b:Book} {I:Stand→Prop} (h:∀s w ws,I s→s.waits=w::ws→waterI b.tbl (evAt b w).system (evAt b w).units≤freeI b s→I { addG s (evAt b w).person (-1) (evAt b w).system (evAt b w).units with waits:=ws }):∀ {s:Stand},I s→I (serve b s):=by
 have:∀(n:Nat) (s:Stand),I s→I (serveS b n s):=by
  intro n
  induction n with
  |zero=>intro s hs; exact hs
  |succ n ih=>
   intro s hs
   simp only [serveS]
   cases hw:s.waits with
   |nil=>exact hs
   |cons w ws=>
    simp only
    split
    ·exact hs
    ·exact ih _ (h s w ws hs hw (by omega))
 exact fun {s} hs=>this _ s hs
theorem pass_ind {b:Book} {d:Int} {I:Stand→Prop} (h:∀s w ws,I s→s.waits=w::ws→waterI b.tbl (evAt b w).system (evAt b w).units≤freeI b s→I { addG s (evAt b w).person (-1) (evAt b w).system (evAt b w).units with waits:=ws })
  (he:∀s (g:Nat),I s→g<s.grants.length→(gAt s g).is=2→findAt s d=g→I (endG s g (IntKind.i64.wrap (lastAt s g+1)))):∀ {s:Stand},I s→I (pass b s d):=by
 have:∀(n:Nat) (s:Stand),I s→I (passS b d n s):=by
  intro n
  induction n with
  |zero=>intro s hs; exact hs
  |succ n ih=>
   intro s hs
   simp only [passS]
   split
   ·exact hs
   ·rename_i h0
    obtain ⟨p1,p2,p3⟩:=findAt_ok s d
    obtain ⟨j,hj⟩:=Int.eq_ofNat_of_zero_le (show 0≤findAt s d by omega)
    rw [hj] at p2 p3 ⊢
    refine ih _ (serve_ind h ?_)
    have:=he s j hs (by omega) (by have:=p3 (by omega); simpa [gAt] using this) hj
    simpa using this
 exact fun {s} hs=>this _ s hs
theorem ev_units {b:Book} {e:Ev} (h:isEventB b e=true) (hk:e.kind=1∨e.kind=2∨e.kind=8):isSystemI e.system=true∧1≤e.units∧e.units≤360:=by
 unfold isEventB at h
 simp only [Bool.and_eq_true] at h
 obtain ⟨_,h⟩:=h
 rcases hk with hk|hk|hk
 ·simp [hk,isUnitsI,inI] at h
  exact h.1.2
 ·simp [hk,isUnitsI,inI] at h
  exact h.1.2
 ·simp [hk,isUnitsI,inI] at h
  exact h.1.2
theorem ev_units5 {b:Book} {e:Ev} (h:isEventB b e=true) (hk:e.kind=5):1≤e.units∧e.units≤360:=by
 unfold isEventB at h
 simp only [Bool.and_eq_true] at h
 obtain ⟨_,h⟩:=h
 simp [hk,isUnitsI,inI] at h
 exact h.1.1.2
structure Wg (b:Book) (s:Stand):Prop where
 gr:∀g∈s.grants,isSystemI g.system=true∧1≤g.units∧g.units≤360
 wa:∀w∈s.waits,isSystemI (evAt b w).system=true∧1≤(evAt b w).units∧(evAt b w).units≤360
section
variable {b:Book} {s:Stand}
theorem Wg.serve1 (s:Stand) (w:Int) (ws:List Int) (h:Wg b s) (hw:s.waits=w::ws):Wg b { addG s (evAt b w).person (-1) (evAt b w).system (evAt b w).units with waits:=ws }:=by
 refine ⟨fun g hg=>?_,fun v hv=>h.wa v (by rw [hw]; exact List.mem_cons_of_mem _ hv)⟩
 simp only [addG,List.mem_append,List.mem_singleton] at hg
 rcases hg with hg|rfl
 ·exact h.gr g hg
 ·exact h.wa w (by rw [hw]; simp)
theorem Wg.serve (h:Wg b s):Wg b (serve b s):=serve_ind (fun s w ws h hw _=>Wg.serve1 s w ws h hw) h
theorem gAt_mem {s:Stand} {i:Nat} (h:i<s.grants.length):gAt s i∈s.grants:=by
 unfold gAt; rw [getD_at h]; exact List.getElem_mem h
theorem Wg.set (h:Wg b s) {i:Nat} {y:GSt} (hy:isSystemI y.system=true∧1≤y.units∧y.units≤360) {t:Stand} (ht:t.grants=s.grants.set i y) (hw:t.waits=s.waits):Wg b t:=
 ⟨fun g hg=>by
  rw [ht] at hg
  rcases List.mem_or_eq_of_mem_set hg with hg|rfl
  ·exact h.gr g hg
  ·exact hy,fun w hw'=>h.wa w (hw▸hw')⟩
theorem Wg.endG (h:Wg b s) {g:Nat} (hg:g<s.grants.length) (d:Int):Wg b (endG s g d):=
 h.set (i:=g) (y:= { s.grants.getD g default with is:=3,person:= -1 }) (h.gr (gAt s g) (gAt_mem hg)) rfl rfl
theorem Wg.endS (h:Wg b s) {g:Nat} (hg:g<s.grants.length) (d:Int):Wg b (endS b s g d):=(h.endG hg d).serve
theorem Wg.pass (h:Wg b s) (d:Int):Wg b (pass b s d):=pass_ind (fun s w ws h hw _=>Wg.serve1 s w ws h hw) (fun _s _g h hg _ _=>h.endG hg _) h
theorem Wg.add (h:Wg b s) (p e:Int) {sy u:Int} (hy:isSystemI sy=true∧1≤u∧u≤360):Wg b (addG s p e sy u):=by
 refine ⟨fun g hg=>?_,h.wa⟩
 simp only [addG,List.mem_append,List.mem_singleton] at hg
 rcases hg with hg|rfl
 ·exact h.gr g hg
 ·exact hy
theorem Wg.map (h:Wg b s) {f:GSt→GSt} (hf:∀g,(f g).system=g.system∧(f g).units=g.units) {t:Stand} (ht:t.grants=s.grants.map f) (hw:t.waits=s.waits):Wg b t:=
 ⟨fun g hg=>by
  rw [ht] at hg
  obtain ⟨x,hx,rfl⟩:=List.mem_map.1 hg
  rw [(hf x).1,(hf x).2]
  exact h.gr x hx,fun w hw'=>h.wa w (hw▸hw')⟩
theorem Wg.own (h:Wg b s) (n:Nat) (p:Int):Wg b (ownS s n p):=h.map (f:=fun x=>if x.estate=(n:Int) then { x with person:=p } else x) (fun g=>by split<;>exact ⟨rfl,rfl⟩) rfl rfl
theorem fold_ind {α:Type} {I:Stand→Prop} {f:Stand→α→Stand}:∀ {l:List α} {s:Stand},I s→(∀s x,x∈l→I s→I (f s x))→I (l.foldl f s):=by
 intro l
 induction l with
 |nil=>intro s hs _; exact hs
 |cons x l ih=>intro s hs hf; exact ih (hf s x (by simp) hs) fun s y hy=>hf s y (by simp [hy])
theorem endStep_len (b:Book) (e:Ev) (s:Stand) (i:Nat):s.grants.length≤(endStep b e s i).grants.length:=by
 unfold endStep
 split
 ·exact endS_len b s i e.day
 ·exact Nat.le_refl _
theorem die_ind {b:Book} {e:Ev} {I:Stand→Prop} (hA:∀s,I s→I (dieA s e)) (hB:∀s (i:Nat),I s→i<s.owners.length→oAt s i=e.person→I (ownS s i e.other)) (hC:∀s,I s→I (dieC b s e))
  (hD:∀s (i:Nat),I s→i<s.grants.length→(gAt s i).is=2→(gAt s i).person=e.person→I (endS b s i e.day))
  (hE:∀s (i:Nat),I s→i<s.grants.length→(gAt s i).is=1→(gAt s i).estate<0→(gAt s i).person=e.person→I { s with grants:=s.grants.set i { gAt s i with is:=2,person:=e.other },last:=s.last.set i (IntKind.i64.wrap (e.day+b.term)) }) {s:Stand} (h:I s):I (dieS b s e):=by
 have h1:=hA s h
 have h2:I (dieB (dieA s e) e)∧(dieB (dieA s e) e).owners.length=(dieA s e).owners.length:=by
  unfold dieB
  refine fold_ind (I:=fun t=>I t∧t.owners.length=(dieA s e).owners.length) ⟨h1,rfl⟩ fun t i hi ht=>?_
  have hi':=List.mem_range.1 hi
  unfold ownStep
  split
  ·rename_i ho; exact ⟨hB t i ht.1 (by omega) ho,by simpa [ownS] using ht.2⟩
  ·exact ht
 have h3:=hC _ h2.1
 obtain ⟨s3,hC3⟩:∃s3,dieC b (dieB (dieA s e) e) e=s3:=⟨_,rfl⟩
 rw [hC3] at h3
 have h4:I (dieD b s3 e):=by
  unfold dieD
  refine (fold_ind (I:=fun t=>I t∧s3.grants.length≤t.grants.length) ⟨h3,Nat.le_refl _⟩ fun t i hi ht=>?_).1
  have hi':=List.mem_range.1 hi
  refine ⟨?_,Nat.le_trans ht.2 (endStep_len b e t i)⟩
  unfold endStep
  split
  ·rename_i hc; exact hD t i ht.1 (by omega) hc.1 hc.2
  ·exact ht.1
 have hS:dieS b s e=dieE b (dieD b (dieC b (dieB (dieA s e) e) e) e) e:=rfl
 rw [hS,hC3]
 generalize dieD b s3 e=s4 at h4 ⊢
 unfold dieE
 refine (fold_ind (I:=fun t=>I t∧t.grants.length=s4.grants.length) ⟨h4,rfl⟩ fun t i hi ht=>?_).1
 have hi':=List.mem_range.1 hi
 unfold heirStep
 split
 ·rename_i hc; exact ⟨hE t i ht.1 (by omega) hc.1 hc.2.1 hc.2.2,by simpa using ht.2⟩
 ·exact ht
theorem Wg.die (h:Wg b s) (e:Ev):Wg b (dieS b s e):=
 die_ind (I:=Wg b) (fun _s h=>⟨h.gr,h.wa⟩) (fun _s i h _ _=>h.own i e.other) (fun _s h=>⟨h.gr,fun w hw=>h.wa w (List.mem_filter.1 hw).1⟩) (fun _s _i h hi _ _=>h.endS hi e.day)
  (fun s i h hi _ _ _=>h.set (i:=i) (y:= { gAt s i with is:=2,person:=e.other }) (h.gr (gAt s i) (gAt_mem hi)) rfl rfl) h
theorem Wg.do_ (h:Wg b s) {e:Ev} (he:isEventB b e=true) (hg:goesB b s e=true) (hk:1≤e.kind∧e.kind≤8) (h0:0≤e.grant) {n:Nat} (hn:evAt b n=e):Wg b (doS b s e n):=by
 unfold doS
 by_cases k1:e.kind=1
 ·rw [if_pos k1]; exact h.add _ _ (ev_units he (.inl k1))
 rw [if_neg k1]
 by_cases k2:e.kind=2
 ·rw [if_pos k2]; exact h.add _ _ (ev_units he (.inr (.inl k2)))
 rw [if_neg k2]
 by_cases k3:e.kind=3
 ·rw [if_pos k3]; exact h.die e
 rw [if_neg k3]
 by_cases k4:e.kind=4
 ·rw [if_pos k4]; exact h.own _ _
 rw [if_neg k4]
 by_cases k5:e.kind=5
 ·rw [if_pos k5]
  have hu:=ev_units5 he k5
  unfold goesB at hg
  simp only [k5] at hg
  simp [divB] at hg
  obtain ⟨g1,_,g3,_⟩:=hg
  have hm:=h.gr (gAt s e.grant.toNat) (gAt_mem (by omega))
  have hgd:s.grants[e.grant.toNat]?.getD default=gAt s e.grant.toNat:=by simp [gAt]
  rw [hgd] at g3
  refine Wg.add (s:= { s with owners:=s.owners++ [e.person],grants:=s.grants.set e.grant.toNat { s.grants.getD e.grant.toNat default with units:=IntKind.i64.wrap ((s.grants.getD e.grant.toNat default).units - e.units) } }) ?_ _ _ ⟨hm.1,hu⟩
  refine h.set (i:=e.grant.toNat) (y:= { gAt s e.grant.toNat with units:=IntKind.i64.wrap ((gAt s e.grant.toNat).units - e.units) }) ⟨hm.1,?_⟩ rfl rfl
  simp only
  rw [wrap64 _ (by omega) (by omega)]
  omega
 rw [if_neg k5]
 by_cases k6:e.kind=6
 ·rw [if_pos k6]; exact h.map (f:=joinF e) (fun g=>by unfold joinF; split<;>exact ⟨rfl,rfl⟩) rfl rfl
 rw [if_neg k6]
 by_cases k7:e.kind=7
 ·rw [if_pos k7]
  unfold goesB at hg
  simp only [k7] at hg
  simp at hg
  exact h.set (i:=e.grant.toNat) (y:= { s.grants.getD e.grant.toNat default with is:=1 }) (h.gr (gAt s e.grant.toNat) (gAt_mem (by omega))) rfl rfl
 rw [if_neg k7]
 refine ⟨h.gr,fun w hw=>?_⟩
 simp only [askS,List.mem_append,List.mem_singleton] at hw
 rcases hw with hw|rfl
 ·exact h.wa w hw
 ·rw [hn]; exact ev_units he (.inr (.inr (by omega)))
theorem Wg.start (b:Book):Wg b (start b):=⟨fun g hg=>by simp [Tryz.start] at hg,fun w hw=>by simp [Tryz.start] at hw⟩
end
end Go.Gm.Tryz
end
section
namespace Go.Gm.Tryz
open Go.Proofs
theorem r3Units_con (r:Row) (s:Int) (H:GH):C 164 [rowV r,vi s] H (vi (unitI r s)) H:=by
 refine con_wp tok mix fok164 (F:=g164) (c:=_) rfl (n:=11) rfl (rs:= [.tmp 4]) rfl (anch_closed rfl) ?_
 simp
 refine wpB_dec (fun h=>?_) (fun h=>?_)
 ·simp [unitI,h]
 ·simp [unitI,h]
theorem sum_take_map (f:Int→Int) (l:List Int) {i:Nat} (h:i<l.length):((l.take (i+1)).map f).sum=((l.take i).map f).sum+f l[i]:=by
 rw [List.take_succ_eq_append_getElem h,List.map_append,List.sum_append]
 simp
theorem sum_pre_bd (f:Int→Int) (l:List Int) (h:∀x∈l,0≤f x∧f x≤1000) (i:Nat):0≤((l.take i).map f).sum∧((l.take i).map f).sum≤1000*l.length:=by
 have:=sum_bd (l:=(l.take i).map f) (fun x hx=>by
  obtain ⟨n,hn,rfl⟩:=List.mem_map.1 hx
  exact h n (List.mem_of_mem_take hn))
 have hl:(l.take i).length≤l.length:=by simp; omega
 simp only [List.length_map] at this
 omega
theorem r3Gives_con (l:TLoc) (t:Tbl) (ht:isTableB t=true) (set:List Int) (hs:SetOk t set) (a:Option Addr) (fl:Nat) (H:GH) (hT:TblIn H l t) (hr:Elems H a 1 encI set):C 143 [tblV l t,.slice a set.length fl] H (vi (givesI t set)) H:=by
 rcases l with ⟨⟨ra,rf⟩⟩
 refine con_wp tok mix fok143 (F:=g143) (c:=_) rfl (n:=25) rfl (rs:= [.tmp 4]) rfl (anch_closed rfl) ?_
 simp
 generalize hH1:H.push _=H1
 have hs1:Sub H H1:=by subst hH1; simp
 have hg1:H1.get H.next=some (.arr { cells:= [.slice ra t.rows.length rf,vi t.draw],ty:=24 }):=by subst hH1; simp
 have hn1:H.next<H1.next:=by subst hH1; simp
 have hr:=hr.mono hs1
 have hT:=hT.mono hs1
 have hl6:=hs.1
 have hbd:=sum_pre_bd (fun n=>(rowAt t n).gives) set fun x hx=>by
  have hm:=hs.2 x hx
  have:=(table_rows ht).2.2 _ (row_mem hm.1 hm.2)
  omega
 clear hH1
 refine wp_up tok mix (by kernel_rfl) set.length (fun i ρ m H'=>ρ 1=.slice a set.length fl∧ρ 2=.pointer (some (ga H.next 0 0))∧ρ 5=vi ((set.take i).map fun n=>(rowAt t n).gives).sum∧ρ 6=vi i∧m= []∧H'=H1) (i0:=0) (by omega) (by simp) ?_
 rintro i ρ m H' hi ⟨e1,e2,e5,e6,rfl,rfl⟩
 simp [e1,e6]
 refine wpB_dec (fun hlt=>?_) (fun hge=>?_)
 ·obtain ⟨b,rfl,hb,hrd⟩:=hr.at i hlt
  have hm:=hs.2 _ (List.getElem_mem hlt)
  obtain ⟨rb,rfl,hrb,hrrd⟩:=(Elems.at hT) (set[i]).toNat (by omega)
  have er:rowAt t set[i]=t.rows[(set[i]).toNat]:=getD_at (by omega)
  have h1:=hbd i
  have h2:=hbd (i+1)
  rw [sum_take_map _ _ hlt] at h2
  simp (disch:=omega) [e1,e2,e5,e6,hlt,hrd,hg1,hrrd]
  simp only [←er]
  have e:=sum_take_map (fun n=>(rowAt t n).gives) set hlt
  simp (disch:=omega) [wrap64]
  simp only [List.map_take] at e h1 h2 ⊢
  rw [e,wrap64 _ (by omega) (by omega)]
 ·have hi':i=set.length:=by omega
  subst hi'
  rw [List.take_length] at e5
  simp [e5,givesI]
  exact hs1
theorem r3Counts_con (l:TLoc) (t:Tbl) (ht:isTableB t=true) (s:Int) (set:List Int) (hs:SetOk t set) (a:Option Addr) (fl:Nat) (H:GH) (hT:TblIn H l t) (hr:Elems H a 1 encI set):C 142 [tblV l t,vi s,.slice a set.length fl] H (vi (countsI t s set)) H:=by
 rcases l with ⟨⟨ra,rf⟩⟩
 refine con_wp tok mix fok142 (F:=g142) (c:=_) rfl (n:=28) rfl (rs:= [.tmp 6]) rfl (anch_closed rfl) ?_
 simp
 generalize hH1:H.push _=H1
 have hs1:Sub H H1:=by subst hH1; simp
 have hg1:H1.get H.next=some (.arr { cells:= [.slice ra t.rows.length rf,vi t.draw],ty:=24 }):=by subst hH1; simp
 have hn1:H.next<H1.next:=by subst hH1; simp
 have hr:=hr.mono hs1
 have hT:=hT.mono hs1
 have hl6:=hs.1
 have hbd:=sum_pre_bd (fun n=>unitI (rowAt t n) s) set fun x hx=>by
  have hm:=hs.2 x hx
  have:=unit_bd ht hm.1 hm.2 s
  omega
 clear hH1
 refine wp_up tok mix (by kernel_rfl) set.length (fun i ρ m H'=>ρ 1=vi s∧ρ 2=.slice a set.length fl∧ρ 3=.pointer (some (ga H.next 0 0))∧ρ 7=vi ((set.take i).map fun n=>unitI (rowAt t n) s).sum∧ρ 8=vi i∧m= []∧H'=H1) (i0:=0) (by omega) (by simp) ?_
 rintro i ρ m H' hi ⟨e1,e2,e3,e7,e8,rfl,rfl⟩
 simp [e2,e8]
 refine wpB_dec (fun hlt=>?_) (fun hge=>?_)
 ·obtain ⟨b,rfl,hb,hrd⟩:=hr.at i hlt
  have hm:=hs.2 _ (List.getElem_mem hlt)
  obtain ⟨rb,rfl,hrb,hrrd⟩:=(Elems.at hT) (set[i]).toNat (by omega)
  have er:rowAt t set[i]=t.rows[(set[i]).toNat]:=getD_at (by omega)
  have h1:=hbd i
  have h2:=hbd (i+1)
  rw [sum_take_map _ _ hlt] at h2
  simp (disch:=omega) [e1,e2,e3,e7,e8,hlt,hrd,hg1,hrrd]
  simp only [←er]
  with_reducible refine (r3Units_con _ s _).go ?_
  have e:=sum_take_map (fun n=>unitI (rowAt t n) s) set hlt
  simp (disch:=omega) [e1,e2,e3,e8,wrap64]
  simp only [List.map_take] at e h1 h2 ⊢
  rw [e,wrap64 _ (by omega) (by omega)]
 ·have hi':i=set.length:=by omega
  subst hi'
  rw [List.take_length] at e7
  simp [e7,countsI]
  exact hs1
end Go.Gm.Tryz
end
section
namespace Go.Gm
theorem wpB_mid {X:Cx} {a:Code} {K:Rho→List Nat→GH→Prop} {Q:VQ} {ρ:Rho} {m:List Nat} {H:GH} {v:Bool} (P:Rho→List Nat→GH→Prop) (h1:v=true→wpC X a (fun x ρ m H=>x=.normal∧P ρ m H) ρ m H) (h2:v=false→P ρ m H) (hk:∀ρ m H,P ρ m H→K ρ m H):wpB (.bool v) (wpC X a (seqQ K Q)) K ρ m H:=
 wpB_bool (fun h=>wp_mid P (h1 h) hk) fun h=>hk _ _ _ (h2 h)
theorem Elems.readS {α:Type} {H:GH} {a:Option Addr} {sz:Nat} {enc:α→List Value} {l:List α} (e:Elems H a sz enc l):H.readS a l.length sz=some (l.flatMap enc):=by
 cases a with
 |none=>rw [e.nil rfl]; rfl
 |some b=>exact (e.ok b rfl).2
end Go.Gm
namespace Go.Gm.Tryz
open Go.Proofs
def Ints (H:GH) (M:Nat) (a:Option Addr) (l:List Int):Prop:=Elems H a 1 encI l∧∀c,a=some c→M≤c.block∧∃A,H.get c.block=some (.arr A)∧A.ty=3
theorem Ints.sub {H H':GH} {M:Nat} {a:Option Addr} {l:List Int} (h:Ints H M a l) (hs:Sub H H'):Ints H' M a l:=
 ⟨h.1.mono hs,fun c hc=>by
  obtain ⟨h0,A,h1,h2⟩:=h.2 c hc
  exact ⟨h0,A,by rw [hs.2 _ (h.1.ok c hc).1]; exact h1,h2⟩⟩
theorem Ints.nil (H:GH) (M:Nat):Ints H M none []:=⟨⟨fun _=>rfl,(fun b hb=>by cases hb),fun _=>rfl⟩,fun c hc=>by cases hc⟩
theorem ownL_ints {H:GH} {N M:Nat} {v:Value} {l:List Int} (h:OwnL H N v 3 1 encI l) (hM:M≤N):∃a fl,v=.slice a l.length fl∧Ints H M a l:=by
 obtain ⟨a,fl,e,hE⟩:=h.elems (fun _=>rfl)
 refine ⟨a,fl,e,hE,fun c hc=>?_⟩
 subst hc
 rcases h with ⟨_,h⟩|⟨g,ver,szs,pre,_,hN,_,h,h3⟩
 ·rw [h] at e; cases e
 ·rw [h] at e; cases e; exact ⟨Nat.le_trans hM hN,_,h3,rfl⟩
@[simp] def encPL (p:SLoc×List Int):List Value:= [.slice p.1.a p.2.length p.1.fl]
def ListsR (H:GH) (N M:Nat) (v:Value) (ss:List (List Int)):Prop:=∃ls:List (SLoc×List Int),OwnL H N v 25 1 encPL ls∧ls.map Prod.snd=ss∧∀p∈ls,Ints H M p.1.a p.2
theorem ListsR.sub {H H':GH} {N M:Nat} {v:Value} {ss:List (List Int)} (h:ListsR H N M v ss) (hs:Sub H H'):ListsR H' N M v ss:=by
 obtain ⟨ls,h1,h2,h3⟩:=h
 exact ⟨ls,h1.sub hs,h2,fun p hp=>(h3 p hp).sub hs⟩
theorem ListsR.nil (H:GH) (N M:Nat):ListsR H N M (.slice none 0 0) []:=⟨[],OwnL.nil,rfl,fun p hp=>by simp at hp⟩
theorem encPL_one (p:SLoc×List Int):(encPL p).all one=true:=by simp [one]
theorem ListsR.app {H:GH} {N M K:Nat} {v w:Value} {ss ts:List (List Int)} (h:ListsR H N K v ss) (k:ListsR H M K w ts) (hN:N≤H.next):
  ∃b c a fl cs v' H',v=.slice b ss.length c∧w=.slice a ts.length fl∧H.readS a ts.length 1=some cs∧gappend H 25 1 (.slice b ss.length c) ts.length cs=some (v',H')∧ListsR H' N K v' (ss++ts)∧H.next≤H'.next∧∀g,g<N→H'.get g=H.get g:=by
 obtain ⟨ls,h1,h2,h3⟩:=h
 obtain ⟨ks,k1,k2,k3⟩:=k
 obtain ⟨a,fl,rfl,hE⟩:=k1.elems (fun _=>rfl)
 obtain ⟨v',H',happ,ho,hn,hf,hb⟩:=h1.apps (fun _=>rfl) encPL_one (by decide) ks hN
 have hl:ts.length=ks.length:=by rw [←k2,List.length_map]
 have hls:ss.length=ls.length:=by rw [←h2,List.length_map]
 have keep:∀g,g<N→H'.get g=H.get g:=fun g hg=>hf g (by omega) (fun hc=>by have:=(h1.blk_lt hc).1; omega)
 have hty:=fun g (hg:blkOf v=some g)=>h1.blk_ty hg
 obtain ⟨b,c,rfl⟩:=h1.slice
 rw [hl,hls]
 refine ⟨b,c,a,fl,ks.flatMap encPL,v',H',rfl,rfl,hE.readS,happ,⟨ls++ks,ho,by rw [List.map_append,h2,k2],?_⟩,hn,keep⟩
 have hold:∀p:SLoc×List Int,Ints H K p.1.a p.2→Ints H' K p.1.a p.2:=fun p hp=>by
  have hne:∀d,p.1.a=some d→H'.get d.block=H.get d.block:=fun d hd=>hf _ (hp.1.ok d hd).1 fun hc=>by
   obtain ⟨A,e1,e2⟩:=hty _ hc
   obtain ⟨_,B,e3,e4⟩:=hp.2 d hd
   rw [e1] at e3; cases e3
   rw [e2] at e4; cases e4
  refine ⟨⟨hp.1.len,fun d hd=>?_,hp.1.nil⟩,fun d hd=>?_⟩
  ·obtain ⟨e1,e2⟩:=hp.1.ok d hd
   refine ⟨Nat.lt_of_lt_of_le e1 hn,?_⟩
   rw [←e2]
   simp only [GH.read]
   rw [hne d hd]
  ·rw [hne d hd]; exact hp.2 d hd
 intro p hp
 rcases List.mem_append.1 hp with hp|hp
 ·exact hold p (h3 p hp)
 ·exact hold p (k3 p hp)
theorem setsFrom_len {m:Nat}:∀(k:Nat) (now:List Int),(setsFrom m k now).length≤m^k:=by
 intro k
 induction k with
 |zero=>intro now; simp [setsFrom]
 |succ k ih=>
  intro now
  simp only [setsFrom,List.length_flatMap]
  have:∀(l:List Nat),(l.map fun (n:Nat)=>(setsFrom m k (now++ [((n:Nat):Int)])).length).sum≤l.length*m^k:=by
   intro l
   induction l with
   |nil=>simp
   |cons x l ihl=>
    have:=ih (now++ [((x:Nat):Int)])
    simp only [List.map_cons,List.sum_cons,List.length_cons,Nat.add_mul]
    omega
  refine Nat.le_trans (this _) ?_
  rw [List.length_range',Nat.pow_succ,Nat.mul_comm]
  exact Nat.mul_le_mul_left _ (Nat.sub_le _ _)
theorem pow_bd {m k:Nat} (hm:m≤4) (hk:k≤6):m^k≤4096:=
 Nat.le_trans (Nat.pow_le_pow_left hm k) (Nat.le_trans (Nat.pow_le_pow_right (by decide) hk) (by decide))
def partSets (m k:Nat) (now:List Int) (from_ i:Nat):List (List Int):=(List.range' from_ (i - from_)).flatMap fun (n:Nat)=>setsFrom m k (now++ [((n:Nat):Int)])
theorem partSets_self (m k:Nat) (now:List Int) (f:Nat):partSets m k now f f= []:=by simp [partSets]
theorem partSets_succ (m k:Nat) (now:List Int) {f i:Nat} (h:f≤i):partSets m k now f (i+1)=partSets m k now f i++setsFrom m k (now++ [(i:Int)]):=by
 unfold partSets
 rw [show i+1 - f=(i - f)+1 by omega,List.range'_concat,List.flatMap_append]
 simp
 rw [show (f:Int)+((i - f:Nat):Int)=i by omega]
theorem partSets_len {m k:Nat} {now:List Int} {f i:Nat} (hm:m≤4) (hk:k≤5) (hi:i≤m):(partSets m k now f i).length≤4096:=by
 unfold partSets
 rw [List.length_flatMap]
 have:∀(l:List Nat),(l.map fun (n:Nat)=>(setsFrom m k (now++ [((n:Nat):Int)])).length).sum≤l.length*m^k:=by
  intro l
  induction l with
  |nil=>simp
  |cons x l ihl=>
   have:=setsFrom_len (m:=m) k (now++ [((x:Nat):Int)])
   simp only [List.map_cons,List.sum_cons,List.length_cons,Nat.add_mul]
   omega
 refine Nat.le_trans (this _) ?_
 rw [List.length_range']
 have h1:m^k≤1024:=Nat.le_trans (Nat.pow_le_pow_left hm k) (Nat.le_trans (Nat.pow_le_pow_right (by decide) hk) (by decide))
 have h2:i - f≤4:=by omega
 calc (i - f)*m^k≤4*1024:=Nat.mul_le_mul h2 h1
  _≤4096:=by decide
theorem r3sets_con (l:TLoc) (t:Tbl) (hrows:t.rows.length≤4):∀(k:Nat) (now:List Int),now.length+k≤6→(∀x∈now,0≤x∧x<t.rows.length)→∀(H:GH) (a:Option Addr) (fl M:Nat),M≤H.next→TblIn H l t→Ints H M a now→
  GCall Tryz.prog 163 [tblV l t,.slice a now.length fl,vi ((now.length:Int)+k)] H fun x H'=>Sub H H'∧∃v,x=.ret v∧ListsR H' H.next M v (setsFrom t.rows.length k now):=by
 rcases l with ⟨⟨ra,rf⟩⟩
 intro k
 induction k with
 |zero=>
  intro now hlen hnow H a fl M hM hT hI
  refine gcall_wp tok mix fok163 (F:=g163) (c:=_) rfl (n:=44) rfl (rs:= [.tmp 6]) rfl ?_
  simp
  generalize hH1:GH.push (GH.push H _) _=H1
  have hs1:Sub H H1:=by subst hH1; exact (Sub.push (.refl H) _).push _
  have k1:H1.get (H.next+1)=some (.arr { cells:= [.slice a now.length fl],ty:=25 }):=by subst hH1; simp
  have hn1:H1.next=H.next+2:=by subst hH1; simp
  exact ⟨[(⟨a,fl⟩,now)],OwnL.mk (l:= [((⟨a,fl⟩:SLoc),now)]) (enc:=encPL) (by decide) (by omega) (by omega) k1,by simp [setsFrom],fun p hp=>by simp at hp; subst hp; exact hI.sub hs1⟩
 |succ k ih=>
  intro now hlen hnow H a fl M hM hT hI
  refine gcall_wp tok mix fok163 (F:=g163) (c:=_) rfl (n:=44) rfl (rs:= [.tmp 6]) rfl ?_
  have hne:¬(now.length:Int)=(now.length:Int)+((k:Int)+1):=by omega
  simp [hne]
  generalize hH1:GH.push H _=H1
  have hs1:Sub H H1:=by subst hH1; exact Sub.push (.refl H) _
  have k1:H1.get H.next=some (.arr { cells:= [.slice ra t.rows.length rf,vi t.draw],ty:=24 }):=by subst hH1; simp
  have hn1:H1.next=H.next+1:=by subst hH1; simp
  clear hH1
  have hT1:=hT.mono hs1
  have hI1:=hI.sub hs1
  have hf:fromOf now≤t.rows.length∧(fromOf now:Int)=now.getLast?.getD 0:=by
   unfold fromOf
   cases hl:now.getLast? with
   |none=>simp
   |some x=>have:=hnow x (List.mem_of_getLast? hl); simp; omega
  refine wpB_mid (fun ρ m H'=>ρ 1=.slice a now.length fl∧ρ 2=vi ((now.length:Int)+((k:Int)+1))∧ρ 3=.pointer (some (ga H.next 0 0))∧ρ 7=vi (fromOf now)∧m= []∧H'=H1) (fun hp=>?_) (fun hp=>?_) ?_
  ·simp only [decide_eq_true_eq] at hp
   obtain ⟨b,hab,hb,hrd⟩:=hI1.1.at (now.length - 1) (by omega)
   have e1:((now.length:Int) - 1).toNat=now.length - 1:=by omega
   subst hab
   have e2:now.getLast?.getD 0=now[now.length - 1]'(by omega):=by
    rw [List.getLast?_eq_getElem?,List.getElem?_eq_getElem (by omega)]; rfl
   simp (disch:=omega) [hrd,e1,wrap64]
   rw [hf.2,e2]
  ·simp only [decide_eq_false_iff_not] at hp
   have h0:now= []:=by cases now with|nil=>rfl|cons _ _=>simp at hp
   subst h0
   simp [fromOf]
  rintro ρ m H1 ⟨e1,e2,e3,e7,rfl,rfl⟩
  simp [e7]
  refine wp_up tok mix (by kernel_rfl) t.rows.length (fun i ρ m H'=>fromOf now≤i∧ρ 1=.slice a now.length fl∧ρ 2=vi ((now.length:Int)+((k:Int)+1))∧ρ 3=.pointer (some (ga H.next 0 0))∧ρ 9=vi i∧m= []∧Sub H1 H'∧ListsR H' H1.next M (ρ 8) (partSets t.rows.length k now (fromOf now) i)) (i0:=fromOf now) hf.1
   ⟨Nat.le_refl _,by simp [e1],by simp [e2],by simp [e3],by simp,rfl,.refl _,by rw [partSets_self]; exact ListsR.nil _ _ _⟩ ?_
  rintro i ρ m H2 hi ⟨hfi,d1,d2,d3,d9,rfl,hs2,hL⟩
  have hg2:=(hs2.2 H.next (by omega)).trans k1
  have hlt0:H.next<H2.next:=by have:=hs2.1; omega
  simp [d3,d9,hg2]
  refine wpB_dec (fun hlt=>?_) (fun hge=>?_)
  ·have hI2:=hI1.sub (hs2.push (.arr { cells:= [vi i],ty:=3 }))
   have hgp:(H2.push (.arr { cells:= [vi i],ty:=3 })).get H2.next=some (.arr { cells:= [vi i],ty:=3 }):=by simp
   have hgq:=(GH.get_push_lt H2 (.arr { cells:= [vi i],ty:=3 }) hlt0).trans hg2
   have hnp:(H2.push (.arr { cells:= [vi i],ty:=3 })).next=H2.next+1:=by simp
   have hsp:Sub H2 (H2.push (.arr { cells:= [vi i],ty:=3 })):=Sub.push (.refl H2) _
   generalize hHp:H2.push (.arr { cells:= [vi i],ty:=3 })=Hp at hI2 hgp hgq hnp hsp
   obtain ⟨v36,H3,happ,ho3,hn3,hf3,_⟩:=(OwnL.nil (H:=Hp) (N:=Hp.next) (ty:=3) (sz:=1) (enc:=encI)).apps (fun _=>rfl) (fun _=>rfl) (by decide) now (Nat.le_refl _)
   simp only [List.nil_append] at ho3
   have hs3:Sub Hp H3:=⟨hn3,fun g hg=>hf3 g hg (by simp)⟩
   have hg3:=(hs3.2 H.next (by omega)).trans hgq
   have hg3p:=(hs3.2 H2.next (by omega)).trans hgp
   obtain ⟨v39,H4,happ4,ho4,hn4,hf4,_⟩:=ho3.app (fun _=>rfl) (fun _=>rfl) (by decide) (i:Int) (by omega)
   simp only [encI] at happ4
   have hs4:Sub H2 H4:=⟨by omega,fun g hg=>by rw [hf4 g (by omega) (fun hc=>by have:=(ho3.blk_lt hc).1; omega),hs3.2 g (by omega),hsp.2 g hg]⟩
   have hg4:=(hs4.2 H.next hlt0).trans hg2
   have hl36:=ho3.len
   obtain ⟨a36,f36,rfl⟩:=ho3.slice
   obtain ⟨a39,f39,rfl,hI39⟩:=ownL_ints (M:=M) ho4 (by have:=hs2.1; omega)
   have hih:=ih (now++ [(i:Int)]) (by simp; omega) (fun x hx=>by
    rcases List.mem_append.1 hx with hx|hx
    ·exact hnow x hx
    ·simp at hx; omega) H4 a39 f39 M (by have:=hs2.1; have:=hs4.1; omega) (hT1.mono (hs2.trans hs4)) hI39
   simp only [List.length_append,List.length_cons,List.length_nil,Nat.zero_add] at hih
   rw [show ((now.length+1:Nat):Int)+k=(now.length:Int)+((k:Int)+1) by omega] at hih
   have hl8:∃b c,ρ 8=.slice b (partSets t.rows.length k now (fromOf now) i).length c:=by
    obtain ⟨ls,h1,h2,_⟩:=hL
    obtain ⟨b,c,e⟩:=h1.slice
    exact ⟨b,c,by rw [e,←h2,List.length_map]⟩
   obtain ⟨b8,c8,e8⟩:=hl8
   have hrs:=hI2.1.readS
   have q1:8*now.length≤1000000:=by omega
   have q2:now.length≤1000000:=by omega
   have q3:8*(1+now.length)≤1000000:=by omega
   have q4:1+now.length≤1000000:=by omega
   simp (disch:=omega) [d1,d2,d3,d9,e8,hg2,hHp]
   simp (disch:=omega) [d3,hrs,happ,q1,q2,hg3,hg3p,hl36,q3,q4,happ4,hg4]
   refine hih.mono ?_
   rintro x H5 ⟨s5,v5,rfl,hL5⟩
   have hs5:=hs4.trans s5
   obtain ⟨b,c,a5,fl5,cs,v',H6,hv8,rfl,hrd5,happ6,hL6,hn6,hk6⟩:=(hL.sub hs5).app hL5 (by have:=hs2.1; have:=hs5.1; omega)
   rw [e8] at hv8
   cases hv8
   have p1:=partSets_len (m:=t.rows.length) (k:=k) (now:=now) (f:=fromOf now) (i:=i) hrows (by omega) hi
   have p2:(setsFrom t.rows.length k (now++ [(i:Int)])).length≤4096:=Nat.le_trans (setsFrom_len k _) (pow_bd hrows (by omega))
   have r1:24*((setsFrom t.rows.length k (now++ [(i:Int)])).length+(partSets t.rows.length k now (fromOf now) i).length)≤1000000:=by omega
   have r2:(setsFrom t.rows.length k (now++ [(i:Int)])).length+(partSets t.rows.length k now (fromOf now) i).length≤1000000:=by omega
   simp (disch:=omega) [hrd5,happ6,r1,r2,d1,d2,d3,d9,wrap64,hlt]
   refine ⟨by omega,⟨by have:=hs2.1; have:=hs5.1; omega,fun g hg=>?_⟩,?_⟩
   ·rw [hk6 g hg,hs5.2 g (by have:=hs2.1; omega),hs2.2 g hg]
   ·rw [partSets_succ _ _ _ hfi]; exact hL6
  ·have:i=t.rows.length:=by omega
   subst this
   obtain ⟨ls,h1,h2,h3⟩:=hL
   obtain ⟨b8,c8,e8⟩:=h1.slice
   simp [e8]
   rw [e8] at h1
   refine ⟨hs1.trans hs2,ls,h1.weaken (by omega),?_,h3⟩
   rw [h2]
   rfl
theorem r3Sets_con (l:TLoc) (t:Tbl) (hrows:t.rows.length≤4) (H:GH) (hT:TblIn H l t):GCall Tryz.prog 141 [tblV l t] H fun x H'=>Sub H H'∧∃v,x=.ret v∧ListsR H' H.next H.next v (allSets t.rows.length):=by
 rcases l with ⟨⟨ra,rf⟩⟩
 refine gcall_wp tok mix fok141 (F:=g141) (c:=_) rfl (n:=15) rfl (rs:= [.tmp 2]) rfl ?_
 simp
 generalize hH1:GH.push H _=H1
 have hs1:Sub H H1:=by subst hH1; exact Sub.push (.refl H) _
 have k1:H1.get H.next=some (.arr { cells:= [.slice ra t.rows.length rf,vi t.draw],ty:=24 }):=by subst hH1; simp
 have hn1:H1.next=H.next+1:=by subst hH1; simp
 clear hH1
 have hT1:=hT.mono hs1
 refine wp_up tok mix (by kernel_rfl) 7 (fun i ρ m H'=>ρ 1=.pointer (some (ga H.next 0 0))∧ρ 4=vi i∧m= []∧Sub H1 H'∧ListsR H' H1.next H.next (ρ 3) ((List.range i).flatMap fun k=>setsFrom t.rows.length k [])) (i0:=0) (by omega) ⟨by simp,by simp,rfl,.refl _,by simpa using ListsR.nil _ _ _⟩ ?_
 rintro i ρ m H2 hi ⟨e1,e4,rfl,hs2,hL⟩
 have hg2:=(hs2.2 H.next (by omega)).trans k1
 have hlt0:H.next<H2.next:=by have:=hs2.1; omega
 have hlen:∀j,j≤7→((List.range j).flatMap fun k=>setsFrom t.rows.length k []).length≤j*4096:=by
  intro j
  induction j with
  |zero=>intro _; simp
  |succ j ih=>
   intro hj
   have:=ih (by omega)
   have h2:(setsFrom t.rows.length j []).length≤4096:=Nat.le_trans (setsFrom_len j _) (pow_bd hrows (by omega))
   rw [List.range_succ,List.flatMap_append]
   simp only [List.flatMap_cons,List.flatMap_nil,List.append_nil,List.length_append]
   omega
 simp [e4]
 refine wpB_dec (fun hlt=>?_) (fun hge=>?_)
 ·have p1:=hlen i (by omega)
  have hFs:((List.range (i+1)).flatMap fun k=>setsFrom t.rows.length k [])=((List.range i).flatMap fun k=>setsFrom t.rows.length k [])++setsFrom t.rows.length i []:=by rw [List.range_succ,List.flatMap_append]; simp
  generalize hF:((List.range i).flatMap fun k=>setsFrom t.rows.length k [])=F at hL p1 hFs
  have hl8:∃b c,ρ 3=.slice b F.length c:=by
   obtain ⟨ls,h1,h2,_⟩:=hL
   obtain ⟨b,c,e⟩:=h1.slice
   exact ⟨b,c,by rw [e,←h2,List.length_map]⟩
  obtain ⟨b8,c8,e8⟩:=hl8
  have hih:=r3sets_con ⟨⟨ra,rf⟩⟩ t hrows i [] (by simp; omega) (fun x hx=>by simp at hx) H2 none 0 H.next (by omega) (hT1.mono hs2) (Ints.nil _ _)
  simp only [List.length_nil] at hih
  simp (disch:=omega) [e1,e4,hg2,e8]
  rw [show ((0:Nat):Int)+(i:Int)=i by omega] at hih
  refine hih.mono ?_
  rintro x H5 ⟨s5,v5,rfl,hL5⟩
  obtain ⟨b,c,a5,fl5,cs,v',H6,hv8,rfl,hrd5,happ6,hL6,hn6,hk6⟩:=(hL.sub s5).app hL5 (by have:=hs2.1; have:=s5.1; omega)
  rw [e8] at hv8
  cases hv8
  have p2:(setsFrom t.rows.length i []).length≤4096:=Nat.le_trans (setsFrom_len i _) (pow_bd hrows (by omega))
  have r1:24*((setsFrom t.rows.length i []).length+F.length)≤1000000:=by omega
  have r2:(setsFrom t.rows.length i []).length+F.length≤1000000:=by omega
  simp (disch:=omega) [hrd5,happ6,r1,r2,e1,e4,wrap64]
  refine ⟨by omega,⟨by have:=hs2.1; have:=s5.1; omega,fun g hg=>?_⟩,?_⟩
  ·rw [hk6 g hg,s5.2 g (by have:=hs2.1; omega),hs2.2 g hg]
  ·rw [hFs]; exact hL6
 ·have:i=7:=by omega
  subst this
  obtain ⟨ls,h1,h2,h3⟩:=hL
  obtain ⟨b8,c8,e8⟩:=h1.slice
  simp [e8]
  rw [e8] at h1
  exact ⟨hs1.trans hs2,ls,h1.weaken (by omega),h2,h3⟩
end Go.Gm.Tryz
end
section
namespace Go.Gm.Tryz
open Go.Proofs
def stepsB (least most lo hi d:Int):Bool:=decide (0<d)&&decide (lo≤d*most)&&decide (d*least≤hi)
theorem read_subI {h h':GH} {b:Addr} {n:Nat} {cs:List Value} (hs:Sub h h') (hl:b.block<h.next) (hrd:h.read b n=some cs):h'.read b n=some cs:=by
 rw [←hrd]
 simp only [GH.read]
 rw [hs.2 _ hl]
theorem ea_block (a:Addr) (i s k:Nat):(ea a i s k).block=a.block:=rfl
theorem mul_bd {d m:Int} (hd: -200≤d∧d≤200) (hm:0≤m∧m≤1000): -200000≤d*m∧d*m≤200000:=by
 have h1:d*m≤200*m:=Int.mul_le_mul_of_nonneg_right hd.2 hm.1
 have h2: -200*m≤d*m:=Int.mul_le_mul_of_nonneg_right hd.1 hm.1
 omega
theorem steps_con (least most tl th:Int) (vM:Value) (g:Addr) (ng fg:Nat) (i:Nat) (lo hi fr to:Int) (H:GH) (hi':i<ng) (hgb:g.block<H.next) (hg:H.read (ea g i 2 0) 2=some [vi lo,vi hi])
  (h1:0≤fr∧fr≤200) (h2:0≤to∧to≤200) (h3:0≤least∧least≤1000) (h4:0≤most∧most≤1000):
  C 170 [.agg #[vi least,vi most,vi tl,vi th,vM,.slice (some g) ng fg],vi i,vi fr,vi to] H (.bool (stepsB least most lo hi (to - fr))) H:=by
 refine con_wp tok mix fok170 (F:=g170) (c:=_) rfl (n:=39) rfl (rs:= [.tmp 8]) rfl (anch_closed rfl) ?_
 have w1:=mul_bd (d:=to - fr) (by omega) h3
 have w2:=mul_bd (d:=to - fr) (by omega) h4
 have q1:(i:Int)<ng:=by omega
 have hg2:∀o o',((H.push o).push o').read (ea g i 2 0) 2=some [vi lo,vi hi]:=fun o o'=>read_subI ((Sub.push (.refl H) o).push o') (by rw [ea_block]; exact hgb) hg
 simp (disch:=omega) [hg,hg2,wrap64]
 generalize hH1:GH.put (GH.push (GH.push H _) _) _ _=H1
 have hs1:Sub H H1:=by subst hH1; exact ((Sub.push (.refl H) _).push _).put (by omega) _
 have k1:H1.get H.next=some (.arr { cells:= [vi least,vi most,vi tl,vi th,vM,.slice (some g) ng fg],ty:=73 }):=by subst hH1; simp (disch:=omega)
 have k2:H1.get (H.next+1)=some (.arr { cells:= [vi lo,vi hi],ty:=62 }):=by subst hH1; simp (disch:=omega)
 clear hH1
 by_cases a1:fr<to
 ·simp (disch:=omega) [a1,k1,k2,wrap64]
  by_cases a2:lo≤(to - fr)*most
  ·have a1':0<to - fr:=by omega
   simp (disch:=omega) [a1,a2,k1,k2,wrap64,stepsB]
   exact hs1
  ·have a1':0<to - fr:=by omega
   simp (disch:=omega) [a1,a2,stepsB]
   exact hs1
 ·have a1':¬0<to - fr:=by omega
  simp (disch:=omega) [a1,stepsB]
  exact hs1
end Go.Gm.Tryz
end
section
namespace Go.Gm.Tryz
open Go.Proofs
def goB (least most lo hi:Int) (row:List Bool) (n j:Nat):Bool:=row.getD j false&&stepsB least most lo hi ((j:Int) - n)
def sgoesB (least most lo hi:Int) (row:List Bool) (n:Nat):Bool:=(List.range 100).any fun j=>decide (n<j)&&goB least most lo hi row n j
theorem sgoes_con (least most tl th turn:Int) (vM:Value) (g c:Addr) (ng fg nc fc:Nat) (i n:Nat) (lo hi:Int) (r:Addr) (fr:Nat) (row:List Bool) (hrl:row.length=100) (H:GH) (hi':i<ng) (hgb:g.block<H.next) (hg:H.read (ea g i 2 0) 2=some [vi lo,vi hi])
  (hi2:i+1<nc) (hcb:c.block<H.next) (hc:H.read (ea c (i+1) 1 0) 1=some [.slice (some r) 100 fr]) (hr:Elems H (some r) 1 encB row) (hn:n≤99) (h3:0≤least∧least≤1000) (h4:0≤most∧most≤1000) (him:i≤1000):
  C 176 [.agg #[vi least,vi most,vi tl,vi th,vM,.slice (some g) ng fg,vi turn,.slice (some c) nc fc],vi i,vi n] H (.bool (sgoesB least most lo hi row n)) H:=by
 refine con_wp tok mix fok176 (F:=g176) (c:=_) rfl (n:=31) rfl (rs:= [.tmp 6]) rfl (anch_closed rfl) ?_
 simp (disch:=omega) [wrap64]
 generalize hH1:GH.push H _=H1
 have hs1:Sub H H1:=by subst hH1; exact Sub.push (.refl H) _
 have k1:H1.get H.next=some (.arr { cells:= [vi least,vi most,vi tl,vi th,vM,.slice (some g) ng fg,vi turn,.slice (some c) nc fc],ty:=226 }):=by subst hH1; simp
 have hn1:H1.next=H.next+1:=by subst hH1; simp
 clear hH1
 have hg1:=read_subI hs1 (by rw [ea_block]; exact hgb) hg
 have hc1:=read_subI hs1 (by rw [ea_block]; exact hcb) hc
 have hr1:=hr.mono hs1
 refine wp_up tok mix (by kernel_rfl) 100 (fun j ρ m H'=>ρ 1=vi i∧ρ 2=vi n∧ρ 3=.pointer (some (ga H.next 0 0))∧ρ 7=vi j∧m= []∧H'=H1∧n<j∧∀k,n<k→k<j→goB least most lo hi row n k=false) (i0:=n+1) (by omega) (by
  simp
  intro k h1 h2; omega) ?_
 rintro j ρ m H' hj ⟨e1,e2,e3,e7,rfl,rfl,hnj,hk⟩
 simp [e7]
 by_cases hjl:j≤99
 ·have hjl':(j:Int)≤99:=by omega
  obtain ⟨r',e,hrb,hrd⟩:=hr1.at j (by omega)
  cases e
  have q1:(i:Int)+1<nc:=by omega
  have e1i:(i:Int)+1=((i+1:Nat):Int):=by omega
  have q2:(j:Int)<100:=by omega
  have hjr:j<row.length:=by omega
  have hrj:row.getD j false=row[j]:=by simp [hjr]
  have hstep:goB least most lo hi row n j=false→j<100∧n<j+1∧∀k,n<k→k<j+1→goB least most lo hi row n k=false:=fun h=>⟨by omega,by omega,fun k h1 h2=>by
   by_cases hkj:k=j
   ·rw [hkj]; exact h
   ·exact hk k h1 (by omega)⟩
  simp (disch:=omega) [hjl',e1,e3,e7,k1,hc1,hrd,wrap64]
  cases hb:row[j]
  ·simp (disch:=omega) [e1,e2,e3,e7,wrap64]
   exact hstep (by rw [goB,hrj,hb]; rfl)
  ·simp (disch:=omega) [e1,e2,e3,e7,k1]
   refine (steps_con least most tl th vM g ng fg i lo hi n j H' hi' (by omega) hg1 (by omega) (by omega) h3 h4).go ?_
   cases hst:stepsB least most lo hi ((j:Int) - n)
   ·simp (disch:=omega) [e1,e2,e3,e7,wrap64]
    exact hstep (by rw [goB,hrj,hb,hst]; rfl)
   ·have:sgoesB least most lo hi row n=true:=by
     simp only [sgoesB,List.any_eq_true]
     refine ⟨j,by simp; omega,?_⟩
     rw [goB,hrj,hb,hst]; simp [hnj]
    simp (disch:=omega) [this]
    exact hs1
 ·have hjl':¬(j:Int)≤99:=by omega
  have:sgoesB least most lo hi row n=false:=by
   simp only [sgoesB,List.any_eq_false]
   intro k hkr
   have:=List.mem_range.1 hkr
   by_cases hnk:n<k
   ·rw [hk k hnk (by omega)]; simp
   ·simp [hnk]
  simp [hjl',this]
  exact hs1
end Go.Gm.Tryz
end
section
namespace Go.Gm.Tryz
open Go.Proofs
theorem allF:F.AllP (fun f G=>FnOk Tryz.prog T f G) (fun k=>k):=
 ⟨trivial,⟨trivial,⟨fok3,⟨fok7,⟨fok15,⟨fok31,⟨fok63,⟨fok127,trivial,trivial⟩,⟨fok191,trivial,trivial⟩⟩,⟨fok95,⟨fok159,trivial,trivial⟩,⟨fok223,trivial,trivial⟩⟩⟩,⟨fok47,⟨fok79,⟨fok143,trivial,trivial⟩,trivial⟩,⟨fok111,⟨fok175,trivial,trivial⟩,trivial⟩⟩⟩,⟨fok23,⟨fok39,⟨fok71,⟨fok135,trivial,trivial⟩,trivial⟩,⟨fok103,⟨fok167,trivial,trivial⟩,⟨fok231,trivial,trivial⟩⟩⟩,⟨fok55,⟨fok87,⟨fok151,trivial,trivial⟩,⟨fok215,trivial,trivial⟩⟩,⟨fok119,⟨fok183,trivial,trivial⟩,trivial⟩⟩⟩⟩,⟨fok11,⟨fok19,⟨fok35,⟨fok67,⟨fok131,trivial,trivial⟩,trivial⟩,⟨fok99,⟨fok163,trivial,trivial⟩,⟨fok227,trivial,trivial⟩⟩⟩,⟨trivial,⟨fok83,⟨fok147,trivial,trivial⟩,trivial⟩,⟨fok115,⟨fok179,trivial,trivial⟩,trivial⟩⟩⟩,⟨fok27,⟨fok43,⟨fok75,⟨fok139,trivial,trivial⟩,trivial⟩,⟨fok107,⟨fok171,trivial,trivial⟩,trivial⟩⟩,⟨fok59,⟨fok91,⟨fok155,trivial,trivial⟩,⟨fok219,trivial,trivial⟩⟩,⟨fok123,⟨fok187,trivial,trivial⟩,trivial⟩⟩⟩⟩⟩,⟨fok5,⟨fok9,⟨fok17,⟨fok33,⟨fok65,⟨fok129,trivial,trivial⟩,trivial⟩,⟨fok97,⟨fok161,trivial,trivial⟩,⟨fok225,trivial,trivial⟩⟩⟩,⟨fok49,⟨fok81,⟨fok145,trivial,trivial⟩,trivial⟩,⟨fok113,⟨fok177,trivial,trivial⟩,trivial⟩⟩⟩,⟨fok25,⟨fok41,⟨fok73,⟨fok137,trivial,trivial⟩,trivial⟩,⟨fok105,⟨fok169,trivial,trivial⟩,⟨fok233,trivial,trivial⟩⟩⟩,⟨fok57,⟨fok89,⟨fok153,trivial,trivial⟩,⟨fok217,trivial,trivial⟩⟩,trivial⟩⟩⟩,⟨fok13,⟨fok21,⟨fok37,⟨fok69,⟨fok133,trivial,trivial⟩,trivial⟩,⟨fok101,⟨fok165,trivial,trivial⟩,⟨fok229,trivial,trivial⟩⟩⟩,⟨fok53,⟨fok85,⟨fok149,trivial,trivial⟩,⟨fok213,trivial,trivial⟩⟩,⟨fok117,⟨fok181,trivial,trivial⟩,trivial⟩⟩⟩,⟨fok29,⟨fok45,⟨fok77,⟨fok141,trivial,trivial⟩,trivial⟩,⟨fok109,⟨fok173,trivial,trivial⟩,trivial⟩⟩,⟨fok61,⟨fok93,⟨fok157,trivial,trivial⟩,⟨fok221,trivial,trivial⟩⟩,⟨fok125,⟨fok189,trivial,trivial⟩,trivial⟩⟩⟩⟩⟩⟩,⟨fok2,⟨fok4,⟨fok8,⟨fok16,⟨fok32,⟨fok64,⟨fok128,trivial,trivial⟩,⟨fok192,trivial,trivial⟩⟩,⟨fok96,⟨fok160,trivial,trivial⟩,⟨fok224,trivial,trivial⟩⟩⟩,⟨fok48,⟨fok80,⟨fok144,trivial,trivial⟩,trivial⟩,⟨fok112,⟨fok176,trivial,trivial⟩,trivial⟩⟩⟩,⟨fok24,⟨fok40,⟨fok72,⟨fok136,trivial,trivial⟩,trivial⟩,⟨fok104,⟨fok168,trivial,trivial⟩,⟨fok232,trivial,trivial⟩⟩⟩,⟨fok56,⟨fok88,⟨fok152,trivial,trivial⟩,⟨fok216,trivial,trivial⟩⟩,⟨fok120,⟨fok184,trivial,trivial⟩,trivial⟩⟩⟩⟩,⟨fok12,⟨fok20,⟨fok36,⟨fok68,⟨fok132,trivial,trivial⟩,trivial⟩,⟨fok100,⟨fok164,trivial,trivial⟩,⟨fok228,trivial,trivial⟩⟩⟩,⟨fok52,⟨fok84,⟨fok148,trivial,trivial⟩,⟨fok212,trivial,trivial⟩⟩,⟨fok116,⟨fok180,trivial,trivial⟩,trivial⟩⟩⟩,⟨fok28,⟨fok44,⟨fok76,⟨fok140,trivial,trivial⟩,trivial⟩,⟨fok108,⟨fok172,trivial,trivial⟩,trivial⟩⟩,⟨fok60,⟨fok92,⟨fok156,trivial,trivial⟩,⟨fok220,trivial,trivial⟩⟩,⟨fok124,⟨fok188,trivial,trivial⟩,trivial⟩⟩⟩⟩⟩,⟨fok6,⟨fok10,⟨fok18,⟨fok34,⟨fok66,⟨fok130,trivial,trivial⟩,trivial⟩,⟨fok98,⟨fok162,trivial,trivial⟩,⟨fok226,trivial,trivial⟩⟩⟩,⟨fok50,⟨fok82,⟨fok146,trivial,trivial⟩,trivial⟩,⟨fok114,⟨fok178,trivial,trivial⟩,trivial⟩⟩⟩,⟨fok26,⟨fok42,⟨fok74,trivial,trivial⟩,⟨fok106,⟨fok170,trivial,trivial⟩,trivial⟩⟩,⟨fok58,⟨fok90,⟨fok154,trivial,trivial⟩,⟨fok218,trivial,trivial⟩⟩,⟨fok122,⟨fok186,trivial,trivial⟩,trivial⟩⟩⟩⟩,⟨fok14,⟨fok22,⟨fok38,⟨fok70,⟨fok134,trivial,trivial⟩,trivial⟩,⟨fok102,⟨fok166,trivial,trivial⟩,⟨fok230,trivial,trivial⟩⟩⟩,⟨fok54,⟨fok86,⟨fok150,trivial,trivial⟩,⟨fok214,trivial,trivial⟩⟩,⟨fok118,⟨fok182,trivial,trivial⟩,trivial⟩⟩⟩,⟨fok30,⟨fok46,⟨fok78,⟨fok142,trivial,trivial⟩,trivial⟩,⟨fok110,⟨fok174,trivial,trivial⟩,trivial⟩⟩,⟨fok62,⟨fok94,⟨fok158,trivial,trivial⟩,⟨fok222,trivial,trivial⟩⟩,⟨fok126,⟨fok190,trivial,trivial⟩,trivial⟩⟩⟩⟩⟩⟩⟩
theorem fnF:∀f G,F.get f=some G→FnOk Tryz.prog T f G:=fun f G h=>Tr.allP_spec allF f G h
end Go.Gm.Tryz
end
section
namespace Go.Gm.Tryz
open Go.Proofs
noncomputable section
def chkBox (ty:Nat):Option GObj→Bool
 |some (.arr ⟨[.int .i64 n],t,0,[],false⟩)=>decide (n=0)&&Nat.beq t ty
 |_=>false
theorem chkBox_ok {ty:Nat} {o:Option GObj} (h:chkBox ty o=true):o=some (.arr { cells:= [vi 0],ty:=ty }):=by
 unfold chkBox at h
 split at h
 ·simp only [Bool.and_eq_true,decide_eq_true_eq] at h
  rw [h.1,Nat.eq_of_beq_eq_true h.2]
 ·cases h
def oItoa:FRec→List Value→GH→FR
 |_,[.int .i64 n],H=>if -9223372036854775808≤n∧n≤9223372036854775807 then .val (.string (itoaS n)) H else .bad
 |_,_,_=>.bad
def oAtt2 (H:GH):FR→FR
 | .val _ H1=>if chkBox 33 (H1.get H.next)&&Nat.ble (H.next+1) H1.next then .val (.int .i64 0) (H1.put H.next box31) else .bad
 |_=>.bad
def oAtt:FRec→List Value→GH→FR
 |rec,[.func (.func g) a b],H=>oAtt2 H (rec (.call g (a.toList++b.toList)) (H.push box31))
 |_,_,_=>.bad
def kBools:List Value→Option (List Bool)
 | []=>some []
 | .bool n::vs=>match kBools vs with|some l=>some (n::l)|none=>none
 |_=>none
theorem kBools_ok:∀ {vs:List Value} {l:List Bool},kBools vs=some l→vs=l.flatMap encB:=by
 intro vs
 induction vs with
 |nil=>intro l h; simp [kBools] at h; subst h; rfl
 |cons v vs ih=>
  intro l h
  unfold kBools at h
  split at h
  ·rename_i heq; cases heq
  ·rename_i n vs' heq
   cases heq
   split at h
   ·rename_i l' hl
    cases h
    rw [ih hl]; rfl
   ·cases h
  ·cases h
def goR (least most lo hi:Int) (n:Nat):Nat→List Bool→Bool
 |_,[]=>false
 |j,b::bs=>match b with
  |true=>match Nat.ble (n+1) j with
   |true=>match stepsB least most lo hi ((j:Int) - n) with
    |true=>true
    |false=>goR least most lo hi n (j+1) bs
   |false=>goR least most lo hi n (j+1) bs
  |false=>goR least most lo hi n (j+1) bs
theorem goR_iff {least most lo hi:Int} {n:Nat}:∀ {row:List Bool} {j:Nat},goR least most lo hi n j row=true↔∃i,i<row.length∧n<j+i∧row.getD i false=true∧stepsB least most lo hi (((j+i:Nat):Int) - n)=true
 | [],j=>by simp [goR]
 |b::bs,j=>by
  have ih:=goR_iff (least:=least) (most:=most) (lo:=lo) (hi:=hi) (n:=n) (row:=bs) (j:=j+1)
  have hs:(∃i,i<(b::bs).length∧n<j+i∧(b::bs).getD i false=true∧stepsB least most lo hi (((j+i:Nat):Int) - n)=true)↔(n<j∧b=true∧stepsB least most lo hi ((j:Int) - n)=true)∨goR least most lo hi n (j+1) bs=true:=by
   rw [ih]
   constructor
   ·rintro ⟨i,h1,h2,h3,h4⟩
    cases i with
    |zero=>exact .inl ⟨by omega,by simpa using h3,by simpa using h4⟩
    |succ i=>exact .inr ⟨i,by simpa using h1,by omega,by simpa using h3,by rw [show j+1+i=j+(i+1) by omega]; exact h4⟩
   ·rintro (⟨h1,h2,h3⟩|⟨i,h1,h2,h3,h4⟩)
    ·exact ⟨0,by simp,by omega,by simpa using h2,by simpa using h3⟩
    ·exact ⟨i+1,by simpa using h1,by omega,by simpa using h3,by rw [show j+(i+1)=j+1+i by omega]; exact h4⟩
  rw [hs]
  cases b
  ·simp [goR]
  ·simp only [goR]
   cases hb:Nat.ble (n+1) j
   ·have:¬n<j:=fun hc=>by rw [Nat.ble_eq_true_of_le hc] at hb; cases hb
    simp [this]
   ·have:n<j:=Nat.le_of_ble_eq_true hb
    cases hst:stepsB least most lo hi ((j:Int) - n)<;>simp [this]
theorem goR_eq {least most lo hi:Int} {n:Nat} {row:List Bool} (h:row.length=100):goR least most lo hi n 0 row=sgoesB least most lo hi row n:=by
 have e:(goR least most lo hi n 0 row=true)↔(sgoesB least most lo hi row n=true):=by
  rw [goR_iff]
  simp only [sgoesB,List.any_eq_true,List.mem_range,goB,Bool.and_eq_true,decide_eq_true_eq,Nat.zero_add,h]
 cases h1:goR least most lo hi n 0 row<;>cases h2:sgoesB least most lo hi row n<;>simp_all
def oGoes3 (H:GH) (least most lo hi:Int) (n:Nat):Option (List Bool)→FR
 |some row=>if row.length=100 then .val (.bool (goR least most lo hi n 0 row)) H else .bad
 |none=>.bad
def oGoes2 (H:GH) (least most:Int) (n:Nat):Option (List Value)→Option (List Value)→FR
 |some [.int .i64 lo,.int .i64 hi],some [.slice (some r) 100 _]=>if r.block<H.next then (match H.read r 100 with|some cs=>oGoes3 H least most lo hi n (kBools cs)|none=>.bad) else .bad
 |_,_=>.bad
def oGoes1 (H:GH) (i n:Nat):List Value→FR
 | [.int .i64 least,.int .i64 most,.int .i64 _,.int .i64 _,_,.slice (some g) ng _,.int .i64 _,.slice (some c) nc _]=>
  if i<ng∧i+1<nc∧n≤99∧i≤1000∧0≤least∧least≤1000∧0≤most∧most≤1000∧g.block<H.next∧c.block<H.next then oGoes2 H least most n (H.read (ea g i 2 0) 2) (H.read (ea c (i+1) 1 0) 1) else .bad
 |_=>.bad
def oGoes:FRec→List Value→GH→FR
 |_,[.agg cs,.int .i64 (.ofNat i),.int .i64 (.ofNat n)],H=>oGoes1 H i n cs.toList
 |_,_,_=>.bad
theorem oGoes_ok {rec:FRec} {args:List Value} {H:GH} {res:FR} (h:oGoes rec args H=res):res=.bad∨∃v,res=.val v H∧C 176 args H v H:=by
 unfold oGoes at h
 split at h
 case h_2=>exact .inl h.symm
 rename_i cs i n
 obtain ⟨cl⟩:=cs
 unfold oGoes1 at h
 split at h
 case h_2=>exact .inl h.symm
 rename_i least most tl th vM g ng fg turn c nc fc hcl
 simp only at hcl
 subst hcl
 split at h
 case isFalse=>exact .inl h.symm
 rename_i hc
 obtain ⟨c1,c2,c3,c4,c5,c6,c7,c8,c9,c10⟩:=hc
 unfold oGoes2 at h
 split at h
 case h_2=>exact .inl h.symm
 rename_i lo hi r fr h1 h2
 split at h
 case isFalse=>exact .inl h.symm
 rename_i hrb
 split at h
 case h_2=>exact .inl h.symm
 rename_i cs hcs
 unfold oGoes3 at h
 split at h
 case h_2=>exact .inl h.symm
 rename_i row hrow
 split at h
 case isFalse=>exact .inl h.symm
 rename_i hl
 refine .inr ⟨_,h.symm,?_⟩
 rw [goR_eq hl]
 exact sgoes_con least most tl th turn vM g c ng fg nc fc i n lo hi r fr row hl H c1 c9 h1 c2 c10 h2 ⟨fun _=>rfl,fun b hb=>by cases hb; exact ⟨hrb,by rw [Nat.mul_one,hl,hcs,kBools_ok hrow]⟩,fun hb=>by cases hb⟩ c3 ⟨c5,c6⟩ ⟨c7,c8⟩ c4
def env (fx:List (Nat×Obj)):FEnv:=⟨T,F,((Tr.nil.set 180 oItoa).set 176 oGoes).set 121 oAtt,fx⟩
theorem orc_cases {f:Nat} {o:FRec→List Value→GH→FR} {fx:List (Nat×Obj)} (h:(env fx).O.get f=some o):(f=121∧o=oAtt)∨(f=176∧o=oGoes)∨(f=180∧o=oItoa):=by
 unfold env at h
 simp only at h
 by_cases h1:f=121
 ·subst h1; rw [Tr.get_set_same] at h; cases h; exact .inl ⟨rfl,rfl⟩
 rw [Tr.get_set_ne _ _ h1] at h
 by_cases h2:f=176
 ·subst h2; rw [Tr.get_set_same] at h; cases h; exact .inr (.inl ⟨rfl,rfl⟩)
 rw [Tr.get_set_ne _ _ h2] at h
 by_cases h3:f=180
 ·subst h3; rw [Tr.get_set_same] at h; cases h; exact .inr (.inr ⟨rfl,rfl⟩)
 rw [Tr.get_set_ne _ _ h3,Tr.get_nil] at h; cases h
theorem env_ok {fx:List (Nat×Obj)} (hfx:FxOk fx):EnvOk Tryz.prog (env fx) where
 tab:=tok
 mix:=mix
 fn:=fnF
 orc:=by
  intro f o ho rec rk args H hL
  rcases orc_cases ho with ⟨rfl,rfl⟩|⟨rfl,rfl⟩|⟨rfl,rfl⟩
  ·have key:∀res:FR,oAtt rec args H=res→(∀v H',res=.val v H'→GCall Tryz.prog 121 args H (fun x h=>x=.ret v∧h=H')∧Loops (env fx) H')∧(∀v H',res=.pan v H'→GCall Tryz.prog 121 args H (fun x h=>x=.pan v∧h=H')∧Loops (env fx) H'):=by
    intro res hres
    unfold oAtt at hres
    split at hres
    ·rename_i g a b
     have hL2:Loops (env fx) (H.push box31):=hL.push _ (fun _ _ hc=>by cases hc)
     cases hc:rec (.call g (a.toList++b.toList)) (H.push box31) with
     |val v1 H1=>
      rw [hc] at hres
      unfold oAtt2 at hres
      simp only at hres
      split at hres
      ·rename_i hchk
       simp only [Bool.and_eq_true] at hchk
       subst hres
       obtain ⟨h1,h2⟩:=rk.callV _ _ _ _ _ hL2 hc
       refine ⟨fun v H' hv=>?_,fun v H' hv=>(by cases hv)⟩
       cases hv
       refine ⟨latt_con (h1.mono ?_),h2.put _ _ (fun _ _ hc=>by cases hc)⟩
       rintro x h ⟨rfl,rfl⟩
       exact ⟨Nat.le_of_ble_eq_true hchk.2,chkBox_ok hchk.1,rfl,rfl⟩
      ·subst hres; exact ⟨fun _ _ h=>(by cases h),fun _ _ h=>(by cases h)⟩
     |_=>rw [hc] at hres; simp only [oAtt2] at hres; subst hres; exact ⟨fun _ _ h=>(by cases h),fun _ _ h=>(by cases h)⟩
    ·subst hres; exact ⟨fun _ _ h=>(by cases h),fun _ _ h=>(by cases h)⟩
   exact key _ rfl
  ·have key:∀res:FR,oGoes rec args H=res→(∀v H',res=.val v H'→GCall Tryz.prog 176 args H (fun x h=>x=.ret v∧h=H')∧Loops (env fx) H')∧(∀v H',res=.pan v H'→GCall Tryz.prog 176 args H (fun x h=>x=.pan v∧h=H')∧Loops (env fx) H'):=by
    intro res hres
    rcases oGoes_ok hres with rfl|⟨v,rfl,hc⟩
    ·exact ⟨fun _ _ h=>(by cases h),fun _ _ h=>(by cases h)⟩
    ·refine ⟨fun v' H' h=>?_,fun _ _ h=>(by cases h)⟩
     cases h
     exact ⟨hc,hL⟩
   exact key _ rfl
  ·have key:∀res:FR,oItoa rec args H=res→(∀v H',res=.val v H'→GCall Tryz.prog 180 args H (fun x h=>x=.ret v∧h=H')∧Loops (env fx) H')∧(∀v H',res=.pan v H'→GCall Tryz.prog 180 args H (fun x h=>x=.pan v∧h=H')∧Loops (env fx) H'):=by
    intro res hres
    unfold oItoa at hres
    split at hres
    ·split at hres
     ·rename_i hc
      subst hres
      refine ⟨fun v H' hv=>?_,fun v H' hv=>(by cases hv)⟩
      cases hv
      exact ⟨itoa_con (by rw [hL.2]; exact hfx) _ hc.1 hc.2,hL⟩
     ·subst hres; exact ⟨fun _ _ h=>(by cases h),fun _ _ h=>(by cases h)⟩
    ·subst hres; exact ⟨fun _ _ h=>(by cases h),fun _ _ h=>(by cases h)⟩
   exact key _ rfl
end
end Go.Gm.Tryz
end
section
namespace Go.Gm
theorem GCall.closedG {P:Program} {f:FuncId} {v:Value} {args:List Value} (hc:∀(β:Bm) (args':List Value),VRs β args args'→VRs (fun _ _=>none) args args') (hv:closedV v=true) (H:GH) (h:GCall P f args (GH.emp H.fx) fun x _=>x=.ret v):Con P f args H v H:=by
 refine ⟨h.1,fun β w args' hR hA=>?_⟩
 have hR0:Rel (fun _ _=>none) (GH.emp H.fx) w:=by
  refine ⟨?_,?_,?_,?_,?_,?_,?_,?_,fun k r hk=>⟨(hR.fix k r hk).1,fun g v L o hb=>by cases hb⟩⟩
  ·intro g v L hb; cases hb
  ·intro g v L hb; cases hb
  ·intro g o ho; simp [GH.get,GH.emp] at ho
  ·intro g A v L _ hb; cases hb
  ·intro g A v L i r _ hb; cases hb
  ·intro g A L _ _ hb; cases hb
  ·intro g o L _ _ hb; cases hb
  ·intro g v L g' v' L' o hb; cases hb
 refine CallsIn.mono (h.2 _ w args' hR0 (hc β args' hA)) fun e w' hp=>?_
 obtain ⟨x,β',h',rfl,hR',hE,he⟩:=hp
 cases he with
 |ret hr=>
  have hblk:∀k,k<w.heap.size→w'.heap[k]?=w.heap[k]?:=fun k hk=>hE.blk k hk (fun g v L o hb=>by cases hb)
  have hcell:∀(a:Addr),a.block<w.heap.size→w'.cell? a=w.cell? a:=by
   intro a ha
   simp only [World.cell?,hblk _ ha]
  refine ⟨_,β,H,⟨rfl,rfl⟩,?_,?_,.ret ((closed_ok (β:=β) hv).restrict (β':=fun g v=>match β g v with|some L=>some L|none=>β' g v) (fun g v L hb=>by simp [hb]) ?_)⟩
  ·refine ⟨fun g v L hb=>Nat.lt_of_lt_of_le (hR.lt g v L hb) hE.size,hR.dom,hR.top,hR.ver,?_,?_,?_,hR.inj,fun k r hk=>⟨(hblk _ (lt_of_get (hR.fix k r hk).1)).trans (hR.fix k r hk).1,(hR.fix k r hk).2⟩⟩
   ·intro g A v L i r hA hb hi hr
    obtain ⟨rv,hc,hv⟩:=hR.cell g A v L i r hA hb hi hr
    exact ⟨rv,by rw [hcell _ (hR.lt g v L hb)]; exact hc,hv⟩
   ·intro g A L hA hro hb
    obtain ⟨rc,fr,h1,h2⟩:=hR.row g A L hA hro hb
    exact ⟨rc,fr,by rw [hblk _ (hR.lt g _ L hb)]; exact h1,h2⟩
   ·intro g o L ho hia hb
    obtain ⟨r,h1,h2⟩:=hR.obj g o L ho hia hb
    exact ⟨r,by rw [hblk _ (hR.lt g _ L hb)]; exact h1,h2⟩
  ·exact ⟨Bm.le_refl β,Nat.le_refl _,fun _ _ _ hb=>.inl hb,fun _ o ho _=>⟨o,ho,rfl⟩,fun _ _ hu=>⟨rfl,hu⟩,hE.size,hE.os,hE.tape,hE.output,fun k hk _=>hblk k hk,rfl⟩
  ·have h1:=closed_ok (β:=fun _ _=>none) hv
   have h2:=h1.restrict (β':=β') (fun _ _ _ h=>by cases h) hr
   exact h2.mono (fun _ _ _ h=>by cases h)
def closed2:Value→Bool
 | .agg cs=>cs.toList.all closedV
 |v=>closedV v
theorem closeds_to {β β':Bm}:∀ {l r:List Value},VRs β l r→l.all closedV=true→VRs β' l r:=by
 intro l r h
 induction h with
 |nil=>intro _; exact .nil
 |cons x _ ih=>intro hc; simp only [List.all_cons,Bool.and_eq_true] at hc; exact .cons (closed_to x hc.1) (ih hc.2)
theorem closed2_to {β β':Bm} {c r:Value} (h:VR β c r) (hc:closed2 c=true):VR β' c r:=by
 unfold closed2 at hc
 split at hc
 ·obtain ⟨a',rfl,hv⟩:=VR.agg_iff.1 h
  exact VR.agg_iff.2 ⟨a',rfl,closeds_to hv hc⟩
 ·exact closed_to h hc
theorem closed2s_to {β β':Bm}:∀ {l r:List Value},VRs β l r→l.all closed2=true→VRs β' l r:=by
 intro l r h
 induction h with
 |nil=>intro _; exact .nil
 |cons x _ ih=>intro hc; simp only [List.all_cons,Bool.and_eq_true] at hc; exact .cons (closed2_to x hc.1) (ih hc.2)
theorem GCall.closed2 {P:Program} {f:FuncId} {v:Value} {args:List Value} (hc:args.all closed2=true) (hv:closedV v=true) (H:GH) (h:GCall P f args (GH.emp H.fx) fun x _=>x=.ret v):Con P f args H v H:=
 GCall.closedG (fun _ _ hA=>closed2s_to hA hc) hv H h
end Go.Gm
end
section
namespace Go.Gm.Tryz
open Go.Proofs
noncomputable section
def markV:Nat→Value
 |0=>.agg #[.string ⟨#[55]⟩,.bool false]
 |1=>.agg #[.string ⟨#[]⟩,.bool false]
 |2=>.agg #[.string ⟨#[49,63]⟩,.bool false]
 |_=>.agg #[.string ⟨#[51,63]⟩,.bool true]
def readsM (t:Int) (k:Nat) (n:Nat):Bool:=match k with
 |0=>Nat.beq n 7
 |1=>true
 |2=>Nat.ble 10 n&&Nat.ble n 19
 |_=>decide (30≤t - n)&&decide (t - n≤39)
def rd (fx:List (Nat×Obj)) (t:Int) (k n:Nat):FR:=frun (env fx) 300 (.call 175 [.int .i64 t,markV k,.int .i64 n]) (GH.emp fx)
def isBV (b:Bool):FR→Bool
 | .val (.bool c) _=>match b,c with|true,true=>true|false,false=>true|_,_=>false
 |_=>false
def rdAll (fx:List (Nat×Obj)) (t:Int) (k:Nat):Nat→Bool
 |0=>true
 |n+1=>isBV (readsM t k n) (rd fx t k n)&&rdAll fx t k n
theorem rd50_0 (fx:List (Nat×Obj)):rdAll fx 50 0 100=true:=by kernel_rfl
theorem rd50_1 (fx:List (Nat×Obj)):rdAll fx 50 1 100=true:=by kernel_rfl
theorem rd50_2 (fx:List (Nat×Obj)):rdAll fx 50 2 100=true:=by kernel_rfl
theorem rd50_3 (fx:List (Nat×Obj)):rdAll fx 50 3 100=true:=by kernel_rfl
theorem rd51_0 (fx:List (Nat×Obj)):rdAll fx 51 0 100=true:=by kernel_rfl
theorem rd51_1 (fx:List (Nat×Obj)):rdAll fx 51 1 100=true:=by kernel_rfl
theorem rd51_2 (fx:List (Nat×Obj)):rdAll fx 51 2 100=true:=by kernel_rfl
theorem rd51_3 (fx:List (Nat×Obj)):rdAll fx 51 3 100=true:=by kernel_rfl
theorem rd52_0 (fx:List (Nat×Obj)):rdAll fx 52 0 100=true:=by kernel_rfl
theorem rd52_1 (fx:List (Nat×Obj)):rdAll fx 52 1 100=true:=by kernel_rfl
theorem rd52_2 (fx:List (Nat×Obj)):rdAll fx 52 2 100=true:=by kernel_rfl
theorem rd52_3 (fx:List (Nat×Obj)):rdAll fx 52 3 100=true:=by kernel_rfl
theorem rdAll_at {fx:List (Nat×Obj)} {t:Int} {k:Nat}:∀ {m:Nat},rdAll fx t k m=true→∀n,n<m→isBV (readsM t k n) (rd fx t k n)=true
 |0,_,n,hn=>absurd hn (by omega)
 |m+1,h,n,hn=>by
  simp only [rdAll,Bool.and_eq_true] at h
  by_cases e:n=m
  ·subst e; exact h.1
  ·exact rdAll_at h.2 n (by omega)
theorem isBV_ok {b:Bool} {r:FR} (h:isBV b r=true):∃H,r=.val (.bool b) H:=by
 unfold isBV at h
 split at h
 ·split at h
  ·exact ⟨_,rfl⟩
  ·exact ⟨_,rfl⟩
  ·cases h
 ·cases h
theorem rd_ok (fx:List (Nat×Obj)) {t:Int} (ht:t=50∨t=51∨t=52) {k:Nat} (hk:k<4):rdAll fx t k 100=true:=by
 have hk':k=0∨k=1∨k=2∨k=3:=by omega
 rcases ht with rfl|rfl|rfl<;>rcases hk' with rfl|rfl|rfl|rfl
 ·exact rd50_0 fx
 ·exact rd50_1 fx
 ·exact rd50_2 fx
 ·exact rd50_3 fx
 ·exact rd51_0 fx
 ·exact rd51_1 fx
 ·exact rd51_2 fx
 ·exact rd51_3 fx
 ·exact rd52_0 fx
 ·exact rd52_1 fx
 ·exact rd52_2 fx
 ·exact rd52_3 fx
theorem markV_closed (k:Nat):closed2 (markV k)=true:=by
 unfold markV
 split<;>rfl
theorem reads_con {H:GH} (hfx:FxOk H.fx) {t:Int} (ht:t=50∨t=51∨t=52) {k:Nat} (hk:k<4) {n:Nat} (hn:n<100):C 175 [vi t,markV k,vi n] H (.bool (readsM t k n)) H:=by
 refine GCall.closed2 (by simp [markV_closed]; exact ⟨rfl,rfl⟩) rfl H ?_
 obtain ⟨Hc,hres⟩:=isBV_ok (rdAll_at (rd_ok H.fx ht hk) n hn)
 exact ((frun_ok (env_ok hfx) 300).callV 175 _ (GH.emp H.fx) _ _ ⟨fun g lr tm hg=>(by simp [GH.get,GH.emp] at hg),rfl⟩ hres).1.mono fun x h hx=>hx.1
end
end Go.Gm.Tryz
end
section
namespace Go.Gm
structure GH.Eqv (h h':GH):Prop where
 next:h.next=h'.next
 fx:h.fx=h'.fx
 get:∀g,h.get g=h'.get g
theorem GH.Eqv.rel {h h':GH} (e:GH.Eqv h h') {β:Bm} {w:World} (hR:Rel β h w):Rel β h' w:=by
 obtain ⟨e1,e2,e3⟩:=e
 refine ⟨hR.lt,fun g v L hb=>e1▸hR.dom g v L hb,fun g o ho=>e1▸hR.top g o ((e3 g).trans ho),fun g A v L ho=>hR.ver g A v L ((e3 g).trans ho),fun g A v L i r ho=>hR.cell g A v L i r ((e3 g).trans ho),
  fun g A L ho=>hR.row g A L ((e3 g).trans ho),fun g o L ho=>hR.obj g o L ((e3 g).trans ho),fun g v L g' v' L' o h1 h2 ho=>hR.inj g v L g' v' L' o h1 h2 ((e3 g).trans ho),fun k r hk=>?_⟩
 obtain ⟨a,b⟩:=hR.fix k r (by rw [e2]; exact hk)
 exact ⟨a,fun g v L o hb ho=>b g v L o hb ((e3 g).trans ho)⟩
theorem GH.Eqv.ext {N:Nat} {H h h':GH} (e:GH.Eqv h h') {β β':Bm} {w w':World} (hE:ExtN N β H w β' h w'):ExtN N β H w β' h' w':=by
 obtain ⟨e1,e2,e3⟩:=e
 refine ⟨hE.le,e1▸hE.next,hE.new,fun g o ho=>hE.kind g o ((e3 g).trans ho),fun g hg hu=>?_,hE.size,hE.os,hE.tape,hE.output,hE.blk,e2▸hE.fx⟩
 rw [←e3]; exact hE.un g hg hu
theorem Con.eqv {P:Program} {f:FuncId} {args:List Value} {H H':GH} {v:Value} (h:GCall P f args H fun x h=>x=.ret v∧GH.Eqv h H'):Con P f args H v H':=by
 refine ⟨h.1,fun β w args' hR hA=>CallsIn.mono (h.2 β w args' hR hA) fun e w' hp=>?_⟩
 obtain ⟨x,β',h',⟨rfl,hq⟩,hR',hE,he⟩:=hp
 exact ⟨_,β',H',⟨rfl,rfl⟩,hq.rel hR',hq.ext hE,he⟩
namespace Tryz
open Go.Proofs
theorem gop_makeSlice224 {ρ:Operand→Value} {H:GH} {x y:Operand} {n:Nat} (hx:ρ x=vi n) (hy:ρ y=vi n) (hn:n≤1000):
  gop T ρ H (.makeSlice 224 x y)=some (.val (.slice (some (ga H.next 0 0)) n 1) (H.push (.arr { cells:=replicateL n [.slice none 0 0],ty:=79 }))):=by
 have e:gop T ρ H (.makeSlice 224 x y)=gMakeSlice T ρ H 224 x y:=rfl
 rw [e]
 unfold gMakeSlice
 rw [hx,hy]
 simp [kindOf,limit]
 omega
def row0:List Value:=(List.replicate 100 false).flatMap encB
theorem gop_makeSlice79 {ρ:Operand→Value} {H:GH} {x y:Operand} (hx:ρ x=vi 100) (hy:ρ y=vi 100):
  gop T ρ H (.makeSlice 79 x y)=some (.val (.slice (some (ga H.next 0 0)) 100 1) (H.push (.arr { cells:=row0,ty:=4 }))):=by
 have e:gop T ρ H (.makeSlice 79 x y)=gMakeSlice T ρ H 79 x y:=rfl
 rw [e]
 unfold gMakeSlice
 rw [hx,hy]
 simp [kindOf,limit]
 rfl
def lo3 (G:List (Int×Int)) (k:Nat):Int:=(G.getD k (0,0)).1
def hi3 (G:List (Int×Int)) (k:Nat):Int:=(G.getD k (0,0)).2
def canB (t least most:Int) (G:List (Int×Int)) (a:Nat) (after:List Bool) (n:Nat):Bool:=readsM t (3 - a) n&&(Nat.beq a 0||sgoesB least most (lo3 G (3 - a)) (hi3 G (3 - a)) after n)
def canRow (t least most:Int) (G:List (Int×Int)) (a:Nat) (after:List Bool):List Bool:=(List.range 100).map fun n=>Nat.ble 1 n&&canB t least most G a after n
def canR (t least most:Int) (G:List (Int×Int)):Nat→List Bool
 |0=>canRow t least most G 0 []
 |a+1=>canRow t least most G (a+1) (canR t least most G a)
def part3 (r:List Bool) (n:Nat):List Bool:=(List.range 100).map fun k=>Nat.ble (k+1) n&&r.getD k false
def rowsS (N a:Nat):List Value:=(List.range 4).map fun k=>if 3 - k<a then .slice (some (ga (N+4+(3 - k)) 0 0)) 100 1 else .slice none 0 0
structure RchIn (H:GH) (line:List Value) (turn:Value) (t least most:Int) (G:List (Int×Int)) (a b:Nat) (h:GH):Prop where
 next:h.next=H.next+4+b
 fx:h.fx=H.fx
 old:∀g,g<H.next→h.get g=H.get g
 k0:h.get H.next=some (.arr { cells:=line,ty:=73 })
 k1:h.get (H.next+1)=some (.arr { cells:= [vi 0,vi 0,vi 0,vi 0,.slice none 0 0,.slice none 0 0,vi 0,.slice none 0 0],ty:=226 })
 k2:h.get (H.next+2)=some (.arr { cells:=rowsS H.next b,ty:=79 })
 k3:h.get (H.next+3)=some (.arr { cells:=line++ [turn,.slice (some (ga (H.next+2) 0 0)) 4 1],ty:=226 })
 new:∀g,H.next+4+b≤g→h.get g=H.get g
 row:∀c,c<a→h.get (H.next+4+c)=some (.arr { cells:=(canR t least most G c).flatMap encB,ty:=4 })
theorem rowsS_len (N a:Nat):(rowsS N a).length=4:=by simp [rowsS]
theorem rowsS_put (N a:Nat) (ha:a<4):splice (3 - a) [.slice (some (ga (N+4+a) 0 0)) 100 1] (rowsS N a)=rowsS N (a+1):=by
 have:a=0∨a=1∨a=2∨a=3:=by omega
 rcases this with rfl|rfl|rfl|rfl<;>rfl
theorem rowsS_at (N a c:Nat) (ha:a<4) (hc:c≤a):((rowsS N (a+1)).drop (3 - c)).take 1= [.slice (some (ga (N+4+c) 0 0)) 100 1]:=by
 have h1:a=0∨a=1∨a=2∨a=3:=by omega
 have h2:c=0∨c=1∨c=2∨c=3:=by omega
 rcases h1 with rfl|rfl|rfl|rfl<;>rcases h2 with rfl|rfl|rfl|rfl<;>first|rfl|omega
theorem canRow_len (t least most:Int) (G:List (Int×Int)) (a:Nat) (after:List Bool):(canRow t least most G a after).length=100:=by simp [canRow]
theorem canR_len (t least most:Int) (G:List (Int×Int)) (a:Nat):(canR t least most G a).length=100:=by
 cases a<;>exact canRow_len ..
def afterR (t least most:Int) (G:List (Int×Int)):Nat→List Bool
 |0=> []
 |a+1=>canR t least most G a
theorem canR_get (t least most:Int) (G:List (Int×Int)) (a n:Nat) (h1:1≤n) (hn:n<100):(canR t least most G a).getD n false=canB t least most G a (afterR t least most G a) n:=by
 have:Nat.ble 1 n=true:=by simpa using h1
 cases a<;>simp [canR,canRow,hn,afterR,this]
theorem canR_zero (t least most:Int) (G:List (Int×Int)) (a:Nat):(canR t least most G a).getD 0 false=false:=by
 have:Nat.ble 1 0=false:=rfl
 cases a<;>simp [canR,canRow]
theorem afterR_pos (t least most:Int) (G:List (Int×Int)) {a:Nat} (h:a≠0):afterR t least most G a=canR t least most G (a - 1):=by
 cases a with
 |zero=>exact absurd rfl h
 |succ a=>rfl
theorem encB_flat (l:List Bool):l.flatMap encB=l.map .bool:=by
 induction l with
 |nil=>rfl
 |cons b l ih=>rw [List.flatMap_cons,ih]; rfl
theorem part3_len (r:List Bool) (n:Nat):(part3 r n).length=100:=by simp [part3]
def partC (r:List Bool) (n:Nat):List Value:=(part3 r n).flatMap encB
theorem partC_len (r:List Bool) (n:Nat):(partC r n).length=100:=by rw [partC,encB_flat]; simp [part3_len]
theorem part3_one (r:List Bool) (h:r.getD 0 false=false):partC r 1=row0:=by
 rw [partC,encB_flat,row0,encB_flat,List.map_replicate]
 apply List.ext_getElem
 ·simp [part3_len]
 ·intro i h1 h2
  simp only [List.getElem_map,part3,List.getElem_range,List.getElem_replicate]
  cases i with
  |zero=>rw [h]; rfl
  |succ i=>
   have:Nat.ble (i+1+1) 1=false:=by
    rw [Bool.eq_false_iff]
    simp
   rw [this]
   rfl
theorem part3_all (r:List Bool) (h:r.length=100):part3 r 100=r:=by
 apply List.ext_getElem
 ·simp [part3_len,h]
 ·intro i h1 h2
  have:Nat.ble (i+1) 100=true:=by simp; omega
  simp [part3,this,h2]
theorem part3_step (r:List Bool) (n:Nat) (v:Bool) (hn:n<100) (hv:r.getD n false=v):splice n [.bool v] (partC r n)=partC r (n+1):=by
 rw [partC,partC,encB_flat,encB_flat,splice]
 apply List.ext_getElem?
 intro i
 simp only [List.append_assoc]
 rcases Nat.lt_trichotomy i n with h|h|h
 ·rw [List.getElem?_append_left (by simp [part3_len]; omega),List.getElem?_take,if_pos h]
  have e1:Nat.ble (i+1) n=true:=by simp; omega
  have e2:Nat.ble (i+1) (n+1)=true:=by simp; omega
  have hi:i<100:=by omega
  simp only [part3,List.getElem?_map,List.getElem?_range hi,e1,e2,Option.map_some]
 ·subst h
  rw [List.getElem?_append_right (by simp [part3_len]; omega)]
  have e2:Nat.ble (i+1) (i+1)=true:=by simp
  have e3:i - min i 100=0:=by omega
  simp only [List.length_take,List.length_map,part3_len,e3]
  simp only [part3,List.getElem?_map,List.getElem?_range hn,e2,hv,Option.map_some,Bool.true_and,List.cons_append,List.getElem?_cons_zero]
 ·rw [List.getElem?_append_right (by simp [part3_len]; omega)]
  simp only [List.length_take,List.length_map,part3_len]
  have e3:min n 100=n:=by omega
  rw [e3,List.getElem?_append_right (by simp; omega),List.getElem?_drop]
  have e4:n+ [(Value.bool v)].length+(i - n - [(Value.bool v)].length)=i:=by simp; omega
  rw [e4]
  have e1:Nat.ble (i+1) n=false:=by rw [Bool.eq_false_iff]; simp; omega
  have e2:Nat.ble (i+1) (n+1)=false:=by rw [Bool.eq_false_iff]; simp; omega
  by_cases hi:i<100
  ·simp only [part3,List.getElem?_map,List.getElem?_range hi,e1,e2,Option.map_some]
  ·rw [List.getElem?_eq_none (by simp [part3_len]; omega),List.getElem?_eq_none (by simp [part3_len]; omega)]
theorem markV_parts (k:Nat):∃s b,markV k=.agg #[.string s,.bool b]:=by
 unfold markV
 split<;>exact ⟨_,_,rfl⟩
theorem reached_con {H:GH} (hfx:FxOk H.fx) {t:Int} (ht:t=50∨t=51∨t=52) (least most tl th:Int) (h3:0≤least∧least≤1000) (h4:0≤most∧most≤1000) (mk g:Addr) (fm fg:Nat)
  (hm:mk.block<H.next) (hmr:∀k,k<4→H.read (ea mk k 2 0) 2=some (match markV k with| .agg cs=>cs.toList|_=> [])) (hg:g.block<H.next) (G:List (Int×Int)) (_hgl:G.length=3)
  (hgr:∀k,k<3→H.read (ea g k 2 0) 2=some [vi (lo3 G k),vi (hi3 G k)]):
  GCall Tryz.prog 168 [.agg #[vi least,vi most,vi tl,vi th,.slice (some mk) 4 fm,.slice (some g) 3 fg],vi t] H fun x h=>x=.ret (.agg #[vi least,vi most,vi tl,vi th,.slice (some mk) 4 fm,.slice (some g) 3 fg,vi t,.slice (some (ga (H.next+2) 0 0)) 4 1])∧∃h',RchIn H [vi least,vi most,vi tl,vi th,.slice (some mk) 4 fm,.slice (some g) 3 fg] (vi t) t least most G 4 4 h'∧h=h'.put (H.next+1) (.arr { cells:= [vi least,vi most,vi tl,vi th,.slice (some mk) 4 fm,.slice (some g) 3 fg,vi t,.slice (some (ga (H.next+2) 0 0)) 4 1],ty:=226 }):=by
 refine gcall_wp tok mix fok168 (F:=g168) (c:=_) rfl (n:=63) rfl (rs:= [.cell 4 226]) rfl ?_
 simp
 rw [gop_makeSlice224 (n:=4) (by simp) (by simp) (by omega)]
 simp
 refine wp_up tok mix (by kernel_rfl) 4 (fun a ρ m h=>RchIn H [vi least,vi most,vi tl,vi th,.slice (some mk) 4 fm,.slice (some g) 3 fg] (vi t) t least most G a a h∧m= []∧ρ 2=.pointer (some (ga H.next 0 0))∧ρ 4=.pointer (some (ga (H.next+1) 0 0))∧ρ 5=.pointer (some (ga (H.next+3) 0 0))∧ρ 6=vi ((3:Int) - a)) (i0:=0) (by omega) ?_ ?_
 ·refine ⟨?_,rfl,by simp,by simp,by simp,by simp [wrap64]⟩
  constructor
  ·simp
  ·simp
  ·intro g' hg'
   simp (disch:=omega)
   rw [if_neg (by omega),if_neg (by omega),if_neg (by omega)]
  ·simp (disch:=omega)
  ·simp (disch:=omega)
  ·simp (disch:=omega) [rowsS]; rfl
  ·simp (disch:=omega)
  ·intro g' hg'
   simp (disch:=omega)
   rw [if_neg (by omega),if_neg (by omega),if_neg (by omega),if_neg (by omega)]
  ·intro c hc; omega
 rintro a ρ m h ha ⟨hI,rfl,e2,e4,e5,e6⟩
 have k3:=hI.k3
 simp only [List.cons_append,List.nil_append] at k3
 simp [e6]
 by_cases ha4:a<4
 ·have q1:(0:Int)≤3 - a:=by omega
  have hk:(3:Int) - a=((3 - a:Nat):Int):=by omega
  rw [hk] at e6
  have q2:(a:Int)≤3:=by omega
  simp (disch:=omega) [q2]
  simp (disch:=omega) [e5,e6,k3]
  rw [gop_makeSlice79 (by simp) (by simp)]
  have n1:¬H.next+2=h.next:=by rw [hI.next]; omega
  simp (disch:=omega) [hI.k2,n1,rowsS_len]
  rw [hI.next,show H.next+4+a=H.next+4+a from rfl,rowsS_put _ _ ha4]
  generalize hρ:upd (upd (upd (upd (upd (upd (upd (upd ρ _ _) _ _) _ _) _ _) _ _) _ _) _ _) 7 _=ρ1
  have f2:ρ1 2=.pointer (some (ga H.next 0 0)):=by subst hρ; simp [e2]
  have f4:ρ1 4=.pointer (some (ga (H.next+1) 0 0)):=by subst hρ; simp [e4]
  have f5:ρ1 5=.pointer (some (ga (H.next+3) 0 0)):=by subst hρ; simp [e5]
  have f6:ρ1 6=vi ((3 - a:Nat):Int):=by subst hρ; simp [e6]
  have f7:ρ1 7=vi ((1:Nat):Int):=by subst hρ; simp
  clear hρ
  refine wp_up tok mix (by kernel_rfl) 100 (fun n ρ m h=>1≤n∧RchIn H [vi least,vi most,vi tl,vi th,.slice (some mk) 4 fm,.slice (some g) 3 fg] (vi t) t least most G a (a+1) h∧h.get (H.next+4+a)=some (.arr { cells:=partC (canR t least most G a) n,ty:=4 })∧m= []∧ρ 2=.pointer (some (ga H.next 0 0))∧ρ 4=.pointer (some (ga (H.next+1) 0 0))∧ρ 5=.pointer (some (ga (H.next+3) 0 0))∧ρ 6=vi ((3 - a:Nat):Int)∧ρ 7=vi (n:Int)) (i0:=1) (by omega) ?_ ?_
  ·refine ⟨by omega,?_,?_,rfl,f2,f4,f5,f6,f7⟩
   ·constructor
    ·simp [hI.next]; omega
    ·simp [hI.fx]
    ·intro g' hg'
     simp (disch:=omega) [hI.next]
     rw [if_neg (by omega),hI.old g' hg']
    ·simp (disch:=omega) [hI.next,hI.k0]
    ·simp (disch:=omega) [hI.next,hI.k1]
     omega
    ·simp
    ·simp (disch:=omega) [hI.next,hI.k3]
     omega
    ·intro g' hg'
     have hn':=hI.new g' (by omega)
     simp (disch:=omega) [hI.next]
     rw [if_neg (by omega),hn']
    ·intro c hc
     have hr:=hI.row c hc
     simp (disch:=omega) [hI.next]
     rw [if_neg (by omega),←Nat.add_assoc,hr]
   ·rw [part3_one _ (canR_zero ..)]
    simp (disch:=omega) [hI.next]
  clear hI e2 e4 e5 e6 f2 f4 f5 f6 f7 k3 n1
  rintro n ρ m h hn ⟨hn1,hI,hrow,rfl,e2,e4,e5,e6,e7⟩
  have k3:=hI.k3
  simp only [List.cons_append,List.nil_append] at k3
  simp [e7]
  by_cases hn99:n≤99
  ·have hn99':(n:Int)≤99:=by omega
   obtain ⟨ms,mb,hmk⟩:=markV_parts (3 - a)
   have hmr1:=hmr (3 - a) (by omega)
   rw [hmk] at hmr1
   have hmr2:h.read (ea mk (3 - a) 2 0) 2=some [.string ms,.bool mb]:=by
    rw [←hmr1,GH.read,GH.read,hI.old _ (by rw [ea_block]; exact hm)]
   have r1:=rowsS_at H.next a a ha4 (Nat.le_refl _)
   have q3:((3 - a:Nat):Int)<4:=by omega
   simp (disch:=omega) [hn99',e2,e5,e6,e7,k3,hI.k0,hI.k2,rowsS_len,r1,hmr2]
   have hH:H.next+4+a=H.next+(4+a):=by omega
   have hrow2:=hrow
   rw [hH] at hrow2
   have hput:∀C,RchIn H [vi least,vi most,vi tl,vi th,.slice (some mk) 4 fm,.slice (some g) 3 fg] (vi t) t least most G a (a+1) (h.put (H.next+(4+a)) (.arr { cells:=C,ty:=4 })):=by
    intro C
    constructor
    ·simp [hI.next]
    ·simp [hI.fx]
    ·intro g' hg'
     simp (disch:=omega)
     exact hI.old g' hg'
    ·simp (disch:=omega) [hI.k0]
    ·simp (disch:=omega) [hI.k1]
    ·simp (disch:=omega) [hI.k2]
    ·simp (disch:=omega) [hI.k3]
    ·intro g' hg'
     have hn':=hI.new g' (by omega)
     simp (disch:=omega)
     exact hn'
    ·intro c hc
     have hr:=hI.row c hc
     simp (disch:=omega)
     rw [←Nat.add_assoc,hr]
   rw [←hmk]
   refine (reads_con (H:=h) (by rw [hI.fx]; exact hfx) ht (by omega) (by omega)).go ?_
   have hcan:=canR_get t least most G a n hn1 (by omega)
   cases hb:readsM t (3 - a) n
   ·have hv:(canR t least most G a).getD n false=false:=by rw [hcan,canB,hb]; rfl
    simp (disch:=omega) [e2,e4,e5,e6,e7,k3,hI.k2,rowsS_len,r1,hrow2,partC_len,hn99]
    exact ⟨by omega,hput _,part3_step _ _ _ (by omega) hv,by rw [wrap64]<;>omega⟩
   ·by_cases ha0:a=0
    ·subst ha0
     have hv:(canR t least most G 0).getD n false=true:=by rw [hcan,canB,hb]; rfl
     simp (disch:=omega) [e2,e4,e5,e6,e7,k3,hI.k0,hI.k2,rowsS_len,r1,hrow2,partC_len,hn99,wrap64]
     exact ⟨by omega,hput _,part3_step _ _ _ (by omega) hv⟩
    ·have ha1:¬((3 - a:Nat):Int)=3:=by omega
     simp (disch:=omega) [e2,e5,e6,e7,k3,hI.k0,hI.k2,rowsS_len,r1,ha1,wrap64]
     have r2:=rowsS_at H.next a (a - 1) ha4 (by omega)
     have e31:3 - (a - 1)=3 - a+1:=by omega
     rw [e31] at r2
     have hc:h.read (ea (ga (H.next+2) 0 0) (3 - a+1) 1 0) 1=some [.slice (some (ga (H.next+4+(a - 1)) 0 0)) 100 1]:=by
      simp (disch:=omega) [hI.k2,rowsS_len,r2]
      omega
     have hg1:h.read (ea g (3 - a) 2 0) 2=some [vi (lo3 G (3 - a)),vi (hi3 G (3 - a))]:=by
      rw [←hgr (3 - a) (by omega),GH.read,GH.read,hI.old _ (by rw [ea_block]; exact hg)]
     have hr1:Elems h (some (ga (H.next+4+(a - 1)) 0 0)) 1 encB (canR t least most G (a - 1)):=by
      refine ⟨fun _=>rfl,fun b hb=>?_,fun hb=>by cases hb⟩
      cases hb
      have hra:=hI.row (a - 1) (by omega)
      rw [Nat.add_assoc] at hra
      refine ⟨by simp [hI.next]; omega,?_⟩
      have hl:=canR_len t least most G (a - 1)
      have hfl:((canR t least most G (a - 1)).flatMap encB).length=100:=by rw [encB_flat,List.length_map,hl]
      generalize (canR t least most G (a - 1)).flatMap encB=C at hra hfl ⊢
      simp [hra,Nat.add_assoc,hl,hfl]
      rw [List.take_of_length_le (by omega)]
     refine (sgoes_con least most tl th t (.slice (some mk) 4 fm) g (ga (H.next+2) 0 0) 3 fg 4 1 (3 - a) n (lo3 G (3 - a)) (hi3 G (3 - a)) (ga (H.next+4+(a - 1)) 0 0) 1 (canR t least most G (a - 1)) (canR_len ..) h (by omega) (by rw [hI.next]; omega) hg1 (by omega) (by simp [hI.next]; omega) hc hr1 hn99 h3 h4 (by omega)).go ?_
     have hv:(canR t least most G a).getD n false=sgoesB least most (lo3 G (3 - a)) (hi3 G (3 - a)) (canR t least most G (a - 1)) n:=by
      have e0:Nat.beq a 0=false:=by rw [Bool.eq_false_iff]; simpa using ha0
      rw [hcan,canB,hb,afterR_pos _ _ _ _ ha0,e0]; rfl
     simp (disch:=omega) [e2,e4,e5,e6,e7,k3,hI.k2,rowsS_len,r1,hrow2,partC_len,hn99,wrap64]
     exact ⟨by omega,hput _,part3_step _ _ _ (by omega) hv⟩
  ·have hn99':¬(n:Int)≤99:=by omega
   have:n=100:=by omega
   subst this
   have hH:H.next+4+a=H.next+(4+a):=by omega
   simp (disch:=omega) [e2,e4,e5,e6,wrap64]
   refine ⟨by omega,⟨hI.next,hI.fx,hI.old,hI.k0,hI.k1,hI.k2,hI.k3,fun g' hg'=>hI.new g' (by omega),?_⟩,by omega⟩
   intro c hc
   by_cases hca:c=a
   ·subst hca; rw [hrow,partC,part3_all _ (canR_len ..)]
   ·exact hI.row c (by omega)
 ·have q1:¬(0:Int)≤3 - a:=by omega
  have:a=4:=by omega
  subst this
  simp (disch:=omega) [e4,e5,k3,hI.k1]
  exact ⟨h,hI,rfl⟩
def rowO (t least most:Int) (G:List (Int×Int)) (a:Nat):GObj:=.arr { cells:=(canR t least most G a).flatMap encB,ty:=4 }
def reachedH (H:GH) (line:List Value) (turn:Value) (r0 r1 r2 r3:GObj):GH:=
 (((((((H.push (.arr { cells:=line,ty:=73 })).push (.arr { cells:=line++ [turn,.slice (some (ga (H.next+2) 0 0)) 4 1],ty:=226 })).push (.arr { cells:=rowsS H.next 4,ty:=79 })).push
  (.arr { cells:=line++ [turn,.slice (some (ga (H.next+2) 0 0)) 4 1],ty:=226 })).push r0).push r1).push r2).push r3
theorem reached_exact {H:GH} (hfx:FxOk H.fx) {t:Int} (ht:t=50∨t=51∨t=52) (least most tl th:Int) (h3:0≤least∧least≤1000) (h4:0≤most∧most≤1000) (mk g:Addr) (fm fg:Nat)
  (hm:mk.block<H.next) (hmr:∀k,k<4→H.read (ea mk k 2 0) 2=some (match markV k with| .agg cs=>cs.toList|_=> [])) (hg:g.block<H.next) (G:List (Int×Int)) (hgl:G.length=3)
  (hgr:∀k,k<3→H.read (ea g k 2 0) 2=some [vi (lo3 G k),vi (hi3 G k)]):
  C 168 [.agg #[vi least,vi most,vi tl,vi th,.slice (some mk) 4 fm,.slice (some g) 3 fg],vi t] H (.agg #[vi least,vi most,vi tl,vi th,.slice (some mk) 4 fm,.slice (some g) 3 fg,vi t,.slice (some (ga (H.next+2) 0 0)) 4 1])
   (reachedH H [vi least,vi most,vi tl,vi th,.slice (some mk) 4 fm,.slice (some g) 3 fg] (vi t) (rowO t least most G 0) (rowO t least most G 1) (rowO t least most G 2) (rowO t least most G 3)):=by
 refine Con.eqv ((reached_con hfx ht least most tl th h3 h4 mk g fm fg hm hmr hg G hgl hgr).mono ?_)
 rintro x h ⟨rfl,h',hI,rfl⟩
 refine ⟨rfl,?_,?_,?_⟩
 ·simp [hI.next,reachedH]
 ·simp [hI.fx,reachedH]
 ·intro g'
  have cases':g'<H.next∨g'=H.next∨g'=H.next+1∨g'=H.next+2∨g'=H.next+3∨g'=H.next+4∨g'=H.next+5∨g'=H.next+6∨g'=H.next+7∨H.next+8≤g':=by omega
  rcases cases' with h1|rfl|rfl|rfl|rfl|rfl|rfl|rfl|rfl|h1
  ·have:=hI.old g' h1
   simp (disch:=omega) [reachedH,this]
   repeat rw [if_neg (by omega)]
  ·simp (disch:=omega) [reachedH,hI.k0]
  ·simp (disch:=omega) [reachedH]
  ·simp (disch:=omega) [reachedH,hI.k2]
  ·have:=hI.k3
   simp (disch:=omega) [reachedH,this]
  ·have:=hI.row 0 (by omega)
   simp (disch:=omega) [reachedH,rowO] at this ⊢
   exact this
  ·have:=hI.row 1 (by omega)
   simp (disch:=omega) [reachedH,rowO] at this ⊢
   exact this
  ·have:=hI.row 2 (by omega)
   simp (disch:=omega) [reachedH,rowO] at this ⊢
   exact this
  ·have:=hI.row 3 (by omega)
   simp (disch:=omega) [reachedH,rowO] at this ⊢
   exact this
  ·have:=hI.new g' (by omega)
   simp (disch:=omega) [reachedH,this]
   repeat rw [if_neg (by omega)]
end Tryz
end Go.Gm
end
section
namespace Go.Gm.Tryz
open Go.Proofs
noncomputable section
def markK:List Value→Option Nat
 | [.string ⟨⟨l⟩⟩,.bool b]=>match l,b with
  | [],false=>some 1
  | [x],false=>match Nat.beq x.toNat 55 with|true=>some 0|false=>none
  | [x,y],false=>match Nat.beq x.toNat 49&&Nat.beq y.toNat 63 with|true=>some 2|false=>none
  | [x,y],true=>match Nat.beq x.toNat 51&&Nat.beq y.toNat 63 with|true=>some 3|false=>none
  |_,_=>none
 |_=>none
theorem u8_of {x:UInt8} {n:Nat} (h:Nat.beq x.toNat n=true):x=UInt8.ofNat n:=by
 rw [←Nat.eq_of_beq_eq_true h]; simp
theorem markK_ok {cs:List Value} {k:Nat} (h:markK cs=some k):k<4∧(.agg ⟨cs⟩:Value)=markV k:=by
 unfold markK at h
 split at h
 ·rename_i l b
  split at h
  ·cases h; exact ⟨by omega,rfl⟩
  ·split at h
   ·rename_i hb
    cases h; cases u8_of hb; exact ⟨by omega,rfl⟩
   ·cases h
  ·split at h
   ·rename_i hb
    rw [Bool.and_eq_true] at hb
    cases h; cases u8_of hb.1; cases u8_of hb.2; exact ⟨by omega,rfl⟩
   ·cases h
  ·split at h
   ·rename_i hb
    rw [Bool.and_eq_true] at hb
    cases h; cases u8_of hb.1; cases u8_of hb.2; exact ⟨by omega,rfl⟩
   ·cases h
  ·cases h
 ·cases h
def tOk (t n:Nat):Bool:=(Nat.beq t 50||Nat.beq t 51||Nat.beq t 52)&&Nat.ble (n+1) 100
def readsN (t:Nat) (k:Nat) (n:Nat):Bool:=match k with
 |0=>Nat.beq n 7
 |1=>true
 |2=>Nat.ble 10 n&&Nat.ble n 19
 |_=>Nat.ble (n+30) t&&Nat.ble t (n+39)
theorem readsN_eq (t k n:Nat):readsN t k n=readsM t k n:=by
 have e1:Nat.ble (n+30) t=decide (30≤(t:Int) - n):=by
  rw [Bool.eq_iff_iff]; simp only [Nat.ble_eq,decide_eq_true_eq]; omega
 have e2:Nat.ble t (n+39)=decide ((t:Int) - n≤39):=by
  rw [Bool.eq_iff_iff]; simp only [Nat.ble_eq,decide_eq_true_eq]; omega
 match k with
 |0=>rfl
 |1=>rfl
 |2=>rfl
 |k+3=>
  show (Nat.ble (n+30) t&&Nat.ble t (n+39))=(decide (30≤(t:Int) - n)&&decide ((t:Int) - n≤39))
  rw [e1,e2]
def oReads2 (H:GH) (t n:Nat):Option Nat→FR
 |some k=>match tOk t n with|true=>.val (.bool (readsN t k n)) H|false=>.bad
 |none=>.bad
def oReads:FRec→List Value→GH→FR
 |_,[.int .i64 (.ofNat t),.agg cs,.int .i64 (.ofNat n)],H=>oReads2 H t n (markK cs.toList)
 |_,_,_=>.bad
theorem oReads_ok {rec:FRec} {args:List Value} {H:GH} (hfx:FxOk H.fx) {res:FR} (h:oReads rec args H=res):res=.bad∨∃v,res=.val v H∧C 175 args H v H:=by
 unfold oReads at h
 split at h
 case h_2=>exact .inl h.symm
 rename_i t cs n
 obtain ⟨cl⟩:=cs
 unfold oReads2 at h
 split at h
 case h_2=>exact .inl h.symm
 rename_i k hk
 split at h
 case h_2=>exact .inl h.symm
 rename_i ht
 refine .inr ⟨_,h.symm,?_⟩
 obtain ⟨hk4,hkv⟩:=markK_ok hk
 have hkv':(.agg { toList:=cl }:Value)=markV k:=hkv
 unfold tOk at ht
 simp only [Bool.and_eq_true,Bool.or_eq_true,Nat.beq_eq,Nat.ble_eq] at ht
 rw [hkv',readsN_eq]
 exact reads_con hfx (t:=(t:Int)) (by omega) hk4 (by omega)
def env2 (fx:List (Nat×Obj)):FEnv:=⟨T,F,(((Tr.nil.set 180 oItoa).set 176 oGoes).set 121 oAtt).set 175 oReads,fx⟩
theorem orc2_cases {f:Nat} {o:FRec→List Value→GH→FR} {fx:List (Nat×Obj)} (h:(env2 fx).O.get f=some o):(f=175∧o=oReads)∨(f=121∧o=oAtt)∨(f=176∧o=oGoes)∨(f=180∧o=oItoa):=by
 unfold env2 at h
 simp only at h
 by_cases h0:f=175
 ·subst h0; rw [Tr.get_set_same] at h; cases h; exact .inl ⟨rfl,rfl⟩
 rw [Tr.get_set_ne _ _ h0] at h
 exact .inr (orc_cases (fx:=fx) h)
end
end Go.Gm.Tryz
end
section
namespace Go.Gm.Tryz
open Go.Proofs
noncomputable section
def canF (t:Nat) (least most lo hi:Int) (a:Nat) (after:List Bool) (n:Nat):Bool:=match readsN t (3 - a) n with
 |true=>match a with
  |0=>true
  |_=>goR least most lo hi n 0 after
 |false=>false
theorem canF_eq {t:Nat} {least most:Int} {G:List (Int×Int)} {a:Nat} {after:List Bool} {n:Nat} (h:a≠0→after.length=100):canF t least most (lo3 G (3 - a)) (hi3 G (3 - a)) a after n=canB t least most G a after n:=by
 unfold canF canB
 rw [readsN_eq]
 cases readsM t (3 - a) n
 ·rfl
 ·cases a with
  |zero=>rfl
  |succ a=>simp only [Bool.true_and]; rw [goR_eq (h (by omega))]; rfl
def canG (t:Nat) (least most lo hi:Int) (a:Nat) (after:List Bool):List Bool:=(List.range 100).map fun n=>match n with|0=>false|n+1=>canF t least most lo hi a after (n+1)
theorem canG_eq {t:Nat} {least most:Int} {G:List (Int×Int)} {a:Nat} {after:List Bool} (h:a≠0→after.length=100):canG t least most (lo3 G (3 - a)) (hi3 G (3 - a)) a after=canRow t least most G a after:=by
 unfold canG canRow
 refine List.map_congr_left fun n _=>?_
 cases n with
 |zero=>rfl
 |succ n=>simp only; rw [canF_eq h]; rfl
def rowP (l:List Bool):GObj:=.arr { cells:=l.map .bool,ty:=4 }
theorem rowP_eq (t least most:Int) (G:List (Int×Int)) (a:Nat):rowO t least most G a=rowP (canR t least most G a):=by
 unfold rowO rowP; rw [encB_flat]
def fin4 (H:GH) (line:List Value) (t:Nat) (r0 r1 r2 r3:List Bool):FR:=
 .val (.agg ⟨line++ [.int .i64 t,.slice (some (ga (H.next+2) 0 0)) 4 1]⟩) (reachedH H line (.int .i64 t) (rowP r0) (rowP r1) (rowP r2) (rowP r3))
def fin3 (H:GH) (line:List Value) (t:Nat) (least most lo hi:Int) (r0 r1 r2:List Bool):FR:=fin4 H line t r0 r1 r2 (canG t least most lo hi 3 r2)
def fin2 (H:GH) (line:List Value) (t:Nat) (least most l0 h0 l1 h1:Int) (r0 r1:List Bool):FR:=fin3 H line t least most l0 h0 r0 r1 (canG t least most l1 h1 2 r1)
def fin1 (H:GH) (line:List Value) (t:Nat) (least most l0 h0 l1 h1 l2 h2:Int) (r0:List Bool):FR:=fin2 H line t least most l0 h0 l1 h1 r0 (canG t least most l2 h2 1 r0)
def isK (H:GH) (mk:Addr) (k:Nat):Bool:=match H.read (ea mk k 2 0) 2 with
 |some cs=>match markK cs with|some k'=>Nat.beq k k'|none=>false
 |none=>false
theorem isK_ok {H:GH} {mk:Addr} {k:Nat} (h:isK H mk k=true):H.read (ea mk k 2 0) 2=some (match markV k with| .agg cs=>cs.toList|_=> []):=by
 unfold isK at h
 split at h
 ·rename_i cs hcs
  split at h
  ·rename_i k' hk
   cases Nat.eq_of_beq_eq_true h
   rw [hcs,←(markK_ok hk).2]
  ·cases h
 ·cases h
def oReach3 (H:GH) (t:Nat) (line:List Value) (least most:Int):Option (List Value)→Option (List Value)→Option (List Value)→FR
 |some [.int .i64 l0,.int .i64 h0],some [.int .i64 l1,.int .i64 h1],some [.int .i64 l2,.int .i64 h2]=>fin1 H line t least most l0 h0 l1 h1 l2 h2 (canG t least most 0 0 0 [])
 |_,_,_=>.bad
def oReach2 (H:GH) (t:Nat) (line:List Value):List Value→FR
 | [.int .i64 least,.int .i64 most,.int .i64 _,.int .i64 _,.slice (some mk) 4 _,.slice (some g) 3 _]=>
  if ((t=50∨t=51∨t=52)∧0≤least∧least≤1000∧0≤most∧most≤1000∧mk.block<H.next∧g.block<H.next)∧isK H mk 0=true∧isK H mk 1=true∧isK H mk 2=true∧isK H mk 3=true then
   oReach3 H t line least most (H.read (ea g 0 2 0) 2) (H.read (ea g 1 2 0) 2) (H.read (ea g 2 2 0) 2) else .bad
 |_=>.bad
def oReach:FRec→List Value→GH→FR
 |_,[.agg cs,.int .i64 (.ofNat t)],H=>oReach2 H t cs.toList cs.toList
 |_,_,_=>.bad
theorem oReach_ok {rec:FRec} {args:List Value} {H:GH} (hfx:FxOk H.fx) {res:FR} (h:oReach rec args H=res):res=.bad∨∃v H1,res=.val v H1∧C 168 args H v H1∧∃line turn r0 r1 r2 r3,H1=reachedH H line turn (.arr r0) (.arr r1) (.arr r2) (.arr r3):=by
 unfold oReach at h
 split at h
 case h_2=>exact .inl h.symm
 rename_i cs t
 obtain ⟨cl⟩:=cs
 simp only at h
 unfold oReach2 at h
 split at h
 case h_2=>exact .inl h.symm
 rename_i least most tl th mk fm g fg
 split at h
 case isFalse=>exact .inl h.symm
 rename_i hc
 obtain ⟨⟨c1,c2,c3,c4,c5,c6,c7⟩,k0,k1,k2,k3⟩:=hc
 unfold oReach3 at h
 split at h
 case h_2=>exact .inl h.symm
 rename_i l0 h0 l1 h1 l2 h2 g0 g1 g2
 let G:List (Int×Int):= [(l0,h0),(l1,h1),(l2,h2)]
 have key:=reached_exact hfx (t:=(t:Int)) (by omega) least most tl th ⟨c2,c3⟩ ⟨c4,c5⟩ mk g fm fg c6 (fun k hk=>by
  have hk':k=0∨k=1∨k=2∨k=3:=by omega
  rcases hk' with rfl|rfl|rfl|rfl
  ·exact isK_ok k0
  ·exact isK_ok k1
  ·exact isK_ok k2
  ·exact isK_ok k3) c7 G rfl (fun k hk=>by
  have hk':k=0∨k=1∨k=2:=by omega
  rcases hk' with rfl|rfl|rfl
  ·exact g0
  ·exact g1
  ·exact g2)
 have e0:canG t least most 0 0 0 []=canR t least most G 0:=canG_eq (G:=G) (a:=0) (fun h=>absurd rfl h)
 have e1:canG t least most l2 h2 1 (canR t least most G 0)=canR t least most G 1:=canG_eq (G:=G) (a:=1) (fun _=>canR_len ..)
 have e2:canG t least most l1 h1 2 (canR t least most G 1)=canR t least most G 2:=canG_eq (G:=G) (a:=2) (fun _=>canR_len ..)
 have e3:canG t least most l0 h0 3 (canR t least most G 2)=canR t least most G 3:=canG_eq (G:=G) (a:=3) (fun _=>canR_len ..)
 unfold fin1 fin2 fin3 fin4 at h
 rw [e0,e1,e2,e3] at h
 refine .inr ⟨_,_,h.symm,?_,_,_,_,_,_,_,rfl⟩
 rw [rowP_eq,rowP_eq,rowP_eq,rowP_eq] at key
 exact key
def env3 (fx:List (Nat×Obj)):FEnv:=⟨T,F,((((Tr.nil.set 180 oItoa).set 176 oGoes).set 121 oAtt).set 175 oReads).set 168 oReach,fx⟩
theorem orc3_cases {f:Nat} {o:FRec→List Value→GH→FR} {fx:List (Nat×Obj)} (h:(env3 fx).O.get f=some o):(f=168∧o=oReach)∨(f=175∧o=oReads)∨(f=121∧o=oAtt)∨(f=176∧o=oGoes)∨(f=180∧o=oItoa):=by
 unfold env3 at h
 simp only at h
 by_cases h0:f=168
 ·subst h0; rw [Tr.get_set_same] at h; cases h; exact .inl ⟨rfl,rfl⟩
 rw [Tr.get_set_ne _ _ h0] at h
 exact .inr (orc2_cases (fx:=fx) h)
theorem env3_ok {fx:List (Nat×Obj)} (hfx:FxOk fx):EnvOk Tryz.prog (env3 fx) where
 tab:=tok
 mix:=mix
 fn:=fnF
 orc:=by
  intro f o ho rec rk args H hL
  rcases orc3_cases ho with ⟨rfl,rfl⟩|⟨rfl,rfl⟩|⟨rfl,rfl⟩|⟨rfl,rfl⟩|⟨rfl,rfl⟩
  ·have key:∀res:FR,oReach rec args H=res→(∀v H',res=.val v H'→GCall Tryz.prog 168 args H (fun x h=>x=.ret v∧h=H')∧Loops (env3 fx) H')∧(∀v H',res=.pan v H'→GCall Tryz.prog 168 args H (fun x h=>x=.pan v∧h=H')∧Loops (env3 fx) H'):=by
    intro res hres
    rcases oReach_ok (by rw [hL.2]; exact hfx) hres with rfl|⟨v,H1,rfl,hc,line,turn,r0,r1,r2,r3,rfl⟩
    ·exact ⟨fun _ _ h=>(by cases h),fun _ _ h=>(by cases h)⟩
    ·refine ⟨fun v' H' h=>?_,fun _ _ h=>(by cases h)⟩
     cases h
     exact ⟨hc,(((((((hL.push _ (fun _ _ hc=>by cases hc)).push _ (fun _ _ hc=>by cases hc)).push _ (fun _ _ hc=>by cases hc)).push _ (fun _ _ hc=>by cases hc)).push _ (fun _ _ hc=>by cases hc)).push _ (fun _ _ hc=>by cases hc)).push _ (fun _ _ hc=>by cases hc)).push _ (fun _ _ hc=>by cases hc)⟩
   exact key _ rfl
  ·have key:∀res:FR,oReads rec args H=res→(∀v H',res=.val v H'→GCall Tryz.prog 175 args H (fun x h=>x=.ret v∧h=H')∧Loops (env3 fx) H')∧(∀v H',res=.pan v H'→GCall Tryz.prog 175 args H (fun x h=>x=.pan v∧h=H')∧Loops (env3 fx) H'):=by
    intro res hres
    rcases oReads_ok (by rw [hL.2]; exact hfx) hres with rfl|⟨v,rfl,hc⟩
    ·exact ⟨fun _ _ h=>(by cases h),fun _ _ h=>(by cases h)⟩
    ·refine ⟨fun v' H' h=>?_,fun _ _ h=>(by cases h)⟩
     cases h
     exact ⟨hc,hL⟩
   exact key _ rfl
  ·have key:∀res:FR,oAtt rec args H=res→(∀v H',res=.val v H'→GCall Tryz.prog 121 args H (fun x h=>x=.ret v∧h=H')∧Loops (env3 fx) H')∧(∀v H',res=.pan v H'→GCall Tryz.prog 121 args H (fun x h=>x=.pan v∧h=H')∧Loops (env3 fx) H'):=by
    intro res hres
    unfold oAtt at hres
    split at hres
    ·rename_i g a b
     have hL2:Loops (env3 fx) (H.push box31):=hL.push _ (fun _ _ hc=>by cases hc)
     cases hc:rec (.call g (a.toList++b.toList)) (H.push box31) with
     |val v1 H1=>
      rw [hc] at hres
      unfold oAtt2 at hres
      simp only at hres
      split at hres
      ·rename_i hchk
       simp only [Bool.and_eq_true] at hchk
       subst hres
       obtain ⟨h1,h2⟩:=rk.callV _ _ _ _ _ hL2 hc
       refine ⟨fun v H' hv=>?_,fun v H' hv=>(by cases hv)⟩
       cases hv
       refine ⟨latt_con (h1.mono ?_),h2.put _ _ (fun _ _ hc=>by cases hc)⟩
       rintro x h ⟨rfl,rfl⟩
       exact ⟨Nat.le_of_ble_eq_true hchk.2,chkBox_ok hchk.1,rfl,rfl⟩
      ·subst hres; exact ⟨fun _ _ h=>(by cases h),fun _ _ h=>(by cases h)⟩
     |_=>rw [hc] at hres; simp only [oAtt2] at hres; subst hres; exact ⟨fun _ _ h=>(by cases h),fun _ _ h=>(by cases h)⟩
    ·subst hres; exact ⟨fun _ _ h=>(by cases h),fun _ _ h=>(by cases h)⟩
   exact key _ rfl
  ·have key:∀res:FR,oGoes rec args H=res→(∀v H',res=.val v H'→GCall Tryz.prog 176 args H (fun x h=>x=.ret v∧h=H')∧Loops (env3 fx) H')∧(∀v H',res=.pan v H'→GCall Tryz.prog 176 args H (fun x h=>x=.pan v∧h=H')∧Loops (env3 fx) H'):=by
    intro res hres
    rcases oGoes_ok hres with rfl|⟨v,rfl,hc⟩
    ·exact ⟨fun _ _ h=>(by cases h),fun _ _ h=>(by cases h)⟩
    ·refine ⟨fun v' H' h=>?_,fun _ _ h=>(by cases h)⟩
     cases h
     exact ⟨hc,hL⟩
   exact key _ rfl
  ·have key:∀res:FR,oItoa rec args H=res→(∀v H',res=.val v H'→GCall Tryz.prog 180 args H (fun x h=>x=.ret v∧h=H')∧Loops (env3 fx) H')∧(∀v H',res=.pan v H'→GCall Tryz.prog 180 args H (fun x h=>x=.pan v∧h=H')∧Loops (env3 fx) H'):=by
    intro res hres
    unfold oItoa at hres
    split at hres
    ·split at hres
     ·rename_i hc
      subst hres
      refine ⟨fun v H' hv=>?_,fun v H' hv=>(by cases hv)⟩
      cases hv
      exact ⟨itoa_con (by rw [hL.2]; exact hfx) _ hc.1 hc.2,hL⟩
     ·subst hres; exact ⟨fun _ _ h=>(by cases h),fun _ _ h=>(by cases h)⟩
    ·subst hres; exact ⟨fun _ _ h=>(by cases h),fun _ _ h=>(by cases h)⟩
   exact key _ rfl
end
end Go.Gm.Tryz
end
section
namespace Go.Gm.Tryz
open Go.Proofs
noncomputable section
def isT:FR→Bool
 | .val (.bool true) _=>true
 |_=>false
theorem k11 (fx:List (Nat×Obj)):isT (frun (env3 fx) 3000 (.call 6 []) (GH.emp fx))=true:=by kernel_rfl
theorem isT_ok {r:FR} (h:isT r=true):∃H,r=.val (.bool true) H:=by
 unfold isT at h
 split at h
 ·exact ⟨_,rfl⟩
 ·cases h
theorem known11_con (H:GH) (hfx:FxOk H.fx):C 6 [] H (.bool true) H:=by
 refine GCall.closed rfl rfl H ?_
 obtain ⟨Hc,hres⟩:=isT_ok (k11 H.fx)
 exact ((frun_ok (env3_ok hfx) 3000).callV 6 [] (GH.emp H.fx) _ _ ⟨fun g lr tm hg=>(by simp [GH.get,GH.emp] at hg),rfl⟩ hres).1.mono fun x h hx=>hx.1
end
end Go.Gm.Tryz
end
end
